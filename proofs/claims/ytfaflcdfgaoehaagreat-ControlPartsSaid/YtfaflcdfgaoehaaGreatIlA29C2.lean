/-
  A part of the proof: rules and plain facts. No condition.
-/
import Derived.Test.YtfaflcdfgaoehaaGreatProg
import Derived.KernelRfl
import Derived.Test.YtfaflcdfgaoehaaGreatIlA29D
import Derived.Test.YtfaflcdfgaoehaaGreatIlA29C1
set_option linter.all false
set_option maxRecDepth 8000
set_option maxHeartbeats 2000000
open Go Go.IL Go.Fn Go.Proofs
namespace Go.Proofs.YtfaflcdfgaoehaaGreat
theorem ti34 : TI Tryz.prog 34 (some (.int .i64 0)) 1 8:=by unfold TI; kernel_rfl
theorem ti36 : TI Tryz.prog 36 (some (.agg #[.string ⟨#[]⟩,.int .i64 0,.int .i64 0])) 3 32:=by unfold TI; kernel_rfl
theorem ag34 : gF Tryz.prog 34 = false:=by kernel_rfl
theorem ag36 : gF Tryz.prog 36 = true:=by kernel_rfl
theorem ex92 : aAF Tryz.prog 92 (Extern.SlicesOverlaps.overlaps #[24,24] #[4]):=⟨Tryz.f92,Tryz.func92,by kernel_rfl,by kernel_rfl,by kernel_rfl,by kernel_rfl⟩
theorem pl165 : ∀ w,(Array.mapM (m:=Sem) (fun (f : Field)=>Functor.map (Prod.mk f.offset) (sizeOf f.type)) (fieldsOf Tryz.prog 165)).run Tryz.prog w = .ok #[(0,1),(1,1)] w:=fun w=>by kernel_rfl
theorem pl50 : ∀ w,(Array.mapM (m:=Sem) (fun (f : Field)=>Functor.map (Prod.mk f.offset) (sizeOf f.type)) (fieldsOf Tryz.prog 50)).run Tryz.prog w = .ok #[(0,1),(1,1),(2,1),(3,1),(4,1),(5,1),(6,1),(7,1),(8,1),(9,1)] w:=fun w=>by kernel_rfl
theorem pl52 : ∀ w,(Array.mapM (m:=Sem) (fun (f : Field)=>Functor.map (Prod.mk f.offset) (sizeOf f.type)) (fieldsOf Tryz.prog 52)).run Tryz.prog w = .ok #[(0,1),(1,1),(2,1),(3,1)] w:=fun w=>by kernel_rfl
theorem aD1 : Tryz.prog.stoodInHeld 136 = false ∧ Tryz.prog.eqGuardType Tryz.prog.depth 136 = false:=⟨by kernel_rfl,by kernel_rfl⟩
theorem cl16 : bF Tryz.prog 16:=⟨Tryz.f16,Tryz.func16,rfl,rfl⟩
theorem cl21 : bF Tryz.prog 21:=⟨Tryz.f21,Tryz.func21,rfl,rfl⟩
theorem cl22 : bF Tryz.prog 22:=⟨Tryz.f22,Tryz.func22,rfl,rfl⟩
theorem cl23 : bF Tryz.prog 23:=⟨Tryz.f23,Tryz.func23,rfl,rfl⟩
theorem cl24 : bF Tryz.prog 24:=⟨Tryz.f24,Tryz.func24,rfl,rfl⟩
theorem cl25 : bF Tryz.prog 25:=⟨Tryz.f25,Tryz.func25,rfl,rfl⟩
theorem cl26 : bF Tryz.prog 26:=⟨Tryz.f26,Tryz.func26,rfl,rfl⟩
theorem cl27 : bF Tryz.prog 27:=⟨Tryz.f27,Tryz.func27,rfl,rfl⟩
theorem cl39 : bF Tryz.prog 39:=⟨Tryz.f39,Tryz.func39,rfl,rfl⟩
theorem cl40 : bF Tryz.prog 40:=⟨Tryz.f40,Tryz.func40,rfl,rfl⟩
theorem cl41 : bF Tryz.prog 41:=⟨Tryz.f41,Tryz.func41,rfl,rfl⟩
theorem cl46 : bF Tryz.prog 46:=⟨Tryz.f46,Tryz.func46,rfl,rfl⟩
theorem cl47 : bF Tryz.prog 47:=⟨Tryz.f47,Tryz.func47,rfl,rfl⟩
theorem cl48 : bF Tryz.prog 48:=⟨Tryz.f48,Tryz.func48,rfl,rfl⟩
theorem cl49 : bF Tryz.prog 49:=⟨Tryz.f49,Tryz.func49,rfl,rfl⟩
theorem cl50 : bF Tryz.prog 50:=⟨Tryz.f50,Tryz.func50,rfl,rfl⟩
theorem cl53 : bF Tryz.prog 53:=⟨Tryz.f53,Tryz.func53,rfl,rfl⟩
theorem cl56 : bF Tryz.prog 56:=⟨Tryz.f56,Tryz.func56,rfl,rfl⟩
theorem cl57 : bF Tryz.prog 57:=⟨Tryz.f57,Tryz.func57,rfl,rfl⟩
theorem cl58 : bF Tryz.prog 58:=⟨Tryz.f58,Tryz.func58,rfl,rfl⟩
theorem cl74 : bF Tryz.prog 74:=⟨Tryz.f74,Tryz.func74,rfl,rfl⟩
theorem cl79 : bF Tryz.prog 79:=⟨Tryz.f79,Tryz.func79,rfl,rfl⟩
theorem cl80 : bF Tryz.prog 80:=⟨Tryz.f80,Tryz.func80,rfl,rfl⟩
theorem cl81 : bF Tryz.prog 81:=⟨Tryz.f81,Tryz.func81,rfl,rfl⟩
theorem cl83 : bF Tryz.prog 83:=⟨Tryz.f83,Tryz.func83,rfl,rfl⟩
theorem cl85 : bF Tryz.prog 85:=⟨Tryz.f85,Tryz.func85,rfl,rfl⟩
theorem cl86 : bF Tryz.prog 86:=⟨Tryz.f86,Tryz.func86,rfl,rfl⟩
theorem cl94 : bF Tryz.prog 94:=⟨Tryz.f94,Tryz.func94,rfl,rfl⟩
theorem cl95 : bF Tryz.prog 95:=⟨Tryz.f95,Tryz.func95,rfl,rfl⟩
theorem cl96 : bF Tryz.prog 96:=⟨Tryz.f96,Tryz.func96,rfl,rfl⟩
theorem cl108 : bF Tryz.prog 108:=⟨Tryz.f108,Tryz.func108,rfl,rfl⟩
theorem cl109 : bF Tryz.prog 109:=⟨Tryz.f109,Tryz.func109,rfl,rfl⟩
theorem cl115 : bF Tryz.prog 115:=⟨Tryz.f115,Tryz.func115,rfl,rfl⟩
theorem cl116 : bF Tryz.prog 116:=⟨Tryz.f116,Tryz.func116,rfl,rfl⟩
theorem cl117 : bF Tryz.prog 117:=⟨Tryz.f117,Tryz.func117,rfl,rfl⟩
def la36:=LA.mk Tryz.underlying36 ag36 ti36 (by decide)


theorem wP (a0 : Int) (r : Bool) (h : lX a0 = some r) : cD Tryz.prog 116 [.int .u8 a0] (.bool r):=by
 refine bA (rs:=[.bool r]) Tryz.func116 rfl Tryz.ntmps116 (nle rfl) rfl fun O hO=>?_
 show IWP _ _ _ _ ⟨[(0,.int .u8 a0)],[]⟩ _
 unfold lX at h
 refine aC (aA rfl (aE rfl rfl (lb rfl) (sv (d:=.bool false) rfl)) <|aB ?_)
 refine aV ?_
 refine aC (aA rfl (mvI rfl rfl rfl rfl) <|aB ?_)
 refine bG ?_
 refine aV ?_
 obtain ⟨x1,hx1,h⟩:=aR h
 refine aC (aA rfl (aP rfl rfl (lb rfl) (svI rfl) (sv (d:=.int _ 0) rfl) rfl hx1) <|aA rfl (asB rfl rfl rfl rfl) <|aB ?_)
 refine aT (b:=_) rfl (fun hc2=>?_) (fun hc2=>?_)
 ·
  replace h:=bT h hc2
  refine aU ?_
  refine aN ?_
  refine fK rfl hc2 ?_
  refine aC (aA rfl (aE rfl rfl (lb rfl) (sv (d:=.bool true) rfl)) <|aB ?_)
  refine aS ?_
  refine bP ?_
  refine aZ ?_
  obtain rfl:=Option.some.inj h
  refine ⟨.inr rfl,(.cons (sv rfl) .nil)⟩
 ·
  replace h:=bU h hc2
  obtain ⟨x3,hx3,h⟩:=aR h
  refine aC (aA rfl (aP rfl rfl (lb rfl) (svI rfl) (sv (d:=.int _ 1) rfl) rfl hx3) <|aA rfl (asB rfl rfl rfl rfl) <|aB ?_)
  refine aT (b:=_) rfl (fun hc4=>?_) (fun hc4=>?_)
  ·
   replace h:=bT h hc4
   refine aU ?_
   refine aN ?_
   refine fK rfl hc4 ?_
   refine aC (aA rfl (aE rfl rfl (lb rfl) (sv (d:=.bool true) rfl)) <|aB ?_)
   refine aS ?_
   refine bP ?_
   refine aZ ?_
   obtain rfl:=Option.some.inj h
   refine ⟨.inr rfl,(.cons (sv rfl) .nil)⟩
  ·
   replace h:=bU h hc4
   obtain ⟨x5,hx5,h⟩:=aR h
   refine aC (aA rfl (aP rfl rfl (lb rfl) (svI rfl) (sv (d:=.int _ 2) rfl) rfl hx5) <|aA rfl (asB rfl rfl rfl rfl) <|aB ?_)
   refine aT (b:=_) rfl (fun hc6=>?_) (fun hc6=>?_)
   ·
    replace h:=bT h hc6
    refine aU ?_
    refine aN ?_
    refine fK rfl hc6 ?_
    refine aC (aA rfl (aE rfl rfl (lb rfl) (sv (d:=.bool true) rfl)) <|aB ?_)
    refine aS ?_
    refine bP ?_
    refine aZ ?_
    obtain rfl:=Option.some.inj h
    refine ⟨.inr rfl,(.cons (sv rfl) .nil)⟩
   ·
    replace h:=bU h hc6
    obtain ⟨x7,hx7,h⟩:=aR h
    refine aC (aA rfl (aP rfl rfl (lb rfl) (svI rfl) (sv (d:=.int _ 4) rfl) rfl hx7) <|aA rfl (asB rfl rfl rfl rfl) <|aB ?_)
    refine aT (b:=_) rfl (fun hc8=>?_) (fun hc8=>?_)
    ·
     replace h:=bT h hc8
     refine aU ?_
     refine aN ?_
     refine fK rfl hc8 ?_
     refine aC (aA rfl (aE rfl rfl (lb rfl) (sv (d:=.bool true) rfl)) <|aB ?_)
     refine aS ?_
     refine bP ?_
     refine aZ ?_
     obtain rfl:=Option.some.inj h
     refine ⟨.inr rfl,(.cons (sv rfl) .nil)⟩
    ·
     replace h:=bU h hc8
     obtain ⟨x9,hx9,h⟩:=aR h
     refine aC (aA rfl (aP rfl rfl (lb rfl) (svI rfl) (sv (d:=.int _ 6) rfl) rfl hx9) <|aA rfl (asB rfl rfl rfl rfl) <|aB ?_)
     refine aT (b:=_) rfl (fun hc10=>?_) (fun hc10=>?_)
     ·
      replace h:=bT h hc10
      refine aU ?_
      refine aN ?_
      refine fK rfl hc10 ?_
      refine aC (aA rfl (aE rfl rfl (lb rfl) (sv (d:=.bool true) rfl)) <|aB ?_)
      refine aS ?_
      refine bP ?_
      refine aZ ?_
      obtain rfl:=Option.some.inj h
      refine ⟨.inr rfl,(.cons (sv rfl) .nil)⟩
     ·
      replace h:=bU h hc10
      obtain ⟨x11,hx11,h⟩:=aR h
      refine bD (aA rfl (aP rfl rfl (lb rfl) (svI rfl) (sv (d:=.int _ 9) rfl) rfl hx11) <|aA rfl (asB rfl rfl rfl rfl) <|bW ?_)
      refine aN ?_
      refine aT (b:=_) rfl (fun hc12=>?_) (fun hc12=>?_)
      ·
       replace h:=bT h hc12
       refine aC (aA rfl (aE rfl rfl (lb rfl) (sv (d:=.bool true) rfl)) <|aB ?_)
       refine aS ?_
       refine bP ?_
       refine aZ ?_
       obtain rfl:=Option.some.inj h
       refine ⟨.inr rfl,(.cons (sv rfl) .nil)⟩
      ·
       replace h:=bU h hc12
       refine aU ?_
       refine bZ ?_
       refine aN ?_
       refine aC (aA rfl (aE rfl rfl (lb rfl) (sv (d:=.bool false) rfl)) <|aB ?_)
       refine aS ?_
       obtain rfl:=Option.some.inj h
       refine ⟨.inr rfl,(.cons (sv rfl) .nil)⟩

theorem tH (a0 : aH) (r : aH) (h : jU a0 = some r) : cD Tryz.prog 81 [.agg (v1 a0)] (.agg (v1 r)) := by
 refine bA (rs:=[.agg (v1 r)]) Tryz.func81 rfl Tryz.ntmps81 (nle rfl) rfl fun O hO=>?_
 show IWP _ _ _ _ ⟨[(0,.agg (v1 a0))],[]⟩ _
 unfold jU at h
 refine aC (aA rfl (bR (cs:=q10) 0 rfl rfl (lb rfl) rfl (svA q10 rfl) rfl rfl) <|aA rfl (bJ (cs:=q11) (cs':=(w37 0 false 0 0 0 0 0 0 ([] : List bK) [])) 1 rfl rfl (lb rfl) rfl ti50 rfl rfl (.k4 (.k4 (.cons (.nils _) (.all _))))) <|aB ?_)
 refine aV ?_
 obtain ⟨x1,hx1,h⟩:=aY h
 refine aC (aA rfl (dU (r':=.osl 2 (eRef 0).sz x1.length) (H1':=[(0,.blk 50 (v1 a0)),(2,.blk 150 (D.flat (x1.map (eRef 0).d)))]) 2 [0] rfl rfl (lb rfl) cl82 (.cons (svR rfl) .nil) rfl rfl ⟨rfl,rfl,by decide,rfl,List.forall_mem_cons.2 ⟨⟨rfl,rfl,rfl,rfl⟩,List.forall_mem_nil _⟩⟩ (jL _ _ hx1) rfl rfl (List.forall_mem_cons.2 ⟨⟨rfl,rfl⟩,List.forall_mem_cons.2 ⟨⟨rfl,(aDZ rfl)⟩,List.forall_mem_nil _⟩⟩) (by simp only [List.map_cons,List.map_nil,Ent.ren,eS,fH]; rfl)) <|aA rfl (oH rfl rfl (lb rfl) Tryz.underlying148 (sv (d:=.osl _ _ _) rfl)) <|aA rfl (aK rfl rfl (lb rfl) (sv (d:=.int _ 0) rfl)) <|aB ?_)
 refine bG ?_
 refine cW (α:=Nat × Int × Int × Int × Int × Int × Int × Int) (fun z=>⟨[(1,.ref 0 0),(2,.ref 1 0),(5,.osl 2 (eRef 0).sz x1.length),(6,.int .i64 (x1.length : Int)),(7,.int .i64 z.2.1)],[(0,.blk 50 (w37 a0.Kind a0.Flag z.2.2.1 z.2.2.2.1 z.2.2.2.2.1 z.2.2.2.2.2.1 z.2.2.2.2.2.2.1 z.2.2.2.2.2.2.2 a0.Pairs a0.Data)),(1,.blk 50 (w37 0 false 0 0 0 0 0 0 ([] : List bK) [])),(2,.blk 150 (D.flat (x1.map (eRef 0).d)))]⟩) (fun z=>eD a0 x1 z.1 z.2.1 z.2.2.1 z.2.2.2.1 z.2.2.2.2.1 z.2.2.2.2.2.1 z.2.2.2.2.2.2.1 z.2.2.2.2.2.2.2 = some r) (fun z=>z.1) (fuel,0,a0.Stream,a0.Offset,a0.Dep,a0.Weight,a0.N,a0.Code) (fun i=>i) ⟨(.sames rfl rfl),(.cons (.blk rfl rfl rfl) (.cons (.blk rfl rfl rfl) (.cons (EntW.lstR rfl rfl) .nil))),bX [0,1,2] rfl (by decide),fun _ _=>rfl⟩ ?_ ?_
 ·exact h
 ·
  rintro ⟨n0,v8,v9,v10,v11,v12,v13,v14⟩ h
  cases n0 with
  | zero=>exact absurd h (by unfold eD; exact nofun)
  | succ n0 =>
   unfold eD at h
   obtain ⟨x21,hx21,h⟩:=aR h
   refine aC (aA rfl (aP rfl rfl (lb rfl) (svI rfl) (svI rfl) rfl hx21) <|aB ?_)
   refine aV ?_
   refine aT (b:=_) rfl (fun hc22=>?_) (fun hc22=>?_)
   ·
    replace h:=bT h hc22
    refine aU ?_
    refine aN ?_
    refine aV ?_
    refine bG ?_
    obtain ⟨x23,hx23,h⟩:=aY h
    obtain ⟨x24,hx24,h⟩:=aY h
    refine aC (aA rfl (jN (eRef 0) rfl rfl (lb rfl) Tryz.underlying148 nF (sv (d:=.osl _ _ _) rfl) rfl (svI rfl) hx23) <|aA rfl (kR (eRef 0) (d:=.ref _ _) rfl rfl (lb rfl) Tryz.underlying150 ag150 nF (by decide) (svR rfl) rfl hx24 (nle rfl) rfl) <|aA rfl (aE rfl rfl (lb rfl) (svR rfl)) <|aB ?_)
    obtain ⟨x25,hx25,h⟩:=aY h
    refine bD (aA rfl (mvR rfl rfl rfl rfl) <|aA rfl (bM rfl rfl (lb rfl) (svR rfl)) <|aA rfl (tP (cs':=(w37 a0.Kind a0.Flag (bif Nat.beq x24 2 then 0 else v9) (bif Nat.beq x24 3 then 0 else v10) (bif Nat.beq x24 4 then 0 else v11) (bif Nat.beq x24 5 then 0 else v12) (bif Nat.beq x24 6 then 0 else v13) (bif Nat.beq x24 7 then 0 else v14) a0.Pairs a0.Data)) rfl rfl ti3 (svR rfl) rfl (sv (d:=.int _ 0) rfl) hx25 rfl) <|bW ?_)
    refine bZ ?_
    refine aN ?_
    obtain ⟨x26,hx26,h⟩:=aR h
    refine bD (aA rfl (bL rfl rfl (lb rfl) (svI rfl) (sv (d:=.int _ 1) rfl) rfl hx26) <|aA rfl (mvI rfl rfl rfl rfl) <|bW ?_)
    refine aN ⟨(n0,x26,(bif Nat.beq x24 2 then 0 else v9),(bif Nat.beq x24 3 then 0 else v10),(bif Nat.beq x24 4 then 0 else v11),(bif Nat.beq x24 5 then 0 else v12),(bif Nat.beq x24 6 then 0 else v13),(bif Nat.beq x24 7 then 0 else v14)),(fun i=>i),⟨(.sames rfl rfl),(.cons (.blk rfl rfl rfl) (.cons (.blk rfl rfl rfl) (.cons (EntW.lstR rfl rfl) .nil))),bX [0,1,2] rfl (by decide),fun _ _=>rfl⟩,?_,?_⟩
    exact h
    exact Nat.lt_succ_self _
   ·
    replace h:=bU h hc22
    refine cN ?_
    refine bI ?_
    refine bI ?_
    refine cO ?_
    refine aN ?_
    refine gK (α:=(List bK) × (List UInt8)) (fun z=>⟨[(1,.ref 0 0),(2,.ref 1 0)],[(0,.blk 50 (w37 a0.Kind a0.Flag v9 v10 v11 v12 v13 v14 z.1 z.2)),(1,.blk 50 (w37 0 false 0 0 0 0 0 0 ([] : List bK) []))]⟩) (fun z=>eQ a0 v9 v10 v11 v12 v13 v14 z.1 z.2 = some r) ?_ ?_
    ·
     refine aC (aA rfl (faR 0 rfl rfl rfl Tryz.underlying50 rfl ti5 (lb rfl) rfl rfl) <|aA rfl (aG (d:=.int _ _) rfl rfl (lb rfl) Tryz.underlying5 ag5 ti5 (by decide) (svR rfl) rfl (nle rfl) rfl) <|aB ?_)
     refine bG ?_
     obtain ⟨x36,hx36,h⟩:=aR h
     refine aC (aA rfl (aP rfl rfl (lb rfl) (svI rfl) (sv (d:=.int _ 0) rfl) rfl hx36) <|aA rfl (asB rfl rfl rfl rfl) <|aB ?_)
     refine aT (b:=_) rfl (fun hc37=>?_) (fun hc37=>?_)
     ·
      replace h:=bT h hc37
      refine bD (aA rfl (faR 9 rfl rfl rfl Tryz.underlying50 rfl ti9 (lb rfl) rfl rfl) <|aA rfl (bQ (ds':=q10) rfl rfl ti9 (svR rfl) rfl (sv (d:=.str []) rfl) rfl rfl rfl (nle rfl) rfl) <|bW ?_)
      refine bZ ?_
      refine aN ⟨(a0.Pairs,([] : (List UInt8))),(fun i=>i),⟨(.sames rfl rfl),(.cons (.blk rfl rfl rfl) (.cons (.blk rfl rfl rfl) .nil)),bX [0,1] rfl (by decide),fun _ _=>rfl⟩,?_⟩
      exact h
     ·
      replace h:=bU h hc37
      obtain ⟨x38,hx38,h⟩:=aR h
      refine aC (aA rfl (aP rfl rfl (lb rfl) (svI rfl) (sv (d:=.int _ 4) rfl) rfl hx38) <|aA rfl (asB rfl rfl rfl rfl) <|aB ?_)
      refine aT (b:=_) rfl (fun hc39=>?_) (fun hc39=>?_)
      ·
       replace h:=bT h hc39
       refine aC (aA rfl (faR 1 rfl rfl rfl Tryz.underlying50 rfl ti4 (lb rfl) rfl rfl) <|aA rfl (aG (d:=.bool _) rfl rfl (lb rfl) Tryz.underlying4 ag4 ti4 (by decide) (svR rfl) rfl (nle rfl) rfl) <|aA rfl (dD rfl rfl (lb rfl) (svB rfl)) <|aB ?_)
       refine aT (b:=_) rfl (fun hc40=>?_) (fun hc40=>?_)
       ·
        replace h:=bT h hc40
        refine bD (aA rfl (faR 8 rfl rfl rfl Tryz.underlying50 rfl ti42 (lb rfl) rfl rfl) <|aA rfl (bQ (ds':=[.int _ _,.bool _,.int _ _,.int _ _,.int _ _,.int _ _,.int _ _,.int _ _,.slice false (([] : List bK).map bN.d),.str _]) rfl rfl ti42 (svR rfl) rfl (svn rfl) rfl rfl rfl (nle rfl) rfl) <|bW ?_)
        refine bZ ?_
        refine aN ⟨(([] : (List bK)),a0.Data),(fun i=>i),⟨(.sames rfl rfl),(.cons (.blk rfl rfl rfl) (.cons (.blk rfl rfl rfl) .nil)),bX [0,1] rfl (by decide),fun _ _=>rfl⟩,?_⟩
        exact h
       ·
        replace h:=bU h hc40
        refine aU ?_
        refine bZ ?_
        refine aN ⟨(a0.Pairs,a0.Data),(fun i=>i),⟨(.sames rfl rfl),(.cons (.blk rfl rfl rfl) (.cons (.blk rfl rfl rfl) .nil)),bX [0,1] rfl (by decide),fun _ _=>rfl⟩,?_⟩
        exact h
      ·
       replace h:=bU h hc39
       refine aU ?_
       refine bZ ?_
       refine aN ⟨(a0.Pairs,a0.Data),(fun i=>i),⟨(.sames rfl rfl),(.cons (.blk rfl rfl rfl) (.cons (.blk rfl rfl rfl) .nil)),bX [0,1] rfl (by decide),fun _ _=>rfl⟩,?_⟩
       exact h
    ·
     rintro ⟨v32,v33⟩ h
     unfold eQ at h
     refine aV ?_
     obtain ⟨x34,hx34,h⟩:=aY h
     refine aC (aA rfl (faR 0 rfl rfl rfl Tryz.underlying50 rfl ti5 (lb rfl) rfl rfl) <|aA rfl (aG (d:=.int _ _) rfl rfl (lb rfl) Tryz.underlying5 ag5 ti5 (by decide) (svR rfl) rfl (nle rfl) rfl) <|aA rfl (aW (r:=.bool _) rfl rfl (lb rfl) cl116 (.cons (svI rfl) .nil) rfl (wP _ _ hx34)) <|aB ?_)
     refine aT (b:=_) rfl (fun hc35=>?_) (fun hc35=>?_)
     ·
      replace h:=bT h hc35
      refine bD (aA rfl (faR 1 rfl rfl rfl Tryz.underlying50 rfl ti4 (lb rfl) rfl rfl) <|aA rfl (bQ (ds':=q10) rfl rfl ti4 (svR rfl) rfl (sv (d:=.bool false) rfl) rfl rfl rfl (nle rfl) rfl) <|bW ?_)
      refine aN ?_
      refine aC (aA rfl (lra q10 la50 rfl rfl rfl rfl rfl (nle rfl) rfl) <|aA rfl (stA q10 q10 ti50 rfl rfl rfl rfl rfl rfl rfl rfl (nle rfl) rfl) <|aB ?_)
      refine aS ?_
      obtain rfl:=Option.some.inj h
      refine ⟨.inr rfl,(.cons (rva la50 rfl rfl (nle rfl) rfl) .nil)⟩
     ·
      replace h:=bU h hc35
      refine aU ?_
      refine aN ?_
      refine aC (aA rfl (lra q10 la50 rfl rfl rfl rfl rfl (nle rfl) rfl) <|aA rfl (stA q10 q10 ti50 rfl rfl rfl rfl rfl rfl rfl rfl (nle rfl) rfl) <|aB ?_)
      refine aS ?_
      obtain rfl:=Option.some.inj h
      refine ⟨.inr rfl,(.cons (rva la50 rfl rfl (nle rfl) rfl) .nil)⟩

theorem mA (a0 : (List bK)) (a1 : (List bK)) (r : Bool) (h : eA a0 a1 = some r) : cD Tryz.prog 115 [.slice false (a0.map bN.d),.slice false (a1.map bN.d)] (.bool r):=by
 refine bA (rs:=[.bool r]) Tryz.func115 rfl Tryz.ntmps115 (nle rfl) rfl fun O hO=>?_
 show IWP _ _ _ _ ⟨[(0,.slice false (a0.map bN.d)),(1,.slice false (a1.map bN.d))],[]⟩ _
 unfold eA at h
 refine aC (aA rfl (aE rfl rfl (lb rfl) (sv (d:=.bool false) rfl)) <|aB ?_)
 refine aV ?_
 obtain ⟨x1,hx1,h⟩:=aR h
 refine aC (aA rfl (mvL rfl rfl rfl rfl) <|aA rfl (cJ bN (l:=a0) rfl rfl (lb rfl) Tryz.underlying42 (svL rfl)) <|aA rfl (mvL rfl rfl rfl rfl) <|aA rfl (cJ bN (l:=a1) rfl rfl (lb rfl) Tryz.underlying42 (svL rfl)) <|aA rfl (aP rfl rfl (lb rfl) (svI rfl) (svI rfl) rfl hx1) <|aB ?_)
 refine aT (b:=_) rfl (fun hc2=>?_) (fun hc2=>?_)
 ·
  replace h:=bT h hc2
  refine aC (aA rfl (aE rfl rfl (lb rfl) (sv (d:=.bool false) rfl)) <|aB ?_)
  refine aS ?_
  refine aZ ?_
  obtain rfl:=Option.some.inj h
  refine ⟨.inr rfl,(.cons (sv rfl) .nil)⟩
 ·
  replace h:=bU h hc2
  refine aU ?_
  refine aN ?_
  refine aV ?_
  refine aC (aA rfl (mvL rfl rfl rfl rfl) <|aA rfl (cJ bN (l:=a0) rfl rfl (lb rfl) Tryz.underlying42 (svL rfl)) <|aA rfl (aK rfl rfl (lb rfl) (sv (d:=.int _ 0) rfl)) <|aB ?_)
  refine bG ?_
  refine cW (α:=Nat × Int) (fun z=>⟨[(0,.slice false (a0.map bN.d)),(1,.slice false (a1.map bN.d)),(12,.int .i64 (a0.length : Int)),(13,.int .i64 z.2)],[]⟩) (fun z=>cZ a0 a1 z.1 z.2 = some r) (fun z=>z.1) (fuel,0) (fun i=>i) ⟨(.sames rfl rfl),.nil,bX [] rfl (by decide),fun _ _=>rfl⟩ ?_ ?_
  ·exact h
  ·
   rintro ⟨n0,v10⟩ h
   cases n0 with
   | zero=>exact absurd h (by unfold cZ; exact nofun)
   | succ n0 =>
    unfold cZ at h
    obtain ⟨x18,hx18,h⟩:=aR h
    refine aC (aA rfl (aP rfl rfl (lb rfl) (svI rfl) (svI rfl) rfl hx18) <|aB ?_)
    refine aV ?_
    refine aT (b:=_) rfl (fun hc19=>?_) (fun hc19=>?_)
    ·
     replace h:=bT h hc19
     refine aU ?_
     refine aN ?_
     refine aV ?_
     refine bG ?_
     refine aC (aA rfl (mvI rfl rfl rfl rfl) <|aA rfl (asI rfl rfl rfl rfl) <|aB ?_)
     obtain ⟨x20,hx20,h⟩:=aY h
     obtain ⟨x21,hx21,h⟩:=aY h
     obtain ⟨x22,hx22,h⟩:=aR h
     refine dG rfl [⟨[0],[],[(16,.slice false (a0.map bN.d))],[]⟩,
      ⟨[5],[],[(17,.int .i64 v10)],[]⟩,
      ⟨[16,17],[],[(18,.fptr [.int .i64 x20.ID,.int .i64 x20.Value])],[]⟩,
      ⟨[18],[],[(19,.agg [.int .i64 x20.ID,.int .i64 x20.Value])],[]⟩,
      ⟨[1],[],[(20,.slice false (a1.map bN.d))],[]⟩,
      ⟨[5],[],[(21,.int .i64 v10)],[]⟩,
      ⟨[20,21],[],[(22,.fptr [.int .i64 x21.ID,.int .i64 x21.Value])],[]⟩,
      ⟨[22],[],[(23,.agg [.int .i64 x21.ID,.int .i64 x21.Value])],[]⟩,
      ⟨[19,23],[],[(24,.bool (!x22))],[]⟩] rfl ?_ (by kernel_rfl) ?_
     ·refine .cons (lop rfl rfl fun S hA=>(aK rfl rfl (lb rfl) (svaL hA rfl rfl))) ?_
      refine .cons (lop rfl rfl fun S hA=>(aK rfl rfl (lb rfl) (svaI hA rfl rfl))) ?_
      refine .cons (lop rfl rfl fun S hA=>(cY bN (cs:=q25) rfl rfl (lb rfl) Tryz.underlying42 qN (svaL hA rfl rfl) (svaI hA rfl rfl) hx20 rfl rfl)) ?_
      refine .cons (lop rfl rfl fun S hA=>(cQ (cs:=q25) rfl rfl (lb rfl) Tryz.underlying136 aCh qN (by decide) (sv (d:=.fptr q25) (agr hA rfl rfl)) (nle rfl) rfl)) ?_
      refine .cons (lop rfl rfl fun S hA=>(aK rfl rfl (lb rfl) (svaL hA rfl rfl))) ?_
      refine .cons (lop rfl rfl fun S hA=>(aK rfl rfl (lb rfl) (svaI hA rfl rfl))) ?_
      refine .cons (lop rfl rfl fun S hA=>(cY bN (cs:=q25) rfl rfl (lb rfl) Tryz.underlying42 qN (svaL hA rfl rfl) (svaI hA rfl rfl) hx21 rfl rfl)) ?_
      refine .cons (lop rfl rfl fun S hA=>(cQ (cs:=q25) rfl rfl (lb rfl) Tryz.underlying136 aCh qN (by decide) (sv (d:=.fptr q25) (agr hA rfl rfl)) (nle rfl) rfl)) ?_
      refine .cons (lop rfl rfl fun S hA=>(wY rfl rfl (lb rfl) Tryz.underlying136 aD1.1 aD1.2 (svaA q25 hA rfl rfl) (svaA q25 hA rfl rfl) (congrArg some hx22))) ?_
      exact .nil
     refine aT (b:=_) rfl (fun hc23=>?_) (fun hc23=>?_)
     ·
      replace h:=bT h hc23
      refine aC (aA rfl (aE rfl rfl (lb rfl) (sv (d:=.bool false) rfl)) <|aB ?_)
      refine aS ?_
      refine bP ?_
      refine aZ ?_
      refine aZ ?_
      refine bP ?_
      refine aZ ?_
      obtain rfl:=Option.some.inj h
      refine ⟨.inr rfl,(.cons (sv rfl) .nil)⟩
     ·
      replace h:=bU h hc23
      refine aU ?_
      refine bZ ?_
      refine aN ?_
      obtain ⟨x24,hx24,h⟩:=aR h
      refine bD (aA rfl (bL rfl rfl (lb rfl) (svI rfl) (sv (d:=.int _ 1) rfl) rfl hx24) <|aA rfl (mvI rfl rfl rfl rfl) <|bW ?_)
      refine aN ⟨(n0,x24),(fun i=>i),⟨(.sames rfl rfl),.nil,bX [] rfl (by decide),fun _ _=>rfl⟩,?_,?_⟩
      exact h
      exact Nat.lt_succ_self _
    ·
     replace h:=bU h hc19
     refine cN ?_
     refine bI ?_
     refine bI ?_
     refine cO ?_
     refine aN ?_
     refine aC (aA rfl (aE rfl rfl (lb rfl) (sv (d:=.bool true) rfl)) <|aB ?_)
     refine aS ?_
     obtain rfl:=Option.some.inj h
     refine ⟨.inr rfl,(.cons (sv rfl) .nil)⟩

theorem aAi (a0 : aH) (a1 : aH) (r : Bool) (h : pG a0 a1 = some r) : cD Tryz.prog 80 [.agg (v1 a0),.agg (v1 a1)] (.bool r):=by
 refine bA (rs:=[.bool r]) Tryz.func80 rfl Tryz.ntmps80 (nle rfl) rfl fun O hO=>?_
 show IWP _ _ _ _ ⟨[(0,.agg (v1 a0)),(1,.agg (v1 a1))],[]⟩ _
 unfold pG at h
 refine aC (aA rfl (bR (cs:=q10) 0 rfl rfl (lb rfl) rfl (svA q10 rfl) rfl rfl) <|aA rfl (bR (cs:=q10) 1 rfl rfl (lb rfl) rfl (svA q10 rfl) rfl rfl) <|aA rfl (aE rfl rfl (lb rfl) (sv (d:=.bool false) rfl)) <|aB ?_)
 refine aV ?_
 obtain ⟨x1,hx1,h⟩:=aR h
 obtain ⟨x2,hx2,h⟩:=aR h
 obtain ⟨x3,hx3,h⟩:=aR h
 obtain ⟨x4,hx4,h⟩:=aY h
 obtain ⟨x5,hx5,h⟩:=aR h
 refine aC (aA rfl (faR 0 rfl rfl rfl Tryz.underlying50 rfl ti5 (lb rfl) rfl rfl) <|aA rfl (aG (d:=.int _ _) rfl rfl (lb rfl) Tryz.underlying5 ag5 ti5 (by decide) (svR rfl) rfl (nle rfl) rfl) <|aA rfl (faR 0 rfl rfl rfl Tryz.underlying50 rfl ti5 (lb rfl) rfl rfl) <|aA rfl (aG (d:=.int _ _) rfl rfl (lb rfl) Tryz.underlying5 ag5 ti5 (by decide) (svR rfl) rfl (nle rfl) rfl) <|aA rfl (aP rfl rfl (lb rfl) (svI rfl) (svI rfl) rfl hx1) <|aA rfl (mvB rfl rfl rfl rfl) <|aF rfl rfl (.one rfl) rfl (by decide) (fun hb=>(faR 1 rfl rfl rfl Tryz.underlying50 rfl ti4 (lb rfl) rfl rfl)) <|aF rfl rfl (.one rfl) rfl (by decide) (fun hb=>(aG (d:=.bool _) rfl rfl (lb rfl) Tryz.underlying4 ag4 ti4 (by decide) (svcR rfl hb) rfl (nle rfl) rfl)) <|aF rfl rfl (.one rfl) rfl (by decide) (fun hb=>(faR 1 rfl rfl rfl Tryz.underlying50 rfl ti4 (lb rfl) rfl rfl)) <|aF rfl rfl (.one rfl) rfl (by decide) (fun hb=>(aG (d:=.bool _) rfl rfl (lb rfl) Tryz.underlying4 ag4 ti4 (by decide) (svcR rfl hb) rfl (nle rfl) rfl)) <|aF rfl rfl (.one rfl) rfl (by decide) (fun hb=>(aEN rfl rfl (lb rfl) Tryz.underlying4 (svcB rfl hb) (svcB rfl hb) hx2)) <|aA rfl (dM rfl rfl (lb rfl) (svB rfl) rfl rfl hx3) <|aA rfl (mvB rfl rfl rfl rfl) <|aF rfl rfl (.one rfl) rfl (by decide) (fun hb=>(faR 8 rfl rfl rfl Tryz.underlying50 rfl ti42 (lb rfl) rfl rfl)) <|aF rfl rfl (.one rfl) rfl (by decide) (fun hb=>(aG (d:=.slice _ _) rfl rfl (lb rfl) Tryz.underlying42 ag42 ti42 (by decide) (svcR rfl hb) rfl (nle rfl) rfl)) <|aF rfl rfl (.one rfl) rfl (by decide) (fun hb=>(faR 8 rfl rfl rfl Tryz.underlying50 rfl ti42 (lb rfl) rfl rfl)) <|aF rfl rfl (.one rfl) rfl (by decide) (fun hb=>(aG (d:=.slice _ _) rfl rfl (lb rfl) Tryz.underlying42 ag42 ti42 (by decide) (svcR rfl hb) rfl (nle rfl) rfl)) <|aF rfl rfl (.one rfl) rfl (by decide) (fun hb=>(aW (r:=.bool _) rfl rfl (lb rfl) cl115 (.cons (svcL rfl hb) (.cons (svcL rfl hb) .nil)) rfl (mA _ _ _ (gd_t hx4 hb)))) <|aF rfl rfl (.one rfl) rfl (by decide) (fun hb=>(dD rfl rfl (lb rfl) (svcB rfl hb))) <|aA rfl (dM rfl rfl (lb rfl) (svB rfl) rfl rfl hx5) <|aB ?_)
 refine aT (b:=_) rfl (fun hc6=>?_) (fun hc6=>?_)
 ·
  replace h:=bT h hc6
  refine aC (aA rfl (aE rfl rfl (lb rfl) (sv (d:=.bool false) rfl)) <|aB ?_)
  refine aS ?_
  refine aZ ?_
  obtain rfl:=Option.some.inj h
  refine ⟨.inr rfl,(.cons (sv rfl) .nil)⟩
 ·
  replace h:=bU h hc6
  refine aU ?_
  refine aN ?_
  obtain ⟨x7,hx7,h⟩:=aR h
  obtain ⟨x8,hx8,h⟩:=aR h
  obtain ⟨x9,hx9,h⟩:=aR h
  obtain ⟨x10,hx10,h⟩:=aR h
  obtain ⟨x11,hx11,h⟩:=aR h
  obtain ⟨x12,hx12,h⟩:=aR h
  obtain ⟨x13,hx13,h⟩:=aR h
  refine aC (aA rfl (faR 2 rfl rfl rfl Tryz.underlying50 rfl ti3 (lb rfl) rfl rfl) <|aA rfl (aG (d:=.int _ _) rfl rfl (lb rfl) Tryz.underlying3 ag3 ti3 (by decide) (svR rfl) rfl (nle rfl) rfl) <|aA rfl (faR 2 rfl rfl rfl Tryz.underlying50 rfl ti3 (lb rfl) rfl rfl) <|aA rfl (aG (d:=.int _ _) rfl rfl (lb rfl) Tryz.underlying3 ag3 ti3 (by decide) (svR rfl) rfl (nle rfl) rfl) <|aA rfl (aP rfl rfl (lb rfl) (svI rfl) (svI rfl) rfl hx7) <|aA rfl (mvB rfl rfl rfl rfl) <|aF rfl rfl (.one rfl) rfl (by decide) (fun hb=>(faR 3 rfl rfl rfl Tryz.underlying50 rfl ti3 (lb rfl) rfl rfl)) <|aF rfl rfl (.one rfl) rfl (by decide) (fun hb=>(aG (d:=.int _ _) rfl rfl (lb rfl) Tryz.underlying3 ag3 ti3 (by decide) (svcR rfl hb) rfl (nle rfl) rfl)) <|aF rfl rfl (.one rfl) rfl (by decide) (fun hb=>(faR 3 rfl rfl rfl Tryz.underlying50 rfl ti3 (lb rfl) rfl rfl)) <|aF rfl rfl (.one rfl) rfl (by decide) (fun hb=>(aG (d:=.int _ _) rfl rfl (lb rfl) Tryz.underlying3 ag3 ti3 (by decide) (svcR rfl hb) rfl (nle rfl) rfl)) <|aF rfl rfl (.one rfl) rfl (by decide) (fun hb=>(aP rfl rfl (lb rfl) (svcI rfl hb) (svcI rfl hb) rfl hx8)) <|aA rfl (bO rfl rfl (lb rfl) (svB rfl) rfl rfl hx9) <|aA rfl (mvB rfl rfl rfl rfl) <|aF rfl rfl (.one rfl) rfl (by decide) (fun hb=>(faR 4 rfl rfl rfl Tryz.underlying50 rfl ti3 (lb rfl) rfl rfl)) <|aF rfl rfl (.one rfl) rfl (by decide) (fun hb=>(aG (d:=.int _ _) rfl rfl (lb rfl) Tryz.underlying3 ag3 ti3 (by decide) (svcR rfl hb) rfl (nle rfl) rfl)) <|aF rfl rfl (.one rfl) rfl (by decide) (fun hb=>(faR 4 rfl rfl rfl Tryz.underlying50 rfl ti3 (lb rfl) rfl rfl)) <|aF rfl rfl (.one rfl) rfl (by decide) (fun hb=>(aG (d:=.int _ _) rfl rfl (lb rfl) Tryz.underlying3 ag3 ti3 (by decide) (svcR rfl hb) rfl (nle rfl) rfl)) <|aF rfl rfl (.one rfl) rfl (by decide) (fun hb=>(aP rfl rfl (lb rfl) (svcI rfl hb) (svcI rfl hb) rfl hx10)) <|aA rfl (bO rfl rfl (lb rfl) (svB rfl) rfl rfl hx11) <|aA rfl (mvB rfl rfl rfl rfl) <|aF rfl rfl (.one rfl) rfl (by decide) (fun hb=>(faR 5 rfl rfl rfl Tryz.underlying50 rfl ti3 (lb rfl) rfl rfl)) <|aF rfl rfl (.one rfl) rfl (by decide) (fun hb=>(aG (d:=.int _ _) rfl rfl (lb rfl) Tryz.underlying3 ag3 ti3 (by decide) (svcR rfl hb) rfl (nle rfl) rfl)) <|aF rfl rfl (.one rfl) rfl (by decide) (fun hb=>(faR 5 rfl rfl rfl Tryz.underlying50 rfl ti3 (lb rfl) rfl rfl)) <|aF rfl rfl (.one rfl) rfl (by decide) (fun hb=>(aG (d:=.int _ _) rfl rfl (lb rfl) Tryz.underlying3 ag3 ti3 (by decide) (svcR rfl hb) rfl (nle rfl) rfl)) <|aF rfl rfl (.one rfl) rfl (by decide) (fun hb=>(aP rfl rfl (lb rfl) (svcI rfl hb) (svcI rfl hb) rfl hx12)) <|aA rfl (bO rfl rfl (lb rfl) (svB rfl) rfl rfl hx13) <|aA rfl (asB rfl rfl rfl rfl) <|aB ?_)
  obtain ⟨x14,hx14,h⟩:=aR h
  obtain ⟨x15,hx15,h⟩:=aR h
  obtain ⟨x16,hx16,h⟩:=aR h
  obtain ⟨x17,hx17,h⟩:=aR h
  obtain ⟨x18,hx18,h⟩:=aR h
  obtain ⟨x19,hx19,h⟩:=aR h
  refine aC (aA rfl (mvB rfl rfl rfl rfl) <|aA rfl (mvB rfl rfl rfl rfl) <|aF rfl rfl (.one rfl) rfl (by decide) (fun hb=>(faR 6 rfl rfl rfl Tryz.underlying50 rfl ti3 (lb rfl) rfl rfl)) <|aF rfl rfl (.one rfl) rfl (by decide) (fun hb=>(aG (d:=.int _ _) rfl rfl (lb rfl) Tryz.underlying3 ag3 ti3 (by decide) (svcR rfl hb) rfl (nle rfl) rfl)) <|aF rfl rfl (.one rfl) rfl (by decide) (fun hb=>(faR 6 rfl rfl rfl Tryz.underlying50 rfl ti3 (lb rfl) rfl rfl)) <|aF rfl rfl (.one rfl) rfl (by decide) (fun hb=>(aG (d:=.int _ _) rfl rfl (lb rfl) Tryz.underlying3 ag3 ti3 (by decide) (svcR rfl hb) rfl (nle rfl) rfl)) <|aF rfl rfl (.one rfl) rfl (by decide) (fun hb=>(aP rfl rfl (lb rfl) (svcI rfl hb) (svcI rfl hb) rfl hx14)) <|aA rfl (bO rfl rfl (lb rfl) (svB rfl) rfl rfl hx15) <|aA rfl (mvB rfl rfl rfl rfl) <|aF rfl rfl (.one rfl) rfl (by decide) (fun hb=>(faR 7 rfl rfl rfl Tryz.underlying50 rfl ti3 (lb rfl) rfl rfl)) <|aF rfl rfl (.one rfl) rfl (by decide) (fun hb=>(aG (d:=.int _ _) rfl rfl (lb rfl) Tryz.underlying3 ag3 ti3 (by decide) (svcR rfl hb) rfl (nle rfl) rfl)) <|aF rfl rfl (.one rfl) rfl (by decide) (fun hb=>(faR 7 rfl rfl rfl Tryz.underlying50 rfl ti3 (lb rfl) rfl rfl)) <|aF rfl rfl (.one rfl) rfl (by decide) (fun hb=>(aG (d:=.int _ _) rfl rfl (lb rfl) Tryz.underlying3 ag3 ti3 (by decide) (svcR rfl hb) rfl (nle rfl) rfl)) <|aF rfl rfl (.one rfl) rfl (by decide) (fun hb=>(aP rfl rfl (lb rfl) (svcI rfl hb) (svcI rfl hb) rfl hx16)) <|aA rfl (bO rfl rfl (lb rfl) (svB rfl) rfl rfl hx17) <|aA rfl (mvB rfl rfl rfl rfl) <|aF rfl rfl (.one rfl) rfl (by decide) (fun hb=>(faR 9 rfl rfl rfl Tryz.underlying50 rfl ti9 (lb rfl) rfl rfl)) <|aF rfl rfl (.one rfl) rfl (by decide) (fun hb=>(aG (d:=.str _) rfl rfl (lb rfl) Tryz.underlying9 ag9 ti9 (by decide) (svcR rfl hb) rfl (nle rfl) rfl)) <|aF rfl rfl (.one rfl) rfl (by decide) (fun hb=>(faR 9 rfl rfl rfl Tryz.underlying50 rfl ti9 (lb rfl) rfl rfl)) <|aF rfl rfl (.one rfl) rfl (by decide) (fun hb=>(aG (d:=.str _) rfl rfl (lb rfl) Tryz.underlying9 ag9 ti9 (by decide) (svcR rfl hb) rfl (nle rfl) rfl)) <|aF rfl rfl (.one rfl) rfl (by decide) (fun hb=>(jM rfl rfl (lb rfl) (svc (d:=.str _) rfl hb) (svc (d:=.str _) rfl hb) rfl hx18)) <|aA rfl (bO rfl rfl (lb rfl) (svB rfl) rfl rfl hx19) <|aA rfl (asB rfl rfl rfl rfl) <|aB ?_)
  refine aS ?_
  obtain rfl:=Option.some.inj h
  refine ⟨.inr rfl,(.cons (sv rfl) .nil)⟩

theorem tI (a0 : aH) (r : Int) (h : mJ a0 = some r) : cD Tryz.prog 46 [.agg (v1 a0)] (.int .i64 r):=by
 refine bA (rs:=[.int .i64 r]) Tryz.func46 rfl Tryz.ntmps46 (nle rfl) rfl fun O hO=>?_
 show IWP _ _ _ _ ⟨[(0,.agg (v1 a0))],[]⟩ _
 unfold mJ at h
 refine aC (aA rfl (bR (cs:=q10) 0 rfl rfl (lb rfl) rfl (svA q10 rfl) rfl rfl) <|aA rfl (aE rfl rfl (lb rfl) (sv (d:=.int _ 0) rfl)) <|aB ?_)
 refine aV ?_
 refine bG ?_
 obtain ⟨x1,hx1,h⟩:=aY h
 refine aC (aA rfl (faR 0 rfl rfl rfl Tryz.underlying50 rfl ti5 (lb rfl) rfl rfl) <|aA rfl (aG (d:=.int _ _) rfl rfl (lb rfl) Tryz.underlying5 ag5 ti5 (by decide) (svR rfl) rfl (nle rfl) rfl) <|aA rfl (aW (r:=.bool _) rfl rfl (lb rfl) cl78 (.cons (svI rfl) .nil) rfl (tG _ _ hx1)) <|aA rfl (dD rfl rfl (lb rfl) (svB rfl)) <|aA rfl (asB rfl rfl rfl rfl) <|aB ?_)
 refine aT (b:=_) rfl (fun hc2=>?_) (fun hc2=>?_)
 ·
  replace h:=bT h hc2
  refine aC (aA rfl (aE rfl rfl (lb rfl) (sv (d:=.int _ 12) rfl)) <|aB ?_)
  refine aS ?_
  refine bP ?_
  refine aZ ?_
  obtain rfl:=Option.some.inj h
  refine ⟨.inr rfl,(.cons (sv rfl) .nil)⟩
 ·
  replace h:=bU h hc2
  obtain ⟨x3,hx3,h⟩:=aY h
  refine aC (aA rfl (lra q10 la50 rfl rfl rfl rfl rfl (nle rfl) rfl) <|aA rfl (aW (r:=.bool _) rfl rfl (lb rfl) cl79 (.cons (svA q10 rfl) .nil) rfl (rY _ _ hx3)) <|aA rfl (dD rfl rfl (lb rfl) (svB rfl)) <|aA rfl (asB rfl rfl rfl rfl) <|aB ?_)
  refine aT (b:=_) rfl (fun hc4=>?_) (fun hc4=>?_)
  ·
   replace h:=bT h hc4
   refine aC (aA rfl (aE rfl rfl (lb rfl) (sv (d:=.int _ 8) rfl)) <|aB ?_)
   refine aS ?_
   refine bP ?_
   refine aZ ?_
   obtain rfl:=Option.some.inj h
   refine ⟨.inr rfl,(.cons (sv rfl) .nil)⟩
  ·
   replace h:=bU h hc4
   refine gK (α:=Bool) (fun z=>⟨[(1,.ref 0 0),(12,.bool z)],[(0,.blk 50 (v1 a0))]⟩) (fun z=>jY a0 z = some r) ?_ ?_
   ·
    obtain ⟨x13,hx13,h⟩:=aR h
    refine aC (aA rfl (faR 9 rfl rfl rfl Tryz.underlying50 rfl ti9 (lb rfl) rfl rfl) <|aA rfl (aG (d:=.str _) rfl rfl (lb rfl) Tryz.underlying9 ag9 ti9 (by decide) (svR rfl) rfl (nle rfl) rfl) <|aA rfl (dB rfl rfl (lb rfl) Tryz.underlying9 (sv (d:=.str _) rfl) rfl) <|aA rfl (aP rfl rfl (lb rfl) (svI rfl) (sv (d:=.int _ 32) rfl) rfl hx13) <|aA rfl (asB rfl rfl rfl rfl) <|aB ?_)
    refine aT (b:=_) rfl (fun hc14=>?_) (fun hc14=>?_)
    ·
     replace h:=bT h hc14
     refine aU ?_
     refine aN ⟨x13,(fun i=>i),⟨(.sames rfl rfl),(.cons (.blk rfl rfl rfl) .nil),bX [0] rfl (by decide),fun _ _=>rfl⟩,?_⟩
     exact h
    ·
     replace h:=bU h hc14
     obtain ⟨x15,hx15,h⟩:=aR h
     refine bD (aA rfl (faR 8 rfl rfl rfl Tryz.underlying50 rfl ti42 (lb rfl) rfl rfl) <|aA rfl (lrL la42 rfl rfl rfl rfl rfl (nle rfl) rfl) <|aA rfl (cJ bN (l:=a0.Pairs) rfl rfl (lb rfl) Tryz.underlying42 (svL rfl)) <|aA rfl (aP rfl rfl (lb rfl) (svI rfl) (sv (d:=.int _ 4) rfl) rfl hx15) <|aA rfl (asB rfl rfl rfl rfl) <|bW ?_)
     refine aN ⟨x15,(fun i=>i),⟨(.sames rfl rfl),(.cons (.blk rfl rfl rfl) .nil),bX [0] rfl (by decide),fun _ _=>rfl⟩,?_⟩
     exact h
   ·
    rintro v8 h
    unfold jY at h
    refine aT (b:=_) rfl (fun hc9=>?_) (fun hc9=>?_)
    ·
     replace h:=bT h hc9
     refine aC (aA rfl (aE rfl rfl (lb rfl) (sv (d:=.int _ 5) rfl)) <|aB ?_)
     refine aS ?_
     refine bP ?_
     refine aZ ?_
     obtain rfl:=Option.some.inj h
     refine ⟨.inr rfl,(.cons (sv rfl) .nil)⟩
    ·
     replace h:=bU h hc9
     obtain ⟨x10,hx10,h⟩:=aY h
     obtain ⟨x11,hx11,h⟩:=aY h
     refine dG rfl [⟨[1],[0],[(22,.agg (v1 a0))],[]⟩,
      ⟨[22],[],[(23,.agg (v1 x10))],[]⟩,
      ⟨[1],[],[(24,.ref 0 0)],[]⟩,
      ⟨[24],[0],[(25,.int .u8 a0.Kind)],[]⟩,
      ⟨[25],[],[(26,.agg (w37 a0.Kind false 0 0 0 0 0 0 ([] : List bK) []))],[]⟩,
      ⟨[23,26],[],[(27,.bool x11)],[]⟩,
      ⟨[27],[],[(28,.bool (!x11))],[]⟩,
      ⟨[28],[],[(21,.bool (!x11))],[]⟩] rfl ?_ (by kernel_rfl) ?_
     ·refine .cons (lop rfl rfl fun S hA=>(cA (cs:=q10) rfl rfl (lb rfl) Tryz.underlying50 ag50 ti50 (by decide) (svaR hA rfl rfl) (agi hA rfl rfl) (nle rfl) rfl)) ?_
      refine .cons (lop rfl rfl fun S hA=>(aW (r:=.agg q10) rfl rfl (lb rfl) cl81 (.cons (svaA q10 hA rfl rfl) .nil) rfl (tH _ _ hx10))) ?_
      refine .cons (lop rfl rfl fun S hA=>(aO rfl rfl (lb rfl) Tryz.underlying50 rfl ti5 (by decide) (svaR hA rfl rfl) (off':=0) rfl)) ?_
      refine .cons (lop rfl rfl fun S hA=>(aG (d:=.int _ _) rfl rfl (lb rfl) Tryz.underlying5 ag5 ti5 (by decide) (svaR hA rfl rfl) (agi hA rfl rfl) (nle rfl) rfl)) ?_
      refine .cons (lop rfl rfl fun S hA=>(pX (d':=.agg (w37 a0.Kind false 0 0 0 0 0 0 ([] : List bK) [])) (cC (cs:=q11) rfl rfl (lb rfl) Tryz.underlying50 ti50 pl50 rfl (.cons (svaI hA rfl rfl) .nil) rfl) (.agg (.k4 (.k4 (.cons (.nils _) (.all _))))))) ?_
      refine .cons (lop rfl rfl fun S hA=>(aW (r:=.bool _) rfl rfl (lb rfl) cl80 (.cons (svaA q10 hA rfl rfl) (.cons (svaA q10 hA rfl rfl) .nil)) rfl (aAi _ _ _ hx11))) ?_
      refine .cons (lop rfl rfl fun S hA=>(dD rfl rfl (lb rfl) (svaB hA rfl rfl))) ?_
      refine .cons (lop rfl rfl fun S hA=>(aE rfl rfl (lb rfl) (svaB hA rfl rfl))) ?_
      exact .nil
     refine aT (b:=_) rfl (fun hc12=>?_) (fun hc12=>?_)
     ·
      replace h:=bT h hc12
      refine aC (aA rfl (aE rfl rfl (lb rfl) (sv (d:=.int _ 4) rfl)) <|aB ?_)
      refine aS ?_
      refine bP ?_
      refine aZ ?_
      obtain rfl:=Option.some.inj h
      refine ⟨.inr rfl,(.cons (sv rfl) .nil)⟩
     ·
      replace h:=bU h hc12
      refine aU ?_
      refine bZ ?_
      refine aN ?_
      refine aC (aA rfl (aE rfl rfl (lb rfl) (sv (d:=.int _ 0) rfl)) <|aB ?_)
      refine aS ?_
      obtain rfl:=Option.some.inj h
      refine ⟨.inr rfl,(.cons (sv rfl) .nil)⟩

theorem wQ (a0 : (List UInt8)) (r : (aH × Int × Int)) (h : pH a0 = some r) : cD Tryz.prog 74 [.str a0] (retD [.agg (v1 r.1),.int .i64 r.2.1,.int .i64 r.2.2]):=by
 refine bA (rs:=[.agg (v1 r.1),.int .i64 r.2.1,.int .i64 r.2.2]) Tryz.func74 rfl Tryz.ntmps74 (nle rfl) rfl fun O hO=>?_
 show IWP _ _ _ _ ⟨[(0,.str a0)],[]⟩ _
 unfold pH at h
 refine aC (aA rfl (bJ (cs:=q11) (cs':=(w37 0 false 0 0 0 0 0 0 ([] : List bK) [])) 0 rfl rfl (lb rfl) rfl ti50 rfl rfl (.k4 (.k4 (.cons (.nils _) (.all _))))) <|aA rfl (aE rfl rfl (lb rfl) (sv (d:=.int _ 0) rfl)) <|aA rfl (aE rfl rfl (lb rfl) (sv (d:=.int _ 0) rfl)) <|aB ?_)
 obtain ⟨x1,hx1,h⟩:=aY h
 refine aC (aA rfl (aK rfl rfl (lb rfl) (sv (d:=.str _) rfl)) <|aA rfl (aW (r:=.tuple q27) rfl rfl (lb rfl) cl108 (.cons (sv (d:=.str _) rfl) .nil) rfl (aAh _ _ hx1)) <|aA rfl (aK rfl rfl (lb rfl) (sv (d:=.tuple q27) rfl)) <|aA rfl (bE (d:=.agg q10) rfl rfl (lb rfl) (sv (d:=.tuple q27) rfl) rfl) <|aA rfl (bE (d:=.int _ _) rfl rfl (lb rfl) (sv (d:=.tuple q27) rfl) rfl) <|aA rfl (bE (d:=.int _ _) rfl rfl (lb rfl) (sv (d:=.tuple q27) rfl) rfl) <|aA rfl (bE (d:=.int _ _) rfl rfl (lb rfl) (sv (d:=.tuple q27) rfl) rfl) <|aA rfl (bJ (cs:=q11) (cs':=(w37 0 false 0 0 0 0 0 0 ([] : List bK) [])) 1 rfl rfl (lb rfl) rfl ti50 rfl rfl (.k4 (.k4 (.cons (.nils _) (.all _))))) <|aA rfl (stA q10 q10 ti50 rfl rfl rfl rfl rfl rfl rfl rfl (nle rfl) rfl) <|aA rfl (asI rfl rfl rfl rfl) <|aA rfl (asI rfl rfl rfl rfl) <|aA rfl (asI rfl rfl rfl rfl) <|aB ?_)
 refine aV ?_
 obtain ⟨x2,hx2,h⟩:=aR h
 refine aC (aA rfl (mvI rfl rfl rfl rfl) <|aA rfl (aP rfl rfl (lb rfl) (svI rfl) (sv (d:=.int _ 0) rfl) rfl hx2) <|aB ?_)
 refine aT (b:=_) rfl (fun hc3=>?_) (fun hc3=>?_)
 ·
  replace h:=bT h hc3
  refine aC (aA rfl (pX (d':=.agg (w37 0 false 0 0 0 0 0 0 ([] : List bK) [])) (cC (cs:=q11) rfl rfl (lb rfl) Tryz.underlying50 ti50 pl50 rfl .nil rfl) (.agg (.k4 (.k4 (.cons (.nils _) (.all _)))))) <|aA rfl (mvI rfl rfl rfl rfl) <|aA rfl (bQ (ds':=[.int _ _,.bool _,.int _ _,.int _ _,.int _ _,.int _ _,.int _ _,.int _ _,.slice false (([] : List bK).map bN.d),.str _]) rfl rfl ti50 (svR rfl) rfl (svA q10 rfl) rfl rfl rfl (nle rfl) rfl) <|aA rfl (aE rfl rfl (lb rfl) (sv (d:=.int _ 0) rfl)) <|aA rfl (asI rfl rfl rfl rfl) <|aB ?_)
  refine aS ?_
  refine aZ ?_
  obtain rfl:=Option.some.inj h
  refine ⟨.inr rfl,(.cons (rva la50 rfl rfl (nle rfl) rfl) (.cons (sv rfl) (.cons (sv rfl) .nil)))⟩
 ·
  replace h:=bU h hc3
  refine aU ?_
  refine aN ?_
  refine aV ?_
  obtain ⟨x4,hx4,h⟩:=aY h
  obtain ⟨x5,hx5,h⟩:=aY h
  refine aC (aA rfl (aK rfl rfl (lb rfl) (sv (d:=.str _) rfl)) <|aA rfl (mvI rfl rfl rfl rfl) <|aA rfl (mvI rfl rfl rfl rfl) <|aA rfl (hT rfl rfl (lb rfl) Tryz.underlying9 (sv (d:=.str _) rfl) ⟨_,(svI rfl)⟩ ⟨_,(svI rfl)⟩ hx4) <|aA rfl (dU (r':=.bool x5.1) (H1':=[(1,.blk 50 (v1 x5.2))]) 2 [1] rfl rfl (lb rfl) cl109 (.cons (svR rfl) (.cons (sv (d:=.str _) rfl) .nil)) rfl rfl ⟨rfl,rfl,by decide,rfl,List.forall_mem_cons.2 ⟨⟨rfl,rfl,rfl,rfl⟩,List.forall_mem_nil _⟩⟩ (rX _ _ _ hx5) rfl rfl (List.forall_mem_cons.2 ⟨⟨rfl,rfl⟩,List.forall_mem_nil _⟩) rfl) <|aA rfl (dD rfl rfl (lb rfl) (svB rfl)) <|aB ?_)
  refine aT (b:=_) rfl (fun hc6=>?_) (fun hc6=>?_)
  ·
   replace h:=bT h hc6
   refine aC (aA rfl (pX (d':=.agg (w37 0 false 0 0 0 0 0 0 ([] : List bK) [])) (cC (cs:=q11) rfl rfl (lb rfl) Tryz.underlying50 ti50 pl50 rfl .nil rfl) (.agg (.k4 (.k4 (.cons (.nils _) (.all _)))))) <|aA rfl (bQ (ds':=[.int _ _,.bool _,.int _ _,.int _ _,.int _ _,.int _ _,.int _ _,.int _ _,.slice false (([] : List bK).map bN.d),.str _]) rfl rfl ti50 (svR rfl) rfl (svA q10 rfl) rfl rfl rfl (nle rfl) rfl) <|aA rfl (aE rfl rfl (lb rfl) (sv (d:=.int _ 0) rfl)) <|aA rfl (aE rfl rfl (lb rfl) (sv (d:=.int _ 4) rfl)) <|aB ?_)
   refine aS ?_
   refine aZ ?_
   obtain rfl:=Option.some.inj h
   refine ⟨.inr rfl,(.cons (rva la50 rfl rfl (nle rfl) rfl) (.cons (sv rfl) (.cons (sv rfl) .nil)))⟩
  ·
   replace h:=bU h hc6
   refine aU ?_
   refine aN ?_
   refine aV ?_
   obtain ⟨x7,hx7,h⟩:=aY h
   refine aC (aA rfl (lra q10 la50 rfl rfl rfl rfl rfl (nle rfl) rfl) <|aA rfl (aW (r:=.int _ _) rfl rfl (lb rfl) cl46 (.cons (svA q10 rfl) .nil) rfl (tI _ _ hx7)) <|aA rfl (asI rfl rfl rfl rfl) <|aB ?_)
   obtain ⟨x8,hx8,h⟩:=aR h
   refine aC (aA rfl (mvI rfl rfl rfl rfl) <|aA rfl (aP rfl rfl (lb rfl) (svI rfl) (sv (d:=.int _ 0) rfl) rfl hx8) <|aB ?_)
   refine aT (b:=_) rfl (fun hc9=>?_) (fun hc9=>?_)
   ·
    replace h:=bT h hc9
    refine aC (aA rfl (pX (d':=.agg (w37 0 false 0 0 0 0 0 0 ([] : List bK) [])) (cC (cs:=q11) rfl rfl (lb rfl) Tryz.underlying50 ti50 pl50 rfl .nil rfl) (.agg (.k4 (.k4 (.cons (.nils _) (.all _)))))) <|aA rfl (mvI rfl rfl rfl rfl) <|aA rfl (bQ (ds':=[.int _ _,.bool _,.int _ _,.int _ _,.int _ _,.int _ _,.int _ _,.int _ _,.slice false (([] : List bK).map bN.d),.str _]) rfl rfl ti50 (svR rfl) rfl (svA q10 rfl) rfl rfl rfl (nle rfl) rfl) <|aA rfl (aE rfl rfl (lb rfl) (sv (d:=.int _ 0) rfl)) <|aA rfl (asI rfl rfl rfl rfl) <|aB ?_)
    refine aS ?_
    refine aZ ?_
    obtain rfl:=Option.some.inj h
    refine ⟨.inr rfl,(.cons (rva la50 rfl rfl (nle rfl) rfl) (.cons (sv rfl) (.cons (sv rfl) .nil)))⟩
   ·
    replace h:=bU h hc9
    refine aU ?_
    refine aN ?_
    refine aC (aA rfl (lra q10 la50 rfl rfl rfl rfl rfl (nle rfl) rfl) <|aA rfl (mvI rfl rfl rfl rfl) <|aA rfl (stA q10 q10 ti50 rfl rfl rfl rfl rfl rfl rfl rfl (nle rfl) rfl) <|aA rfl (asI rfl rfl rfl rfl) <|aA rfl (aE rfl rfl (lb rfl) (sv (d:=.int _ 0) rfl)) <|aB ?_)
    refine aS ?_
    obtain rfl:=Option.some.inj h
    refine ⟨.inr rfl,(.cons (rva la50 rfl rfl (nle rfl) rfl) (.cons (sv rfl) (.cons (sv rfl) .nil)))⟩

theorem qZ (a0 : cX) (r : Int) (h : jQ a0 = some r) : cD Tryz.prog 41 [.agg (v7 a0)] (.int .i64 r):=by
 refine bA (rs:=[.int .i64 r]) Tryz.func41 rfl Tryz.ntmps41 (nle rfl) rfl fun O hO=>?_
 show IWP _ _ _ _ ⟨[(0,.agg (v7 a0))],[]⟩ _
 unfold jQ at h
 refine aC (aA rfl (bR (cs:=q22) 0 rfl rfl (lb rfl) rfl (svA q22 rfl) rfl rfl) <|aA rfl (aE rfl rfl (lb rfl) (sv (d:=.int _ 0) rfl)) <|aB ?_)
 refine aV ?_
 obtain ⟨x1,hx1,h⟩:=aR h
 obtain ⟨x2,hx2,h⟩:=aR h
 obtain ⟨x3,hx3,h⟩:=aR h
 refine aC (aA rfl (faR 1 rfl rfl rfl Tryz.underlying36 rfl ti34 (lb rfl) rfl rfl) <|aA rfl (aG (d:=.int _ _) rfl rfl (lb rfl) Tryz.underlying34 ag34 ti34 (by decide) (svR rfl) rfl (nle rfl) rfl) <|aA rfl (aP rfl rfl (lb rfl) (svI rfl) (sv (d:=.int _ 0) rfl) rfl hx1) <|aA rfl (mvB rfl rfl rfl rfl) <|aF rfl rfl (.one rfl) rfl (by decide) (fun hb=>(faR 0 rfl rfl rfl Tryz.underlying36 rfl ti9 (lb rfl) rfl rfl)) <|aF rfl rfl (.one rfl) rfl (by decide) (fun hb=>(aG (d:=.str _) rfl rfl (lb rfl) Tryz.underlying9 ag9 ti9 (by decide) (svcR rfl hb) rfl (nle rfl) rfl)) <|aF rfl rfl (.one rfl) rfl (by decide) (fun hb=>(jM rfl rfl (lb rfl) (svc (d:=.str _) rfl hb) (sv (d:=.str []) rfl) rfl hx2)) <|aA rfl (bO rfl rfl (lb rfl) (svB rfl) rfl rfl hx3) <|aB ?_)
 refine aT (b:=_) rfl (fun hc4=>?_) (fun hc4=>?_)
 ·
  replace h:=bT h hc4
  refine aC (aA rfl (aE rfl rfl (lb rfl) (sv (d:=.int _ 4) rfl)) <|aB ?_)
  refine aS ?_
  refine aZ ?_
  obtain rfl:=Option.some.inj h
  refine ⟨.inr rfl,(.cons (sv rfl) .nil)⟩
 ·
  replace h:=bU h hc4
  refine aU ?_
  refine aN ?_
  refine aV ?_
  obtain ⟨x5,hx5,h⟩:=aY h
  refine aC (aA rfl (faR 0 rfl rfl rfl Tryz.underlying36 rfl ti9 (lb rfl) rfl rfl) <|aA rfl (aG (d:=.str _) rfl rfl (lb rfl) Tryz.underlying9 ag9 ti9 (by decide) (svR rfl) rfl (nle rfl) rfl) <|aA rfl (aW (r:=.tuple q31) rfl rfl (lb rfl) cl74 (.cons (sv (d:=.str _) rfl) .nil) rfl (wQ _ _ hx5)) <|aA rfl (aK rfl rfl (lb rfl) (sv (d:=.tuple q31) rfl)) <|aA rfl (bE (d:=.agg q10) rfl rfl (lb rfl) (sv (d:=.tuple q31) rfl) rfl) <|aA rfl (bE (d:=.int _ _) rfl rfl (lb rfl) (sv (d:=.tuple q31) rfl) rfl) <|aA rfl (bE (d:=.int _ _) rfl rfl (lb rfl) (sv (d:=.tuple q31) rfl) rfl) <|aA rfl (bJ (cs:=q11) (cs':=(w37 0 false 0 0 0 0 0 0 ([] : List bK) [])) 1 rfl rfl (lb rfl) rfl ti50 rfl rfl (.k4 (.k4 (.cons (.nils _) (.all _))))) <|aA rfl (stA q10 q10 ti50 rfl rfl rfl rfl rfl rfl rfl rfl (nle rfl) rfl) <|aA rfl (asI rfl rfl rfl rfl) <|aA rfl (asI rfl rfl rfl rfl) <|aB ?_)
  obtain ⟨x6,hx6,h⟩:=aR h
  obtain ⟨x7,hx7,h⟩:=aR h
  obtain ⟨x8,hx8,h⟩:=aR h
  refine aC (aA rfl (mvI rfl rfl rfl rfl) <|aA rfl (aP rfl rfl (lb rfl) (svI rfl) (sv (d:=.int _ 3) rfl) rfl hx6) <|aA rfl (mvB rfl rfl rfl rfl) <|aF rfl rfl (.one rfl) rfl (by decide) (fun hb=>(faR 0 rfl rfl rfl Tryz.underlying36 rfl ti9 (lb rfl) rfl rfl)) <|aF rfl rfl (.one rfl) rfl (by decide) (fun hb=>(aG (d:=.str _) rfl rfl (lb rfl) Tryz.underlying9 ag9 ti9 (by decide) (svcR rfl hb) rfl (nle rfl) rfl)) <|aF rfl rfl (.one rfl) rfl (by decide) (fun hb=>(dB rfl rfl (lb rfl) Tryz.underlying9 (svc (d:=.str _) rfl hb) rfl)) <|aF rfl rfl (.one rfl) rfl (by decide) (fun hb=>(aP rfl rfl (lb rfl) (svcI rfl hb) (sv (d:=.int _ 80) rfl) rfl hx7)) <|aA rfl (dM rfl rfl (lb rfl) (svB rfl) rfl rfl hx8) <|aB ?_)
  refine aT (b:=_) rfl (fun hc9=>?_) (fun hc9=>?_)
  ·
   replace h:=bT h hc9
   refine aC (aA rfl (aE rfl rfl (lb rfl) (sv (d:=.int _ 5) rfl)) <|aB ?_)
   refine aS ?_
   refine aZ ?_
   obtain rfl:=Option.some.inj h
   refine ⟨.inr rfl,(.cons (sv rfl) .nil)⟩
  ·
   replace h:=bU h hc9
   refine aU ?_
   refine aN ?_
   refine aV ?_
   obtain ⟨x10,hx10,h⟩:=aR h
   refine aC (aA rfl (faR 2 rfl rfl rfl Tryz.underlying36 rfl ti3 (lb rfl) rfl rfl) <|aA rfl (aG (d:=.int _ _) rfl rfl (lb rfl) Tryz.underlying3 ag3 ti3 (by decide) (svR rfl) rfl (nle rfl) rfl) <|aA rfl (aP rfl rfl (lb rfl) (svI rfl) (sv (d:=.int _ 0) rfl) rfl hx10) <|aB ?_)
   refine aT (b:=_) rfl (fun hc11=>?_) (fun hc11=>?_)
   ·
    replace h:=bT h hc11
    refine aC (aA rfl (aE rfl rfl (lb rfl) (sv (d:=.int _ 8) rfl)) <|aB ?_)
    refine aS ?_
    refine aZ ?_
    obtain rfl:=Option.some.inj h
    refine ⟨.inr rfl,(.cons (sv rfl) .nil)⟩
   ·
    replace h:=bU h hc11
    refine aU ?_
    refine aN ?_
    refine aC (aA rfl (aE rfl rfl (lb rfl) (sv (d:=.int _ 0) rfl)) <|aB ?_)
    refine aS ?_
    obtain rfl:=Option.some.inj h
    refine ⟨.inr rfl,(.cons (sv rfl) .nil)⟩

theorem fW (a0 : bH) (r : Int) (h : dT a0 = some r) : cD Tryz.prog 16 [.agg (v0 a0)] (.int .i64 r):=by
 refine bA (rs:=[.int .i64 r]) Tryz.func16 rfl Tryz.ntmps16 (nle rfl) rfl fun O hO=>?_
 show IWP _ _ _ _ ⟨[(0,.agg (v0 a0))],[]⟩ _
 unfold dT at h
 refine aC (aA rfl (bR (cs:=q8) 0 rfl rfl (lb rfl) rfl (svA q8 rfl) rfl rfl) <|aA rfl (aE rfl rfl (lb rfl) (sv (d:=.int _ 0) rfl)) <|aB ?_)
 refine aV ?_
 obtain ⟨x1,hx1,h⟩:=aY h
 refine aC (aA rfl (faR 0 rfl rfl rfl Tryz.underlying38 rfl ti28 (lb rfl) rfl rfl) <|aA rfl (lra q12 la28 rfl rfl rfl rfl rfl (nle rfl) rfl) <|aA rfl (aW (r:=.int _ _) rfl rfl (lb rfl) cl39 (.cons (svA q12 rfl) .nil) rfl (lH _ _ hx1)) <|aA rfl (asI rfl rfl rfl rfl) <|aB ?_)
 obtain ⟨x2,hx2,h⟩:=aR h
 refine aC (aA rfl (mvI rfl rfl rfl rfl) <|aA rfl (aP rfl rfl (lb rfl) (svI rfl) (sv (d:=.int _ 0) rfl) rfl hx2) <|aB ?_)
 refine aT (b:=_) rfl (fun hc3=>?_) (fun hc3=>?_)
 ·
  replace h:=bT h hc3
  refine aC (aA rfl (mvI rfl rfl rfl rfl) <|aA rfl (asI rfl rfl rfl rfl) <|aB ?_)
  refine aS ?_
  refine aZ ?_
  obtain rfl:=Option.some.inj h
  refine ⟨.inr rfl,(.cons (sv rfl) .nil)⟩
 ·
  replace h:=bU h hc3
  refine aU ?_
  refine aN ?_
  refine aV ?_
  obtain ⟨x4,hx4,h⟩:=aY h
  refine aC (aA rfl (faR 9 rfl rfl rfl Tryz.underlying38 rfl ti33 (lb rfl) rfl rfl) <|aA rfl (lra q16 la33 rfl rfl rfl rfl rfl (nle rfl) rfl) <|aA rfl (aW (r:=.int _ _) rfl rfl (lb rfl) cl40 (.cons (svA q16 rfl) .nil) rfl (qX _ _ hx4)) <|aA rfl (asI rfl rfl rfl rfl) <|aB ?_)
  obtain ⟨x5,hx5,h⟩:=aR h
  refine aC (aA rfl (mvI rfl rfl rfl rfl) <|aA rfl (aP rfl rfl (lb rfl) (svI rfl) (sv (d:=.int _ 0) rfl) rfl hx5) <|aB ?_)
  refine aT (b:=_) rfl (fun hc6=>?_) (fun hc6=>?_)
  ·
   replace h:=bT h hc6
   refine aC (aA rfl (mvI rfl rfl rfl rfl) <|aA rfl (asI rfl rfl rfl rfl) <|aB ?_)
   refine aS ?_
   refine aZ ?_
   obtain rfl:=Option.some.inj h
   refine ⟨.inr rfl,(.cons (sv rfl) .nil)⟩
  ·
   replace h:=bU h hc6
   refine aU ?_
   refine aN ?_
   refine aV ?_
   obtain ⟨x7,hx7,h⟩:=aY h
   refine aC (aA rfl (faR 13 rfl rfl rfl Tryz.underlying38 rfl ti36 (lb rfl) rfl rfl) <|aA rfl (lra q22 la36 rfl rfl rfl rfl rfl (nle rfl) rfl) <|aA rfl (aW (r:=.int _ _) rfl rfl (lb rfl) cl41 (.cons (svA q22 rfl) .nil) rfl (qZ _ _ hx7)) <|aA rfl (asI rfl rfl rfl rfl) <|aB ?_)
   obtain ⟨x8,hx8,h⟩:=aR h
   refine aC (aA rfl (mvI rfl rfl rfl rfl) <|aA rfl (aP rfl rfl (lb rfl) (svI rfl) (sv (d:=.int _ 0) rfl) rfl hx8) <|aB ?_)
   refine aT (b:=_) rfl (fun hc9=>?_) (fun hc9=>?_)
   ·
    replace h:=bT h hc9
    refine aC (aA rfl (mvI rfl rfl rfl rfl) <|aA rfl (asI rfl rfl rfl rfl) <|aB ?_)
    refine aS ?_
    refine aZ ?_
    obtain rfl:=Option.some.inj h
    refine ⟨.inr rfl,(.cons (sv rfl) .nil)⟩
   ·
    replace h:=bU h hc9
    refine aU ?_
    refine aN ?_
    obtain ⟨x10,hx10,h⟩:=aR h
    obtain ⟨x11,hx11,h⟩:=aR h
    refine aC (aA rfl (faR 0 rfl rfl rfl Tryz.underlying38 rfl ti28 (lb rfl) rfl rfl) <|aA rfl (faR 5 rfl rfl rfl Tryz.underlying28 rfl ti4 (lb rfl) rfl rfl) <|aA rfl (aG (d:=.bool _) rfl rfl (lb rfl) Tryz.underlying4 ag4 ti4 (by decide) (svR rfl) rfl (nle rfl) rfl) <|aA rfl (mvB rfl rfl rfl rfl) <|aF rfl rfl (.one rfl) rfl (by decide) (fun hb=>(faR 9 rfl rfl rfl Tryz.underlying38 rfl ti33 (lb rfl) rfl rfl)) <|aF rfl rfl (.one rfl) rfl (by decide) (fun hb=>(aO rfl rfl (lb rfl) Tryz.underlying33 rfl ti3 (by decide) (svcR rfl hb) (off':=12) rfl)) <|aF rfl rfl (.one rfl) rfl (by decide) (fun hb=>(aG (d:=.int _ _) rfl rfl (lb rfl) Tryz.underlying3 ag3 ti3 (by decide) (svcR rfl hb) rfl (nle rfl) rfl)) <|aF rfl rfl (.one rfl) rfl (by decide) (fun hb=>(aP rfl rfl (lb rfl) (svcI rfl hb) (sv (d:=.int _ 0) rfl) rfl hx10)) <|aA rfl (dM rfl rfl (lb rfl) (svB rfl) rfl rfl hx11) <|aA rfl (asB rfl rfl rfl rfl) <|aB ?_)
    refine aV ?_
    obtain ⟨x12,hx12,h⟩:=aR h
    obtain ⟨x13,hx13,h⟩:=aR h
    obtain ⟨x14,hx14,h⟩:=aR h
    obtain ⟨x15,hx15,h⟩:=aR h
    refine aC (aA rfl (mvB rfl rfl rfl rfl) <|aA rfl (mvB rfl rfl rfl rfl) <|aF rfl rfl (.one rfl) rfl (by decide) (fun hb=>(faR 9 rfl rfl rfl Tryz.underlying38 rfl ti33 (lb rfl) rfl rfl)) <|aF rfl rfl (.one rfl) rfl (by decide) (fun hb=>(aO rfl rfl (lb rfl) Tryz.underlying33 rfl ti31 (by decide) (svcR rfl hb) (off':=9) rfl)) <|aF rfl rfl (.one rfl) rfl (by decide) (fun hb=>(aO rfl rfl (lb rfl) Tryz.underlying31 rfl ti9 (by decide) (svcR rfl hb) (off':=10) rfl)) <|aF rfl rfl (.one rfl) rfl (by decide) (fun hb=>(aG (d:=.str _) rfl rfl (lb rfl) Tryz.underlying9 ag9 ti9 (by decide) (svcR rfl hb) rfl (nle rfl) rfl)) <|aF rfl rfl (.one rfl) rfl (by decide) (fun hb=>(jM rfl rfl (lb rfl) (svc (d:=.str _) rfl hb) (sv (d:=.str []) rfl) rfl hx12)) <|aA rfl (dM rfl rfl (lb rfl) (svB rfl) rfl rfl hx13) <|aA rfl (mvB rfl rfl rfl rfl) <|aF rfl rfl (.one rfl) rfl (by decide) (fun hb=>(faR 13 rfl rfl rfl Tryz.underlying38 rfl ti36 (lb rfl) rfl rfl)) <|aF rfl rfl (.one rfl) rfl (by decide) (fun hb=>(aO rfl rfl (lb rfl) Tryz.underlying36 rfl ti34 (by decide) (svcR rfl hb) (off':=14) rfl)) <|aF rfl rfl (.one rfl) rfl (by decide) (fun hb=>(aG (d:=.int _ _) rfl rfl (lb rfl) Tryz.underlying34 ag34 ti34 (by decide) (svcR rfl hb) rfl (nle rfl) rfl)) <|aF rfl rfl (.one rfl) rfl (by decide) (fun hb=>(aP rfl rfl (lb rfl) (svcI rfl hb) (sv (d:=.int _ 0) rfl) rfl hx14)) <|aA rfl (dM rfl rfl (lb rfl) (svB rfl) rfl rfl hx15) <|aB ?_)
    refine aT (b:=_) rfl (fun hc16=>?_) (fun hc16=>?_)
    ·
     replace h:=bT h hc16
     refine aC (aA rfl (aE rfl rfl (lb rfl) (sv (d:=.int _ 4) rfl)) <|aB ?_)
     refine aS ?_
     refine aZ ?_
     obtain rfl:=Option.some.inj h
     refine ⟨.inr rfl,(.cons (sv rfl) .nil)⟩
    ·
     replace h:=bU h hc16
     refine aU ?_
     refine aN ?_
     refine aC (aA rfl (aE rfl rfl (lb rfl) (sv (d:=.int _ 0) rfl)) <|aB ?_)
     refine aS ?_
     obtain rfl:=Option.some.inj h
     refine ⟨.inr rfl,(.cons (sv rfl) .nil)⟩

theorem qW (a0 : Int) (r : Bool) (h : kP a0 = some r) : cD Tryz.prog 21 [.int .u8 a0] (.bool r) := by
 refine bA (rs:=[.bool r]) Tryz.func21 rfl Tryz.ntmps21 (nle rfl) rfl fun O hO=>?_
 show IWP _ _ _ _ ⟨[(0,.int .u8 a0)],[]⟩ _
 unfold kP at h
 refine aC (aA rfl (aE rfl rfl (lb rfl) (sv (d:=.bool false) rfl)) <|aB ?_)
 refine aV ?_
 refine aC (aA rfl (mvI rfl rfl rfl rfl) <|aB ?_)
 refine bG ?_
 refine aV ?_
 obtain ⟨x1,hx1,h⟩:=aR h
 refine aC (aA rfl (aP rfl rfl (lb rfl) (svI rfl) (sv (d:=.int _ 1) rfl) rfl hx1) <|aA rfl (asB rfl rfl rfl rfl) <|aB ?_)
 refine aT (b:=_) rfl (fun hc2=>?_) (fun hc2=>?_)
 ·
  replace h:=bT h hc2
  refine aU ?_
  refine aN ?_
  refine fK rfl hc2 ?_
  refine aC (aA rfl (aE rfl rfl (lb rfl) (sv (d:=.bool true) rfl)) <|aB ?_)
  refine aS ?_
  refine bP ?_
  refine aZ ?_
  obtain rfl:=Option.some.inj h
  refine ⟨.inr rfl,(.cons (sv rfl) .nil)⟩
 ·
  replace h:=bU h hc2
  obtain ⟨x3,hx3,h⟩:=aR h
  refine aC (aA rfl (aP rfl rfl (lb rfl) (svI rfl) (sv (d:=.int _ 2) rfl) rfl hx3) <|aA rfl (asB rfl rfl rfl rfl) <|aB ?_)
  refine aT (b:=_) rfl (fun hc4=>?_) (fun hc4=>?_)
  ·
   replace h:=bT h hc4
   refine aU ?_
   refine aN ?_
   refine fK rfl hc4 ?_
   refine aC (aA rfl (aE rfl rfl (lb rfl) (sv (d:=.bool true) rfl)) <|aB ?_)
   refine aS ?_
   refine bP ?_
   refine aZ ?_
   obtain rfl:=Option.some.inj h
   refine ⟨.inr rfl,(.cons (sv rfl) .nil)⟩
  ·
   replace h:=bU h hc4
   obtain ⟨x5,hx5,h⟩:=aR h
   refine aC (aA rfl (aP rfl rfl (lb rfl) (svI rfl) (sv (d:=.int _ 3) rfl) rfl hx5) <|aA rfl (asB rfl rfl rfl rfl) <|aB ?_)
   refine aT (b:=_) rfl (fun hc6=>?_) (fun hc6=>?_)
   ·
    replace h:=bT h hc6
    refine aU ?_
    refine aN ?_
    refine fK rfl hc6 ?_
    refine aC (aA rfl (aE rfl rfl (lb rfl) (sv (d:=.bool true) rfl)) <|aB ?_)
    refine aS ?_
    refine bP ?_
    refine aZ ?_
    obtain rfl:=Option.some.inj h
    refine ⟨.inr rfl,(.cons (sv rfl) .nil)⟩
   ·
    replace h:=bU h hc6
    obtain ⟨x7,hx7,h⟩:=aR h
    refine aC (aA rfl (aP rfl rfl (lb rfl) (svI rfl) (sv (d:=.int _ 4) rfl) rfl hx7) <|aA rfl (asB rfl rfl rfl rfl) <|aB ?_)
    refine aT (b:=_) rfl (fun hc8=>?_) (fun hc8=>?_)
    ·
     replace h:=bT h hc8
     refine aU ?_
     refine aN ?_
     refine fK rfl hc8 ?_
     refine aC (aA rfl (aE rfl rfl (lb rfl) (sv (d:=.bool true) rfl)) <|aB ?_)
     refine aS ?_
     refine bP ?_
     refine aZ ?_
     obtain rfl:=Option.some.inj h
     refine ⟨.inr rfl,(.cons (sv rfl) .nil)⟩
    ·
     replace h:=bU h hc8
     obtain ⟨x9,hx9,h⟩:=aR h
     refine aC (aA rfl (aP rfl rfl (lb rfl) (svI rfl) (sv (d:=.int _ 6) rfl) rfl hx9) <|aA rfl (asB rfl rfl rfl rfl) <|aB ?_)
     refine aT (b:=_) rfl (fun hc10=>?_) (fun hc10=>?_)
     ·
      replace h:=bT h hc10
      refine aU ?_
      refine aN ?_
      refine fK rfl hc10 ?_
      refine aC (aA rfl (aE rfl rfl (lb rfl) (sv (d:=.bool true) rfl)) <|aB ?_)
      refine aS ?_
      refine bP ?_
      refine aZ ?_
      obtain rfl:=Option.some.inj h
      refine ⟨.inr rfl,(.cons (sv rfl) .nil)⟩
     ·
      replace h:=bU h hc10
      obtain ⟨x11,hx11,h⟩:=aR h
      refine aC (aA rfl (aP rfl rfl (lb rfl) (svI rfl) (sv (d:=.int _ 7) rfl) rfl hx11) <|aA rfl (asB rfl rfl rfl rfl) <|aB ?_)
      refine aT (b:=_) rfl (fun hc12=>?_) (fun hc12=>?_)
      ·
       replace h:=bT h hc12
       refine aU ?_
       refine aN ?_
       refine fK rfl hc12 ?_
       refine aC (aA rfl (aE rfl rfl (lb rfl) (sv (d:=.bool true) rfl)) <|aB ?_)
       refine aS ?_
       refine bP ?_
       refine aZ ?_
       obtain rfl:=Option.some.inj h
       refine ⟨.inr rfl,(.cons (sv rfl) .nil)⟩
      ·
       replace h:=bU h hc12
       obtain ⟨x13,hx13,h⟩:=aR h
       refine bD (aA rfl (aP rfl rfl (lb rfl) (svI rfl) (sv (d:=.int _ 8) rfl) rfl hx13) <|aA rfl (asB rfl rfl rfl rfl) <|bW ?_)
       refine aN ?_
       refine aT (b:=_) rfl (fun hc14=>?_) (fun hc14=>?_)
       ·
        replace h:=bT h hc14
        refine aC (aA rfl (aE rfl rfl (lb rfl) (sv (d:=.bool true) rfl)) <|aB ?_)
        refine aS ?_
        refine bP ?_
        refine aZ ?_
        obtain rfl:=Option.some.inj h
        refine ⟨.inr rfl,(.cons (sv rfl) .nil)⟩
       ·
        replace h:=bU h hc14
        refine aU ?_
        refine bZ ?_
        refine aN ?_
        refine aC (aA rfl (aE rfl rfl (lb rfl) (sv (d:=.bool false) rfl)) <|aB ?_)
        refine aS ?_
        obtain rfl:=Option.some.inj h
        refine ⟨.inr rfl,(.cons (sv rfl) .nil)⟩

theorem uW (a0 : Int) (r : ((List UInt8) × Int)) (h : nK a0 = some r) : cD Tryz.prog 48 [.int .i64 a0] (retD [.slice false (r.1.map iC.d),.int .i64 r.2]):=by
 refine iM (rs:=[.slice false (r.1.map iC.d),.int .i64 r.2]) Tryz.func48 rfl Tryz.ntmps48 (nle rfl) rfl fun O hO=>?_
 show IWP _ _ _ _ ⟨[(0,.int .i64 a0)],[]⟩ _
 unfold nK at h
 refine aC (aA rfl (aE rfl rfl (lb rfl) (sv (d:=.nils) rfl)) <|aA rfl (aE rfl rfl (lb rfl) (sv (d:=.int _ 0) rfl)) <|aB ?_)
 obtain ⟨x1,hx1,h⟩:=aY h
 refine aC (aA rfl (mvI rfl rfl rfl rfl) <|aA rfl (aW (r:=.int _ _) rfl rfl (lb rfl) cl84 (.cons (svI rfl) .nil) rfl (tB _ _ hx1)) <|aA rfl (asI rfl rfl rfl rfl) <|aB ?_)
 refine aV ?_
 obtain ⟨x2,hx2,h⟩:=aR h
 refine aC (aA rfl (mvI rfl rfl rfl rfl) <|aA rfl (aP rfl rfl (lb rfl) (svI rfl) (sv (d:=.int _ 0) rfl) rfl hx2) <|aB ?_)
 refine aT (b:=_) rfl (fun hc3=>?_) (fun hc3=>?_)
 ·
  replace h:=bT h hc3
  refine aC (aA rfl (aE rfl rfl (lb rfl) (sv (d:=.nils) rfl)) <|aA rfl (aE rfl rfl (lb rfl) (sv (d:=.int _ 8) rfl)) <|aB ?_)
  refine aS ?_
  refine aZ ?_
  obtain rfl:=Option.some.inj h
  refine ⟨.inr rfl,_,(.cons (sv rfl) (.cons (sv rfl) .nil)),(.cons (.nils _) (.all _))⟩
 ·
  replace h:=bU h hc3
  refine aU ?_
  refine aN ?_
  obtain ⟨x4,hx4,h⟩:=aY h
  obtain ⟨x5,hx5,h⟩:=aY h
  refine aC (aA rfl (mvI rfl rfl rfl rfl) <|aA rfl (tR rfl rfl (lb rfl) (sv (d:=.int _ 1) rfl) (svI rfl) hx4) <|aA rfl (aAp iC.toEnc0 (0 : UInt8) 0 rfl rfl (lb rfl) Tryz.underlying106 ti5 rfl rfl (svI rfl) hx5 (.all _)) <|aA rfl (aE rfl rfl (lb rfl) (sv (d:=.osl _ _ _) rfl)) <|aB ?_)
  refine aV ?_
  obtain ⟨x6,hx6,h⟩:=aR h
  refine aC (aA rfl (aK rfl rfl (lb rfl) (sv (d:=.osl _ _ _) rfl)) <|aA rfl (oH rfl rfl (lb rfl) Tryz.underlying106 (sv (d:=.osl _ _ _) rfl)) <|aA rfl (bL rfl rfl (lb rfl) (svI rfl) (sv (d:=.int _ 1) rfl) rfl hx6) <|aA rfl (asI rfl rfl rfl rfl) <|aB ?_)
  refine bG ?_
  refine cW (α:=Nat × Int × (List UInt8) × Int) (fun z=>⟨[(0,.int .i64 z.2.1),(4,.int .i64 x1),(5,.osl 0 iC.sz z.2.2.1.length),(6,.int .i64 z.2.2.2)],[(0,.blk 5 (D.flat (z.2.2.1.map iC.d)))]⟩) (fun z=>jH x1 z.1 z.2.1 z.2.2.1 z.2.2.2 = some r) (fun z=>z.1) (fuel,a0,x5,x6) (fun i=>i) ⟨(.sames rfl rfl),(.cons (EntW.lst rfl) .nil),bX [0] rfl (by decide),fun _ _=>rfl⟩ ?_ ?_
  ·exact h
  ·
   rintro ⟨n0,v16,v17,v18⟩ h
   cases n0 with
   | zero=>exact absurd h (by unfold jH; exact nofun)
   | succ n0 =>
    unfold jH at h
    refine aV ?_
    obtain ⟨x28,hx28,h⟩:=aR h
    refine aC (aA rfl (mvI rfl rfl rfl rfl) <|aA rfl (aP rfl rfl (lb rfl) (svI rfl) (sv (d:=.int _ 0) rfl) rfl hx28) <|aB ?_)
    refine aT (b:=_) rfl (fun hc29=>?_) (fun hc29=>?_)
    ·
     replace h:=bT h hc29
     refine aU ?_
     refine aN ?_
     refine aV ?_
     refine bG ?_
     obtain ⟨x30,hx30,h⟩:=aR h
     obtain ⟨x31,hx31,h⟩:=aY h
     obtain ⟨x32,hx32,h⟩:=aY h
     obtain ⟨x33,hx33,h⟩:=aY h
     obtain ⟨x34,hx34,h⟩:=aR h
     refine aC (aA rfl (aK rfl rfl (lb rfl) (sv (d:=.osl _ _ _) rfl)) <|aA rfl (mvI rfl rfl rfl rfl) <|aA rfl (mvI rfl rfl rfl rfl) <|aA rfl (fX rfl rfl (lb rfl) ⟨_,Tryz.underlying3⟩ Tryz.underlying5 (svI rfl) hx30) <|aA rfl (jN iC.toEnc0 rfl rfl (lb rfl) Tryz.underlying106 ti5 (sv (d:=.osl _ _ _) rfl) rfl (svI rfl) hx31) <|aA rfl (lJ iC.toEnc0 (a':=x33) rfl rfl ti5 (svR rfl) rfl (aCp (svI rfl) (aCo hx33)) rfl rfl rfl hx32 (nle rfl) rfl hx34) <|aB ?_)
     obtain ⟨x35,hx35,h⟩:=aY h
     refine bD (aA rfl (mvI rfl rfl rfl rfl) <|aA rfl (pY rfl rfl (lb rfl) (svI rfl) (sv (d:=.int _ 8) rfl) hx35) <|aA rfl (asI rfl rfl rfl rfl) <|bW ?_)
     refine bZ ?_
     refine aN ?_
     obtain ⟨x36,hx36,h⟩:=aR h
     refine bD (aA rfl (mvI rfl rfl rfl rfl) <|aA rfl (bL rfl rfl (lb rfl) (svI rfl) (sv (d:=.int _ 1) rfl) rfl hx36) <|aA rfl (asI rfl rfl rfl rfl) <|bW ?_)
     refine aN ⟨(n0,x35,x34,x36),(fun i=>i),⟨(.s rfl rfl (.s rfl rfl (.cons (.same (congrArg (D.osl _ _) (rB hx34 rfl).symm) rfl) (.sames rfl rfl)))),(.cons (EntW.lst rfl) .nil),bX [0] rfl (by decide),fun _ _=>rfl⟩,?_,?_⟩
     exact h
     exact Nat.lt_succ_self _
    ·
     replace h:=bU h hc29
     refine cN ?_
     refine bI ?_
     refine bI ?_
     refine cO ?_
     refine aN ?_
     obtain ⟨x37,hx37,h⟩:=aY h
     obtain ⟨x38,hx38,h⟩:=aY h
     obtain ⟨x39,hx39,h⟩:=aY h
     obtain ⟨x40,hx40,h⟩:=aR h
     obtain ⟨x41,hx41,h⟩:=aR h
     obtain ⟨x42,hx42,h⟩:=aY h
     obtain ⟨x43,hx43,h⟩:=aY h
     obtain ⟨x44,hx44,h⟩:=aY h
     obtain ⟨x45,hx45,h⟩:=aR h
     refine aC (aA rfl (aK rfl rfl (lb rfl) (sv (d:=.osl _ _ _) rfl)) <|aA rfl (jN iC.toEnc0 rfl rfl (lb rfl) Tryz.underlying106 ti5 (sv (d:=.osl _ _ _) rfl) rfl (sv (d:=.int _ 0) rfl) hx37) <|aA rfl (kR iC.toEnc0 (d:=.int _ _) rfl rfl (lb rfl) Tryz.underlying5 ag5 ti5 (by decide) (svR rfl) rfl hx38 (nle rfl) rfl) <|aA rfl (mvI rfl rfl rfl rfl) <|aA rfl (tR rfl rfl (lb rfl) (svI rfl) (sv (d:=.int _ 6) rfl) hx39) <|aA rfl (fX rfl rfl (lb rfl) ⟨_,Tryz.underlying3⟩ Tryz.underlying5 (svI rfl) hx40) <|aA rfl (bL rfl rfl (lb rfl) (svI rfl) (svI rfl) rfl hx41) <|aA rfl (jN iC.toEnc0 rfl rfl (lb rfl) Tryz.underlying106 ti5 (sv (d:=.osl _ _ _) rfl) rfl (sv (d:=.int _ 0) rfl) hx42) <|aA rfl (lJ iC.toEnc0 (a':=x44) rfl rfl ti5 (svR rfl) rfl (aCp (svI rfl) (aCo hx44)) rfl rfl rfl hx43 (nle rfl) rfl hx45) <|aB ?_)
     refine aC (aA rfl (aK rfl rfl (lb rfl) (sv (d:=.osl _ _ _) rfl)) <|aA rfl (aE rfl rfl (lb rfl) (sv (d:=.osl _ _ _) rfl)) <|aA rfl (aE rfl rfl (lb rfl) (sv (d:=.int _ 0) rfl)) <|aB ?_)
     refine aS ?_
     obtain rfl:=Option.some.inj h
     refine ⟨.inr rfl,_,(.cons (sv rfl) (.cons (sv rfl) .nil)),(.cons (FDT iC rfl (rB hx45 rfl)) (.all _))⟩

theorem zC (a0 : (List Int)) (r : ((List UInt8) × Int)) (h : pO a0 = some r) : cD Tryz.prog 117 [.slice false (a0.map (eInt .i64).d)] (retD [.slice false (r.1.map iC.d),.int .i64 r.2]):=by
 refine bA (rs:=[.slice false (r.1.map iC.d),.int .i64 r.2]) Tryz.func117 rfl Tryz.ntmps117 (nle rfl) rfl fun O hO=>?_
 show IWP _ _ _ _ ⟨[(0,.slice false (a0.map (eInt .i64).d))],[]⟩ _
 unfold pO at h
 refine aC (aA rfl (aE rfl rfl (lb rfl) (sv (d:=.nils) rfl)) <|aA rfl (aE rfl rfl (lb rfl) (sv (d:=.int _ 0) rfl)) <|aB ?_)
 refine aC (aA rfl (aE rfl rfl (lb rfl) (sv (d:=.nils) rfl)) <|aB ?_)
 refine aV ?_
 refine aC (aA rfl (mvL rfl rfl rfl rfl) <|aA rfl (cJ (eInt .i64) (l:=a0) rfl rfl (lb rfl) Tryz.underlying147 (svL rfl)) <|aA rfl (aK rfl rfl (lb rfl) (sv (d:=.int _ 0) rfl)) <|aB ?_)
 refine bG ?_
 refine cW (α:=Nat × (List UInt8) × Int) (fun z=>⟨[(4,.gsl 21 iC.sz (z.2.1.map iC.d)),(9,.slice false (a0.map (eInt .i64).d)),(10,.int .i64 (a0.length : Int)),(11,.int .i64 z.2.2)],[(21,.tail 5 iC.sz z.2.1.length)]⟩) (fun z=>iU a0 z.1 z.2.1 z.2.2 = some r) (fun z=>z.1) (fuel,([] : (List UInt8)),0) (fun i=>if i = 21 then 71 else i) ⟨(.cons (.nils rfl) (.sames rfl rfl)),(.cons (.nils rfl) .nil),bX [71] rfl (by decide),(fun i hi=>by first | rfl | (show (if _ then _ else _) = _; (repeat' split) <;> omega))⟩ ?_ ?_
 ·exact h
 ·
  rintro ⟨n0,v9,v10⟩ h
  cases n0 with
  | zero=>exact absurd h (by unfold iU; exact nofun)
  | succ n0 =>
   unfold iU at h
   obtain ⟨x19,hx19,h⟩:=aR h
   refine aC (aA rfl (aP rfl rfl (lb rfl) (svI rfl) (svI rfl) rfl hx19) <|aB ?_)
   refine aV ?_
   refine aT (b:=_) rfl (fun hc20=>?_) (fun hc20=>?_)
   ·
    replace h:=bT h hc20
    refine aU ?_
    refine aN ?_
    refine aV ?_
    refine bG ?_
    obtain ⟨x21,hx21,h⟩:=aY h
    refine aC (aA rfl (cY (eInt .i64) (cs:=[.int _ _]) rfl rfl (lb rfl) Tryz.underlying147 ti3 (svL rfl) (svI rfl) hx21 rfl rfl) <|aA rfl (eT rfl rfl (lb rfl) Tryz.underlying3 ag3 ti3 (by decide) (sv (d:=.fptr [.int _ _]) rfl) (nle rfl)) <|aA rfl (asI rfl rfl rfl rfl) <|aB ?_)
    obtain ⟨x22,hx22,h⟩:=aY h
    refine aC (aA rfl (mvI rfl rfl rfl rfl) <|aA rfl (aW (r:=.tuple q24) rfl rfl (lb rfl) cl48 (.cons (svI rfl) .nil) rfl (uW _ _ hx22)) <|aA rfl (aK rfl rfl (lb rfl) (sv (d:=.tuple q24) rfl)) <|aA rfl (bE (d:=.slice _ _) rfl rfl (lb rfl) (sv (d:=.tuple q24) rfl) rfl) <|aA rfl (bE (d:=.int _ _) rfl rfl (lb rfl) (sv (d:=.tuple q24) rfl) rfl) <|aA rfl (aE rfl rfl (lb rfl) (svL rfl)) <|aA rfl (asI rfl rfl rfl rfl) <|aB ?_)
    refine aV ?_
    obtain ⟨x23,hx23,h⟩:=aR h
    refine aC (aA rfl (mvI rfl rfl rfl rfl) <|aA rfl (aP rfl rfl (lb rfl) (svI rfl) (sv (d:=.int _ 0) rfl) rfl hx23) <|aB ?_)
    refine aT (b:=_) rfl (fun hc24=>?_) (fun hc24=>?_)
    ·
     replace h:=bT h hc24
     refine aC (aA rfl (mvI rfl rfl rfl rfl) <|aA rfl (aE rfl rfl (lb rfl) (sv (d:=.nils) rfl)) <|aA rfl (asI rfl rfl rfl rfl) <|aB ?_)
     refine aS ?_
     refine aZ ?_
     refine bP ?_
     refine aZ ?_
     refine aZ ?_
     refine bP ?_
     refine aZ ?_
     obtain rfl:=Option.some.inj h
     refine ⟨.inr rfl,(.cons (sW rfl rfl) (.cons (sv rfl) .nil))⟩
    ·
     replace h:=bU h hc24
     refine aU ?_
     refine aN ?_
     obtain ⟨x25,hx25,h⟩:=aY h
     refine bD (aA rfl (aK rfl rfl (lb rfl) (sv (d:=.gsl _ _ _) rfl)) <|aA rfl (mvL rfl rfl rfl rfl) <|aA rfl (oJ iC 22 rfl rfl (lb rfl) Tryz.underlying106 ti5 rfl rfl rfl rfl (svL rfl) hx25) <|aA rfl (aE rfl rfl (lb rfl) (sv (d:=.gsl _ _ _) rfl)) <|bW ?_)
     refine bZ ?_
     refine aN ?_
     obtain ⟨x26,hx26,h⟩:=aR h
     refine bD (aA rfl (bL rfl rfl (lb rfl) (svI rfl) (sv (d:=.int _ 1) rfl) rfl hx26) <|aA rfl (mvI rfl rfl rfl rfl) <|bW ?_)
     refine aN ⟨(n0,x25,x26),(fun i=>if i = 21 then 22 else i),⟨(.sames rfl rfl),(.cons (.tail rfl) .nil),bX [22] rfl (by decide),(fun i hi=>by first | rfl | (show (if _ then _ else _) = _; (repeat' split) <;> omega))⟩,?_,?_⟩
     exact h
     exact Nat.lt_succ_self _
   ·
    replace h:=bU h hc20
    refine cN ?_
    refine bI ?_
    refine bI ?_
    refine cO ?_
    refine aN ?_
    refine aC (aA rfl (aK rfl rfl (lb rfl) (sv (d:=.gsl _ _ _) rfl)) <|aA rfl (aE rfl rfl (lb rfl) (sv (d:=.gsl _ _ _) rfl)) <|aA rfl (aE rfl rfl (lb rfl) (sv (d:=.int _ 0) rfl)) <|aB ?_)
    refine aS ?_
    obtain rfl:=Option.some.inj h
    refine ⟨.inr rfl,(.cons (xV rfl rfl) (.cons (sv rfl) .nil))⟩

theorem zD (a0 : (List Int)) (r : ((List UInt8) × Int)) (h : mC a0 = some r) : cD Tryz.prog 83 [.slice false (a0.map (eInt .i64).d)] (retD [.slice false (r.1.map iC.d),.int .i64 r.2]):=by
 refine bA (rs:=[.slice false (r.1.map iC.d),.int .i64 r.2]) Tryz.func83 rfl Tryz.ntmps83 (nle rfl) rfl fun O hO=>?_
 show IWP _ _ _ _ ⟨[(0,.slice false (a0.map (eInt .i64).d))],[]⟩ _
 unfold mC at h
 refine aC (aA rfl (aE rfl rfl (lb rfl) (sv (d:=.nils) rfl)) <|aA rfl (aE rfl rfl (lb rfl) (sv (d:=.int _ 0) rfl)) <|aB ?_)
 obtain ⟨x1,hx1,h⟩:=aY h
 refine aC (aA rfl (mvL rfl rfl rfl rfl) <|aA rfl (aW (r:=.tuple q24) rfl rfl (lb rfl) cl117 (.cons (svL rfl) .nil) rfl (zC _ _ hx1)) <|aA rfl (bE (d:=.slice _ _) rfl rfl (lb rfl) (sv (d:=.tuple q24) rfl) rfl) <|aA rfl (bE (d:=.int _ _) rfl rfl (lb rfl) (sv (d:=.tuple q24) rfl) rfl) <|aA rfl (aE rfl rfl (lb rfl) (svL rfl)) <|aA rfl (asI rfl rfl rfl rfl) <|aB ?_)
 refine aS ?_
 obtain rfl:=Option.some.inj h
 refine ⟨.inr rfl,(.cons (sv rfl) (.cons (sv rfl) .nil))⟩

theorem qY (a0 : aH) (r : (List UInt8)) (h : gY a0 = some r) : cD Tryz.prog 47 [.agg (v1 a0)] (.str r):=by
 refine bA (rs:=[.str r]) Tryz.func47 rfl Tryz.ntmps47 (nle rfl) rfl fun O hO=>?_
 show IWP _ _ _ _ ⟨[(0,.agg (v1 a0))],[]⟩ _
 unfold gY at h
 refine aC (aA rfl (bR (cs:=q10) 0 rfl rfl (lb rfl) rfl (svA q10 rfl) rfl rfl) <|aA rfl (aE rfl rfl (lb rfl) (sv (d:=.str []) rfl)) <|aB ?_)
 refine aC (aA rfl (aE rfl rfl (lb rfl) (sv (d:=.nils) rfl)) <|aB ?_)
 refine aV ?_
 obtain ⟨x1,hx1,h⟩:=aY h
 refine aC (aA rfl (dU (r':=.osl 1 (eRef 0).sz x1.length) (H1':=[(0,.blk 50 (v1 a0)),(1,.blk 150 (D.flat (x1.map (eRef 0).d)))]) 1 [0] rfl rfl (lb rfl) cl82 (.cons (svR rfl) .nil) rfl rfl ⟨rfl,rfl,by decide,rfl,List.forall_mem_cons.2 ⟨⟨rfl,rfl,rfl,rfl⟩,List.forall_mem_nil _⟩⟩ (jL _ _ hx1) rfl rfl (List.forall_mem_cons.2 ⟨⟨rfl,rfl⟩,List.forall_mem_cons.2 ⟨⟨rfl,(aDZ rfl)⟩,List.forall_mem_nil _⟩⟩) (by simp only [List.map_cons,List.map_nil,Ent.ren,eS,fH]; rfl)) <|aA rfl (oH rfl rfl (lb rfl) Tryz.underlying148 (sv (d:=.osl _ _ _) rfl)) <|aA rfl (aK rfl rfl (lb rfl) (sv (d:=.int _ 0) rfl)) <|aB ?_)
 refine bG ?_
 refine cW (α:=Nat × (List Int) × Int) (fun z=>⟨[(1,.ref 0 0),(3,.gsl 23 (eInt .i64).sz (z.2.1.map (eInt .i64).d)),(10,.osl 1 (eRef 0).sz x1.length),(11,.int .i64 (x1.length : Int)),(12,.int .i64 z.2.2)],[(0,.blk 50 (v1 a0)),(23,.tail 3 (eInt .i64).sz z.2.1.length),(1,.blk 150 (D.flat (x1.map (eRef 0).d)))]⟩) (fun z=>eJ a0 x1 z.1 z.2.1 z.2.2 = some r) (fun z=>z.1) (fuel,([] : (List Int)),0) (fun i=>if i = 23 then 75 else i) ⟨(.s rfl rfl (.cons (.nils rfl) (.sames rfl rfl))),(.cons (.blk rfl rfl rfl) (.cons (.nils rfl) (.cons (EntW.lstR rfl rfl) .nil))),bX [0,75,1] rfl (by decide),(fun i hi=>by first | rfl | (show (if _ then _ else _) = _; (repeat' split) <;> omega))⟩ ?_ ?_
 ·exact h
 ·
  rintro ⟨n0,v9,v10⟩ h
  cases n0 with
  | zero=>exact absurd h (by unfold eJ; exact nofun)
  | succ n0 =>
   unfold eJ at h
   obtain ⟨x18,hx18,h⟩:=aR h
   refine aC (aA rfl (aP rfl rfl (lb rfl) (svI rfl) (svI rfl) rfl hx18) <|aB ?_)
   refine aV ?_
   refine aT (b:=_) rfl (fun hc19=>?_) (fun hc19=>?_)
   ·
    replace h:=bT h hc19
    refine aU ?_
    refine aN ?_
    refine aV ?_
    refine bG ?_
    obtain ⟨x20,hx20,h⟩:=aY h
    obtain ⟨x21,hx21,h⟩:=aY h
    refine aC (aA rfl (jN (eRef 0) rfl rfl (lb rfl) Tryz.underlying148 nF (sv (d:=.osl _ _ _) rfl) rfl (svI rfl) hx20) <|aA rfl (kR (eRef 0) (d:=.ref _ _) rfl rfl (lb rfl) Tryz.underlying150 ag150 nF (by decide) (svR rfl) rfl hx21 (nle rfl) rfl) <|aA rfl (aE rfl rfl (lb rfl) (svR rfl)) <|aB ?_)
    obtain ⟨x22,hx22,h⟩:=aY h
    obtain ⟨x23,hx23,h⟩:=aY h
    refine bD (aA rfl (aK rfl rfl (lb rfl) (sv (d:=.gsl _ _ _) rfl)) <|aA rfl (mvR rfl rfl rfl rfl) <|aA rfl (bM rfl rfl (lb rfl) (svR rfl)) <|aA rfl (aAq rfl rfl (lb rfl) Tryz.underlying3 ag3 ti3 (svR rfl) rfl hx22) <|aA rfl (oQ (eInt .i64) ([x22] : (List Int)) 24 rfl rfl (lb rfl) Tryz.underlying147 ti3 rfl (.cons (svI rfl) .nil) rfl rfl (by decide)) <|aA rfl (oJ (eInt .i64) 25 rfl rfl (lb rfl) Tryz.underlying147 ti3 rfl rfl rfl rfl (svg rfl) hx23) <|aA rfl (aE rfl rfl (lb rfl) (sv (d:=.gsl _ _ _) rfl)) <|bW ?_)
    refine bZ ?_
    refine aN ?_
    obtain ⟨x24,hx24,h⟩:=aR h
    refine bD (aA rfl (bL rfl rfl (lb rfl) (svI rfl) (sv (d:=.int _ 1) rfl) rfl hx24) <|aA rfl (mvI rfl rfl rfl rfl) <|bW ?_)
    refine aN ⟨(n0,x23,x24),(fun i=>if i = 23 then 25 else i),⟨(.sames rfl rfl),(.cons (.blk rfl rfl rfl) (.cons (.tail rfl) (.cons (EntW.lstR rfl rfl) .nil))),bX [0,25,1] rfl (by decide),(fun i hi=>by first | rfl | (show (if _ then _ else _) = _; (repeat' split) <;> omega))⟩,?_,?_⟩
    exact h
    exact Nat.lt_succ_self _
   ·
    replace h:=bU h hc19
    refine cN ?_
    refine bI ?_
    refine bI ?_
    refine cO ?_
    refine aN ?_
    refine aV ?_
    refine aC (aA rfl (faR 8 rfl rfl rfl Tryz.underlying50 rfl ti42 (lb rfl) rfl rfl) <|aA rfl (lrL la42 rfl rfl rfl rfl rfl (nle rfl) rfl) <|aA rfl (cJ bN (l:=a0.Pairs) rfl rfl (lb rfl) Tryz.underlying42 (svL rfl)) <|aA rfl (aK rfl rfl (lb rfl) (sv (d:=.int _ 0) rfl)) <|aB ?_)
    refine bG ?_
    refine cW (α:=Nat × (List Int) × Int) (fun z=>⟨[(1,.ref 0 0),(3,.gsl 23 (eInt .i64).sz (z.2.1.map (eInt .i64).d)),(24,.slice false (a0.Pairs.map bN.d)),(25,.int .i64 (a0.Pairs.length : Int)),(26,.int .i64 z.2.2)],[(0,.blk 50 (v1 a0)),(23,.tail 3 (eInt .i64).sz z.2.1.length)]⟩) (fun z=>eI a0 z.1 z.2.1 z.2.2 = some r) (fun z=>z.1) (fuel,v9,0) (fun i=>i) ⟨(.sames rfl rfl),(.cons (.blk rfl rfl rfl) (.cons (.tail rfl) .nil)),bX [0,23] rfl (by decide),fun _ _=>rfl⟩ ?_ ?_
    ·exact h
    ·
     rintro ⟨n1,v30,v31⟩ h
     cases n1 with
     | zero=>exact absurd h (by unfold eI; exact nofun)
     | succ n1 =>
      unfold eI at h
      obtain ⟨x37,hx37,h⟩:=aR h
      refine aC (aA rfl (aP rfl rfl (lb rfl) (svI rfl) (svI rfl) rfl hx37) <|aB ?_)
      refine aV ?_
      refine aT (b:=_) rfl (fun hc38=>?_) (fun hc38=>?_)
      ·
       replace h:=bT h hc38
       refine aU ?_
       refine aN ?_
       refine aV ?_
       refine bG ?_
       obtain ⟨x39,hx39,h⟩:=aY h
       refine aC (aA rfl (cY bN (cs:=q25) rfl rfl (lb rfl) Tryz.underlying42 qN (svL rfl) (svI rfl) hx39 rfl rfl) <|aA rfl (cQ (cs:=q25) rfl rfl (lb rfl) Tryz.underlying136 aCh qN (by decide) (sv (d:=.fptr q25) rfl) (nle rfl) rfl) <|aA rfl (bJ (cs:=q25) (cs':=[.int .i64 0,.int .i64 0]) 24 rfl rfl (lb rfl) rfl qN rfl rfl (.all _)) <|aA rfl (stA q25 q25 qN rfl rfl rfl rfl rfl rfl rfl rfl (nle rfl) rfl) <|aB ?_)
       obtain ⟨x40,hx40,h⟩:=aY h
       refine bD (aA rfl (aK rfl rfl (lb rfl) (sv (d:=.gsl _ _ _) rfl)) <|aA rfl (faR 0 rfl rfl rfl Tryz.underlying136 rfl ti3 (lb rfl) rfl rfl) <|aA rfl (aG (d:=.int _ _) rfl rfl (lb rfl) Tryz.underlying3 ag3 ti3 (by decide) (svR rfl) rfl (nle rfl) rfl) <|aA rfl (faR 1 rfl rfl rfl Tryz.underlying136 rfl ti3 (lb rfl) rfl rfl) <|aA rfl (aG (d:=.int _ _) rfl rfl (lb rfl) Tryz.underlying3 ag3 ti3 (by decide) (svR rfl) rfl (nle rfl) rfl) <|aA rfl (oQ (eInt .i64) ([x39.ID,x39.Value] : (List Int)) 25 rfl rfl (lb rfl) Tryz.underlying147 ti3 rfl (.cons (svI rfl) (.cons (svI rfl) .nil)) rfl rfl (by decide)) <|aA rfl (oJ (eInt .i64) 26 rfl rfl (lb rfl) Tryz.underlying147 ti3 rfl rfl rfl rfl (svg rfl) hx40) <|aA rfl (aE rfl rfl (lb rfl) (sv (d:=.gsl _ _ _) rfl)) <|bW ?_)
       refine bZ ?_
       refine aN ?_
       obtain ⟨x41,hx41,h⟩:=aR h
       refine bD (aA rfl (bL rfl rfl (lb rfl) (svI rfl) (sv (d:=.int _ 1) rfl) rfl hx41) <|aA rfl (mvI rfl rfl rfl rfl) <|bW ?_)
       refine aN ⟨(n1,x40,x41),(fun i=>if i = 23 then 26 else i),⟨(.sames rfl rfl),(.cons (.blk rfl rfl rfl) (.cons (.tail rfl) .nil)),bX [0,26] rfl (by decide),(fun i hi=>by first | rfl | (show (if _ then _ else _) = _; (repeat' split) <;> omega))⟩,?_,?_⟩
       exact h
       exact Nat.lt_succ_self _
      ·
       replace h:=bU h hc38
       refine cN ?_
       refine bI ?_
       refine bI ?_
       refine cO ?_
       refine aN ?_
       obtain ⟨x42,hx42,h⟩:=aY h
       refine aC (aA rfl (aK rfl rfl (lb rfl) (sv (d:=.gsl _ _ _) rfl)) <|aA rfl (aW (r:=.tuple q24) rfl rfl (lb rfl) cl83 (.cons (svg rfl) .nil) rfl (zD _ _ hx42)) <|aA rfl (aK rfl rfl (lb rfl) (sv (d:=.tuple q24) rfl)) <|aA rfl (bE (d:=.slice _ _) rfl rfl (lb rfl) (sv (d:=.tuple q24) rfl) rfl) <|aA rfl (bE (d:=.int _ _) rfl rfl (lb rfl) (sv (d:=.tuple q24) rfl) rfl) <|aA rfl (aE rfl rfl (lb rfl) (svL rfl)) <|aA rfl (asI rfl rfl rfl rfl) <|aB ?_)
       obtain ⟨x43,hx43,h⟩:=aY h
       refine aC (aA rfl (mvL rfl rfl rfl rfl) <|aA rfl (qB (l:=x42.1) rfl rfl (lb rfl) Tryz.underlying106 Tryz.underlying5 Tryz.underlying9 (svL rfl)) <|aA rfl (faR 9 rfl rfl rfl Tryz.underlying50 rfl ti9 (lb rfl) rfl rfl) <|aA rfl (aG (d:=.str _) rfl rfl (lb rfl) Tryz.underlying9 ag9 ti9 (by decide) (svR rfl) rfl (nle rfl) rfl) <|aA rfl (nI rfl rfl (lb rfl) (sv (d:=.str _) rfl) (sv (d:=.str _) rfl) hx43) <|aA rfl (aE rfl rfl (lb rfl) (sv (d:=.str _) rfl)) <|aB ?_)
       refine aS ?_
       obtain rfl:=Option.some.inj h
       refine ⟨.inr rfl,(.cons (sv rfl) .nil)⟩

theorem nZ (a0 : (List UInt8)) (r : (List UInt8)) (h : fB a0 = some r) : FnH Tryz.prog 85 [.slice false (a0.map iC.d)] [] (.osl 0 iC.sz r.length) [(0,.blk 5 (D.flat (r.map iC.d)))]:=by
 refine eU (rs:=[.osl 0 iC.sz r.length]) Tryz.func85 rfl Tryz.ntmps85 (nle rfl) fun O hO=>?_
 show IWP _ _ _ _ ⟨[(0,.slice false (a0.map iC.d))],[]⟩ _
 unfold fB at h
 refine aC (aA rfl (aE rfl rfl (lb rfl) (sv (d:=.nils) rfl)) <|aB ?_)
 refine aV ?_
 refine aC (aA rfl (mvL rfl rfl rfl rfl) <|tW rfl rfl rfl (by decide) Tryz.underlying106 (svL rfl) rfl <| fun bn1 hbn1 =>
  aB ?_)
 refine aT (b:=_) rfl (fun hc2=>?_) (fun hc2=>?_)
 ·
  replace h:=aAC h (mapE (hbn1 hc2))
  refine aC (aA rfl (aE rfl rfl (lb rfl) (sv (d:=.nils) rfl)) <|aB ?_)
  refine aS ?_
  refine aZ ?_
  obtain rfl:=Option.some.inj h
  refine ⟨.inr rfl,(fun i=>if i = 0 then 50 else i),⟨.nil,(.cons (.nilb rfl) .nil),bX [50] rfl (by decide),(fun i hi=>by first | rfl | (show (if _ then _ else _) = _; (repeat' split) <;> omega))⟩,(.cons (svno rfl) .nil),rfl⟩
 ·
  replace h:=aAD h
  refine aU ?_
  refine aN ?_
  obtain ⟨x3,hx3,h⟩:=aY h
  refine aC (aA rfl (jP iC.toEnc0 ([] : (List UInt8)) 0 rfl rfl (lb rfl) Tryz.underlying106 ti5 rfl .nil rfl rfl (by decide)) <|aA rfl (mvL rfl rfl rfl rfl) <|aA rfl (kS iC.toEnc0 1 rfl rfl (lb rfl) Tryz.underlying106 ti5 rfl rfl rfl rfl rfl (aAP iC (ys:=a0) (svL rfl)) hx3) <|aA rfl (aE rfl rfl (lb rfl) (sv (d:=.osl _ _ _) rfl)) <|aB ?_)
  refine aS ?_
  obtain rfl:=Option.some.inj h
  refine ⟨.inr rfl,(fun i=>if i = 0 then 1 else i),⟨.nil,(.cons (EntW.lst rfl) .nil),bX [1] rfl (by decide),(fun i hi=>by first | rfl | (show (if _ then _ else _) = _; (repeat' split) <;> omega))⟩,(.cons (sv rfl) .nil),rfl⟩

theorem zG (a0 : Int) (a1 : Int) (r : Bool) (h : nX a0 a1 = some r) : cD Tryz.prog 86 [.int .i64 a0,.int .i64 a1] (.bool r):=by
 refine bA (rs:=[.bool r]) Tryz.func86 rfl Tryz.ntmps86 (nle rfl) rfl fun O hO=>?_
 show IWP _ _ _ _ ⟨[(0,.int .i64 a0),(1,.int .i64 a1)],[]⟩ _
 unfold nX at h
 refine aC (aA rfl (aE rfl rfl (lb rfl) (sv (d:=.bool false) rfl)) <|aB ?_)
 obtain ⟨x1,hx1,h⟩:=aR h
 obtain ⟨x2,hx2,h⟩:=aR h
 obtain ⟨x3,hx3,h⟩:=aR h
 obtain ⟨x4,hx4,h⟩:=aR h
 obtain ⟨x5,hx5,h⟩:=aR h
 obtain ⟨x6,hx6,h⟩:=aR h
 obtain ⟨x7,hx7,h⟩:=aY h
 obtain ⟨x8,hx8,h⟩:=aR h
 obtain ⟨x9,hx9,h⟩:=aR h
 refine aC (aA rfl (mvI rfl rfl rfl rfl) <|aA rfl (aP rfl rfl (lb rfl) (svI rfl) (sv (d:=.int _ 0) rfl) rfl hx1) <|aA rfl (mvB rfl rfl rfl rfl) <|aF rfl rfl (.one rfl) rfl (by decide) (fun hb=>(mvI rfl rfl rfl rfl)) <|aF rfl rfl (.one rfl) rfl (by decide) (fun hb=>(aP rfl rfl (lb rfl) (svcI rfl hb) (sv (d:=.int _ 1) rfl) rfl hx2)) <|aA rfl (bO rfl rfl (lb rfl) (svB rfl) rfl rfl hx3) <|aA rfl (mvB rfl rfl rfl rfl) <|aF rfl rfl (.one rfl) rfl (by decide) (fun hb=>(mvI rfl rfl rfl rfl)) <|aF rfl rfl (.one rfl) rfl (by decide) (fun hb=>(aP rfl rfl (lb rfl) (svcI rfl hb) (sv (d:=.int _ 7) rfl) rfl hx4)) <|aA rfl (bO rfl rfl (lb rfl) (svB rfl) rfl rfl hx5) <|aA rfl (mvB rfl rfl rfl rfl) <|aF rfl rfl (.one rfl) rfl (by decide) (fun hb=>(mvI rfl rfl rfl rfl)) <|aF rfl rfl (.one rfl) rfl (by decide) (fun hb=>(mvI rfl rfl rfl rfl)) <|aF rfl rfl (.one rfl) rfl (by decide) (fun hb=>(bL rfl rfl (lb rfl) (sv (d:=.int _ 8) rfl) (svcI rfl hb) rfl hx6)) <|aF rfl rfl (.one rfl) rfl (by decide) (fun hb=>(pY rfl rfl (lb rfl) (svcI rfl hb) (svcI rfl hb) (gd_t hx7 hb))) <|aF rfl rfl (.one rfl) rfl (by decide) (fun hb=>(aP rfl rfl (lb rfl) (svcI rfl hb) (sv (d:=.int _ 0) rfl) rfl hx8)) <|aA rfl (bO rfl rfl (lb rfl) (svB rfl) rfl rfl hx9) <|aA rfl (asB rfl rfl rfl rfl) <|aB ?_)
 refine aS ?_
 obtain rfl:=Option.some.inj h
 refine ⟨.inr rfl,(.cons (sv rfl) .nil)⟩

theorem uZ (a0 : (List UInt8)) (a1 : Int) (a2 : Int) (r : (List UInt8)) (h : nN a0 a1 a2 = some r) : cD Tryz.prog 49 [.slice false (a0.map iC.d),.int .i64 a1,.int .i64 a2] (.slice false (r.map iC.d)):=by
 refine iM (rs:=[.slice false (r.map iC.d)]) Tryz.func49 rfl Tryz.ntmps49 (nle rfl) rfl fun O hO=>?_
 show IWP _ _ _ _ ⟨[(0,.slice false (a0.map iC.d)),(1,.int .i64 a1),(2,.int .i64 a2)],[]⟩ _
 unfold nN at h
 refine aC (aA rfl (aE rfl rfl (lb rfl) (sv (d:=.nils) rfl)) <|aB ?_)
 obtain ⟨x1,hx1,h⟩:=aY h
 refine aC (aA rfl (mvL rfl rfl rfl rfl) <|aA rfl (dU (r':=.osl 0 iC.sz x1.length) (H1':=[(0,.blk 5 (D.flat (x1.map iC.d)))]) 0 [] rfl rfl (lb rfl) cl85 (.cons (svL rfl) .nil) rfl rfl ⟨rfl,rfl,by decide,rfl,List.forall_mem_nil _⟩ (nZ _ _ hx1) rfl rfl (List.forall_mem_cons.2 ⟨⟨rfl,(jT iC)⟩,List.forall_mem_nil _⟩) (by simp only [List.map_cons,List.map_nil,Ent.ren,eS,fH]; rfl)) <|aA rfl (aE rfl rfl (lb rfl) (sv (d:=.osl _ _ _) rfl)) <|aB ?_)
 refine aV ?_
 obtain ⟨x2,hx2,h⟩:=aY h
 refine aC (aA rfl (mvI rfl rfl rfl rfl) <|aA rfl (mvI rfl rfl rfl rfl) <|aA rfl (aW (r:=.bool _) rfl rfl (lb rfl) cl86 (.cons (svI rfl) (.cons (svI rfl) .nil)) rfl (zG _ _ _ hx2)) <|aA rfl (dD rfl rfl (lb rfl) (svB rfl)) <|aB ?_)
 refine aT (b:=_) rfl (fun hc3=>?_) (fun hc3=>?_)
 ·
  replace h:=bT h hc3
  refine aC (aA rfl (aK rfl rfl (lb rfl) (sv (d:=.osl _ _ _) rfl)) <|aA rfl (aE rfl rfl (lb rfl) (sv (d:=.osl _ _ _) rfl)) <|aB ?_)
  refine aS ?_
  refine aZ ?_
  obtain rfl:=Option.some.inj h
  refine ⟨.inr rfl,_,(.cons (sv rfl) .nil),(.cons (FDT iC rfl rfl) .nil)⟩
 ·
  replace h:=bU h hc3
  refine aU ?_
  refine aN ?_
  refine aV ?_
  refine aC (aA rfl (mvI rfl rfl rfl rfl) <|aA rfl (aK rfl rfl (lb rfl) (sv (d:=.int _ 0) rfl)) <|aB ?_)
  refine bG ?_
  refine cW (α:=Nat × (List UInt8) × Int) (fun z=>⟨[(1,.int .i64 a1),(2,.int .i64 a2),(7,.osl 0 iC.sz z.2.1.length),(16,.int .i64 a2),(17,.int .i64 z.2.2)],[(0,.blk 5 (D.flat (z.2.1.map iC.d)))]⟩) (fun z=>kT a1 a2 z.1 z.2.1 z.2.2 = some r) (fun z=>z.1) (fuel,x1,0) (fun i=>i) ⟨(.sames rfl rfl),(.cons (EntW.lst rfl) .nil),bX [0] rfl (by decide),fun _ _=>rfl⟩ ?_ ?_
  ·exact h
  ·
   rintro ⟨n0,v14,v15⟩ h
   cases n0 with
   | zero=>exact absurd h (by unfold kT; exact nofun)
   | succ n0 =>
    unfold kT at h
    obtain ⟨x26,hx26,h⟩:=aR h
    refine aC (aA rfl (aP rfl rfl (lb rfl) (svI rfl) (svI rfl) rfl hx26) <|aB ?_)
    refine aV ?_
    refine aT (b:=_) rfl (fun hc27=>?_) (fun hc27=>?_)
    ·
     replace h:=bT h hc27
     refine aU ?_
     refine aN ?_
     refine aV ?_
     refine bG ?_
     refine aC (aA rfl (mvI rfl rfl rfl rfl) <|aA rfl (asI rfl rfl rfl rfl) <|aB ?_)
     obtain ⟨x28,hx28,h⟩:=aR h
     obtain ⟨x29,hx29,h⟩:=aR h
     obtain ⟨x30,hx30,h⟩:=aR h
     obtain ⟨x31,hx31,h⟩:=aY h
     obtain ⟨x32,hx32,h⟩:=aR h
     obtain ⟨x33,hx33,h⟩:=aY h
     obtain ⟨x34,hx34,h⟩:=aY h
     refine bD (aA rfl (aK rfl rfl (lb rfl) (sv (d:=.osl _ _ _) rfl)) <|aA rfl (mvI rfl rfl rfl rfl) <|aA rfl (mvI rfl rfl rfl rfl) <|aA rfl (bL rfl rfl (lb rfl) (svI rfl) (sv (d:=.int _ 1) rfl) rfl hx28) <|aA rfl (mvI rfl rfl rfl rfl) <|aA rfl (bL rfl rfl (lb rfl) (svI rfl) (svI rfl) rfl hx29) <|aA rfl (bL rfl rfl (lb rfl) (sv (d:=.int _ 8) rfl) (svI rfl) rfl hx30) <|aA rfl (pY rfl rfl (lb rfl) (svI rfl) (svI rfl) hx31) <|aA rfl (fX rfl rfl (lb rfl) ⟨_,Tryz.underlying3⟩ Tryz.underlying5 (svI rfl) hx32) <|aA rfl (jP iC.toEnc0 ([x33] : (List UInt8)) 1 rfl rfl (lb rfl) Tryz.underlying106 ti5 rfl (.cons (aCp (svI rfl) (aCo hx33)) .nil) rfl rfl (by decide)) <|aA rfl (kS iC.toEnc0 2 rfl rfl (lb rfl) Tryz.underlying106 ti5 rfl rfl rfl rfl rfl (qK iC.toEnc0 rfl rfl rfl) hx34) <|aA rfl (aE rfl rfl (lb rfl) (sv (d:=.osl _ _ _) rfl)) <|bW ?_)
     refine bZ ?_
     refine aN ?_
     obtain ⟨x35,hx35,h⟩:=aR h
     refine bD (aA rfl (bL rfl rfl (lb rfl) (svI rfl) (sv (d:=.int _ 1) rfl) rfl hx35) <|aA rfl (mvI rfl rfl rfl rfl) <|bW ?_)
     refine aN ⟨(n0,x34,x35),(fun i=>if i = 0 then 2 else i),⟨(.sames rfl rfl),(.cons (EntW.lst rfl) .nil),bX [2] rfl (by decide),(fun i hi=>by first | rfl | (show (if _ then _ else _) = _; (repeat' split) <;> omega))⟩,?_,?_⟩
     exact h
     exact Nat.lt_succ_self _
    ·
     replace h:=bU h hc27
     refine cN ?_
     refine bI ?_
     refine bI ?_
     refine cO ?_
     refine aN ?_
     refine aC (aA rfl (aK rfl rfl (lb rfl) (sv (d:=.osl _ _ _) rfl)) <|aA rfl (aE rfl rfl (lb rfl) (sv (d:=.osl _ _ _) rfl)) <|aB ?_)
     refine aS ?_
     obtain rfl:=Option.some.inj h
     refine ⟨.inr rfl,_,(.cons (sv rfl) .nil),(.cons (FDT iC rfl rfl) .nil)⟩

theorem aBX (a0 : aH) (r : ((List UInt8) × Int)) (h : rE a0 = some r) : cD Tryz.prog 22 [.agg (v1 a0)] (retD [.str r.1,.int .i64 r.2]):=by
 refine bA (rs:=[.str r.1,.int .i64 r.2]) Tryz.func22 rfl Tryz.ntmps22 (nle rfl) rfl fun O hO=>?_
 show IWP _ _ _ _ ⟨[(0,.agg (v1 a0))],[]⟩ _
 unfold rE at h
 refine aC (aA rfl (bR (cs:=q10) 0 rfl rfl (lb rfl) rfl (svA q10 rfl) rfl rfl) <|aA rfl (aE rfl rfl (lb rfl) (sv (d:=.str []) rfl)) <|aA rfl (aE rfl rfl (lb rfl) (sv (d:=.int _ 0) rfl)) <|aB ?_)
 refine aV ?_
 obtain ⟨x1,hx1,h⟩:=aY h
 refine aC (aA rfl (lra q10 la50 rfl rfl rfl rfl rfl (nle rfl) rfl) <|aA rfl (aW (r:=.int _ _) rfl rfl (lb rfl) cl46 (.cons (svA q10 rfl) .nil) rfl (tI _ _ hx1)) <|aA rfl (asI rfl rfl rfl rfl) <|aB ?_)
 obtain ⟨x2,hx2,h⟩:=aR h
 refine aC (aA rfl (mvI rfl rfl rfl rfl) <|aA rfl (aP rfl rfl (lb rfl) (svI rfl) (sv (d:=.int _ 0) rfl) rfl hx2) <|aB ?_)
 refine aT (b:=_) rfl (fun hc3=>?_) (fun hc3=>?_)
 ·
  replace h:=bT h hc3
  refine aC (aA rfl (mvI rfl rfl rfl rfl) <|aA rfl (aE rfl rfl (lb rfl) (sv (d:=.str []) rfl)) <|aA rfl (asI rfl rfl rfl rfl) <|aB ?_)
  refine aS ?_
  refine aZ ?_
  obtain rfl:=Option.some.inj h
  refine ⟨.inr rfl,(.cons (sv rfl) (.cons (sv rfl) .nil))⟩
 ·
  replace h:=bU h hc3
  refine aU ?_
  refine aN ?_
  refine aC (aA rfl (aE rfl rfl (lb rfl) (sv (d:=.int _ 0) rfl)) <|aB ?_)
  refine gK (α:=Int) (fun z=>⟨[(1,.ref 0 0),(5,.int .i64 z)],[(0,.blk 50 (v1 a0))]⟩) (fun z=>lL a0 z = some r) ?_ ?_
  ·
   refine aC (aA rfl (faR 1 rfl rfl rfl Tryz.underlying50 rfl ti4 (lb rfl) rfl rfl) <|aA rfl (aG (d:=.bool _) rfl rfl (lb rfl) Tryz.underlying4 ag4 ti4 (by decide) (svR rfl) rfl (nle rfl) rfl) <|aB ?_)
   refine aT (b:=_) rfl (fun hc15=>?_) (fun hc15=>?_)
   ·
    replace h:=bT h hc15
    refine bD (aA rfl (aE rfl rfl (lb rfl) (sv (d:=.int _ 1) rfl)) <|bW ?_)
    refine aN ⟨1,(fun i=>i),⟨(.sames rfl rfl),(.cons (.blk rfl rfl rfl) .nil),bX [0] rfl (by decide),fun _ _=>rfl⟩,?_⟩
    exact h
   ·
    replace h:=bU h hc15
    refine aU ?_
    refine aN ⟨0,(fun i=>i),⟨(.sames rfl rfl),(.cons (.blk rfl rfl rfl) .nil),bX [0] rfl (by decide),fun _ _=>rfl⟩,?_⟩
    exact h
  ·
   rintro v5 h
   unfold lL at h
   obtain ⟨x6,hx6,h⟩:=aY h
   refine aC (aA rfl (lra q10 la50 rfl rfl rfl rfl rfl (nle rfl) rfl) <|aA rfl (aW (r:=.str _) rfl rfl (lb rfl) cl47 (.cons (svA q10 rfl) .nil) rfl (qY _ _ hx6)) <|aA rfl (aE rfl rfl (lb rfl) (sv (d:=.str _) rfl)) <|aB ?_)
   obtain ⟨x7,hx7,h⟩:=aY h
   refine aC (aA rfl (aK rfl rfl (lb rfl) (sv (d:=.str _) rfl)) <|aA rfl (dB rfl rfl (lb rfl) Tryz.underlying9 (sv (d:=.str _) rfl) rfl) <|aA rfl (aW (r:=.tuple q24) rfl rfl (lb rfl) cl48 (.cons (svI rfl) .nil) rfl (uW _ _ hx7)) <|aA rfl (aK rfl rfl (lb rfl) (sv (d:=.tuple q24) rfl)) <|aA rfl (bE (d:=.slice _ _) rfl rfl (lb rfl) (sv (d:=.tuple q24) rfl) rfl) <|aA rfl (bE (d:=.int _ _) rfl rfl (lb rfl) (sv (d:=.tuple q24) rfl) rfl) <|aA rfl (aE rfl rfl (lb rfl) (svL rfl)) <|aA rfl (asI rfl rfl rfl rfl) <|aB ?_)
   refine aV ?_
   obtain ⟨x8,hx8,h⟩:=aR h
   refine aC (aA rfl (mvI rfl rfl rfl rfl) <|aA rfl (aP rfl rfl (lb rfl) (svI rfl) (sv (d:=.int _ 0) rfl) rfl hx8) <|aB ?_)
   refine aT (b:=_) rfl (fun hc9=>?_) (fun hc9=>?_)
   ·
    replace h:=bT h hc9
    refine aC (aA rfl (mvI rfl rfl rfl rfl) <|aA rfl (aE rfl rfl (lb rfl) (sv (d:=.str []) rfl)) <|aA rfl (asI rfl rfl rfl rfl) <|aB ?_)
    refine aS ?_
    refine aZ ?_
    obtain rfl:=Option.some.inj h
    refine ⟨.inr rfl,(.cons (sv rfl) (.cons (sv rfl) .nil))⟩
   ·
    replace h:=bU h hc9
    refine aU ?_
    refine aN ?_
    obtain ⟨x10,hx10,h⟩:=aR h
    obtain ⟨x11,hx11,h⟩:=aY h
    obtain ⟨x12,hx12,h⟩:=aY h
    refine aC (aA rfl (faR 0 rfl rfl rfl Tryz.underlying50 rfl ti5 (lb rfl) rfl rfl) <|aA rfl (aG (d:=.int _ _) rfl rfl (lb rfl) Tryz.underlying5 ag5 ti5 (by decide) (svR rfl) rfl (nle rfl) rfl) <|aA rfl (fX rfl rfl (lb rfl) ⟨_,Tryz.underlying5⟩ Tryz.underlying3 (svI rfl) hx10) <|aA rfl (aW (r:=.slice _ _) rfl rfl (lb rfl) cl49 (.cons (svn rfl) (.cons (svI rfl) (.cons (sv (d:=.int _ 1) rfl) .nil))) rfl (uZ _ _ _ _ hx11)) <|aA rfl (mvI rfl rfl rfl rfl) <|aA rfl (aW (r:=.slice _ _) rfl rfl (lb rfl) cl49 (.cons (svL rfl) (.cons (svI rfl) (.cons (sv (d:=.int _ 1) rfl) .nil))) rfl (uZ _ _ _ _ hx12)) <|aA rfl (aE rfl rfl (lb rfl) (svL rfl)) <|aB ?_)
    obtain ⟨x13,hx13,h⟩:=aY h
    obtain ⟨x14,hx14,h⟩:=aY h
    refine aC (aA rfl (mvL rfl rfl rfl rfl) <|aA rfl (qB (l:=x12) rfl rfl (lb rfl) Tryz.underlying106 Tryz.underlying5 Tryz.underlying9 (svL rfl)) <|aA rfl (mvL rfl rfl rfl rfl) <|aA rfl (qB (l:=x7.1) rfl rfl (lb rfl) Tryz.underlying106 Tryz.underlying5 Tryz.underlying9 (svL rfl)) <|aA rfl (nI rfl rfl (lb rfl) (sv (d:=.str _) rfl) (sv (d:=.str _) rfl) hx13) <|aA rfl (aK rfl rfl (lb rfl) (sv (d:=.str _) rfl)) <|aA rfl (nI rfl rfl (lb rfl) (sv (d:=.str _) rfl) (sv (d:=.str _) rfl) hx14) <|aA rfl (aE rfl rfl (lb rfl) (sv (d:=.str _) rfl)) <|aA rfl (aE rfl rfl (lb rfl) (sv (d:=.int _ 0) rfl)) <|aB ?_)
    refine aS ?_
    obtain rfl:=Option.some.inj h
    refine ⟨.inr rfl,(.cons (sv rfl) (.cons (sv rfl) .nil))⟩

theorem wK (a0 : bB) (r : Int) (h : oX a0 = some r) : cD Tryz.prog 23 [.agg (v2 a0)] (.int .i64 r):=by
 refine bA (rs:=[.int .i64 r]) Tryz.func23 rfl Tryz.ntmps23 (nle rfl) rfl fun O hO=>?_
 show IWP _ _ _ _ ⟨[(0,.agg (v2 a0))],[]⟩ _
 unfold oX at h
 refine aC (aA rfl (bR (cs:=q12) 0 rfl rfl (lb rfl) rfl (svA q12 rfl) rfl rfl) <|aA rfl (aE rfl rfl (lb rfl) (sv (d:=.int _ 0) rfl)) <|aB ?_)
 refine aV ?_
 refine aC (aA rfl (faR 5 rfl rfl rfl Tryz.underlying28 rfl ti4 (lb rfl) rfl rfl) <|aA rfl (aG (d:=.bool _) rfl rfl (lb rfl) Tryz.underlying4 ag4 ti4 (by decide) (svR rfl) rfl (nle rfl) rfl) <|aB ?_)
 refine aT (b:=_) rfl (fun hc1=>?_) (fun hc1=>?_)
 ·
  replace h:=bT h hc1
  refine aC (aA rfl (aE rfl rfl (lb rfl) (sv (d:=.int _ 0) rfl)) <|aB ?_)
  refine aS ?_
  refine aZ ?_
  obtain rfl:=Option.some.inj h
  refine ⟨.inr rfl,(.cons (sv rfl) .nil)⟩
 ·
  replace h:=bU h hc1
  refine aU ?_
  refine aN ?_
  obtain ⟨x2,hx2,h⟩:=aR h
  refine aC (aA rfl (faR 1 rfl rfl rfl Tryz.underlying28 rfl ti9 (lb rfl) rfl rfl) <|aA rfl (aG (d:=.str _) rfl rfl (lb rfl) Tryz.underlying9 ag9 ti9 (by decide) (svR rfl) rfl (nle rfl) rfl) <|aA rfl (dB rfl rfl (lb rfl) Tryz.underlying9 (sv (d:=.str _) rfl) rfl) <|aA rfl (bL rfl rfl (lb rfl) (sv (d:=.int _ 4096) rfl) (svI rfl) rfl hx2) <|aA rfl (asI rfl rfl rfl rfl) <|aB ?_)
  refine aS ?_
  obtain rfl:=Option.some.inj h
  refine ⟨.inr rfl,(.cons (sv rfl) .nil)⟩

theorem lD (a0 : (List aI)) (r : (List aI)) (h : dQ a0 = some r) : cD Tryz.prog 87 [.slice false (a0.map aJ.d)] (.slice false (r.map aJ.d)):=by
 refine bA (rs:=[.slice false (r.map aJ.d)]) Tryz.func87 rfl Tryz.ntmps87 (nle rfl) rfl fun O hO=>?_
 show IWP _ _ _ _ ⟨[(0,.slice false (a0.map aJ.d))],[]⟩ _
 unfold dQ at h
 refine aC (aA rfl (aE rfl rfl (lb rfl) (sv (d:=.nils) rfl)) <|aB ?_)
 refine aV ?_
 refine aC (aA rfl (mvL rfl rfl rfl rfl) <|tW rfl rfl rfl (by decide) Tryz.underlying26 (svL rfl) rfl <| fun bn1 hbn1 =>
  aB ?_)
 refine aT (b:=_) rfl (fun hc2=>?_) (fun hc2=>?_)
 ·
  replace h:=aAC h (mapE (hbn1 hc2))
  refine aC (aA rfl (aE rfl rfl (lb rfl) (sv (d:=.nils) rfl)) <|aB ?_)
  refine aS ?_
  refine aZ ?_
  obtain rfl:=Option.some.inj h
  refine ⟨.inr rfl,(.cons (sW rfl rfl) .nil)⟩
 ·
  replace h:=aAD h
  refine aU ?_
  refine aN ?_
  obtain ⟨x3,hx3,h⟩:=aY h
  refine aC (aA rfl (oQ aJ ([] : (List aI)) 0 rfl rfl (lb rfl) Tryz.underlying26 fS rfl .nil rfl rfl (by decide)) <|aA rfl (mvL rfl rfl rfl rfl) <|aA rfl (oJ aJ 1 rfl rfl (lb rfl) Tryz.underlying26 fS rfl rfl rfl rfl (svL rfl) hx3) <|aA rfl (aE rfl rfl (lb rfl) (sv (d:=.gsl _ _ _) rfl)) <|aB ?_)
  refine aS ?_
  obtain rfl:=Option.some.inj h
  refine ⟨.inr rfl,(.cons (xV rfl rfl) .nil)⟩

theorem kB (a0 : bB) (r : (Int × (List UInt8) × Int × (List aM) × (List aI) × Bool × Bool × Bool × Bool)) (h : fL a0 = some r) : FnH Tryz.prog 50 [.agg (v2 a0)] [] (.agg (w39 r.1 r.2.1 r.2.2.1 (.osl 0 aD.sz r.2.2.2.1.length) r.2.2.2.2.1 r.2.2.2.2.2.1 r.2.2.2.2.2.2.1 r.2.2.2.2.2.2.2.1 r.2.2.2.2.2.2.2.2)) [(0,.blk 52 (D.flat (r.2.2.2.1.map aD.d)))]:=by
 refine eU (rs:=[.agg (w39 r.1 r.2.1 r.2.2.1 (.osl 0 aD.sz r.2.2.2.1.length) r.2.2.2.2.1 r.2.2.2.2.2.1 r.2.2.2.2.2.2.1 r.2.2.2.2.2.2.2.1 r.2.2.2.2.2.2.2.2)]) Tryz.func50 rfl Tryz.ntmps50 (nle rfl) fun O hO=>?_
 show IWP _ _ _ _ ⟨[(0,.agg (v2 a0))],[]⟩ _
 unfold fL at h
 refine aC (aA rfl (bR (cs:=q12) 0 rfl rfl (lb rfl) rfl (svA q12 rfl) rfl rfl) <|aA rfl (bJ (cs:=q14) (cs':=(w38 0 [] 0 ([] : List aM) ([] : List aI) false false false false)) 1 rfl rfl (lb rfl) rfl ti28 rfl rfl (.k (.k (.k (.cons (.nils _) (.cons (.nils _) (.all _))))))) <|aB ?_)
 obtain ⟨x1,hx1,h⟩:=aY h
 refine aC (aA rfl (faR 3 rfl rfl rfl Tryz.underlying28 rfl ti24 (lb rfl) rfl rfl) <|aA rfl (lrL la24 rfl rfl rfl rfl rfl (nle rfl) rfl) <|aA rfl (cJ aD (l:=a0.Pieces) rfl rfl (lb rfl) Tryz.underlying24 (svL rfl)) <|aA rfl (aAp aD.toEnc0 ((⟨0,0,0,false⟩ : aM) : aM) 2 rfl rfl (lb rfl) Tryz.underlying24 ti52 rfl rfl (svI rfl) hx1 (.all _)) <|aA rfl (aE rfl rfl (lb rfl) (sv (d:=.osl _ _ _) rfl)) <|aB ?_)
 obtain ⟨x2,hx2,h⟩:=aR h
 refine aC (aA rfl (aK rfl rfl (lb rfl) (sv (d:=.osl _ _ _) rfl)) <|aA rfl (faR 3 rfl rfl rfl Tryz.underlying28 rfl ti24 (lb rfl) rfl rfl) <|aA rfl (lrL la24 rfl rfl rfl rfl rfl (nle rfl) rfl) <|aA rfl (aDP aD.toEnc0 rfl rfl (lb rfl) Tryz.underlying24 ti52 rfl rfl rfl (aAP aD (ys:=a0.Pieces) (svL rfl)) hx2) <|aB ?_)
 refine aC (aA rfl (aK rfl rfl (lb rfl) (sv (d:=.osl _ _ _) rfl)) <|aA rfl (faR 3 rfl rfl rfl Tryz.underlying28 rfl ti24 (lb rfl) rfl rfl) <|aA rfl (bQ (ds':=q13) rfl rfl ti24 (svR rfl) rfl (sv (d:=.osl _ _ _) rfl) rfl rfl rfl (nle rfl) rfl) <|aB ?_)
 obtain ⟨x3,hx3,h⟩:=aY h
 refine aC (aA rfl (faR 4 rfl rfl rfl Tryz.underlying28 rfl ti26 (lb rfl) rfl rfl) <|aA rfl (lrL la26 rfl rfl rfl rfl rfl (nle rfl) rfl) <|aA rfl (aW (r:=.slice _ _) rfl rfl (lb rfl) cl87 (.cons (svL rfl) .nil) rfl (lD _ _ hx3)) <|aA rfl (faR 4 rfl rfl rfl Tryz.underlying28 rfl ti26 (lb rfl) rfl rfl) <|aA rfl (bQ (ds':=q13) rfl rfl ti26 (svR rfl) rfl (svL rfl) rfl rfl rfl (nle rfl) rfl) <|aB ?_)
 refine aC (aA rfl (lra q13 la28 rfl rfl rfl rfl rfl (nle rfl) rfl) <|aA rfl (stA q13 q13 ti28 rfl rfl rfl rfl rfl rfl rfl rfl (nle rfl) rfl) <|aB ?_)
 refine aS ?_
 obtain rfl:=Option.some.inj h
 refine ⟨.inr rfl,(fun i=>if i = 0 then 2 else i),⟨.nil,(.cons (EntW.lst rfl) .nil),bX [2] rfl (by decide),(fun i hi=>by first | rfl | (show (if _ then _ else _) = _; (repeat' split) <;> omega))⟩,(.cons (rva la28 rfl rfl (nle rfl) (by rw [← (aEf hx2 rfl)]; rfl)) .nil),rfl⟩

theorem aAb (a0 : bB) (a1 : (List UInt8)) (r : (bB × Int)) (h : oW a0 a1 = some r) : cD Tryz.prog 24 [.agg (v2 a0),.str a1] (retD [.agg (v2 r.1),.int .i64 r.2]):=by
 refine iM (rs:=[.agg (v2 r.1),.int .i64 r.2]) Tryz.func24 rfl Tryz.ntmps24 (nle rfl) rfl fun O hO=>?_
 show IWP _ _ _ _ ⟨[(0,.agg (v2 a0)),(1,.str a1)],[]⟩ _
 unfold oW at h
 refine aC (aA rfl (bR (cs:=q12) 0 rfl rfl (lb rfl) rfl (svA q12 rfl) rfl rfl) <|aA rfl (bJ (cs:=q14) (cs':=(w38 0 [] 0 ([] : List aM) ([] : List aI) false false false false)) 1 rfl rfl (lb rfl) rfl ti28 rfl rfl (.k (.k (.k (.cons (.nils _) (.cons (.nils _) (.all _))))))) <|aA rfl (aE rfl rfl (lb rfl) (sv (d:=.int _ 0) rfl)) <|aB ?_)
 obtain ⟨x1,hx1,h⟩:=aY h
 refine aC (aA rfl (lra q12 la28 rfl rfl rfl rfl rfl (nle rfl) rfl) <|aA rfl (dU (r':=.agg (w39 x1.1 x1.2.1 x1.2.2.1 (.osl 2 aD.sz x1.2.2.2.1.length) x1.2.2.2.2.1 x1.2.2.2.2.2.1 x1.2.2.2.2.2.2.1 x1.2.2.2.2.2.2.2.1 x1.2.2.2.2.2.2.2.2)) (H1':=[(2,.blk 52 (D.flat (x1.2.2.2.1.map aD.d)))]) 2 [] rfl rfl (lb rfl) cl50 (.cons (svA q12 rfl) .nil) rfl rfl ⟨rfl,rfl,by decide,rfl,List.forall_mem_nil _⟩ (kB _ _ hx1) rfl rfl (List.forall_mem_cons.2 ⟨⟨rfl,(jT aD)⟩,List.forall_mem_nil _⟩) (by simp only [List.map_cons,List.map_nil,Ent.ren,eS,fH]; rfl)) <|aA rfl (bJ (cs:=q14) (cs':=(w38 0 [] 0 ([] : List aM) ([] : List aI) false false false false)) 3 rfl rfl (lb rfl) rfl ti28 rfl rfl (.k (.k (.k (.cons (.nils _) (.cons (.nils _) (.all _))))))) <|aA rfl (stA q13 q13 ti28 rfl rfl rfl rfl rfl rfl rfl rfl (nle rfl) rfl) <|aB ?_)
 refine aV ?_
 obtain ⟨x2,hx2,h⟩:=aY h
 obtain ⟨x3,hx3,h⟩:=aR h
 refine aC (aA rfl (lra q12 la28 rfl rfl rfl rfl rfl (nle rfl) rfl) <|aA rfl (aW (r:=.int _ _) rfl rfl (lb rfl) cl39 (.cons (svA q12 rfl) .nil) rfl (lH _ _ hx2)) <|aA rfl (aP rfl rfl (lb rfl) (svI rfl) (sv (d:=.int _ 0) rfl) rfl hx3) <|aB ?_)
 refine aT (b:=_) rfl (fun hc4=>?_) (fun hc4=>?_)
 ·
  replace h:=bT h hc4
  refine aC (aA rfl (lra q13 la28 rfl rfl rfl rfl rfl (nle rfl) rfl) <|aA rfl (stA q13 q13 ti28 rfl rfl rfl rfl rfl rfl rfl rfl (nle rfl) rfl) <|aA rfl (aE rfl rfl (lb rfl) (sv (d:=.int _ 0) rfl)) <|aB ?_)
  refine aS ?_
  refine aZ ?_
  obtain rfl:=Option.some.inj h
  refine ⟨.inr rfl,_,(.cons (rva la28 rfl rfl (nle rfl) rfl) (.cons (sv rfl) .nil)),(.cons (.agg (.k (.k (.k (.cons (FDT aD rfl rfl) (.all _)))))) (.all _))⟩
 ·
  replace h:=bU h hc4
  refine aU ?_
  refine aN ?_
  obtain ⟨x5,hx5,h⟩:=aY h
  obtain ⟨x6,hx6,h⟩:=aR h
  refine aC (aA rfl (lra q12 la28 rfl rfl rfl rfl rfl (nle rfl) rfl) <|aA rfl (aW (r:=.int _ _) rfl rfl (lb rfl) cl23 (.cons (svA q12 rfl) .nil) rfl (wK _ _ hx5)) <|aA rfl (aK rfl rfl (lb rfl) (sv (d:=.str _) rfl)) <|aA rfl (dB rfl rfl (lb rfl) Tryz.underlying9 (sv (d:=.str _) rfl) rfl) <|aA rfl (mM rfl rfl (lb rfl) (svI rfl) (svI rfl) hx6) <|aA rfl (asI rfl rfl rfl rfl) <|aB ?_)
  refine aV ?_
  obtain ⟨x7,hx7,h⟩:=aY h
  obtain ⟨x8,hx8,h⟩:=aR h
  obtain ⟨x9,hx9,h⟩:=aR h
  refine aC (aA rfl (lra q12 la28 rfl rfl rfl rfl rfl (nle rfl) rfl) <|aA rfl (aW (r:=.int _ _) rfl rfl (lb rfl) cl51 (.cons (svA q12 rfl) .nil) rfl (fN _ _ hx7)) <|aA rfl (mvI rfl rfl rfl rfl) <|aA rfl (bL rfl rfl (lb rfl) (sv (d:=.int _ 1099511623680) rfl) (svI rfl) rfl hx8) <|aA rfl (aP rfl rfl (lb rfl) (svI rfl) (svI rfl) rfl hx9) <|aB ?_)
  refine aT (b:=_) rfl (fun hc10=>?_) (fun hc10=>?_)
  ·
   replace h:=bT h hc10
   refine aC (aA rfl (lra q13 la28 rfl rfl rfl rfl rfl (nle rfl) rfl) <|aA rfl (stA q13 q13 ti28 rfl rfl rfl rfl rfl rfl rfl rfl (nle rfl) rfl) <|aA rfl (aE rfl rfl (lb rfl) (sv (d:=.int _ 0) rfl)) <|aB ?_)
   refine aS ?_
   refine aZ ?_
   obtain rfl:=Option.some.inj h
   refine ⟨.inr rfl,_,(.cons (rva la28 rfl rfl (nle rfl) rfl) (.cons (sv rfl) .nil)),(.cons (.agg (.k (.k (.k (.cons (FDT aD rfl rfl) (.all _)))))) (.all _))⟩
  ·
   replace h:=bU h hc10
   refine aU ?_
   refine aN ?_
   obtain ⟨x11,hx11,h⟩:=aY h
   obtain ⟨x12,hx12,h⟩:=aY h
   refine dG rfl [⟨[6],[],[(25,.ref 3 1)],[]⟩,
    ⟨[25],[3],[(26,.str x1.2.1)],[]⟩,
    ⟨[1],[],[(27,.str a1)],[]⟩,
    ⟨[7],[],[(28,.int .i64 x6)],[]⟩,
    ⟨[27,28],[],[(29,.str x11)],[]⟩,
    ⟨[26,29],[],[(30,.str x12)],[]⟩,
    ⟨[6],[],[(31,.ref 3 1)],[]⟩,
    ⟨[30,31],[3],[],[(3,.blk 28 (w39 x1.1 x12 x1.2.2.1 (.osl 2 aD.sz x1.2.2.2.1.length) x1.2.2.2.2.1 x1.2.2.2.2.2.1 x1.2.2.2.2.2.2.1 x1.2.2.2.2.2.2.2.1 x1.2.2.2.2.2.2.2.2))]⟩] rfl ?_ (by kernel_rfl) ?_
   ·refine .cons (lop rfl rfl fun S hA=>(aO rfl rfl (lb rfl) Tryz.underlying28 rfl ti9 (by decide) (svaR hA rfl rfl) (off':=1) rfl)) ?_
    refine .cons (lop rfl rfl fun S hA=>(aG (d:=.str _) rfl rfl (lb rfl) Tryz.underlying9 ag9 ti9 (by decide) (svaR hA rfl rfl) (agi hA rfl rfl) (nle rfl) rfl)) ?_
    refine .cons (lop rfl rfl fun S hA=>(aK rfl rfl (lb rfl) (sv (d:=.str _) (agr hA rfl rfl)))) ?_
    refine .cons (lop rfl rfl fun S hA=>(aK rfl rfl (lb rfl) (svaI hA rfl rfl))) ?_
    refine .cons (lop rfl rfl fun S hA=>(hT rfl rfl (lb rfl) Tryz.underlying9 (sv (d:=.str _) (agr hA rfl rfl)) rfl ⟨_,(svaI hA rfl rfl)⟩ hx11)) ?_
    refine .cons (lop rfl rfl fun S hA=>(nI rfl rfl (lb rfl) (sv (d:=.str _) (agr hA rfl rfl)) (sv (d:=.str _) (agr hA rfl rfl)) hx12)) ?_
    refine .cons (lop rfl rfl fun S hA=>(aO rfl rfl (lb rfl) Tryz.underlying28 rfl ti9 (by decide) (svaR hA rfl rfl) (off':=1) rfl)) ?_
    refine .cons (lop rfl rfl fun S hA=>(bQ (ds':=q13) rfl rfl ti9 (svaR hA rfl rfl) (agi hA rfl rfl) (sv (d:=.str _) (agr hA rfl rfl)) rfl rfl rfl (nle rfl) rfl)) ?_
    exact .nil
   refine aC (aA rfl (lra q13 la28 rfl rfl rfl rfl rfl (nle rfl) rfl) <|aA rfl (mvI rfl rfl rfl rfl) <|aA rfl (stA q13 q13 ti28 rfl rfl rfl rfl rfl rfl rfl rfl (nle rfl) rfl) <|aA rfl (asI rfl rfl rfl rfl) <|aB ?_)
   refine aS ?_
   obtain rfl:=Option.some.inj h
   refine ⟨.inr rfl,_,(.cons (rva la28 rfl rfl (nle rfl) rfl) (.cons (sv rfl) .nil)),(.cons (.agg (.k (.k (.k (.cons (FDT aD rfl rfl) (.all _)))))) (.all _))⟩

theorem oO (a0 : bH) (a1 : aH) (r : (bH × Int)) (h : gQ a0 a1 = some r) : cD Tryz.prog 8 [.agg (v0 a0),.agg (v1 a1)] (retD [.agg (v0 r.1),.int .i64 r.2]):=by
 refine bA (rs:=[.agg (v0 r.1),.int .i64 r.2]) Tryz.func8 rfl Tryz.ntmps8 (nle rfl) rfl fun O hO=>?_
 show IWP _ _ _ _ ⟨[(0,.agg (v0 a0)),(1,.agg (v1 a1))],[]⟩ _
 unfold gQ at h
 refine aC (aA rfl (bR (cs:=q8) 0 rfl rfl (lb rfl) rfl (svA q8 rfl) rfl rfl) <|aA rfl (bR (cs:=q10) 1 rfl rfl (lb rfl) rfl (svA q10 rfl) rfl rfl) <|aA rfl (bJ (cs:=q9) (cs':=(w36 0 [] 0 ([] : List aM) ([] : List aI) false false false false 0 [] ([] : List aX) 0 [] 0 0)) 2 rfl rfl (lb rfl) rfl ti38 rfl rfl (.k (.k (.k (.cons (.nils _) (.cons (.nils _) (.k4 (.k (.k (.cons (.nils _) (.all _))))))))))) <|aA rfl (aE rfl rfl (lb rfl) (sv (d:=.int _ 0) rfl)) <|aB ?_)
 refine aV ?_
 obtain ⟨x1,hx1,h⟩:=aY h
 refine aC (aA rfl (lra q8 la38 rfl rfl rfl rfl rfl (nle rfl) rfl) <|aA rfl (aW (r:=.int _ _) rfl rfl (lb rfl) cl16 (.cons (svA q8 rfl) .nil) rfl (fW _ _ hx1)) <|aA rfl (asI rfl rfl rfl rfl) <|aB ?_)
 obtain ⟨x2,hx2,h⟩:=aR h
 refine aC (aA rfl (mvI rfl rfl rfl rfl) <|aA rfl (aP rfl rfl (lb rfl) (svI rfl) (sv (d:=.int _ 0) rfl) rfl hx2) <|aB ?_)
 refine aT (b:=_) rfl (fun hc3=>?_) (fun hc3=>?_)
 ·
  replace h:=bT h hc3
  refine aC (aA rfl (lra q8 la38 rfl rfl rfl rfl rfl (nle rfl) rfl) <|aA rfl (mvI rfl rfl rfl rfl) <|aA rfl (stA q8 q8 ti38 rfl rfl rfl rfl rfl rfl rfl rfl (nle rfl) rfl) <|aA rfl (asI rfl rfl rfl rfl) <|aB ?_)
  refine aS ?_
  refine aZ ?_
  obtain rfl:=Option.some.inj h
  refine ⟨.inr rfl,(.cons (rva la38 rfl rfl (nle rfl) rfl) (.cons (sv rfl) .nil))⟩
 ·
  replace h:=bU h hc3
  refine aU ?_
  refine aN ?_
  refine aV ?_
  obtain ⟨x4,hx4,h⟩:=aY h
  refine aC (aA rfl (faR 0 rfl rfl rfl Tryz.underlying50 rfl ti5 (lb rfl) rfl rfl) <|aA rfl (aG (d:=.int _ _) rfl rfl (lb rfl) Tryz.underlying5 ag5 ti5 (by decide) (svR rfl) rfl (nle rfl) rfl) <|aA rfl (aW (r:=.bool _) rfl rfl (lb rfl) cl21 (.cons (svI rfl) .nil) rfl (qW _ _ hx4)) <|aA rfl (dD rfl rfl (lb rfl) (svB rfl)) <|aB ?_)
  refine aT (b:=_) rfl (fun hc5=>?_) (fun hc5=>?_)
  ·
   replace h:=bT h hc5
   refine aC (aA rfl (lra q8 la38 rfl rfl rfl rfl rfl (nle rfl) rfl) <|aA rfl (stA q8 q8 ti38 rfl rfl rfl rfl rfl rfl rfl rfl (nle rfl) rfl) <|aA rfl (aE rfl rfl (lb rfl) (sv (d:=.int _ 12) rfl)) <|aB ?_)
   refine aS ?_
   refine aZ ?_
   obtain rfl:=Option.some.inj h
   refine ⟨.inr rfl,(.cons (rva la38 rfl rfl (nle rfl) rfl) (.cons (sv rfl) .nil))⟩
  ·
   replace h:=bU h hc5
   refine aU ?_
   refine aN ?_
   obtain ⟨x6,hx6,h⟩:=aY h
   refine aC (aA rfl (lra q10 la50 rfl rfl rfl rfl rfl (nle rfl) rfl) <|aA rfl (aW (r:=.tuple [.str _,.int _ _]) rfl rfl (lb rfl) cl22 (.cons (svA q10 rfl) .nil) rfl (aBX _ _ hx6)) <|aA rfl (aK rfl rfl (lb rfl) (sv (d:=.tuple [.str _,.int _ _]) rfl)) <|aA rfl (bE (d:=.str _) rfl rfl (lb rfl) (sv (d:=.tuple [.str _,.int _ _]) rfl) rfl) <|aA rfl (bE (d:=.int _ _) rfl rfl (lb rfl) (sv (d:=.tuple [.str _,.int _ _]) rfl) rfl) <|aA rfl (aE rfl rfl (lb rfl) (sv (d:=.str _) rfl)) <|aA rfl (asI rfl rfl rfl rfl) <|aB ?_)
   refine aV ?_
   refine bG ?_
   obtain ⟨x7,hx7,h⟩:=aR h
   refine aC (aA rfl (mvI rfl rfl rfl rfl) <|aA rfl (aP rfl rfl (lb rfl) (svI rfl) (sv (d:=.int _ 0) rfl) rfl hx7) <|aA rfl (asB rfl rfl rfl rfl) <|aB ?_)
   refine aT (b:=_) rfl (fun hc8=>?_) (fun hc8=>?_)
   ·
    replace h:=bT h hc8
    refine aC (aA rfl (lra q8 la38 rfl rfl rfl rfl rfl (nle rfl) rfl) <|aA rfl (mvI rfl rfl rfl rfl) <|aA rfl (stA q8 q8 ti38 rfl rfl rfl rfl rfl rfl rfl rfl (nle rfl) rfl) <|aA rfl (asI rfl rfl rfl rfl) <|aB ?_)
    refine aS ?_
    refine bP ?_
    refine aZ ?_
    obtain rfl:=Option.some.inj h
    refine ⟨.inr rfl,(.cons (rva la38 rfl rfl (nle rfl) rfl) (.cons (sv rfl) .nil))⟩
   ·
    replace h:=bU h hc8
    obtain ⟨x9,hx9,h⟩:=aY h
    obtain ⟨x10,hx10,h⟩:=aR h
    refine aC (aA rfl (faR 0 rfl rfl rfl Tryz.underlying38 rfl ti28 (lb rfl) rfl rfl) <|aA rfl (lra q12 la28 rfl rfl rfl rfl rfl (nle rfl) rfl) <|aA rfl (aW (r:=.int _ _) rfl rfl (lb rfl) cl23 (.cons (svA q12 rfl) .nil) rfl (wK _ _ hx9)) <|aA rfl (aK rfl rfl (lb rfl) (sv (d:=.str _) rfl)) <|aA rfl (dB rfl rfl (lb rfl) Tryz.underlying9 (sv (d:=.str _) rfl) rfl) <|aA rfl (aP rfl rfl (lb rfl) (svI rfl) (svI rfl) rfl hx10) <|aA rfl (asB rfl rfl rfl rfl) <|aB ?_)
    refine aT (b:=_) rfl (fun hc11=>?_) (fun hc11=>?_)
    ·
     replace h:=bT h hc11
     refine aC (aA rfl (lra q8 la38 rfl rfl rfl rfl rfl (nle rfl) rfl) <|aA rfl (stA q8 q8 ti38 rfl rfl rfl rfl rfl rfl rfl rfl (nle rfl) rfl) <|aA rfl (aE rfl rfl (lb rfl) (sv (d:=.int _ 7) rfl)) <|aB ?_)
     refine aS ?_
     refine bP ?_
     refine aZ ?_
     obtain rfl:=Option.some.inj h
     refine ⟨.inr rfl,(.cons (rva la38 rfl rfl (nle rfl) rfl) (.cons (sv rfl) .nil))⟩
    ·
     replace h:=bU h hc11
     refine aU ?_
     refine bZ ?_
     refine aN ?_
     obtain ⟨x12,hx12,h⟩:=aY h
     refine aC (aA rfl (faR 0 rfl rfl rfl Tryz.underlying38 rfl ti28 (lb rfl) rfl rfl) <|aA rfl (lra q12 la28 rfl rfl rfl rfl rfl (nle rfl) rfl) <|aA rfl (aK rfl rfl (lb rfl) (sv (d:=.str _) rfl)) <|aA rfl (aW (r:=.tuple [.agg q12,.int _ _]) rfl rfl (lb rfl) cl24 (.cons (svA q12 rfl) (.cons (sv (d:=.str _) rfl) .nil)) rfl (aAb _ _ _ hx12)) <|aA rfl (aK rfl rfl (lb rfl) (sv (d:=.tuple [.agg q12,.int _ _]) rfl)) <|aA rfl (bE (d:=.agg q12) rfl rfl (lb rfl) (sv (d:=.tuple [.agg q12,.int _ _]) rfl) rfl) <|aA rfl (bE (d:=.int _ _) rfl rfl (lb rfl) (sv (d:=.tuple [.agg q12,.int _ _]) rfl) rfl) <|aA rfl (bJ (cs:=q14) (cs':=(w38 0 [] 0 ([] : List aM) ([] : List aI) false false false false)) 3 rfl rfl (lb rfl) rfl ti28 rfl rfl (.k (.k (.k (.cons (.nils _) (.cons (.nils _) (.all _))))))) <|aA rfl (stA q12 q12 ti28 rfl rfl rfl rfl rfl rfl rfl rfl (nle rfl) rfl) <|aA rfl (asI rfl rfl rfl rfl) <|aB ?_)
     refine aV ?_
     obtain ⟨x13,hx13,h⟩:=aR h
     refine aC (aA rfl (mvI rfl rfl rfl rfl) <|aA rfl (aK rfl rfl (lb rfl) (sv (d:=.str _) rfl)) <|aA rfl (dB rfl rfl (lb rfl) Tryz.underlying9 (sv (d:=.str _) rfl) rfl) <|aA rfl (aP rfl rfl (lb rfl) (svI rfl) (svI rfl) rfl hx13) <|aB ?_)
     refine aT (b:=_) rfl (fun hc14=>?_) (fun hc14=>?_)
     ·
      replace h:=bT h hc14
      refine aC (aA rfl (lra q8 la38 rfl rfl rfl rfl rfl (nle rfl) rfl) <|aA rfl (stA q8 q8 ti38 rfl rfl rfl rfl rfl rfl rfl rfl (nle rfl) rfl) <|aA rfl (aE rfl rfl (lb rfl) (sv (d:=.int _ 7) rfl)) <|aB ?_)
      refine aS ?_
      refine aZ ?_
      obtain rfl:=Option.some.inj h
      refine ⟨.inr rfl,(.cons (rva la38 rfl rfl (nle rfl) rfl) (.cons (sv rfl) .nil))⟩
     ·
      replace h:=bU h hc14
      refine aU ?_
      refine aN ?_
      refine aC (aA rfl (lra q12 la28 rfl rfl rfl rfl rfl (nle rfl) rfl) <|aA rfl (faR 0 rfl rfl rfl Tryz.underlying38 rfl ti28 (lb rfl) rfl rfl) <|aA rfl (stA q12 q8 ti28 rfl rfl rfl rfl rfl rfl rfl rfl (nle rfl) rfl) <|aB ?_)
      refine aC (aA rfl (lra q8 la38 rfl rfl rfl rfl rfl (nle rfl) rfl) <|aA rfl (stA q8 q8 ti38 rfl rfl rfl rfl rfl rfl rfl rfl (nle rfl) rfl) <|aA rfl (aE rfl rfl (lb rfl) (sv (d:=.int _ 0) rfl)) <|aB ?_)
      refine aS ?_
      obtain rfl:=Option.some.inj h
      refine ⟨.inr rfl,(.cons (rva la38 rfl rfl (nle rfl) rfl) (.cons (sv rfl) .nil))⟩

theorem qH (a0 : bB) (r : Bool) (h : mL a0 = some r) : cD Tryz.prog 56 [.agg (v2 a0)] (.bool r):=by
 refine bA (rs:=[.bool r]) Tryz.func56 rfl Tryz.ntmps56 (nle rfl) rfl fun O hO=>?_
 show IWP _ _ _ _ ⟨[(0,.agg (v2 a0))],[]⟩ _
 unfold mL at h
 refine aC (aA rfl (bR (cs:=q12) 0 rfl rfl (lb rfl) rfl (svA q12 rfl) rfl rfl) <|aA rfl (aE rfl rfl (lb rfl) (sv (d:=.bool false) rfl)) <|aB ?_)
 refine aV ?_
 obtain ⟨x1,hx1,h⟩:=aR h
 refine aC (aA rfl (faR 5 rfl rfl rfl Tryz.underlying28 rfl ti4 (lb rfl) rfl rfl) <|aA rfl (aG (d:=.bool _) rfl rfl (lb rfl) Tryz.underlying4 ag4 ti4 (by decide) (svR rfl) rfl (nle rfl) rfl) <|aA rfl (dD rfl rfl (lb rfl) (svB rfl)) <|aA rfl (mvB rfl rfl rfl rfl) <|aF rfl rfl (.one rfl) rfl (by decide) (fun hb=>(faR 8 rfl rfl rfl Tryz.underlying28 rfl ti4 (lb rfl) rfl rfl)) <|aF rfl rfl (.one rfl) rfl (by decide) (fun hb=>(aG (d:=.bool _) rfl rfl (lb rfl) Tryz.underlying4 ag4 ti4 (by decide) (svcR rfl hb) rfl (nle rfl) rfl)) <|aA rfl (dM rfl rfl (lb rfl) (svB rfl) rfl rfl hx1) <|aB ?_)
 refine aT (b:=_) rfl (fun hc2=>?_) (fun hc2=>?_)
 ·
  replace h:=bT h hc2
  refine aC (aA rfl (aE rfl rfl (lb rfl) (sv (d:=.bool false) rfl)) <|aB ?_)
  refine aS ?_
  refine aZ ?_
  obtain rfl:=Option.some.inj h
  refine ⟨.inr rfl,(.cons (sv rfl) .nil)⟩
 ·
  replace h:=bU h hc2
  refine aU ?_
  refine aN ?_
  obtain ⟨x3,hx3,h⟩:=aR h
  refine aC (aA rfl (faR 7 rfl rfl rfl Tryz.underlying28 rfl ti4 (lb rfl) rfl rfl) <|aA rfl (aG (d:=.bool _) rfl rfl (lb rfl) Tryz.underlying4 ag4 ti4 (by decide) (svR rfl) rfl (nle rfl) rfl) <|aA rfl (mvB rfl rfl rfl rfl) <|aF rfl rfl (.one rfl) rfl (by decide) (fun hb=>(faR 6 rfl rfl rfl Tryz.underlying28 rfl ti4 (lb rfl) rfl rfl)) <|aF rfl rfl (.one rfl) rfl (by decide) (fun hb=>(aG (d:=.bool _) rfl rfl (lb rfl) Tryz.underlying4 ag4 ti4 (by decide) (svcR rfl hb) rfl (nle rfl) rfl)) <|aF rfl rfl (.one rfl) rfl (by decide) (fun hb=>(dD rfl rfl (lb rfl) (svcB rfl hb))) <|aA rfl (dM rfl rfl (lb rfl) (svB rfl) rfl rfl hx3) <|aA rfl (asB rfl rfl rfl rfl) <|aB ?_)
  refine aS ?_
  obtain rfl:=Option.some.inj h
  refine ⟨.inr rfl,(.cons (sv rfl) .nil)⟩

theorem pB (a0 : bB) (a1 : Int) (a2 : Int) (r : (aM × Bool)) (h : lO a0 a1 a2 = some r) : cD Tryz.prog 53 [.agg (v2 a0),.int .i64 a1,.int .i64 a2] (retD [.agg (v6 r.1),.bool r.2]):=by
 refine bA (rs:=[.agg (v6 r.1),.bool r.2]) Tryz.func53 rfl Tryz.ntmps53 (nle rfl) rfl fun O hO=>?_
 show IWP _ _ _ _ ⟨[(0,.agg (v2 a0)),(1,.int .i64 a1),(2,.int .i64 a2)],[]⟩ _
 unfold lO at h
 refine aC (aA rfl (bR (cs:=q12) 0 rfl rfl (lb rfl) rfl (svA q12 rfl) rfl rfl) <|aA rfl (bJ (cs:=q17) (cs':=(w42 0 0 0 false)) 1 rfl rfl (lb rfl) rfl ti52 rfl rfl (.all _)) <|aA rfl (aE rfl rfl (lb rfl) (sv (d:=.bool false) rfl)) <|aB ?_)
 refine aV ?_
 obtain ⟨x1,hx1,h⟩:=aR h
 refine aC (aA rfl (faR 4 rfl rfl rfl Tryz.underlying28 rfl ti26 (lb rfl) rfl rfl) <|aA rfl (lrL la26 rfl rfl rfl rfl rfl (nle rfl) rfl) <|aA rfl (cJ aJ (l:=a0.Lost) rfl rfl (lb rfl) Tryz.underlying26 (svL rfl)) <|aA rfl (aP rfl rfl (lb rfl) (svI rfl) (sv (d:=.int _ 0) rfl) rfl hx1) <|aB ?_)
 refine aT (b:=_) rfl (fun hc2=>?_) (fun hc2=>?_)
 ·
  replace h:=bT h hc2
  obtain ⟨x3,hx3,h⟩:=aY h
  refine aC (aA rfl (faR 4 rfl rfl rfl Tryz.underlying28 rfl ti26 (lb rfl) rfl rfl) <|aA rfl (lrL la26 rfl rfl rfl rfl rfl (nle rfl) rfl) <|aA rfl (cY aJ (cs:=q25) rfl rfl (lb rfl) Tryz.underlying26 fS (svL rfl) (sv (d:=.int _ 0) rfl) hx3 rfl rfl) <|aA rfl (cQ (cs:=q25) rfl rfl (lb rfl) Tryz.underlying116 xS fS (by decide) (sv (d:=.fptr q25) rfl) (nle rfl) rfl) <|aA rfl (bJ (cs:=q25) (cs':=[.int .i64 0,.int .i64 0]) 2 rfl rfl (lb rfl) rfl fS rfl rfl (.all _)) <|aA rfl (stA q25 q25 fS rfl rfl rfl rfl rfl rfl rfl rfl (nle rfl) rfl) <|aB ?_)
  obtain ⟨x4,hx4,h⟩:=aR h
  obtain ⟨x5,hx5,h⟩:=aR h
  obtain ⟨x6,hx6,h⟩:=aR h
  refine aC (aA rfl (faR 0 rfl rfl rfl Tryz.underlying116 rfl ti3 (lb rfl) rfl rfl) <|aA rfl (aG (d:=.int _ _) rfl rfl (lb rfl) Tryz.underlying3 ag3 ti3 (by decide) (svR rfl) rfl (nle rfl) rfl) <|aA rfl (faR 0 rfl rfl rfl Tryz.underlying116 rfl ti3 (lb rfl) rfl rfl) <|aA rfl (aG (d:=.int _ _) rfl rfl (lb rfl) Tryz.underlying3 ag3 ti3 (by decide) (svR rfl) rfl (nle rfl) rfl) <|aA rfl (mvI rfl rfl rfl rfl) <|aA rfl (faR 1 rfl rfl rfl Tryz.underlying116 rfl ti3 (lb rfl) rfl rfl) <|aA rfl (aG (d:=.int _ _) rfl rfl (lb rfl) Tryz.underlying3 ag3 ti3 (by decide) (svR rfl) rfl (nle rfl) rfl) <|aA rfl (faR 0 rfl rfl rfl Tryz.underlying116 rfl ti3 (lb rfl) rfl rfl) <|aA rfl (aG (d:=.int _ _) rfl rfl (lb rfl) Tryz.underlying3 ag3 ti3 (by decide) (svR rfl) rfl (nle rfl) rfl) <|aA rfl (bL rfl rfl (lb rfl) (svI rfl) (svI rfl) rfl hx4) <|aA rfl (mM rfl rfl (lb rfl) (svI rfl) (svI rfl) hx5) <|aA rfl (bL rfl rfl (lb rfl) (svI rfl) (svI rfl) rfl hx6) <|aA rfl (cC (cs:=q17) rfl rfl (lb rfl) Tryz.underlying52 ti52 pl52 rfl (.cons (svI rfl) (.cons (svI rfl) .nil)) rfl) <|aA rfl (stA q17 q17 ti52 rfl rfl rfl rfl rfl rfl rfl rfl (nle rfl) rfl) <|aA rfl (aE rfl rfl (lb rfl) (sv (d:=.bool true) rfl)) <|aB ?_)
  refine aS ?_
  refine aZ ?_
  obtain rfl:=Option.some.inj h
  refine ⟨.inr rfl,(.cons (rva la52 rfl rfl (nle rfl) rfl) (.cons (sv rfl) .nil))⟩
 ·
  replace h:=bU h hc2
  refine aU ?_
  refine aN ?_
  obtain ⟨x7,hx7,h⟩:=aY h
  obtain ⟨x8,hx8,h⟩:=aR h
  refine dG rfl [⟨[3],[0],[(32,.agg (v2 a0))],[]⟩,
   ⟨[32],[],[(33,.int .i64 x7)],[]⟩,
   ⟨[3],[],[(34,.ref 0 2)],[]⟩,
   ⟨[34],[0],[(35,.int .i64 a0.Next)],[]⟩,
   ⟨[33,35],[],[(36,.int .i64 x8)],[]⟩,
   ⟨[36],[],[(9,.int .i64 x8)],[]⟩] rfl ?_ (by kernel_rfl) ?_
  ·refine .cons (lop rfl rfl fun S hA=>(cA (cs:=q12) rfl rfl (lb rfl) Tryz.underlying28 ag28 ti28 (by decide) (svaR hA rfl rfl) (agi hA rfl rfl) (nle rfl) rfl)) ?_
   refine .cons (lop rfl rfl fun S hA=>(aW (r:=.int _ _) rfl rfl (lb rfl) cl51 (.cons (svaA q12 hA rfl rfl) .nil) rfl (fN _ _ hx7))) ?_
   refine .cons (lop rfl rfl fun S hA=>(aO rfl rfl (lb rfl) Tryz.underlying28 rfl ti3 (by decide) (svaR hA rfl rfl) (off':=2) rfl)) ?_
   refine .cons (lop rfl rfl fun S hA=>(aG (d:=.int _ _) rfl rfl (lb rfl) Tryz.underlying3 ag3 ti3 (by decide) (svaR hA rfl rfl) (agi hA rfl rfl) (nle rfl) rfl)) ?_
   refine .cons (lop rfl rfl fun S hA=>(bL rfl rfl (lb rfl) (svaI hA rfl rfl) (svaI hA rfl rfl) rfl hx8)) ?_
   refine .cons (lop rfl rfl fun S hA=>(aE rfl rfl (lb rfl) (svaI hA rfl rfl))) ?_
   exact .nil
  refine aV ?_
  obtain ⟨x9,hx9,h⟩:=aR h
  refine aC (aA rfl (mvI rfl rfl rfl rfl) <|aA rfl (aP rfl rfl (lb rfl) (svI rfl) (sv (d:=.int _ 0) rfl) rfl hx9) <|aB ?_)
  refine aT (b:=_) rfl (fun hc10=>?_) (fun hc10=>?_)
  ·
   replace h:=bT h hc10
   obtain ⟨x11,hx11,h⟩:=aR h
   obtain ⟨x12,hx12,h⟩:=aR h
   obtain ⟨x13,hx13,h⟩:=aR h
   refine aC (aA rfl (mvI rfl rfl rfl rfl) <|aA rfl (mvI rfl rfl rfl rfl) <|aA rfl (mvI rfl rfl rfl rfl) <|aA rfl (faR 2 rfl rfl rfl Tryz.underlying28 rfl ti3 (lb rfl) rfl rfl) <|aA rfl (aG (d:=.int _ _) rfl rfl (lb rfl) Tryz.underlying3 ag3 ti3 (by decide) (svR rfl) rfl (nle rfl) rfl) <|aA rfl (pZ rfl rfl (lb rfl) (svI rfl) (svI rfl) hx11) <|aA rfl (faR 2 rfl rfl rfl Tryz.underlying28 rfl ti3 (lb rfl) rfl rfl) <|aA rfl (aG (d:=.int _ _) rfl rfl (lb rfl) Tryz.underlying3 ag3 ti3 (by decide) (svR rfl) rfl (nle rfl) rfl) <|aA rfl (bL rfl rfl (lb rfl) (svI rfl) (svI rfl) rfl hx12) <|aA rfl (aEO rfl rfl (lb rfl) (svI rfl) (svI rfl) (svI rfl) hx13) <|aA rfl (asI rfl rfl rfl rfl) <|aB ?_)
   obtain ⟨x14,hx14,h⟩:=aR h
   obtain ⟨x15,hx15,h⟩:=aR h
   refine aC (aA rfl (faR 2 rfl rfl rfl Tryz.underlying28 rfl ti3 (lb rfl) rfl rfl) <|aA rfl (aG (d:=.int _ _) rfl rfl (lb rfl) Tryz.underlying3 ag3 ti3 (by decide) (svR rfl) rfl (nle rfl) rfl) <|aA rfl (faR 2 rfl rfl rfl Tryz.underlying28 rfl ti3 (lb rfl) rfl rfl) <|aA rfl (aG (d:=.int _ _) rfl rfl (lb rfl) Tryz.underlying3 ag3 ti3 (by decide) (svR rfl) rfl (nle rfl) rfl) <|aA rfl (mvI rfl rfl rfl rfl) <|aA rfl (bL rfl rfl (lb rfl) (svI rfl) (svI rfl) rfl hx14) <|aA rfl (cC (cs:=q17) rfl rfl (lb rfl) Tryz.underlying52 ti52 pl52 rfl (.cons (svI rfl) (.cons (svI rfl) .nil)) rfl) <|aA rfl (mvI rfl rfl rfl rfl) <|aA rfl (aP rfl rfl (lb rfl) (svI rfl) (sv (d:=.int _ 0) rfl) rfl hx15) <|aA rfl (stA q17 q17 ti52 rfl rfl rfl rfl rfl rfl rfl rfl (nle rfl) rfl) <|aA rfl (asB rfl rfl rfl rfl) <|aB ?_)
   refine aS ?_
   refine aZ ?_
   obtain rfl:=Option.some.inj h
   refine ⟨.inr rfl,(.cons (rva la52 rfl rfl (nle rfl) rfl) (.cons (sv rfl) .nil))⟩
  ·
   replace h:=bU h hc10
   refine aU ?_
   refine aN ?_
   obtain ⟨x16,hx16,h⟩:=aY h
   refine dG rfl [⟨[3],[],[(58,.ref 0 2)],[]⟩,
    ⟨[58],[0],[(59,.int .i64 a0.Next)],[]⟩,
    ⟨[3],[],[(60,.ref 0 2)],[]⟩,
    ⟨[60],[0],[(61,.int .i64 a0.Next)],[]⟩,
    ⟨[59,61],[],[(62,.agg (w42 a0.Next a0.Next 0 false))],[]⟩,
    ⟨[3],[0],[(63,.agg (v2 a0))],[]⟩,
    ⟨[63],[],[(64,.bool x16)],[]⟩,
    ⟨[6,62],[1],[],[(1,.blk 52 (w42 a0.Next a0.Next 0 false))]⟩,
    ⟨[64],[],[(7,.bool x16)],[]⟩] rfl ?_ (by kernel_rfl) ?_
   ·refine .cons (lop rfl rfl fun S hA=>(aO rfl rfl (lb rfl) Tryz.underlying28 rfl ti3 (by decide) (svaR hA rfl rfl) (off':=2) rfl)) ?_
    refine .cons (lop rfl rfl fun S hA=>(aG (d:=.int _ _) rfl rfl (lb rfl) Tryz.underlying3 ag3 ti3 (by decide) (svaR hA rfl rfl) (agi hA rfl rfl) (nle rfl) rfl)) ?_
    refine .cons (lop rfl rfl fun S hA=>(aO rfl rfl (lb rfl) Tryz.underlying28 rfl ti3 (by decide) (svaR hA rfl rfl) (off':=2) rfl)) ?_
    refine .cons (lop rfl rfl fun S hA=>(aG (d:=.int _ _) rfl rfl (lb rfl) Tryz.underlying3 ag3 ti3 (by decide) (svaR hA rfl rfl) (agi hA rfl rfl) (nle rfl) rfl)) ?_
    refine .cons (lop rfl rfl fun S hA=>(cC (cs:=q17) rfl rfl (lb rfl) Tryz.underlying52 ti52 pl52 rfl (.cons (svaI hA rfl rfl) (.cons (svaI hA rfl rfl) .nil)) rfl)) ?_
    refine .cons (lop rfl rfl fun S hA=>(cA (cs:=q12) rfl rfl (lb rfl) Tryz.underlying28 ag28 ti28 (by decide) (svaR hA rfl rfl) (agi hA rfl rfl) (nle rfl) rfl)) ?_
    refine .cons (lop rfl rfl fun S hA=>(aW (r:=.bool _) rfl rfl (lb rfl) cl56 (.cons (svaA q12 hA rfl rfl) .nil) rfl (qH _ _ hx16))) ?_
    refine .cons (lop rfl rfl fun S hA=>(bQ (ds':=q17) rfl rfl ti52 (svaR hA rfl rfl) (agi hA rfl rfl) (svaA q17 hA rfl rfl) rfl rfl rfl (nle rfl) rfl)) ?_
    refine .cons (lop rfl rfl fun S hA=>(aE rfl rfl (lb rfl) (svaB hA rfl rfl))) ?_
    exact .nil
   refine aS ?_
   obtain rfl:=Option.some.inj h
   refine ⟨.inr rfl,(.cons (rva la52 rfl rfl (nle rfl) rfl) (.cons (sv rfl) .nil))⟩

theorem rV (a0 : aM) (a1 : aM) (r : Bool) (h : lN a0 a1 = some r) : cD Tryz.prog 95 [.agg (v6 a0),.fptr (v6 a1)] (.bool r):=by
 refine bA (rs:=[.bool r]) Tryz.func95 rfl Tryz.ntmps95 (nle rfl) rfl fun O hO=>?_
 show IWP _ _ _ _ ⟨[(0,.agg (v6 a0)),(1,.fptr (v6 a1))],[]⟩ _
 unfold lN at h
 refine aC (aA rfl (bR (cs:=q17) 0 rfl rfl (lb rfl) rfl (svA q17 rfl) rfl rfl) <|aA rfl (aE rfl rfl (lb rfl) (sv (d:=.bool false) rfl)) <|aB ?_)
 obtain ⟨x1,hx1,h⟩:=aR h
 obtain ⟨x2,hx2,h⟩:=aR h
 obtain ⟨x3,hx3,h⟩:=aR h
 obtain ⟨x4,hx4,h⟩:=aR h
 obtain ⟨x5,hx5,h⟩:=aR h
 refine aC (aA rfl (faR 0 rfl rfl rfl Tryz.underlying52 rfl ti3 (lb rfl) rfl rfl) <|aA rfl (aG (d:=.int _ _) rfl rfl (lb rfl) Tryz.underlying3 ag3 ti3 (by decide) (svR rfl) rfl (nle rfl) rfl) <|aA rfl (dS (cs':=[.int _ _]) rfl rfl (lb rfl) Tryz.underlying52 rfl ti3 (by decide) (sv (d:=.fptr q17) rfl) rfl) <|aA rfl (eT rfl rfl (lb rfl) Tryz.underlying3 ag3 ti3 (by decide) (sv (d:=.fptr [.int _ _]) rfl) (nle rfl)) <|aA rfl (aP rfl rfl (lb rfl) (svI rfl) (svI rfl) rfl hx1) <|aA rfl (mvB rfl rfl rfl rfl) <|aF rfl rfl (.one rfl) rfl (by decide) (fun hb=>(faR 0 rfl rfl rfl Tryz.underlying52 rfl ti3 (lb rfl) rfl rfl)) <|aF rfl rfl (.one rfl) rfl (by decide) (fun hb=>(aG (d:=.int _ _) rfl rfl (lb rfl) Tryz.underlying3 ag3 ti3 (by decide) (svcR rfl hb) rfl (nle rfl) rfl)) <|aF rfl rfl (.one rfl) rfl (by decide) (fun hb=>(dS (cs':=[.int _ _]) rfl rfl (lb rfl) Tryz.underlying52 rfl ti3 (by decide) (sv (d:=.fptr q17) rfl) rfl)) <|aF rfl rfl (.one rfl) rfl (by decide) (fun hb=>(eT rfl rfl (lb rfl) Tryz.underlying3 ag3 ti3 (by decide) (svc (d:=.fptr [.int _ _]) rfl hb) (nle rfl))) <|aF rfl rfl (.one rfl) rfl (by decide) (fun hb=>(aP rfl rfl (lb rfl) (svcI rfl hb) (svcI rfl hb) rfl hx2)) <|aF rfl rfl (.one rfl) rfl (by decide) (fun hb=>(aK rfl rfl (lb rfl) (svcB rfl hb))) <|aF rfl rfl (.two rfl) rfl (by decide) (fun hb=>(faR 1 rfl rfl rfl Tryz.underlying52 rfl ti3 (lb rfl) rfl rfl)) <|aF rfl rfl (.two rfl) rfl (by decide) (fun hb=>(aG (d:=.int _ _) rfl rfl (lb rfl) Tryz.underlying3 ag3 ti3 (by decide) (svcR rfl hb) rfl (nle rfl) rfl)) <|aF rfl rfl (.two rfl) rfl (by decide) (fun hb=>(dS (cs':=[.int _ _]) rfl rfl (lb rfl) Tryz.underlying52 rfl ti3 (by decide) (sv (d:=.fptr q17) rfl) rfl)) <|aF rfl rfl (.two rfl) rfl (by decide) (fun hb=>(eT rfl rfl (lb rfl) Tryz.underlying3 ag3 ti3 (by decide) (svc (d:=.fptr [.int _ _]) rfl hb) (nle rfl))) <|aF rfl rfl (.two rfl) rfl (by decide) (fun hb=>(aP rfl rfl (lb rfl) (svcI rfl hb) (svcI rfl hb) rfl hx3)) <|aF rfl rfl (.one rfl) rfl (by decide) (fun hb=>(pE rfl rfl (lb rfl) hb (svcB rfl hb) rfl rfl hx4)) <|aA rfl (dM rfl rfl (lb rfl) (svB rfl) rfl rfl hx5) <|aA rfl (asB rfl rfl rfl rfl) <|aB ?_)
 refine aS ?_
 obtain rfl:=Option.some.inj h
 refine ⟨.inr rfl,(.cons (sv rfl) .nil)⟩

theorem iN (a0 : (List aM)) (a1 : aM) (r : Int) (h : dV a0 a1 = some r) : cD Tryz.prog 94 [.slice false (a0.map aD.d),.fn 95 [.fptr (v6 a1)]] (.int .i64 r):=by
 refine bA (rs:=[.int .i64 r]) Tryz.func94 rfl Tryz.ntmps94 (nle rfl) rfl fun O hO=>?_
 show IWP _ _ _ _ ⟨[(0,.slice false (a0.map aD.d)),(1,.fn 95 [.fptr (v6 a1)])],[]⟩ _
 unfold dV at h
 refine aC (aA rfl (aE rfl rfl (lb rfl) (sv (d:=.int _ 0) rfl)) <|aB ?_)
 refine aV ?_
 refine aC (aA rfl (mvL rfl rfl rfl rfl) <|aA rfl (cJ aD (l:=a0) rfl rfl (lb rfl) Tryz.underlying24 (svL rfl)) <|aA rfl (aK rfl rfl (lb rfl) (sv (d:=.int _ 0) rfl)) <|aB ?_)
 refine bG ?_
 refine cW (α:=Nat × Int) (fun z=>⟨[(0,.slice false (a0.map aD.d)),(1,.fn 95 [.fptr (v6 a1)]),(7,.int .i64 (a0.length : Int)),(8,.int .i64 z.2)],[]⟩) (fun z=>cS a0 a1 z.1 z.2 = some r) (fun z=>z.1) (fuel,0) (fun i=>i) ⟨(.sames rfl rfl),.nil,bX [] rfl (by decide),fun _ _=>rfl⟩ ?_ ?_
 ·exact h
 ·
  rintro ⟨n0,v7⟩ h
  cases n0 with
  | zero=>exact absurd h (by unfold cS; exact nofun)
  | succ n0 =>
   unfold cS at h
   obtain ⟨x14,hx14,h⟩:=aR h
   refine aC (aA rfl (aP rfl rfl (lb rfl) (svI rfl) (svI rfl) rfl hx14) <|aB ?_)
   refine aV ?_
   refine aT (b:=_) rfl (fun hc15=>?_) (fun hc15=>?_)
   ·
    replace h:=bT h hc15
    refine aU ?_
    refine aN ?_
    refine aV ?_
    refine bG ?_
    refine aC (aA rfl (mvI rfl rfl rfl rfl) <|aA rfl (asI rfl rfl rfl rfl) <|aB ?_)
    obtain ⟨x16,hx16,h⟩:=aY h
    obtain ⟨x17,hx17,h⟩:=aY h
    refine aC (aA rfl (aK rfl rfl (lb rfl) (sv (d:=.fn 95 [.fptr q17]) rfl)) <|aA rfl (mvL rfl rfl rfl rfl) <|aA rfl (mvI rfl rfl rfl rfl) <|aA rfl (cY aD (cs:=q17) rfl rfl (lb rfl) Tryz.underlying24 ti52 (svL rfl) (svI rfl) hx16 rfl rfl) <|aA rfl (cQ (cs:=q17) rfl rfl (lb rfl) Tryz.underlying52 ag52 ti52 (by decide) (sv (d:=.fptr q17) rfl) (nle rfl) rfl) <|aA rfl (mT (r:=.bool _) rfl rfl (lb rfl) cl95 (sv (d:=.fn 95 [.fptr q17]) rfl) (.cons (svA q17 rfl) .nil) rfl (rV _ _ _ hx17)) <|aB ?_)
    refine aT (b:=_) rfl (fun hc18=>?_) (fun hc18=>?_)
    ·
     replace h:=bT h hc18
     refine aC (aA rfl (mvI rfl rfl rfl rfl) <|aA rfl (asI rfl rfl rfl rfl) <|aB ?_)
     refine aS ?_
     refine bP ?_
     refine aZ ?_
     refine aZ ?_
     refine bP ?_
     refine aZ ?_
     obtain rfl:=Option.some.inj h
     refine ⟨.inr rfl,(.cons (sv rfl) .nil)⟩
    ·
     replace h:=bU h hc18
     refine aU ?_
     refine bZ ?_
     refine aN ?_
     obtain ⟨x19,hx19,h⟩:=aR h
     refine bD (aA rfl (bL rfl rfl (lb rfl) (svI rfl) (sv (d:=.int _ 1) rfl) rfl hx19) <|aA rfl (mvI rfl rfl rfl rfl) <|bW ?_)
     refine aN ⟨(n0,x19),(fun i=>i),⟨(.sames rfl rfl),.nil,bX [] rfl (by decide),fun _ _=>rfl⟩,?_,?_⟩
     exact h
     exact Nat.lt_succ_self _
   ·
    replace h:=bU h hc15
    refine cN ?_
    refine bI ?_
    refine bI ?_
    refine cO ?_
    refine aN ?_
    refine aC (aA rfl (aE rfl rfl (lb rfl) (sv (d:=.int _ (-1)) rfl)) <|aB ?_)
    refine aS ?_
    obtain rfl:=Option.some.inj h
    refine ⟨.inr rfl,(.cons (sv rfl) .nil)⟩

theorem tD (a0 : bB) (a1 : aM) (r : Int) (h : mZ a0 a1 = some r) : cD Tryz.prog 58 [.agg (v2 a0),.agg (v6 a1)] (.int .i64 r):=by
 refine bA (rs:=[.int .i64 r]) Tryz.func58 rfl Tryz.ntmps58 (nle rfl) rfl fun O hO=>?_
 show IWP _ _ _ _ ⟨[(0,.agg (v2 a0)),(1,.agg (v6 a1))],[]⟩ _
 unfold mZ at h
 refine aC (aA rfl (bR (cs:=q12) 0 rfl rfl (lb rfl) rfl (svA q12 rfl) rfl rfl) <|aA rfl (bR (cs:=q17) 1 rfl rfl (lb rfl) rfl (svA q17 rfl) rfl rfl) <|aA rfl (aE rfl rfl (lb rfl) (sv (d:=.int _ 0) rfl)) <|aB ?_)
 obtain ⟨x1,hx1,h⟩:=aY h
 obtain ⟨x2,hx2,h⟩:=aY h
 obtain ⟨x3,hx3,h⟩:=aY h
 obtain ⟨x4,hx4,h⟩:=aR h
 obtain ⟨x5,hx5,h⟩:=aY h
 obtain ⟨x6,hx6,h⟩:=aY h
 refine dG rfl [⟨[2],[],[(5,.ref 0 3)],[]⟩,
  ⟨[5],[0],[(6,.slice false (a0.Pieces.map aD.d))],[]⟩,
  ⟨[2],[],[(7,.ref 0 3)],[]⟩,
  ⟨[7],[0],[(8,.slice false (a0.Pieces.map aD.d))],[]⟩,
  ⟨[8],[],[(9,.int .i64 (a0.Pieces.length : Int))],[]⟩,
  ⟨[2],[],[(10,.ref 0 3)],[]⟩,
  ⟨[10],[0],[(11,.slice false (a0.Pieces.map aD.d))],[]⟩,
  ⟨[11],[],[(12,.int .i64 (a0.Pieces.length : Int))],[]⟩,
  ⟨[6,9,12],[],[(13,.slice true (x1.map aD.d))],[]⟩,
  ⟨[2],[0],[(14,.agg (v2 a0))],[]⟩,
  ⟨[14],[],[(15,.int .i64 x2)],[]⟩,
  ⟨[2],[0],[(16,.agg (v2 a0))],[]⟩,
  ⟨[16],[],[(17,.int .i64 x3)],[]⟩,
  ⟨[17],[],[(18,.int .i64 x4)],[]⟩,
  ⟨[15,18],[],[(19,.agg (w42 x2 x4 0 false))],[]⟩,
  ⟨[19],[2],[(20,.osl 2 aD.sz (([(⟨x2,x4,0,false⟩ : aM)] : (List aM)).length))],[(2,.blk 52 (D.flat ((([(⟨x2,x4,0,false⟩ : aM)] : (List aM))).map aD.d)))]⟩,
  ⟨[13,20],[2,3],[(21,.osl 3 aD.sz x5.length)],[(3,.blk 52 (D.flat (x5.map aD.d)))]⟩,
  ⟨[3],[],[(22,.fn 95 [.ref 1 0])],[]⟩,
  ⟨[21,22],[1,3],[(23,.int .i64 x6)],[]⟩,
  ⟨[23],[],[(4,.int .i64 x6)],[]⟩] rfl ?_ (by kernel_rfl) ?_
 ·refine .cons (lop rfl rfl fun S hA=>(aO rfl rfl (lb rfl) Tryz.underlying28 rfl ti24 (by decide) (svaR hA rfl rfl) (off':=3) rfl)) ?_
  refine .cons (lop rfl rfl fun S hA=>(aG (d:=.slice _ _) rfl rfl (lb rfl) Tryz.underlying24 ag24 ti24 (by decide) (svaR hA rfl rfl) (agi hA rfl rfl) (nle rfl) rfl)) ?_
  refine .cons (lop rfl rfl fun S hA=>(aO rfl rfl (lb rfl) Tryz.underlying28 rfl ti24 (by decide) (svaR hA rfl rfl) (off':=3) rfl)) ?_
  refine .cons (lop rfl rfl fun S hA=>(aG (d:=.slice _ _) rfl rfl (lb rfl) Tryz.underlying24 ag24 ti24 (by decide) (svaR hA rfl rfl) (agi hA rfl rfl) (nle rfl) rfl)) ?_
  refine .cons (lop rfl rfl fun S hA=>(cJ aD (l:=a0.Pieces) rfl rfl (lb rfl) Tryz.underlying24 (svaL hA rfl rfl))) ?_
  refine .cons (lop rfl rfl fun S hA=>(aO rfl rfl (lb rfl) Tryz.underlying28 rfl ti24 (by decide) (svaR hA rfl rfl) (off':=3) rfl)) ?_
  refine .cons (lop rfl rfl fun S hA=>(aG (d:=.slice _ _) rfl rfl (lb rfl) Tryz.underlying24 ag24 ti24 (by decide) (svaR hA rfl rfl) (agi hA rfl rfl) (nle rfl) rfl)) ?_
  refine .cons (lop rfl rfl fun S hA=>(cJ aD (l:=a0.Pieces) rfl rfl (lb rfl) Tryz.underlying24 (svaL hA rfl rfl))) ?_
  refine .cons (lop rfl rfl fun S hA=>(aDO aD rfl rfl (lb rfl) Tryz.underlying24 ti52 (svaL hA rfl rfl) (svaI hA rfl rfl) (svaI hA rfl rfl) hx1)) ?_
  refine .cons (lop rfl rfl fun S hA=>(cA (cs:=q12) rfl rfl (lb rfl) Tryz.underlying28 ag28 ti28 (by decide) (svaR hA rfl rfl) (agi hA rfl rfl) (nle rfl) rfl)) ?_
  refine .cons (lop rfl rfl fun S hA=>(aW (r:=.int _ _) rfl rfl (lb rfl) cl51 (.cons (svaA q12 hA rfl rfl) .nil) rfl (fN _ _ hx2))) ?_
  refine .cons (lop rfl rfl fun S hA=>(cA (cs:=q12) rfl rfl (lb rfl) Tryz.underlying28 ag28 ti28 (by decide) (svaR hA rfl rfl) (agi hA rfl rfl) (nle rfl) rfl)) ?_
  refine .cons (lop rfl rfl fun S hA=>(aW (r:=.int _ _) rfl rfl (lb rfl) cl51 (.cons (svaA q12 hA rfl rfl) .nil) rfl (fN _ _ hx3))) ?_
  refine .cons (lop rfl rfl fun S hA=>(bL rfl rfl (lb rfl) (svaI hA rfl rfl) (sv (d:=.int _ 1) rfl) rfl hx4)) ?_
  refine .cons (lop rfl rfl fun S hA=>(cC (cs:=q17) rfl rfl (lb rfl) Tryz.underlying52 ti52 pl52 rfl (.cons (svaI hA rfl rfl) (.cons (svaI hA rfl rfl) .nil)) rfl)) ?_
  refine .cons (lop rfl rfl fun S hA=>(jP aD.toEnc0 ([(⟨x2,x4,0,false⟩ : aM)] : (List aM)) 2 rfl rfl (lb rfl) Tryz.underlying24 ti52 (agi hA rfl rfl) (.cons (svaA q17 hA rfl rfl) .nil) rfl rfl (by decide))) ?_
  refine .cons (lop rfl rfl fun S hA=>(aEP aD.toEnc0 3 rfl rfl (lb rfl) Tryz.underlying24 ti52 rfl (svaL hA rfl rfl) (agi hA rfl rfl) (qK aD.toEnc0 (agr hA rfl rfl) rfl (agi hA rfl rfl)) (by simp) hx5)) ?_
  refine .cons (lop rfl rfl fun S hA=>(kL rfl rfl (lb rfl) (.cons (svaR hA rfl rfl) .nil))) ?_
  refine .cons (lop rfl rfl fun S hA=>(pD (r:=.int .i64 x6) rfl rfl (lb rfl) cl94 (.cons (sv (d:=.osl _ _ _) (agr hA rfl rfl)) (.cons (sv (d:=.fn 95 [.ref _ _]) (agr hA rfl rfl)) .nil)) (.cons (FDT aD (agi hA rfl rfl) rfl) (.cons (.fn (.cons (.ref (agi hA rfl rfl) rfl (rS _) rfl) .nil)) .nil)) rfl rfl (iN _ _ _ hx6))) ?_
  refine .cons (lop rfl rfl fun S hA=>(aE rfl rfl (lb rfl) (svaI hA rfl rfl))) ?_
  exact .nil
 refine aS ?_
 obtain rfl:=Option.some.inj h
 refine ⟨.inr rfl,(.cons (sv rfl) .nil)⟩

set_option maxRecDepth 8000 in
set_option maxHeartbeats 4000000 in
theorem kE (a0 : Int) (a1 : List aM) (a2 : List aM) (r : List aM) (h : gH a0 a1 a2 = some r) : FnH Tryz.prog 57 [.osl 1000 aD.sz a2.length,.int .i64 a0,.slice false (a1.map aD.d)] [(1000,.blk 52 (D.flat (a2.map aD.d)))] (.osl 0 aD.sz r.length) [(0,.blk 52 (D.flat (r.map aD.d)))]:=by
 replace h : insS 32 a2 a0 a1 = some r:=h
 obtain ⟨i,rfl,hi,hm,hb,hr⟩:=insS_e h
 have hX:=aD.toEnc0.flat_len a2
 have hV:=aD.toEnc0.flat_len a1
 have hp:=aD.pos
 have hvt : ∀ k,a1.length ≤ k → (D.flat (a1.map aD.d)).take (min a1.length k * aD.sz) = D.flat (a1.map aD.d):=fun k hk=>by
  rw [Nat.min_eq_left hk,← hV,List.take_length]
 refine eU (rs:=[.osl 0 aD.sz r.length]) Tryz.func57 rfl Tryz.ntmps57 (nle rfl) fun O hO=>?_
 show IWP _ _ _ _ ⟨[(0,.osl 1000 aD.sz a2.length),(1,.int .i64 (i : Int)),(2,.slice false (a1.map aD.d))],[(1000,.blk 52 (D.flat (a2.map aD.d)))]⟩ _
 refine zJ 0 (id:=1000) (sz:=aD.sz) (n:=a2.length) rfl rfl hX (fun hn=>?_) (fun c hc hcm=>?_)
 ·
  obtain rfl:=List.length_eq_zero_iff.1 hn
  obtain rfl : i = 0:=by simpa using hi
  refine aC (aA rfl (aE rfl rfl (lb rfl) (sv (d:=.nils) rfl)) <| aB ?_)
  refine aC (aA rfl (aK rfl rfl (lb rfl) (sv (d:=.nils) rfl)) <| aA rfl (mvI rfl rfl rfl rfl) <|aA rfl (vO aD (s:=[]) (r:=[]) (b:=false) rfl rfl (lb rfl) Tryz.underlying24 ti52 (svn rfl) ⟨_,(svI rfl)⟩ rfl rfl) <| aB ?_)
  refine aC (aA rfl (mvL rfl rfl rfl rfl) <| aA rfl (cJ aD (l:=a1) rfl rfl (lb rfl) Tryz.underlying24 (svL rfl)) <|aA rfl (asI rfl rfl rfl rfl) <| aB ?_)
  refine aV ?_
  refine aC (aA rfl (mvI rfl rfl rfl rfl) <| aA rfl (aP rfl rfl (lb rfl) (svI rfl) (sv (d:=.int _ 0) rfl) rfl rfl) <| aB ?_)
  refine aT (b:=_) rfl (fun h1=>?_) (fun h1=>?_)
  ·have h2:=of_decide_eq_true h1
   obtain rfl:=List.length_eq_zero_iff.1 (show a1.length = 0 by omega)
   have hr' : [] = r:=by simpa using hr
   subst hr'
   refine aC (aA rfl (aK rfl rfl (lb rfl) (sv (d:=.nils) rfl)) <| aA rfl (aE rfl rfl (lb rfl) (sv (d:=.nils) rfl)) <| aB ?_)
   refine aS ?_
   refine aZ ?_
   refine ⟨.inr rfl,(fun i=>if i = 0 then 50 else i),⟨.nil,(.cons (.nilb rfl) .nil),bX [50] rfl (by decide),(fun i hi=>by first | rfl | (show (if _ then _ else _) = _; (repeat' split) <;> omega))⟩,(.cons (svno rfl) .nil),rfl⟩
  ·refine aU ?_
   refine aN ?_
   refine aC (aA rfl (aK rfl rfl (lb rfl) (sv (d:=.nils) rfl)) <| aA rfl (cJ aD (l:=[]) (b:=false) rfl rfl (lb rfl) Tryz.underlying24 (svn rfl)) <|aA rfl (asI rfl rfl rfl rfl) <| aB ?_)
   refine aV ?_
   refine aC (aA rfl (mvI rfl rfl rfl rfl) <| aA rfl (mvI rfl rfl rfl rfl) <| aA rfl (aP rfl rfl (lb rfl) (svI rfl) (svI rfl) rfl rfl) <| aB ?_)
   refine fK rfl rfl ?_
   have ha : app 32 ([] : List aM) a1 = some r:=by
    rw [← hr]; unfold maxLen at hm; simpa using kV hm hb
   refine aC (aA rfl (aK rfl rfl (lb rfl) (sv (d:=.nils) rfl)) <| aA rfl (mvL rfl rfl rfl rfl) <|aA rfl (lU aD.toEnc0 0 rfl rfl (lb rfl) Tryz.underlying24 ti52 rfl rfl rfl (aAP aD (ys:=a1) (svL rfl)) ha) <|aA rfl (aE rfl rfl (lb rfl) (sv (d:=.osl _ _ _) rfl)) <| aB ?_)
   refine aS ?_
   refine aZ ?_
   refine ⟨.inr rfl,(fun i=>i),⟨.nil,(.cons (EntW.lst rfl) .nil),bX [0] rfl (by decide),fun _ _=>rfl⟩,(.cons (sv rfl) .nil),rfl⟩
 ·refine aC (aA rfl (aE rfl rfl (lb rfl) (sv (d:=.nils) rfl)) <| aB ?_)
  refine aC (aA rfl (aK rfl rfl (lb rfl) (sv (d:=.rsl _ _ _ _ _) rfl)) <| aA rfl (mvI rfl rfl rfl rfl) <|aA rfl (eC (sz:=aD.sz) (l:=(i : Int)) (h:=(a2.length : Int)) (m:=(c : Int)) rfl rfl (lb rfl) Tryz.underlying24 ti52 (sv (d:=.rsl _ _ _ _ _) rfl) ⟨_,(svI rfl)⟩ rfl rfl (by simp) (by omega) (by omega) (by omega) (by omega) rfl) <| aB ?_)
  refine aC (aA rfl (mvL rfl rfl rfl rfl) <| aA rfl (cJ aD (l:=a1) rfl rfl (lb rfl) Tryz.underlying24 (svL rfl)) <|aA rfl (asI rfl rfl rfl rfl) <| aB ?_)
  refine aV ?_
  refine aC (aA rfl (mvI rfl rfl rfl rfl) <| aA rfl (aP rfl rfl (lb rfl) (svI rfl) (sv (d:=.int _ 0) rfl) rfl rfl) <| aB ?_)
  refine aT (b:=_) rfl (fun h1=>?_) (fun h1=>?_)
  ·have h2:=of_decide_eq_true h1
   obtain rfl:=List.length_eq_zero_iff.1 (show a1.length = 0 by omega)
   have hr' : a2 = r:=by simpa using hr
   subst hr'
   refine aC (aA rfl (aK rfl rfl (lb rfl) (sv (d:=.rsl _ _ _ _ _) rfl)) <| aA rfl (aE rfl rfl (lb rfl) (sv (d:=.rsl _ _ _ _ _) rfl)) <| aB ?_)
   refine rC 6 (id:=1000) rfl rfl hX ?_
   refine aS ?_
   refine aZ ?_
   refine ⟨.inr rfl,(fun i=>if i = 0 then 1000 else i),⟨.nil,(.cons (EntW.lst rfl) .nil),bX [1000] rfl (by decide),(fun i hi=>by first | rfl | (show (if _ then _ else _) = _; (repeat' split) <;> omega))⟩,(.cons (sv rfl) .nil),rfl⟩
  ·have h2:=of_decide_eq_false h1
   have hm0 : 0 < a1.length:=by omega
   refine aU ?_
   refine aN ?_
   refine aC (aA rfl (aK rfl rfl (lb rfl) (sv (d:=.rsl _ _ _ _ _) rfl)) <| aA rfl (qA rfl rfl (lb rfl) Tryz.underlying24 (sv (d:=.rsl _ _ _ _ _) rfl) rfl) <|aA rfl (asI rfl rfl rfl rfl) <| aB ?_)
   refine aV ?_
   refine aC (aA rfl (mvI rfl rfl rfl rfl) <| aA rfl (mvI rfl rfl rfl rfl) <| aA rfl (aP rfl rfl (lb rfl) (svI rfl) (svI rfl) rfl rfl) <| aB ?_)
   refine aT (b:=_) rfl (fun h3=>?_) (fun h3=>?_)
   ·have h4:=of_decide_eq_true h3
    obtain rfl : i = a2.length:=by omega
    have hr' : a2 ++ a1 = r:=by simpa using hr
    have ha : app 32 a2 a1 = some r:=by
     rw [← hr']; unfold maxLen at hm; exact kV hm hb
    refine aC (aA rfl (aK rfl rfl (lb rfl) (sv (d:=.rsl _ _ _ _ _) rfl)) <| aA rfl (mvL rfl rfl rfl rfl) <|aDW 23 (id:=1000) rfl rfl hX <|aA rfl (kS aD.toEnc0 0 rfl rfl (lb rfl) Tryz.underlying24 ti52 rfl rfl rfl rfl rfl (aAP aD (ys:=a1) (svL rfl)) ha) <|aA rfl (aE rfl rfl (lb rfl) (sv (d:=.osl _ _ _) rfl)) <| aB ?_)
    refine aS ?_
    refine aZ ?_
    refine ⟨.inr rfl,(fun i=>i),⟨.nil,(.cons (EntW.lst rfl) .nil),bX [0] rfl (by decide),fun _ _=>rfl⟩,(.cons (sv rfl) .nil),rfl⟩
   ·have h4:=of_decide_eq_false h3
    have hin : i < a2.length:=by omega
    have hXt : (D.flat ((a2.take i).map aD.d)).length = i * aD.sz:=by rw [aD.toEnc0.flat_len,List.length_take,Nat.min_eq_left hi]
    have hXd : (D.flat ((a2.drop i).map aD.d)).length = (a2.length - i) * aD.sz:=by rw [aD.toEnc0.flat_len,List.length_drop]
    have hXs : D.flat (a2.map aD.d) = D.flat ((a2.take i).map aD.d) ++ D.flat ((a2.drop i).map aD.d):=by
     rw [aD.toEnc0.flat_append,List.take_append_drop]
    have hR : D.flat (r.map aD.d) = D.flat ((a2.take i).map aD.d) ++ D.flat (a1.map aD.d) ++ D.flat ((a2.drop i).map aD.d):=by
     rw [← hr,aD.toEnc0.flat_append,aD.toEnc0.flat_append]
    have hRl : (D.flat (r.map aD.d)).length = r.length * aD.sz:=aD.toEnc0.flat_len r
    have hrl : r.length = a2.length + a1.length:=by rw [← hr]; simp; omega
    refine aU ?_
    refine aN ?_
    refine aV ?_
    refine aC (aA rfl (mvI rfl rfl rfl rfl) <| aA rfl (mvI rfl rfl rfl rfl) <| aA rfl (bL rfl rfl (lb rfl) (svI rfl) (svI rfl) rfl (wN hm)) <|aA rfl (aK rfl rfl (lb rfl) (sv (d:=.rsl _ _ _ _ _) rfl)) <| aA rfl (aBc rfl rfl (lb rfl) Tryz.underlying24 (sv (d:=.rsl _ _ _ _ _) rfl) rfl) <| aA rfl (aP rfl rfl (lb rfl) (svI rfl) (svI rfl) rfl rfl) <| aB ?_)
    refine aT (b:=_) rfl (fun h5=>?_) (fun h5=>?_)
    ·have h6:=of_decide_eq_true h5
     have hcn : c < a2.length + a1.length:=by omega
     obtain ⟨K,hK⟩ : ∃ K,K = a2.length + a1.length - i:=⟨_,rfl⟩
     have hKm : i + K = a2.length + a1.length:=by omega
     have w1 : IntKind.wrap .i64 (((a2.length + a1.length : Nat) : Int) - (i : Int)) = (K : Int):=by rw [hK]; exact wS (by omega) hm
     have hD0 : i * aD.sz ≤ (D.flat (a2.map aD.d) ++ List.replicate ((c - a2.length) * aD.sz) D.dead).length:=by
      rw [List.length_append,hX]; exact Nat.le_trans (Nat.mul_le_mul_right _ hi) (Nat.le_add_right _ _)
     have hT0 : (D.flat (a2.map aD.d) ++ List.replicate ((c - a2.length) * aD.sz) D.dead).take (i * aD.sz) = D.flat ((a2.take i).map aD.d):=by
      rw [List.take_append_of_le_length (by rw [hX]; exact Nat.mul_le_mul_right _ hi),aD.toEnc0.flat_take]
     refine aC (aA rfl (aK rfl rfl (lb rfl) (sv (d:=.rsl _ _ _ _ _) rfl)) <| aA rfl (mvI rfl rfl rfl rfl) <|aA rfl (eC (sz:=aD.sz) (l:=0) (h:=(i : Int)) (m:=(c : Int)) (d:=.rsl 1000 aD.sz 0 i c) rfl rfl (lb rfl) Tryz.underlying24 ti52 (sv (d:=.rsl _ _ _ _ _) rfl) rfl ⟨_,(svI rfl)⟩ rfl (by simp) (by omega) (by omega) (by omega) (by omega) (by simp only [Int.toNat_natCast,Int.toNat_zero,Nat.zero_mul,Nat.zero_add,Nat.sub_zero])) <|aA rfl (mvI rfl rfl rfl rfl) <| aA rfl (mvI rfl rfl rfl rfl) <| aA rfl (bL rfl rfl (lb rfl) (svI rfl) (svI rfl) rfl (wN hm)) <|aA rfl (mvI rfl rfl rfl rfl) <| aA rfl (bL rfl rfl (lb rfl) (svI rfl) (svI rfl) rfl w1) <|aA rfl (aAw (sz:=aD.sz) (k:=K) 0 rfl rfl (lb rfl) Tryz.underlying24 Tryz.underlying3 ti52 rfl (sv (d:=.rsl _ _ _ _ _) rfl) rfl rfl (svI rfl) rfl (by omega) hD0 (by omega) (by rw [hKm]; exact hm) (by rw [hKm]; exact hb)) <|aA rfl (aE rfl rfl (lb rfl) (sv (d:=.osl _ _ _) rfl)) <| aB ?_)
     have hY0 : ((D.flat (a2.map aD.d) ++ List.replicate ((c - a2.length) * aD.sz) D.dead).take (i * aD.sz) ++ List.replicate (K * aD.sz) D.dead).length = (i + K) * aD.sz:=by
      rw [List.length_append,List.length_take,List.length_replicate,Nat.min_eq_left hD0,Nat.add_mul]
     refine zJ 9 (id:=0) rfl rfl hY0 (fun h0=>absurd h0 (by omega)) (fun c1 hc1 hcm1=>?_)
     rw [hT0]
     rw [hT0] at hY0
     have w2 : IntKind.wrap .i64 ((i : Int) + (a1.length : Int)) = ((i + a1.length : Nat) : Int):=wN (by omega)
     have hKs : (K - a1.length) * aD.sz = (a2.length - i) * aD.sz:=by congr 1; omega
     obtain ⟨J,hJ⟩ : ∃ J,J = List.replicate ((c1 - (i + K)) * aD.sz) D.dead:=⟨_,rfl⟩
     obtain ⟨Z,hZ⟩ : ∃ Z,Z = List.replicate (K * aD.sz) D.dead:=⟨_,rfl⟩
     have hZl : Z.length = K * aD.sz:=by rw [hZ,List.length_replicate]
     have hKsp : K * aD.sz = a1.length * aD.sz + (a2.length - i) * aD.sz:=by rw [← Nat.add_mul]; congr 1; omega
     rw [← hJ,← hZ]
     have hYl : (D.flat ((a2.take i).map aD.d) ++ Z ++ J).length = i * aD.sz + K * aD.sz + J.length:=by simp only [List.length_append,hXt,hZl]
     refine aC (aA rfl (aK rfl rfl (lb rfl) (sv (d:=.rsl _ _ _ _ _) rfl)) <| aA rfl (mvI rfl rfl rfl rfl) <|aA rfl (eC (sz:=aD.sz) (l:=(i : Int)) (h:=((i + K : Nat) : Int)) (m:=(c1 : Int)) (d:=.rsl 0 aD.sz (i * aD.sz) K (c1 - i)) rfl rfl (lb rfl) Tryz.underlying24 ti52 (sv (d:=.rsl _ _ _ _ _) rfl) ⟨_,(svI rfl)⟩ rfl rfl (by simp) (by omega) (by omega) (by omega) (by omega) (by simp only [Int.toNat_natCast,Nat.zero_add]; congr 1; omega)) <|aA rfl (mvL rfl rfl rfl rfl) <|aA rfl (oI (sz:=aD.sz) (ds':=eY (D.flat ((a2.take i).map aD.d) ++ Z ++ J) (i * aD.sz) (D.flat (a1.map aD.d))) rfl rfl (lb rfl) Tryz.underlying24 ti52 (sv (d:=.rsl _ _ _ _ _) rfl) rfl (aAP aD (ys:=a1) (svL rfl)) hV (uA (aD.toEnc0.one a1) _) (by rw [hYl]; omega) rfl (by rw [hvt _ (by omega)])) <| aB ?_)
     have e1 : eY (D.flat ((a2.take i).map aD.d) ++ Z ++ J) (i * aD.sz) (D.flat (a1.map aD.d)) = D.flat ((a2.take i).map aD.d) ++ D.flat (a1.map aD.d) ++ (Z.drop (a1.length * aD.sz) ++ J):=by
      have e2 : D.flat ((a2.take i).map aD.d) ++ Z ++ J = D.flat ((a2.take i).map aD.d) ++ Z.take (a1.length * aD.sz) ++ (Z.drop (a1.length * aD.sz) ++ J):=by
       rw [List.append_assoc (D.flat ((a2.take i).map aD.d)),List.append_assoc (D.flat ((a2.take i).map aD.d)),← List.append_assoc (Z.take _),List.take_append_drop]
      rw [e2]; exact qO hXt (by rw [List.length_take,hZl,hV]; omega)
     have hres:=ins_new (J:=J) (Y:=D.flat ((a2.drop i).map aD.d)) hXt hV (show Z.length = a1.length * aD.sz + (D.flat ((a2.drop i).map aD.d)).length by rw [hZl,hXd,hKsp])
     have hlen1 : (eY (D.flat ((a2.take i).map aD.d) ++ Z ++ J) (i * aD.sz) (D.flat (a1.map aD.d))).length = i * aD.sz + K * aD.sz + J.length:=by
      rw [e1]; simp only [List.length_append,hXt,hV,List.length_drop,hZl]; omega
     obtain ⟨Y1,hY1⟩ : ∃ Y1,Y1 = eY (D.flat ((a2.take i).map aD.d) ++ Z ++ J) (i * aD.sz) (D.flat (a1.map aD.d)):=⟨_,rfl⟩
     rw [← hY1] at hlen1 hres ⊢
     obtain ⟨es,hes⟩ : ∃ es,es = ((D.flat (a2.map aD.d) ++ List.replicate ((c - a2.length) * aD.sz) D.dead).drop (i * aD.sz)).take ((a2.length - i) * aD.sz):=⟨_,rfl⟩
     have hes' : es = D.flat ((a2.drop i).map aD.d):=by
      rw [hes,List.drop_append_of_le_length (by rw [hX]; exact Nat.mul_le_mul_right _ hi),aD.toEnc0.flat_drop,List.take_append_of_le_length (by rw [hXd]; exact Nat.le_refl _),← hXd,List.take_length]
     have hfit2 : i * aD.sz + (a2.length - i) * aD.sz ≤ (D.flat (a2.map aD.d) ++ List.replicate ((c - a2.length) * aD.sz) D.dead).length:=by
      rw [List.length_append,hX,← Nat.add_mul,show i + (a2.length - i) = a2.length by omega]; exact Nat.le_add_right _ _
     have him : (i + a1.length) * aD.sz = i * aD.sz + a1.length * aD.sz:=Nat.add_mul _ _ _
     refine dG rfl [⟨[9],[],[(46,.rsl 0 aD.sz 0 (i + K) c1)],[]⟩,⟨[1],[],[(47,.int .i64 (i : Int))],[]⟩,⟨[7],[],[(48,.int .i64 (a1.length : Int))],[]⟩,⟨[47,48],[],[(49,.int .i64 ((i + a1.length : Nat) : Int))],[]⟩,
      ⟨[46,49],[],[(50,.rsl 0 aD.sz ((i + a1.length) * aD.sz) (K - a1.length) (c1 - (i + a1.length)))],[]⟩,⟨[0],[],[(51,.rsl 1000 aD.sz 0 a2.length c)],[]⟩,⟨[1],[],[(52,.int .i64 (i : Int))],[]⟩,⟨[51,52],[],[(53,.rsl 1000 aD.sz (i * aD.sz) (a2.length - i) (c - i))],[]⟩,
      ⟨[50,53],[0,1000],[(54,.int .i64 ((min (a2.length - i) (K - a1.length) : Nat) : Int))],[(0,.blk 52 (eY Y1 ((i + a1.length) * aD.sz) es))]⟩] rfl ?_ (by kernel_rfl) ?_
     ·refine .cons (lop rfl rfl fun S hA=>(aK rfl rfl (lb rfl) (sv (d:=.rsl _ _ _ _ _) (agr hA rfl rfl)))) ?_
      refine .cons (lop rfl rfl fun S hA=>(aK rfl rfl (lb rfl) (svaI hA rfl rfl))) ?_
      refine .cons (lop rfl rfl fun S hA=>(aK rfl rfl (lb rfl) (svaI hA rfl rfl))) ?_
      refine .cons (lop rfl rfl fun S hA=>(bL rfl rfl (lb rfl) (svaI hA rfl rfl) (svaI hA rfl rfl) rfl w2)) ?_
      refine .cons (lop rfl rfl fun S hA=>(eC (sz:=aD.sz) (l:=((i + a1.length : Nat) : Int)) (h:=((i + K : Nat) : Int)) (m:=(c1 : Int)) (d:=.rsl 0 aD.sz ((i + a1.length) * aD.sz) (K - a1.length) (c1 - (i + a1.length))) rfl rfl (lb rfl) Tryz.underlying24 ti52 (sv (d:=.rsl _ _ _ _ _) (agr hA rfl rfl)) ⟨_,(svaI hA rfl rfl)⟩ rfl rfl (by simp) (by omega) (by omega) (by omega) (by omega) (by simp only [Int.toNat_natCast,Nat.zero_add]; congr 1; omega))) ?_
      refine .cons (lop rfl rfl fun S hA=>(aK rfl rfl (lb rfl) (sv (d:=.rsl _ _ _ _ _) (agr hA rfl rfl)))) ?_
      refine .cons (lop rfl rfl fun S hA=>(aK rfl rfl (lb rfl) (svaI hA rfl rfl))) ?_
      refine .cons (lop rfl rfl fun S hA=>(eC (sz:=aD.sz) (l:=(i : Int)) (h:=(a2.length : Int)) (m:=(c : Int)) (d:=.rsl 1000 aD.sz (i * aD.sz) (a2.length - i) (c - i)) rfl rfl (lb rfl) Tryz.underlying24 ti52 (sv (d:=.rsl _ _ _ _ _) (agr hA rfl rfl)) ⟨_,(svaI hA rfl rfl)⟩ rfl rfl (by simp) (by omega) (by omega) (by omega) (by omega) (by simp only [Int.toNat_natCast,Nat.zero_add]))) ?_
      refine .cons (lop rfl rfl fun S hA=>(oI (sz:=aD.sz) (es:=es) (ds':=eY Y1 ((i + a1.length) * aD.sz) es) rfl rfl (lb rfl) Tryz.underlying24 ti52 (sv (d:=.rsl _ _ _ _ _) (agr hA rfl rfl)) (agi hA rfl rfl) (hes ▸ aBG (sv (d:=.rsl _ _ _ _ _) (agr hA rfl rfl)) (agi hA rfl rfl) hfit2) (by rw [hes',hXd]) (uA (by rw [hes']; exact aD.toEnc0.one _) _) (by rw [hlen1,him,hKs]; omega) rfl (by rw [show min (a2.length - i) (K - a1.length) = a2.length - i by omega,hes',← hXd,List.take_length]))) ?_
      exact .nil
     ·rw [hes',him,hres,← hR]
      refine aC (aA rfl (aK rfl rfl (lb rfl) (sv (d:=.rsl _ _ _ _ _) rfl)) <| aA rfl (aE rfl rfl (lb rfl) (sv (d:=.rsl _ _ _ _ _) rfl)) <| aB ?_)
      refine rC 6 (id:=0) rfl rfl (show (D.flat (r.map aD.d)).length = (i + K) * aD.sz by rw [hRl,hrl,hKm]) ?_
      refine aS ?_
      refine aZ ?_
      refine ⟨.inr rfl,(fun i=>i),⟨.nil,(.cons (EntW.lst rfl) .nil),bX [0] rfl (by decide),fun _ _=>rfl⟩,(.cons (sv (congrArg (D.osl _ _) (show i + K = r.length by omega))) .nil),rfl⟩
    ·have h6:=of_decide_eq_false h5
     have hcn : a2.length + a1.length ≤ c:=by omega
     have w2 : IntKind.wrap .i64 ((i : Int) + (a1.length : Int)) = ((i + a1.length : Nat) : Int):=wN (by omega)
     have him : (i + a1.length) * aD.sz = i * aD.sz + a1.length * aD.sz:=Nat.add_mul _ _ _
     obtain ⟨J,hJ⟩ : ∃ J,J = List.replicate ((c - a2.length) * aD.sz) D.dead:=⟨_,rfl⟩
     have hJl : J.length = (c - a2.length) * aD.sz:=by rw [hJ,List.length_replicate]
     have hJm : a1.length * aD.sz ≤ J.length:=by rw [hJl]; exact Nat.mul_le_mul_right _ (by omega)
     have hni : a2.length * aD.sz = i * aD.sz + (a2.length - i) * aD.sz:=by rw [← Nat.add_mul]; congr 1; omega
     have hnm : (a2.length + a1.length - i) * aD.sz = (a2.length - i) * aD.sz + a1.length * aD.sz:=by rw [← Nat.add_mul]; congr 1; omega
     have hnm2 : (a2.length + a1.length - (i + a1.length)) * aD.sz = (a2.length - i) * aD.sz:=by congr 1; omega
     rw [← hJ]
     have hD0 : (D.flat (a2.map aD.d) ++ J).length = i * aD.sz + (a2.length - i) * aD.sz + J.length:=by rw [List.length_append,hX,hni]
     refine aU ?_
     refine aN ?_
     refine aC (aA rfl (aK rfl rfl (lb rfl) (sv (d:=.rsl _ _ _ _ _) rfl)) <| aA rfl (mvI rfl rfl rfl rfl) <| aA rfl (mvI rfl rfl rfl rfl) <|aA rfl (bL rfl rfl (lb rfl) (svI rfl) (svI rfl) rfl (wN hm)) <|aA rfl (eC (sz:=aD.sz) (l:=0) (h:=((a2.length + a1.length : Nat) : Int)) (m:=(c : Int)) (d:=.rsl 1000 aD.sz 0 (a2.length + a1.length) c) rfl rfl (lb rfl) Tryz.underlying24 ti52 (sv (d:=.rsl _ _ _ _ _) rfl) rfl ⟨_,(svI rfl)⟩ rfl (by simp) (by omega) (by omega) (by omega) (by omega) (by simp only [Int.toNat_natCast,Int.toNat_zero,Nat.zero_mul,Nat.zero_add,Nat.sub_zero])) <|aA rfl (aE rfl rfl (lb rfl) (sv (d:=.rsl _ _ _ _ _) rfl)) <| aB ?_)
     refine aV ?_
     refine aC (aA rfl (mvL rfl rfl rfl rfl) <| aA rfl (aK rfl rfl (lb rfl) (sv (d:=.rsl _ _ _ _ _) rfl)) <| aA rfl (mvI rfl rfl rfl rfl) <| aA rfl (mvI rfl rfl rfl rfl) <|aA rfl (bL rfl rfl (lb rfl) (svI rfl) (svI rfl) rfl w2) <|aA rfl (eC (sz:=aD.sz) (l:=((i + a1.length : Nat) : Int)) (h:=((a2.length + a1.length : Nat) : Int)) (m:=(c : Int)) rfl rfl (lb rfl) Tryz.underlying24 ti52 (sv (d:=.rsl _ _ _ _ _) rfl) ⟨_,(svI rfl)⟩ rfl rfl (by simp) (by omega) (by omega) (by omega) (by omega) rfl) <|aA rfl (aAo rfl rfl (lb rfl) ex92 Tryz.underlying24 ti52 (svL rfl) (by intro e; have e9:=congrArg List.length e; rw [List.length_map,List.length_nil] at e9; omega) (sv (d:=.rsl _ _ _ _ _) rfl) rfl (by intro e; have:=congrArg List.length e; rw [hD0] at this; simp only [List.length_nil] at this; have h9 : 0 < (a2.length - i) * aD.sz:=Nat.mul_pos (Nat.sub_pos_of_lt hin) hp; clear hnm hnm2 him; omega)) <|aA rfl (dD rfl rfl (lb rfl) (svB rfl)) <| aB ?_)
     refine fK rfl rfl ?_
     obtain ⟨es,hes⟩ : ∃ es,es = ((D.flat (a2.map aD.d) ++ J).drop (i * aD.sz)).take ((a2.length + a1.length - i) * aD.sz):=⟨_,rfl⟩
     have hes' : es.take ((a2.length - i) * aD.sz) = D.flat ((a2.drop i).map aD.d):=by
      rw [hes,List.take_take,Nat.min_eq_left (by omega),List.drop_append_of_le_length (by omega),aD.toEnc0.flat_drop,List.take_append_of_le_length (by rw [hXd]; exact Nat.le_refl _),← hXd,List.take_length]
     have hesl : es.length = (a2.length + a1.length - i) * aD.sz:=by
      rw [hes,List.length_take,List.length_drop,hD0]; omega
     have hres:=aDU (J:=J) (Y:=D.flat ((a2.drop i).map aD.d)) hXt hV hJm
     rw [← hXs] at hres
     refine dG rfl [⟨[0],[],[(69,.rsl 1000 aD.sz 0 (a2.length + a1.length) c)],[]⟩,⟨[1],[],[(70,.int .i64 (i : Int))],[]⟩,⟨[7],[],[(71,.int .i64 (a1.length : Int))],[]⟩,⟨[70,71],[],[(72,.int .i64 ((i + a1.length : Nat) : Int))],[]⟩,
      ⟨[69,72],[],[(73,.rsl 1000 aD.sz ((i + a1.length) * aD.sz) (a2.length + a1.length - (i + a1.length)) (c - (i + a1.length)))],[]⟩,⟨[0],[],[(74,.rsl 1000 aD.sz 0 (a2.length + a1.length) c)],[]⟩,⟨[1],[],[(75,.int .i64 (i : Int))],[]⟩,⟨[74,75],[],[(76,.rsl 1000 aD.sz (i * aD.sz) (a2.length + a1.length - i) (c - i))],[]⟩,
      ⟨[73,76],[1000],[(77,.int .i64 ((min (a2.length + a1.length - i) (a2.length + a1.length - (i + a1.length)) : Nat) : Int))],[(1000,.blk 52 (eY (D.flat (a2.map aD.d) ++ J) (i * aD.sz + a1.length * aD.sz) (D.flat ((a2.drop i).map aD.d))))]⟩] rfl ?_ (by kernel_rfl) ?_
     ·refine .cons (lop rfl rfl fun S hA=>(aK rfl rfl (lb rfl) (sv (d:=.rsl _ _ _ _ _) (agr hA rfl rfl)))) ?_
      refine .cons (lop rfl rfl fun S hA=>(aK rfl rfl (lb rfl) (svaI hA rfl rfl))) ?_
      refine .cons (lop rfl rfl fun S hA=>(aK rfl rfl (lb rfl) (svaI hA rfl rfl))) ?_
      refine .cons (lop rfl rfl fun S hA=>(bL rfl rfl (lb rfl) (svaI hA rfl rfl) (svaI hA rfl rfl) rfl w2)) ?_
      refine .cons (lop rfl rfl fun S hA=>(eC (sz:=aD.sz) (l:=((i + a1.length : Nat) : Int)) (h:=((a2.length + a1.length : Nat) : Int)) (m:=(c : Int)) (d:=.rsl 1000 aD.sz ((i + a1.length) * aD.sz) (a2.length + a1.length - (i + a1.length)) (c - (i + a1.length))) rfl rfl (lb rfl) Tryz.underlying24 ti52 (sv (d:=.rsl _ _ _ _ _) (agr hA rfl rfl)) ⟨_,(svaI hA rfl rfl)⟩ rfl rfl (by simp) (by omega) (by omega) (by omega) (by omega) (by simp only [Int.toNat_natCast,Nat.zero_add]))) ?_
      refine .cons (lop rfl rfl fun S hA=>(aK rfl rfl (lb rfl) (sv (d:=.rsl _ _ _ _ _) (agr hA rfl rfl)))) ?_
      refine .cons (lop rfl rfl fun S hA=>(aK rfl rfl (lb rfl) (svaI hA rfl rfl))) ?_
      refine .cons (lop rfl rfl fun S hA=>(eC (sz:=aD.sz) (l:=(i : Int)) (h:=((a2.length + a1.length : Nat) : Int)) (m:=(c : Int)) (d:=.rsl 1000 aD.sz (i * aD.sz) (a2.length + a1.length - i) (c - i)) rfl rfl (lb rfl) Tryz.underlying24 ti52 (sv (d:=.rsl _ _ _ _ _) (agr hA rfl rfl)) ⟨_,(svaI hA rfl rfl)⟩ rfl rfl (by simp) (by omega) (by omega) (by omega) (by omega) (by simp only [Int.toNat_natCast,Nat.zero_add]))) ?_
      refine .cons (lop rfl rfl fun S hA=>(oI (sz:=aD.sz) (es:=es) (ds':=eY (D.flat (a2.map aD.d) ++ J) (i * aD.sz + a1.length * aD.sz) (D.flat ((a2.drop i).map aD.d))) rfl rfl (lb rfl) Tryz.underlying24 ti52 (sv (d:=.rsl _ _ _ _ _) (agr hA rfl rfl)) (agi hA rfl rfl) (hes ▸ aBG (sv (d:=.rsl _ _ _ _ _) (agr hA rfl rfl)) (agi hA rfl rfl) (by rw [hD0]; omega)) hesl (by rw [show min (a2.length + a1.length - i) (a2.length + a1.length - (i + a1.length)) = a2.length - i by omega,hes']; exact aD.toEnc0.one _) (by rw [hD0,him,hnm2]; omega) rfl (by rw [show min (a2.length + a1.length - i) (a2.length + a1.length - (i + a1.length)) = a2.length - i by omega,hes',him]))) ?_
      exact .nil
     ·refine aC (aA rfl (aK rfl rfl (lb rfl) (sv (d:=.rsl _ _ _ _ _) rfl)) <| aA rfl (mvI rfl rfl rfl rfl) <|aA rfl (eC (sz:=aD.sz) (l:=(i : Int)) (h:=((a2.length + a1.length : Nat) : Int)) (m:=(c : Int)) (d:=.rsl 1000 aD.sz (i * aD.sz) (a2.length + a1.length - i) (c - i)) rfl rfl (lb rfl) Tryz.underlying24 ti52 (sv (d:=.rsl _ _ _ _ _) rfl) ⟨_,(svI rfl)⟩ rfl rfl (by simp) (by omega) (by omega) (by omega) (by omega) (by simp only [Int.toNat_natCast,Nat.zero_add])) <|aA rfl (mvL rfl rfl rfl rfl) <|aA rfl (oI (sz:=aD.sz) (ds':=D.flat (r.map aD.d) ++ J.drop (a1.length * aD.sz)) rfl rfl (lb rfl) Tryz.underlying24 ti52 (sv (d:=.rsl _ _ _ _ _) rfl) rfl (aAP aD (ys:=a1) (svL rfl)) hV (uA (aD.toEnc0.one a1) _) (by rw [sG,hD0]; omega; rw [hD0,hXd]; omega) rfl (by rw [hvt _ (by omega),hres,hR])) <| aB ?_)
      refine aC (aA rfl (aK rfl rfl (lb rfl) (sv (d:=.rsl _ _ _ _ _) rfl)) <| aA rfl (aE rfl rfl (lb rfl) (sv (d:=.rsl _ _ _ _ _) rfl)) <| aB ?_)
      refine rC 6 (id:=1000) rfl rfl (show (D.flat (r.map aD.d)).length = (a2.length + a1.length) * aD.sz by rw [hRl,hrl]) ?_
      refine aS ?_
      refine aZ ?_
      refine ⟨.inr rfl,(fun i=>if i = 0 then 1000 else i),⟨.nil,(.cons (EntW.lst rfl) .nil),bX [1000] rfl (by decide),(fun i hi=>by first | rfl | (show (if _ then _ else _) = _; (repeat' split) <;> omega))⟩,(.cons (sv (congrArg (D.osl _ _) hrl.symm)) .nil),rfl⟩

theorem aBO (a0 : bB) (a1 : Int) (a2 : Int) (a3 : Int) (r : (bB × aM × (List UInt8) × Bool)) (h : wB a0 a1 a2 a3 = some r) : cD Tryz.prog 27 [.agg (v2 a0),.int .i64 a1,.int .i64 a2,.int .i64 a3] (retD [.agg (v2 r.1),.agg (v6 r.2.1),.str r.2.2.1,.bool r.2.2.2]):=by
 refine iM (rs:=[.agg (v2 r.1),.agg (v6 r.2.1),.str r.2.2.1,.bool r.2.2.2]) Tryz.func27 rfl Tryz.ntmps27 (nle rfl) rfl fun O hO=>?_
 show IWP _ _ _ _ ⟨[(0,.agg (v2 a0)),(1,.int .i64 a1),(2,.int .i64 a2),(3,.int .i64 a3)],[]⟩ _
 unfold wB at h
 refine aC (aA rfl (bR (cs:=q12) 0 rfl rfl (lb rfl) rfl (svA q12 rfl) rfl rfl) <|aA rfl (bJ (cs:=q14) (cs':=(w38 0 [] 0 ([] : List aM) ([] : List aI) false false false false)) 1 rfl rfl (lb rfl) rfl ti28 rfl rfl (.k (.k (.k (.cons (.nils _) (.cons (.nils _) (.all _))))))) <|aA rfl (bJ (cs:=q17) (cs':=(w42 0 0 0 false)) 2 rfl rfl (lb rfl) rfl ti52 rfl rfl (.all _)) <|aA rfl (aE rfl rfl (lb rfl) (sv (d:=.str []) rfl)) <|aA rfl (aE rfl rfl (lb rfl) (sv (d:=.bool false) rfl)) <|aB ?_)
 obtain ⟨x1,hx1,h⟩:=aY h
 refine aC (aA rfl (lra q12 la28 rfl rfl rfl rfl rfl (nle rfl) rfl) <|aA rfl (dU (r':=.agg (w39 x1.1 x1.2.1 x1.2.2.1 (.osl 3 aD.sz x1.2.2.2.1.length) x1.2.2.2.2.1 x1.2.2.2.2.2.1 x1.2.2.2.2.2.2.1 x1.2.2.2.2.2.2.2.1 x1.2.2.2.2.2.2.2.2)) (H1':=[(3,.blk 52 (D.flat (x1.2.2.2.1.map aD.d)))]) 3 [] rfl rfl (lb rfl) cl50 (.cons (svA q12 rfl) .nil) rfl rfl ⟨rfl,rfl,by decide,rfl,List.forall_mem_nil _⟩ (kB _ _ hx1) rfl rfl (List.forall_mem_cons.2 ⟨⟨rfl,(jT aD)⟩,List.forall_mem_nil _⟩) (by simp only [List.map_cons,List.map_nil,Ent.ren,eS,fH]; rfl)) <|aA rfl (bJ (cs:=q14) (cs':=(w38 0 [] 0 ([] : List aM) ([] : List aI) false false false false)) 4 rfl rfl (lb rfl) rfl ti28 rfl rfl (.k (.k (.k (.cons (.nils _) (.cons (.nils _) (.all _))))))) <|aA rfl (stA q13 q13 ti28 rfl rfl rfl rfl rfl rfl rfl rfl (nle rfl) rfl) <|aB ?_)
 refine aV ?_
 obtain ⟨x2,hx2,h⟩:=aY h
 obtain ⟨x3,hx3,h⟩:=aR h
 obtain ⟨x4,hx4,h⟩:=aR h
 obtain ⟨x5,hx5,h⟩:=aY h
 obtain ⟨x6,hx6,h⟩:=aR h
 obtain ⟨x7,hx7,h⟩:=aR h
 refine aC (aA rfl (mvI rfl rfl rfl rfl) <|aA rfl (aW (r:=.bool _) rfl rfl (lb rfl) cl52 (.cons (svI rfl) .nil) rfl (wJ _ _ hx2)) <|aA rfl (dD rfl rfl (lb rfl) (svB rfl)) <|aA rfl (mvB rfl rfl rfl rfl) <|aF rfl rfl (.one rfl) rfl (by decide) (fun hb=>(mvI rfl rfl rfl rfl)) <|aF rfl rfl (.one rfl) rfl (by decide) (fun hb=>(aP rfl rfl (lb rfl) (svcI rfl hb) (sv (d:=.int _ 1) rfl) rfl hx3)) <|aA rfl (dM rfl rfl (lb rfl) (svB rfl) rfl rfl hx4) <|aA rfl (mvB rfl rfl rfl rfl) <|aF rfl rfl (.one rfl) rfl (by decide) (fun hb=>(lra q12 la28 rfl rfl rfl rfl rfl (nle rfl) rfl)) <|aF rfl rfl (.one rfl) rfl (by decide) (fun hb=>(aW (r:=.int _ _) rfl rfl (lb rfl) cl39 (.cons (svcA (v2 a0) rfl hb) .nil) rfl (lH _ _ (gd_t hx5 hb)))) <|aF rfl rfl (.one rfl) rfl (by decide) (fun hb=>(aP rfl rfl (lb rfl) (svcI rfl hb) (sv (d:=.int _ 0) rfl) rfl hx6)) <|aA rfl (dM rfl rfl (lb rfl) (svB rfl) rfl rfl hx7) <|aB ?_)
 refine aT (b:=_) rfl (fun hc8=>?_) (fun hc8=>?_)
 ·
  replace h:=bT h hc8
  refine aC (aA rfl (lra q13 la28 rfl rfl rfl rfl rfl (nle rfl) rfl) <|aA rfl (cC (cs:=q17) rfl rfl (lb rfl) Tryz.underlying52 ti52 pl52 rfl .nil rfl) <|aA rfl (stA q13 q13 ti28 rfl rfl rfl rfl rfl rfl rfl rfl (nle rfl) rfl) <|aA rfl (stA q17 q17 ti52 rfl rfl rfl rfl rfl rfl rfl rfl (nle rfl) rfl) <|aA rfl (aE rfl rfl (lb rfl) (sv (d:=.str []) rfl)) <|aA rfl (aE rfl rfl (lb rfl) (sv (d:=.bool false) rfl)) <|aB ?_)
  refine aS ?_
  refine aZ ?_
  obtain rfl:=Option.some.inj h
  refine ⟨.inr rfl,_,(.cons (rva la28 rfl rfl (nle rfl) rfl) (.cons (rva la52 rfl rfl (nle rfl) rfl) (.cons (sv rfl) (.cons (sv rfl) .nil)))),(.cons (.agg (.k (.k (.k (.cons (FDT aD rfl rfl) (.all _)))))) (.all _))⟩
 ·
  replace h:=bU h hc8
  refine aU ?_
  refine aN ?_
  obtain ⟨x9,hx9,h⟩:=aY h
  refine aC (aA rfl (lra q12 la28 rfl rfl rfl rfl rfl (nle rfl) rfl) <|aA rfl (mvI rfl rfl rfl rfl) <|aA rfl (mvI rfl rfl rfl rfl) <|aA rfl (aW (r:=.tuple q34) rfl rfl (lb rfl) cl53 (.cons (svA q12 rfl) (.cons (svI rfl) (.cons (svI rfl) .nil))) rfl (pB _ _ _ _ hx9)) <|aA rfl (aK rfl rfl (lb rfl) (sv (d:=.tuple q34) rfl)) <|aA rfl (bE (d:=.agg q17) rfl rfl (lb rfl) (sv (d:=.tuple q34) rfl) rfl) <|aA rfl (bE (d:=.bool _) rfl rfl (lb rfl) (sv (d:=.tuple q34) rfl) rfl) <|aA rfl (bJ (cs:=q17) (cs':=(w42 0 0 0 false)) 5 rfl rfl (lb rfl) rfl ti52 rfl rfl (.all _)) <|aA rfl (stA q17 q17 ti52 rfl rfl rfl rfl rfl rfl rfl rfl (nle rfl) rfl) <|aA rfl (asB rfl rfl rfl rfl) <|aB ?_)
  refine aV ?_
  refine aC (aA rfl (mvB rfl rfl rfl rfl) <|aA rfl (dD rfl rfl (lb rfl) (svB rfl)) <|aB ?_)
  refine aT (b:=_) rfl (fun hc10=>?_) (fun hc10=>?_)
  ·
   replace h:=bT h hc10
   refine aC (aA rfl (lra q13 la28 rfl rfl rfl rfl rfl (nle rfl) rfl) <|aA rfl (cC (cs:=q17) rfl rfl (lb rfl) Tryz.underlying52 ti52 pl52 rfl .nil rfl) <|aA rfl (stA q13 q13 ti28 rfl rfl rfl rfl rfl rfl rfl rfl (nle rfl) rfl) <|aA rfl (stA q17 q17 ti52 rfl rfl rfl rfl rfl rfl rfl rfl (nle rfl) rfl) <|aA rfl (aE rfl rfl (lb rfl) (sv (d:=.str []) rfl)) <|aA rfl (aE rfl rfl (lb rfl) (sv (d:=.bool false) rfl)) <|aB ?_)
   refine aS ?_
   refine aZ ?_
   obtain rfl:=Option.some.inj h
   refine ⟨.inr rfl,_,(.cons (rva la28 rfl rfl (nle rfl) rfl) (.cons (rva la52 rfl rfl (nle rfl) rfl) (.cons (sv rfl) (.cons (sv rfl) .nil)))),(.cons (.agg (.k (.k (.k (.cons (FDT aD rfl rfl) (.all _)))))) (.all _))⟩
  ·
   replace h:=bU h hc10
   refine aU ?_
   refine aN ?_
   refine aC (aA rfl (mvI rfl rfl rfl rfl) <|aA rfl (faR 2 rfl rfl rfl Tryz.underlying52 rfl ti3 (lb rfl) rfl rfl) <|aA rfl (bQ (ds':=q17) rfl rfl ti3 (svR rfl) rfl (svI rfl) rfl rfl rfl (nle rfl) rfl) <|aB ?_)
   obtain ⟨x11,hx11,h⟩:=aR h
   refine aC (aA rfl (faR 2 rfl rfl rfl Tryz.underlying28 rfl ti3 (lb rfl) rfl rfl) <|aA rfl (aG (d:=.int _ _) rfl rfl (lb rfl) Tryz.underlying3 ag3 ti3 (by decide) (svR rfl) rfl (nle rfl) rfl) <|aA rfl (faR 1 rfl rfl rfl Tryz.underlying52 rfl ti3 (lb rfl) rfl rfl) <|aA rfl (aG (d:=.int _ _) rfl rfl (lb rfl) Tryz.underlying3 ag3 ti3 (by decide) (svR rfl) rfl (nle rfl) rfl) <|aA rfl (pZ rfl rfl (lb rfl) (svI rfl) (svI rfl) hx11) <|aA rfl (faR 2 rfl rfl rfl Tryz.underlying28 rfl ti3 (lb rfl) rfl rfl) <|aA rfl (bQ (ds':=q13) rfl rfl ti3 (svR rfl) rfl (svI rfl) rfl rfl rfl (nle rfl) rfl) <|aB ?_)
   refine gK (α:=(List aI)) (fun z=>⟨[(4,.ref 0 0),(8,.ref 1 0),(9,.ref 2 0),(12,.ref 4 0),(13,.ref 5 0)],[(0,.blk 28 (v2 a0)),(1,.blk 28 (w38 0 [] 0 ([] : List aM) ([] : List aI) false false false false)),(2,.blk 52 (w42 0 0 0 false)),(4,.blk 28 (w39 x1.1 x1.2.1 x11 (.osl 3 aD.sz x1.2.2.2.1.length) z x1.2.2.2.2.2.1 x1.2.2.2.2.2.2.1 x1.2.2.2.2.2.2.2.1 x1.2.2.2.2.2.2.2.2)),(5,.blk 52 (w42 x9.1.From x9.1.To a1 x9.1.Fin)),(3,.blk 52 (D.flat (x1.2.2.2.1.map aD.d)))]⟩) (fun z=>oD a0 a1 x1 x9 x11 z = some r) ?_ ?_
   ·
    obtain ⟨x35,hx35,h⟩:=aR h
    refine aC (aA rfl (faR 0 rfl rfl rfl Tryz.underlying52 rfl ti3 (lb rfl) rfl rfl) <|aA rfl (aG (d:=.int _ _) rfl rfl (lb rfl) Tryz.underlying3 ag3 ti3 (by decide) (svR rfl) rfl (nle rfl) rfl) <|aA rfl (faR 1 rfl rfl rfl Tryz.underlying52 rfl ti3 (lb rfl) rfl rfl) <|aA rfl (aG (d:=.int _ _) rfl rfl (lb rfl) Tryz.underlying3 ag3 ti3 (by decide) (svR rfl) rfl (nle rfl) rfl) <|aA rfl (aP rfl rfl (lb rfl) (svI rfl) (svI rfl) rfl hx35) <|aB ?_)
    refine aT (b:=_) rfl (fun hc36=>?_) (fun hc36=>?_)
    ·
     replace h:=bT h hc36
     obtain ⟨x37,hx37,h⟩:=aY h
     obtain ⟨x38,hx38,h⟩:=aY h
     refine tO rfl [⟨[12],[],[(55,.ref 4 4)],[]⟩,
      ⟨[55],[4],[(56,.slice false (x1.2.2.2.2.1.map aJ.d))],[]⟩,
      ⟨[13],[5],[(57,.agg (w42 x9.1.From x9.1.To a1 x9.1.Fin))],[]⟩,
      ⟨[57],[],[(58,.agg [.int .i64 x37.From,.int .i64 x37.To])],[]⟩,
      ⟨[56,58],[],[(59,.slice false (x38.map aJ.d))],[]⟩,
      ⟨[12],[],[(60,.ref 4 4)],[]⟩,
      ⟨[59,60],[4],[],[(4,.blk 28 (w39 x1.1 x1.2.1 x11 (.osl 3 aD.sz x1.2.2.2.1.length) x38 x1.2.2.2.2.2.1 x1.2.2.2.2.2.2.1 x1.2.2.2.2.2.2.2.1 x1.2.2.2.2.2.2.2.2))]⟩] rfl ?_ (by kernel_rfl) ?_
     ·refine .cons (lop rfl rfl fun S hA=>(aO rfl rfl (lb rfl) Tryz.underlying28 rfl ti26 (by decide) (svaR hA rfl rfl) (off':=4) rfl)) ?_
      refine .cons (lop rfl rfl fun S hA=>(aG (d:=.slice _ _) rfl rfl (lb rfl) Tryz.underlying26 ag26 ti26 (by decide) (svaR hA rfl rfl) (agi hA rfl rfl) (nle rfl) rfl)) ?_
      refine .cons (lop rfl rfl fun S hA=>(cA (cs:=q17) rfl rfl (lb rfl) Tryz.underlying52 ag52 ti52 (by decide) (svaR hA rfl rfl) (agi hA rfl rfl) (nle rfl) rfl)) ?_
      refine .cons (lop rfl rfl fun S hA=>(aW (r:=.agg q25) rfl rfl (lb rfl) cl55 (.cons (svaA q17 hA rfl rfl) .nil) rfl (kQ _ _ hx37))) ?_
      refine .cons (lop rfl rfl fun S hA=>(aW (r:=.slice _ _) rfl rfl (lb rfl) cl54 (.cons (svaL hA rfl rfl) (.cons (svaA q25 hA rfl rfl) .nil)) rfl (sP _ _ _ hx38))) ?_
      refine .cons (lop rfl rfl fun S hA=>(aO rfl rfl (lb rfl) Tryz.underlying28 rfl ti26 (by decide) (svaR hA rfl rfl) (off':=4) rfl)) ?_
      refine .cons (lop rfl rfl fun S hA=>(bQ (ds':=q13) rfl rfl ti26 (svaR hA rfl rfl) (agi hA rfl rfl) (svaL hA rfl rfl) rfl rfl rfl (nle rfl) rfl)) ?_
      exact .nil
     refine aN ⟨x38,(fun i=>i),⟨(.sames rfl rfl),(.cons (.blk rfl rfl rfl) (.cons (.blk rfl rfl rfl) (.cons (.blk rfl rfl rfl) (.cons (.blk rfl rfl rfl) (.cons (.blk rfl rfl rfl) (.cons (EntW.lst rfl) .nil)))))),bX [0,1,2,4,5,3] rfl (by decide),fun _ _=>rfl⟩,?_⟩
     exact h
    ·
     replace h:=bU h hc36
     refine aU ?_
     refine aN ⟨x1.2.2.2.2.1,(fun i=>i),⟨(.sames rfl rfl),(.cons (.blk rfl rfl rfl) (.cons (.blk rfl rfl rfl) (.cons (.blk rfl rfl rfl) (.cons (.blk rfl rfl rfl) (.cons (.blk rfl rfl rfl) (.cons (EntW.lst rfl) .nil)))))),bX [0,1,2,4,5,3] rfl (by decide),fun _ _=>rfl⟩,?_⟩
     exact h
   ·
    rintro v16 h
    unfold oD at h
    refine gK (α:=Bool × Bool × Bool) (fun z=>⟨[(4,.ref 0 0),(8,.ref 1 0),(9,.ref 2 0),(12,.ref 4 0),(13,.ref 5 0)],[(0,.blk 28 (v2 a0)),(1,.blk 28 (w38 0 [] 0 ([] : List aM) ([] : List aI) false false false false)),(2,.blk 52 (w42 0 0 0 false)),(4,.blk 28 (w39 x1.1 x1.2.1 x11 (.osl 3 aD.sz x1.2.2.2.1.length) v16 x1.2.2.2.2.2.1 z.1 z.2.1 x1.2.2.2.2.2.2.2.2)),(5,.blk 52 (w42 x9.1.From x9.1.To a1 z.2.2)),(3,.blk 52 (D.flat (x1.2.2.2.1.map aD.d)))]⟩) (fun z=>oC a0 a1 x1 x9 x11 v16 z.1 z.2.1 z.2.2 = some r) ?_ ?_
    ·
     obtain ⟨x30,hx30,h⟩:=aY h
     obtain ⟨x31,hx31,h⟩:=aR h
     obtain ⟨x32,hx32,h⟩:=aY h
     obtain ⟨x33,hx33,h⟩:=aR h
     refine dG rfl [⟨[13],[],[(61,.ref 5 1)],[]⟩,
      ⟨[61],[5],[(62,.int .i64 x9.1.To)],[]⟩,
      ⟨[4],[0],[(63,.agg (v2 a0))],[]⟩,
      ⟨[63],[],[(64,.int .i64 x30)],[]⟩,
      ⟨[62,64],[],[(65,.bool x31)],[]⟩,
      ⟨[65],[],[(66,.bool x31)],[]⟩,
      ⟨[4,66],[0],[(67,.cnd (x31 == true) (.agg (v2 a0)))],[]⟩,
      ⟨[66,67],[],[(68,.cnd (x31 == true) (.bool x32))],[]⟩,
      ⟨[66,68],[],[(69,.bool x33)],[]⟩,
      ⟨[13],[],[(70,.ref 5 3)],[]⟩,
      ⟨[69,70],[5],[],[(5,.blk 52 (w42 x9.1.From x9.1.To a1 x33))]⟩] rfl ?_ (by kernel_rfl) ?_
     ·refine .cons (lop rfl rfl fun S hA=>(aO rfl rfl (lb rfl) Tryz.underlying52 rfl ti3 (by decide) (svaR hA rfl rfl) (off':=1) rfl)) ?_
      refine .cons (lop rfl rfl fun S hA=>(aG (d:=.int _ _) rfl rfl (lb rfl) Tryz.underlying3 ag3 ti3 (by decide) (svaR hA rfl rfl) (agi hA rfl rfl) (nle rfl) rfl)) ?_
      refine .cons (lop rfl rfl fun S hA=>(cA (cs:=q12) rfl rfl (lb rfl) Tryz.underlying28 ag28 ti28 (by decide) (svaR hA rfl rfl) (agi hA rfl rfl) (nle rfl) rfl)) ?_
      refine .cons (lop rfl rfl fun S hA=>(aW (r:=.int _ _) rfl rfl (lb rfl) cl51 (.cons (svaA q12 hA rfl rfl) .nil) rfl (fN _ _ hx30))) ?_
      refine .cons (lop rfl rfl fun S hA=>(aP rfl rfl (lb rfl) (svaI hA rfl rfl) (svaI hA rfl rfl) rfl hx31)) ?_
      refine .cons (lop rfl rfl fun S hA=>(aK rfl rfl (lb rfl) (svaB hA rfl rfl))) ?_
      refine .cons (lopg rfl rfl rfl rfl (by decide) (fun S hA=>grd1 hA rfl rfl) (fun S hA hb=>(cA (cs:=q12) rfl rfl (lb rfl) Tryz.underlying28 ag28 ti28 (by decide) (svaR hA rfl rfl) (agi hA rfl rfl) (nle rfl) rfl))) ?_
      refine .cons (lopg rfl rfl rfl rfl (by decide) (fun S hA=>grd1 hA rfl rfl) (fun S hA hb=>(aW (r:=.bool _) rfl rfl (lb rfl) cl56 (.cons (svc (d:=.agg (v2 a0)) (agr hA rfl rfl) hb) .nil) rfl (qH _ _ (gd_t hx32 hb))))) ?_
      refine .cons (lop rfl rfl fun S hA=>(bO rfl rfl (lb rfl) (svaB hA rfl rfl) (agr hA rfl rfl) rfl hx33)) ?_
      refine .cons (lop rfl rfl fun S hA=>(aO rfl rfl (lb rfl) Tryz.underlying52 rfl ti4 (by decide) (svaR hA rfl rfl) (off':=3) rfl)) ?_
      refine .cons (lop rfl rfl fun S hA=>(bQ (ds':=q17) rfl rfl ti4 (svaR hA rfl rfl) (agi hA rfl rfl) (svaB hA rfl rfl) rfl rfl rfl (nle rfl) rfl)) ?_
      exact .nil
     refine aC (aA rfl (faR 3 rfl rfl rfl Tryz.underlying52 rfl ti4 (lb rfl) rfl rfl) <|aA rfl (aG (d:=.bool _) rfl rfl (lb rfl) Tryz.underlying4 ag4 ti4 (by decide) (svR rfl) rfl (nle rfl) rfl) <|aB ?_)
     refine aT (b:=_) rfl (fun hc34=>?_) (fun hc34=>?_)
     ·
      replace h:=bT h hc34
      refine bD (aA rfl (faR 6 rfl rfl rfl Tryz.underlying28 rfl ti4 (lb rfl) rfl rfl) <|aA rfl (bQ (ds':=q13) rfl rfl ti4 (svR rfl) rfl (sv (d:=.bool true) rfl) rfl rfl rfl (nle rfl) rfl) <|aA rfl (faR 7 rfl rfl rfl Tryz.underlying28 rfl ti4 (lb rfl) rfl rfl) <|aA rfl (bQ (ds':=q13) rfl rfl ti4 (svR rfl) rfl (sv (d:=.bool false) rfl) rfl rfl rfl (nle rfl) rfl) <|bW ?_)
      refine aN ⟨(true,false,x33),(fun i=>i),⟨(.sames rfl rfl),(.cons (.blk rfl rfl rfl) (.cons (.blk rfl rfl rfl) (.cons (.blk rfl rfl rfl) (.cons (.blk rfl rfl rfl) (.cons (.blk rfl rfl rfl) (.cons (EntW.lst rfl) .nil)))))),bX [0,1,2,4,5,3] rfl (by decide),fun _ _=>rfl⟩,?_⟩
      exact h
     ·
      replace h:=bU h hc34
      refine aU ?_
      refine aN ⟨(x1.2.2.2.2.2.2.1,x1.2.2.2.2.2.2.2.1,x33),(fun i=>i),⟨(.sames rfl rfl),(.cons (.blk rfl rfl rfl) (.cons (.blk rfl rfl rfl) (.cons (.blk rfl rfl rfl) (.cons (.blk rfl rfl rfl) (.cons (.blk rfl rfl rfl) (.cons (EntW.lst rfl) .nil)))))),bX [0,1,2,4,5,3] rfl (by decide),fun _ _=>rfl⟩,?_⟩
      exact h
    ·
     rintro ⟨v22,v23,v24⟩ h
     unfold oC at h
     obtain ⟨x25,hx25,h⟩:=aY h
     obtain ⟨x26,hx26,h⟩:=aY h
     refine dG rfl [⟨[12],[],[(75,.ref 4 3)],[]⟩,
      ⟨[75],[4],[(76,.osl 3 aD.sz x1.2.2.2.1.length)],[]⟩,
      ⟨[4],[0],[(77,.agg (v2 a0))],[]⟩,
      ⟨[13],[5],[(78,.agg (w42 x9.1.From x9.1.To a1 v24))],[]⟩,
      ⟨[77,78],[],[(79,.int .i64 x25)],[]⟩,
      ⟨[13],[5],[(80,.agg (w42 x9.1.From x9.1.To a1 v24))],[]⟩,
      ⟨[80],[6],[(81,.gsl 6 aD.sz ((([(⟨x9.1.From,x9.1.To,a1,v24⟩ : aM)] : (List aM))).map aD.d))],[(6,.tail 52 aD.sz (([(⟨x9.1.From,x9.1.To,a1,v24⟩ : aM)] : (List aM))).length)]⟩,
      ⟨[76,79,81],[3,7],[(82,.osl 7 aD.sz x26.length)],[(7,.blk 52 (D.flat (x26.map aD.d))),(3,.none)]⟩,
      ⟨[12],[],[(83,.ref 4 3)],[]⟩,
      ⟨[82,83],[4],[],[(4,.blk 28 (w39 x1.1 x1.2.1 x11 (.osl 7 aD.sz x26.length) v16 x1.2.2.2.2.2.1 v22 v23 x1.2.2.2.2.2.2.2.2))]⟩] rfl ?_ (by kernel_rfl) ?_
     ·refine .cons (lop rfl rfl fun S hA=>(aO rfl rfl (lb rfl) Tryz.underlying28 rfl ti24 (by decide) (svaR hA rfl rfl) (off':=3) rfl)) ?_
      refine .cons (lop rfl rfl fun S hA=>(aG (d:=.osl _ _ _) rfl rfl (lb rfl) Tryz.underlying24 ag24 ti24 (by decide) (svaR hA rfl rfl) (agi hA rfl rfl) (nle rfl) rfl)) ?_
      refine .cons (lop rfl rfl fun S hA=>(cA (cs:=q12) rfl rfl (lb rfl) Tryz.underlying28 ag28 ti28 (by decide) (svaR hA rfl rfl) (agi hA rfl rfl) (nle rfl) rfl)) ?_
      refine .cons (lop rfl rfl fun S hA=>(cA (cs:=q17) rfl rfl (lb rfl) Tryz.underlying52 ag52 ti52 (by decide) (svaR hA rfl rfl) (agi hA rfl rfl) (nle rfl) rfl)) ?_
      refine .cons (lop rfl rfl fun S hA=>(aW (r:=.int _ _) rfl rfl (lb rfl) cl58 (.cons (svaA q12 hA rfl rfl) (.cons (svaA q17 hA rfl rfl) .nil)) rfl (tD _ _ _ hx25))) ?_
      refine .cons (lop rfl rfl fun S hA=>(cA (cs:=q17) rfl rfl (lb rfl) Tryz.underlying52 ag52 ti52 (by decide) (svaR hA rfl rfl) (agi hA rfl rfl) (nle rfl) rfl)) ?_
      refine .cons (lop rfl rfl fun S hA=>(oQ aD ([(⟨x9.1.From,x9.1.To,a1,v24⟩ : aM)] : (List aM)) 6 rfl rfl (lb rfl) Tryz.underlying24 ti52 (agi hA rfl rfl) (.cons (svaA q17 hA rfl rfl) .nil) rfl rfl (by decide))) ?_
      refine .cons (lop rfl rfl fun S hA=>(aDR (r':=.osl 7 aD.sz x26.length) (U:=[(7,.blk 52 (D.flat (x26.map aD.d))),(3,.none)]) 7 1 [3] rfl rfl (lb rfl) cl57 (.cons (sv (d:=.osl _ _ _) (agr hA rfl rfl)) (.cons (svaI hA rfl rfl) (.cons (svg (agr hA rfl rfl)) .nil))) rfl rfl rfl (List.forall_mem_cons.2 ⟨(agi hA rfl rfl),List.forall_mem_nil _⟩) ⟨by decide,rfl,List.forall_mem_cons.2 ⟨⟨rfl,rfl,(aBd aD (agi hA rfl rfl)),(jT aD)⟩,List.forall_mem_nil _⟩⟩ (kE _ _ _ _ hx26) rfl rfl (List.forall_mem_cons.2 ⟨⟨rfl,(jT aD)⟩,List.forall_mem_nil _⟩) (by simp only [List.map_cons,List.map_nil,Ent.ren,eS,fH]; rfl))) ?_
      refine .cons (lop rfl rfl fun S hA=>(aO rfl rfl (lb rfl) Tryz.underlying28 rfl ti24 (by decide) (svaR hA rfl rfl) (off':=3) rfl)) ?_
      refine .cons (lop rfl rfl fun S hA=>(bQ (ds':=q13) rfl rfl ti24 (svaR hA rfl rfl) (agi hA rfl rfl) (sv (d:=.osl _ _ _) (agr hA rfl rfl)) rfl rfl rfl (nle rfl) rfl)) ?_
      exact .nil
     obtain ⟨x27,hx27,h⟩:=aR h
     obtain ⟨x28,hx28,h⟩:=aR h
     obtain ⟨x29,hx29,h⟩:=aY h
     refine dG rfl [⟨[12],[4],[(84,.agg (w39 x1.1 x1.2.1 x11 (.osl 7 aD.sz x26.length) v16 x1.2.2.2.2.2.1 v22 v23 x1.2.2.2.2.2.2.2.2))],[]⟩,
      ⟨[13],[5],[(85,.agg (w42 x9.1.From x9.1.To a1 v24))],[]⟩,
      ⟨[4],[],[(86,.ref 0 1)],[]⟩,
      ⟨[86],[0],[(87,.str a0.Data)],[]⟩,
      ⟨[13],[],[(88,.ref 5 0)],[]⟩,
      ⟨[88],[5],[(89,.int .i64 x9.1.From)],[]⟩,
      ⟨[4],[],[(90,.ref 0 0)],[]⟩,
      ⟨[90],[0],[(91,.int .i64 a0.Base)],[]⟩,
      ⟨[89,91],[],[(92,.int .i64 x27)],[]⟩,
      ⟨[13],[],[(93,.ref 5 1)],[]⟩,
      ⟨[93],[5],[(94,.int .i64 x9.1.To)],[]⟩,
      ⟨[4],[],[(95,.ref 0 0)],[]⟩,
      ⟨[95],[0],[(96,.int .i64 a0.Base)],[]⟩,
      ⟨[94,96],[],[(97,.int .i64 x28)],[]⟩,
      ⟨[87,92,97],[],[(98,.str x29)],[]⟩,
      ⟨[8,84],[1],[],[(1,.blk 28 (w39 x1.1 x1.2.1 x11 (.osl 7 aD.sz x26.length) v16 x1.2.2.2.2.2.1 v22 v23 x1.2.2.2.2.2.2.2.2))]⟩,
      ⟨[9,85],[2],[],[(2,.blk 52 (w42 x9.1.From x9.1.To a1 v24))]⟩,
      ⟨[98],[],[(10,.str x29)],[]⟩,
      ⟨[],[],[(11,.bool true)],[]⟩] rfl ?_ (by kernel_rfl) ?_
     ·refine .cons (lop rfl rfl fun S hA=>(cA (cs:=q13) rfl rfl (lb rfl) Tryz.underlying28 ag28 ti28 (by decide) (svaR hA rfl rfl) (agi hA rfl rfl) (nle rfl) rfl)) ?_
      refine .cons (lop rfl rfl fun S hA=>(cA (cs:=q17) rfl rfl (lb rfl) Tryz.underlying52 ag52 ti52 (by decide) (svaR hA rfl rfl) (agi hA rfl rfl) (nle rfl) rfl)) ?_
      refine .cons (lop rfl rfl fun S hA=>(aO rfl rfl (lb rfl) Tryz.underlying28 rfl ti9 (by decide) (svaR hA rfl rfl) (off':=1) rfl)) ?_
      refine .cons (lop rfl rfl fun S hA=>(aG (d:=.str _) rfl rfl (lb rfl) Tryz.underlying9 ag9 ti9 (by decide) (svaR hA rfl rfl) (agi hA rfl rfl) (nle rfl) rfl)) ?_
      refine .cons (lop rfl rfl fun S hA=>(aO rfl rfl (lb rfl) Tryz.underlying52 rfl ti3 (by decide) (svaR hA rfl rfl) (off':=0) rfl)) ?_
      refine .cons (lop rfl rfl fun S hA=>(aG (d:=.int _ _) rfl rfl (lb rfl) Tryz.underlying3 ag3 ti3 (by decide) (svaR hA rfl rfl) (agi hA rfl rfl) (nle rfl) rfl)) ?_
      refine .cons (lop rfl rfl fun S hA=>(aO rfl rfl (lb rfl) Tryz.underlying28 rfl ti3 (by decide) (svaR hA rfl rfl) (off':=0) rfl)) ?_
      refine .cons (lop rfl rfl fun S hA=>(aG (d:=.int _ _) rfl rfl (lb rfl) Tryz.underlying3 ag3 ti3 (by decide) (svaR hA rfl rfl) (agi hA rfl rfl) (nle rfl) rfl)) ?_
      refine .cons (lop rfl rfl fun S hA=>(bL rfl rfl (lb rfl) (svaI hA rfl rfl) (svaI hA rfl rfl) rfl hx27)) ?_
      refine .cons (lop rfl rfl fun S hA=>(aO rfl rfl (lb rfl) Tryz.underlying52 rfl ti3 (by decide) (svaR hA rfl rfl) (off':=1) rfl)) ?_
      refine .cons (lop rfl rfl fun S hA=>(aG (d:=.int _ _) rfl rfl (lb rfl) Tryz.underlying3 ag3 ti3 (by decide) (svaR hA rfl rfl) (agi hA rfl rfl) (nle rfl) rfl)) ?_
      refine .cons (lop rfl rfl fun S hA=>(aO rfl rfl (lb rfl) Tryz.underlying28 rfl ti3 (by decide) (svaR hA rfl rfl) (off':=0) rfl)) ?_
      refine .cons (lop rfl rfl fun S hA=>(aG (d:=.int _ _) rfl rfl (lb rfl) Tryz.underlying3 ag3 ti3 (by decide) (svaR hA rfl rfl) (agi hA rfl rfl) (nle rfl) rfl)) ?_
      refine .cons (lop rfl rfl fun S hA=>(bL rfl rfl (lb rfl) (svaI hA rfl rfl) (svaI hA rfl rfl) rfl hx28)) ?_
      refine .cons (lop rfl rfl fun S hA=>(hT rfl rfl (lb rfl) Tryz.underlying9 (sv (d:=.str _) (agr hA rfl rfl)) ⟨_,(svaI hA rfl rfl)⟩ ⟨_,(svaI hA rfl rfl)⟩ hx29)) ?_
      refine .cons (lop rfl rfl fun S hA=>(bQ (ds':=q13) rfl rfl ti28 (svaR hA rfl rfl) (agi hA rfl rfl) (svaA q13 hA rfl rfl) rfl rfl rfl (nle rfl) rfl)) ?_
      refine .cons (lop rfl rfl fun S hA=>(bQ (ds':=q17) rfl rfl ti52 (svaR hA rfl rfl) (agi hA rfl rfl) (svaA q17 hA rfl rfl) rfl rfl rfl (nle rfl) rfl)) ?_
      refine .cons (lop rfl rfl fun S hA=>(aE rfl rfl (lb rfl) (sv (d:=.str _) (agr hA rfl rfl)))) ?_
      refine .cons (lop rfl rfl fun S hA=>(aE rfl rfl (lb rfl) (sv (d:=.bool true) rfl))) ?_
      exact .nil
     refine aS ?_
     obtain rfl:=Option.some.inj h
     refine ⟨.inr rfl,_,(.cons (rva la28 rfl rfl (nle rfl) rfl) (.cons (rva la52 rfl rfl (nle rfl) rfl) (.cons (sv rfl) (.cons (sv rfl) .nil)))),(.cons (.agg (.k (.k (.k (.cons (FDT aD rfl rfl) (.all _)))))) (.all _))⟩

theorem tJ (a0 : bB) (a1 : Int) (a2 : Int) (a3 : aM) (a4 : (List UInt8)) (a5 : Bool) (r : (bB × aM × (List UInt8) × Bool)) (h : nC a0 a1 a2 a3 a4 a5 = some r) : FnH Tryz.prog 26 [.agg (v2 a0),.ref 1000 0,.ref 1001 0,.ref 1002 0,.ref 1003 0,.ref 1004 0] [(1000,.blk 3 [.int .i64 a1]),(1001,.blk 3 [.int .i64 a2]),(1002,.blk 52 (v6 a3)),(1003,.blk 9 [.str a4]),(1004,.blk 4 [.bool a5])] (.agg (v2 r.1)) [(1000,.blk 3 [.int .i64 a1]),(1001,.blk 3 [.int .i64 a2]),(1002,.blk 52 (v6 r.2.1)),(1003,.blk 9 [.str r.2.2.1]),(1004,.blk 4 [.bool r.2.2.2])]:=by
 refine eU (rs:=[.agg (v2 r.1)]) Tryz.func26 rfl Tryz.ntmps26 (nle rfl) fun O hO=>?_
 show IWP _ _ _ _ ⟨[(0,.agg (v2 a0)),(1,.ref 1000 0),(2,.ref 1001 0),(3,.ref 1002 0),(4,.ref 1003 0),(5,.ref 1004 0)],[(1000,.blk 3 [.int .i64 a1]),(1001,.blk 3 [.int .i64 a2]),(1002,.blk 52 (v6 a3)),(1003,.blk 9 [.str a4]),(1004,.blk 4 [.bool a5])]⟩ _
 unfold nC at h
 refine aC (aA rfl (bR (cs:=q12) 0 rfl rfl (lb rfl) rfl (svA q12 rfl) rfl rfl) <|aA rfl (bJ (cs:=q14) (cs':=(w38 0 [] 0 ([] : List aM) ([] : List aI) false false false false)) 1 rfl rfl (lb rfl) rfl ti28 rfl rfl (.k (.k (.k (.cons (.nils _) (.cons (.nils _) (.all _))))))) <|aB ?_)
 obtain ⟨x1,hx1,h⟩:=aY h
 refine aC (aA rfl (lra q12 la28 rfl rfl rfl rfl rfl (nle rfl) rfl) <|aA rfl (aG (d:=.int _ _) rfl rfl (lb rfl) Tryz.underlying3 ag3 ti3 (by decide) (svR rfl) rfl (nle rfl) rfl) <|aA rfl (aG (d:=.int _ _) rfl rfl (lb rfl) Tryz.underlying3 ag3 ti3 (by decide) (svR rfl) rfl (nle rfl) rfl) <|aA rfl (aW (r:=.tuple q28) rfl rfl (lb rfl) cl27 (.cons (svA q12 rfl) (.cons (svI rfl) (.cons (svI rfl) (.cons (sv (d:=.int _ 1099511627776) rfl) .nil)))) rfl (aBO _ _ _ _ _ hx1)) <|aA rfl (aK rfl rfl (lb rfl) (sv (d:=.tuple q28) rfl)) <|aA rfl (bE (d:=.agg q12) rfl rfl (lb rfl) (sv (d:=.tuple q28) rfl) rfl) <|aA rfl (bE (d:=.agg q17) rfl rfl (lb rfl) (sv (d:=.tuple q28) rfl) rfl) <|aA rfl (bE (d:=.str _) rfl rfl (lb rfl) (sv (d:=.tuple q28) rfl) rfl) <|aA rfl (bE (d:=.bool _) rfl rfl (lb rfl) (sv (d:=.tuple q28) rfl) rfl) <|aA rfl (stA q12 q12 ti28 rfl rfl rfl rfl rfl rfl rfl rfl (nle rfl) rfl) <|aA rfl (stA q17 q17 ti52 rfl rfl rfl rfl rfl rfl rfl rfl (nle rfl) rfl) <|aA rfl (bQ (ds':=[.str _]) rfl rfl ti9 (svR rfl) rfl (sv (d:=.str _) rfl) rfl rfl rfl (nle rfl) rfl) <|aA rfl (bQ (ds':=[.bool _]) rfl rfl ti4 (svR rfl) rfl (svB rfl) rfl rfl rfl (nle rfl) rfl) <|aB ?_)
 refine aC (aA rfl (lra q12 la28 rfl rfl rfl rfl rfl (nle rfl) rfl) <|aA rfl (stA q12 q12 ti28 rfl rfl rfl rfl rfl rfl rfl rfl (nle rfl) rfl) <|aB ?_)
 refine aS ?_
 obtain rfl:=Option.some.inj h
 refine ⟨.inr rfl,(fun i=>i),⟨.nil,(.cons (.blk rfl rfl rfl) (.cons (.blk rfl rfl rfl) (.cons (.blk rfl rfl rfl) (.cons (.blk rfl rfl rfl) (.cons (.blk rfl rfl rfl) .nil))))),bX [1000,1001,1002,1003,1004] rfl (by decide),fun _ _=>rfl⟩,(.cons (rva la28 rfl rfl (nle rfl) rfl) .nil),rfl⟩

theorem nA (a0 : bH) (a1 : Int) (a2 : Int) (a3 : aM) (a4 : (List UInt8)) (a5 : Bool) (r : (bH × aM × (List UInt8) × Bool)) (h : hG a0 a1 a2 a3 a4 a5 = some r) : FnH Tryz.prog 25 [.agg (v0 a0),.fn 26 [.ref 1000 0,.ref 1001 0,.ref 1002 0,.ref 1003 0,.ref 1004 0]] [(1000,.blk 3 [.int .i64 a1]),(1001,.blk 3 [.int .i64 a2]),(1002,.blk 52 (v6 a3)),(1003,.blk 9 [.str a4]),(1004,.blk 4 [.bool a5])] (.agg (v0 r.1)) [(1000,.blk 3 [.int .i64 a1]),(1001,.blk 3 [.int .i64 a2]),(1002,.blk 52 (v6 r.2.1)),(1003,.blk 9 [.str r.2.2.1]),(1004,.blk 4 [.bool r.2.2.2])]:=by
 refine eU (rs:=[.agg (v0 r.1)]) Tryz.func25 rfl Tryz.ntmps25 (nle rfl) fun O hO=>?_
 show IWP _ _ _ _ ⟨[(0,.agg (v0 a0)),(1,.fn 26 [.ref 1000 0,.ref 1001 0,.ref 1002 0,.ref 1003 0,.ref 1004 0])],[(1000,.blk 3 [.int .i64 a1]),(1001,.blk 3 [.int .i64 a2]),(1002,.blk 52 (v6 a3)),(1003,.blk 9 [.str a4]),(1004,.blk 4 [.bool a5])]⟩ _
 unfold hG at h
 refine aC (aA rfl (bR (cs:=q8) 0 rfl rfl (lb rfl) rfl (svA q8 rfl) rfl rfl) <|aA rfl (bJ (cs:=q9) (cs':=(w36 0 [] 0 ([] : List aM) ([] : List aI) false false false false 0 [] ([] : List aX) 0 [] 0 0)) 1 rfl rfl (lb rfl) rfl ti38 rfl rfl (.k (.k (.k (.cons (.nils _) (.cons (.nils _) (.k4 (.k (.k (.cons (.nils _) (.all _))))))))))) <|aB ?_)
 refine aV ?_
 obtain ⟨x1,hx1,h⟩:=aY h
 obtain ⟨x2,hx2,h⟩:=aR h
 refine aC (aA rfl (lra q8 la38 rfl rfl rfl rfl rfl (nle rfl) rfl) <|aA rfl (aW (r:=.int _ _) rfl rfl (lb rfl) cl16 (.cons (svA q8 rfl) .nil) rfl (fW _ _ hx1)) <|aA rfl (aP rfl rfl (lb rfl) (svI rfl) (sv (d:=.int _ 0) rfl) rfl hx2) <|aB ?_)
 refine aT (b:=_) rfl (fun hc3=>?_) (fun hc3=>?_)
 ·
  replace h:=bT h hc3
  obtain ⟨x4,hx4,h⟩:=aY h
  refine bD (aA rfl (aK rfl rfl (lb rfl) (sv (d:=.fn 26 q15) rfl)) <|aA rfl (faR 0 rfl rfl rfl Tryz.underlying38 rfl ti28 (lb rfl) rfl rfl) <|aA rfl (lra q12 la28 rfl rfl rfl rfl rfl (nle rfl) rfl) <|aA rfl (sQ (r':=.agg (v2 x4.1)) (H1':=[(1000,.blk 3 [.int .i64 a1]),(1001,.blk 3 [.int .i64 a2]),(1002,.blk 52 (v6 x4.2.1)),(1003,.blk 9 [.str x4.2.2.1]),(1004,.blk 4 [.bool x4.2.2.2])]) 2 [1000,1001,1002,1003,1004] rfl rfl (lb rfl) cl26 (sv (d:=.fn 26 q15) rfl) (.cons (svA q12 rfl) .nil) rfl rfl ⟨rfl,rfl,by decide,rfl,List.forall_mem_cons.2 ⟨⟨rfl,rfl,rfl,rfl⟩,List.forall_mem_cons.2 ⟨⟨rfl,rfl,rfl,rfl⟩,List.forall_mem_cons.2 ⟨⟨rfl,rfl,rfl,rfl⟩,List.forall_mem_cons.2 ⟨⟨rfl,rfl,rfl,rfl⟩,List.forall_mem_cons.2 ⟨⟨rfl,rfl,rfl,rfl⟩,List.forall_mem_nil _⟩⟩⟩⟩⟩⟩ (tJ _ _ _ _ _ _ _ hx4) rfl rfl (List.forall_mem_cons.2 ⟨⟨rfl,rfl⟩,List.forall_mem_cons.2 ⟨⟨rfl,rfl⟩,List.forall_mem_cons.2 ⟨⟨rfl,rfl⟩,List.forall_mem_cons.2 ⟨⟨rfl,rfl⟩,List.forall_mem_cons.2 ⟨⟨rfl,rfl⟩,List.forall_mem_nil _⟩⟩⟩⟩⟩) rfl) <|aA rfl (faR 0 rfl rfl rfl Tryz.underlying38 rfl ti28 (lb rfl) rfl rfl) <|aA rfl (stA q12 q8 ti28 rfl rfl rfl rfl rfl rfl rfl rfl (nle rfl) rfl) <|bW ?_)
  refine aN ?_
  refine aC (aA rfl (lra q8 la38 rfl rfl rfl rfl rfl (nle rfl) rfl) <|aA rfl (stA q8 q8 ti38 rfl rfl rfl rfl rfl rfl rfl rfl (nle rfl) rfl) <|aB ?_)
  refine aS ?_
  obtain rfl:=Option.some.inj h
  refine ⟨.inr rfl,(fun i=>i),⟨.nil,(.cons (.blk rfl rfl rfl) (.cons (.blk rfl rfl rfl) (.cons (.blk rfl rfl rfl) (.cons (.blk rfl rfl rfl) (.cons (.blk rfl rfl rfl) .nil))))),bX [1000,1001,1002,1003,1004] rfl (by decide),fun _ _=>rfl⟩,(.cons (rva la38 rfl rfl (nle rfl) rfl) .nil),rfl⟩
 ·
  replace h:=bU h hc3
  refine aU ?_
  refine aN ?_
  refine aC (aA rfl (lra q8 la38 rfl rfl rfl rfl rfl (nle rfl) rfl) <|aA rfl (stA q8 q8 ti38 rfl rfl rfl rfl rfl rfl rfl rfl (nle rfl) rfl) <|aB ?_)
  refine aS ?_
  obtain rfl:=Option.some.inj h
  refine ⟨.inr rfl,(fun i=>i),⟨.nil,(.cons (.blk rfl rfl rfl) (.cons (.blk rfl rfl rfl) (.cons (.blk rfl rfl rfl) (.cons (.blk rfl rfl rfl) (.cons (.blk rfl rfl rfl) .nil))))),bX [1000,1001,1002,1003,1004] rfl (by decide),fun _ _=>rfl⟩,(.cons (rva la38 rfl rfl (nle rfl) rfl) .nil),rfl⟩

theorem sE (a0 : bH) (a1 : Int) (a2 : Int) (r : (bH × aM × (List UInt8) × Bool)) (h : oL a0 a1 a2 = some r) : cD Tryz.prog 9 [.agg (v0 a0),.int .i64 a1,.int .i64 a2] (retD [.agg (v0 r.1),.agg (v6 r.2.1),.str r.2.2.1,.bool r.2.2.2]):=by
 refine bA (rs:=[.agg (v0 r.1),.agg (v6 r.2.1),.str r.2.2.1,.bool r.2.2.2]) Tryz.func9 rfl Tryz.ntmps9 (nle rfl) rfl fun O hO=>?_
 show IWP _ _ _ _ ⟨[(0,.agg (v0 a0)),(1,.int .i64 a1),(2,.int .i64 a2)],[]⟩ _
 unfold oL at h
 refine aC (aA rfl (bR (cs:=q8) 0 rfl rfl (lb rfl) rfl (svA q8 rfl) rfl rfl) <|aA rfl (bR (cs:=[.int _ _]) 1 rfl rfl (lb rfl) rfl (svI rfl) rfl rfl) <|aA rfl (bR (cs:=[.int _ _]) 2 rfl rfl (lb rfl) rfl (svI rfl) rfl rfl) <|aA rfl (bJ (cs:=q9) (cs':=(w36 0 [] 0 ([] : List aM) ([] : List aI) false false false false 0 [] ([] : List aX) 0 [] 0 0)) 3 rfl rfl (lb rfl) rfl ti38 rfl rfl (.k (.k (.k (.cons (.nils _) (.cons (.nils _) (.k4 (.k (.k (.cons (.nils _) (.all _))))))))))) <|aA rfl (bJ (cs:=q17) (cs':=(w42 0 0 0 false)) 4 rfl rfl (lb rfl) rfl ti52 rfl rfl (.all _)) <|aA rfl (aE rfl rfl (lb rfl) (sv (d:=.str []) rfl)) <|aA rfl (aE rfl rfl (lb rfl) (sv (d:=.bool false) rfl)) <|aB ?_)
 refine aC (aA rfl (bJ (cs:=q17) (cs':=(w42 0 0 0 false)) 5 rfl rfl (lb rfl) rfl ti52 rfl rfl (.all _)) <|aB ?_)
 refine aC (aA rfl (bJ (cs:=[.str _]) (cs':=[.str []]) 6 rfl rfl (lb rfl) rfl ti9 rfl rfl (.all _)) <|aA rfl (bJ (cs:=[.bool _]) (cs':=[.bool false]) 7 rfl rfl (lb rfl) rfl ti4 rfl rfl (.all _)) <|aA rfl (bQ (ds':=[.str _]) rfl rfl ti9 (svR rfl) rfl (sv (d:=.str []) rfl) rfl rfl rfl (nle rfl) rfl) <|aA rfl (bQ (ds':=[.bool _]) rfl rfl ti4 (svR rfl) rfl (sv (d:=.bool false) rfl) rfl rfl rfl (nle rfl) rfl) <|aB ?_)
 obtain ⟨x1,hx1,h⟩:=aY h
 refine aC (aA rfl (lra q8 la38 rfl rfl rfl rfl rfl (nle rfl) rfl) <|aA rfl (kL rfl rfl (lb rfl) (.cons (svR rfl) (.cons (svR rfl) (.cons (svR rfl) (.cons (svR rfl) (.cons (svR rfl) .nil)))))) <|aA rfl (dU (r':=.agg (v0 x1.1)) (H1':=[(1,.blk 3 [.int .i64 a1]),(2,.blk 3 [.int .i64 a2]),(5,.blk 52 (v6 x1.2.1)),(6,.blk 9 [.str x1.2.2.1]),(7,.blk 4 [.bool x1.2.2.2])]) 8 [1,2,5,6,7] rfl rfl (lb rfl) cl25 (.cons (svA q8 rfl) (.cons (sv (d:=.fn 26 q15) rfl) .nil)) rfl rfl ⟨rfl,rfl,by decide,rfl,List.forall_mem_cons.2 ⟨⟨rfl,rfl,rfl,rfl⟩,List.forall_mem_cons.2 ⟨⟨rfl,rfl,rfl,rfl⟩,List.forall_mem_cons.2 ⟨⟨rfl,rfl,rfl,rfl⟩,List.forall_mem_cons.2 ⟨⟨rfl,rfl,rfl,rfl⟩,List.forall_mem_cons.2 ⟨⟨rfl,rfl,rfl,rfl⟩,List.forall_mem_nil _⟩⟩⟩⟩⟩⟩ (nA _ _ _ _ _ _ _ hx1) rfl rfl (List.forall_mem_cons.2 ⟨⟨rfl,rfl⟩,List.forall_mem_cons.2 ⟨⟨rfl,rfl⟩,List.forall_mem_cons.2 ⟨⟨rfl,rfl⟩,List.forall_mem_cons.2 ⟨⟨rfl,rfl⟩,List.forall_mem_cons.2 ⟨⟨rfl,rfl⟩,List.forall_mem_nil _⟩⟩⟩⟩⟩) rfl) <|aA rfl (stA q8 q8 ti38 rfl rfl rfl rfl rfl rfl rfl rfl (nle rfl) rfl) <|aB ?_)
 refine dG rfl [⟨[3],[0],[(16,.agg (v0 x1.1))],[]⟩,
  ⟨[10],[5],[(17,.agg (v6 x1.2.1))],[]⟩,
  ⟨[11],[6],[(18,.str x1.2.2.1)],[]⟩,
  ⟨[12],[7],[(19,.bool x1.2.2.2)],[]⟩,
  ⟨[6,16],[3],[],[(3,.blk 38 (v0 x1.1))]⟩,
  ⟨[7,17],[4],[],[(4,.blk 52 (v6 x1.2.1))]⟩,
  ⟨[18],[],[(8,.str x1.2.2.1)],[]⟩,
  ⟨[19],[],[(9,.bool x1.2.2.2)],[]⟩] rfl ?_ (by kernel_rfl) ?_
 ·refine .cons (lop rfl rfl fun S hA=>(cA (cs:=q8) rfl rfl (lb rfl) Tryz.underlying38 ag38 ti38 (by decide) (svaR hA rfl rfl) (agi hA rfl rfl) (nle rfl) rfl)) ?_
  refine .cons (lop rfl rfl fun S hA=>(cA (cs:=q17) rfl rfl (lb rfl) Tryz.underlying52 ag52 ti52 (by decide) (svaR hA rfl rfl) (agi hA rfl rfl) (nle rfl) rfl)) ?_
  refine .cons (lop rfl rfl fun S hA=>(aG (d:=.str _) rfl rfl (lb rfl) Tryz.underlying9 ag9 ti9 (by decide) (svaR hA rfl rfl) (agi hA rfl rfl) (nle rfl) rfl)) ?_
  refine .cons (lop rfl rfl fun S hA=>(aG (d:=.bool _) rfl rfl (lb rfl) Tryz.underlying4 ag4 ti4 (by decide) (svaR hA rfl rfl) (agi hA rfl rfl) (nle rfl) rfl)) ?_
  refine .cons (lop rfl rfl fun S hA=>(bQ (ds':=q8) rfl rfl ti38 (svaR hA rfl rfl) (agi hA rfl rfl) (svaA q8 hA rfl rfl) rfl rfl rfl (nle rfl) rfl)) ?_
  refine .cons (lop rfl rfl fun S hA=>(bQ (ds':=q17) rfl rfl ti52 (svaR hA rfl rfl) (agi hA rfl rfl) (svaA q17 hA rfl rfl) rfl rfl rfl (nle rfl) rfl)) ?_
  refine .cons (lop rfl rfl fun S hA=>(aE rfl rfl (lb rfl) (sv (d:=.str _) (agr hA rfl rfl)))) ?_
  refine .cons (lop rfl rfl fun S hA=>(aE rfl rfl (lb rfl) (svaB hA rfl rfl))) ?_
  exact .nil
 refine aS ?_
 obtain rfl:=Option.some.inj h
 refine ⟨.inr rfl,(.cons (rva la38 rfl rfl (nle rfl) rfl) (.cons (rva la52 rfl rfl (nle rfl) rfl) (.cons (sv rfl) (.cons (sv rfl) .nil))))⟩

theorem nQ (a0 : fU) (r : Bool) (h : gS a0 = some r) : cD Tryz.prog 96 [.agg (v3 a0)] (.bool r):=by
 refine bA (rs:=[.bool r]) Tryz.func96 rfl Tryz.ntmps96 (nle rfl) rfl fun O hO=>?_
 show IWP _ _ _ _ ⟨[(0,.agg (v3 a0))],[]⟩ _
 unfold gS at h
 refine aC (aA rfl (bR (cs:=q16) 0 rfl rfl (lb rfl) rfl (svA q16 rfl) rfl rfl) <|aA rfl (aE rfl rfl (lb rfl) (sv (d:=.bool false) rfl)) <|aB ?_)
 obtain ⟨x1,hx1,h⟩:=aR h
 refine aC (aA rfl (faR 3 rfl rfl rfl Tryz.underlying121 rfl ti3 (lb rfl) rfl rfl) <|aA rfl (aG (d:=.int _ _) rfl rfl (lb rfl) Tryz.underlying3 ag3 ti3 (by decide) (svR rfl) rfl (nle rfl) rfl) <|aA rfl (aP rfl rfl (lb rfl) (svI rfl) (sv (d:=.int _ 0) rfl) rfl hx1) <|aA rfl (asB rfl rfl rfl rfl) <|aB ?_)
 refine aS ?_
 obtain rfl:=Option.some.inj h
 refine ⟨.inr rfl,(.cons (sv rfl) .nil)⟩

theorem rW (a0 : fU) (a1 : Int) (a2 : Bool) (r : Bool) (h : iJ a0 a1 a2 = some r) : cD Tryz.prog 60 [.agg (v3 a0),.int .i64 a1,.bool a2] (.bool r):=by
 refine bA (rs:=[.bool r]) Tryz.func60 rfl Tryz.ntmps60 (nle rfl) rfl fun O hO=>?_
 show IWP _ _ _ _ ⟨[(0,.agg (v3 a0)),(1,.int .i64 a1),(2,.bool a2)],[]⟩ _
 unfold iJ at h
 refine aC (aA rfl (bR (cs:=q16) 0 rfl rfl (lb rfl) rfl (svA q16 rfl) rfl rfl) <|aA rfl (aE rfl rfl (lb rfl) (sv (d:=.bool false) rfl)) <|aB ?_)
 refine aV ?_
 obtain ⟨x1,hx1,h⟩:=aY h
 refine aC (aA rfl (lra q16 aEI rfl rfl rfl rfl rfl (nle rfl) rfl) <|aA rfl (aW (r:=.bool _) rfl rfl (lb rfl) cl96 (.cons (svA q16 rfl) .nil) rfl (nQ _ _ hx1)) <|aB ?_)
 refine aT (b:=_) rfl (fun hc2=>?_) (fun hc2=>?_)
 ·
  replace h:=bT h hc2
  obtain ⟨x3,hx3,h⟩:=aR h
  obtain ⟨x4,hx4,h⟩:=aR h
  obtain ⟨x5,hx5,h⟩:=aR h
  obtain ⟨x6,hx6,h⟩:=aR h
  refine aC (aA rfl (mvI rfl rfl rfl rfl) <|aA rfl (faR 3 rfl rfl rfl Tryz.underlying121 rfl ti3 (lb rfl) rfl rfl) <|aA rfl (aG (d:=.int _ _) rfl rfl (lb rfl) Tryz.underlying3 ag3 ti3 (by decide) (svR rfl) rfl (nle rfl) rfl) <|aA rfl (aP rfl rfl (lb rfl) (svI rfl) (svI rfl) rfl hx3) <|aA rfl (mvB rfl rfl rfl rfl) <|aF rfl rfl (.one rfl) rfl (by decide) (fun hb=>(mvB rfl rfl rfl rfl)) <|aF rfl rfl (.one rfl) rfl (by decide) (fun hb=>(aK rfl rfl (lb rfl) (svcB rfl hb))) <|aF rfl rfl (.two rfl) rfl (by decide) (fun hb=>(mvI rfl rfl rfl rfl)) <|aF rfl rfl (.two rfl) rfl (by decide) (fun hb=>(faR 3 rfl rfl rfl Tryz.underlying121 rfl ti3 (lb rfl) rfl rfl)) <|aF rfl rfl (.two rfl) rfl (by decide) (fun hb=>(aG (d:=.int _ _) rfl rfl (lb rfl) Tryz.underlying3 ag3 ti3 (by decide) (svcR rfl hb) rfl (nle rfl) rfl)) <|aF rfl rfl (.two rfl) rfl (by decide) (fun hb=>(aP rfl rfl (lb rfl) (svcI rfl hb) (svcI rfl hb) rfl hx4)) <|aF rfl rfl (.one rfl) rfl (by decide) (fun hb=>(pE rfl rfl (lb rfl) hb (svcB rfl hb) rfl rfl hx5)) <|aA rfl (dM rfl rfl (lb rfl) (svB rfl) rfl rfl hx6) <|aA rfl (asB rfl rfl rfl rfl) <|aB ?_)
  refine aS ?_
  refine aZ ?_
  obtain rfl:=Option.some.inj h
  refine ⟨.inr rfl,(.cons (sv rfl) .nil)⟩
 ·
  replace h:=bU h hc2
  refine aU ?_
  refine aN ?_
  obtain ⟨x7,hx7,h⟩:=aY h
  obtain ⟨x8,hx8,h⟩:=aR h
  obtain ⟨x9,hx9,h⟩:=aR h
  refine aC (aA rfl (mvB rfl rfl rfl rfl) <|aA rfl (mvB rfl rfl rfl rfl) <|aF rfl rfl (.one rfl) rfl (by decide) (fun hb=>(mvI rfl rfl rfl rfl)) <|aF rfl rfl (.one rfl) rfl (by decide) (fun hb=>(lra q16 aEI rfl rfl rfl rfl rfl (nle rfl) rfl)) <|aF rfl rfl (.one rfl) rfl (by decide) (fun hb=>(aW (r:=.int _ _) rfl rfl (lb rfl) cl97 (.cons (svcA (v3 a0) rfl hb) .nil) rfl (oE _ _ (gd_t hx7 hb)))) <|aF rfl rfl (.one rfl) rfl (by decide) (fun hb=>(aP rfl rfl (lb rfl) (svcI rfl hb) (svcI rfl hb) rfl hx8)) <|aA rfl (bO rfl rfl (lb rfl) (svB rfl) rfl rfl hx9) <|aA rfl (asB rfl rfl rfl rfl) <|aB ?_)
  refine aS ?_
  obtain rfl:=Option.some.inj h
  refine ⟨.inr rfl,(.cons (sv rfl) .nil)⟩

theorem gN (a0 : (List aX)) (r : (List aX)) (h : dI a0 = some r) : cD Tryz.prog 98 [.slice false (a0.map aL.d)] (.slice false (r.map aL.d)):=by
 refine bA (rs:=[.slice false (r.map aL.d)]) Tryz.func98 rfl Tryz.ntmps98 (nle rfl) rfl fun O hO=>?_
 show IWP _ _ _ _ ⟨[(0,.slice false (a0.map aL.d))],[]⟩ _
 unfold dI at h
 refine aC (aA rfl (aE rfl rfl (lb rfl) (sv (d:=.nils) rfl)) <|aB ?_)
 refine aV ?_
 refine aC (aA rfl (mvL rfl rfl rfl rfl) <|tW rfl rfl rfl (by decide) Tryz.underlying29 (svL rfl) rfl <| fun bn1 hbn1 =>
  aB ?_)
 refine aT (b:=_) rfl (fun hc2=>?_) (fun hc2=>?_)
 ·
  replace h:=aAC h (mapE (hbn1 hc2))
  refine aC (aA rfl (aE rfl rfl (lb rfl) (sv (d:=.nils) rfl)) <|aB ?_)
  refine aS ?_
  refine aZ ?_
  obtain rfl:=Option.some.inj h
  refine ⟨.inr rfl,(.cons (sW rfl rfl) .nil)⟩
 ·
  replace h:=aAD h
  refine aU ?_
  refine aN ?_
  obtain ⟨x3,hx3,h⟩:=aY h
  refine aC (aA rfl (oQ aL ([] : (List aX)) 0 rfl rfl (lb rfl) Tryz.underlying29 gG rfl .nil rfl rfl (by decide)) <|aA rfl (mvL rfl rfl rfl rfl) <|aA rfl (oJ aL 1 rfl rfl (lb rfl) Tryz.underlying29 gG rfl rfl rfl rfl (svL rfl) hx3) <|aA rfl (aE rfl rfl (lb rfl) (sv (d:=.gsl _ _ _) rfl)) <|aB ?_)
  refine aS ?_
  obtain rfl:=Option.some.inj h
  refine ⟨.inr rfl,(.cons (xV rfl rfl) .nil)⟩

theorem uX (a0 : bS) (r : Int) (h : oZ a0 = some r) : cD Tryz.prog 100 [.agg (v5 a0)] (.int .i64 r):=by
 refine bA (rs:=[.int .i64 r]) Tryz.func100 rfl Tryz.ntmps100 (nle rfl) rfl fun O hO=>?_
 show IWP _ _ _ _ ⟨[(0,.agg (v5 a0))],[]⟩ _
 unfold oZ at h
 refine aC (aA rfl (bR (cs:=q19) 0 rfl rfl (lb rfl) rfl (svA q19 rfl) rfl rfl) <|aA rfl (aE rfl rfl (lb rfl) (sv (d:=.int _ 0) rfl)) <|aB ?_)
 refine aC (aA rfl (faR 1 rfl rfl rfl Tryz.underlying31 rfl ti9 (lb rfl) rfl rfl) <|aA rfl (aG (d:=.str _) rfl rfl (lb rfl) Tryz.underlying9 ag9 ti9 (by decide) (svR rfl) rfl (nle rfl) rfl) <|aA rfl (dB rfl rfl (lb rfl) Tryz.underlying9 (sv (d:=.str _) rfl) rfl) <|aA rfl (asI rfl rfl rfl rfl) <|aB ?_)
 refine aV ?_
 refine aC (aA rfl (faR 2 rfl rfl rfl Tryz.underlying31 rfl ti29 (lb rfl) rfl rfl) <|aA rfl (lrL la29 rfl rfl rfl rfl rfl (nle rfl) rfl) <|aA rfl (cJ aL (l:=a0.Parts) rfl rfl (lb rfl) Tryz.underlying29 (svL rfl)) <|aA rfl (aK rfl rfl (lb rfl) (sv (d:=.int _ 0) rfl)) <|aB ?_)
 refine bG ?_
 refine cW (α:=Nat × Int × Int) (fun z=>⟨[(3,.int .i64 z.2.1),(10,.slice false (a0.Parts.map aL.d)),(11,.int .i64 (a0.Parts.length : Int)),(12,.int .i64 z.2.2)],[]⟩) (fun z=>iI a0 z.1 z.2.1 z.2.2 = some r) (fun z=>z.1) (fuel,(a0.Ready.length : Int),0) (fun i=>i) ⟨(.sames rfl rfl),.nil,bX [] rfl (by decide),fun _ _=>rfl⟩ ?_ ?_
 ·exact h
 ·
  rintro ⟨n0,v6,v7⟩ h
  cases n0 with
  | zero=>exact absurd h (by unfold iI; exact nofun)
  | succ n0 =>
   unfold iI at h
   obtain ⟨x13,hx13,h⟩:=aR h
   refine aC (aA rfl (aP rfl rfl (lb rfl) (svI rfl) (svI rfl) rfl hx13) <|aB ?_)
   refine aV ?_
   refine aT (b:=_) rfl (fun hc14=>?_) (fun hc14=>?_)
   ·
    replace h:=bT h hc14
    refine aU ?_
    refine aN ?_
    refine aV ?_
    refine bG ?_
    obtain ⟨x15,hx15,h⟩:=aY h
    refine aC (aA rfl (cY aL (cs:=q26) rfl rfl (lb rfl) Tryz.underlying29 gG (svL rfl) (svI rfl) hx15 rfl rfl) <|aA rfl (cQ (cs:=q26) rfl rfl (lb rfl) Tryz.underlying165 uB gG (by decide) (sv (d:=.fptr q26) rfl) (nle rfl) rfl) <|aA rfl (bJ (cs:=q26) (cs':=[.int .i64 0,.str []]) 0 rfl rfl (lb rfl) rfl gG rfl rfl (.all _)) <|aA rfl (stA q26 q26 gG rfl rfl rfl rfl rfl rfl rfl rfl (nle rfl) rfl) <|aB ?_)
    obtain ⟨x16,hx16,h⟩:=aR h
    refine bD (aA rfl (mvI rfl rfl rfl rfl) <|aA rfl (faR 1 rfl rfl rfl Tryz.underlying165 rfl ti9 (lb rfl) rfl rfl) <|aA rfl (aG (d:=.str _) rfl rfl (lb rfl) Tryz.underlying9 ag9 ti9 (by decide) (svR rfl) rfl (nle rfl) rfl) <|aA rfl (dB rfl rfl (lb rfl) Tryz.underlying9 (sv (d:=.str _) rfl) rfl) <|aA rfl (bL rfl rfl (lb rfl) (svI rfl) (svI rfl) rfl hx16) <|aA rfl (asI rfl rfl rfl rfl) <|bW ?_)
    refine bZ ?_
    refine aN ?_
    obtain ⟨x17,hx17,h⟩:=aR h
    refine bD (aA rfl (bL rfl rfl (lb rfl) (svI rfl) (sv (d:=.int _ 1) rfl) rfl hx17) <|aA rfl (mvI rfl rfl rfl rfl) <|bW ?_)
    refine aN ⟨(n0,x16,x17),(fun i=>i),⟨(.sames rfl rfl),.nil,bX [] rfl (by decide),fun _ _=>rfl⟩,?_,?_⟩
    exact h
    exact Nat.lt_succ_self _
   ·
    replace h:=bU h hc14
    refine cN ?_
    refine bI ?_
    refine bI ?_
    refine cO ?_
    refine aN ?_
    refine aC (aA rfl (mvI rfl rfl rfl rfl) <|aA rfl (asI rfl rfl rfl rfl) <|aB ?_)
    refine aS ?_
    obtain rfl:=Option.some.inj h
    refine ⟨.inr rfl,(.cons (sv rfl) .nil)⟩

theorem xK (a0 : (List aX)) (a1 : aX) (r : (List aX)) (h : mP a0 a1 = some r) : FnH Tryz.prog 101 [.slice false (a0.map aL.d), .agg [.int .i64 a1.At, .str a1.Data]] [] (.osl 0 aL.sz r.length) [(0, .blk 165 (D.flat (r.map aL.d)))] := by
 refine eU (rs:=[.osl 0 aL.sz r.length]) Tryz.func101 rfl Tryz.ntmps101 (nle rfl) fun O hO=>?_
 show IWP _ _ _ _ ⟨[(0,.slice false (a0.map aL.d)),(1,.agg [.int .i64 a1.At,.str a1.Data])],[]⟩ _
 unfold mP at h
 refine aC (aA rfl (bR (cs:=q26) 0 rfl rfl (lb rfl) rfl (svA q26 rfl) rfl rfl) <|aA rfl (aE rfl rfl (lb rfl) (sv (d:=.nils) rfl)) <|aB ?_)
 refine aDL ?_
 refine aC (aA rfl (aE rfl rfl (lb rfl) (sv (d:=.nils) rfl)) <|aB ?_)
 refine aC (aA rfl (aE rfl rfl (lb rfl) (sv (d:=.int _ 0) rfl)) <|aB ?_)
 refine aV ?_
 refine bG ?_
 refine cW (α:=Nat × (List aX) × Int) (fun z=>⟨[(0,.slice false (a0.map aL.d)),(3,.ref 0 0),(5,.osl 22 aL.sz z.2.1.length),(6,.int .i64 z.2.2)],[(0,.blk 165 [.int .i64 a1.At,.str a1.Data]),(22,.blk 165 (D.flat (z.2.1.map aL.d)))]⟩) (fun z=>fV a0 a1 z.1 z.2.1 z.2.2 = some r) (fun z=>z.1) (fuel,([] : (List aX)),0) (fun i=>if i = 22 then 73 else i) ⟨(.s rfl rfl (.s rfl rfl (.cons (.nilo rfl) (.sames rfl rfl)))),(.cons (.blk rfl rfl rfl) (.cons (.nilb rfl) .nil)),bX [0,73] rfl (by decide),(fun i hi=>by first | rfl | (show (if _ then _ else _) = _; (repeat' split) <;> omega))⟩ ?_ ?_
 ·exact h
 ·
  rintro ⟨n0,v10,v11⟩ h
  cases n0 with
  | zero=>exact absurd h (by unfold fV; exact nofun)
  | succ n0 =>
   unfold fV at h
   refine aV ?_
   obtain ⟨x21,hx21,h⟩:=aR h
   obtain ⟨x22,hx22,h⟩:=aY h
   obtain ⟨x23,hx23,h⟩:=aY h
   obtain ⟨x24,hx24,h⟩:=aR h
   obtain ⟨x25,hx25,h⟩:=aR h
   refine dG rfl [⟨[6],[],[(8,.int .i64 v11)],[]⟩,
    ⟨[0],[],[(9,.slice false (a0.map aL.d))],[]⟩,
    ⟨[9],[],[(10,.int .i64 (a0.length : Int))],[]⟩,
    ⟨[8,10],[],[(11,.bool x21)],[]⟩,
    ⟨[11],[],[(12,.bool x21)],[]⟩,
    ⟨[0,12],[],[(13,.cnd (x21 == true) (.slice false (a0.map aL.d)))],[]⟩,
    ⟨[6,12],[],[(14,.cnd (x21 == true) (.int .i64 v11))],[]⟩,
    ⟨[12,13,14],[],[(15,.cnd (x21 == true) (.fptr [.int .i64 x22.At,.str x22.Data]))],[]⟩,
    ⟨[12,15],[],[(16,.cnd (x21 == true) (.agg [.int .i64 x22.At,.str x22.Data]))],[]⟩,
    ⟨[12,16],[],[(17,.cnd (x21 == true) (.int .i64 x23))],[]⟩,
    ⟨[3,12],[],[(18,.cnd (x21 == true) (.ref 0 0))],[]⟩,
    ⟨[12,18],[0],[(19,.cnd (x21 == true) (.int .i64 a1.At))],[]⟩,
    ⟨[12,17,19],[],[(20,.cnd (x21 == true) (.bool x24))],[]⟩,
    ⟨[12,20],[],[(21,.bool x25)],[]⟩] rfl ?_ (by kernel_rfl) ?_
   ·refine .cons (lop rfl rfl fun S hA=>(aK rfl rfl (lb rfl) (svaI hA rfl rfl))) ?_
    refine .cons (lop rfl rfl fun S hA=>(aK rfl rfl (lb rfl) (svaL hA rfl rfl))) ?_
    refine .cons (lop rfl rfl fun S hA=>(cJ aL (l:=a0) rfl rfl (lb rfl) Tryz.underlying29 (svaL hA rfl rfl))) ?_
    refine .cons (lop rfl rfl fun S hA=>(aP rfl rfl (lb rfl) (svaI hA rfl rfl) (svaI hA rfl rfl) rfl hx21)) ?_
    refine .cons (lop rfl rfl fun S hA=>(aK rfl rfl (lb rfl) (svaB hA rfl rfl))) ?_
    refine .cons (lopg rfl rfl rfl rfl (by decide) (fun S hA=>grd1 hA rfl rfl) (fun S hA hb=>(aK rfl rfl (lb rfl) (svaL hA rfl rfl)))) ?_
    refine .cons (lopg rfl rfl rfl rfl (by decide) (fun S hA=>grd1 hA rfl rfl) (fun S hA hb=>(aK rfl rfl (lb rfl) (svaI hA rfl rfl)))) ?_
    refine .cons (lopg rfl rfl rfl rfl (by decide) (fun S hA=>grd1 hA rfl rfl) (fun S hA hb=>(cY aL (cs:=q26) rfl rfl (lb rfl) Tryz.underlying29 gG (svc (d:=.slice _ _) (agr hA rfl rfl) hb) (svc (d:=.int _ _) (agr hA rfl rfl) hb) (gd_t hx22 hb) rfl rfl))) ?_
    refine .cons (lopg rfl rfl rfl rfl (by decide) (fun S hA=>grd1 hA rfl rfl) (fun S hA hb=>(cQ (cs:=q26) rfl rfl (lb rfl) Tryz.underlying165 uB gG (by decide) (svc (d:=.fptr q26) (agr hA rfl rfl) hb) (nle rfl) rfl))) ?_
    refine .cons (lopg rfl rfl rfl rfl (by decide) (fun S hA=>grd1 hA rfl rfl) (fun S hA hb=>(aW (r:=.int _ _) rfl rfl (lb rfl) aCe (.cons (svc (d:=.agg [.int .i64 x22.At,.str x22.Data]) (agr hA rfl rfl) hb) .nil) rfl (iD _ _ (gd_t hx23 hb))))) ?_
    refine .cons (lopg rfl rfl rfl rfl (by decide) (fun S hA=>grd1 hA rfl rfl) (fun S hA hb=>(aO rfl rfl (lb rfl) Tryz.underlying165 rfl ti3 (by decide) (svaR hA rfl rfl) (off':=0) rfl))) ?_
    refine .cons (lopg rfl rfl rfl rfl (by decide) (fun S hA=>grd1 hA rfl rfl) (fun S hA hb=>(aG (d:=.int _ _) rfl rfl (lb rfl) Tryz.underlying3 ag3 ti3 (by decide) (svc (d:=.ref _ _) (agr hA rfl rfl) hb) (agi hA rfl rfl) (nle rfl) rfl))) ?_
    refine .cons (lopg rfl rfl rfl rfl (by decide) (fun S hA=>grd1 hA rfl rfl) (fun S hA hb=>(aP rfl rfl (lb rfl) (svc (d:=.int _ _) (agr hA rfl rfl) hb) (svc (d:=.int _ _) (agr hA rfl rfl) hb) rfl hx24))) ?_
    refine .cons (lop rfl rfl fun S hA=>(bO rfl rfl (lb rfl) (svaB hA rfl rfl) (agr hA rfl rfl) rfl hx25)) ?_
    exact .nil
   refine aT (b:=_) rfl (fun hc26=>?_) (fun hc26=>?_)
   ·
    replace h:=bT h hc26
    refine aU ?_
    refine aN ?_
    refine aV ?_
    refine bG ?_
    obtain ⟨x27,hx27,h⟩:=aY h
    obtain ⟨x28,hx28,h⟩:=aY h
    refine bD (aA rfl (aK rfl rfl (lb rfl) (sv (d:=.osl _ _ _) rfl)) <|aA rfl (mvL rfl rfl rfl rfl) <|aA rfl (mvI rfl rfl rfl rfl) <|aA rfl (cY aL (cs:=q26) rfl rfl (lb rfl) Tryz.underlying29 gG (svL rfl) (svI rfl) hx27 rfl rfl) <|aA rfl (cQ (cs:=q26) rfl rfl (lb rfl) Tryz.underlying165 uB gG (by decide) (sv (d:=.fptr q26) rfl) (nle rfl) rfl) <|aA rfl (jP aL.toEnc0 ([x27] : (List aX)) 23 rfl rfl (lb rfl) Tryz.underlying29 gG rfl (.cons (svA q26 rfl) .nil) rfl rfl (by decide)) <|aA rfl (kS aL.toEnc0 24 rfl rfl (lb rfl) Tryz.underlying29 gG rfl rfl rfl rfl rfl (qK aL.toEnc0 rfl rfl rfl) hx28) <|aA rfl (aE rfl rfl (lb rfl) (sv (d:=.osl _ _ _) rfl)) <|bW ?_)
    refine bZ ?_
    refine aN ?_
    obtain ⟨x29,hx29,h⟩:=aR h
    refine bD (aA rfl (mvI rfl rfl rfl rfl) <|aA rfl (bL rfl rfl (lb rfl) (svI rfl) (sv (d:=.int _ 1) rfl) rfl hx29) <|aA rfl (asI rfl rfl rfl rfl) <|bW ?_)
    refine aN ⟨(n0,x28,x29),(fun i=>if i = 22 then 24 else i),⟨(.sames rfl rfl),(.cons (.blk rfl rfl rfl) (.cons (EntW.lst rfl) .nil)),bX [0,24] rfl (by decide),(fun i hi=>by first | rfl | (show (if _ then _ else _) = _; (repeat' split) <;> omega))⟩,?_,?_⟩
    exact h
    exact Nat.lt_succ_self _
   ·
    replace h:=bU h hc26
    refine cN ?_
    refine bI ?_
    refine bI ?_
    refine cO ?_
    refine aN ?_
    refine aV ?_
    refine aDM ?_
    refine aN ?_
    refine gK (α:=Int × Int × (List UInt8)) (fun z=>⟨[(0,.slice false (a0.map aL.d)),(3,.ref 0 0),(5,.osl 22 aL.sz v10.length),(6,.int .i64 z.1)],[(0,.blk 165 [.int .i64 z.2.1,.str z.2.2]),(22,.blk 165 (D.flat (v10.map aL.d)))]⟩) (fun z=>jC a0 v10 z.1 z.2.1 z.2.2 = some r) ?_ ?_
    ·
     refine bG ?_
     refine cW (α:=Nat × Int × Int × (List UInt8)) (fun z=>⟨[(0,.slice false (a0.map aL.d)),(3,.ref 0 0),(5,.osl 22 aL.sz v10.length),(6,.int .i64 z.2.1)],[(0,.blk 165 [.int .i64 z.2.2.1,.str z.2.2.2]),(22,.blk 165 (D.flat (v10.map aL.d)))]⟩) (fun z=>eV a0 v10 z.1 z.2.1 z.2.2.1 z.2.2.2 = some r) (fun z=>z.1) (fuel,v11,a1.At,a1.Data) (fun i=>i) ⟨(.sames rfl rfl),(.cons (.blk rfl rfl rfl) (.cons (EntW.lst rfl) .nil)),bX [0,22] rfl (by decide),fun _ _=>rfl⟩ ?_ ?_
     ·exact h
     ·
      rintro ⟨n3,v131,v132,v133⟩ h
      cases n3 with
      | zero=>exact absurd h (by unfold eV; exact nofun)
      | succ n3 =>
       unfold eV at h
       refine aV ?_
       obtain ⟨x157,hx157,h⟩:=aR h
       refine aC (aA rfl (mvI rfl rfl rfl rfl) <|aA rfl (mvL rfl rfl rfl rfl) <|aA rfl (cJ aL (l:=a0) rfl rfl (lb rfl) Tryz.underlying29 (svL rfl)) <|aA rfl (aP rfl rfl (lb rfl) (svI rfl) (svI rfl) rfl hx157) <|aB ?_)
       refine aT (b:=_) rfl (fun hc158=>?_) (fun hc158=>?_)
       ·
        replace h:=bT h hc158
        refine aU ?_
        refine aN ?_
        refine aV ?_
        refine bG ?_
        obtain ⟨x159,hx159,h⟩:=aY h
        refine aC (aA rfl (mvL rfl rfl rfl rfl) <|aA rfl (mvI rfl rfl rfl rfl) <|aA rfl (cY aL (cs:=q26) rfl rfl (lb rfl) Tryz.underlying29 gG (svL rfl) (svI rfl) hx159 rfl rfl) <|aA rfl (cQ (cs:=q26) rfl rfl (lb rfl) Tryz.underlying165 uB gG (by decide) (sv (d:=.fptr q26) rfl) (nle rfl) rfl) <|aA rfl (bJ (cs:=q26) (cs':=[.int .i64 0,.str []]) 23 rfl rfl (lb rfl) rfl gG rfl rfl (.all _)) <|aA rfl (stA q26 q26 gG rfl rfl rfl rfl rfl rfl rfl rfl (nle rfl) rfl) <|aB ?_)
        refine bG ?_
        obtain ⟨x160,hx160,h⟩:=aY h
        obtain ⟨x161,hx161,h⟩:=aR h
        refine dG rfl [⟨[7],[],[(67,.ref 23 0)],[]⟩,
         ⟨[67],[23],[(68,.int .i64 x159.At)],[]⟩,
         ⟨[3],[0],[(69,.agg [.int .i64 v132,.str v133])],[]⟩,
         ⟨[69],[],[(70,.int .i64 x160)],[]⟩,
         ⟨[68,70],[],[(71,.bool x161)],[]⟩,
         ⟨[71],[],[(66,.bool x161)],[]⟩] rfl ?_ (by kernel_rfl) ?_
        ·refine .cons (lop rfl rfl fun S hA=>(aO rfl rfl (lb rfl) Tryz.underlying165 rfl ti3 (by decide) (svaR hA rfl rfl) (off':=0) rfl)) ?_
         refine .cons (lop rfl rfl fun S hA=>(aG (d:=.int _ _) rfl rfl (lb rfl) Tryz.underlying3 ag3 ti3 (by decide) (svaR hA rfl rfl) (agi hA rfl rfl) (nle rfl) rfl)) ?_
         refine .cons (lop rfl rfl fun S hA=>(cA (cs:=q26) rfl rfl (lb rfl) Tryz.underlying165 uB gG (by decide) (svaR hA rfl rfl) (agi hA rfl rfl) (nle rfl) rfl)) ?_
         refine .cons (lop rfl rfl fun S hA=>(aW (r:=.int _ _) rfl rfl (lb rfl) aCe (.cons (svaA q26 hA rfl rfl) .nil) rfl (iD _ _ hx160))) ?_
         refine .cons (lop rfl rfl fun S hA=>(aP rfl rfl (lb rfl) (svaI hA rfl rfl) (svaI hA rfl rfl) rfl hx161)) ?_
         refine .cons (lop rfl rfl fun S hA=>(aE rfl rfl (lb rfl) (svaB hA rfl rfl))) ?_
         exact .nil
        refine aT (b:=_) rfl (fun hc162=>?_) (fun hc162=>?_)
        ·
         replace h:=bT h hc162
         refine cN ?_
         refine cK rfl ?_
         refine cK rfl ?_
         refine bI ?_
         refine bI ?_
         refine cO ?_
         refine aN ⟨(v131,v132,v133),(fun i=>i),⟨(.sames rfl rfl),(.cons (.blk rfl rfl rfl) (.cons (EntW.lst rfl) .nil)),bX [0,22] rfl (by decide),fun _ _=>rfl⟩,?_⟩
         exact h
        ·
         replace h:=bU h hc162
         obtain ⟨x163,hx163,h⟩:=aR h
         refine aC (aA rfl (faR 0 rfl rfl rfl Tryz.underlying165 rfl ti3 (lb rfl) rfl rfl) <|aA rfl (aG (d:=.int _ _) rfl rfl (lb rfl) Tryz.underlying3 ag3 ti3 (by decide) (svR rfl) rfl (nle rfl) rfl) <|aA rfl (faR 0 rfl rfl rfl Tryz.underlying165 rfl ti3 (lb rfl) rfl rfl) <|aA rfl (aG (d:=.int _ _) rfl rfl (lb rfl) Tryz.underlying3 ag3 ti3 (by decide) (svR rfl) rfl (nle rfl) rfl) <|aA rfl (aP rfl rfl (lb rfl) (svI rfl) (svI rfl) rfl hx163) <|aA rfl (asB rfl rfl rfl rfl) <|aB ?_)
         refine aT (b:=_) rfl (fun hc164=>?_) (fun hc164=>?_)
         ·
          replace h:=bT h hc164
          obtain ⟨x165,hx165,h⟩:=aY h
          obtain ⟨x166,hx166,h⟩:=aR h
          obtain ⟨x167,hx167,h⟩:=aR h
          obtain ⟨x168,hx168,h⟩:=aY h
          obtain ⟨x169,hx169,h⟩:=aY h
          refine tO rfl [⟨[7],[],[(78,.ref 23 0)],[]⟩,
           ⟨[78],[23],[(79,.int .i64 x159.At)],[]⟩,
           ⟨[7],[],[(80,.ref 23 1)],[]⟩,
           ⟨[80],[23],[(81,.str x159.Data)],[]⟩,
           ⟨[3],[],[(82,.ref 0 1)],[]⟩,
           ⟨[82],[0],[(83,.str v133)],[]⟩,
           ⟨[3],[],[(84,.ref 0 1)],[]⟩,
           ⟨[84],[0],[(85,.str v133)],[]⟩,
           ⟨[85],[],[(86,.int .i64 (v133.length : Int))],[]⟩,
           ⟨[7],[23],[(87,.agg [.int .i64 x159.At,.str x159.Data])],[]⟩,
           ⟨[87],[],[(88,.int .i64 x165)],[]⟩,
           ⟨[3],[],[(89,.ref 0 0)],[]⟩,
           ⟨[89],[0],[(90,.int .i64 v132)],[]⟩,
           ⟨[88,90],[],[(91,.int .i64 x166)],[]⟩,
           ⟨[86,91],[],[(92,.int .i64 x167)],[]⟩,
           ⟨[83,92],[],[(93,.str x168)],[]⟩,
           ⟨[81,93],[],[(94,.str x169)],[]⟩,
           ⟨[79,94],[],[(95,.agg [.int .i64 x159.At,.str x169])],[]⟩,
           ⟨[3,95],[0],[],[(0,.blk 165 [.int .i64 x159.At,.str x169])]⟩] rfl ?_ (by kernel_rfl) ?_
          ·refine .cons (lop rfl rfl fun S hA=>(aO rfl rfl (lb rfl) Tryz.underlying165 rfl ti3 (by decide) (svaR hA rfl rfl) (off':=0) rfl)) ?_
           refine .cons (lop rfl rfl fun S hA=>(aG (d:=.int _ _) rfl rfl (lb rfl) Tryz.underlying3 ag3 ti3 (by decide) (svaR hA rfl rfl) (agi hA rfl rfl) (nle rfl) rfl)) ?_
           refine .cons (lop rfl rfl fun S hA=>(aO rfl rfl (lb rfl) Tryz.underlying165 rfl ti9 (by decide) (svaR hA rfl rfl) (off':=1) rfl)) ?_
           refine .cons (lop rfl rfl fun S hA=>(aG (d:=.str _) rfl rfl (lb rfl) Tryz.underlying9 ag9 ti9 (by decide) (svaR hA rfl rfl) (agi hA rfl rfl) (nle rfl) rfl)) ?_
           refine .cons (lop rfl rfl fun S hA=>(aO rfl rfl (lb rfl) Tryz.underlying165 rfl ti9 (by decide) (svaR hA rfl rfl) (off':=1) rfl)) ?_
           refine .cons (lop rfl rfl fun S hA=>(aG (d:=.str _) rfl rfl (lb rfl) Tryz.underlying9 ag9 ti9 (by decide) (svaR hA rfl rfl) (agi hA rfl rfl) (nle rfl) rfl)) ?_
           refine .cons (lop rfl rfl fun S hA=>(aO rfl rfl (lb rfl) Tryz.underlying165 rfl ti9 (by decide) (svaR hA rfl rfl) (off':=1) rfl)) ?_
           refine .cons (lop rfl rfl fun S hA=>(aG (d:=.str _) rfl rfl (lb rfl) Tryz.underlying9 ag9 ti9 (by decide) (svaR hA rfl rfl) (agi hA rfl rfl) (nle rfl) rfl)) ?_
           refine .cons (lop rfl rfl fun S hA=>(dB rfl rfl (lb rfl) Tryz.underlying9 (sv (d:=.str _) (agr hA rfl rfl)) rfl)) ?_
           refine .cons (lop rfl rfl fun S hA=>(cA (cs:=q26) rfl rfl (lb rfl) Tryz.underlying165 uB gG (by decide) (svaR hA rfl rfl) (agi hA rfl rfl) (nle rfl) rfl)) ?_
           refine .cons (lop rfl rfl fun S hA=>(aW (r:=.int _ _) rfl rfl (lb rfl) aCe (.cons (svaA q26 hA rfl rfl) .nil) rfl (iD _ _ hx165))) ?_
           refine .cons (lop rfl rfl fun S hA=>(aO rfl rfl (lb rfl) Tryz.underlying165 rfl ti3 (by decide) (svaR hA rfl rfl) (off':=0) rfl)) ?_
           refine .cons (lop rfl rfl fun S hA=>(aG (d:=.int _ _) rfl rfl (lb rfl) Tryz.underlying3 ag3 ti3 (by decide) (svaR hA rfl rfl) (agi hA rfl rfl) (nle rfl) rfl)) ?_
           refine .cons (lop rfl rfl fun S hA=>(bL rfl rfl (lb rfl) (svaI hA rfl rfl) (svaI hA rfl rfl) rfl hx166)) ?_
           refine .cons (lop rfl rfl fun S hA=>(mM rfl rfl (lb rfl) (svaI hA rfl rfl) (svaI hA rfl rfl) hx167)) ?_
           refine .cons (lop rfl rfl fun S hA=>(hT rfl rfl (lb rfl) Tryz.underlying9 (sv (d:=.str _) (agr hA rfl rfl)) ⟨_,(svaI hA rfl rfl)⟩ rfl hx168)) ?_
           refine .cons (lop rfl rfl fun S hA=>(nI rfl rfl (lb rfl) (sv (d:=.str _) (agr hA rfl rfl)) (sv (d:=.str _) (agr hA rfl rfl)) hx169)) ?_
           refine .cons (lop rfl rfl fun S hA=>(cC (cs:=q26) rfl rfl (lb rfl) Tryz.underlying165 gG pl165 rfl (.cons (svaI hA rfl rfl) (.cons (sv (d:=.str _) (agr hA rfl rfl)) .nil)) rfl)) ?_
           refine .cons (lop rfl rfl fun S hA=>(bQ (ds':=q26) rfl rfl gG (svaR hA rfl rfl) (agi hA rfl rfl) (svaA q26 hA rfl rfl) rfl rfl rfl (nle rfl) rfl)) ?_
           exact .nil
          refine bZ ?_
          refine bZ ?_
          refine aN ?_
          obtain ⟨x170,hx170,h⟩:=aR h
          refine bD (aA rfl (mvI rfl rfl rfl rfl) <|aA rfl (bL rfl rfl (lb rfl) (svI rfl) (sv (d:=.int _ 1) rfl) rfl hx170) <|aA rfl (asI rfl rfl rfl rfl) <|bW ?_)
          refine aN ⟨(n3,x170,x159.At,x169),(fun i=>i),⟨(.sames rfl rfl),(.cons (.blk rfl rfl rfl) (.cons (EntW.lst rfl) .nil)),bX [0,22] rfl (by decide),fun _ _=>rfl⟩,?_,?_⟩
          exact h
          exact Nat.lt_succ_self _
         ·
          replace h:=bU h hc164
          obtain ⟨x171,hx171,h⟩:=aR h
          obtain ⟨x172,hx172,h⟩:=aY h
          obtain ⟨x173,hx173,h⟩:=aY h
          obtain ⟨x174,hx174,h⟩:=aY h
          obtain ⟨x175,hx175,h⟩:=aR h
          obtain ⟨x176,hx176,h⟩:=aR h
          obtain ⟨x177,hx177,h⟩:=aY h
          obtain ⟨x178,hx178,h⟩:=aY h
          refine tO rfl [⟨[3],[],[(41,.ref 0 1)],[]⟩,
           ⟨[41],[0],[(42,.str v133)],[]⟩,
           ⟨[7],[],[(43,.ref 23 0)],[]⟩,
           ⟨[43],[23],[(44,.int .i64 x159.At)],[]⟩,
           ⟨[3],[],[(45,.ref 0 0)],[]⟩,
           ⟨[45],[0],[(46,.int .i64 v132)],[]⟩,
           ⟨[44,46],[],[(47,.int .i64 x171)],[]⟩,
           ⟨[42,47],[],[(48,.str x172)],[]⟩,
           ⟨[7],[],[(49,.ref 23 1)],[]⟩,
           ⟨[49],[23],[(50,.str x159.Data)],[]⟩,
           ⟨[48,50],[],[(51,.str x173)],[]⟩,
           ⟨[3],[],[(52,.ref 0 1)],[]⟩,
           ⟨[52],[0],[(53,.str v133)],[]⟩,
           ⟨[3],[],[(54,.ref 0 1)],[]⟩,
           ⟨[54],[0],[(55,.str v133)],[]⟩,
           ⟨[55],[],[(56,.int .i64 (v133.length : Int))],[]⟩,
           ⟨[7],[23],[(57,.agg [.int .i64 x159.At,.str x159.Data])],[]⟩,
           ⟨[57],[],[(58,.int .i64 x174)],[]⟩,
           ⟨[3],[],[(59,.ref 0 0)],[]⟩,
           ⟨[59],[0],[(60,.int .i64 v132)],[]⟩,
           ⟨[58,60],[],[(61,.int .i64 x175)],[]⟩,
           ⟨[56,61],[],[(62,.int .i64 x176)],[]⟩,
           ⟨[53,62],[],[(63,.str x177)],[]⟩,
           ⟨[51,63],[],[(64,.str x178)],[]⟩,
           ⟨[3],[],[(65,.ref 0 1)],[]⟩,
           ⟨[64,65],[0],[],[(0,.blk 165 [.int .i64 v132,.str x178])]⟩] rfl ?_ (by kernel_rfl) ?_
          ·refine .cons (lop rfl rfl fun S hA=>(aO rfl rfl (lb rfl) Tryz.underlying165 rfl ti9 (by decide) (svaR hA rfl rfl) (off':=1) rfl)) ?_
           refine .cons (lop rfl rfl fun S hA=>(aG (d:=.str _) rfl rfl (lb rfl) Tryz.underlying9 ag9 ti9 (by decide) (svaR hA rfl rfl) (agi hA rfl rfl) (nle rfl) rfl)) ?_
           refine .cons (lop rfl rfl fun S hA=>(aO rfl rfl (lb rfl) Tryz.underlying165 rfl ti3 (by decide) (svaR hA rfl rfl) (off':=0) rfl)) ?_
           refine .cons (lop rfl rfl fun S hA=>(aG (d:=.int _ _) rfl rfl (lb rfl) Tryz.underlying3 ag3 ti3 (by decide) (svaR hA rfl rfl) (agi hA rfl rfl) (nle rfl) rfl)) ?_
           refine .cons (lop rfl rfl fun S hA=>(aO rfl rfl (lb rfl) Tryz.underlying165 rfl ti3 (by decide) (svaR hA rfl rfl) (off':=0) rfl)) ?_
           refine .cons (lop rfl rfl fun S hA=>(aG (d:=.int _ _) rfl rfl (lb rfl) Tryz.underlying3 ag3 ti3 (by decide) (svaR hA rfl rfl) (agi hA rfl rfl) (nle rfl) rfl)) ?_
           refine .cons (lop rfl rfl fun S hA=>(bL rfl rfl (lb rfl) (svaI hA rfl rfl) (svaI hA rfl rfl) rfl hx171)) ?_
           refine .cons (lop rfl rfl fun S hA=>(hT rfl rfl (lb rfl) Tryz.underlying9 (sv (d:=.str _) (agr hA rfl rfl)) rfl ⟨_,(svaI hA rfl rfl)⟩ hx172)) ?_
           refine .cons (lop rfl rfl fun S hA=>(aO rfl rfl (lb rfl) Tryz.underlying165 rfl ti9 (by decide) (svaR hA rfl rfl) (off':=1) rfl)) ?_
           refine .cons (lop rfl rfl fun S hA=>(aG (d:=.str _) rfl rfl (lb rfl) Tryz.underlying9 ag9 ti9 (by decide) (svaR hA rfl rfl) (agi hA rfl rfl) (nle rfl) rfl)) ?_
           refine .cons (lop rfl rfl fun S hA=>(nI rfl rfl (lb rfl) (sv (d:=.str _) (agr hA rfl rfl)) (sv (d:=.str _) (agr hA rfl rfl)) hx173)) ?_
           refine .cons (lop rfl rfl fun S hA=>(aO rfl rfl (lb rfl) Tryz.underlying165 rfl ti9 (by decide) (svaR hA rfl rfl) (off':=1) rfl)) ?_
           refine .cons (lop rfl rfl fun S hA=>(aG (d:=.str _) rfl rfl (lb rfl) Tryz.underlying9 ag9 ti9 (by decide) (svaR hA rfl rfl) (agi hA rfl rfl) (nle rfl) rfl)) ?_
           refine .cons (lop rfl rfl fun S hA=>(aO rfl rfl (lb rfl) Tryz.underlying165 rfl ti9 (by decide) (svaR hA rfl rfl) (off':=1) rfl)) ?_
           refine .cons (lop rfl rfl fun S hA=>(aG (d:=.str _) rfl rfl (lb rfl) Tryz.underlying9 ag9 ti9 (by decide) (svaR hA rfl rfl) (agi hA rfl rfl) (nle rfl) rfl)) ?_
           refine .cons (lop rfl rfl fun S hA=>(dB rfl rfl (lb rfl) Tryz.underlying9 (sv (d:=.str _) (agr hA rfl rfl)) rfl)) ?_
           refine .cons (lop rfl rfl fun S hA=>(cA (cs:=q26) rfl rfl (lb rfl) Tryz.underlying165 uB gG (by decide) (svaR hA rfl rfl) (agi hA rfl rfl) (nle rfl) rfl)) ?_
           refine .cons (lop rfl rfl fun S hA=>(aW (r:=.int _ _) rfl rfl (lb rfl) aCe (.cons (svaA q26 hA rfl rfl) .nil) rfl (iD _ _ hx174))) ?_
           refine .cons (lop rfl rfl fun S hA=>(aO rfl rfl (lb rfl) Tryz.underlying165 rfl ti3 (by decide) (svaR hA rfl rfl) (off':=0) rfl)) ?_
           refine .cons (lop rfl rfl fun S hA=>(aG (d:=.int _ _) rfl rfl (lb rfl) Tryz.underlying3 ag3 ti3 (by decide) (svaR hA rfl rfl) (agi hA rfl rfl) (nle rfl) rfl)) ?_
           refine .cons (lop rfl rfl fun S hA=>(bL rfl rfl (lb rfl) (svaI hA rfl rfl) (svaI hA rfl rfl) rfl hx175)) ?_
           refine .cons (lop rfl rfl fun S hA=>(mM rfl rfl (lb rfl) (svaI hA rfl rfl) (svaI hA rfl rfl) hx176)) ?_
           refine .cons (lop rfl rfl fun S hA=>(hT rfl rfl (lb rfl) Tryz.underlying9 (sv (d:=.str _) (agr hA rfl rfl)) ⟨_,(svaI hA rfl rfl)⟩ rfl hx177)) ?_
           refine .cons (lop rfl rfl fun S hA=>(nI rfl rfl (lb rfl) (sv (d:=.str _) (agr hA rfl rfl)) (sv (d:=.str _) (agr hA rfl rfl)) hx178)) ?_
           refine .cons (lop rfl rfl fun S hA=>(aO rfl rfl (lb rfl) Tryz.underlying165 rfl ti9 (by decide) (svaR hA rfl rfl) (off':=1) rfl)) ?_
           refine .cons (lop rfl rfl fun S hA=>(bQ (ds':=q26) rfl rfl ti9 (svaR hA rfl rfl) (agi hA rfl rfl) (sv (d:=.str _) (agr hA rfl rfl)) rfl rfl rfl (nle rfl) rfl)) ?_
           exact .nil
          refine bZ ?_
          refine bZ ?_
          refine aN ?_
          obtain ⟨x179,hx179,h⟩:=aR h
          refine bD (aA rfl (mvI rfl rfl rfl rfl) <|aA rfl (bL rfl rfl (lb rfl) (svI rfl) (sv (d:=.int _ 1) rfl) rfl hx179) <|aA rfl (asI rfl rfl rfl rfl) <|bW ?_)
          refine aN ⟨(n3,x179,v132,x178),(fun i=>i),⟨(.sames rfl rfl),(.cons (.blk rfl rfl rfl) (.cons (EntW.lst rfl) .nil)),bX [0,22] rfl (by decide),fun _ _=>rfl⟩,?_,?_⟩
          exact h
          exact Nat.lt_succ_self _
       ·
        replace h:=bU h hc158
        refine cN ?_
        refine bI ?_
        refine bI ?_
        refine cO ?_
        refine aN ⟨(v131,v132,v133),(fun i=>i),⟨(.sames rfl rfl),(.cons (.blk rfl rfl rfl) (.cons (EntW.lst rfl) .nil)),bX [0,22] rfl (by decide),fun _ _=>rfl⟩,?_⟩
        exact h
    ·
     rintro ⟨v102,v103,v104⟩ h
     unfold jC at h
     obtain ⟨x105,hx105,h⟩:=aY h
     obtain ⟨x106,hx106,h⟩:=aY h
     obtain ⟨x107,hx107,h⟩:=aY h
     refine dG rfl [⟨[5],[],[(96,.osl 22 aL.sz v10.length)],[]⟩,
      ⟨[3],[0],[(97,.agg [.int .i64 v103,.str v104])],[]⟩,
      ⟨[97],[23],[(98,.osl 23 aL.sz (([(⟨v103,v104⟩ : aX)] : (List aX)).length))],[(23,.blk 165 (D.flat ((([(⟨v103,v104⟩ : aX)] : (List aX))).map aL.d)))]⟩,
      ⟨[96,98],[22,23,24],[(99,.osl 24 aL.sz x105.length)],[(24,.blk 165 (D.flat (x105.map aL.d))),(22,.none)]⟩,
      ⟨[0],[],[(100,.slice false (a0.map aL.d))],[]⟩,
      ⟨[6],[],[(101,.int .i64 v102)],[]⟩,
      ⟨[100,101],[],[(102,.slice false (x106.map aL.d))],[]⟩,
      ⟨[99,102],[24,25],[(103,.osl 25 aL.sz x107.length)],[(25,.blk 165 (D.flat (x107.map aL.d))),(24,.none)]⟩,
      ⟨[103],[],[(4,.osl 25 aL.sz x107.length)],[]⟩] rfl ?_ (by kernel_rfl) ?_
     ·refine .cons (lop rfl rfl fun S hA=>(aK rfl rfl (lb rfl) (sv (d:=.osl _ _ _) (agr hA rfl rfl)))) ?_
      refine .cons (lop rfl rfl fun S hA=>(cA (cs:=q26) rfl rfl (lb rfl) Tryz.underlying165 uB gG (by decide) (svaR hA rfl rfl) (agi hA rfl rfl) (nle rfl) rfl)) ?_
      refine .cons (lop rfl rfl fun S hA=>(jP aL.toEnc0 ([(⟨v103,v104⟩ : aX)] : (List aX)) 23 rfl rfl (lb rfl) Tryz.underlying29 gG (agi hA rfl rfl) (.cons (svaA q26 hA rfl rfl) .nil) rfl rfl (by decide))) ?_
      refine .cons (lop rfl rfl fun S hA=>(kS aL.toEnc0 24 rfl rfl (lb rfl) Tryz.underlying29 gG rfl (agr hA rfl rfl) rfl (agi hA rfl rfl) (agi hA rfl rfl) (qK aL.toEnc0 (agr hA rfl rfl) rfl (agi hA rfl rfl)) hx105)) ?_
      refine .cons (lop rfl rfl fun S hA=>(aK rfl rfl (lb rfl) (svaL hA rfl rfl))) ?_
      refine .cons (lop rfl rfl fun S hA=>(aK rfl rfl (lb rfl) (svaI hA rfl rfl))) ?_
      refine .cons (lop rfl rfl fun S hA=>(vO aL rfl rfl (lb rfl) Tryz.underlying29 gG (svaL hA rfl rfl) ⟨_,(svaI hA rfl rfl)⟩ rfl hx106)) ?_
      refine .cons (lop rfl rfl fun S hA=>(kS aL.toEnc0 25 rfl rfl (lb rfl) Tryz.underlying29 gG rfl (agr hA rfl rfl) rfl (agi hA rfl rfl) (agi hA rfl rfl) (aAP aL (ys:=x106) (svaL hA rfl rfl)) hx107)) ?_
      refine .cons (lop rfl rfl fun S hA=>(aE rfl rfl (lb rfl) (sv (d:=.osl _ _ _) (agr hA rfl rfl)))) ?_
      exact .nil
     refine aS ?_
     refine aD4 ?_
     obtain rfl:=Option.some.inj h
     refine ⟨.inr rfl,(fun i=>if i = 0 then 25 else i),⟨.nil,(.cons (EntW.lst rfl) .nil),bX [25] rfl (by decide),(fun i hi=>by first | rfl | (show (if _ then _ else _) = _; (repeat' split) <;> omega))⟩,(.cons (sv rfl) .nil),rfl⟩
end Go.Proofs.YtfaflcdfgaoehaaGreat
