/-
  A part of the proof: rules and plain facts. No condition.
-/
import Derived.Test.YthjfhdlaockolaaProg
import Derived.KernelRfl
import Derived.Test.YthjfhdlaockolaaIlSh
import Derived.Test.YthjfhdlaockolaaIlA34cC2
set_option linter.all false
set_option maxRecDepth 8000
set_option maxHeartbeats 2000000
open Go Go.IL Go.Fn Go.Proofs
namespace Go.Proofs.Ythjfhdlaockolaa
theorem ti25 : TI Try.prog 25 (some (.agg #[.int .i64 0,.int .i64 0,.slice none 0 0,.slice none 0 0])) 4 64:=by unfold TI; kernel_rfl
theorem ti27 : TI Try.prog 27 (some (.agg #[.int .u8 0,.int .i64 0,.int .i64 0,.int .i64 0,.bool false])) 5 40:=by unfold TI; kernel_rfl
theorem ti63 : TI Try.prog 63 (some (.agg #[.int .i64 0,.int .i64 0,.int .i64 0,.bool false])) 4 32:=by unfold TI; kernel_rfl
theorem ti71 : TI Try.prog 71 (some (.agg #[.int .i64 0,.int .i64 0,.slice none 0 0,.slice none 0 0])) 4 64:=by unfold TI; kernel_rfl
theorem ag25 : lC Try.prog 25 = true:=by kernel_rfl
theorem ag27 : lC Try.prog 27 = true:=by kernel_rfl
theorem ag34 : lC Try.prog 34 = false:=by kernel_rfl
theorem ag63 : lC Try.prog 63 = true:=by kernel_rfl
theorem ag71 : lC Try.prog 71 = true:=by kernel_rfl
theorem pl25 : ∀ w,(Array.mapM (m:=Sem) (fun (f : Field)=>Functor.map (Prod.mk f.offset) (sizeOf f.type)) (fieldsOf Try.prog 25)).run Try.prog w = .ok #[(0,1),(1,1),(2,1),(3,1)] w:=fun w=>by kernel_rfl
theorem pl32 : ∀ w,(Array.mapM (m:=Sem) (fun (f : Field)=>Functor.map (Prod.mk f.offset) (sizeOf f.type)) (fieldsOf Try.prog 32)).run Try.prog w = .ok #[(0,1),(1,1),(2,1),(3,1)] w:=fun w=>by kernel_rfl
theorem pl63 : ∀ w,(Array.mapM (m:=Sem) (fun (f : Field)=>Functor.map (Prod.mk f.offset) (sizeOf f.type)) (fieldsOf Try.prog 63)).run Try.prog w = .ok #[(0,1),(1,1),(2,1),(3,1)] w:=fun w=>by kernel_rfl
theorem pl71 : ∀ w,(Array.mapM (m:=Sem) (fun (f : Field)=>Functor.map (Prod.mk f.offset) (sizeOf f.type)) (fieldsOf Try.prog 71)).run Try.prog w = .ok #[(0,1),(1,1),(2,1),(3,1)] w:=fun w=>by kernel_rfl
theorem st56 : Try.prog.stoodInHeld 56 = false ∧ Try.prog.eqGuardType Try.prog.depth 56 = false:=⟨by kernel_rfl,by kernel_rfl⟩
theorem st63 : Try.prog.stoodInHeld 63 = false ∧ Try.prog.eqGuardType Try.prog.depth 63 = false:=⟨by kernel_rfl,by kernel_rfl⟩
theorem cl7 : bF Try.prog 7:=⟨Try.f7,Try.func7,rfl,rfl⟩
theorem cl8 : bF Try.prog 8:=⟨Try.f8,Try.func8,rfl,rfl⟩
theorem cl9 : bF Try.prog 9:=⟨Try.f9,Try.func9,rfl,rfl⟩
theorem cl11 : bF Try.prog 11:=⟨Try.f11,Try.func11,rfl,rfl⟩
theorem cl12 : bF Try.prog 12:=⟨Try.f12,Try.func12,rfl,rfl⟩
theorem cl13 : bF Try.prog 13:=⟨Try.f13,Try.func13,rfl,rfl⟩
theorem cl15 : bF Try.prog 15:=⟨Try.f15,Try.func15,rfl,rfl⟩
theorem cl16 : bF Try.prog 16:=⟨Try.f16,Try.func16,rfl,rfl⟩
theorem cl17 : bF Try.prog 17:=⟨Try.f17,Try.func17,rfl,rfl⟩
theorem cl19 : bF Try.prog 19:=⟨Try.f19,Try.func19,rfl,rfl⟩
theorem cl21 : bF Try.prog 21:=⟨Try.f21,Try.func21,rfl,rfl⟩
theorem cl22 : bF Try.prog 22:=⟨Try.f22,Try.func22,rfl,rfl⟩
theorem cl24 : bF Try.prog 24:=⟨Try.f24,Try.func24,rfl,rfl⟩
theorem cl26 : bF Try.prog 26:=⟨Try.f26,Try.func26,rfl,rfl⟩
theorem cl32 : bF Try.prog 32:=⟨Try.f32,Try.func32,rfl,rfl⟩
theorem cl33 : bF Try.prog 33:=⟨Try.f33,Try.func33,rfl,rfl⟩
theorem cl34 : bF Try.prog 34:=⟨Try.f34,Try.func34,rfl,rfl⟩
theorem cl35 : bF Try.prog 35:=⟨Try.f35,Try.func35,rfl,rfl⟩
theorem cl36 : bF Try.prog 36:=⟨Try.f36,Try.func36,rfl,rfl⟩
theorem cl37 : bF Try.prog 37:=⟨Try.f37,Try.func37,rfl,rfl⟩
theorem cl38 : bF Try.prog 38:=⟨Try.f38,Try.func38,rfl,rfl⟩
theorem cl44 : bF Try.prog 44:=⟨Try.f44,Try.func44,rfl,rfl⟩
theorem cl45 : bF Try.prog 45:=⟨Try.f45,Try.func45,rfl,rfl⟩
theorem cl46 : bF Try.prog 46:=⟨Try.f46,Try.func46,rfl,rfl⟩
theorem cl47 : bF Try.prog 47:=⟨Try.f47,Try.func47,rfl,rfl⟩
theorem cl48 : bF Try.prog 48:=⟨Try.f48,Try.func48,rfl,rfl⟩
theorem cl49 : bF Try.prog 49:=⟨Try.f49,Try.func49,rfl,rfl⟩
theorem cl50 : bF Try.prog 50:=⟨Try.f50,Try.func50,rfl,rfl⟩
theorem cl57 : bF Try.prog 57:=⟨Try.f57,Try.func57,rfl,rfl⟩
theorem cl68 : bF Try.prog 68:=⟨Try.f68,Try.func68,rfl,rfl⟩
theorem cl69 : bF Try.prog 69:=⟨Try.f69,Try.func69,rfl,rfl⟩
theorem cl70 : bF Try.prog 70:=⟨Try.f70,Try.func70,rfl,rfl⟩
theorem cl71 : bF Try.prog 71:=⟨Try.f71,Try.func71,rfl,rfl⟩
theorem cl79 : bF Try.prog 79:=⟨Try.f79,Try.func79,rfl,rfl⟩
theorem cl80 : bF Try.prog 80:=⟨Try.f80,Try.func80,rfl,rfl⟩
def la25:=LA.mk Try.underlying25 ag25 ti25 (by decide)
def la27:=LA.mk Try.underlying27 ag27 ti27 (by decide)
def la63:=LA.mk Try.underlying63 ag63 ti63 (by decide)
def la71:=LA.mk Try.underlying71 ag71 ti71 (by decide)


theorem rS (a0 : aK) (a1 : Int) (r : (List Int)) (h : pM a0 a1 = some r) : dP Try.prog 22 [.agg (v0 a0),.int .i64 a1] (.slice false (r.map (eInt .i64).d)):=by
 refine mP (rs:=[.slice false (r.map (eInt .i64).d)]) Try.func22 rfl Try.ntmps22 (nle rfl) rfl fun O hO=>?_
 show IWP _ _ _ _ ⟨[(0,.agg (v0 a0)),(1,.int .i64 a1)],[]⟩ _
 unfold pM at h
 refine aC (aA rfl (cK (cs:=q5) 0 rfl rfl (lb rfl) rfl (svA q5 rfl) rfl rfl) <|aA rfl (aG rfl rfl (lb rfl) (sv (d:=.nils) rfl)) <|aD ?_)
 refine aS ?_
 obtain ⟨x1,hx1,h⟩:=aO h
 obtain ⟨x2,hx2,h⟩:=aN h
 obtain ⟨x3,hx3,h⟩:=aN h
 obtain ⟨x4,hx4,h⟩:=aO h
 obtain ⟨x5,hx5,h⟩:=aN h
 obtain ⟨x6,hx6,h⟩:=aN h
 refine aC (aA rfl (lra q5 la32 rfl rfl rfl rfl rfl (nle rfl) rfl) <|aA rfl (aX (r:=.int _ _) rfl rfl (lb rfl) cl14 (.cons (svA q5 rfl) .nil) rfl (lI _ _ hx1)) <|aA rfl (aL rfl rfl (lb rfl) (svI rfl) (sv (d:=.int _ 0) rfl) rfl hx2) <|aA rfl (mvB rfl rfl rfl rfl) <|aI rfl rfl (.one rfl) rfl (by decide) (fun hb=>(mvI rfl rfl rfl rfl)) <|aI rfl rfl (.one rfl) rfl (by decide) (fun hb=>(aL rfl rfl (lb rfl) (svcI rfl hb) (sv (d:=.int _ 0) rfl) rfl hx3)) <|aI rfl rfl (.one rfl) rfl (by decide) (fun hb=>(aE rfl rfl (lb rfl) (svcB rfl hb))) <|aI rfl rfl (.two rfl) rfl (by decide) (fun hb=>(lra q5 la32 rfl rfl rfl rfl rfl (nle rfl) rfl)) <|aI rfl rfl (.two rfl) rfl (by decide) (fun hb=>(mvI rfl rfl rfl rfl)) <|aI rfl rfl (.two rfl) rfl (by decide) (fun hb=>(aX (r:=.bool _) rfl rfl (lb rfl) cl51 (.cons (svcA (v0 a0) rfl hb) (.cons (svcI rfl hb) .nil)) rfl (jT _ _ _ (gd_t hx4 hb)))) <|aI rfl rfl (.two rfl) rfl (by decide) (fun hb=>(iB rfl rfl (lb rfl) (svcB rfl hb))) <|aI rfl rfl (.one rfl) rfl (by decide) (fun hb=>(vP rfl rfl (lb rfl) hb (svcB rfl hb) rfl rfl hx5)) <|aA rfl (iJ rfl rfl (lb rfl) (svB rfl) rfl rfl hx6) <|aD ?_)
 refine aP (b:=_) rfl (fun hc7=>?_) (fun hc7=>?_)
 ·
  replace h:=bP h hc7
  refine aC (aA rfl (aG rfl rfl (lb rfl) (sv (d:=.nils) rfl)) <|aD ?_)
  refine aW ?_
  refine bA ?_
  obtain rfl:=Option.some.inj h
  refine ⟨.inr rfl,_,(.cons (sv rfl) .nil),(.cons (.nils _) .nil)⟩
 ·
  replace h:=bQ h hc7
  refine aT ?_
  refine aJ ?_
  refine aC (aA rfl (bX (cs:=[.nils]) (cs':=[.nils]) 1 rfl rfl (lb rfl) rfl ti23 rfl rfl (.all _)) <|aD ?_)
  refine aC (aA rfl (bX (cs:=[.nilf]) (cs':=[.nilf]) 2 rfl rfl (lb rfl) rfl ti86 rfl rfl (.all _)) <|aD ?_)
  refine aC (aA rfl (rU rfl rfl (lb rfl) (.cons (svR rfl) (.cons (svR rfl) (.cons (svR rfl) .nil)))) <|aA rfl (cV (ds':=[.fn 56 q12]) rfl rfl ti86 (svR rfl) rfl (sv (d:=.fn 56 q12) rfl) rfl rfl rfl (nle rfl) rfl) <|aD ?_)
  obtain ⟨x8,hx8,h⟩:=aO h
  refine aC (aA rfl (aH (d:=.fn 56 q12) rfl rfl (lb rfl) Try.underlying86 ag86 ti86 (by decide) (svR rfl) rfl (nle rfl) rfl) <|aA rfl (mvI rfl rfl rfl rfl) <|aA rfl (pY (r':=.tuple []) (H1':=[(0,.blk 32 (v0 a0)),(1,.blk 23 [.osl 3 (eInt .i64).sz x8.length]),(2,.blk 86 [.fn 56 [.ref 0 0,.ref 1 0,.ref 2 0]]),(3,.blk 3 (D.flat (x8.map (eInt .i64).d)))]) 3 [0,1,2] rfl rfl (lb rfl) cl56 (sv (d:=.fn 56 q12) rfl) (.cons (svI rfl) .nil) rfl rfl ⟨rfl,rfl,by decide,rfl,List.forall_mem_cons.2 ⟨⟨rfl,rfl,rfl,rfl⟩,List.forall_mem_cons.2 ⟨⟨rfl,rfl,rfl,rfl⟩,List.forall_mem_cons.2 ⟨⟨rfl,rfl,rfl,rfl⟩,List.forall_mem_nil _⟩⟩⟩⟩ (sB _ _ _ hx8) rfl rfl (List.forall_mem_cons.2 ⟨⟨rfl,rfl⟩,List.forall_mem_cons.2 ⟨⟨rfl,rfl⟩,List.forall_mem_cons.2 ⟨⟨rfl,rfl⟩,List.forall_mem_cons.2 ⟨⟨rfl,(dD (eInt .i64))⟩,List.forall_mem_nil _⟩⟩⟩⟩) (by simp only [List.map_cons,List.map_nil,Ent.ren,dQ,eU]; rfl)) <|aD ?_)
  obtain ⟨x9,hx9,h⟩:=aO h
  obtain ⟨hk10,h⟩:=rM h
  refine aC (aA rfl (aH (d:=.osl _ _ _) rfl rfl (lb rfl) Try.underlying23 ag23 ti23 (by decide) (svR rfl) rfl (nle rfl) rfl) <|aA rfl (cW (r':=.tuple []) (H1':=[(3,.blk 3 (D.flat (x9.map (eInt .i64).d)))]) 4 [3] rfl rfl (lb rfl) cl57 (.cons (sv (d:=.osl _ _ _) rfl) .nil) rfl rfl ⟨rfl,rfl,by decide,rfl,List.forall_mem_cons.2 ⟨⟨rfl,rfl,(lN (eInt .i64) rfl),(dD (eInt .i64))⟩,List.forall_mem_nil _⟩⟩ (oL _ _ hx9) rfl rfl (List.forall_mem_cons.2 ⟨⟨rfl,(dD (eInt .i64))⟩,List.forall_mem_nil _⟩) (by simp only [List.map_cons,List.map_nil,Ent.ren,dQ,eU]; rfl)) <|aD ?_)
  refine aC (aA rfl (aH (d:=.osl _ _ _) rfl rfl (lb rfl) Try.underlying23 ag23 ti23 (by decide) (svR rfl) rfl (nle rfl) rfl) <|aA rfl (aG rfl rfl (lb rfl) (sv (d:=.osl _ _ _) rfl)) <|aD ?_)
  refine aW ?_
  obtain rfl:=Option.some.inj h
  refine ⟨.inr rfl,_,(.cons (sv rfl) .nil),(.cons (FDT (eInt .i64) rfl hk10) .nil)⟩

theorem kW (a0 : (List Int)) (a1 : (List Int)) (r : Bool) (h : iC a0 a1 = some r) : dP Try.prog 21 [.slice false (a0.map (eInt .i64).d),.slice false (a1.map (eInt .i64).d)] (.bool r):=by
 refine bG (rs:=[.bool r]) Try.func21 rfl Try.ntmps21 (nle rfl) rfl fun O hO=>?_
 show IWP _ _ _ _ ⟨[(0,.slice false (a0.map (eInt .i64).d)),(1,.slice false (a1.map (eInt .i64).d))],[]⟩ _
 unfold iC at h
 refine aC (aA rfl (aG rfl rfl (lb rfl) (sv (d:=.bool false) rfl)) <|aD ?_)
 refine aS ?_
 obtain ⟨x1,hx1,h⟩:=aN h
 refine aC (aA rfl (mvL rfl rfl rfl rfl) <|aA rfl (cG (eInt .i64) (l:=a0) rfl rfl (lb rfl) Try.underlying23 (svL rfl)) <|aA rfl (mvL rfl rfl rfl rfl) <|aA rfl (cG (eInt .i64) (l:=a1) rfl rfl (lb rfl) Try.underlying23 (svL rfl)) <|aA rfl (aL rfl rfl (lb rfl) (svI rfl) (svI rfl) rfl hx1) <|aD ?_)
 refine aP (b:=_) rfl (fun hc2=>?_) (fun hc2=>?_)
 ·
  replace h:=bP h hc2
  refine aC (aA rfl (aG rfl rfl (lb rfl) (sv (d:=.bool false) rfl)) <|aD ?_)
  refine aW ?_
  refine bA ?_
  obtain rfl:=Option.some.inj h
  refine ⟨.inr rfl,(.cons (sv rfl) .nil)⟩
 ·
  replace h:=bQ h hc2
  refine aT ?_
  refine aJ ?_
  refine aS ?_
  refine aC (aA rfl (aG rfl rfl (lb rfl) (sv (d:=.int _ 0) rfl)) <|aD ?_)
  refine aV ?_
  refine bO (α:=Nat × Int) (fun z=>⟨[(0,.slice false (a0.map (eInt .i64).d)),(1,.slice false (a1.map (eInt .i64).d)),(5,.int .i64 z.2)],[]⟩) (fun z=>eT a0 a1 z.1 z.2 = some r) (fun z=>z.1) (fuel,0) (fun i=>i) ⟨(.sames rfl rfl),.nil,bE [] rfl (by decide),fun _ _=>rfl⟩ ?_ ?_
  ·exact h
  ·
   rintro ⟨n0,v10⟩ h
   cases n0 with
   | zero=>exact absurd h (by unfold eT; exact nofun)
   | succ n0 =>
    unfold eT at h
    refine aS ?_
    obtain ⟨x18,hx18,h⟩:=aN h
    refine aC (aA rfl (mvI rfl rfl rfl rfl) <|aA rfl (mvL rfl rfl rfl rfl) <|aA rfl (cG (eInt .i64) (l:=a0) rfl rfl (lb rfl) Try.underlying23 (svL rfl)) <|aA rfl (aL rfl rfl (lb rfl) (svI rfl) (svI rfl) rfl hx18) <|aD ?_)
    refine aP (b:=_) rfl (fun hc19=>?_) (fun hc19=>?_)
    ·
     replace h:=bP h hc19
     refine aT ?_
     refine aJ ?_
     refine aS ?_
     refine aV ?_
     obtain ⟨x20,hx20,h⟩:=aO h
     obtain ⟨x21,hx21,h⟩:=aO h
     obtain ⟨x22,hx22,h⟩:=aN h
     refine dE rfl [⟨[0],[],[(17,.slice false (a0.map (eInt .i64).d))],[]⟩,
      ⟨[5],[],[(18,.int .i64 v10)],[]⟩,
      ⟨[17,18],[],[(19,.fptr [.int .i64 x20])],[]⟩,
      ⟨[19],[],[(20,.int .i64 x20)],[]⟩,
      ⟨[1],[],[(21,.slice false (a1.map (eInt .i64).d))],[]⟩,
      ⟨[5],[],[(22,.int .i64 v10)],[]⟩,
      ⟨[21,22],[],[(23,.fptr [.int .i64 x21])],[]⟩,
      ⟨[23],[],[(24,.int .i64 x21)],[]⟩,
      ⟨[20,24],[],[(25,.bool x22)],[]⟩] rfl ?_ (by kernel_rfl) ?_
     ·refine .cons (lop rfl rfl fun S hA=>(aE rfl rfl (lb rfl) (svaL hA rfl rfl))) ?_
      refine .cons (lop rfl rfl fun S hA=>(aE rfl rfl (lb rfl) (svaI hA rfl rfl))) ?_
      refine .cons (lop rfl rfl fun S hA=>(bW (eInt .i64) (cs:=[.int _ _]) rfl rfl (lb rfl) Try.underlying23 ti3 (svaL hA rfl rfl) (svaI hA rfl rfl) hx20 rfl rfl)) ?_
      refine .cons (lop rfl rfl fun S hA=>(bU rfl rfl (lb rfl) Try.underlying3 ag3 ti3 (by decide) (sv (d:=.fptr [.int _ _]) (agr hA rfl rfl)) (nle rfl))) ?_
      refine .cons (lop rfl rfl fun S hA=>(aE rfl rfl (lb rfl) (svaL hA rfl rfl))) ?_
      refine .cons (lop rfl rfl fun S hA=>(aE rfl rfl (lb rfl) (svaI hA rfl rfl))) ?_
      refine .cons (lop rfl rfl fun S hA=>(bW (eInt .i64) (cs:=[.int _ _]) rfl rfl (lb rfl) Try.underlying23 ti3 (svaL hA rfl rfl) (svaI hA rfl rfl) hx21 rfl rfl)) ?_
      refine .cons (lop rfl rfl fun S hA=>(bU rfl rfl (lb rfl) Try.underlying3 ag3 ti3 (by decide) (sv (d:=.fptr [.int _ _]) (agr hA rfl rfl)) (nle rfl))) ?_
      refine .cons (lop rfl rfl fun S hA=>(aL rfl rfl (lb rfl) (svaI hA rfl rfl) (svaI hA rfl rfl) rfl hx22)) ?_
      exact .nil
     refine aP (b:=_) rfl (fun hc23=>?_) (fun hc23=>?_)
     ·
      replace h:=bP h hc23
      refine aC (aA rfl (aG rfl rfl (lb rfl) (sv (d:=.bool false) rfl)) <|aD ?_)
      refine aW ?_
      refine bN ?_
      refine bA ?_
      refine bA ?_
      refine bN ?_
      refine bA ?_
      obtain rfl:=Option.some.inj h
      refine ⟨.inr rfl,(.cons (sv rfl) .nil)⟩
     ·
      replace h:=bQ h hc23
      refine aT ?_
      refine bJ ?_
      refine aJ ?_
      obtain ⟨x24,hx24,h⟩:=aN h
      refine aU (aA rfl (mvI rfl rfl rfl rfl) <|aA rfl (aQ rfl rfl (lb rfl) (svI rfl) (sv (d:=.int _ 1) rfl) rfl hx24) <|aA rfl (asI rfl rfl rfl rfl) <|bI ?_)
      refine aJ ⟨(n0,x24),(fun i=>i),⟨(.sames rfl rfl),.nil,bE [] rfl (by decide),fun _ _=>rfl⟩,?_,?_⟩
      exact h
      exact Nat.lt_succ_self _
    ·
     replace h:=bQ h hc19
     refine bY ?_
     refine bB ?_
     refine bB ?_
     refine bZ ?_
     refine aJ ?_
     refine aC (aA rfl (aG rfl rfl (lb rfl) (sv (d:=.bool true) rfl)) <|aD ?_)
     refine aW ?_
     obtain rfl:=Option.some.inj h
     refine ⟨.inr rfl,(.cons (sv rfl) .nil)⟩

theorem xR (a0 : aK) (a1 : Int) (r : Int) (h : uN a0 a1 = some r) : dP Try.prog 24 [.agg (v0 a0),.int .i64 a1] (.int .i64 r):=by
 refine bG (rs:=[.int .i64 r]) Try.func24 rfl Try.ntmps24 (nle rfl) rfl fun O hO=>?_
 show IWP _ _ _ _ ⟨[(0,.agg (v0 a0)),(1,.int .i64 a1)],[]⟩ _
 unfold uN at h
 refine aC (aA rfl (cK (cs:=q5) 0 rfl rfl (lb rfl) rfl (svA q5 rfl) rfl rfl) <|aA rfl (aG rfl rfl (lb rfl) (sv (d:=.int _ 0) rfl)) <|aD ?_)
 refine aS ?_
 obtain ⟨x1,hx1,h⟩:=aO h
 obtain ⟨x2,hx2,h⟩:=aN h
 obtain ⟨x3,hx3,h⟩:=aN h
 obtain ⟨x4,hx4,h⟩:=aO h
 obtain ⟨x5,hx5,h⟩:=aN h
 obtain ⟨x6,hx6,h⟩:=aN h
 refine aC (aA rfl (lra q5 la32 rfl rfl rfl rfl rfl (nle rfl) rfl) <|aA rfl (aX (r:=.int _ _) rfl rfl (lb rfl) cl14 (.cons (svA q5 rfl) .nil) rfl (lI _ _ hx1)) <|aA rfl (aL rfl rfl (lb rfl) (svI rfl) (sv (d:=.int _ 0) rfl) rfl hx2) <|aA rfl (mvB rfl rfl rfl rfl) <|aI rfl rfl (.one rfl) rfl (by decide) (fun hb=>(mvI rfl rfl rfl rfl)) <|aI rfl rfl (.one rfl) rfl (by decide) (fun hb=>(aL rfl rfl (lb rfl) (svcI rfl hb) (sv (d:=.int _ 0) rfl) rfl hx3)) <|aI rfl rfl (.one rfl) rfl (by decide) (fun hb=>(aE rfl rfl (lb rfl) (svcB rfl hb))) <|aI rfl rfl (.two rfl) rfl (by decide) (fun hb=>(lra q5 la32 rfl rfl rfl rfl rfl (nle rfl) rfl)) <|aI rfl rfl (.two rfl) rfl (by decide) (fun hb=>(mvI rfl rfl rfl rfl)) <|aI rfl rfl (.two rfl) rfl (by decide) (fun hb=>(aX (r:=.bool _) rfl rfl (lb rfl) cl51 (.cons (svcA (v0 a0) rfl hb) (.cons (svcI rfl hb) .nil)) rfl (jT _ _ _ (gd_t hx4 hb)))) <|aI rfl rfl (.two rfl) rfl (by decide) (fun hb=>(iB rfl rfl (lb rfl) (svcB rfl hb))) <|aI rfl rfl (.one rfl) rfl (by decide) (fun hb=>(vP rfl rfl (lb rfl) hb (svcB rfl hb) rfl rfl hx5)) <|aA rfl (iJ rfl rfl (lb rfl) (svB rfl) rfl rfl hx6) <|aD ?_)
 refine aP (b:=_) rfl (fun hc7=>?_) (fun hc7=>?_)
 ·
  replace h:=bP h hc7
  refine aC (aA rfl (aG rfl rfl (lb rfl) (sv (d:=.int _ 0) rfl)) <|aD ?_)
  refine aW ?_
  refine bA ?_
  obtain rfl:=Option.some.inj h
  refine ⟨.inr rfl,(.cons (sv rfl) .nil)⟩
 ·
  replace h:=bQ h hc7
  refine aT ?_
  refine aJ ?_
  obtain ⟨x8,hx8,h⟩:=aO h
  refine aC (aA rfl (lra q5 la32 rfl rfl rfl rfl rfl (nle rfl) rfl) <|aA rfl (mvI rfl rfl rfl rfl) <|aA rfl (aX (r:=.int _ _) rfl rfl (lb rfl) cl58 (.cons (svA q5 rfl) (.cons (svI rfl) .nil)) rfl (oS _ _ _ hx8)) <|aA rfl (asI rfl rfl rfl rfl) <|aD ?_)
  refine aW ?_
  obtain rfl:=Option.some.inj h
  refine ⟨.inr rfl,(.cons (sv rfl) .nil)⟩

theorem lQ (a0 : (List aF)) (a1 : (List aF)) (r : Bool) (h : fS a0 a1 = some r) : dP Try.prog 49 [.slice false (a0.map aB.d),.slice false (a1.map aB.d)] (.bool r):=by
 refine bG (rs:=[.bool r]) Try.func49 rfl Try.ntmps49 (nle rfl) rfl fun O hO=>?_
 show IWP _ _ _ _ ⟨[(0,.slice false (a0.map aB.d)),(1,.slice false (a1.map aB.d))],[]⟩ _
 unfold fS at h
 refine aC (aA rfl (aG rfl rfl (lb rfl) (sv (d:=.bool false) rfl)) <|aD ?_)
 refine aS ?_
 obtain ⟨x1,hx1,h⟩:=aN h
 refine aC (aA rfl (mvL rfl rfl rfl rfl) <|aA rfl (cG aB (l:=a0) rfl rfl (lb rfl) Try.underlying30 (svL rfl)) <|aA rfl (mvL rfl rfl rfl rfl) <|aA rfl (cG aB (l:=a1) rfl rfl (lb rfl) Try.underlying30 (svL rfl)) <|aA rfl (aL rfl rfl (lb rfl) (svI rfl) (svI rfl) rfl hx1) <|aD ?_)
 refine aP (b:=_) rfl (fun hc2=>?_) (fun hc2=>?_)
 ·
  replace h:=bP h hc2
  refine aC (aA rfl (aG rfl rfl (lb rfl) (sv (d:=.bool false) rfl)) <|aD ?_)
  refine aW ?_
  refine bA ?_
  obtain rfl:=Option.some.inj h
  refine ⟨.inr rfl,(.cons (sv rfl) .nil)⟩
 ·
  replace h:=bQ h hc2
  refine aT ?_
  refine aJ ?_
  refine aS ?_
  refine aC (aA rfl (mvL rfl rfl rfl rfl) <|aA rfl (cG aB (l:=a0) rfl rfl (lb rfl) Try.underlying30 (svL rfl)) <|aA rfl (aE rfl rfl (lb rfl) (sv (d:=.int _ 0) rfl)) <|aD ?_)
  refine aV ?_
  refine bO (α:=Nat × Int) (fun z=>⟨[(0,.slice false (a0.map aB.d)),(1,.slice false (a1.map aB.d)),(12,.int .i64 (a0.length : Int)),(13,.int .i64 z.2)],[]⟩) (fun z=>cF a0 a1 z.1 z.2 = some r) (fun z=>z.1) (fuel,0) (fun i=>i) ⟨(.sames rfl rfl),.nil,bE [] rfl (by decide),fun _ _=>rfl⟩ ?_ ?_
  ·exact h
  ·
   rintro ⟨n0,v10⟩ h
   cases n0 with
   | zero=>exact absurd h (by unfold cF; exact nofun)
   | succ n0 =>
    unfold cF at h
    obtain ⟨x18,hx18,h⟩:=aN h
    refine aC (aA rfl (aL rfl rfl (lb rfl) (svI rfl) (svI rfl) rfl hx18) <|aD ?_)
    refine aS ?_
    refine aP (b:=_) rfl (fun hc19=>?_) (fun hc19=>?_)
    ·
     replace h:=bP h hc19
     refine aT ?_
     refine aJ ?_
     refine aS ?_
     refine aV ?_
     refine aC (aA rfl (mvI rfl rfl rfl rfl) <|aA rfl (asI rfl rfl rfl rfl) <|aD ?_)
     obtain ⟨x20,hx20,h⟩:=aO h
     obtain ⟨x21,hx21,h⟩:=aO h
     obtain ⟨x22,hx22,h⟩:=aN h
     refine dE rfl [⟨[0],[],[(16,.slice false (a0.map aB.d))],[]⟩,
      ⟨[5],[],[(17,.int .i64 v10)],[]⟩,
      ⟨[16,17],[],[(18,.fptr (v3 x20))],[]⟩,
      ⟨[18],[],[(19,.agg (v3 x20))],[]⟩,
      ⟨[1],[],[(20,.slice false (a1.map aB.d))],[]⟩,
      ⟨[5],[],[(21,.int .i64 v10)],[]⟩,
      ⟨[20,21],[],[(22,.fptr (v3 x21))],[]⟩,
      ⟨[22],[],[(23,.agg (v3 x21))],[]⟩,
      ⟨[19,23],[],[(24,.bool (!x22))],[]⟩] rfl ?_ (by kernel_rfl) ?_
     ·refine .cons (lop rfl rfl fun S hA=>(aE rfl rfl (lb rfl) (svaL hA rfl rfl))) ?_
      refine .cons (lop rfl rfl fun S hA=>(aE rfl rfl (lb rfl) (svaI hA rfl rfl))) ?_
      refine .cons (lop rfl rfl fun S hA=>(bW aB (cs:=q9) rfl rfl (lb rfl) Try.underlying30 ti56 (svaL hA rfl rfl) (svaI hA rfl rfl) hx20 rfl rfl)) ?_
      refine .cons (lop rfl rfl fun S hA=>(eH (cs:=q9) rfl rfl (lb rfl) Try.underlying56 ag56 ti56 (by decide) (sv (d:=.fptr q9) (agr hA rfl rfl)) (nle rfl) rfl)) ?_
      refine .cons (lop rfl rfl fun S hA=>(aE rfl rfl (lb rfl) (svaL hA rfl rfl))) ?_
      refine .cons (lop rfl rfl fun S hA=>(aE rfl rfl (lb rfl) (svaI hA rfl rfl))) ?_
      refine .cons (lop rfl rfl fun S hA=>(bW aB (cs:=q9) rfl rfl (lb rfl) Try.underlying30 ti56 (svaL hA rfl rfl) (svaI hA rfl rfl) hx21 rfl rfl)) ?_
      refine .cons (lop rfl rfl fun S hA=>(eH (cs:=q9) rfl rfl (lb rfl) Try.underlying56 ag56 ti56 (by decide) (sv (d:=.fptr q9) (agr hA rfl rfl)) (nle rfl) rfl)) ?_
      refine .cons (lop rfl rfl fun S hA=>(zF rfl rfl (lb rfl) Try.underlying56 st56.1 st56.2 (svaA q9 hA rfl rfl) (svaA q9 hA rfl rfl) (congrArg some hx22))) ?_
      exact .nil
     refine aP (b:=_) rfl (fun hc23=>?_) (fun hc23=>?_)
     ·
      replace h:=bP h hc23
      refine aC (aA rfl (aG rfl rfl (lb rfl) (sv (d:=.bool false) rfl)) <|aD ?_)
      refine aW ?_
      refine bN ?_
      refine bA ?_
      refine bA ?_
      refine bN ?_
      refine bA ?_
      obtain rfl:=Option.some.inj h
      refine ⟨.inr rfl,(.cons (sv rfl) .nil)⟩
     ·
      replace h:=bQ h hc23
      refine aT ?_
      refine bJ ?_
      refine aJ ?_
      obtain ⟨x24,hx24,h⟩:=aN h
      refine aU (aA rfl (aQ rfl rfl (lb rfl) (svI rfl) (sv (d:=.int _ 1) rfl) rfl hx24) <|aA rfl (mvI rfl rfl rfl rfl) <|bI ?_)
      refine aJ ⟨(n0,x24),(fun i=>i),⟨(.sames rfl rfl),.nil,bE [] rfl (by decide),fun _ _=>rfl⟩,?_,?_⟩
      exact h
      exact Nat.lt_succ_self _
    ·
     replace h:=bQ h hc19
     refine bY ?_
     refine bB ?_
     refine bB ?_
     refine bZ ?_
     refine aJ ?_
     refine aC (aA rfl (aG rfl rfl (lb rfl) (sv (d:=.bool true) rfl)) <|aD ?_)
     refine aW ?_
     obtain rfl:=Option.some.inj h
     refine ⟨.inr rfl,(.cons (sv rfl) .nil)⟩

theorem oV (a0 : (List Int)) (a1 : (List Int)) (r : Bool) (h : kD a0 a1 = some r) : dP Try.prog 50 [.slice false (a0.map (eInt .i64).d),.slice false (a1.map (eInt .i64).d)] (.bool r):=by
 refine bG (rs:=[.bool r]) Try.func50 rfl Try.ntmps50 (nle rfl) rfl fun O hO=>?_
 show IWP _ _ _ _ ⟨[(0,.slice false (a0.map (eInt .i64).d)),(1,.slice false (a1.map (eInt .i64).d))],[]⟩ _
 unfold kD at h
 refine aC (aA rfl (aG rfl rfl (lb rfl) (sv (d:=.bool false) rfl)) <|aD ?_)
 refine aS ?_
 obtain ⟨x1,hx1,h⟩:=aN h
 refine aC (aA rfl (mvL rfl rfl rfl rfl) <|aA rfl (cG (eInt .i64) (l:=a0) rfl rfl (lb rfl) Try.underlying23 (svL rfl)) <|aA rfl (mvL rfl rfl rfl rfl) <|aA rfl (cG (eInt .i64) (l:=a1) rfl rfl (lb rfl) Try.underlying23 (svL rfl)) <|aA rfl (aL rfl rfl (lb rfl) (svI rfl) (svI rfl) rfl hx1) <|aD ?_)
 refine aP (b:=_) rfl (fun hc2=>?_) (fun hc2=>?_)
 ·
  replace h:=bP h hc2
  refine aC (aA rfl (aG rfl rfl (lb rfl) (sv (d:=.bool false) rfl)) <|aD ?_)
  refine aW ?_
  refine bA ?_
  obtain rfl:=Option.some.inj h
  refine ⟨.inr rfl,(.cons (sv rfl) .nil)⟩
 ·
  replace h:=bQ h hc2
  refine aT ?_
  refine aJ ?_
  refine aS ?_
  refine aC (aA rfl (mvL rfl rfl rfl rfl) <|aA rfl (cG (eInt .i64) (l:=a0) rfl rfl (lb rfl) Try.underlying23 (svL rfl)) <|aA rfl (aE rfl rfl (lb rfl) (sv (d:=.int _ 0) rfl)) <|aD ?_)
  refine aV ?_
  refine bO (α:=Nat × Int) (fun z=>⟨[(0,.slice false (a0.map (eInt .i64).d)),(1,.slice false (a1.map (eInt .i64).d)),(12,.int .i64 (a0.length : Int)),(13,.int .i64 z.2)],[]⟩) (fun z=>eP a0 a1 z.1 z.2 = some r) (fun z=>z.1) (fuel,0) (fun i=>i) ⟨(.sames rfl rfl),.nil,bE [] rfl (by decide),fun _ _=>rfl⟩ ?_ ?_
  ·exact h
  ·
   rintro ⟨n0,v10⟩ h
   cases n0 with
   | zero=>exact absurd h (by unfold eP; exact nofun)
   | succ n0 =>
    unfold eP at h
    obtain ⟨x18,hx18,h⟩:=aN h
    refine aC (aA rfl (aL rfl rfl (lb rfl) (svI rfl) (svI rfl) rfl hx18) <|aD ?_)
    refine aS ?_
    refine aP (b:=_) rfl (fun hc19=>?_) (fun hc19=>?_)
    ·
     replace h:=bP h hc19
     refine aT ?_
     refine aJ ?_
     refine aS ?_
     refine aV ?_
     refine aC (aA rfl (mvI rfl rfl rfl rfl) <|aA rfl (asI rfl rfl rfl rfl) <|aD ?_)
     obtain ⟨x20,hx20,h⟩:=aO h
     obtain ⟨x21,hx21,h⟩:=aO h
     obtain ⟨x22,hx22,h⟩:=aN h
     refine dE rfl [⟨[0],[],[(16,.slice false (a0.map (eInt .i64).d))],[]⟩,
      ⟨[5],[],[(17,.int .i64 v10)],[]⟩,
      ⟨[16,17],[],[(18,.fptr [.int .i64 x20])],[]⟩,
      ⟨[18],[],[(19,.int .i64 x20)],[]⟩,
      ⟨[1],[],[(20,.slice false (a1.map (eInt .i64).d))],[]⟩,
      ⟨[5],[],[(21,.int .i64 v10)],[]⟩,
      ⟨[20,21],[],[(22,.fptr [.int .i64 x21])],[]⟩,
      ⟨[22],[],[(23,.int .i64 x21)],[]⟩,
      ⟨[19,23],[],[(24,.bool x22)],[]⟩] rfl ?_ (by kernel_rfl) ?_
     ·refine .cons (lop rfl rfl fun S hA=>(aE rfl rfl (lb rfl) (svaL hA rfl rfl))) ?_
      refine .cons (lop rfl rfl fun S hA=>(aE rfl rfl (lb rfl) (svaI hA rfl rfl))) ?_
      refine .cons (lop rfl rfl fun S hA=>(bW (eInt .i64) (cs:=[.int _ _]) rfl rfl (lb rfl) Try.underlying23 ti3 (svaL hA rfl rfl) (svaI hA rfl rfl) hx20 rfl rfl)) ?_
      refine .cons (lop rfl rfl fun S hA=>(bU rfl rfl (lb rfl) Try.underlying3 ag3 ti3 (by decide) (sv (d:=.fptr [.int _ _]) (agr hA rfl rfl)) (nle rfl))) ?_
      refine .cons (lop rfl rfl fun S hA=>(aE rfl rfl (lb rfl) (svaL hA rfl rfl))) ?_
      refine .cons (lop rfl rfl fun S hA=>(aE rfl rfl (lb rfl) (svaI hA rfl rfl))) ?_
      refine .cons (lop rfl rfl fun S hA=>(bW (eInt .i64) (cs:=[.int _ _]) rfl rfl (lb rfl) Try.underlying23 ti3 (svaL hA rfl rfl) (svaI hA rfl rfl) hx21 rfl rfl)) ?_
      refine .cons (lop rfl rfl fun S hA=>(bU rfl rfl (lb rfl) Try.underlying3 ag3 ti3 (by decide) (sv (d:=.fptr [.int _ _]) (agr hA rfl rfl)) (nle rfl))) ?_
      refine .cons (lop rfl rfl fun S hA=>(aL rfl rfl (lb rfl) (svaI hA rfl rfl) (svaI hA rfl rfl) rfl hx22)) ?_
      exact .nil
     refine aP (b:=_) rfl (fun hc23=>?_) (fun hc23=>?_)
     ·
      replace h:=bP h hc23
      refine aC (aA rfl (aG rfl rfl (lb rfl) (sv (d:=.bool false) rfl)) <|aD ?_)
      refine aW ?_
      refine bN ?_
      refine bA ?_
      refine bA ?_
      refine bN ?_
      refine bA ?_
      obtain rfl:=Option.some.inj h
      refine ⟨.inr rfl,(.cons (sv rfl) .nil)⟩
     ·
      replace h:=bQ h hc23
      refine aT ?_
      refine bJ ?_
      refine aJ ?_
      obtain ⟨x24,hx24,h⟩:=aN h
      refine aU (aA rfl (aQ rfl rfl (lb rfl) (svI rfl) (sv (d:=.int _ 1) rfl) rfl hx24) <|aA rfl (mvI rfl rfl rfl rfl) <|bI ?_)
      refine aJ ⟨(n0,x24),(fun i=>i),⟨(.sames rfl rfl),.nil,bE [] rfl (by decide),fun _ _=>rfl⟩,?_,?_⟩
      exact h
      exact Nat.lt_succ_self _
    ·
     replace h:=bQ h hc19
     refine bY ?_
     refine bB ?_
     refine bB ?_
     refine bZ ?_
     refine aJ ?_
     refine aC (aA rfl (aG rfl rfl (lb rfl) (sv (d:=.bool true) rfl)) <|aD ?_)
     refine aW ?_
     obtain rfl:=Option.some.inj h
     refine ⟨.inr rfl,(.cons (sv rfl) .nil)⟩

theorem pV (a0 : aK) (a1 : aK) (r : Bool) (h : nI a0 a1 = some r) : dP Try.prog 16 [.agg (v0 a0),.agg (v0 a1)] (.bool r):=by
 refine bG (rs:=[.bool r]) Try.func16 rfl Try.ntmps16 (nle rfl) rfl fun O hO=>?_
 show IWP _ _ _ _ ⟨[(0,.agg (v0 a0)),(1,.agg (v0 a1))],[]⟩ _
 unfold nI at h
 refine aC (aA rfl (cK (cs:=q5) 0 rfl rfl (lb rfl) rfl (svA q5 rfl) rfl rfl) <|aA rfl (cK (cs:=q5) 1 rfl rfl (lb rfl) rfl (svA q5 rfl) rfl rfl) <|aA rfl (aG rfl rfl (lb rfl) (sv (d:=.bool false) rfl)) <|aD ?_)
 obtain ⟨x1,hx1,h⟩:=aN h
 obtain ⟨x2,hx2,h⟩:=aN h
 obtain ⟨x3,hx3,h⟩:=aN h
 obtain ⟨x4,hx4,h⟩:=aO h
 obtain ⟨x5,hx5,h⟩:=aN h
 obtain ⟨x6,hx6,h⟩:=aO h
 obtain ⟨x7,hx7,h⟩:=aN h
 refine aC (aA rfl (faR 0 rfl rfl rfl Try.underlying32 rfl ti3 (lb rfl) rfl rfl) <|aA rfl (aH (d:=.int _ _) rfl rfl (lb rfl) Try.underlying3 ag3 ti3 (by decide) (svR rfl) rfl (nle rfl) rfl) <|aA rfl (faR 0 rfl rfl rfl Try.underlying32 rfl ti3 (lb rfl) rfl rfl) <|aA rfl (aH (d:=.int _ _) rfl rfl (lb rfl) Try.underlying3 ag3 ti3 (by decide) (svR rfl) rfl (nle rfl) rfl) <|aA rfl (aL rfl rfl (lb rfl) (svI rfl) (svI rfl) rfl hx1) <|aA rfl (mvB rfl rfl rfl rfl) <|aI rfl rfl (.one rfl) rfl (by decide) (fun hb=>(faR 1 rfl rfl rfl Try.underlying32 rfl ti3 (lb rfl) rfl rfl)) <|aI rfl rfl (.one rfl) rfl (by decide) (fun hb=>(aH (d:=.int _ _) rfl rfl (lb rfl) Try.underlying3 ag3 ti3 (by decide) (svcR rfl hb) rfl (nle rfl) rfl)) <|aI rfl rfl (.one rfl) rfl (by decide) (fun hb=>(faR 1 rfl rfl rfl Try.underlying32 rfl ti3 (lb rfl) rfl rfl)) <|aI rfl rfl (.one rfl) rfl (by decide) (fun hb=>(aH (d:=.int _ _) rfl rfl (lb rfl) Try.underlying3 ag3 ti3 (by decide) (svcR rfl hb) rfl (nle rfl) rfl)) <|aI rfl rfl (.one rfl) rfl (by decide) (fun hb=>(aL rfl rfl (lb rfl) (svcI rfl hb) (svcI rfl hb) rfl hx2)) <|aA rfl (cO rfl rfl (lb rfl) (svB rfl) rfl rfl hx3) <|aA rfl (mvB rfl rfl rfl rfl) <|aI rfl rfl (.one rfl) rfl (by decide) (fun hb=>(faR 2 rfl rfl rfl Try.underlying32 rfl ti30 (lb rfl) rfl rfl)) <|aI rfl rfl (.one rfl) rfl (by decide) (fun hb=>(aH (d:=.slice _ _) rfl rfl (lb rfl) Try.underlying30 ag30 ti30 (by decide) (svcR rfl hb) rfl (nle rfl) rfl)) <|aI rfl rfl (.one rfl) rfl (by decide) (fun hb=>(faR 2 rfl rfl rfl Try.underlying32 rfl ti30 (lb rfl) rfl rfl)) <|aI rfl rfl (.one rfl) rfl (by decide) (fun hb=>(aH (d:=.slice _ _) rfl rfl (lb rfl) Try.underlying30 ag30 ti30 (by decide) (svcR rfl hb) rfl (nle rfl) rfl)) <|aI rfl rfl (.one rfl) rfl (by decide) (fun hb=>(aX (r:=.bool _) rfl rfl (lb rfl) cl49 (.cons (svcL rfl hb) (.cons (svcL rfl hb) .nil)) rfl (lQ _ _ _ (gd_t hx4 hb)))) <|aA rfl (cO rfl rfl (lb rfl) (svB rfl) rfl rfl hx5) <|aA rfl (mvB rfl rfl rfl rfl) <|aI rfl rfl (.one rfl) rfl (by decide) (fun hb=>(faR 3 rfl rfl rfl Try.underlying32 rfl ti23 (lb rfl) rfl rfl)) <|aI rfl rfl (.one rfl) rfl (by decide) (fun hb=>(aH (d:=.slice _ _) rfl rfl (lb rfl) Try.underlying23 ag23 ti23 (by decide) (svcR rfl hb) rfl (nle rfl) rfl)) <|aI rfl rfl (.one rfl) rfl (by decide) (fun hb=>(faR 3 rfl rfl rfl Try.underlying32 rfl ti23 (lb rfl) rfl rfl)) <|aI rfl rfl (.one rfl) rfl (by decide) (fun hb=>(aH (d:=.slice _ _) rfl rfl (lb rfl) Try.underlying23 ag23 ti23 (by decide) (svcR rfl hb) rfl (nle rfl) rfl)) <|aI rfl rfl (.one rfl) rfl (by decide) (fun hb=>(aX (r:=.bool _) rfl rfl (lb rfl) cl50 (.cons (svcL rfl hb) (.cons (svcL rfl hb) .nil)) rfl (oV _ _ _ (gd_t hx6 hb)))) <|aA rfl (cO rfl rfl (lb rfl) (svB rfl) rfl rfl hx7) <|aA rfl (asB rfl rfl rfl rfl) <|aD ?_)
 refine aW ?_
 obtain rfl:=Option.some.inj h
 refine ⟨.inr rfl,(.cons (sv rfl) .nil)⟩

theorem nD  (r : Bool) (h : kH = some r) : dP Try.prog 8 [] (.bool r):=by
 refine bG (rs:=[.bool r]) Try.func8 rfl Try.ntmps8 (nle rfl) rfl fun O hO=>?_
 show IWP _ _ _ _ ⟨[],[]⟩ _
 unfold kH at h
 refine aC (aA rfl (aG rfl rfl (lb rfl) (sv (d:=.bool false) rfl)) <|aD ?_)
 obtain ⟨x1,hx1,h⟩:=aO h
 refine aC (aA rfl (wJ (d':=.agg (w16 8 1 ([] : List aF) ([] : List Int))) (dN (cs:=q11) rfl rfl (lb rfl) Try.underlying32 ti32 pl32 rfl (.cons (sv (d:=.int _ 8) rfl) (.cons (sv (d:=.int _ 1) rfl) .nil)) rfl) (.agg (.k (.k (.cons (.nils _) (.cons (.nils _) .nil)))))) <|aA rfl (dN (cs:=q4) rfl rfl (lb rfl) Try.underlying37 ti37 pl37 rfl (.cons (sv (d:=.int _ 1) rfl) (.cons (sv (d:=.int _ 16) rfl) .nil)) rfl) <|aA rfl (dN (cs:=q4) rfl rfl (lb rfl) Try.underlying37 ti37 pl37 rfl (.cons (sv (d:=.int _ 3) rfl) (.cons (sv (d:=.int _ 1) rfl) (.cons (sv (d:=.int _ 5) rfl) .nil))) rfl) <|aA rfl (dN (cs:=q4) rfl rfl (lb rfl) Try.underlying37 ti37 pl37 rfl (.cons (sv (d:=.int _ 5) rfl) (.cons (sv (d:=.int _ 1) rfl) (.cons (sv (d:=.int _ 7) rfl) .nil))) rfl) <|aA rfl (dN (cs:=q4) rfl rfl (lb rfl) Try.underlying37 ti37 pl37 rfl (.cons (sv (d:=.int _ 2) rfl) (.cons (sv (d:=.int _ 3) rfl) .nil)) rfl) <|aA rfl (dN (cs:=q4) rfl rfl (lb rfl) Try.underlying37 ti37 pl37 rfl (.cons (sv (d:=.int _ 9) rfl) .nil) rfl) <|aA rfl (dN (cs:=q4) rfl rfl (lb rfl) Try.underlying37 ti37 pl37 rfl (.cons (sv (d:=.int _ 1) rfl) (.cons (sv (d:=.int _ 5) rfl) (.cons (sv (d:=.int _ 2) rfl) .nil))) rfl) <|aA rfl (nU nK ([(⟨0,1,0,16,false⟩ : dI),(⟨0,3,1,5,false⟩ : dI),(⟨0,5,1,7,false⟩ : dI),(⟨2,3,0,0,false⟩ : dI),(⟨9,0,0,0,false⟩ : dI),(⟨1,5,0,2,false⟩ : dI)] : (List dI)) 0 rfl rfl (lb rfl) Try.underlying62 ti37 rfl (.cons (svA q4 rfl) (.cons (svA q4 rfl) (.cons (svA q4 rfl) (.cons (svA q4 rfl) (.cons (svA q4 rfl) (.cons (svA q4 rfl) .nil)))))) rfl rfl (by decide)) <|aA rfl (aX (r:=.tuple [.agg q5,.slice _ _]) rfl rfl (lb rfl) cl26 (.cons (svA q5 rfl) (.cons (svg rfl) .nil)) rfl (xS _ _ _ hx1)) <|aA rfl (aE rfl rfl (lb rfl) (sv (d:=.tuple [.agg q5,.slice _ _]) rfl)) <|aA rfl (bH (d:=.agg q5) rfl rfl (lb rfl) (sv (d:=.tuple [.agg q5,.slice _ _]) rfl) rfl) <|aA rfl (bH (d:=.slice _ _) rfl rfl (lb rfl) (sv (d:=.tuple [.agg q5,.slice _ _]) rfl) rfl) <|aA rfl (bX (cs:=q11) (cs':=(w16 0 0 ([] : List aF) ([] : List Int))) 1 rfl rfl (lb rfl) rfl ti32 rfl rfl (.k (.k (.cons (.nils _) (.cons (.nils _) .nil))))) <|aA rfl (stA q5 q5 ti32 rfl rfl rfl rfl rfl rfl rfl rfl (nle rfl) rfl) <|aA rfl (aG rfl rfl (lb rfl) (svL rfl)) <|aD ?_)
 refine aS ?_
 obtain ⟨x2,hx2,h⟩:=aN h
 refine aC (aA rfl (mvL rfl rfl rfl rfl) <|aA rfl (cG (eInt .i64) (l:=x1.2) rfl rfl (lb rfl) Try.underlying59 (svL rfl)) <|aA rfl (aL rfl rfl (lb rfl) (svI rfl) (sv (d:=.int _ 6) rfl) rfl hx2) <|aD ?_)
 refine aP (b:=_) rfl (fun hc3=>?_) (fun hc3=>?_)
 ·
  replace h:=bP h hc3
  refine aC (aA rfl (aG rfl rfl (lb rfl) (sv (d:=.bool false) rfl)) <|aD ?_)
  refine aW ?_
  refine bA ?_
  obtain rfl:=Option.some.inj h
  refine ⟨.inr rfl,(.cons (sv rfl) .nil)⟩
 ·
  replace h:=bQ h hc3
  refine aT ?_
  refine aJ ?_
  obtain ⟨x4,hx4,h⟩:=aO h
  obtain ⟨x5,hx5,h⟩:=aN h
  obtain ⟨x6,hx6,h⟩:=aO h
  obtain ⟨x7,hx7,h⟩:=aN h
  obtain ⟨x8,hx8,h⟩:=aN h
  obtain ⟨x9,hx9,h⟩:=aO h
  obtain ⟨x10,hx10,h⟩:=aN h
  obtain ⟨x11,hx11,h⟩:=aN h
  obtain ⟨x12,hx12,h⟩:=aN h
  obtain ⟨x13,hx13,h⟩:=aN h
  obtain ⟨x14,hx14,h⟩:=aO h
  obtain ⟨x15,hx15,h⟩:=aN h
  obtain ⟨x16,hx16,h⟩:=aO h
  obtain ⟨x17,hx17,h⟩:=aN h
  obtain ⟨x18,hx18,h⟩:=aN h
  obtain ⟨x19,hx19,h⟩:=aO h
  obtain ⟨x20,hx20,h⟩:=aN h
  obtain ⟨x21,hx21,h⟩:=aN h
  obtain ⟨x22,hx22,h⟩:=aO h
  obtain ⟨x23,hx23,h⟩:=aN h
  obtain ⟨x24,hx24,h⟩:=aN h
  obtain ⟨x25,hx25,h⟩:=aO h
  obtain ⟨x26,hx26,h⟩:=aN h
  obtain ⟨x27,hx27,h⟩:=aN h
  obtain ⟨x28,hx28,h⟩:=aO h
  obtain ⟨x29,hx29,h⟩:=aO h
  obtain ⟨x30,hx30,h⟩:=aN h
  obtain ⟨x31,hx31,h⟩:=aO h
  obtain ⟨x32,hx32,h⟩:=aO h
  obtain ⟨x33,hx33,h⟩:=aN h
  obtain ⟨x34,hx34,h⟩:=aO h
  obtain ⟨x35,hx35,h⟩:=aN h
  obtain ⟨x36,hx36,h⟩:=aN h
  obtain ⟨x37,hx37,h⟩:=aO h
  obtain ⟨x38,hx38,h⟩:=aN h
  obtain ⟨x39,hx39,h⟩:=aN h
  obtain ⟨x40,hx40,h⟩:=aO h
  obtain ⟨x41,hx41,h⟩:=aN h
  obtain ⟨x42,hx42,h⟩:=aN h
  obtain ⟨x43,hx43,h⟩:=aO h
  obtain ⟨x44,hx44,h⟩:=aN h
  obtain ⟨x45,hx45,h⟩:=aO h
  obtain ⟨x46,hx46,h⟩:=aN h
  obtain ⟨x47,hx47,h⟩:=aN h
  obtain ⟨x48,hx48,h⟩:=aN h
  obtain ⟨x49,hx49,h⟩:=aN h
  refine aC (aA rfl (mvL rfl rfl rfl rfl) <|aA rfl (bW (eInt .i64) (cs:=[.int _ _]) rfl rfl (lb rfl) Try.underlying59 ti34 (svL rfl) (sv (d:=.int _ 0) rfl) hx4 rfl rfl) <|aA rfl (bU rfl rfl (lb rfl) Try.underlying34 ag34 ti34 (by decide) (sv (d:=.fptr [.int _ _]) rfl) (nle rfl)) <|aA rfl (aL rfl rfl (lb rfl) (svI rfl) (sv (d:=.int _ 0) rfl) rfl hx5) <|aA rfl (mvB rfl rfl rfl rfl) <|aI rfl rfl (.one rfl) rfl (by decide) (fun hb=>(mvL rfl rfl rfl rfl)) <|aI rfl rfl (.one rfl) rfl (by decide) (fun hb=>(bW (eInt .i64) (cs:=[.int _ _]) rfl rfl (lb rfl) Try.underlying59 ti34 (svcL rfl hb) (sv (d:=.int _ 3) rfl) (gd_t hx6 hb) rfl rfl)) <|aI rfl rfl (.one rfl) rfl (by decide) (fun hb=>(bU rfl rfl (lb rfl) Try.underlying34 ag34 ti34 (by decide) (svc (d:=.fptr [.int _ _]) rfl hb) (nle rfl))) <|aI rfl rfl (.one rfl) rfl (by decide) (fun hb=>(aL rfl rfl (lb rfl) (svcI rfl hb) (sv (d:=.int _ 0) rfl) rfl hx7)) <|aA rfl (cO rfl rfl (lb rfl) (svB rfl) rfl rfl hx8) <|aA rfl (mvB rfl rfl rfl rfl) <|aI rfl rfl (.one rfl) rfl (by decide) (fun hb=>(mvL rfl rfl rfl rfl)) <|aI rfl rfl (.one rfl) rfl (by decide) (fun hb=>(bW (eInt .i64) (cs:=[.int _ _]) rfl rfl (lb rfl) Try.underlying59 ti34 (svcL rfl hb) (sv (d:=.int _ 4) rfl) (gd_t hx9 hb) rfl rfl)) <|aI rfl rfl (.one rfl) rfl (by decide) (fun hb=>(bU rfl rfl (lb rfl) Try.underlying34 ag34 ti34 (by decide) (svc (d:=.fptr [.int _ _]) rfl hb) (nle rfl))) <|aI rfl rfl (.one rfl) rfl (by decide) (fun hb=>(aL rfl rfl (lb rfl) (svcI rfl hb) (sv (d:=.int _ 12) rfl) rfl hx10)) <|aA rfl (cO rfl rfl (lb rfl) (svB rfl) rfl rfl hx11) <|aA rfl (mvB rfl rfl rfl rfl) <|aI rfl rfl (.one rfl) rfl (by decide) (fun hb=>(faR 2 rfl rfl rfl Try.underlying32 rfl ti30 (lb rfl) rfl rfl)) <|aI rfl rfl (.one rfl) rfl (by decide) (fun hb=>(aH (d:=.slice _ _) rfl rfl (lb rfl) Try.underlying30 ag30 ti30 (by decide) (svcR rfl hb) rfl (nle rfl) rfl)) <|aI rfl rfl (.one rfl) rfl (by decide) (fun hb=>(cG aB (l:=x1.1.Nodes) rfl rfl (lb rfl) Try.underlying30 (svcL rfl hb))) <|aI rfl rfl (.one rfl) rfl (by decide) (fun hb=>(aL rfl rfl (lb rfl) (svcI rfl hb) (sv (d:=.int _ 3) rfl) rfl hx12)) <|aA rfl (cO rfl rfl (lb rfl) (svB rfl) rfl rfl hx13) <|aA rfl (mvB rfl rfl rfl rfl) <|aI rfl rfl (.one rfl) rfl (by decide) (fun hb=>(faR 2 rfl rfl rfl Try.underlying32 rfl ti30 (lb rfl) rfl rfl)) <|aI rfl rfl (.one rfl) rfl (by decide) (fun hb=>(aH (d:=.slice _ _) rfl rfl (lb rfl) Try.underlying30 ag30 ti30 (by decide) (svcR rfl hb) rfl (nle rfl) rfl)) <|aI rfl rfl (.one rfl) rfl (by decide) (fun hb=>(bW aB (cs:=q9) rfl rfl (lb rfl) Try.underlying30 ti56 (svcL rfl hb) (sv (d:=.int _ 1) rfl) (gd_t hx14 hb) rfl rfl)) <|aI rfl rfl (.one rfl) rfl (by decide) (fun hb=>(bV (cs':=[.bool _]) rfl rfl (lb rfl) Try.underlying56 rfl ti4 (by decide) (svc (d:=.fptr q9) rfl hb) rfl)) <|aI rfl rfl (.one rfl) rfl (by decide) (fun hb=>(bU rfl rfl (lb rfl) Try.underlying4 ag4 ti4 (by decide) (svc (d:=.fptr [.bool _]) rfl hb) (nle rfl))) <|aA rfl (cO rfl rfl (lb rfl) (svB rfl) rfl rfl hx15) <|aA rfl (mvB rfl rfl rfl rfl) <|aI rfl rfl (.one rfl) rfl (by decide) (fun hb=>(lra q5 la32 rfl rfl rfl rfl rfl (nle rfl) rfl)) <|aI rfl rfl (.one rfl) rfl (by decide) (fun hb=>(aX (r:=.int _ _) rfl rfl (lb rfl) cl17 (.cons (svcA (v0 x1.1) rfl hb) (.cons (sv (d:=.int _ 3) rfl) .nil)) rfl (rR _ _ _ (gd_t hx16 hb)))) <|aI rfl rfl (.one rfl) rfl (by decide) (fun hb=>(aL rfl rfl (lb rfl) (svcI rfl hb) (sv (d:=.int _ 2) rfl) rfl hx17)) <|aA rfl (cO rfl rfl (lb rfl) (svB rfl) rfl rfl hx18) <|aA rfl (mvB rfl rfl rfl rfl) <|aI rfl rfl (.one rfl) rfl (by decide) (fun hb=>(lra q5 la32 rfl rfl rfl rfl rfl (nle rfl) rfl)) <|aI rfl rfl (.one rfl) rfl (by decide) (fun hb=>(aX (r:=.int _ _) rfl rfl (lb rfl) cl17 (.cons (svcA (v0 x1.1) rfl hb) (.cons (sv (d:=.int _ 5) rfl) .nil)) rfl (rR _ _ _ (gd_t hx19 hb)))) <|aI rfl rfl (.one rfl) rfl (by decide) (fun hb=>(aL rfl rfl (lb rfl) (svcI rfl hb) (sv (d:=.int _ 1) rfl) rfl hx20)) <|aA rfl (cO rfl rfl (lb rfl) (svB rfl) rfl rfl hx21) <|aA rfl (mvB rfl rfl rfl rfl) <|aI rfl rfl (.one rfl) rfl (by decide) (fun hb=>(lra q5 la32 rfl rfl rfl rfl rfl (nle rfl) rfl)) <|aI rfl rfl (.one rfl) rfl (by decide) (fun hb=>(aX (r:=.int _ _) rfl rfl (lb rfl) cl19 (.cons (svcA (v0 x1.1) rfl hb) (.cons (sv (d:=.int _ 1) rfl) (.cons (sv (d:=.int _ 3) rfl) .nil))) rfl (sU _ _ _ _ (gd_t hx22 hb)))) <|aI rfl rfl (.one rfl) rfl (by decide) (fun hb=>(aL rfl rfl (lb rfl) (svcI rfl hb) (sv (d:=.int _ 1) rfl) rfl hx23)) <|aA rfl (cO rfl rfl (lb rfl) (svB rfl) rfl rfl hx24) <|aA rfl (mvB rfl rfl rfl rfl) <|aI rfl rfl (.one rfl) rfl (by decide) (fun hb=>(lra q5 la32 rfl rfl rfl rfl rfl (nle rfl) rfl)) <|aI rfl rfl (.one rfl) rfl (by decide) (fun hb=>(aX (r:=.int _ _) rfl rfl (lb rfl) cl19 (.cons (svcA (v0 x1.1) rfl hb) (.cons (sv (d:=.int _ 5) rfl) (.cons (sv (d:=.int _ 3) rfl) .nil))) rfl (sU _ _ _ _ (gd_t hx25 hb)))) <|aI rfl rfl (.one rfl) rfl (by decide) (fun hb=>(aL rfl rfl (lb rfl) (svcI rfl hb) (sv (d:=.int _ 0) rfl) rfl hx26)) <|aA rfl (cO rfl rfl (lb rfl) (svB rfl) rfl rfl hx27) <|aA rfl (mvB rfl rfl rfl rfl) <|aI rfl rfl (.one rfl) rfl (by decide) (fun hb=>(lra q5 la32 rfl rfl rfl rfl rfl (nle rfl) rfl)) <|aI rfl rfl (.one rfl) rfl (by decide) (fun hb=>(aX (r:=.slice _ _) rfl rfl (lb rfl) cl22 (.cons (svcA (v0 x1.1) rfl hb) (.cons (sv (d:=.int _ 1) rfl) .nil)) rfl (rS _ _ _ (gd_t hx28 hb)))) <|aI rfl rfl (.one rfl) rfl (by decide) (fun hb=>(zH (eInt .i64) ([3] : (List Int)) rfl rfl (lb rfl) Try.underlying23 ti3 (.cons (sv (d:=.int _ 3) rfl) .nil) rfl rfl (by decide))) <|aI rfl rfl (.one rfl) rfl (by decide) (fun hb=>(aX (r:=.bool _) rfl rfl (lb rfl) cl21 (.cons (svcL rfl hb) (.cons (svcL rfl hb) .nil)) rfl (kW _ _ _ (gd_t hx29 hb)))) <|aA rfl (cO rfl rfl (lb rfl) (svB rfl) rfl rfl hx30) <|aA rfl (mvB rfl rfl rfl rfl) <|aI rfl rfl (.one rfl) rfl (by decide) (fun hb=>(lra q5 la32 rfl rfl rfl rfl rfl (nle rfl) rfl)) <|aI rfl rfl (.one rfl) rfl (by decide) (fun hb=>(aX (r:=.slice _ _) rfl rfl (lb rfl) cl22 (.cons (svcA (v0 x1.1) rfl hb) (.cons (sv (d:=.int _ 0) rfl) .nil)) rfl (rS _ _ _ (gd_t hx31 hb)))) <|aI rfl rfl (.one rfl) rfl (by decide) (fun hb=>(zH (eInt .i64) ([1,3,5] : (List Int)) rfl rfl (lb rfl) Try.underlying23 ti3 (.cons (sv (d:=.int _ 1) rfl) (.cons (sv (d:=.int _ 3) rfl) (.cons (sv (d:=.int _ 5) rfl) .nil))) rfl rfl (by decide))) <|aI rfl rfl (.one rfl) rfl (by decide) (fun hb=>(aX (r:=.bool _) rfl rfl (lb rfl) cl21 (.cons (svcL rfl hb) (.cons (svcL rfl hb) .nil)) rfl (kW _ _ _ (gd_t hx32 hb)))) <|aA rfl (cO rfl rfl (lb rfl) (svB rfl) rfl rfl hx33) <|aA rfl (mvB rfl rfl rfl rfl) <|aI rfl rfl (.one rfl) rfl (by decide) (fun hb=>(lra q5 la32 rfl rfl rfl rfl rfl (nle rfl) rfl)) <|aI rfl rfl (.one rfl) rfl (by decide) (fun hb=>(aX (r:=.int _ _) rfl rfl (lb rfl) cl24 (.cons (svcA (v0 x1.1) rfl hb) (.cons (sv (d:=.int _ 0) rfl) .nil)) rfl (xR _ _ _ (gd_t hx34 hb)))) <|aI rfl rfl (.one rfl) rfl (by decide) (fun hb=>(aL rfl rfl (lb rfl) (svcI rfl hb) (sv (d:=.int _ 18) rfl) rfl hx35)) <|aA rfl (cO rfl rfl (lb rfl) (svB rfl) rfl rfl hx36) <|aA rfl (mvB rfl rfl rfl rfl) <|aI rfl rfl (.one rfl) rfl (by decide) (fun hb=>(lra q5 la32 rfl rfl rfl rfl rfl (nle rfl) rfl)) <|aI rfl rfl (.one rfl) rfl (by decide) (fun hb=>(aX (r:=.int _ _) rfl rfl (lb rfl) cl14 (.cons (svcA (v0 x1.1) rfl hb) .nil) rfl (lI _ _ (gd_t hx37 hb)))) <|aI rfl rfl (.one rfl) rfl (by decide) (fun hb=>(aL rfl rfl (lb rfl) (svcI rfl hb) (sv (d:=.int _ 0) rfl) rfl hx38)) <|aA rfl (cO rfl rfl (lb rfl) (svB rfl) rfl rfl hx39) <|aA rfl (mvB rfl rfl rfl rfl) <|aI rfl rfl (.one rfl) rfl (by decide) (fun hb=>(wJ (d':=.agg (w16 0 0 ([] : List aF) ([] : List Int))) (dN (cs:=q11) rfl rfl (lb rfl) Try.underlying32 ti32 pl32 rfl .nil rfl) (.agg (.k (.k (.cons (.nils _) (.cons (.nils _) .nil))))))) <|aI rfl rfl (.one rfl) rfl (by decide) (fun hb=>(aX (r:=.int _ _) rfl rfl (lb rfl) cl14 (.cons (svc (d:=.agg (w16 0 0 ([] : List aF) ([] : List Int))) rfl hb) .nil) rfl (lI _ _ (gd_t hx40 hb)))) <|aI rfl rfl (.one rfl) rfl (by decide) (fun hb=>(aL rfl rfl (lb rfl) (svcI rfl hb) (sv (d:=.int _ 8) rfl) rfl hx41)) <|aA rfl (cO rfl rfl (lb rfl) (svB rfl) rfl rfl hx42) <|aA rfl (mvB rfl rfl rfl rfl) <|aI rfl rfl (.one rfl) rfl (by decide) (fun hb=>(lra q5 la32 rfl rfl rfl rfl rfl (nle rfl) rfl)) <|aI rfl rfl (.one rfl) rfl (by decide) (fun hb=>(wJ (d':=.agg (w16 0 0 ([] : List aF) ([] : List Int))) (dN (cs:=q11) rfl rfl (lb rfl) Try.underlying32 ti32 pl32 rfl .nil rfl) (.agg (.k (.k (.cons (.nils _) (.cons (.nils _) .nil))))))) <|aI rfl rfl (.one rfl) rfl (by decide) (fun hb=>(aX (r:=.bool _) rfl rfl (lb rfl) cl16 (.cons (svcA (v0 x1.1) rfl hb) (.cons (svc (d:=.agg (w16 0 0 ([] : List aF) ([] : List Int))) rfl hb) .nil)) rfl (pV _ _ _ (gd_t hx43 hb)))) <|aI rfl rfl (.one rfl) rfl (by decide) (fun hb=>(iB rfl rfl (lb rfl) (svcB rfl hb))) <|aA rfl (cO rfl rfl (lb rfl) (svB rfl) rfl rfl hx44) <|aA rfl (mvB rfl rfl rfl rfl) <|aI rfl rfl (.one rfl) rfl (by decide) (fun hb=>(lra q5 la32 rfl rfl rfl rfl rfl (nle rfl) rfl)) <|aI rfl rfl (.one rfl) rfl (by decide) (fun hb=>(lra q5 la32 rfl rfl rfl rfl rfl (nle rfl) rfl)) <|aI rfl rfl (.one rfl) rfl (by decide) (fun hb=>(aX (r:=.bool _) rfl rfl (lb rfl) cl16 (.cons (svcA (v0 x1.1) rfl hb) (.cons (svcA (v0 x1.1) rfl hb) .nil)) rfl (pV _ _ _ (gd_t hx45 hb)))) <|aA rfl (cO rfl rfl (lb rfl) (svB rfl) rfl rfl hx46) <|aA rfl (mvB rfl rfl rfl rfl) <|aA rfl (qN rfl rfl (lb rfl) (svB rfl) rfl rfl hx47) <|aA rfl (mvB rfl rfl rfl rfl) <|aA rfl (qN rfl rfl (lb rfl) (svB rfl) rfl rfl hx48) <|aA rfl (mvB rfl rfl rfl rfl) <|aA rfl (qN rfl rfl (lb rfl) (svB rfl) rfl rfl hx49) <|aA rfl (asB rfl rfl rfl rfl) <|aD ?_)
  refine aW ?_
  obtain rfl:=Option.some.inj h
  refine ⟨.inr rfl,(.cons (sv rfl) .nil)⟩

theorem oD (a0 : aK) (r : aK) (h : lF a0 = some r) : dP Try.prog 9 [.agg (v0 a0)] (.agg (v0 r)):=by
 refine mP (rs:=[.agg (v0 r)]) Try.func9 rfl Try.ntmps9 (nle rfl) rfl fun O hO=>?_
 show IWP _ _ _ _ ⟨[(0,.agg (v0 a0))],[]⟩ _
 unfold lF at h
 refine aC (aA rfl (cK (cs:=q5) 0 rfl rfl (lb rfl) rfl (svA q5 rfl) rfl rfl) <|aA rfl (bX (cs:=q11) (cs':=[.int .i64 0,.int .i64 0,.nils,.nils]) 1 rfl rfl (lb rfl) rfl ti32 rfl rfl (.all _)) <|aD ?_)
 refine aC (aA rfl (faR 0 rfl rfl rfl Try.underlying25 rfl ti3 (lb rfl) rfl rfl) <|aA rfl (aH (d:=.int _ _) rfl rfl (lb rfl) Try.underlying3 ag3 ti3 (by decide) (svR rfl) rfl (nle rfl) rfl) <|aA rfl (faR 1 rfl rfl rfl Try.underlying25 rfl ti3 (lb rfl) rfl rfl) <|aA rfl (aH (d:=.int _ _) rfl rfl (lb rfl) Try.underlying3 ag3 ti3 (by decide) (svR rfl) rfl (nle rfl) rfl) <|aA rfl (faR 3 rfl rfl rfl Try.underlying25 rfl ti23 (lb rfl) rfl rfl) <|aA rfl (lrL la23 rfl rfl rfl rfl rfl (nle rfl) rfl) <|aA rfl (dN (cs:=q10) rfl rfl (lb rfl) Try.underlying32 ti32 pl32 rfl (.cons (svI rfl) (.cons (svI rfl) (.cons (svL rfl) .nil))) rfl) <|aA rfl (bX (cs:=q11) (cs':=[.int .i64 0,.int .i64 0,.nils,.nils]) 2 rfl rfl (lb rfl) rfl ti32 rfl rfl (.all _)) <|aA rfl (stA q10 q10 ti32 rfl rfl rfl rfl rfl rfl rfl rfl (nle rfl) rfl) <|aD ?_)
 refine aS ?_
 refine aC (aA rfl (aG rfl rfl (lb rfl) (sv (d:=.int _ 0) rfl)) <|aD ?_)
 refine aV ?_
 refine bO (α:=Nat × Int × (List aF)) (fun z=>⟨[(1,.ref 0 0),(2,.ref 1 0),(3,.ref 2 0),(4,.int .i64 z.2.1)],[(0,.blk 25 (v0 a0)),(1,.blk 32 [.int .i64 0,.int .i64 0,.nils,.nils]),(2,.blk 32 [.int .i64 a0.Room,.int .i64 a0.Keep,.gsl 24 aB.sz (z.2.2.map aB.d),.slice false (a0.Ended.map (eInt .i64).d)]),(24,.tail 56 aB.sz z.2.2.length)]⟩) (fun z=>gO a0 z.1 z.2.1 z.2.2 = some r) (fun z=>z.1) (fuel,0,([] : (List aF))) (fun i=>if i = 24 then 77 else i) ⟨(.sames rfl rfl),(.cons (.blk rfl rfl rfl) (.cons (.blk rfl rfl rfl) (.cons (.sub rfl (.same (.same (.nilg (.same .nil)))) rfl) (.cons (.nils rfl) .nil)))),bE [0,1,2,77] rfl (by decide),(fun i hi=>by first | rfl | (show (if _ then _ else _) = _; (repeat' split) <;> omega))⟩ ?_ ?_
 ·exact h
 ·
  rintro ⟨n0,v6,v7⟩ h
  cases n0 with
  | zero=>exact absurd h (by unfold gO; exact nofun)
  | succ n0 =>
   unfold gO at h
   refine aS ?_
   obtain ⟨x13,hx13,h⟩:=aN h
   refine aC (aA rfl (mvI rfl rfl rfl rfl) <|aA rfl (faR 2 rfl rfl rfl Try.underlying25 rfl ti22 (lb rfl) rfl rfl) <|aA rfl (lrL la22 rfl rfl rfl rfl rfl (nle rfl) rfl) <|aA rfl (cG aB (l:=a0.Nodes) rfl rfl (lb rfl) Try.underlying22 (svL rfl)) <|aA rfl (aL rfl rfl (lb rfl) (svI rfl) (svI rfl) rfl hx13) <|aD ?_)
   refine aP (b:=_) rfl (fun hc14=>?_) (fun hc14=>?_)
   ·
    replace h:=bP h hc14
    refine aT ?_
    refine aJ ?_
    refine aS ?_
    refine aV ?_
    obtain ⟨x15,hx15,h⟩:=aO h
    obtain ⟨x16,hx16,h⟩:=aO h
    refine lM rfl [⟨[3],[],[(19,.ref 2 2)],[]⟩,
     ⟨[19],[2],[(20,.gsl 24 aB.sz (v7.map aB.d))],[]⟩,
     ⟨[1],[],[(21,.ref 0 2)],[]⟩,
     ⟨[21],[0],[(22,.slice false (a0.Nodes.map aB.d))],[]⟩,
     ⟨[4],[],[(23,.int .i64 v6)],[]⟩,
     ⟨[22,23],[],[(24,.fptr (v3 x15))],[]⟩,
     ⟨[24],[],[(25,.agg (v3 x15))],[]⟩,
     ⟨[25],[25],[(26,.gsl 25 aB.sz (([x15] : (List aF)).map aB.d))],[(25,.tail 56 aB.sz ([x15] : (List aF)).length)]⟩,
     ⟨[20,26],[24,26],[(27,.gsl 26 aB.sz (x16.map aB.d))],[(26,.tail 56 aB.sz x16.length),(24,.none)]⟩,
     ⟨[3],[],[(28,.ref 2 2)],[]⟩,
     ⟨[27,28],[2],[],[(2,.blk 32 [.int .i64 a0.Room,.int .i64 a0.Keep,.gsl 26 aB.sz (x16.map aB.d),.slice false (a0.Ended.map (eInt .i64).d)])]⟩] rfl ?_ (by kernel_rfl) ?_
    ·refine .cons (lop rfl rfl fun S hA=>(aR rfl rfl (lb rfl) Try.underlying32 rfl ti30 (by decide) (svaR hA rfl rfl) (off':=2) rfl)) ?_
     refine .cons (lop rfl rfl fun S hA=>(aH (d:=.gsl _ _ _) rfl rfl (lb rfl) Try.underlying30 ag30 ti30 (by decide) (svaR hA rfl rfl) (agi hA rfl rfl) (nle rfl) rfl)) ?_
     refine .cons (lop rfl rfl fun S hA=>(aR rfl rfl (lb rfl) Try.underlying25 rfl ti22 (by decide) (svaR hA rfl rfl) (off':=2) rfl)) ?_
     refine .cons (lop rfl rfl fun S hA=>(aH (d:=.slice _ _) rfl rfl (lb rfl) Try.underlying22 ag22 ti22 (by decide) (svaR hA rfl rfl) (agi hA rfl rfl) (nle rfl) rfl)) ?_
     refine .cons (lop rfl rfl fun S hA=>(aE rfl rfl (lb rfl) (svaI hA rfl rfl))) ?_
     refine .cons (lop rfl rfl fun S hA=>(bW aB (cs:=q9) rfl rfl (lb rfl) Try.underlying22 ti63 (svaL hA rfl rfl) (svaI hA rfl rfl) hx15 rfl rfl)) ?_
     refine .cons (lop rfl rfl fun S hA=>(eH (cs:=q9) rfl rfl (lb rfl) Try.underlying63 ag63 ti63 (by decide) (sv (d:=.fptr q9) (agr hA rfl rfl)) (nle rfl) rfl)) ?_
     refine .cons (lop rfl rfl fun S hA=>(nU aB ([x15] : (List aF)) 25 rfl rfl (lb rfl) Try.underlying30 ti56 (agi hA rfl rfl) (.cons (svaA q9 hA rfl rfl) .nil) rfl rfl (by decide))) ?_
     refine .cons (lop rfl rfl fun S hA=>(mY aB 26 rfl rfl (lb rfl) Try.underlying30 ti56 rfl (agr hA rfl rfl) (agi hA rfl rfl) (agi hA rfl rfl) (svg (agr hA rfl rfl)) hx16)) ?_
     refine .cons (lop rfl rfl fun S hA=>(aR rfl rfl (lb rfl) Try.underlying32 rfl ti30 (by decide) (svaR hA rfl rfl) (off':=2) rfl)) ?_
     refine .cons (lop rfl rfl fun S hA=>(cV (ds':=q8) rfl rfl ti30 (svaR hA rfl rfl) (agi hA rfl rfl) (sv (d:=.gsl _ _ _) (agr hA rfl rfl)) rfl rfl rfl (nle rfl) rfl)) ?_
     exact .nil
    refine bJ ?_
    refine aJ ?_
    obtain ⟨x17,hx17,h⟩:=aN h
    refine aU (aA rfl (mvI rfl rfl rfl rfl) <|aA rfl (aQ rfl rfl (lb rfl) (svI rfl) (sv (d:=.int _ 1) rfl) rfl hx17) <|aA rfl (asI rfl rfl rfl rfl) <|bI ?_)
    refine aJ ⟨(n0,x17,x16),(fun i=>if i = 24 then 26 else i),⟨(.sames rfl rfl),(.cons (.blk rfl rfl rfl) (.cons (.blk rfl rfl rfl) (.cons (.blk rfl rfl rfl) (.cons (.tail rfl) .nil)))),bE [0,1,2,26] rfl (by decide),(fun i hi=>by first | rfl | (show (if _ then _ else _) = _; (repeat' split) <;> omega))⟩,?_,?_⟩
    exact h
    exact Nat.lt_succ_self _
   ·
    replace h:=bQ h hc14
    refine bY ?_
    refine bB ?_
    refine bB ?_
    refine bZ ?_
    refine aJ ?_
    refine aC (aA rfl (lra q8 la32 rfl rfl rfl rfl rfl (nle rfl) rfl) <|aA rfl (stA q8 q8 ti32 rfl rfl rfl rfl rfl rfl rfl rfl (nle rfl) rfl) <|aD ?_)
    refine aW ?_
    obtain rfl:=Option.some.inj h
    refine ⟨.inr rfl,_,(.cons (rva la32 rfl rfl (nle rfl) rfl) .nil),(.cons (.agg (.k (.k (.cons (.gsl _ _ _) (.all _))))) .nil)⟩

theorem nM (a0 : aK) (r : aM) (h : kO a0 = some r) : dP Try.prog 32 [.agg (v0 a0)] (.agg (v1 r)):=by
 refine bG (rs:=[.agg (v1 r)]) Try.func32 rfl Try.ntmps32 (nle rfl) rfl fun O hO=>?_
 show IWP _ _ _ _ ⟨[(0,.agg (v0 a0))],[]⟩ _
 unfold kO at h
 refine aC (aA rfl (cK (cs:=q5) 0 rfl rfl (lb rfl) rfl (svA q5 rfl) rfl rfl) <|aA rfl (bX (cs:=q11) (cs':=(w16 0 0 ([] : List aF) ([] : List Int))) 1 rfl rfl (lb rfl) rfl ti71 rfl rfl (.k (.k (.cons (.nils _) (.cons (.nils _) .nil))))) <|aD ?_)
 refine aC (aA rfl (faR 0 rfl rfl rfl Try.underlying25 rfl ti3 (lb rfl) rfl rfl) <|aA rfl (aH (d:=.int _ _) rfl rfl (lb rfl) Try.underlying3 ag3 ti3 (by decide) (svR rfl) rfl (nle rfl) rfl) <|aA rfl (faR 1 rfl rfl rfl Try.underlying25 rfl ti3 (lb rfl) rfl rfl) <|aA rfl (aH (d:=.int _ _) rfl rfl (lb rfl) Try.underlying3 ag3 ti3 (by decide) (svR rfl) rfl (nle rfl) rfl) <|aA rfl (faR 2 rfl rfl rfl Try.underlying25 rfl ti22 (lb rfl) rfl rfl) <|aA rfl (lrL la22 rfl rfl rfl rfl rfl (nle rfl) rfl) <|aA rfl (faR 3 rfl rfl rfl Try.underlying25 rfl ti23 (lb rfl) rfl rfl) <|aA rfl (lrL la23 rfl rfl rfl rfl rfl (nle rfl) rfl) <|aA rfl (dN (cs:=q5) rfl rfl (lb rfl) Try.underlying71 ti71 pl71 rfl (.cons (svI rfl) (.cons (svI rfl) (.cons (svL rfl) (.cons (svL rfl) .nil)))) rfl) <|aA rfl (stA q5 q5 ti71 rfl rfl rfl rfl rfl rfl rfl rfl (nle rfl) rfl) <|aD ?_)
 refine aW ?_
 obtain rfl:=Option.some.inj h
 refine ⟨.inr rfl,(.cons (rva la71 rfl rfl (nle rfl) rfl) .nil)⟩

theorem pC (a0 : aK) (r : Bool) (h : jJ a0 = some r) : dP Try.prog 44 [.agg (v0 a0)] (.bool r):=by
 refine bG (rs:=[.bool r]) Try.func44 rfl Try.ntmps44 (nle rfl) rfl fun O hO=>?_
 show IWP _ _ _ _ ⟨[(0,.agg (v0 a0))],[]⟩ _
 unfold jJ at h
 refine aC (aA rfl (cK (cs:=q5) 0 rfl rfl (lb rfl) rfl (svA q5 rfl) rfl rfl) <|aA rfl (aG rfl rfl (lb rfl) (sv (d:=.bool false) rfl)) <|aD ?_)
 refine aS ?_
 obtain ⟨x1,hx1,h⟩:=aN h
 obtain ⟨x2,hx2,h⟩:=aN h
 obtain ⟨x3,hx3,h⟩:=aN h
 obtain ⟨x4,hx4,h⟩:=aN h
 obtain ⟨x5,hx5,h⟩:=aN h
 obtain ⟨x6,hx6,h⟩:=aN h
 obtain ⟨x7,hx7,h⟩:=aN h
 refine aC (aA rfl (faR 0 rfl rfl rfl Try.underlying25 rfl ti3 (lb rfl) rfl rfl) <|aA rfl (aH (d:=.int _ _) rfl rfl (lb rfl) Try.underlying3 ag3 ti3 (by decide) (svR rfl) rfl (nle rfl) rfl) <|aA rfl (aL rfl rfl (lb rfl) (svI rfl) (sv (d:=.int _ 1) rfl) rfl hx1) <|aA rfl (mvB rfl rfl rfl rfl) <|aI rfl rfl (.one rfl) rfl (by decide) (fun hb=>(faR 0 rfl rfl rfl Try.underlying25 rfl ti3 (lb rfl) rfl rfl)) <|aI rfl rfl (.one rfl) rfl (by decide) (fun hb=>(aH (d:=.int _ _) rfl rfl (lb rfl) Try.underlying3 ag3 ti3 (by decide) (svcR rfl hb) rfl (nle rfl) rfl)) <|aI rfl rfl (.one rfl) rfl (by decide) (fun hb=>(aL rfl rfl (lb rfl) (svcI rfl hb) (sv (d:=.int _ 24) rfl) rfl hx2)) <|aA rfl (iJ rfl rfl (lb rfl) (svB rfl) rfl rfl hx3) <|aA rfl (mvB rfl rfl rfl rfl) <|aI rfl rfl (.one rfl) rfl (by decide) (fun hb=>(faR 1 rfl rfl rfl Try.underlying25 rfl ti3 (lb rfl) rfl rfl)) <|aI rfl rfl (.one rfl) rfl (by decide) (fun hb=>(aH (d:=.int _ _) rfl rfl (lb rfl) Try.underlying3 ag3 ti3 (by decide) (svcR rfl hb) rfl (nle rfl) rfl)) <|aI rfl rfl (.one rfl) rfl (by decide) (fun hb=>(aL rfl rfl (lb rfl) (svcI rfl hb) (sv (d:=.int _ 0) rfl) rfl hx4)) <|aA rfl (iJ rfl rfl (lb rfl) (svB rfl) rfl rfl hx5) <|aA rfl (mvB rfl rfl rfl rfl) <|aI rfl rfl (.one rfl) rfl (by decide) (fun hb=>(faR 1 rfl rfl rfl Try.underlying25 rfl ti3 (lb rfl) rfl rfl)) <|aI rfl rfl (.one rfl) rfl (by decide) (fun hb=>(aH (d:=.int _ _) rfl rfl (lb rfl) Try.underlying3 ag3 ti3 (by decide) (svcR rfl hb) rfl (nle rfl) rfl)) <|aI rfl rfl (.one rfl) rfl (by decide) (fun hb=>(faR 0 rfl rfl rfl Try.underlying25 rfl ti3 (lb rfl) rfl rfl)) <|aI rfl rfl (.one rfl) rfl (by decide) (fun hb=>(aH (d:=.int _ _) rfl rfl (lb rfl) Try.underlying3 ag3 ti3 (by decide) (svcR rfl hb) rfl (nle rfl) rfl)) <|aI rfl rfl (.one rfl) rfl (by decide) (fun hb=>(aL rfl rfl (lb rfl) (svcI rfl hb) (svcI rfl hb) rfl hx6)) <|aA rfl (iJ rfl rfl (lb rfl) (svB rfl) rfl rfl hx7) <|aD ?_)
 refine aP (b:=_) rfl (fun hc8=>?_) (fun hc8=>?_)
 ·
  replace h:=bP h hc8
  refine aC (aA rfl (aG rfl rfl (lb rfl) (sv (d:=.bool false) rfl)) <|aD ?_)
  refine aW ?_
  refine bA ?_
  obtain rfl:=Option.some.inj h
  refine ⟨.inr rfl,(.cons (sv rfl) .nil)⟩
 ·
  replace h:=bQ h hc8
  refine aT ?_
  refine aJ ?_
  refine aS ?_
  refine aC (aA rfl (aG rfl rfl (lb rfl) (sv (d:=.int _ 0) rfl)) <|aD ?_)
  refine aV ?_
  refine bO (α:=Nat × Int) (fun z=>⟨[(1,.ref 0 0),(3,.int .i64 z.2)],[(0,.blk 25 (v0 a0))]⟩) (fun z=>fB a0 z.1 z.2 = some r) (fun z=>z.1) (fuel,0) (fun i=>i) ⟨(.sames rfl rfl),(.cons (.blk rfl rfl rfl) .nil),bE [0] rfl (by decide),fun _ _=>rfl⟩ ?_ ?_
  ·exact h
  ·
   rintro ⟨n0,v21⟩ h
   cases n0 with
   | zero=>exact absurd h (by unfold fB; exact nofun)
   | succ n0 =>
    unfold fB at h
    refine aS ?_
    obtain ⟨x34,hx34,h⟩:=aN h
    refine aC (aA rfl (mvI rfl rfl rfl rfl) <|aA rfl (faR 2 rfl rfl rfl Try.underlying25 rfl ti22 (lb rfl) rfl rfl) <|aA rfl (lrL la22 rfl rfl rfl rfl rfl (nle rfl) rfl) <|aA rfl (cG aB (l:=a0.Nodes) rfl rfl (lb rfl) Try.underlying22 (svL rfl)) <|aA rfl (aL rfl rfl (lb rfl) (svI rfl) (svI rfl) rfl hx34) <|aD ?_)
    refine aP (b:=_) rfl (fun hc35=>?_) (fun hc35=>?_)
    ·
     replace h:=bP h hc35
     refine aT ?_
     refine aJ ?_
     refine aS ?_
     refine aV ?_
     obtain ⟨x36,hx36,h⟩:=aO h
     refine aC (aA rfl (faR 2 rfl rfl rfl Try.underlying25 rfl ti22 (lb rfl) rfl rfl) <|aA rfl (lrL la22 rfl rfl rfl rfl rfl (nle rfl) rfl) <|aA rfl (mvI rfl rfl rfl rfl) <|aA rfl (bW aB (cs:=q9) rfl rfl (lb rfl) Try.underlying22 ti63 (svL rfl) (svI rfl) hx36 rfl rfl) <|aA rfl (eH (cs:=q9) rfl rfl (lb rfl) Try.underlying63 ag63 ti63 (by decide) (sv (d:=.fptr q9) rfl) (nle rfl) rfl) <|aA rfl (bX (cs:=q9) (cs':=(w18 0 0 0 false)) 1 rfl rfl (lb rfl) rfl ti63 rfl rfl (.all _)) <|aA rfl (stA q9 q9 ti63 rfl rfl rfl rfl rfl rfl rfl rfl (nle rfl) rfl) <|aD ?_)
     obtain ⟨x37,hx37,h⟩:=aN h
     obtain ⟨x38,hx38,h⟩:=aN h
     obtain ⟨x39,hx39,h⟩:=aN h
     obtain ⟨x40,hx40,h⟩:=aN h
     obtain ⟨x41,hx41,h⟩:=aN h
     obtain ⟨x42,hx42,h⟩:=aN h
     obtain ⟨x43,hx43,h⟩:=aN h
     refine aC (aA rfl (faR 0 rfl rfl rfl Try.underlying63 rfl ti3 (lb rfl) rfl rfl) <|aA rfl (aH (d:=.int _ _) rfl rfl (lb rfl) Try.underlying3 ag3 ti3 (by decide) (svR rfl) rfl (nle rfl) rfl) <|aA rfl (aL rfl rfl (lb rfl) (svI rfl) (sv (d:=.int _ 1) rfl) rfl hx37) <|aA rfl (mvB rfl rfl rfl rfl) <|aI rfl rfl (.one rfl) rfl (by decide) (fun hb=>(faR 0 rfl rfl rfl Try.underlying63 rfl ti3 (lb rfl) rfl rfl)) <|aI rfl rfl (.one rfl) rfl (by decide) (fun hb=>(aH (d:=.int _ _) rfl rfl (lb rfl) Try.underlying3 ag3 ti3 (by decide) (svcR rfl hb) rfl (nle rfl) rfl)) <|aI rfl rfl (.one rfl) rfl (by decide) (fun hb=>(aL rfl rfl (lb rfl) (svcI rfl hb) (sv (d:=.int _ 1048576) rfl) rfl hx38)) <|aA rfl (iJ rfl rfl (lb rfl) (svB rfl) rfl rfl hx39) <|aA rfl (mvB rfl rfl rfl rfl) <|aI rfl rfl (.one rfl) rfl (by decide) (fun hb=>(faR 2 rfl rfl rfl Try.underlying63 rfl ti3 (lb rfl) rfl rfl)) <|aI rfl rfl (.one rfl) rfl (by decide) (fun hb=>(aH (d:=.int _ _) rfl rfl (lb rfl) Try.underlying3 ag3 ti3 (by decide) (svcR rfl hb) rfl (nle rfl) rfl)) <|aI rfl rfl (.one rfl) rfl (by decide) (fun hb=>(aL rfl rfl (lb rfl) (svcI rfl hb) (sv (d:=.int _ 1) rfl) rfl hx40)) <|aA rfl (iJ rfl rfl (lb rfl) (svB rfl) rfl rfl hx41) <|aA rfl (mvB rfl rfl rfl rfl) <|aI rfl rfl (.one rfl) rfl (by decide) (fun hb=>(faR 2 rfl rfl rfl Try.underlying63 rfl ti3 (lb rfl) rfl rfl)) <|aI rfl rfl (.one rfl) rfl (by decide) (fun hb=>(aH (d:=.int _ _) rfl rfl (lb rfl) Try.underlying3 ag3 ti3 (by decide) (svcR rfl hb) rfl (nle rfl) rfl)) <|aI rfl rfl (.one rfl) rfl (by decide) (fun hb=>(aL rfl rfl (lb rfl) (svcI rfl hb) (sv (d:=.int _ 256) rfl) rfl hx42)) <|aA rfl (iJ rfl rfl (lb rfl) (svB rfl) rfl rfl hx43) <|aD ?_)
     refine aP (b:=_) rfl (fun hc44=>?_) (fun hc44=>?_)
     ·
      replace h:=bP h hc44
      refine aC (aA rfl (aG rfl rfl (lb rfl) (sv (d:=.bool false) rfl)) <|aD ?_)
      refine aW ?_
      refine bN ?_
      refine bA ?_
      refine bA ?_
      refine bN ?_
      refine bA ?_
      obtain rfl:=Option.some.inj h
      refine ⟨.inr rfl,(.cons (sv rfl) .nil)⟩
     ·
      replace h:=bQ h hc44
      refine aT ?_
      refine bJ ?_
      refine aJ ?_
      obtain ⟨x45,hx45,h⟩:=aN h
      refine aU (aA rfl (mvI rfl rfl rfl rfl) <|aA rfl (aQ rfl rfl (lb rfl) (svI rfl) (sv (d:=.int _ 1) rfl) rfl hx45) <|aA rfl (asI rfl rfl rfl rfl) <|bI ?_)
      refine aJ ⟨(n0,x45),(fun i=>i),⟨(.sames rfl rfl),(.cons (.blk rfl rfl rfl) .nil),bE [0] rfl (by decide),fun _ _=>rfl⟩,?_,?_⟩
      exact h
      exact Nat.lt_succ_self _
    ·
     replace h:=bQ h hc35
     refine bY ?_
     refine bB ?_
     refine bB ?_
     refine bZ ?_
     refine aJ ?_
     refine aC (aA rfl (aG rfl rfl (lb rfl) (sv (d:=.bool true) rfl)) <|aD ?_)
     refine aW ?_
     obtain rfl:=Option.some.inj h
     refine ⟨.inr rfl,(.cons (sv rfl) .nil)⟩

theorem bT (a0 : aM) (a1 : Int) (r : Int) (h : bK a0 a1 = some r) : dP Try.prog 45 [.agg (v1 a0),.int .i64 a1] (.int .i64 r):=by
 refine bG (rs:=[.int .i64 r]) Try.func45 rfl Try.ntmps45 (nle rfl) rfl fun O hO=>?_
 show IWP _ _ _ _ ⟨[(0,.agg (v1 a0)),(1,.int .i64 a1)],[]⟩ _
 unfold bK at h
 refine aC (aA rfl (cK (cs:=q5) 0 rfl rfl (lb rfl) rfl (svA q5 rfl) rfl rfl) <|aA rfl (aG rfl rfl (lb rfl) (sv (d:=.int _ 0) rfl)) <|aD ?_)
 refine aS ?_
 refine aC (aA rfl (aG rfl rfl (lb rfl) (sv (d:=.int _ 0) rfl)) <|aD ?_)
 refine aV ?_
 refine bO (α:=Nat × Int) (fun z=>⟨[(1,.int .i64 a1),(2,.ref 0 0),(5,.int .i64 z.2)],[(0,.blk 71 (v1 a0))]⟩) (fun z=>cS a0 a1 z.1 z.2 = some r) (fun z=>z.1) (fuel,0) (fun i=>i) ⟨(.sames rfl rfl),(.cons (.blk rfl rfl rfl) .nil),bE [0] rfl (by decide),fun _ _=>rfl⟩ ?_ ?_
 ·exact h
 ·
  rintro ⟨n0,v7⟩ h
  cases n0 with
  | zero=>exact absurd h (by unfold cS; exact nofun)
  | succ n0 =>
   unfold cS at h
   refine aS ?_
   obtain ⟨x14,hx14,h⟩:=aN h
   refine aC (aA rfl (mvI rfl rfl rfl rfl) <|aA rfl (faR 2 rfl rfl rfl Try.underlying71 rfl ti22 (lb rfl) rfl rfl) <|aA rfl (lrL la22 rfl rfl rfl rfl rfl (nle rfl) rfl) <|aA rfl (cG aB (l:=a0.L) rfl rfl (lb rfl) Try.underlying22 (svL rfl)) <|aA rfl (aL rfl rfl (lb rfl) (svI rfl) (svI rfl) rfl hx14) <|aD ?_)
   refine aP (b:=_) rfl (fun hc15=>?_) (fun hc15=>?_)
   ·
    replace h:=bP h hc15
    refine aT ?_
    refine aJ ?_
    refine aS ?_
    refine aV ?_
    obtain ⟨x16,hx16,h⟩:=aO h
    obtain ⟨x17,hx17,h⟩:=aN h
    refine aC (aA rfl (faR 2 rfl rfl rfl Try.underlying71 rfl ti22 (lb rfl) rfl rfl) <|aA rfl (lrL la22 rfl rfl rfl rfl rfl (nle rfl) rfl) <|aA rfl (mvI rfl rfl rfl rfl) <|aA rfl (bW aB (cs:=q9) rfl rfl (lb rfl) Try.underlying22 ti63 (svL rfl) (svI rfl) hx16 rfl rfl) <|aA rfl (bV (cs':=[.int _ _]) rfl rfl (lb rfl) Try.underlying63 rfl ti3 (by decide) (sv (d:=.fptr q9) rfl) rfl) <|aA rfl (bU rfl rfl (lb rfl) Try.underlying3 ag3 ti3 (by decide) (sv (d:=.fptr [.int _ _]) rfl) (nle rfl)) <|aA rfl (mvI rfl rfl rfl rfl) <|aA rfl (aL rfl rfl (lb rfl) (svI rfl) (svI rfl) rfl hx17) <|aD ?_)
    refine aP (b:=_) rfl (fun hc18=>?_) (fun hc18=>?_)
    ·
     replace h:=bP h hc18
     refine aC (aA rfl (mvI rfl rfl rfl rfl) <|aA rfl (asI rfl rfl rfl rfl) <|aD ?_)
     refine aW ?_
     refine bN ?_
     refine bA ?_
     refine bA ?_
     refine bN ?_
     refine bA ?_
     obtain rfl:=Option.some.inj h
     refine ⟨.inr rfl,(.cons (sv rfl) .nil)⟩
    ·
     replace h:=bQ h hc18
     refine aT ?_
     refine bJ ?_
     refine aJ ?_
     obtain ⟨x19,hx19,h⟩:=aN h
     refine aU (aA rfl (mvI rfl rfl rfl rfl) <|aA rfl (aQ rfl rfl (lb rfl) (svI rfl) (sv (d:=.int _ 1) rfl) rfl hx19) <|aA rfl (asI rfl rfl rfl rfl) <|bI ?_)
     refine aJ ⟨(n0,x19),(fun i=>i),⟨(.sames rfl rfl),(.cons (.blk rfl rfl rfl) .nil),bE [0] rfl (by decide),fun _ _=>rfl⟩,?_,?_⟩
     exact h
     exact Nat.lt_succ_self _
   ·
    replace h:=bQ h hc15
    refine bY ?_
    refine bB ?_
    refine bB ?_
    refine bZ ?_
    refine aJ ?_
    refine aC (aA rfl (aG rfl rfl (lb rfl) (sv (d:=.int _ (-1)) rfl)) <|aD ?_)
    refine aW ?_
    obtain rfl:=Option.some.inj h
    refine ⟨.inr rfl,(.cons (sv rfl) .nil)⟩

theorem mB (a0 : aM) (a1 : Int) (r : (List Int)) (h : gB a0 a1 = some r) : dP Try.prog 47 [.agg (v1 a0),.int .i64 a1] (.slice false (r.map (eInt .i64).d)):=by
 refine bG (rs:=[.slice false (r.map (eInt .i64).d)]) Try.func47 rfl Try.ntmps47 (nle rfl) rfl fun O hO=>?_
 show IWP _ _ _ _ ⟨[(0,.agg (v1 a0)),(1,.int .i64 a1)],[]⟩ _
 unfold gB at h
 refine aC (aA rfl (cK (cs:=q5) 0 rfl rfl (lb rfl) rfl (svA q5 rfl) rfl rfl) <|aA rfl (aG rfl rfl (lb rfl) (sv (d:=.nils) rfl)) <|aD ?_)
 refine aC (aA rfl (aG rfl rfl (lb rfl) (sv (d:=.nils) rfl)) <|aD ?_)
 obtain ⟨x1,hx1,h⟩:=aO h
 refine aC (aA rfl (lra q5 la71 rfl rfl rfl rfl rfl (nle rfl) rfl) <|aA rfl (mvI rfl rfl rfl rfl) <|aA rfl (aX (r:=.int _ _) rfl rfl (lb rfl) cl45 (.cons (svA q5 rfl) (.cons (svI rfl) .nil)) rfl (bT _ _ _ hx1)) <|aA rfl (asI rfl rfl rfl rfl) <|aD ?_)
 refine aS ?_
 refine aC (aA rfl (aG rfl rfl (lb rfl) (sv (d:=.int _ 0) rfl)) <|aD ?_)
 refine aV ?_
 refine bO (α:=Nat × (List Int) × Int × Int) (fun z=>⟨[(2,.ref 0 0),(5,.gsl 22 (eInt .i64).sz (z.2.1.map (eInt .i64).d)),(6,.int .i64 z.2.2.1),(7,.int .i64 z.2.2.2)],[(0,.blk 71 (v1 a0)),(22,.tail 3 (eInt .i64).sz z.2.1.length)]⟩) (fun z=>cU a0 z.1 z.2.1 z.2.2.1 z.2.2.2 = some r) (fun z=>z.1) (fuel,([] : (List Int)),x1,0) (fun i=>if i = 22 then 73 else i) ⟨(.s rfl rfl (.cons (.nils rfl) (.sames rfl rfl))),(.cons (.blk rfl rfl rfl) (.cons (.nils rfl) .nil)),bE [0,73] rfl (by decide),(fun i hi=>by first | rfl | (show (if _ then _ else _) = _; (repeat' split) <;> omega))⟩ ?_ ?_
 ·exact h
 ·
  rintro ⟨n0,v16,v17,v18⟩ h
  cases n0 with
  | zero=>exact absurd h (by unfold cU; exact nofun)
  | succ n0 =>
   unfold cU at h
   refine aS ?_
   obtain ⟨x33,hx33,h⟩:=aN h
   obtain ⟨x34,hx34,h⟩:=aN h
   obtain ⟨x35,hx35,h⟩:=aN h
   refine aC (aA rfl (mvI rfl rfl rfl rfl) <|aA rfl (faR 2 rfl rfl rfl Try.underlying71 rfl ti22 (lb rfl) rfl rfl) <|aA rfl (lrL la22 rfl rfl rfl rfl rfl (nle rfl) rfl) <|aA rfl (cG aB (l:=a0.L) rfl rfl (lb rfl) Try.underlying22 (svL rfl)) <|aA rfl (aL rfl rfl (lb rfl) (svI rfl) (svI rfl) rfl hx33) <|aA rfl (mvB rfl rfl rfl rfl) <|aI rfl rfl (.one rfl) rfl (by decide) (fun hb=>(mvI rfl rfl rfl rfl)) <|aI rfl rfl (.one rfl) rfl (by decide) (fun hb=>(aL rfl rfl (lb rfl) (svcI rfl hb) (sv (d:=.int _ 0) rfl) rfl hx34)) <|aA rfl (cO rfl rfl (lb rfl) (svB rfl) rfl rfl hx35) <|aD ?_)
   refine aP (b:=_) rfl (fun hc36=>?_) (fun hc36=>?_)
   ·
    replace h:=bP h hc36
    refine aT ?_
    refine aJ ?_
    refine aS ?_
    refine aV ?_
    obtain ⟨x37,hx37,h⟩:=aO h
    refine aC (aA rfl (faR 2 rfl rfl rfl Try.underlying71 rfl ti22 (lb rfl) rfl rfl) <|aA rfl (lrL la22 rfl rfl rfl rfl rfl (nle rfl) rfl) <|aA rfl (mvI rfl rfl rfl rfl) <|aA rfl (bW aB (cs:=q9) rfl rfl (lb rfl) Try.underlying22 ti63 (svL rfl) (svI rfl) hx37 rfl rfl) <|aA rfl (bV (cs':=[.int _ _]) rfl rfl (lb rfl) Try.underlying63 rfl ti3 (by decide) (sv (d:=.fptr q9) rfl) rfl) <|aA rfl (bU rfl rfl (lb rfl) Try.underlying3 ag3 ti3 (by decide) (sv (d:=.fptr [.int _ _]) rfl) (nle rfl)) <|aA rfl (asI rfl rfl rfl rfl) <|aD ?_)
    refine iA (α:=(List Int)) (fun z=>⟨[(2,.ref 0 0),(5,.gsl 24 (eInt .i64).sz (z.map (eInt .i64).d)),(7,.int .i64 v18),(8,.int .i64 x37.Parent)],[(0,.blk 71 (v1 a0)),(24,.tail 3 (eInt .i64).sz z.length)]⟩) (fun z=>fI a0 v18 (cU a0 n0) x37 z = some r) ?_ ?_
    ·
     obtain ⟨x44,hx44,h⟩:=aN h
     refine aC (aA rfl (mvI rfl rfl rfl rfl) <|aA rfl (aL rfl rfl (lb rfl) (svI rfl) (sv (d:=.int _ 0) rfl) rfl hx44) <|aD ?_)
     refine aP (b:=_) rfl (fun hc45=>?_) (fun hc45=>?_)
     ·
      replace h:=bP h hc45
      obtain ⟨x46,hx46,h⟩:=aO h
      refine aU (aA rfl (aE rfl rfl (lb rfl) (sv (d:=.gsl _ _ _) rfl)) <|aA rfl (mvI rfl rfl rfl rfl) <|aA rfl (nU (eInt .i64) ([x37.Parent] : (List Int)) 23 rfl rfl (lb rfl) Try.underlying23 ti3 rfl (.cons (svI rfl) .nil) rfl rfl (by decide)) <|aA rfl (mY (eInt .i64) 24 rfl rfl (lb rfl) Try.underlying23 ti3 rfl rfl rfl rfl (svg rfl) hx46) <|aA rfl (aG rfl rfl (lb rfl) (sv (d:=.gsl _ _ _) rfl)) <|bI ?_)
      refine aJ ⟨x46,(fun i=>i),⟨(.sames rfl rfl),(.cons (.blk rfl rfl rfl) (.cons (.tail rfl) .nil)),bE [0,24] rfl (by decide),fun _ _=>rfl⟩,?_⟩
      exact h
     ·
      replace h:=bQ h hc45
      refine aT ?_
      refine aJ ⟨v16,(fun i=>if i = 24 then 22 else i),⟨(.sames rfl rfl),(.cons (.blk rfl rfl rfl) (.cons (.tail rfl) .nil)),bE [0,22] rfl (by decide),(fun i hi=>by first | rfl | (show (if _ then _ else _) = _; (repeat' split) <;> omega))⟩,?_⟩
      exact h
    ·
     rintro v41 h
     unfold fI at h
     obtain ⟨x42,hx42,h⟩:=aO h
     refine aU (aA rfl (lra q5 la71 rfl rfl rfl rfl rfl (nle rfl) rfl) <|aA rfl (mvI rfl rfl rfl rfl) <|aA rfl (aX (r:=.int _ _) rfl rfl (lb rfl) cl45 (.cons (svA q5 rfl) (.cons (svI rfl) .nil)) rfl (bT _ _ _ hx42)) <|aA rfl (asI rfl rfl rfl rfl) <|bI ?_)
     refine bJ ?_
     refine aJ ?_
     obtain ⟨x43,hx43,h⟩:=aN h
     refine aU (aA rfl (mvI rfl rfl rfl rfl) <|aA rfl (aQ rfl rfl (lb rfl) (svI rfl) (sv (d:=.int _ 1) rfl) rfl hx43) <|aA rfl (asI rfl rfl rfl rfl) <|bI ?_)
     refine aJ ⟨(n0,v41,x42,x43),(fun i=>if i = 22 then 24 else i),⟨(.sames rfl rfl),(.cons (.blk rfl rfl rfl) (.cons (.tail rfl) .nil)),bE [0,24] rfl (by decide),(fun i hi=>by first | rfl | (show (if _ then _ else _) = _; (repeat' split) <;> omega))⟩,?_,?_⟩
     exact h
     exact Nat.lt_succ_self _
   ·
    replace h:=bQ h hc36
    refine bY ?_
    refine bB ?_
    refine bB ?_
    refine bZ ?_
    refine aJ ?_
    refine aC (aA rfl (aE rfl rfl (lb rfl) (sv (d:=.gsl _ _ _) rfl)) <|aA rfl (aG rfl rfl (lb rfl) (sv (d:=.gsl _ _ _) rfl)) <|aD ?_)
    refine aW ?_
    obtain rfl:=Option.some.inj h
    refine ⟨.inr rfl,(.cons (wU rfl rfl) .nil)⟩

theorem mU (a0 : (List Int)) (a1 : Int) (r : Bool) (h : jV a0 a1 = some r) : dP Try.prog 46 [.slice false (a0.map (eInt .i64).d),.int .i64 a1] (.bool r):=by
 refine bG (rs:=[.bool r]) Try.func46 rfl Try.ntmps46 (nle rfl) rfl fun O hO=>?_
 show IWP _ _ _ _ ⟨[(0,.slice false (a0.map (eInt .i64).d)),(1,.int .i64 a1)],[]⟩ _
 unfold jV at h
 refine aC (aA rfl (aG rfl rfl (lb rfl) (sv (d:=.bool false) rfl)) <|aD ?_)
 refine aS ?_
 refine aC (aA rfl (aG rfl rfl (lb rfl) (sv (d:=.int _ 0) rfl)) <|aD ?_)
 refine aV ?_
 refine bO (α:=Nat × Int) (fun z=>⟨[(0,.slice false (a0.map (eInt .i64).d)),(1,.int .i64 a1),(5,.int .i64 z.2)],[]⟩) (fun z=>gV a0 a1 z.1 z.2 = some r) (fun z=>z.1) (fuel,0) (fun i=>i) ⟨(.sames rfl rfl),.nil,bE [] rfl (by decide),fun _ _=>rfl⟩ ?_ ?_
 ·exact h
 ·
  rintro ⟨n0,v7⟩ h
  cases n0 with
  | zero=>exact absurd h (by unfold gV; exact nofun)
  | succ n0 =>
   unfold gV at h
   refine aS ?_
   obtain ⟨x14,hx14,h⟩:=aN h
   refine aC (aA rfl (mvI rfl rfl rfl rfl) <|aA rfl (mvL rfl rfl rfl rfl) <|aA rfl (cG (eInt .i64) (l:=a0) rfl rfl (lb rfl) Try.underlying23 (svL rfl)) <|aA rfl (aL rfl rfl (lb rfl) (svI rfl) (svI rfl) rfl hx14) <|aD ?_)
   refine aP (b:=_) rfl (fun hc15=>?_) (fun hc15=>?_)
   ·
    replace h:=bP h hc15
    refine aT ?_
    refine aJ ?_
    refine aS ?_
    refine aV ?_
    obtain ⟨x16,hx16,h⟩:=aO h
    obtain ⟨x17,hx17,h⟩:=aN h
    refine aC (aA rfl (mvL rfl rfl rfl rfl) <|aA rfl (mvI rfl rfl rfl rfl) <|aA rfl (bW (eInt .i64) (cs:=[.int _ _]) rfl rfl (lb rfl) Try.underlying23 ti3 (svL rfl) (svI rfl) hx16 rfl rfl) <|aA rfl (bU rfl rfl (lb rfl) Try.underlying3 ag3 ti3 (by decide) (sv (d:=.fptr [.int _ _]) rfl) (nle rfl)) <|aA rfl (mvI rfl rfl rfl rfl) <|aA rfl (aL rfl rfl (lb rfl) (svI rfl) (svI rfl) rfl hx17) <|aD ?_)
    refine aP (b:=_) rfl (fun hc18=>?_) (fun hc18=>?_)
    ·
     replace h:=bP h hc18
     refine aC (aA rfl (aG rfl rfl (lb rfl) (sv (d:=.bool true) rfl)) <|aD ?_)
     refine aW ?_
     refine bN ?_
     refine bA ?_
     refine bA ?_
     refine bN ?_
     refine bA ?_
     obtain rfl:=Option.some.inj h
     refine ⟨.inr rfl,(.cons (sv rfl) .nil)⟩
    ·
     replace h:=bQ h hc18
     refine aT ?_
     refine bJ ?_
     refine aJ ?_
     obtain ⟨x19,hx19,h⟩:=aN h
     refine aU (aA rfl (mvI rfl rfl rfl rfl) <|aA rfl (aQ rfl rfl (lb rfl) (svI rfl) (sv (d:=.int _ 1) rfl) rfl hx19) <|aA rfl (asI rfl rfl rfl rfl) <|bI ?_)
     refine aJ ⟨(n0,x19),(fun i=>i),⟨(.sames rfl rfl),.nil,bE [] rfl (by decide),fun _ _=>rfl⟩,?_,?_⟩
     exact h
     exact Nat.lt_succ_self _
   ·
    replace h:=bQ h hc15
    refine bY ?_
    refine bB ?_
    refine bB ?_
    refine bZ ?_
    refine aJ ?_
    refine aC (aA rfl (aG rfl rfl (lb rfl) (sv (d:=.bool false) rfl)) <|aD ?_)
    refine aW ?_
    obtain rfl:=Option.some.inj h
    refine ⟨.inr rfl,(.cons (sv rfl) .nil)⟩

theorem pN (a0 : aK) (r : Bool) (h : kX a0 = some r) : dP Try.prog 48 [.agg (v0 a0)] (.bool r):=by
 refine bG (rs:=[.bool r]) Try.func48 rfl Try.ntmps48 (nle rfl) rfl fun O hO=>?_
 show IWP _ _ _ _ ⟨[(0,.agg (v0 a0))],[]⟩ _
 unfold kX at h
 refine aC (aA rfl (cK (cs:=q5) 0 rfl rfl (lb rfl) rfl (svA q5 rfl) rfl rfl) <|aA rfl (aG rfl rfl (lb rfl) (sv (d:=.bool false) rfl)) <|aD ?_)
 refine aC (aA rfl (aG rfl rfl (lb rfl) (sv (d:=.int _ 0) rfl)) <|aD ?_)
 refine aS ?_
 refine aC (aA rfl (aG rfl rfl (lb rfl) (sv (d:=.int _ 0) rfl)) <|aD ?_)
 refine aV ?_
 refine bO (α:=Nat × Int × Int) (fun z=>⟨[(1,.ref 0 0),(3,.int .i64 z.2.1),(4,.int .i64 z.2.2)],[(0,.blk 25 (v0 a0))]⟩) (fun z=>dF a0 z.1 z.2.1 z.2.2 = some r) (fun z=>z.1) (fuel,0,0) (fun i=>i) ⟨(.sames rfl rfl),(.cons (.blk rfl rfl rfl) .nil),bE [0] rfl (by decide),fun _ _=>rfl⟩ ?_ ?_
 ·exact h
 ·
  rintro ⟨n0,v16,v17⟩ h
  cases n0 with
  | zero=>exact absurd h (by unfold dF; exact nofun)
  | succ n0 =>
   unfold dF at h
   refine aS ?_
   obtain ⟨x33,hx33,h⟩:=aN h
   refine aC (aA rfl (mvI rfl rfl rfl rfl) <|aA rfl (faR 2 rfl rfl rfl Try.underlying25 rfl ti22 (lb rfl) rfl rfl) <|aA rfl (lrL la22 rfl rfl rfl rfl rfl (nle rfl) rfl) <|aA rfl (cG aB (l:=a0.Nodes) rfl rfl (lb rfl) Try.underlying22 (svL rfl)) <|aA rfl (aL rfl rfl (lb rfl) (svI rfl) (svI rfl) rfl hx33) <|aD ?_)
   refine aP (b:=_) rfl (fun hc34=>?_) (fun hc34=>?_)
   ·
    replace h:=bP h hc34
    refine aT ?_
    refine aJ ?_
    refine aS ?_
    refine aV ?_
    refine iA (α:=Int) (fun z=>⟨[(1,.ref 0 0),(3,.int .i64 z),(4,.int .i64 v17)],[(0,.blk 25 (v0 a0))]⟩) (fun z=>gU a0 v17 (dF a0 n0) z = some r) ?_ ?_
    ·
     obtain ⟨x45,hx45,h⟩:=aO h
     refine aC (aA rfl (faR 2 rfl rfl rfl Try.underlying25 rfl ti22 (lb rfl) rfl rfl) <|aA rfl (lrL la22 rfl rfl rfl rfl rfl (nle rfl) rfl) <|aA rfl (mvI rfl rfl rfl rfl) <|aA rfl (bW aB (cs:=q9) rfl rfl (lb rfl) Try.underlying22 ti63 (svL rfl) (svI rfl) hx45 rfl rfl) <|aA rfl (bV (cs':=[.bool _]) rfl rfl (lb rfl) Try.underlying63 rfl ti4 (by decide) (sv (d:=.fptr q9) rfl) rfl) <|aA rfl (bU rfl rfl (lb rfl) Try.underlying4 ag4 ti4 (by decide) (sv (d:=.fptr [.bool _]) rfl) (nle rfl)) <|aD ?_)
     refine aP (b:=_) rfl (fun hc46=>?_) (fun hc46=>?_)
     ·
      replace h:=bP h hc46
      obtain ⟨x47,hx47,h⟩:=aN h
      refine aU (aA rfl (mvI rfl rfl rfl rfl) <|aA rfl (aQ rfl rfl (lb rfl) (svI rfl) (sv (d:=.int _ 1) rfl) rfl hx47) <|aA rfl (asI rfl rfl rfl rfl) <|bI ?_)
      refine aJ ⟨x47,(fun i=>i),⟨(.sames rfl rfl),(.cons (.blk rfl rfl rfl) .nil),bE [0] rfl (by decide),fun _ _=>rfl⟩,?_⟩
      exact h
     ·
      replace h:=bQ h hc46
      refine aT ?_
      refine aJ ⟨v16,(fun i=>i),⟨(.sames rfl rfl),(.cons (.blk rfl rfl rfl) .nil),bE [0] rfl (by decide),fun _ _=>rfl⟩,?_⟩
      exact h
    ·
     rintro v38 h
     unfold gU at h
     obtain ⟨x39,hx39,h⟩:=aO h
     obtain ⟨x40,hx40,h⟩:=aO h
     obtain ⟨x41,hx41,h⟩:=aO h
     obtain ⟨x42,hx42,h⟩:=aN h
     refine dE rfl [⟨[1],[],[(20,.ref 0 2)],[]⟩,
      ⟨[20],[0],[(21,.slice false (a0.Nodes.map aB.d))],[]⟩,
      ⟨[4],[],[(22,.int .i64 v17)],[]⟩,
      ⟨[21,22],[],[(23,.fptr (v3 x39))],[]⟩,
      ⟨[23],[],[(24,.fptr [.bool x39.Closed])],[]⟩,
      ⟨[24],[],[(25,.bool x39.Closed)],[]⟩,
      ⟨[1],[],[(26,.ref 0 3)],[]⟩,
      ⟨[26],[0],[(27,.slice false (a0.Ended.map (eInt .i64).d))],[]⟩,
      ⟨[1],[],[(28,.ref 0 2)],[]⟩,
      ⟨[28],[0],[(29,.slice false (a0.Nodes.map aB.d))],[]⟩,
      ⟨[4],[],[(30,.int .i64 v17)],[]⟩,
      ⟨[29,30],[],[(31,.fptr (v3 x40))],[]⟩,
      ⟨[31],[],[(32,.fptr [.int .i64 x40.ID])],[]⟩,
      ⟨[32],[],[(33,.int .i64 x40.ID)],[]⟩,
      ⟨[27,33],[],[(34,.bool x41)],[]⟩,
      ⟨[25,34],[],[(35,.bool x42)],[]⟩] rfl ?_ (by kernel_rfl) ?_
     ·refine .cons (lop rfl rfl fun S hA=>(aR rfl rfl (lb rfl) Try.underlying25 rfl ti22 (by decide) (svaR hA rfl rfl) (off':=2) rfl)) ?_
      refine .cons (lop rfl rfl fun S hA=>(aH (d:=.slice _ _) rfl rfl (lb rfl) Try.underlying22 ag22 ti22 (by decide) (svaR hA rfl rfl) (agi hA rfl rfl) (nle rfl) rfl)) ?_
      refine .cons (lop rfl rfl fun S hA=>(aE rfl rfl (lb rfl) (svaI hA rfl rfl))) ?_
      refine .cons (lop rfl rfl fun S hA=>(bW aB (cs:=q9) rfl rfl (lb rfl) Try.underlying22 ti63 (svaL hA rfl rfl) (svaI hA rfl rfl) hx39 rfl rfl)) ?_
      refine .cons (lop rfl rfl fun S hA=>(bV (cs':=[.bool _]) rfl rfl (lb rfl) Try.underlying63 rfl ti4 (by decide) (sv (d:=.fptr q9) (agr hA rfl rfl)) rfl)) ?_
      refine .cons (lop rfl rfl fun S hA=>(bU rfl rfl (lb rfl) Try.underlying4 ag4 ti4 (by decide) (sv (d:=.fptr [.bool _]) (agr hA rfl rfl)) (nle rfl))) ?_
      refine .cons (lop rfl rfl fun S hA=>(aR rfl rfl (lb rfl) Try.underlying25 rfl ti23 (by decide) (svaR hA rfl rfl) (off':=3) rfl)) ?_
      refine .cons (lop rfl rfl fun S hA=>(aH (d:=.slice _ _) rfl rfl (lb rfl) Try.underlying23 ag23 ti23 (by decide) (svaR hA rfl rfl) (agi hA rfl rfl) (nle rfl) rfl)) ?_
      refine .cons (lop rfl rfl fun S hA=>(aR rfl rfl (lb rfl) Try.underlying25 rfl ti22 (by decide) (svaR hA rfl rfl) (off':=2) rfl)) ?_
      refine .cons (lop rfl rfl fun S hA=>(aH (d:=.slice _ _) rfl rfl (lb rfl) Try.underlying22 ag22 ti22 (by decide) (svaR hA rfl rfl) (agi hA rfl rfl) (nle rfl) rfl)) ?_
      refine .cons (lop rfl rfl fun S hA=>(aE rfl rfl (lb rfl) (svaI hA rfl rfl))) ?_
      refine .cons (lop rfl rfl fun S hA=>(bW aB (cs:=q9) rfl rfl (lb rfl) Try.underlying22 ti63 (svaL hA rfl rfl) (svaI hA rfl rfl) hx40 rfl rfl)) ?_
      refine .cons (lop rfl rfl fun S hA=>(bV (cs':=[.int _ _]) rfl rfl (lb rfl) Try.underlying63 rfl ti3 (by decide) (sv (d:=.fptr q9) (agr hA rfl rfl)) rfl)) ?_
      refine .cons (lop rfl rfl fun S hA=>(bU rfl rfl (lb rfl) Try.underlying3 ag3 ti3 (by decide) (sv (d:=.fptr [.int _ _]) (agr hA rfl rfl)) (nle rfl))) ?_
      refine .cons (lop rfl rfl fun S hA=>(aX (r:=.bool _) rfl rfl (lb rfl) cl46 (.cons (svaL hA rfl rfl) (.cons (svaI hA rfl rfl) .nil)) rfl (mU _ _ _ hx41))) ?_
      refine .cons (lop rfl rfl fun S hA=>(xH rfl rfl (lb rfl) Try.underlying4 (svaB hA rfl rfl) (svaB hA rfl rfl) hx42)) ?_
      exact .nil
     refine aP (b:=_) rfl (fun hc43=>?_) (fun hc43=>?_)
     ·
      replace h:=bP h hc43
      refine aC (aA rfl (aG rfl rfl (lb rfl) (sv (d:=.bool false) rfl)) <|aD ?_)
      refine aW ?_
      refine bN ?_
      refine bA ?_
      refine bA ?_
      refine bN ?_
      refine bA ?_
      obtain rfl:=Option.some.inj h
      refine ⟨.inr rfl,(.cons (sv rfl) .nil)⟩
     ·
      replace h:=bQ h hc43
      refine aT ?_
      refine bJ ?_
      refine aJ ?_
      obtain ⟨x44,hx44,h⟩:=aN h
      refine aU (aA rfl (mvI rfl rfl rfl rfl) <|aA rfl (aQ rfl rfl (lb rfl) (svI rfl) (sv (d:=.int _ 1) rfl) rfl hx44) <|aA rfl (asI rfl rfl rfl rfl) <|bI ?_)
      refine aJ ⟨(n0,v38,x44),(fun i=>i),⟨(.sames rfl rfl),(.cons (.blk rfl rfl rfl) .nil),bE [0] rfl (by decide),fun _ _=>rfl⟩,?_,?_⟩
      exact h
      exact Nat.lt_succ_self _
   ·
    replace h:=bQ h hc34
    refine bY ?_
    refine bB ?_
    refine bB ?_
    refine bZ ?_
    refine aJ ?_
    obtain ⟨x48,hx48,h⟩:=aN h
    refine aC (aA rfl (mvI rfl rfl rfl rfl) <|aA rfl (faR 3 rfl rfl rfl Try.underlying25 rfl ti23 (lb rfl) rfl rfl) <|aA rfl (lrL la23 rfl rfl rfl rfl rfl (nle rfl) rfl) <|aA rfl (cG (eInt .i64) (l:=a0.Ended) rfl rfl (lb rfl) Try.underlying23 (svL rfl)) <|aA rfl (aL rfl rfl (lb rfl) (svI rfl) (svI rfl) rfl hx48) <|aA rfl (asB rfl rfl rfl rfl) <|aD ?_)
    refine aW ?_
    obtain rfl:=Option.some.inj h
    refine ⟨.inr rfl,(.cons (sv rfl) .nil)⟩

theorem nB (a0 : aK) (r : Int) (h : jG a0 = some r) : dP Try.prog 15 [.agg (v0 a0)] (.int .i64 r) := by
 refine bG (rs:=[.int .i64 r]) Try.func15 rfl Try.ntmps15 (nle rfl) rfl fun O hO=>?_
 show IWP _ _ _ _ ⟨[(0,.agg (v0 a0))],[]⟩ _
 unfold jG at h
 refine aC (aA rfl (cK (cs:=q5) 0 rfl rfl (lb rfl) rfl (svA q5 rfl) rfl rfl) <|aA rfl (aG rfl rfl (lb rfl) (sv (d:=.int _ 0) rfl)) <|aD ?_)
 obtain ⟨x1,hx1,h⟩:=aO h
 refine aC (aA rfl (lra q5 la25 rfl rfl rfl rfl rfl (nle rfl) rfl) <|aA rfl (aX (r:=.agg q5) rfl rfl (lb rfl) cl32 (.cons (svA q5 rfl) .nil) rfl (nM _ _ hx1)) <|aA rfl (bX (cs:=q11) (cs':=(w16 0 0 ([] : List aF) ([] : List Int))) 1 rfl rfl (lb rfl) rfl ti71 rfl rfl (.k (.k (.cons (.nils _) (.cons (.nils _) .nil))))) <|aA rfl (stA q5 q5 ti71 rfl rfl rfl rfl rfl rfl rfl rfl (nle rfl) rfl) <|aD ?_)
 refine aS ?_
 refine aV ?_
 obtain ⟨x2,hx2,h⟩:=aO h
 refine aC (aA rfl (lra q5 la25 rfl rfl rfl rfl rfl (nle rfl) rfl) <|aA rfl (aX (r:=.bool _) rfl rfl (lb rfl) cl44 (.cons (svA q5 rfl) .nil) rfl (pC _ _ hx2)) <|aA rfl (iB rfl rfl (lb rfl) (svB rfl)) <|aA rfl (asB rfl rfl rfl rfl) <|aD ?_)
 refine aP (b:=_) rfl (fun hc3=>?_) (fun hc3=>?_)
 ·
  replace h:=bP h hc3
  refine aC (aA rfl (aG rfl rfl (lb rfl) (sv (d:=.int _ 8) rfl)) <|aD ?_)
  refine aW ?_
  refine bN ?_
  refine bA ?_
  obtain rfl:=Option.some.inj h
  refine ⟨.inr rfl,(.cons (sv rfl) .nil)⟩
 ·
  replace h:=bQ h hc3
  obtain ⟨x4,hx4,h⟩:=aN h
  obtain ⟨x5,hx5,h⟩:=aN h
  obtain ⟨x6,hx6,h⟩:=aN h
  refine aC (aA rfl (faR 2 rfl rfl rfl Try.underlying25 rfl ti22 (lb rfl) rfl rfl) <|aA rfl (lrL la22 rfl rfl rfl rfl rfl (nle rfl) rfl) <|aA rfl (cG aB (l:=a0.Nodes) rfl rfl (lb rfl) Try.underlying22 (svL rfl)) <|aA rfl (faR 0 rfl rfl rfl Try.underlying25 rfl ti3 (lb rfl) rfl rfl) <|aA rfl (aH (d:=.int _ _) rfl rfl (lb rfl) Try.underlying3 ag3 ti3 (by decide) (svR rfl) rfl (nle rfl) rfl) <|aA rfl (aL rfl rfl (lb rfl) (svI rfl) (svI rfl) rfl hx4) <|aA rfl (mvB rfl rfl rfl rfl) <|aI rfl rfl (.one rfl) rfl (by decide) (fun hb=>(faR 3 rfl rfl rfl Try.underlying25 rfl ti23 (lb rfl) rfl rfl)) <|aI rfl rfl (.one rfl) rfl (by decide) (fun hb=>(aH (d:=.slice _ _) rfl rfl (lb rfl) Try.underlying23 ag23 ti23 (by decide) (svcR rfl hb) rfl (nle rfl) rfl)) <|aI rfl rfl (.one rfl) rfl (by decide) (fun hb=>(cG (eInt .i64) (l:=a0.Ended) rfl rfl (lb rfl) Try.underlying23 (svcL rfl hb))) <|aI rfl rfl (.one rfl) rfl (by decide) (fun hb=>(faR 1 rfl rfl rfl Try.underlying25 rfl ti3 (lb rfl) rfl rfl)) <|aI rfl rfl (.one rfl) rfl (by decide) (fun hb=>(aH (d:=.int _ _) rfl rfl (lb rfl) Try.underlying3 ag3 ti3 (by decide) (svcR rfl hb) rfl (nle rfl) rfl)) <|aI rfl rfl (.one rfl) rfl (by decide) (fun hb=>(aL rfl rfl (lb rfl) (svcI rfl hb) (svcI rfl hb) rfl hx5)) <|aA rfl (iJ rfl rfl (lb rfl) (svB rfl) rfl rfl hx6) <|aA rfl (asB rfl rfl rfl rfl) <|aD ?_)
  refine aP (b:=_) rfl (fun hc7=>?_) (fun hc7=>?_)
  ·
   replace h:=bP h hc7
   refine aC (aA rfl (aG rfl rfl (lb rfl) (sv (d:=.int _ 7) rfl)) <|aD ?_)
   refine aW ?_
   refine bN ?_
   refine bA ?_
   obtain rfl:=Option.some.inj h
   refine ⟨.inr rfl,(.cons (sv rfl) .nil)⟩
  ·
   replace h:=bQ h hc7
   refine aT ?_
   refine bJ ?_
   refine aJ ?_
   refine aS ?_
   refine aC (aA rfl (aG rfl rfl (lb rfl) (sv (d:=.int _ 1) rfl)) <|aD ?_)
   refine aV ?_
   refine bO (α:=Nat × Int) (fun z=>⟨[(1,.ref 0 0),(3,.ref 1 0),(4,.int .i64 z.2)],[(0,.blk 25 (v0 a0)),(1,.blk 71 (v1 x1))]⟩) (fun z=>eN a0 x1 z.1 z.2 = some r) (fun z=>z.1) (fuel,1) (fun i=>i) ⟨(.sames rfl rfl),(.cons (.blk rfl rfl rfl) (.cons (.blk rfl rfl rfl) .nil)),bE [0,1] rfl (by decide),fun _ _=>rfl⟩ ?_ ?_
   ·exact h
   ·
    rintro ⟨n0,v16⟩ h
    cases n0 with
    | zero=>exact absurd h (by unfold eN; exact nofun)
    | succ n0 =>
     unfold eN at h
     refine aS ?_
     obtain ⟨x25,hx25,h⟩:=aN h
     refine aC (aA rfl (mvI rfl rfl rfl rfl) <|aA rfl (faR 2 rfl rfl rfl Try.underlying25 rfl ti22 (lb rfl) rfl rfl) <|aA rfl (lrL la22 rfl rfl rfl rfl rfl (nle rfl) rfl) <|aA rfl (cG aB (l:=a0.Nodes) rfl rfl (lb rfl) Try.underlying22 (svL rfl)) <|aA rfl (aL rfl rfl (lb rfl) (svI rfl) (svI rfl) rfl hx25) <|aD ?_)
     refine aP (b:=_) rfl (fun hc26=>?_) (fun hc26=>?_)
     ·
      replace h:=bP h hc26
      refine aT ?_
      refine aJ ?_
      refine aS ?_
      refine aV ?_
      obtain ⟨x27,hx27,h⟩:=aN h
      obtain ⟨x28,hx28,h⟩:=aO h
      obtain ⟨x29,hx29,h⟩:=aO h
      obtain ⟨x30,hx30,h⟩:=aN h
      refine dE rfl [⟨[1],[],[(35,.ref 0 2)],[]⟩,
       ⟨[35],[0],[(36,.slice false (a0.Nodes.map aB.d))],[]⟩,
       ⟨[4],[],[(37,.int .i64 v16)],[]⟩,
       ⟨[37],[],[(38,.int .i64 x27)],[]⟩,
       ⟨[36,38],[],[(39,.fptr (v3 x28))],[]⟩,
       ⟨[39],[],[(40,.fptr [.int .i64 x28.ID])],[]⟩,
       ⟨[40],[],[(41,.int .i64 x28.ID)],[]⟩,
       ⟨[1],[],[(42,.ref 0 2)],[]⟩,
       ⟨[42],[0],[(43,.slice false (a0.Nodes.map aB.d))],[]⟩,
       ⟨[4],[],[(44,.int .i64 v16)],[]⟩,
       ⟨[43,44],[],[(45,.fptr (v3 x29))],[]⟩,
       ⟨[45],[],[(46,.fptr [.int .i64 x29.ID])],[]⟩,
       ⟨[46],[],[(47,.int .i64 x29.ID)],[]⟩,
       ⟨[41,47],[],[(48,.bool x30)],[]⟩] rfl ?_ (by kernel_rfl) ?_
      ·refine .cons (lop rfl rfl fun S hA=>(aR rfl rfl (lb rfl) Try.underlying25 rfl ti22 (by decide) (svaR hA rfl rfl) (off':=2) rfl)) ?_
       refine .cons (lop rfl rfl fun S hA=>(aH (d:=.slice _ _) rfl rfl (lb rfl) Try.underlying22 ag22 ti22 (by decide) (svaR hA rfl rfl) (agi hA rfl rfl) (nle rfl) rfl)) ?_
       refine .cons (lop rfl rfl fun S hA=>(aE rfl rfl (lb rfl) (svaI hA rfl rfl))) ?_
       refine .cons (lop rfl rfl fun S hA=>(aQ rfl rfl (lb rfl) (svaI hA rfl rfl) (sv (d:=.int _ 1) rfl) rfl hx27)) ?_
       refine .cons (lop rfl rfl fun S hA=>(bW aB (cs:=q9) rfl rfl (lb rfl) Try.underlying22 ti63 (svaL hA rfl rfl) (svaI hA rfl rfl) hx28 rfl rfl)) ?_
       refine .cons (lop rfl rfl fun S hA=>(bV (cs':=[.int _ _]) rfl rfl (lb rfl) Try.underlying63 rfl ti3 (by decide) (sv (d:=.fptr q9) (agr hA rfl rfl)) rfl)) ?_
       refine .cons (lop rfl rfl fun S hA=>(bU rfl rfl (lb rfl) Try.underlying3 ag3 ti3 (by decide) (sv (d:=.fptr [.int _ _]) (agr hA rfl rfl)) (nle rfl))) ?_
       refine .cons (lop rfl rfl fun S hA=>(aR rfl rfl (lb rfl) Try.underlying25 rfl ti22 (by decide) (svaR hA rfl rfl) (off':=2) rfl)) ?_
       refine .cons (lop rfl rfl fun S hA=>(aH (d:=.slice _ _) rfl rfl (lb rfl) Try.underlying22 ag22 ti22 (by decide) (svaR hA rfl rfl) (agi hA rfl rfl) (nle rfl) rfl)) ?_
       refine .cons (lop rfl rfl fun S hA=>(aE rfl rfl (lb rfl) (svaI hA rfl rfl))) ?_
       refine .cons (lop rfl rfl fun S hA=>(bW aB (cs:=q9) rfl rfl (lb rfl) Try.underlying22 ti63 (svaL hA rfl rfl) (svaI hA rfl rfl) hx29 rfl rfl)) ?_
       refine .cons (lop rfl rfl fun S hA=>(bV (cs':=[.int _ _]) rfl rfl (lb rfl) Try.underlying63 rfl ti3 (by decide) (sv (d:=.fptr q9) (agr hA rfl rfl)) rfl)) ?_
       refine .cons (lop rfl rfl fun S hA=>(bU rfl rfl (lb rfl) Try.underlying3 ag3 ti3 (by decide) (sv (d:=.fptr [.int _ _]) (agr hA rfl rfl)) (nle rfl))) ?_
       refine .cons (lop rfl rfl fun S hA=>(aL rfl rfl (lb rfl) (svaI hA rfl rfl) (svaI hA rfl rfl) rfl hx30)) ?_
       exact .nil
      refine aP (b:=_) rfl (fun hc31=>?_) (fun hc31=>?_)
      ·
       replace h:=bP h hc31
       refine aC (aA rfl (aG rfl rfl (lb rfl) (sv (d:=.int _ 10) rfl)) <|aD ?_)
       refine aW ?_
       refine bN ?_
       refine bA ?_
       refine bA ?_
       refine bN ?_
       refine bA ?_
       obtain rfl:=Option.some.inj h
       refine ⟨.inr rfl,(.cons (sv rfl) .nil)⟩
      ·
       replace h:=bQ h hc31
       refine aT ?_
       refine bJ ?_
       refine aJ ?_
       obtain ⟨x32,hx32,h⟩:=aN h
       refine aU (aA rfl (mvI rfl rfl rfl rfl) <|aA rfl (aQ rfl rfl (lb rfl) (svI rfl) (sv (d:=.int _ 1) rfl) rfl hx32) <|aA rfl (asI rfl rfl rfl rfl) <|bI ?_)
       refine aJ ⟨(n0,x32),(fun i=>i),⟨(.sames rfl rfl),(.cons (.blk rfl rfl rfl) (.cons (.blk rfl rfl rfl) .nil)),bE [0,1] rfl (by decide),fun _ _=>rfl⟩,?_,?_⟩
       exact h
       exact Nat.lt_succ_self _
     ·
      replace h:=bQ h hc26
      refine bY ?_
      refine bB ?_
      refine bB ?_
      refine bZ ?_
      refine aJ ?_
      refine aS ?_
      refine aC (aA rfl (aG rfl rfl (lb rfl) (sv (d:=.int _ 0) rfl)) <|aD ?_)
      refine aV ?_
      refine bO (α:=Nat × Int) (fun z=>⟨[(1,.ref 0 0),(3,.ref 1 0),(5,.int .i64 z.2)],[(0,.blk 25 (v0 a0)),(1,.blk 71 (v1 x1))]⟩) (fun z=>fV a0 x1 z.1 z.2 = some r) (fun z=>z.1) (fuel,0) (fun i=>i) ⟨(.sames rfl rfl),(.cons (.blk rfl rfl rfl) (.cons (.blk rfl rfl rfl) .nil)),bE [0,1] rfl (by decide),fun _ _=>rfl⟩ ?_ ?_
      ·exact h
      ·
       rintro ⟨n1,v43⟩ h
       cases n1 with
       | zero=>exact absurd h (by unfold fV; exact nofun)
       | succ n1 =>
        unfold fV at h
        refine aS ?_
        obtain ⟨x54,hx54,h⟩:=aN h
        refine aC (aA rfl (mvI rfl rfl rfl rfl) <|aA rfl (faR 2 rfl rfl rfl Try.underlying25 rfl ti22 (lb rfl) rfl rfl) <|aA rfl (lrL la22 rfl rfl rfl rfl rfl (nle rfl) rfl) <|aA rfl (cG aB (l:=a0.Nodes) rfl rfl (lb rfl) Try.underlying22 (svL rfl)) <|aA rfl (aL rfl rfl (lb rfl) (svI rfl) (svI rfl) rfl hx54) <|aD ?_)
        refine aP (b:=_) rfl (fun hc55=>?_) (fun hc55=>?_)
        ·
         replace h:=bP h hc55
         refine aT ?_
         refine aJ ?_
         refine aS ?_
         refine aV ?_
         obtain ⟨x56,hx56,h⟩:=aO h
         obtain ⟨x57,hx57,h⟩:=aN h
         obtain ⟨x58,hx58,h⟩:=aO h
         obtain ⟨x59,hx59,h⟩:=aO h
         obtain ⟨x60,hx60,h⟩:=aN h
         obtain ⟨x61,hx61,h⟩:=aN h
         refine dE rfl [⟨[1],[],[(56,.ref 0 2)],[]⟩,
          ⟨[56],[0],[(57,.slice false (a0.Nodes.map aB.d))],[]⟩,
          ⟨[5],[],[(58,.int .i64 v43)],[]⟩,
          ⟨[57,58],[],[(59,.fptr (v3 x56))],[]⟩,
          ⟨[59],[],[(60,.fptr [.int .i64 x56.Parent])],[]⟩,
          ⟨[60],[],[(61,.int .i64 x56.Parent)],[]⟩,
          ⟨[61],[],[(62,.bool x57)],[]⟩,
          ⟨[62],[],[(63,.bool x57)],[]⟩,
          ⟨[3,63],[1],[(64,.cnd (x57 == true) (.agg (v1 x1)))],[]⟩,
          ⟨[1,63],[],[(65,.cnd (x57 == true) (.ref 0 2))],[]⟩,
          ⟨[63,65],[0],[(66,.cnd (x57 == true) (.slice false (a0.Nodes.map aB.d)))],[]⟩,
          ⟨[5,63],[],[(67,.cnd (x57 == true) (.int .i64 v43))],[]⟩,
          ⟨[63,66,67],[],[(68,.cnd (x57 == true) (.fptr (v3 x58)))],[]⟩,
          ⟨[63,68],[],[(69,.cnd (x57 == true) (.fptr [.int .i64 x58.Parent]))],[]⟩,
          ⟨[63,69],[],[(70,.cnd (x57 == true) (.int .i64 x58.Parent))],[]⟩,
          ⟨[63,64,70],[],[(71,.cnd (x57 == true) (.int .i64 x59))],[]⟩,
          ⟨[63,71],[],[(72,.cnd (x57 == true) (.bool x60))],[]⟩,
          ⟨[63,72],[],[(73,.bool x61)],[]⟩] rfl ?_ (by kernel_rfl) ?_
         ·refine .cons (lop rfl rfl fun S hA=>(aR rfl rfl (lb rfl) Try.underlying25 rfl ti22 (by decide) (svaR hA rfl rfl) (off':=2) rfl)) ?_
          refine .cons (lop rfl rfl fun S hA=>(aH (d:=.slice _ _) rfl rfl (lb rfl) Try.underlying22 ag22 ti22 (by decide) (svaR hA rfl rfl) (agi hA rfl rfl) (nle rfl) rfl)) ?_
          refine .cons (lop rfl rfl fun S hA=>(aE rfl rfl (lb rfl) (svaI hA rfl rfl))) ?_
          refine .cons (lop rfl rfl fun S hA=>(bW aB (cs:=q9) rfl rfl (lb rfl) Try.underlying22 ti63 (svaL hA rfl rfl) (svaI hA rfl rfl) hx56 rfl rfl)) ?_
          refine .cons (lop rfl rfl fun S hA=>(bV (cs':=[.int _ _]) rfl rfl (lb rfl) Try.underlying63 rfl ti3 (by decide) (sv (d:=.fptr q9) (agr hA rfl rfl)) rfl)) ?_
          refine .cons (lop rfl rfl fun S hA=>(bU rfl rfl (lb rfl) Try.underlying3 ag3 ti3 (by decide) (sv (d:=.fptr [.int _ _]) (agr hA rfl rfl)) (nle rfl))) ?_
          refine .cons (lop rfl rfl fun S hA=>(aL rfl rfl (lb rfl) (svaI hA rfl rfl) (sv (d:=.int _ 0) rfl) rfl hx57)) ?_
          refine .cons (lop rfl rfl fun S hA=>(aE rfl rfl (lb rfl) (svaB hA rfl rfl))) ?_
          refine .cons (lopg rfl rfl rfl rfl (by decide) (fun S hA=>grd1 hA rfl rfl) (fun S hA hb=>(dK (cs:=q5) rfl rfl (lb rfl) Try.underlying71 ag71 ti71 (by decide) (svaR hA rfl rfl) (agi hA rfl rfl) (nle rfl) rfl))) ?_
          refine .cons (lopg rfl rfl rfl rfl (by decide) (fun S hA=>grd1 hA rfl rfl) (fun S hA hb=>(aR rfl rfl (lb rfl) Try.underlying25 rfl ti22 (by decide) (svaR hA rfl rfl) (off':=2) rfl))) ?_
          refine .cons (lopg rfl rfl rfl rfl (by decide) (fun S hA=>grd1 hA rfl rfl) (fun S hA hb=>(aH (d:=.slice _ _) rfl rfl (lb rfl) Try.underlying22 ag22 ti22 (by decide) (svc (d:=.ref _ _) (agr hA rfl rfl) hb) (agi hA rfl rfl) (nle rfl) rfl))) ?_
          refine .cons (lopg rfl rfl rfl rfl (by decide) (fun S hA=>grd1 hA rfl rfl) (fun S hA hb=>(aE rfl rfl (lb rfl) (svaI hA rfl rfl)))) ?_
          refine .cons (lopg rfl rfl rfl rfl (by decide) (fun S hA=>grd1 hA rfl rfl) (fun S hA hb=>(bW aB (cs:=q9) rfl rfl (lb rfl) Try.underlying22 ti63 (svc (d:=.slice _ _) (agr hA rfl rfl) hb) (svc (d:=.int _ _) (agr hA rfl rfl) hb) (gd_t hx58 hb) rfl rfl))) ?_
          refine .cons (lopg rfl rfl rfl rfl (by decide) (fun S hA=>grd1 hA rfl rfl) (fun S hA hb=>(bV (cs':=[.int _ _]) rfl rfl (lb rfl) Try.underlying63 rfl ti3 (by decide) (svc (d:=.fptr q9) (agr hA rfl rfl) hb) rfl))) ?_
          refine .cons (lopg rfl rfl rfl rfl (by decide) (fun S hA=>grd1 hA rfl rfl) (fun S hA hb=>(bU rfl rfl (lb rfl) Try.underlying3 ag3 ti3 (by decide) (svc (d:=.fptr [.int _ _]) (agr hA rfl rfl) hb) (nle rfl)))) ?_
          refine .cons (lopg rfl rfl rfl rfl (by decide) (fun S hA=>grd1 hA rfl rfl) (fun S hA hb=>(aX (r:=.int _ _) rfl rfl (lb rfl) cl45 (.cons (svc (d:=.agg (v1 x1)) (agr hA rfl rfl) hb) (.cons (svc (d:=.int _ _) (agr hA rfl rfl) hb) .nil)) rfl (bT _ _ _ (gd_t hx59 hb))))) ?_
          refine .cons (lopg rfl rfl rfl rfl (by decide) (fun S hA=>grd1 hA rfl rfl) (fun S hA hb=>(aL rfl rfl (lb rfl) (svc (d:=.int _ _) (agr hA rfl rfl) hb) (sv (d:=.int _ 0) rfl) rfl hx60))) ?_
          refine .cons (lop rfl rfl fun S hA=>(cO rfl rfl (lb rfl) (svaB hA rfl rfl) (agr hA rfl rfl) rfl hx61)) ?_
          exact .nil
         refine aP (b:=_) rfl (fun hc62=>?_) (fun hc62=>?_)
         ·
          replace h:=bP h hc62
          refine aC (aA rfl (aG rfl rfl (lb rfl) (sv (d:=.int _ 6) rfl)) <|aD ?_)
          refine aW ?_
          refine bN ?_
          refine bA ?_
          refine bA ?_
          refine bN ?_
          refine bA ?_
          obtain rfl:=Option.some.inj h
          refine ⟨.inr rfl,(.cons (sv rfl) .nil)⟩
         ·
          replace h:=bQ h hc62
          refine aT ?_
          refine bJ ?_
          refine aJ ?_
          obtain ⟨x63,hx63,h⟩:=aN h
          refine aU (aA rfl (mvI rfl rfl rfl rfl) <|aA rfl (aQ rfl rfl (lb rfl) (svI rfl) (sv (d:=.int _ 1) rfl) rfl hx63) <|aA rfl (asI rfl rfl rfl rfl) <|bI ?_)
          refine aJ ⟨(n1,x63),(fun i=>i),⟨(.sames rfl rfl),(.cons (.blk rfl rfl rfl) (.cons (.blk rfl rfl rfl) .nil)),bE [0,1] rfl (by decide),fun _ _=>rfl⟩,?_,?_⟩
          exact h
          exact Nat.lt_succ_self _
        ·
         replace h:=bQ h hc55
         refine bY ?_
         refine bB ?_
         refine bB ?_
         refine bZ ?_
         refine aJ ?_
         refine aS ?_
         refine aC (aA rfl (aG rfl rfl (lb rfl) (sv (d:=.int _ 0) rfl)) <|aD ?_)
         refine aV ?_
         refine bO (α:=Nat × Int) (fun z=>⟨[(1,.ref 0 0),(3,.ref 1 0),(6,.int .i64 z.2)],[(0,.blk 25 (v0 a0)),(1,.blk 71 (v1 x1))]⟩) (fun z=>fU a0 x1 z.1 z.2 = some r) (fun z=>z.1) (fuel,0) (fun i=>i) ⟨(.sames rfl rfl),(.cons (.blk rfl rfl rfl) (.cons (.blk rfl rfl rfl) .nil)),bE [0,1] rfl (by decide),fun _ _=>rfl⟩ ?_ ?_
         ·exact h
         ·
          rintro ⟨n2,v72⟩ h
          cases n2 with
          | zero=>exact absurd h (by unfold fU; exact nofun)
          | succ n2 =>
           unfold fU at h
           refine aS ?_
           obtain ⟨x81,hx81,h⟩:=aN h
           refine aC (aA rfl (mvI rfl rfl rfl rfl) <|aA rfl (faR 2 rfl rfl rfl Try.underlying25 rfl ti22 (lb rfl) rfl rfl) <|aA rfl (lrL la22 rfl rfl rfl rfl rfl (nle rfl) rfl) <|aA rfl (cG aB (l:=a0.Nodes) rfl rfl (lb rfl) Try.underlying22 (svL rfl)) <|aA rfl (aL rfl rfl (lb rfl) (svI rfl) (svI rfl) rfl hx81) <|aD ?_)
           refine aP (b:=_) rfl (fun hc82=>?_) (fun hc82=>?_)
           ·
            replace h:=bP h hc82
            refine aT ?_
            refine aJ ?_
            refine aS ?_
            refine aV ?_
            obtain ⟨x83,hx83,h⟩:=aO h
            obtain ⟨x84,hx84,h⟩:=aO h
            obtain ⟨x85,hx85,h⟩:=aO h
            obtain ⟨x86,hx86,h⟩:=aO h
            refine dE rfl [⟨[3],[1],[(81,.agg (v1 x1))],[]⟩,
             ⟨[1],[],[(82,.ref 0 2)],[]⟩,
             ⟨[82],[0],[(83,.slice false (a0.Nodes.map aB.d))],[]⟩,
             ⟨[6],[],[(84,.int .i64 v72)],[]⟩,
             ⟨[83,84],[],[(85,.fptr (v3 x83))],[]⟩,
             ⟨[85],[],[(86,.fptr [.int .i64 x83.ID])],[]⟩,
             ⟨[86],[],[(87,.int .i64 x83.ID)],[]⟩,
             ⟨[81,87],[],[(88,.slice false (x84.map (eInt .i64).d))],[]⟩,
             ⟨[1],[],[(89,.ref 0 2)],[]⟩,
             ⟨[89],[0],[(90,.slice false (a0.Nodes.map aB.d))],[]⟩,
             ⟨[6],[],[(91,.int .i64 v72)],[]⟩,
             ⟨[90,91],[],[(92,.fptr (v3 x85))],[]⟩,
             ⟨[92],[],[(93,.fptr [.int .i64 x85.ID])],[]⟩,
             ⟨[93],[],[(94,.int .i64 x85.ID)],[]⟩,
             ⟨[88,94],[],[(95,.bool x86)],[]⟩] rfl ?_ (by kernel_rfl) ?_
            ·refine .cons (lop rfl rfl fun S hA=>(dK (cs:=q5) rfl rfl (lb rfl) Try.underlying71 ag71 ti71 (by decide) (svaR hA rfl rfl) (agi hA rfl rfl) (nle rfl) rfl)) ?_
             refine .cons (lop rfl rfl fun S hA=>(aR rfl rfl (lb rfl) Try.underlying25 rfl ti22 (by decide) (svaR hA rfl rfl) (off':=2) rfl)) ?_
             refine .cons (lop rfl rfl fun S hA=>(aH (d:=.slice _ _) rfl rfl (lb rfl) Try.underlying22 ag22 ti22 (by decide) (svaR hA rfl rfl) (agi hA rfl rfl) (nle rfl) rfl)) ?_
             refine .cons (lop rfl rfl fun S hA=>(aE rfl rfl (lb rfl) (svaI hA rfl rfl))) ?_
             refine .cons (lop rfl rfl fun S hA=>(bW aB (cs:=q9) rfl rfl (lb rfl) Try.underlying22 ti63 (svaL hA rfl rfl) (svaI hA rfl rfl) hx83 rfl rfl)) ?_
             refine .cons (lop rfl rfl fun S hA=>(bV (cs':=[.int _ _]) rfl rfl (lb rfl) Try.underlying63 rfl ti3 (by decide) (sv (d:=.fptr q9) (agr hA rfl rfl)) rfl)) ?_
             refine .cons (lop rfl rfl fun S hA=>(bU rfl rfl (lb rfl) Try.underlying3 ag3 ti3 (by decide) (sv (d:=.fptr [.int _ _]) (agr hA rfl rfl)) (nle rfl))) ?_
             refine .cons (lop rfl rfl fun S hA=>(aX (r:=.slice _ _) rfl rfl (lb rfl) cl47 (.cons (svaA q5 hA rfl rfl) (.cons (svaI hA rfl rfl) .nil)) rfl (mB _ _ _ hx84))) ?_
             refine .cons (lop rfl rfl fun S hA=>(aR rfl rfl (lb rfl) Try.underlying25 rfl ti22 (by decide) (svaR hA rfl rfl) (off':=2) rfl)) ?_
             refine .cons (lop rfl rfl fun S hA=>(aH (d:=.slice _ _) rfl rfl (lb rfl) Try.underlying22 ag22 ti22 (by decide) (svaR hA rfl rfl) (agi hA rfl rfl) (nle rfl) rfl)) ?_
             refine .cons (lop rfl rfl fun S hA=>(aE rfl rfl (lb rfl) (svaI hA rfl rfl))) ?_
             refine .cons (lop rfl rfl fun S hA=>(bW aB (cs:=q9) rfl rfl (lb rfl) Try.underlying22 ti63 (svaL hA rfl rfl) (svaI hA rfl rfl) hx85 rfl rfl)) ?_
             refine .cons (lop rfl rfl fun S hA=>(bV (cs':=[.int _ _]) rfl rfl (lb rfl) Try.underlying63 rfl ti3 (by decide) (sv (d:=.fptr q9) (agr hA rfl rfl)) rfl)) ?_
             refine .cons (lop rfl rfl fun S hA=>(bU rfl rfl (lb rfl) Try.underlying3 ag3 ti3 (by decide) (sv (d:=.fptr [.int _ _]) (agr hA rfl rfl)) (nle rfl))) ?_
             refine .cons (lop rfl rfl fun S hA=>(aX (r:=.bool _) rfl rfl (lb rfl) cl46 (.cons (svaL hA rfl rfl) (.cons (svaI hA rfl rfl) .nil)) rfl (mU _ _ _ hx86))) ?_
             exact .nil
            refine aP (b:=_) rfl (fun hc87=>?_) (fun hc87=>?_)
            ·
             replace h:=bP h hc87
             refine aC (aA rfl (aG rfl rfl (lb rfl) (sv (d:=.int _ 4) rfl)) <|aD ?_)
             refine aW ?_
             refine bN ?_
             refine bA ?_
             refine bA ?_
             refine bN ?_
             refine bA ?_
             obtain rfl:=Option.some.inj h
             refine ⟨.inr rfl,(.cons (sv rfl) .nil)⟩
            ·
             replace h:=bQ h hc87
             refine aT ?_
             refine bJ ?_
             refine aJ ?_
             obtain ⟨x88,hx88,h⟩:=aN h
             refine aU (aA rfl (mvI rfl rfl rfl rfl) <|aA rfl (aQ rfl rfl (lb rfl) (svI rfl) (sv (d:=.int _ 1) rfl) rfl hx88) <|aA rfl (asI rfl rfl rfl rfl) <|bI ?_)
             refine aJ ⟨(n2,x88),(fun i=>i),⟨(.sames rfl rfl),(.cons (.blk rfl rfl rfl) (.cons (.blk rfl rfl rfl) .nil)),bE [0,1] rfl (by decide),fun _ _=>rfl⟩,?_,?_⟩
             exact h
             exact Nat.lt_succ_self _
           ·
            replace h:=bQ h hc82
            refine bY ?_
            refine bB ?_
            refine bB ?_
            refine bZ ?_
            refine aJ ?_
            refine aS ?_
            obtain ⟨x89,hx89,h⟩:=aO h
            refine aC (aA rfl (lra q5 la25 rfl rfl rfl rfl rfl (nle rfl) rfl) <|aA rfl (aX (r:=.bool _) rfl rfl (lb rfl) cl48 (.cons (svA q5 rfl) .nil) rfl (pN _ _ hx89)) <|aA rfl (iB rfl rfl (lb rfl) (svB rfl)) <|aD ?_)
            refine aP (b:=_) rfl (fun hc90=>?_) (fun hc90=>?_)
            ·
             replace h:=bP h hc90
             refine aC (aA rfl (aG rfl rfl (lb rfl) (sv (d:=.int _ 9) rfl)) <|aD ?_)
             refine aW ?_
             refine bA ?_
             obtain rfl:=Option.some.inj h
             refine ⟨.inr rfl,(.cons (sv rfl) .nil)⟩
            ·
             replace h:=bQ h hc90
             refine aT ?_
             refine aJ ?_
             refine aC (aA rfl (aG rfl rfl (lb rfl) (sv (d:=.int _ 0) rfl)) <|aD ?_)
             refine aW ?_
             obtain rfl:=Option.some.inj h
             refine ⟨.inr rfl,(.cons (sv rfl) .nil)⟩

theorem nC (a0 : Int) (a1 : Int) (a2 : Int) (r : Int) (h : jH a0 a1 a2 = some r) : dP Try.prog 68 [.int .i64 a0,.int .i64 a1,.int .i64 a2] (.int .i64 r):=by
 refine bG (rs:=[.int .i64 r]) Try.func68 rfl Try.ntmps68 (nle rfl) rfl fun O hO=>?_
 show IWP _ _ _ _ ⟨[(0,.int .i64 a0),(1,.int .i64 a1),(2,.int .i64 a2)],[]⟩ _
 unfold jH at h
 refine aC (aA rfl (aG rfl rfl (lb rfl) (sv (d:=.int _ 0) rfl)) <|aD ?_)
 refine aS ?_
 refine aV ?_
 obtain ⟨x1,hx1,h⟩:=aN h
 obtain ⟨x2,hx2,h⟩:=aN h
 obtain ⟨x3,hx3,h⟩:=aN h
 obtain ⟨x4,hx4,h⟩:=aN h
 obtain ⟨x5,hx5,h⟩:=aN h
 obtain ⟨x6,hx6,h⟩:=aN h
 obtain ⟨x7,hx7,h⟩:=aN h
 obtain ⟨x8,hx8,h⟩:=aN h
 obtain ⟨x9,hx9,h⟩:=aN h
 obtain ⟨x10,hx10,h⟩:=aN h
 obtain ⟨x11,hx11,h⟩:=aN h
 refine aC (aA rfl (mvI rfl rfl rfl rfl) <|aA rfl (aL rfl rfl (lb rfl) (svI rfl) (sv (d:=.int _ 1) rfl) rfl hx1) <|aA rfl (mvB rfl rfl rfl rfl) <|aI rfl rfl (.one rfl) rfl (by decide) (fun hb=>(mvI rfl rfl rfl rfl)) <|aI rfl rfl (.one rfl) rfl (by decide) (fun hb=>(aL rfl rfl (lb rfl) (svcI rfl hb) (sv (d:=.int _ 1048576) rfl) rfl hx2)) <|aA rfl (iJ rfl rfl (lb rfl) (svB rfl) rfl rfl hx3) <|aA rfl (mvB rfl rfl rfl rfl) <|aI rfl rfl (.one rfl) rfl (by decide) (fun hb=>(mvI rfl rfl rfl rfl)) <|aI rfl rfl (.one rfl) rfl (by decide) (fun hb=>(aL rfl rfl (lb rfl) (svcI rfl hb) (sv (d:=.int _ 0) rfl) rfl hx4)) <|aA rfl (iJ rfl rfl (lb rfl) (svB rfl) rfl rfl hx5) <|aA rfl (mvB rfl rfl rfl rfl) <|aI rfl rfl (.one rfl) rfl (by decide) (fun hb=>(mvI rfl rfl rfl rfl)) <|aI rfl rfl (.one rfl) rfl (by decide) (fun hb=>(aL rfl rfl (lb rfl) (svcI rfl hb) (sv (d:=.int _ 1048576) rfl) rfl hx6)) <|aA rfl (iJ rfl rfl (lb rfl) (svB rfl) rfl rfl hx7) <|aA rfl (mvB rfl rfl rfl rfl) <|aI rfl rfl (.one rfl) rfl (by decide) (fun hb=>(mvI rfl rfl rfl rfl)) <|aI rfl rfl (.one rfl) rfl (by decide) (fun hb=>(aL rfl rfl (lb rfl) (svcI rfl hb) (sv (d:=.int _ 1) rfl) rfl hx8)) <|aA rfl (iJ rfl rfl (lb rfl) (svB rfl) rfl rfl hx9) <|aA rfl (mvB rfl rfl rfl rfl) <|aI rfl rfl (.one rfl) rfl (by decide) (fun hb=>(mvI rfl rfl rfl rfl)) <|aI rfl rfl (.one rfl) rfl (by decide) (fun hb=>(aL rfl rfl (lb rfl) (svcI rfl hb) (sv (d:=.int _ 256) rfl) rfl hx10)) <|aA rfl (iJ rfl rfl (lb rfl) (svB rfl) rfl rfl hx11) <|aA rfl (asB rfl rfl rfl rfl) <|aD ?_)
 refine aP (b:=_) rfl (fun hc12=>?_) (fun hc12=>?_)
 ·
  replace h:=bP h hc12
  refine aC (aA rfl (aG rfl rfl (lb rfl) (sv (d:=.int _ 8) rfl)) <|aD ?_)
  refine aW ?_
  refine bN ?_
  refine bA ?_
  obtain rfl:=Option.some.inj h
  refine ⟨.inr rfl,(.cons (sv rfl) .nil)⟩
 ·
  replace h:=bQ h hc12
  obtain ⟨x13,hx13,h⟩:=aN h
  refine aC (aA rfl (mvI rfl rfl rfl rfl) <|aA rfl (mvI rfl rfl rfl rfl) <|aA rfl (aL rfl rfl (lb rfl) (svI rfl) (svI rfl) rfl hx13) <|aA rfl (asB rfl rfl rfl rfl) <|aD ?_)
  refine aP (b:=_) rfl (fun hc14=>?_) (fun hc14=>?_)
  ·
   replace h:=bP h hc14
   refine aC (aA rfl (aG rfl rfl (lb rfl) (sv (d:=.int _ 4) rfl)) <|aD ?_)
   refine aW ?_
   refine bN ?_
   refine bA ?_
   obtain rfl:=Option.some.inj h
   refine ⟨.inr rfl,(.cons (sv rfl) .nil)⟩
  ·
   replace h:=bQ h hc14
   refine aT ?_
   refine bJ ?_
   refine aJ ?_
   refine aC (aA rfl (aG rfl rfl (lb rfl) (sv (d:=.int _ 0) rfl)) <|aD ?_)
   refine aW ?_
   obtain rfl:=Option.some.inj h
   refine ⟨.inr rfl,(.cons (sv rfl) .nil)⟩

theorem mC (a0 : aM) (a1 : Int) (r : (List Int)) (h : iU a0 a1 = some r) : dP Try.prog 79 [.agg (v1 a0),.int .i64 a1] (.slice false (r.map (eInt .i64).d)):=by
 refine bG (rs:=[.slice false (r.map (eInt .i64).d)]) Try.func79 rfl Try.ntmps79 (nle rfl) rfl fun O hO=>?_
 show IWP _ _ _ _ ⟨[(0,.agg (v1 a0)),(1,.int .i64 a1)],[]⟩ _
 unfold iU at h
 refine aC (aA rfl (cK (cs:=q5) 0 rfl rfl (lb rfl) rfl (svA q5 rfl) rfl rfl) <|aA rfl (aG rfl rfl (lb rfl) (sv (d:=.nils) rfl)) <|aD ?_)
 refine aC (aA rfl (aG rfl rfl (lb rfl) (sv (d:=.nils) rfl)) <|aD ?_)
 refine aS ?_
 refine aC (aA rfl (aG rfl rfl (lb rfl) (sv (d:=.int _ 0) rfl)) <|aD ?_)
 refine aV ?_
 refine bO (α:=Nat × (List Int) × Int) (fun z=>⟨[(1,.int .i64 a1),(2,.ref 0 0),(5,.gsl 22 (eInt .i64).sz (z.2.1.map (eInt .i64).d)),(6,.int .i64 z.2.2)],[(0,.blk 71 (v1 a0)),(22,.tail 3 (eInt .i64).sz z.2.1.length)]⟩) (fun z=>dS a0 a1 z.1 z.2.1 z.2.2 = some r) (fun z=>z.1) (fuel,([] : (List Int)),0) (fun i=>if i = 22 then 73 else i) ⟨(.s rfl rfl (.s rfl rfl (.cons (.nils rfl) (.sames rfl rfl)))),(.cons (.blk rfl rfl rfl) (.cons (.nils rfl) .nil)),bE [0,73] rfl (by decide),(fun i hi=>by first | rfl | (show (if _ then _ else _) = _; (repeat' split) <;> omega))⟩ ?_ ?_
 ·exact h
 ·
  rintro ⟨n0,v10,v11⟩ h
  cases n0 with
  | zero=>exact absurd h (by unfold dS; exact nofun)
  | succ n0 =>
   unfold dS at h
   refine aS ?_
   obtain ⟨x21,hx21,h⟩:=aN h
   refine aC (aA rfl (mvI rfl rfl rfl rfl) <|aA rfl (faR 2 rfl rfl rfl Try.underlying71 rfl ti22 (lb rfl) rfl rfl) <|aA rfl (lrL la22 rfl rfl rfl rfl rfl (nle rfl) rfl) <|aA rfl (cG aB (l:=a0.L) rfl rfl (lb rfl) Try.underlying22 (svL rfl)) <|aA rfl (aL rfl rfl (lb rfl) (svI rfl) (svI rfl) rfl hx21) <|aD ?_)
   refine aP (b:=_) rfl (fun hc22=>?_) (fun hc22=>?_)
   ·
    replace h:=bP h hc22
    refine aT ?_
    refine aJ ?_
    refine aS ?_
    refine aV ?_
    obtain ⟨x23,hx23,h⟩:=aO h
    obtain ⟨x24,hx24,h⟩:=aN h
    refine aC (aA rfl (faR 2 rfl rfl rfl Try.underlying71 rfl ti22 (lb rfl) rfl rfl) <|aA rfl (lrL la22 rfl rfl rfl rfl rfl (nle rfl) rfl) <|aA rfl (mvI rfl rfl rfl rfl) <|aA rfl (bW aB (cs:=q9) rfl rfl (lb rfl) Try.underlying22 ti63 (svL rfl) (svI rfl) hx23 rfl rfl) <|aA rfl (bV (cs':=[.int _ _]) rfl rfl (lb rfl) Try.underlying63 rfl ti3 (by decide) (sv (d:=.fptr q9) rfl) rfl) <|aA rfl (bU rfl rfl (lb rfl) Try.underlying3 ag3 ti3 (by decide) (sv (d:=.fptr [.int _ _]) rfl) (nle rfl)) <|aA rfl (mvI rfl rfl rfl rfl) <|aA rfl (aL rfl rfl (lb rfl) (svI rfl) (svI rfl) rfl hx24) <|aD ?_)
    refine aP (b:=_) rfl (fun hc25=>?_) (fun hc25=>?_)
    ·
     replace h:=bP h hc25
     obtain ⟨x26,hx26,h⟩:=aO h
     obtain ⟨x27,hx27,h⟩:=aO h
     refine aU (aA rfl (aE rfl rfl (lb rfl) (sv (d:=.gsl _ _ _) rfl)) <|aA rfl (faR 2 rfl rfl rfl Try.underlying71 rfl ti22 (lb rfl) rfl rfl) <|aA rfl (lrL la22 rfl rfl rfl rfl rfl (nle rfl) rfl) <|aA rfl (mvI rfl rfl rfl rfl) <|aA rfl (bW aB (cs:=q9) rfl rfl (lb rfl) Try.underlying22 ti63 (svL rfl) (svI rfl) hx26 rfl rfl) <|aA rfl (bV (cs':=[.int _ _]) rfl rfl (lb rfl) Try.underlying63 rfl ti3 (by decide) (sv (d:=.fptr q9) rfl) rfl) <|aA rfl (bU rfl rfl (lb rfl) Try.underlying3 ag3 ti3 (by decide) (sv (d:=.fptr [.int _ _]) rfl) (nle rfl)) <|aA rfl (nU (eInt .i64) ([x26.ID] : (List Int)) 23 rfl rfl (lb rfl) Try.underlying23 ti3 rfl (.cons (svI rfl) .nil) rfl rfl (by decide)) <|aA rfl (mY (eInt .i64) 24 rfl rfl (lb rfl) Try.underlying23 ti3 rfl rfl rfl rfl (svg rfl) hx27) <|aA rfl (aG rfl rfl (lb rfl) (sv (d:=.gsl _ _ _) rfl)) <|bI ?_)
     refine bJ ?_
     refine aJ ?_
     obtain ⟨x28,hx28,h⟩:=aN h
     refine aU (aA rfl (mvI rfl rfl rfl rfl) <|aA rfl (aQ rfl rfl (lb rfl) (svI rfl) (sv (d:=.int _ 1) rfl) rfl hx28) <|aA rfl (asI rfl rfl rfl rfl) <|bI ?_)
     refine aJ ⟨(n0,x27,x28),(fun i=>if i = 22 then 24 else i),⟨(.sames rfl rfl),(.cons (.blk rfl rfl rfl) (.cons (.tail rfl) .nil)),bE [0,24] rfl (by decide),(fun i hi=>by first | rfl | (show (if _ then _ else _) = _; (repeat' split) <;> omega))⟩,?_,?_⟩
     exact h
     exact Nat.lt_succ_self _
    ·
     replace h:=bQ h hc25
     refine aT ?_
     refine bJ ?_
     refine aJ ?_
     obtain ⟨x29,hx29,h⟩:=aN h
     refine aU (aA rfl (mvI rfl rfl rfl rfl) <|aA rfl (aQ rfl rfl (lb rfl) (svI rfl) (sv (d:=.int _ 1) rfl) rfl hx29) <|aA rfl (asI rfl rfl rfl rfl) <|bI ?_)
     refine aJ ⟨(n0,v10,x29),(fun i=>i),⟨(.sames rfl rfl),(.cons (.blk rfl rfl rfl) (.cons (.tail rfl) .nil)),bE [0,22] rfl (by decide),fun _ _=>rfl⟩,?_,?_⟩
     exact h
     exact Nat.lt_succ_self _
   ·
    replace h:=bQ h hc22
    refine bY ?_
    refine bB ?_
    refine bB ?_
    refine bZ ?_
    refine aJ ?_
    refine aC (aA rfl (aE rfl rfl (lb rfl) (sv (d:=.gsl _ _ _) rfl)) <|aA rfl (aG rfl rfl (lb rfl) (sv (d:=.gsl _ _ _) rfl)) <|aD ?_)
    refine aW ?_
    obtain rfl:=Option.some.inj h
    refine ⟨.inr rfl,(.cons (wU rfl rfl) .nil)⟩

theorem hY (a0 : aM) (a1 : aF) (r : aM) (h : dG a0 a1 = some r) : dP Try.prog 71 [.agg (v1 a0),.agg (v3 a1)] (.agg (v1 r)):=by
 refine mP (rs:=[.agg (v1 r)]) Try.func71 rfl Try.ntmps71 (nle rfl) rfl fun O hO=>?_
 show IWP _ _ _ _ ⟨[(0,.agg (v1 a0)),(1,.agg (v3 a1))],[]⟩ _
 unfold dG at h
 refine aC (aA rfl (cK (cs:=q5) 0 rfl rfl (lb rfl) rfl (svA q5 rfl) rfl rfl) <|aA rfl (cK (cs:=q9) 1 rfl rfl (lb rfl) rfl (svA q9 rfl) rfl rfl) <|aA rfl (bX (cs:=q11) (cs':=(w16 0 0 ([] : List aF) ([] : List Int))) 2 rfl rfl (lb rfl) rfl ti71 rfl rfl (.k (.k (.cons (.nils _) (.cons (.nils _) .nil))))) <|aD ?_)
 refine aC (aA rfl (aG rfl rfl (lb rfl) (sv (d:=.nils) rfl)) <|aD ?_)
 obtain ⟨x1,hx1,h⟩:=aO h
 refine aC (aA rfl (aE rfl rfl (lb rfl) (sv (d:=.nils) rfl)) <|aA rfl (faR 2 rfl rfl rfl Try.underlying71 rfl ti22 (lb rfl) rfl rfl) <|aA rfl (lrL la22 rfl rfl rfl rfl rfl (nle rfl) rfl) <|aA rfl (vO aB.toEnc0 3 rfl rfl (lb rfl) Try.underlying22 ti63 rfl rfl rfl (wA aB (ys:=a0.L) (svL rfl)) hx1) <|aA rfl (aG rfl rfl (lb rfl) (sv (d:=.osl _ _ _) rfl)) <|aD ?_)
 obtain ⟨x2,hx2,h⟩:=aO h
 obtain ⟨x3,hx3,h⟩:=aO h
 obtain ⟨x4,hx4,h⟩:=aO h
 obtain ⟨x5,hx5,h⟩:=aN h
 refine dE rfl [⟨[5],[],[(10,.osl 3 aB.sz x1.length)],[]⟩,
  ⟨[2],[0],[(11,.agg (v1 a0))],[]⟩,
  ⟨[3],[],[(12,.ref 1 0)],[]⟩,
  ⟨[12],[1],[(13,.int .i64 a1.ID)],[]⟩,
  ⟨[11,13],[],[(14,.int .i64 x2)],[]⟩,
  ⟨[3],[1],[(15,.agg (v3 a1))],[]⟩,
  ⟨[10,14],[],[(16,.ref 3 (((x2 : Int).toNat) * aB.sz + 0))],[]⟩,
  ⟨[15,16],[3],[],[(3,.blk 63 (D.flat (x5.map aB.d)))]⟩] rfl ?_ (by kernel_rfl) ?_
 ·refine .cons (lop rfl rfl fun S hA=>(aE rfl rfl (lb rfl) (sv (d:=.osl _ _ _) (agr hA rfl rfl)))) ?_
  refine .cons (lop rfl rfl fun S hA=>(dK (cs:=q5) rfl rfl (lb rfl) Try.underlying71 ag71 ti71 (by decide) (svaR hA rfl rfl) (agi hA rfl rfl) (nle rfl) rfl)) ?_
  refine .cons (lop rfl rfl fun S hA=>(aR rfl rfl (lb rfl) Try.underlying63 rfl ti3 (by decide) (svaR hA rfl rfl) (off':=0) rfl)) ?_
  refine .cons (lop rfl rfl fun S hA=>(aH (d:=.int _ _) rfl rfl (lb rfl) Try.underlying3 ag3 ti3 (by decide) (svaR hA rfl rfl) (agi hA rfl rfl) (nle rfl) rfl)) ?_
  refine .cons (lop rfl rfl fun S hA=>(aX (r:=.int _ _) rfl rfl (lb rfl) cl45 (.cons (svaA q5 hA rfl rfl) (.cons (svaI hA rfl rfl) .nil)) rfl (bT _ _ _ hx2))) ?_
  refine .cons (lop rfl rfl fun S hA=>(dK (cs:=q9) rfl rfl (lb rfl) Try.underlying63 ag63 ti63 (by decide) (svaR hA rfl rfl) (agi hA rfl rfl) (nle rfl) rfl)) ?_
  refine .cons (lop rfl rfl fun S hA=>(bC aB.toEnc0 rfl rfl (lb rfl) Try.underlying22 ti63 (sv (d:=.osl _ _ _) (agr hA rfl rfl)) rfl (svaI hA rfl rfl) hx3)) ?_
  refine .cons (lop rfl rfl fun S hA=>(cJ aB.toEnc0 (a':=a1) rfl rfl ti63 (svaR hA rfl rfl) (agi hA rfl rfl) (svaA q9 hA rfl rfl) rfl rfl rfl hx4 (nle rfl) rfl hx5)) ?_
  exact .nil
 refine aC (aA rfl (aE rfl rfl (lb rfl) (sv (d:=.osl _ _ _) rfl)) <|aA rfl (faR 2 rfl rfl rfl Try.underlying71 rfl ti22 (lb rfl) rfl rfl) <|aA rfl (cV (ds':=q6) rfl rfl ti22 (svR rfl) rfl (sv (d:=.osl _ _ _) rfl) rfl rfl rfl (nle rfl) rfl) <|aD ?_)
 refine aC (aA rfl (lra q6 la71 rfl rfl rfl rfl rfl (nle rfl) rfl) <|aA rfl (stA q6 q6 ti71 rfl rfl rfl rfl rfl rfl rfl rfl (nle rfl) rfl) <|aD ?_)
 refine aW ?_
 obtain rfl:=Option.some.inj h
 refine ⟨.inr rfl,_,(.cons (rva la71 rfl rfl (nle rfl) rfl) .nil),(.cons (.agg (.k (.k (.cons (FDT aB rfl (dO hx5 rfl)) (.all _))))) .nil)⟩

theorem mR (a0 : (List Int)) (a1 : Int) (r : (List Int)) (h : iI a0 a1 = some r) : dP Try.prog 80 [.slice false (a0.map (eInt .i64).d),.int .i64 a1] (.slice false (r.map (eInt .i64).d)):=by
 refine bG (rs:=[.slice false (r.map (eInt .i64).d)]) Try.func80 rfl Try.ntmps80 (nle rfl) rfl fun O hO=>?_
 show IWP _ _ _ _ ⟨[(0,.slice false (a0.map (eInt .i64).d)),(1,.int .i64 a1)],[]⟩ _
 unfold iI at h
 refine aC (aA rfl (aG rfl rfl (lb rfl) (sv (d:=.nils) rfl)) <|aD ?_)
 refine aC (aA rfl (aG rfl rfl (lb rfl) (sv (d:=.nils) rfl)) <|aD ?_)
 refine aS ?_
 refine aC (aA rfl (aG rfl rfl (lb rfl) (sv (d:=.int _ 0) rfl)) <|aD ?_)
 refine aV ?_
 refine bO (α:=Nat × (List Int) × Int) (fun z=>⟨[(0,.slice false (a0.map (eInt .i64).d)),(1,.int .i64 a1),(5,.gsl 21 (eInt .i64).sz (z.2.1.map (eInt .i64).d)),(6,.int .i64 z.2.2)],[(21,.tail 3 (eInt .i64).sz z.2.1.length)]⟩) (fun z=>eL a0 a1 z.1 z.2.1 z.2.2 = some r) (fun z=>z.1) (fuel,([] : (List Int)),0) (fun i=>if i = 21 then 71 else i) ⟨(.s rfl rfl (.s rfl rfl (.cons (.nils rfl) (.sames rfl rfl)))),(.cons (.nils rfl) .nil),bE [71] rfl (by decide),(fun i hi=>by first | rfl | (show (if _ then _ else _) = _; (repeat' split) <;> omega))⟩ ?_ ?_
 ·exact h
 ·
  rintro ⟨n0,v10,v11⟩ h
  cases n0 with
  | zero=>exact absurd h (by unfold eL; exact nofun)
  | succ n0 =>
   unfold eL at h
   refine aS ?_
   obtain ⟨x21,hx21,h⟩:=aN h
   refine aC (aA rfl (mvI rfl rfl rfl rfl) <|aA rfl (mvL rfl rfl rfl rfl) <|aA rfl (cG (eInt .i64) (l:=a0) rfl rfl (lb rfl) Try.underlying23 (svL rfl)) <|aA rfl (aL rfl rfl (lb rfl) (svI rfl) (svI rfl) rfl hx21) <|aD ?_)
   refine aP (b:=_) rfl (fun hc22=>?_) (fun hc22=>?_)
   ·
    replace h:=bP h hc22
    refine aT ?_
    refine aJ ?_
    refine aS ?_
    refine aV ?_
    obtain ⟨x23,hx23,h⟩:=aO h
    obtain ⟨x24,hx24,h⟩:=aN h
    refine aC (aA rfl (mvL rfl rfl rfl rfl) <|aA rfl (mvI rfl rfl rfl rfl) <|aA rfl (bW (eInt .i64) (cs:=[.int _ _]) rfl rfl (lb rfl) Try.underlying23 ti3 (svL rfl) (svI rfl) hx23 rfl rfl) <|aA rfl (bU rfl rfl (lb rfl) Try.underlying3 ag3 ti3 (by decide) (sv (d:=.fptr [.int _ _]) rfl) (nle rfl)) <|aA rfl (mvI rfl rfl rfl rfl) <|aA rfl (aL rfl rfl (lb rfl) (svI rfl) (svI rfl) rfl hx24) <|aD ?_)
    refine aP (b:=_) rfl (fun hc25=>?_) (fun hc25=>?_)
    ·
     replace h:=bP h hc25
     obtain ⟨x26,hx26,h⟩:=aO h
     obtain ⟨x27,hx27,h⟩:=aO h
     refine aU (aA rfl (aE rfl rfl (lb rfl) (sv (d:=.gsl _ _ _) rfl)) <|aA rfl (mvL rfl rfl rfl rfl) <|aA rfl (mvI rfl rfl rfl rfl) <|aA rfl (bW (eInt .i64) (cs:=[.int _ _]) rfl rfl (lb rfl) Try.underlying23 ti3 (svL rfl) (svI rfl) hx26 rfl rfl) <|aA rfl (bU rfl rfl (lb rfl) Try.underlying3 ag3 ti3 (by decide) (sv (d:=.fptr [.int _ _]) rfl) (nle rfl)) <|aA rfl (nU (eInt .i64) ([x26] : (List Int)) 22 rfl rfl (lb rfl) Try.underlying23 ti3 rfl (.cons (svI rfl) .nil) rfl rfl (by decide)) <|aA rfl (mY (eInt .i64) 23 rfl rfl (lb rfl) Try.underlying23 ti3 rfl rfl rfl rfl (svg rfl) hx27) <|aA rfl (aG rfl rfl (lb rfl) (sv (d:=.gsl _ _ _) rfl)) <|bI ?_)
     refine bJ ?_
     refine aJ ?_
     obtain ⟨x28,hx28,h⟩:=aN h
     refine aU (aA rfl (mvI rfl rfl rfl rfl) <|aA rfl (aQ rfl rfl (lb rfl) (svI rfl) (sv (d:=.int _ 1) rfl) rfl hx28) <|aA rfl (asI rfl rfl rfl rfl) <|bI ?_)
     refine aJ ⟨(n0,x27,x28),(fun i=>if i = 21 then 23 else i),⟨(.sames rfl rfl),(.cons (.tail rfl) .nil),bE [23] rfl (by decide),(fun i hi=>by first | rfl | (show (if _ then _ else _) = _; (repeat' split) <;> omega))⟩,?_,?_⟩
     exact h
     exact Nat.lt_succ_self _
    ·
     replace h:=bQ h hc25
     refine aT ?_
     refine bJ ?_
     refine aJ ?_
     obtain ⟨x29,hx29,h⟩:=aN h
     refine aU (aA rfl (mvI rfl rfl rfl rfl) <|aA rfl (aQ rfl rfl (lb rfl) (svI rfl) (sv (d:=.int _ 1) rfl) rfl hx29) <|aA rfl (asI rfl rfl rfl rfl) <|bI ?_)
     refine aJ ⟨(n0,v10,x29),(fun i=>i),⟨(.sames rfl rfl),(.cons (.tail rfl) .nil),bE [21] rfl (by decide),fun _ _=>rfl⟩,?_,?_⟩
     exact h
     exact Nat.lt_succ_self _
   ·
    replace h:=bQ h hc22
    refine bY ?_
    refine bB ?_
    refine bB ?_
    refine bZ ?_
    refine aJ ?_
    refine aC (aA rfl (aE rfl rfl (lb rfl) (sv (d:=.gsl _ _ _) rfl)) <|aA rfl (aG rfl rfl (lb rfl) (sv (d:=.gsl _ _ _) rfl)) <|aD ?_)
    refine aW ?_
    obtain rfl:=Option.some.inj h
    refine ⟨.inr rfl,(.cons (wU rfl rfl) .nil)⟩

theorem kV (a0 : aM) (a1 : Int) (r : aM) (h : eB a0 a1 = some r) : dP Try.prog 69 [.agg (v1 a0), .int .i64 a1] (.agg (v1 r)) := by
 refine bG (rs:=[.agg (v1 r)]) Try.func69 rfl Try.ntmps69 (nle rfl) rfl fun O hO=>?_
 show IWP _ _ _ _ ⟨[(0,.agg (v1 a0)),(1,.int .i64 a1)],[]⟩ _
 unfold eB at h
 refine aC (aA rfl (cK (cs:=q5) 0 rfl rfl (lb rfl) rfl (svA q5 rfl) rfl rfl) <|aA rfl (bX (cs:=q11) (cs':=(w16 0 0 ([] : List aF) ([] : List Int))) 1 rfl rfl (lb rfl) rfl ti71 rfl rfl (.k (.k (.cons (.nils _) (.cons (.nils _) .nil))))) <|aD ?_)
 obtain ⟨x1,hx1,h⟩:=aO h
 obtain ⟨x2,hx2,h⟩:=aO h
 refine dE rfl [⟨[2],[],[(13,.ref 0 2)],[]⟩,
  ⟨[13],[0],[(14,.slice false (a0.L.map aB.d))],[]⟩,
  ⟨[2],[0],[(15,.agg (v1 a0))],[]⟩,
  ⟨[1],[],[(16,.int .i64 a1)],[]⟩,
  ⟨[15,16],[],[(17,.int .i64 x1)],[]⟩,
  ⟨[14,17],[],[(18,.fptr (v3 x2))],[]⟩,
  ⟨[18],[],[(19,.agg (v3 x2))],[]⟩,
  ⟨[],[2],[(5,.ref 2 0)],[(2,.blk 63 (w18 0 0 0 false))]⟩,
  ⟨[5,19],[2],[],[(2,.blk 63 (v3 x2))]⟩] rfl ?_ (by kernel_rfl) ?_
 ·refine .cons (lop rfl rfl fun S hA=>(aR rfl rfl (lb rfl) Try.underlying71 rfl ti22 (by decide) (svaR hA rfl rfl) (off':=2) rfl)) ?_
  refine .cons (lop rfl rfl fun S hA=>(aH (d:=.slice _ _) rfl rfl (lb rfl) Try.underlying22 ag22 ti22 (by decide) (svaR hA rfl rfl) (agi hA rfl rfl) (nle rfl) rfl)) ?_
  refine .cons (lop rfl rfl fun S hA=>(dK (cs:=q5) rfl rfl (lb rfl) Try.underlying71 ag71 ti71 (by decide) (svaR hA rfl rfl) (agi hA rfl rfl) (nle rfl) rfl)) ?_
  refine .cons (lop rfl rfl fun S hA=>(aE rfl rfl (lb rfl) (svaI hA rfl rfl))) ?_
  refine .cons (lop rfl rfl fun S hA=>(aX (r:=.int _ _) rfl rfl (lb rfl) cl45 (.cons (svaA q5 hA rfl rfl) (.cons (svaI hA rfl rfl) .nil)) rfl (bT _ _ _ hx1))) ?_
  refine .cons (lop rfl rfl fun S hA=>(bW aB (cs:=q9) rfl rfl (lb rfl) Try.underlying22 ti63 (svaL hA rfl rfl) (svaI hA rfl rfl) hx2 rfl rfl)) ?_
  refine .cons (lop rfl rfl fun S hA=>(eH (cs:=q9) rfl rfl (lb rfl) Try.underlying63 ag63 ti63 (by decide) (sv (d:=.fptr q9) (agr hA rfl rfl)) (nle rfl) rfl)) ?_
  refine .cons (lop rfl rfl fun S hA=>(bX (cs:=q9) (cs':=(w18 0 0 0 false)) 2 rfl rfl (lb rfl) (agi hA rfl rfl) ti63 rfl rfl (.all _))) ?_
  refine .cons (lop rfl rfl fun S hA=>(cV (ds':=q9) rfl rfl ti63 (svaR hA rfl rfl) (agi hA rfl rfl) (svaA q9 hA rfl rfl) rfl rfl rfl (nle rfl) rfl)) ?_
  exact .nil
 obtain ⟨x3,hx3,h⟩:=aO h
 refine aC (aA rfl (lra q5 la71 rfl rfl rfl rfl rfl (nle rfl) rfl) <|aA rfl (mvI rfl rfl rfl rfl) <|aA rfl (aX (r:=.slice _ _) rfl rfl (lb rfl) cl79 (.cons (svA q5 rfl) (.cons (svI rfl) .nil)) rfl (mC _ _ _ hx3)) <|aA rfl (aG rfl rfl (lb rfl) (svL rfl)) <|aD ?_)
 refine aC (aA rfl (aG rfl rfl (lb rfl) (sv (d:=.int _ 0) rfl)) <|aD ?_)
 refine aS ?_
 refine aC (aA rfl (aG rfl rfl (lb rfl) (sv (d:=.int _ 0) rfl)) <|aD ?_)
 refine aV ?_
 refine bO (α:=Nat × Int × Int) (fun z=>⟨[(1,.int .i64 a1),(2,.ref 0 0),(4,.ref 1 0),(5,.ref 2 0),(6,.slice false (x3.map (eInt .i64).d)),(7,.int .i64 z.2.1),(8,.int .i64 z.2.2)],[(0,.blk 71 (v1 a0)),(1,.blk 71 (w16 0 0 ([] : List aF) ([] : List Int))),(2,.blk 63 (v3 x2))]⟩) (fun z=>eS a0 a1 x2 x3 z.1 z.2.1 z.2.2 = some r) (fun z=>z.1) (fuel,0,0) (fun i=>i) ⟨(.sames rfl rfl),(.cons (.blk rfl rfl rfl) (.cons (.blk rfl rfl rfl) (.cons (.blk rfl rfl rfl) .nil))),bE [0,1,2] rfl (by decide),fun _ _=>rfl⟩ ?_ ?_
 ·exact h
 ·
  rintro ⟨n0,v11,v12⟩ h
  cases n0 with
  | zero=>exact absurd h (by unfold eS; exact nofun)
  | succ n0 =>
   unfold eS at h
   refine aS ?_
   obtain ⟨x20,hx20,h⟩:=aN h
   refine aC (aA rfl (mvI rfl rfl rfl rfl) <|aA rfl (mvL rfl rfl rfl rfl) <|aA rfl (cG (eInt .i64) (l:=x3) rfl rfl (lb rfl) Try.underlying23 (svL rfl)) <|aA rfl (aL rfl rfl (lb rfl) (svI rfl) (svI rfl) rfl hx20) <|aD ?_)
   refine aP (b:=_) rfl (fun hc21=>?_) (fun hc21=>?_)
   ·
    replace h:=bP h hc21
    refine aT ?_
    refine aJ ?_
    refine aS ?_
    refine aV ?_
    obtain ⟨x22,hx22,h⟩:=aO h
    obtain ⟨x23,hx23,h⟩:=aO h
    obtain ⟨x24,hx24,h⟩:=aO h
    obtain ⟨x25,hx25,h⟩:=aN h
    refine lM rfl [⟨[7],[],[(29,.int .i64 v11)],[]⟩,
     ⟨[2],[],[(30,.ref 0 2)],[]⟩,
     ⟨[30],[0],[(31,.slice false (a0.L.map aB.d))],[]⟩,
     ⟨[2],[0],[(32,.agg (v1 a0))],[]⟩,
     ⟨[6],[],[(33,.slice false (x3.map (eInt .i64).d))],[]⟩,
     ⟨[8],[],[(34,.int .i64 v12)],[]⟩,
     ⟨[33,34],[],[(35,.fptr [.int .i64 x22])],[]⟩,
     ⟨[35],[],[(36,.int .i64 x22)],[]⟩,
     ⟨[32,36],[],[(37,.int .i64 x23)],[]⟩,
     ⟨[31,37],[],[(38,.fptr (v3 x24))],[]⟩,
     ⟨[38],[],[(39,.fptr [.int .i64 x24.Weight])],[]⟩,
     ⟨[39],[],[(40,.int .i64 x24.Weight)],[]⟩,
     ⟨[29,40],[],[(41,.int .i64 x25)],[]⟩,
     ⟨[41],[],[(7,.int .i64 x25)],[]⟩] rfl ?_ (by kernel_rfl) ?_
    ·refine .cons (lop rfl rfl fun S hA=>(aE rfl rfl (lb rfl) (svaI hA rfl rfl))) ?_
     refine .cons (lop rfl rfl fun S hA=>(aR rfl rfl (lb rfl) Try.underlying71 rfl ti22 (by decide) (svaR hA rfl rfl) (off':=2) rfl)) ?_
     refine .cons (lop rfl rfl fun S hA=>(aH (d:=.slice _ _) rfl rfl (lb rfl) Try.underlying22 ag22 ti22 (by decide) (svaR hA rfl rfl) (agi hA rfl rfl) (nle rfl) rfl)) ?_
     refine .cons (lop rfl rfl fun S hA=>(dK (cs:=q5) rfl rfl (lb rfl) Try.underlying71 ag71 ti71 (by decide) (svaR hA rfl rfl) (agi hA rfl rfl) (nle rfl) rfl)) ?_
     refine .cons (lop rfl rfl fun S hA=>(aE rfl rfl (lb rfl) (svaL hA rfl rfl))) ?_
     refine .cons (lop rfl rfl fun S hA=>(aE rfl rfl (lb rfl) (svaI hA rfl rfl))) ?_
     refine .cons (lop rfl rfl fun S hA=>(bW (eInt .i64) (cs:=[.int _ _]) rfl rfl (lb rfl) Try.underlying23 ti3 (svaL hA rfl rfl) (svaI hA rfl rfl) hx22 rfl rfl)) ?_
     refine .cons (lop rfl rfl fun S hA=>(bU rfl rfl (lb rfl) Try.underlying3 ag3 ti3 (by decide) (sv (d:=.fptr [.int _ _]) (agr hA rfl rfl)) (nle rfl))) ?_
     refine .cons (lop rfl rfl fun S hA=>(aX (r:=.int _ _) rfl rfl (lb rfl) cl45 (.cons (svaA q5 hA rfl rfl) (.cons (svaI hA rfl rfl) .nil)) rfl (bT _ _ _ hx23))) ?_
     refine .cons (lop rfl rfl fun S hA=>(bW aB (cs:=q9) rfl rfl (lb rfl) Try.underlying22 ti63 (svaL hA rfl rfl) (svaI hA rfl rfl) hx24 rfl rfl)) ?_
     refine .cons (lop rfl rfl fun S hA=>(bV (cs':=[.int _ _]) rfl rfl (lb rfl) Try.underlying63 rfl ti3 (by decide) (sv (d:=.fptr q9) (agr hA rfl rfl)) rfl)) ?_
     refine .cons (lop rfl rfl fun S hA=>(bU rfl rfl (lb rfl) Try.underlying3 ag3 ti3 (by decide) (sv (d:=.fptr [.int _ _]) (agr hA rfl rfl)) (nle rfl))) ?_
     refine .cons (lop rfl rfl fun S hA=>(aQ rfl rfl (lb rfl) (svaI hA rfl rfl) (svaI hA rfl rfl) rfl hx25)) ?_
     refine .cons (lop rfl rfl fun S hA=>(aG rfl rfl (lb rfl) (svaI hA rfl rfl))) ?_
     exact .nil
    refine bJ ?_
    refine aJ ?_
    obtain ⟨x26,hx26,h⟩:=aN h
    refine aU (aA rfl (mvI rfl rfl rfl rfl) <|aA rfl (aQ rfl rfl (lb rfl) (svI rfl) (sv (d:=.int _ 1) rfl) rfl hx26) <|aA rfl (asI rfl rfl rfl rfl) <|bI ?_)
    refine aJ ⟨(n0,x25,x26),(fun i=>i),⟨(.sames rfl rfl),(.cons (.blk rfl rfl rfl) (.cons (.blk rfl rfl rfl) (.cons (.blk rfl rfl rfl) .nil))),bE [0,1,2] rfl (by decide),fun _ _=>rfl⟩,?_,?_⟩
    exact h
    exact Nat.lt_succ_self _
   ·
    replace h:=bQ h hc21
    refine bY ?_
    refine bB ?_
    refine bB ?_
    refine bZ ?_
    refine aJ ?_
    refine aS ?_
    refine aC (aA rfl (aG rfl rfl (lb rfl) (sv (d:=.int _ 0) rfl)) <|aD ?_)
    refine aV ?_
    refine bO (α:=Nat × Int × Int × Int × (List aF) × (List Int)) (fun z=>⟨[(1,.int .i64 a1),(2,.ref 0 0),(4,.ref 1 0),(5,.ref 2 0),(6,.slice false (x3.map (eInt .i64).d)),(7,.int .i64 v11),(9,.int .i64 z.2.1)],[(0,.blk 71 (w16 z.2.2.1 z.2.2.2.1 z.2.2.2.2.1 z.2.2.2.2.2)),(1,.blk 71 (w16 0 0 ([] : List aF) ([] : List Int))),(2,.blk 63 (v3 x2))]⟩) (fun z=>eG a1 x2 x3 v11 z.1 z.2.1 z.2.2.1 z.2.2.2.1 z.2.2.2.2.1 z.2.2.2.2.2 = some r) (fun z=>z.1) (fuel,0,a0.Room,a0.Keep,a0.L,a0.Closed) (fun i=>i) ⟨(.sames rfl rfl),(.cons (.blk rfl rfl rfl) (.cons (.blk rfl rfl rfl) (.cons (.blk rfl rfl rfl) .nil))),bE [0,1,2] rfl (by decide),fun _ _=>rfl⟩ ?_ ?_
    ·exact h
    ·
     rintro ⟨n1,v37,v38,v39,v40,v41⟩ h
     cases n1 with
     | zero=>exact absurd h (by unfold eG; exact nofun)
     | succ n1 =>
      unfold eG at h
      refine aS ?_
      obtain ⟨x52,hx52,h⟩:=aN h
      refine aC (aA rfl (mvI rfl rfl rfl rfl) <|aA rfl (mvL rfl rfl rfl rfl) <|aA rfl (cG (eInt .i64) (l:=x3) rfl rfl (lb rfl) Try.underlying23 (svL rfl)) <|aA rfl (aL rfl rfl (lb rfl) (svI rfl) (svI rfl) rfl hx52) <|aD ?_)
      refine aP (b:=_) rfl (fun hc53=>?_) (fun hc53=>?_)
      ·
       replace h:=bP h hc53
       refine aT ?_
       refine aJ ?_
       refine aS ?_
       refine aV ?_
       obtain ⟨x54,hx54,h⟩:=aO h
       obtain ⟨x55,hx55,h⟩:=aO h
       obtain ⟨x56,hx56,h⟩:=aO h
       refine dE rfl [⟨[2],[],[(48,.ref 0 2)],[]⟩,
        ⟨[48],[0],[(49,.slice false (v40.map aB.d))],[]⟩,
        ⟨[2],[0],[(50,.agg (w16 v38 v39 v40 v41))],[]⟩,
        ⟨[6],[],[(51,.slice false (x3.map (eInt .i64).d))],[]⟩,
        ⟨[9],[],[(52,.int .i64 v37)],[]⟩,
        ⟨[51,52],[],[(53,.fptr [.int .i64 x54])],[]⟩,
        ⟨[53],[],[(54,.int .i64 x54)],[]⟩,
        ⟨[50,54],[],[(55,.int .i64 x55)],[]⟩,
        ⟨[49,55],[],[(56,.fptr (v3 x56))],[]⟩,
        ⟨[56],[],[(57,.agg (v3 x56))],[]⟩,
        ⟨[],[3],[(10,.ref 3 0)],[(3,.blk 63 (w18 0 0 0 false))]⟩,
        ⟨[10,57],[3],[],[(3,.blk 63 (v3 x56))]⟩] rfl ?_ (by kernel_rfl) ?_
       ·refine .cons (lop rfl rfl fun S hA=>(aR rfl rfl (lb rfl) Try.underlying71 rfl ti22 (by decide) (svaR hA rfl rfl) (off':=2) rfl)) ?_
        refine .cons (lop rfl rfl fun S hA=>(aH (d:=.slice _ _) rfl rfl (lb rfl) Try.underlying22 ag22 ti22 (by decide) (svaR hA rfl rfl) (agi hA rfl rfl) (nle rfl) rfl)) ?_
        refine .cons (lop rfl rfl fun S hA=>(dK (cs:=q5) rfl rfl (lb rfl) Try.underlying71 ag71 ti71 (by decide) (svaR hA rfl rfl) (agi hA rfl rfl) (nle rfl) rfl)) ?_
        refine .cons (lop rfl rfl fun S hA=>(aE rfl rfl (lb rfl) (svaL hA rfl rfl))) ?_
        refine .cons (lop rfl rfl fun S hA=>(aE rfl rfl (lb rfl) (svaI hA rfl rfl))) ?_
        refine .cons (lop rfl rfl fun S hA=>(bW (eInt .i64) (cs:=[.int _ _]) rfl rfl (lb rfl) Try.underlying23 ti3 (svaL hA rfl rfl) (svaI hA rfl rfl) hx54 rfl rfl)) ?_
        refine .cons (lop rfl rfl fun S hA=>(bU rfl rfl (lb rfl) Try.underlying3 ag3 ti3 (by decide) (sv (d:=.fptr [.int _ _]) (agr hA rfl rfl)) (nle rfl))) ?_
        refine .cons (lop rfl rfl fun S hA=>(aX (r:=.int _ _) rfl rfl (lb rfl) cl45 (.cons (svaA q5 hA rfl rfl) (.cons (svaI hA rfl rfl) .nil)) rfl (bT _ _ _ hx55))) ?_
        refine .cons (lop rfl rfl fun S hA=>(bW aB (cs:=q9) rfl rfl (lb rfl) Try.underlying22 ti63 (svaL hA rfl rfl) (svaI hA rfl rfl) hx56 rfl rfl)) ?_
        refine .cons (lop rfl rfl fun S hA=>(eH (cs:=q9) rfl rfl (lb rfl) Try.underlying63 ag63 ti63 (by decide) (sv (d:=.fptr q9) (agr hA rfl rfl)) (nle rfl) rfl)) ?_
        refine .cons (lop rfl rfl fun S hA=>(bX (cs:=q9) (cs':=(w18 0 0 0 false)) 3 rfl rfl (lb rfl) (agi hA rfl rfl) ti63 rfl rfl (.all _))) ?_
        refine .cons (lop rfl rfl fun S hA=>(cV (ds':=q9) rfl rfl ti63 (svaR hA rfl rfl) (agi hA rfl rfl) (svaA q9 hA rfl rfl) rfl rfl rfl (nle rfl) rfl)) ?_
        exact .nil
       refine aC (aA rfl (faR 1 rfl rfl rfl Try.underlying63 rfl ti3 (lb rfl) rfl rfl) <|aA rfl (aH (d:=.int _ _) rfl rfl (lb rfl) Try.underlying3 ag3 ti3 (by decide) (svR rfl) rfl (nle rfl) rfl) <|aA rfl (faR 1 rfl rfl rfl Try.underlying63 rfl ti3 (lb rfl) rfl rfl) <|aA rfl (cV (ds':=q9) rfl rfl ti3 (svR rfl) rfl (svI rfl) rfl rfl rfl (nle rfl) rfl) <|aD ?_)
       obtain ⟨x57,hx57,h⟩:=aN h
       obtain ⟨x58,hx58,h⟩:=aO h
       obtain ⟨x59,hx59,h⟩:=aN h
       refine aC (aA rfl (faR 2 rfl rfl rfl Try.underlying63 rfl ti3 (lb rfl) rfl rfl) <|aA rfl (aH (d:=.int _ _) rfl rfl (lb rfl) Try.underlying3 ag3 ti3 (by decide) (svR rfl) rfl (nle rfl) rfl) <|aA rfl (faR 2 rfl rfl rfl Try.underlying63 rfl ti3 (lb rfl) rfl rfl) <|aA rfl (aH (d:=.int _ _) rfl rfl (lb rfl) Try.underlying3 ag3 ti3 (by decide) (svR rfl) rfl (nle rfl) rfl) <|aA rfl (aQ rfl rfl (lb rfl) (svI rfl) (svI rfl) rfl hx57) <|aA rfl (mvI rfl rfl rfl rfl) <|aA rfl (mX rfl rfl (lb rfl) (svI rfl) (svI rfl) hx58) <|aA rfl (xI rfl rfl (lb rfl) (sv (d:=.int _ 1) rfl) (svI rfl) hx59) <|aA rfl (faR 2 rfl rfl rfl Try.underlying63 rfl ti3 (lb rfl) rfl rfl) <|aA rfl (cV (ds':=q9) rfl rfl ti3 (svR rfl) rfl (svI rfl) rfl rfl rfl (nle rfl) rfl) <|aD ?_)
       obtain ⟨x60,hx60,h⟩:=aO h
       refine aU (aA rfl (lra q5 la71 rfl rfl rfl rfl rfl (nle rfl) rfl) <|aA rfl (lra q9 la63 rfl rfl rfl rfl rfl (nle rfl) rfl) <|aA rfl (aX (r:=.agg q5) rfl rfl (lb rfl) cl71 (.cons (svA q5 rfl) (.cons (svA q9 rfl) .nil)) rfl (hY _ _ _ hx60)) <|aA rfl (stA q5 q5 ti71 rfl rfl rfl rfl rfl rfl rfl rfl (nle rfl) rfl) <|bI ?_)
       refine bJ ?_
       refine aJ ?_
       obtain ⟨x61,hx61,h⟩:=aN h
       refine aU (aA rfl (mvI rfl rfl rfl rfl) <|aA rfl (aQ rfl rfl (lb rfl) (svI rfl) (sv (d:=.int _ 1) rfl) rfl hx61) <|aA rfl (asI rfl rfl rfl rfl) <|bI ?_)
       refine aJ ⟨(n1,x61,x60.Room,x60.Keep,x60.L,x60.Closed),(fun i=>i),⟨(.sames rfl rfl),(.cons (.blk rfl rfl rfl) (.cons (.blk rfl rfl rfl) (.cons (.blk rfl rfl rfl) .nil))),bE [0,1,2] rfl (by decide),fun _ _=>rfl⟩,?_,?_⟩
       exact h
       exact Nat.lt_succ_self _
      ·
       replace h:=bQ h hc53
       refine bY ?_
       refine bB ?_
       refine bB ?_
       refine bZ ?_
       refine aJ ?_
       refine aC (aA rfl (aG rfl rfl (lb rfl) (sv (d:=.nils) rfl)) <|aD ?_)
       refine aS ?_
       refine aC (aA rfl (aG rfl rfl (lb rfl) (sv (d:=.int _ 0) rfl)) <|aD ?_)
       refine aV ?_
       refine bO (α:=Nat × (List aF) × Int) (fun z=>⟨[(1,.int .i64 a1),(2,.ref 0 0),(4,.ref 1 0),(11,.gsl 23 aB.sz (z.2.1.map aB.d)),(12,.int .i64 z.2.2)],[(0,.blk 71 (w16 v38 v39 v40 v41)),(1,.blk 71 (w16 0 0 ([] : List aF) ([] : List Int))),(23,.tail 63 aB.sz z.2.1.length)]⟩) (fun z=>eF a1 v38 v39 v40 v41 z.1 z.2.1 z.2.2 = some r) (fun z=>z.1) (fuel,([] : (List aF)),0) (fun i=>if i = 23 then 76 else i) ⟨(.s rfl rfl (.s rfl rfl (.s rfl rfl (.cons (.nils rfl) (.sames rfl rfl))))),(.cons (.blk rfl rfl rfl) (.cons (.blk rfl rfl rfl) (.cons (.nils rfl) .nil))),bE [0,1,76] rfl (by decide),(fun i hi=>by first | rfl | (show (if _ then _ else _) = _; (repeat' split) <;> omega))⟩ ?_ ?_
       ·exact h
       ·
        rintro ⟨n2,v71,v72⟩ h
        cases n2 with
        | zero=>exact absurd h (by unfold eF; exact nofun)
        | succ n2 =>
         unfold eF at h
         refine aS ?_
         obtain ⟨x82,hx82,h⟩:=aN h
         refine aC (aA rfl (mvI rfl rfl rfl rfl) <|aA rfl (faR 2 rfl rfl rfl Try.underlying71 rfl ti22 (lb rfl) rfl rfl) <|aA rfl (lrL la22 rfl rfl rfl rfl rfl (nle rfl) rfl) <|aA rfl (cG aB (l:=v40) rfl rfl (lb rfl) Try.underlying22 (svL rfl)) <|aA rfl (aL rfl rfl (lb rfl) (svI rfl) (svI rfl) rfl hx82) <|aD ?_)
         refine aP (b:=_) rfl (fun hc83=>?_) (fun hc83=>?_)
         ·
          replace h:=bP h hc83
          refine aT ?_
          refine aJ ?_
          refine aS ?_
          refine aV ?_
          obtain ⟨x84,hx84,h⟩:=aO h
          obtain ⟨x85,hx85,h⟩:=aN h
          refine aC (aA rfl (faR 2 rfl rfl rfl Try.underlying71 rfl ti22 (lb rfl) rfl rfl) <|aA rfl (lrL la22 rfl rfl rfl rfl rfl (nle rfl) rfl) <|aA rfl (mvI rfl rfl rfl rfl) <|aA rfl (bW aB (cs:=q9) rfl rfl (lb rfl) Try.underlying22 ti63 (svL rfl) (svI rfl) hx84 rfl rfl) <|aA rfl (bV (cs':=[.int _ _]) rfl rfl (lb rfl) Try.underlying63 rfl ti3 (by decide) (sv (d:=.fptr q9) rfl) rfl) <|aA rfl (bU rfl rfl (lb rfl) Try.underlying3 ag3 ti3 (by decide) (sv (d:=.fptr [.int _ _]) rfl) (nle rfl)) <|aA rfl (mvI rfl rfl rfl rfl) <|aA rfl (aL rfl rfl (lb rfl) (svI rfl) (svI rfl) rfl hx85) <|aD ?_)
          refine aP (b:=_) rfl (fun hc86=>?_) (fun hc86=>?_)
          ·
           replace h:=bP h hc86
           obtain ⟨x87,hx87,h⟩:=aO h
           obtain ⟨x88,hx88,h⟩:=aO h
           refine aU (aA rfl (aE rfl rfl (lb rfl) (sv (d:=.gsl _ _ _) rfl)) <|aA rfl (faR 2 rfl rfl rfl Try.underlying71 rfl ti22 (lb rfl) rfl rfl) <|aA rfl (lrL la22 rfl rfl rfl rfl rfl (nle rfl) rfl) <|aA rfl (mvI rfl rfl rfl rfl) <|aA rfl (bW aB (cs:=q9) rfl rfl (lb rfl) Try.underlying22 ti63 (svL rfl) (svI rfl) hx87 rfl rfl) <|aA rfl (eH (cs:=q9) rfl rfl (lb rfl) Try.underlying63 ag63 ti63 (by decide) (sv (d:=.fptr q9) rfl) (nle rfl) rfl) <|aA rfl (nU aB ([x87] : (List aF)) 24 rfl rfl (lb rfl) Try.underlying22 ti63 rfl (.cons (svA q9 rfl) .nil) rfl rfl (by decide)) <|aA rfl (mY aB 25 rfl rfl (lb rfl) Try.underlying22 ti63 rfl rfl rfl rfl (svg rfl) hx88) <|aA rfl (aG rfl rfl (lb rfl) (sv (d:=.gsl _ _ _) rfl)) <|bI ?_)
           refine bJ ?_
           refine aJ ?_
           obtain ⟨x89,hx89,h⟩:=aN h
           refine aU (aA rfl (mvI rfl rfl rfl rfl) <|aA rfl (aQ rfl rfl (lb rfl) (svI rfl) (sv (d:=.int _ 1) rfl) rfl hx89) <|aA rfl (asI rfl rfl rfl rfl) <|bI ?_)
           refine aJ ⟨(n2,x88,x89),(fun i=>if i = 23 then 25 else i),⟨(.sames rfl rfl),(.cons (.blk rfl rfl rfl) (.cons (.blk rfl rfl rfl) (.cons (.tail rfl) .nil))),bE [0,1,25] rfl (by decide),(fun i hi=>by first | rfl | (show (if _ then _ else _) = _; (repeat' split) <;> omega))⟩,?_,?_⟩
           exact h
           exact Nat.lt_succ_self _
          ·
           replace h:=bQ h hc86
           refine aT ?_
           refine bJ ?_
           refine aJ ?_
           obtain ⟨x90,hx90,h⟩:=aN h
           refine aU (aA rfl (mvI rfl rfl rfl rfl) <|aA rfl (aQ rfl rfl (lb rfl) (svI rfl) (sv (d:=.int _ 1) rfl) rfl hx90) <|aA rfl (asI rfl rfl rfl rfl) <|bI ?_)
           refine aJ ⟨(n2,v71,x90),(fun i=>i),⟨(.sames rfl rfl),(.cons (.blk rfl rfl rfl) (.cons (.blk rfl rfl rfl) (.cons (.tail rfl) .nil))),bE [0,1,23] rfl (by decide),fun _ _=>rfl⟩,?_,?_⟩
           exact h
           exact Nat.lt_succ_self _
         ·
          replace h:=bQ h hc83
          refine bY ?_
          refine bB ?_
          refine bB ?_
          refine bZ ?_
          refine aJ ?_
          refine aC (aA rfl (aE rfl rfl (lb rfl) (sv (d:=.gsl _ _ _) rfl)) <|aA rfl (faR 2 rfl rfl rfl Try.underlying71 rfl ti22 (lb rfl) rfl rfl) <|aA rfl (cV (ds':=q5) rfl rfl ti22 (svR rfl) rfl (svg rfl) rfl rfl rfl (nle rfl) rfl) <|aD ?_)
          obtain ⟨x91,hx91,h⟩:=aO h
          refine aC (aA rfl (faR 3 rfl rfl rfl Try.underlying71 rfl ti23 (lb rfl) rfl rfl) <|aA rfl (lrL la23 rfl rfl rfl rfl rfl (nle rfl) rfl) <|aA rfl (mvI rfl rfl rfl rfl) <|aA rfl (aX (r:=.slice _ _) rfl rfl (lb rfl) cl80 (.cons (svL rfl) (.cons (svI rfl) .nil)) rfl (mR _ _ _ hx91)) <|aA rfl (faR 3 rfl rfl rfl Try.underlying71 rfl ti23 (lb rfl) rfl rfl) <|aA rfl (cV (ds':=q5) rfl rfl ti23 (svR rfl) rfl (svL rfl) rfl rfl rfl (nle rfl) rfl) <|aD ?_)
          refine aC (aA rfl (lra q5 la71 rfl rfl rfl rfl rfl (nle rfl) rfl) <|aA rfl (stA q5 q5 ti71 rfl rfl rfl rfl rfl rfl rfl rfl (nle rfl) rfl) <|aD ?_)
          refine aW ?_
          obtain rfl:=Option.some.inj h
          refine ⟨.inr rfl,(.cons (rva la71 rfl rfl (nle rfl) rfl) .nil)⟩

theorem mI (a0 : aM) (a1 : Int) (a2 : Int) (a3 : Int) (a4 : Bool) (r : aM) (h : eA a0 a1 a2 a3 a4 = some r) : dP Try.prog 70 [.agg (v1 a0),.int .i64 a1,.int .i64 a2,.int .i64 a3,.bool a4] (.agg (v1 r)):=by
 refine bG (rs:=[.agg (v1 r)]) Try.func70 rfl Try.ntmps70 (nle rfl) rfl fun O hO=>?_
 show IWP _ _ _ _ ⟨[(0,.agg (v1 a0)),(1,.int .i64 a1),(2,.int .i64 a2),(3,.int .i64 a3),(4,.bool a4)],[]⟩ _
 unfold eA at h
 refine aC (aA rfl (cK (cs:=q5) 0 rfl rfl (lb rfl) rfl (svA q5 rfl) rfl rfl) <|aA rfl (bX (cs:=q11) (cs':=(w16 0 0 ([] : List aF) ([] : List Int))) 1 rfl rfl (lb rfl) rfl ti71 rfl rfl (.k (.k (.cons (.nils _) (.cons (.nils _) .nil))))) <|aD ?_)
 refine iA (α:=Int × Int × Bool) (fun z=>⟨[(1,.int .i64 a1),(2,.int .i64 z.1),(3,.int .i64 z.2.1),(4,.bool z.2.2),(5,.ref 0 0),(10,.ref 1 0)],[(0,.blk 71 (v1 a0)),(1,.blk 71 (w16 0 0 ([] : List aF) ([] : List Int)))]⟩) (fun z=>gG a0 a1 z.1 z.2.1 z.2.2 = some r) ?_ ?_
 ·
  obtain ⟨x59,hx59,h⟩:=aN h
  obtain ⟨x60,hx60,h⟩:=aO h
  obtain ⟨x61,hx61,h⟩:=aN h
  obtain ⟨x62,hx62,h⟩:=aN h
  refine aC (aA rfl (mvI rfl rfl rfl rfl) <|aA rfl (aL rfl rfl (lb rfl) (svI rfl) (sv (d:=.int _ 0) rfl) rfl hx59) <|aA rfl (mvB rfl rfl rfl rfl) <|aI rfl rfl (.one rfl) rfl (by decide) (fun hb=>(lra q5 la71 rfl rfl rfl rfl rfl (nle rfl) rfl)) <|aI rfl rfl (.one rfl) rfl (by decide) (fun hb=>(mvI rfl rfl rfl rfl)) <|aI rfl rfl (.one rfl) rfl (by decide) (fun hb=>(aX (r:=.int _ _) rfl rfl (lb rfl) cl45 (.cons (svcA (v1 a0) rfl hb) (.cons (svcI rfl hb) .nil)) rfl (bT _ _ _ (gd_t hx60 hb)))) <|aI rfl rfl (.one rfl) rfl (by decide) (fun hb=>(aL rfl rfl (lb rfl) (svcI rfl hb) (sv (d:=.int _ 0) rfl) rfl hx61)) <|aA rfl (cO rfl rfl (lb rfl) (svB rfl) rfl rfl hx62) <|aD ?_)
  refine aP (b:=_) rfl (fun hc63=>?_) (fun hc63=>?_)
  ·
   replace h:=bP h hc63
   refine aU (aA rfl (aG rfl rfl (lb rfl) (sv (d:=.int _ 0) rfl)) <|aA rfl (aG rfl rfl (lb rfl) (sv (d:=.int _ 16) rfl)) <|aA rfl (aG rfl rfl (lb rfl) (sv (d:=.bool false) rfl)) <|bI ?_)
   refine aJ ⟨(0,16,false),(fun i=>i),⟨(.sames rfl rfl),(.cons (.blk rfl rfl rfl) (.cons (.blk rfl rfl rfl) .nil)),bE [0,1] rfl (by decide),fun _ _=>rfl⟩,?_⟩
   exact h
  ·
   replace h:=bQ h hc63
   refine aT ?_
   refine aJ ⟨(a2,a3,a4),(fun i=>i),⟨(.sames rfl rfl),(.cons (.blk rfl rfl rfl) (.cons (.blk rfl rfl rfl) .nil)),bE [0,1] rfl (by decide),fun _ _=>rfl⟩,?_⟩
   exact h
 ·
  rintro ⟨v6,v7,v8⟩ h
  unfold gG at h
  obtain ⟨x9,hx9,h⟩:=aO h
  obtain ⟨x10,hx10,h⟩:=aO h
  refine dE rfl [⟨[5],[],[(24,.ref 0 2)],[]⟩,
   ⟨[24],[0],[(25,.slice false (a0.L.map aB.d))],[]⟩,
   ⟨[5],[0],[(26,.agg (v1 a0))],[]⟩,
   ⟨[1],[],[(27,.int .i64 a1)],[]⟩,
   ⟨[26,27],[],[(28,.int .i64 x9)],[]⟩,
   ⟨[25,28],[],[(29,.fptr (v3 x10))],[]⟩,
   ⟨[29],[],[(30,.agg (v3 x10))],[]⟩,
   ⟨[],[2],[(11,.ref 2 0)],[(2,.blk 63 (w18 0 0 0 false))]⟩,
   ⟨[11,30],[2],[],[(2,.blk 63 (v3 x10))]⟩] rfl ?_ (by kernel_rfl) ?_
  ·refine .cons (lop rfl rfl fun S hA=>(aR rfl rfl (lb rfl) Try.underlying71 rfl ti22 (by decide) (svaR hA rfl rfl) (off':=2) rfl)) ?_
   refine .cons (lop rfl rfl fun S hA=>(aH (d:=.slice _ _) rfl rfl (lb rfl) Try.underlying22 ag22 ti22 (by decide) (svaR hA rfl rfl) (agi hA rfl rfl) (nle rfl) rfl)) ?_
   refine .cons (lop rfl rfl fun S hA=>(dK (cs:=q5) rfl rfl (lb rfl) Try.underlying71 ag71 ti71 (by decide) (svaR hA rfl rfl) (agi hA rfl rfl) (nle rfl) rfl)) ?_
   refine .cons (lop rfl rfl fun S hA=>(aE rfl rfl (lb rfl) (svaI hA rfl rfl))) ?_
   refine .cons (lop rfl rfl fun S hA=>(aX (r:=.int _ _) rfl rfl (lb rfl) cl45 (.cons (svaA q5 hA rfl rfl) (.cons (svaI hA rfl rfl) .nil)) rfl (bT _ _ _ hx9))) ?_
   refine .cons (lop rfl rfl fun S hA=>(bW aB (cs:=q9) rfl rfl (lb rfl) Try.underlying22 ti63 (svaL hA rfl rfl) (svaI hA rfl rfl) hx10 rfl rfl)) ?_
   refine .cons (lop rfl rfl fun S hA=>(eH (cs:=q9) rfl rfl (lb rfl) Try.underlying63 ag63 ti63 (by decide) (sv (d:=.fptr q9) (agr hA rfl rfl)) (nle rfl) rfl)) ?_
   refine .cons (lop rfl rfl fun S hA=>(bX (cs:=q9) (cs':=(w18 0 0 0 false)) 2 rfl rfl (lb rfl) (agi hA rfl rfl) ti63 rfl rfl (.all _))) ?_
   refine .cons (lop rfl rfl fun S hA=>(cV (ds':=q9) rfl rfl ti63 (svaR hA rfl rfl) (agi hA rfl rfl) (svaA q9 hA rfl rfl) rfl rfl rfl (nle rfl) rfl)) ?_
   exact .nil
  refine iA (α:=Int × Int × (List aF) × (List Int)) (fun z=>⟨[(1,.int .i64 a1),(2,.int .i64 v6),(3,.int .i64 v7),(4,.bool v8),(5,.ref 0 0),(10,.ref 1 0),(11,.ref 2 0)],[(0,.blk 71 (w16 z.1 z.2.1 z.2.2.1 z.2.2.2)),(1,.blk 71 (w16 0 0 ([] : List aF) ([] : List Int))),(2,.blk 63 (v3 x10))]⟩) (fun z=>gF a1 v6 v7 v8 x10 z.1 z.2.1 z.2.2.1 z.2.2.2 = some r) ?_ ?_
  ·
   obtain ⟨x53,hx53,h⟩:=aO h
   obtain ⟨x54,hx54,h⟩:=aO h
   refine aC (aA rfl (lra q5 la71 rfl rfl rfl rfl rfl (nle rfl) rfl) <|aA rfl (mvI rfl rfl rfl rfl) <|aA rfl (aX (r:=.slice _ _) rfl rfl (lb rfl) cl47 (.cons (svA q5 rfl) (.cons (svI rfl) .nil)) rfl (mB _ _ _ hx53)) <|aA rfl (mvI rfl rfl rfl rfl) <|aA rfl (aX (r:=.bool _) rfl rfl (lb rfl) cl46 (.cons (svL rfl) (.cons (svI rfl) .nil)) rfl (mU _ _ _ hx54)) <|aD ?_)
   refine aP (b:=_) rfl (fun hc55=>?_) (fun hc55=>?_)
   ·
    replace h:=bP h hc55
    obtain ⟨x56,hx56,h⟩:=aO h
    obtain ⟨x57,hx57,h⟩:=aO h
    refine dE rfl [⟨[5],[],[(36,.ref 0 2)],[]⟩,
     ⟨[36],[0],[(37,.slice false (a0.L.map aB.d))],[]⟩,
     ⟨[5],[0],[(38,.agg (v1 a0))],[]⟩,
     ⟨[2],[],[(39,.int .i64 v6)],[]⟩,
     ⟨[38,39],[],[(40,.int .i64 x56)],[]⟩,
     ⟨[37,40],[],[(41,.fptr (v3 x57))],[]⟩,
     ⟨[41],[],[(42,.agg (v3 x57))],[]⟩,
     ⟨[],[3],[(12,.ref 3 0)],[(3,.blk 63 (w18 0 0 0 false))]⟩,
     ⟨[12,42],[3],[],[(3,.blk 63 (v3 x57))]⟩] rfl ?_ (by kernel_rfl) ?_
    ·refine .cons (lop rfl rfl fun S hA=>(aR rfl rfl (lb rfl) Try.underlying71 rfl ti22 (by decide) (svaR hA rfl rfl) (off':=2) rfl)) ?_
     refine .cons (lop rfl rfl fun S hA=>(aH (d:=.slice _ _) rfl rfl (lb rfl) Try.underlying22 ag22 ti22 (by decide) (svaR hA rfl rfl) (agi hA rfl rfl) (nle rfl) rfl)) ?_
     refine .cons (lop rfl rfl fun S hA=>(dK (cs:=q5) rfl rfl (lb rfl) Try.underlying71 ag71 ti71 (by decide) (svaR hA rfl rfl) (agi hA rfl rfl) (nle rfl) rfl)) ?_
     refine .cons (lop rfl rfl fun S hA=>(aE rfl rfl (lb rfl) (svaI hA rfl rfl))) ?_
     refine .cons (lop rfl rfl fun S hA=>(aX (r:=.int _ _) rfl rfl (lb rfl) cl45 (.cons (svaA q5 hA rfl rfl) (.cons (svaI hA rfl rfl) .nil)) rfl (bT _ _ _ hx56))) ?_
     refine .cons (lop rfl rfl fun S hA=>(bW aB (cs:=q9) rfl rfl (lb rfl) Try.underlying22 ti63 (svaL hA rfl rfl) (svaI hA rfl rfl) hx57 rfl rfl)) ?_
     refine .cons (lop rfl rfl fun S hA=>(eH (cs:=q9) rfl rfl (lb rfl) Try.underlying63 ag63 ti63 (by decide) (sv (d:=.fptr q9) (agr hA rfl rfl)) (nle rfl) rfl)) ?_
     refine .cons (lop rfl rfl fun S hA=>(bX (cs:=q9) (cs':=(w18 0 0 0 false)) 3 rfl rfl (lb rfl) (agi hA rfl rfl) ti63 rfl rfl (.all _))) ?_
     refine .cons (lop rfl rfl fun S hA=>(cV (ds':=q9) rfl rfl ti63 (svaR hA rfl rfl) (agi hA rfl rfl) (svaA q9 hA rfl rfl) rfl rfl rfl (nle rfl) rfl)) ?_
     exact .nil
    refine aC (aA rfl (faR 1 rfl rfl rfl Try.underlying63 rfl ti3 (lb rfl) rfl rfl) <|aA rfl (aH (d:=.int _ _) rfl rfl (lb rfl) Try.underlying3 ag3 ti3 (by decide) (svR rfl) rfl (nle rfl) rfl) <|aA rfl (faR 1 rfl rfl rfl Try.underlying63 rfl ti3 (lb rfl) rfl rfl) <|aA rfl (cV (ds':=q9) rfl rfl ti3 (svR rfl) rfl (svI rfl) rfl rfl rfl (nle rfl) rfl) <|aD ?_)
    obtain ⟨x58,hx58,h⟩:=aO h
    refine aU (aA rfl (lra q5 la71 rfl rfl rfl rfl rfl (nle rfl) rfl) <|aA rfl (lra q9 la63 rfl rfl rfl rfl rfl (nle rfl) rfl) <|aA rfl (aX (r:=.agg q5) rfl rfl (lb rfl) cl71 (.cons (svA q5 rfl) (.cons (svA q9 rfl) .nil)) rfl (hY _ _ _ hx58)) <|aA rfl (stA q5 q5 ti71 rfl rfl rfl rfl rfl rfl rfl rfl (nle rfl) rfl) <|bI ?_)
    refine aJ ⟨(x58.Room,x58.Keep,x58.L,x58.Closed),(fun i=>i),⟨(.sames rfl rfl),(.cons (.blk rfl rfl rfl) (.cons (.blk rfl rfl rfl) (.cons (.blk rfl rfl rfl) .nil))),bE [0,1,2] rfl (by decide),fun _ _=>rfl⟩,?_⟩
    exact h
   ·
    replace h:=bQ h hc55
    refine aT ?_
    refine aJ ⟨(a0.Room,a0.Keep,a0.L,a0.Closed),(fun i=>i),⟨(.sames rfl rfl),(.cons (.blk rfl rfl rfl) (.cons (.blk rfl rfl rfl) (.cons (.blk rfl rfl rfl) .nil))),bE [0,1,2] rfl (by decide),fun _ _=>rfl⟩,?_⟩
    exact h
  ·
   rintro ⟨v17,v18,v19,v20⟩ h
   unfold gF at h
   refine aC (aA rfl (mvI rfl rfl rfl rfl) <|aA rfl (mvI rfl rfl rfl rfl) <|aA rfl (faR 1 rfl rfl rfl Try.underlying63 rfl ti3 (lb rfl) rfl rfl) <|aA rfl (cV (ds':=q9) rfl rfl ti3 (svR rfl) rfl (svI rfl) rfl rfl rfl (nle rfl) rfl) <|aA rfl (faR 2 rfl rfl rfl Try.underlying63 rfl ti3 (lb rfl) rfl rfl) <|aA rfl (cV (ds':=q9) rfl rfl ti3 (svR rfl) rfl (svI rfl) rfl rfl rfl (nle rfl) rfl) <|aD ?_)
   obtain ⟨x21,hx21,h⟩:=aO h
   obtain ⟨x22,hx22,h⟩:=aO h
   refine aC (aA rfl (lra q5 la71 rfl rfl rfl rfl rfl (nle rfl) rfl) <|aA rfl (mvI rfl rfl rfl rfl) <|aA rfl (aX (r:=.slice _ _) rfl rfl (lb rfl) cl79 (.cons (svA q5 rfl) (.cons (svI rfl) .nil)) rfl (mC _ _ _ hx21)) <|aA rfl (mvI rfl rfl rfl rfl) <|aA rfl (aX (r:=.slice _ _) rfl rfl (lb rfl) cl80 (.cons (svL rfl) (.cons (svI rfl) .nil)) rfl (mR _ _ _ hx22)) <|aA rfl (aG rfl rfl (lb rfl) (svL rfl)) <|aD ?_)
   refine aS ?_
   refine aC (aA rfl (aG rfl rfl (lb rfl) (sv (d:=.int _ 0) rfl)) <|aD ?_)
   refine aV ?_
   refine bO (α:=Nat × Int × Int × Int × (List aF) × (List Int)) (fun z=>⟨[(1,.int .i64 a1),(4,.bool v8),(5,.ref 0 0),(10,.ref 1 0),(11,.ref 2 0),(13,.slice false (x22.map (eInt .i64).d)),(14,.int .i64 z.2.1)],[(0,.blk 71 (w16 z.2.2.1 z.2.2.2.1 z.2.2.2.2.1 z.2.2.2.2.2)),(1,.blk 71 (w16 0 0 ([] : List aF) ([] : List Int))),(2,.blk 63 (w18 x10.ID v6 v7 x10.Closed))]⟩) (fun z=>eE a1 v6 v7 v8 x10 x22 z.1 z.2.1 z.2.2.1 z.2.2.2.1 z.2.2.2.2.1 z.2.2.2.2.2 = some r) (fun z=>z.1) (fuel,0,v17,v18,v19,v20) (fun i=>i) ⟨(.sames rfl rfl),(.cons (.blk rfl rfl rfl) (.cons (.blk rfl rfl rfl) (.cons (.blk rfl rfl rfl) .nil))),bE [0,1,2] rfl (by decide),fun _ _=>rfl⟩ ?_ ?_
   ·exact h
   ·
    rintro ⟨n2,v31,v32,v33,v34,v35⟩ h
    cases n2 with
    | zero=>exact absurd h (by unfold eE; exact nofun)
    | succ n2 =>
     unfold eE at h
     refine aS ?_
     obtain ⟨x44,hx44,h⟩:=aN h
     obtain ⟨x45,hx45,h⟩:=aN h
     refine aC (aA rfl (mvI rfl rfl rfl rfl) <|aA rfl (mvL rfl rfl rfl rfl) <|aA rfl (cG (eInt .i64) (l:=x22) rfl rfl (lb rfl) Try.underlying23 (svL rfl)) <|aA rfl (aL rfl rfl (lb rfl) (svI rfl) (svI rfl) rfl hx44) <|aA rfl (mvB rfl rfl rfl rfl) <|aI rfl rfl (.one rfl) rfl (by decide) (fun hb=>(mvB rfl rfl rfl rfl)) <|aA rfl (cO rfl rfl (lb rfl) (svB rfl) rfl rfl hx45) <|aD ?_)
     refine aP (b:=_) rfl (fun hc46=>?_) (fun hc46=>?_)
     ·
      replace h:=bP h hc46
      refine aT ?_
      refine aJ ?_
      refine aS ?_
      refine aV ?_
      obtain ⟨x47,hx47,h⟩:=aO h
      obtain ⟨x48,hx48,h⟩:=aO h
      obtain ⟨x49,hx49,h⟩:=aO h
      refine dE rfl [⟨[5],[],[(67,.ref 0 2)],[]⟩,
       ⟨[67],[0],[(68,.slice false (v34.map aB.d))],[]⟩,
       ⟨[5],[0],[(69,.agg (w16 v32 v33 v34 v35))],[]⟩,
       ⟨[13],[],[(70,.slice false (x22.map (eInt .i64).d))],[]⟩,
       ⟨[14],[],[(71,.int .i64 v31)],[]⟩,
       ⟨[70,71],[],[(72,.fptr [.int .i64 x47])],[]⟩,
       ⟨[72],[],[(73,.int .i64 x47)],[]⟩,
       ⟨[69,73],[],[(74,.int .i64 x48)],[]⟩,
       ⟨[68,74],[],[(75,.fptr (v3 x49))],[]⟩,
       ⟨[75],[],[(76,.agg (v3 x49))],[]⟩,
       ⟨[],[3],[(15,.ref 3 0)],[(3,.blk 63 (w18 0 0 0 false))]⟩,
       ⟨[15,76],[3],[],[(3,.blk 63 (v3 x49))]⟩] rfl ?_ (by kernel_rfl) ?_
      ·refine .cons (lop rfl rfl fun S hA=>(aR rfl rfl (lb rfl) Try.underlying71 rfl ti22 (by decide) (svaR hA rfl rfl) (off':=2) rfl)) ?_
       refine .cons (lop rfl rfl fun S hA=>(aH (d:=.slice _ _) rfl rfl (lb rfl) Try.underlying22 ag22 ti22 (by decide) (svaR hA rfl rfl) (agi hA rfl rfl) (nle rfl) rfl)) ?_
       refine .cons (lop rfl rfl fun S hA=>(dK (cs:=q5) rfl rfl (lb rfl) Try.underlying71 ag71 ti71 (by decide) (svaR hA rfl rfl) (agi hA rfl rfl) (nle rfl) rfl)) ?_
       refine .cons (lop rfl rfl fun S hA=>(aE rfl rfl (lb rfl) (svaL hA rfl rfl))) ?_
       refine .cons (lop rfl rfl fun S hA=>(aE rfl rfl (lb rfl) (svaI hA rfl rfl))) ?_
       refine .cons (lop rfl rfl fun S hA=>(bW (eInt .i64) (cs:=[.int _ _]) rfl rfl (lb rfl) Try.underlying23 ti3 (svaL hA rfl rfl) (svaI hA rfl rfl) hx47 rfl rfl)) ?_
       refine .cons (lop rfl rfl fun S hA=>(bU rfl rfl (lb rfl) Try.underlying3 ag3 ti3 (by decide) (sv (d:=.fptr [.int _ _]) (agr hA rfl rfl)) (nle rfl))) ?_
       refine .cons (lop rfl rfl fun S hA=>(aX (r:=.int _ _) rfl rfl (lb rfl) cl45 (.cons (svaA q5 hA rfl rfl) (.cons (svaI hA rfl rfl) .nil)) rfl (bT _ _ _ hx48))) ?_
       refine .cons (lop rfl rfl fun S hA=>(bW aB (cs:=q9) rfl rfl (lb rfl) Try.underlying22 ti63 (svaL hA rfl rfl) (svaI hA rfl rfl) hx49 rfl rfl)) ?_
       refine .cons (lop rfl rfl fun S hA=>(eH (cs:=q9) rfl rfl (lb rfl) Try.underlying63 ag63 ti63 (by decide) (sv (d:=.fptr q9) (agr hA rfl rfl)) (nle rfl) rfl)) ?_
       refine .cons (lop rfl rfl fun S hA=>(bX (cs:=q9) (cs':=(w18 0 0 0 false)) 3 rfl rfl (lb rfl) (agi hA rfl rfl) ti63 rfl rfl (.all _))) ?_
       refine .cons (lop rfl rfl fun S hA=>(cV (ds':=q9) rfl rfl ti63 (svaR hA rfl rfl) (agi hA rfl rfl) (svaA q9 hA rfl rfl) rfl rfl rfl (nle rfl) rfl)) ?_
       exact .nil
      refine aC (aA rfl (mvI rfl rfl rfl rfl) <|aA rfl (faR 1 rfl rfl rfl Try.underlying63 rfl ti3 (lb rfl) rfl rfl) <|aA rfl (cV (ds':=q9) rfl rfl ti3 (svR rfl) rfl (svI rfl) rfl rfl rfl (nle rfl) rfl) <|aD ?_)
      obtain ⟨x50,hx50,h⟩:=aO h
      refine aU (aA rfl (lra q5 la71 rfl rfl rfl rfl rfl (nle rfl) rfl) <|aA rfl (lra q9 la63 rfl rfl rfl rfl rfl (nle rfl) rfl) <|aA rfl (aX (r:=.agg q5) rfl rfl (lb rfl) cl71 (.cons (svA q5 rfl) (.cons (svA q9 rfl) .nil)) rfl (hY _ _ _ hx50)) <|aA rfl (stA q5 q5 ti71 rfl rfl rfl rfl rfl rfl rfl rfl (nle rfl) rfl) <|bI ?_)
      refine bJ ?_
      refine aJ ?_
      obtain ⟨x51,hx51,h⟩:=aN h
      refine aU (aA rfl (mvI rfl rfl rfl rfl) <|aA rfl (aQ rfl rfl (lb rfl) (svI rfl) (sv (d:=.int _ 1) rfl) rfl hx51) <|aA rfl (asI rfl rfl rfl rfl) <|bI ?_)
      refine aJ ⟨(n2,x51,x50.Room,x50.Keep,x50.L,x50.Closed),(fun i=>i),⟨(.sames rfl rfl),(.cons (.blk rfl rfl rfl) (.cons (.blk rfl rfl rfl) (.cons (.blk rfl rfl rfl) .nil))),bE [0,1,2] rfl (by decide),fun _ _=>rfl⟩,?_,?_⟩
      exact h
      exact Nat.lt_succ_self _
     ·
      replace h:=bQ h hc46
      refine bY ?_
      refine bB ?_
      refine bB ?_
      refine bZ ?_
      refine aJ ?_
      obtain ⟨x52,hx52,h⟩:=aO h
      refine aC (aA rfl (lra q5 la71 rfl rfl rfl rfl rfl (nle rfl) rfl) <|aA rfl (lra q9 la63 rfl rfl rfl rfl rfl (nle rfl) rfl) <|aA rfl (aX (r:=.agg q5) rfl rfl (lb rfl) cl71 (.cons (svA q5 rfl) (.cons (svA q9 rfl) .nil)) rfl (hY _ _ _ hx52)) <|aA rfl (stA q5 q5 ti71 rfl rfl rfl rfl rfl rfl rfl rfl (nle rfl) rfl) <|aD ?_)
      refine aW ?_
      obtain rfl:=Option.some.inj h
      refine ⟨.inr rfl,(.cons (rva la71 rfl rfl (nle rfl) rfl) .nil)⟩

theorem lR (a0 : aM) (a1 : Int) (a2 : Int) (a3 : Int) (a4 : Bool) (r : (aM × Int)) (h : dB a0 a1 a2 a3 a4 = some r) : dP Try.prog 33 [.agg (v1 a0), .int .i64 a1, .int .i64 a2, .int .i64 a3, .bool a4] (retD [.agg (v1 r.1), .int .i64 r.2]) := by
 refine bG (rs:=[.agg (v1 r.1),.int .i64 r.2]) Try.func33 rfl Try.ntmps33 (nle rfl) rfl fun O hO=>?_
 show IWP _ _ _ _ ⟨[(0,.agg (v1 a0)),(1,.int .i64 a1),(2,.int .i64 a2),(3,.int .i64 a3),(4,.bool a4)],[]⟩ _
 unfold dB at h
 refine aC (aA rfl (cK (cs:=q5) 0 rfl rfl (lb rfl) rfl (svA q5 rfl) rfl rfl) <|aA rfl (bX (cs:=q11) (cs':=(w16 0 0 ([] : List aF) ([] : List Int))) 1 rfl rfl (lb rfl) rfl ti71 rfl rfl (.k (.k (.cons (.nils _) (.cons (.nils _) .nil))))) <|aA rfl (aG rfl rfl (lb rfl) (sv (d:=.int _ 0) rfl)) <|aD ?_)
 obtain ⟨x1,hx1,h⟩:=aO h
 refine aC (aA rfl (mvI rfl rfl rfl rfl) <|aA rfl (mvI rfl rfl rfl rfl) <|aA rfl (mvI rfl rfl rfl rfl) <|aA rfl (aX (r:=.int _ _) rfl rfl (lb rfl) cl68 (.cons (svI rfl) (.cons (svI rfl) (.cons (svI rfl) .nil))) rfl (nC _ _ _ _ hx1)) <|aA rfl (asI rfl rfl rfl rfl) <|aD ?_)
 refine aS ?_
 refine aV ?_
 obtain ⟨x2,hx2,h⟩:=aN h
 refine aC (aA rfl (mvI rfl rfl rfl rfl) <|aA rfl (aL rfl rfl (lb rfl) (svI rfl) (sv (d:=.int _ 0) rfl) rfl hx2) <|aA rfl (asB rfl rfl rfl rfl) <|aD ?_)
 refine aP (b:=_) rfl (fun hc3=>?_) (fun hc3=>?_)
 ·
  replace h:=bP h hc3
  refine aC (aA rfl (lra q5 la71 rfl rfl rfl rfl rfl (nle rfl) rfl) <|aA rfl (mvI rfl rfl rfl rfl) <|aA rfl (stA q5 q5 ti71 rfl rfl rfl rfl rfl rfl rfl rfl (nle rfl) rfl) <|aA rfl (asI rfl rfl rfl rfl) <|aD ?_)
  refine aW ?_
  refine bN ?_
  refine bA ?_
  obtain rfl:=Option.some.inj h
  refine ⟨.inr rfl,(.cons (rva la71 rfl rfl (nle rfl) rfl) (.cons (sv rfl) .nil))⟩
 ·
  replace h:=bQ h hc3
  obtain ⟨x4,hx4,h⟩:=aO h
  obtain ⟨x5,hx5,h⟩:=aN h
  refine aC (aA rfl (lra q5 la71 rfl rfl rfl rfl rfl (nle rfl) rfl) <|aA rfl (mvI rfl rfl rfl rfl) <|aA rfl (aX (r:=.int _ _) rfl rfl (lb rfl) cl45 (.cons (svA q5 rfl) (.cons (svI rfl) .nil)) rfl (bT _ _ _ hx4)) <|aA rfl (aL rfl rfl (lb rfl) (svI rfl) (sv (d:=.int _ 0) rfl) rfl hx5) <|aA rfl (asB rfl rfl rfl rfl) <|aD ?_)
  refine aP (b:=_) rfl (fun hc6=>?_) (fun hc6=>?_)
  ·
   replace h:=bP h hc6
   refine aC (aA rfl (lra q5 la71 rfl rfl rfl rfl rfl (nle rfl) rfl) <|aA rfl (stA q5 q5 ti71 rfl rfl rfl rfl rfl rfl rfl rfl (nle rfl) rfl) <|aA rfl (aG rfl rfl (lb rfl) (sv (d:=.int _ 13) rfl)) <|aD ?_)
   refine aW ?_
   refine bN ?_
   refine bA ?_
   obtain rfl:=Option.some.inj h
   refine ⟨.inr rfl,(.cons (rva la71 rfl rfl (nle rfl) rfl) (.cons (sv rfl) .nil))⟩
  ·
   replace h:=bQ h hc6
   obtain ⟨x7,hx7,h⟩:=aN h
   obtain ⟨x8,hx8,h⟩:=aN h
   obtain ⟨x9,hx9,h⟩:=aN h
   refine aC (aA rfl (faR 2 rfl rfl rfl Try.underlying71 rfl ti22 (lb rfl) rfl rfl) <|aA rfl (lrL la22 rfl rfl rfl rfl rfl (nle rfl) rfl) <|aA rfl (cG aB (l:=a0.L) rfl rfl (lb rfl) Try.underlying22 (svL rfl)) <|aA rfl (faR 0 rfl rfl rfl Try.underlying71 rfl ti3 (lb rfl) rfl rfl) <|aA rfl (aH (d:=.int _ _) rfl rfl (lb rfl) Try.underlying3 ag3 ti3 (by decide) (svR rfl) rfl (nle rfl) rfl) <|aA rfl (aL rfl rfl (lb rfl) (svI rfl) (svI rfl) rfl hx7) <|aA rfl (mvB rfl rfl rfl rfl) <|aI rfl rfl (.one rfl) rfl (by decide) (fun hb=>(faR 3 rfl rfl rfl Try.underlying71 rfl ti23 (lb rfl) rfl rfl)) <|aI rfl rfl (.one rfl) rfl (by decide) (fun hb=>(aH (d:=.slice _ _) rfl rfl (lb rfl) Try.underlying23 ag23 ti23 (by decide) (svcR rfl hb) rfl (nle rfl) rfl)) <|aI rfl rfl (.one rfl) rfl (by decide) (fun hb=>(cG (eInt .i64) (l:=a0.Closed) rfl rfl (lb rfl) Try.underlying23 (svcL rfl hb))) <|aI rfl rfl (.one rfl) rfl (by decide) (fun hb=>(aL rfl rfl (lb rfl) (svcI rfl hb) (sv (d:=.int _ 0) rfl) rfl hx8)) <|aA rfl (cO rfl rfl (lb rfl) (svB rfl) rfl rfl hx9) <|aA rfl (asB rfl rfl rfl rfl) <|aD ?_)
   refine aP (b:=_) rfl (fun hc10=>?_) (fun hc10=>?_)
   ·
    replace h:=bP h hc10
    refine aC (aA rfl (lra q5 la71 rfl rfl rfl rfl rfl (nle rfl) rfl) <|aA rfl (stA q5 q5 ti71 rfl rfl rfl rfl rfl rfl rfl rfl (nle rfl) rfl) <|aA rfl (aG rfl rfl (lb rfl) (sv (d:=.int _ 7) rfl)) <|aD ?_)
    refine aW ?_
    refine bN ?_
    refine bA ?_
    obtain rfl:=Option.some.inj h
    refine ⟨.inr rfl,(.cons (rva la71 rfl rfl (nle rfl) rfl) (.cons (sv rfl) .nil))⟩
   ·
    replace h:=bQ h hc10
    refine aT ?_
    refine bJ ?_
    refine aJ ?_
    refine iA (α:=Int × Int × (List aF) × (List Int)) (fun z=>⟨[(1,.int .i64 a1),(2,.int .i64 a2),(3,.int .i64 a3),(4,.bool a4),(5,.ref 0 0),(10,.ref 1 0)],[(0,.blk 71 (w16 z.1 z.2.1 z.2.2.1 z.2.2.2)),(1,.blk 71 (w16 0 0 ([] : List aF) ([] : List Int)))]⟩) (fun z=>dV a1 a2 a3 a4 z.1 z.2.1 z.2.2.1 z.2.2.2 = some r) ?_ ?_
    ·
     obtain ⟨x44,hx44,h⟩:=aN h
     refine aC (aA rfl (faR 2 rfl rfl rfl Try.underlying71 rfl ti22 (lb rfl) rfl rfl) <|aA rfl (lrL la22 rfl rfl rfl rfl rfl (nle rfl) rfl) <|aA rfl (cG aB (l:=a0.L) rfl rfl (lb rfl) Try.underlying22 (svL rfl)) <|aA rfl (faR 0 rfl rfl rfl Try.underlying71 rfl ti3 (lb rfl) rfl rfl) <|aA rfl (aH (d:=.int _ _) rfl rfl (lb rfl) Try.underlying3 ag3 ti3 (by decide) (svR rfl) rfl (nle rfl) rfl) <|aA rfl (aL rfl rfl (lb rfl) (svI rfl) (svI rfl) rfl hx44) <|aD ?_)
     refine aP (b:=_) rfl (fun hc45=>?_) (fun hc45=>?_)
     ·
      replace h:=bP h hc45
      obtain ⟨x46,hx46,h⟩:=aO h
      obtain ⟨x47,hx47,h⟩:=aO h
      refine lM rfl [⟨[5],[0],[(50,.agg (v1 a0))],[]⟩,
       ⟨[5],[],[(51,.ref 0 3)],[]⟩,
       ⟨[51],[0],[(52,.slice false (a0.Closed.map (eInt .i64).d))],[]⟩,
       ⟨[52],[],[(53,.fptr [.int .i64 x46])],[]⟩,
       ⟨[53],[],[(54,.int .i64 x46)],[]⟩,
       ⟨[50,54],[],[(55,.agg (v1 x47))],[]⟩,
       ⟨[5,55],[0],[],[(0,.blk 71 (v1 x47))]⟩] rfl ?_ (by kernel_rfl) ?_
      ·refine .cons (lop rfl rfl fun S hA=>(dK (cs:=q5) rfl rfl (lb rfl) Try.underlying71 ag71 ti71 (by decide) (svaR hA rfl rfl) (agi hA rfl rfl) (nle rfl) rfl)) ?_
       refine .cons (lop rfl rfl fun S hA=>(aR rfl rfl (lb rfl) Try.underlying71 rfl ti23 (by decide) (svaR hA rfl rfl) (off':=3) rfl)) ?_
       refine .cons (lop rfl rfl fun S hA=>(aH (d:=.slice _ _) rfl rfl (lb rfl) Try.underlying23 ag23 ti23 (by decide) (svaR hA rfl rfl) (agi hA rfl rfl) (nle rfl) rfl)) ?_
       refine .cons (lop rfl rfl fun S hA=>(bW (eInt .i64) (cs:=[.int _ _]) rfl rfl (lb rfl) Try.underlying23 ti3 (svaL hA rfl rfl) (sv (d:=.int _ 0) rfl) hx46 rfl rfl)) ?_
       refine .cons (lop rfl rfl fun S hA=>(bU rfl rfl (lb rfl) Try.underlying3 ag3 ti3 (by decide) (sv (d:=.fptr [.int _ _]) (agr hA rfl rfl)) (nle rfl))) ?_
       refine .cons (lop rfl rfl fun S hA=>(aX (r:=.agg q5) rfl rfl (lb rfl) cl69 (.cons (svaA q5 hA rfl rfl) (.cons (svaI hA rfl rfl) .nil)) rfl (kV _ _ _ hx47))) ?_
       refine .cons (lop rfl rfl fun S hA=>(cV (ds':=q5) rfl rfl ti71 (svaR hA rfl rfl) (agi hA rfl rfl) (svaA q5 hA rfl rfl) rfl rfl rfl (nle rfl) rfl)) ?_
       exact .nil
      refine aJ ⟨(x47.Room,x47.Keep,x47.L,x47.Closed),(fun i=>i),⟨(.sames rfl rfl),(.cons (.blk rfl rfl rfl) (.cons (.blk rfl rfl rfl) .nil)),bE [0,1] rfl (by decide),fun _ _=>rfl⟩,?_⟩
      exact h
     ·
      replace h:=bQ h hc45
      refine aT ?_
      refine aJ ⟨(a0.Room,a0.Keep,a0.L,a0.Closed),(fun i=>i),⟨(.sames rfl rfl),(.cons (.blk rfl rfl rfl) (.cons (.blk rfl rfl rfl) .nil)),bE [0,1] rfl (by decide),fun _ _=>rfl⟩,?_⟩
      exact h
    ·
     rintro ⟨v15,v16,v17,v18⟩ h
     unfold dV at h
     refine aC (aA rfl (aG rfl rfl (lb rfl) (sv (d:=.nils) rfl)) <|aD ?_)
     refine aC (aA rfl (aG rfl rfl (lb rfl) (sv (d:=.int _ 0) rfl)) <|aD ?_)
     refine aS ?_
     refine aV ?_
     refine bO (α:=Nat × Int) (fun z=>⟨[(1,.int .i64 a1),(2,.int .i64 a2),(3,.int .i64 a3),(4,.bool a4),(5,.ref 0 0),(10,.ref 1 0),(13,.nils),(14,.int .i64 z.2)],[(0,.blk 71 (w16 v15 v16 v17 v18)),(1,.blk 71 (w16 0 0 ([] : List aF) ([] : List Int)))]⟩) (fun z=>dU a1 a2 a3 a4 v15 v16 v17 v18 z.1 z.2 = some r) (fun z=>z.1) (fuel,0) (fun i=>i) ⟨(.sames rfl rfl),(.cons (.blk rfl rfl rfl) (.cons (.blk rfl rfl rfl) .nil)),bE [0,1] rfl (by decide),fun _ _=>rfl⟩ ?_ ?_
     ·exact h
     ·
      rintro ⟨n1,v25⟩ h
      cases n1 with
      | zero=>exact absurd h (by unfold dU; exact nofun)
      | succ n1 =>
       unfold dU at h
       refine aS ?_
       obtain ⟨x32,hx32,h⟩:=aN h
       obtain ⟨x33,hx33,h⟩:=aO h
       obtain ⟨x34,hx34,h⟩:=aN h
       obtain ⟨x35,hx35,h⟩:=aN h
       refine aC (aA rfl (mvI rfl rfl rfl rfl) <|aA rfl (faR 2 rfl rfl rfl Try.underlying71 rfl ti22 (lb rfl) rfl rfl) <|aA rfl (lrL la22 rfl rfl rfl rfl rfl (nle rfl) rfl) <|aA rfl (cG aB (l:=v17) rfl rfl (lb rfl) Try.underlying22 (svL rfl)) <|aA rfl (aL rfl rfl (lb rfl) (svI rfl) (svI rfl) rfl hx32) <|aA rfl (mvB rfl rfl rfl rfl) <|aI rfl rfl (.one rfl) rfl (by decide) (fun hb=>(faR 2 rfl rfl rfl Try.underlying71 rfl ti22 (lb rfl) rfl rfl)) <|aI rfl rfl (.one rfl) rfl (by decide) (fun hb=>(aH (d:=.slice _ _) rfl rfl (lb rfl) Try.underlying22 ag22 ti22 (by decide) (svcR rfl hb) rfl (nle rfl) rfl)) <|aI rfl rfl (.one rfl) rfl (by decide) (fun hb=>(mvI rfl rfl rfl rfl)) <|aI rfl rfl (.one rfl) rfl (by decide) (fun hb=>(bW aB (cs:=q9) rfl rfl (lb rfl) Try.underlying22 ti63 (svcL rfl hb) (svcI rfl hb) (gd_t hx33 hb) rfl rfl)) <|aI rfl rfl (.one rfl) rfl (by decide) (fun hb=>(bV (cs':=[.int _ _]) rfl rfl (lb rfl) Try.underlying63 rfl ti3 (by decide) (svc (d:=.fptr q9) rfl hb) rfl)) <|aI rfl rfl (.one rfl) rfl (by decide) (fun hb=>(bU rfl rfl (lb rfl) Try.underlying3 ag3 ti3 (by decide) (svc (d:=.fptr [.int _ _]) rfl hb) (nle rfl))) <|aI rfl rfl (.one rfl) rfl (by decide) (fun hb=>(mvI rfl rfl rfl rfl)) <|aI rfl rfl (.one rfl) rfl (by decide) (fun hb=>(aL rfl rfl (lb rfl) (svcI rfl hb) (svcI rfl hb) rfl hx34)) <|aA rfl (cO rfl rfl (lb rfl) (svB rfl) rfl rfl hx35) <|aD ?_)
       refine aP (b:=_) rfl (fun hc36=>?_) (fun hc36=>?_)
       ·
        replace h:=bP h hc36
        refine aT ?_
        refine aJ ?_
        refine aV ?_
        obtain ⟨x37,hx37,h⟩:=aN h
        refine aU (aA rfl (mvI rfl rfl rfl rfl) <|aA rfl (aQ rfl rfl (lb rfl) (svI rfl) (sv (d:=.int _ 1) rfl) rfl hx37) <|aA rfl (asI rfl rfl rfl rfl) <|bI ?_)
        refine bJ ?_
        refine aJ ⟨(n1,x37),(fun i=>i),⟨(.sames rfl rfl),(.cons (.blk rfl rfl rfl) (.cons (.blk rfl rfl rfl) .nil)),bE [0,1] rfl (by decide),fun _ _=>rfl⟩,?_,?_⟩
        exact h
        exact Nat.lt_succ_self _
       ·
        replace h:=bQ h hc36
        refine bY ?_
        refine bB ?_
        refine bB ?_
        refine bZ ?_
        refine aJ ?_
        obtain ⟨x38,hx38,h⟩:=aO h
        obtain ⟨x39,hx39,h⟩:=aO h
        obtain ⟨x40,hx40,h⟩:=aO h
        obtain ⟨x41,hx41,h⟩:=aO h
        obtain ⟨x42,hx42,h⟩:=aO h
        refine dE rfl [⟨[13],[],[(73,.nils)],[]⟩,
         ⟨[5],[],[(74,.ref 0 2)],[]⟩,
         ⟨[74],[0],[(75,.slice false (v17.map aB.d))],[]⟩,
         ⟨[14],[],[(76,.int .i64 v25)],[]⟩,
         ⟨[75,76],[],[(77,.slice false (x38.map aB.d))],[]⟩,
         ⟨[73,77],[2],[(78,.gsl 2 aB.sz (x39.map aB.d))],[(2,.tail 63 aB.sz x39.length)]⟩,
         ⟨[1],[],[(79,.int .i64 a1)],[]⟩,
         ⟨[79],[],[(80,.agg (w18 a1 (-1) 16 false))],[]⟩,
         ⟨[80],[3],[(81,.gsl 3 aB.sz ((([(⟨a1,(-1),16,false⟩ : aF)] : (List aF))).map aB.d))],[(3,.tail 63 aB.sz (([(⟨a1,(-1),16,false⟩ : aF)] : (List aF))).length)]⟩,
         ⟨[78,81],[2,4],[(82,.gsl 4 aB.sz (x40.map aB.d))],[(4,.tail 63 aB.sz x40.length),(2,.none)]⟩,
         ⟨[5],[],[(83,.ref 0 2)],[]⟩,
         ⟨[83],[0],[(84,.slice false (v17.map aB.d))],[]⟩,
         ⟨[14],[],[(85,.int .i64 v25)],[]⟩,
         ⟨[84,85],[],[(86,.slice false (x41.map aB.d))],[]⟩,
         ⟨[82,86],[4,5],[(87,.gsl 5 aB.sz (x42.map aB.d))],[(5,.tail 63 aB.sz x42.length),(4,.none)]⟩,
         ⟨[5],[],[(88,.ref 0 2)],[]⟩,
         ⟨[87,88],[0],[],[(0,.blk 71 (w16 v15 v16 x42 v18))]⟩] rfl ?_ (by kernel_rfl) ?_
        ·refine .cons (lop rfl rfl fun S hA=>(aE rfl rfl (lb rfl) (sv (d:=.nils) (agr hA rfl rfl)))) ?_
         refine .cons (lop rfl rfl fun S hA=>(aR rfl rfl (lb rfl) Try.underlying71 rfl ti22 (by decide) (svaR hA rfl rfl) (off':=2) rfl)) ?_
         refine .cons (lop rfl rfl fun S hA=>(aH (d:=.slice _ _) rfl rfl (lb rfl) Try.underlying22 ag22 ti22 (by decide) (svaR hA rfl rfl) (agi hA rfl rfl) (nle rfl) rfl)) ?_
         refine .cons (lop rfl rfl fun S hA=>(aE rfl rfl (lb rfl) (svaI hA rfl rfl))) ?_
         refine .cons (lop rfl rfl fun S hA=>(uK aB rfl rfl (lb rfl) Try.underlying22 ti63 (svaL hA rfl rfl) rfl ⟨_,(svaI hA rfl rfl)⟩ hx38)) ?_
         refine .cons (lop rfl rfl fun S hA=>(vN aB (ys:=x38) 2 rfl rfl (lb rfl) Try.underlying22 ti63 rfl (agr hA rfl rfl) (agi hA rfl rfl) (svaL hA rfl rfl) hx39)) ?_
         refine .cons (lop rfl rfl fun S hA=>(aE rfl rfl (lb rfl) (svaI hA rfl rfl))) ?_
         refine .cons (lop rfl rfl fun S hA=>(dN (cs:=q9) rfl rfl (lb rfl) Try.underlying63 ti63 pl63 rfl (.cons (svaI hA rfl rfl) (.cons (sv (d:=.int _ (-1)) rfl) (.cons (sv (d:=.int _ 16) rfl) .nil))) rfl)) ?_
         refine .cons (lop rfl rfl fun S hA=>(nU aB ([(⟨a1,(-1),16,false⟩ : aF)] : (List aF)) 3 rfl rfl (lb rfl) Try.underlying22 ti63 (agi hA rfl rfl) (.cons (svaA q9 hA rfl rfl) .nil) rfl rfl (by decide))) ?_
         refine .cons (lop rfl rfl fun S hA=>(mY aB 4 rfl rfl (lb rfl) Try.underlying22 ti63 rfl (agr hA rfl rfl) (agi hA rfl rfl) (agi hA rfl rfl) (svg (agr hA rfl rfl)) hx40)) ?_
         refine .cons (lop rfl rfl fun S hA=>(aR rfl rfl (lb rfl) Try.underlying71 rfl ti22 (by decide) (svaR hA rfl rfl) (off':=2) rfl)) ?_
         refine .cons (lop rfl rfl fun S hA=>(aH (d:=.slice _ _) rfl rfl (lb rfl) Try.underlying22 ag22 ti22 (by decide) (svaR hA rfl rfl) (agi hA rfl rfl) (nle rfl) rfl)) ?_
         refine .cons (lop rfl rfl fun S hA=>(aE rfl rfl (lb rfl) (svaI hA rfl rfl))) ?_
         refine .cons (lop rfl rfl fun S hA=>(uK aB rfl rfl (lb rfl) Try.underlying22 ti63 (svaL hA rfl rfl) ⟨_,(svaI hA rfl rfl)⟩ rfl hx41)) ?_
         refine .cons (lop rfl rfl fun S hA=>(mY aB 5 rfl rfl (lb rfl) Try.underlying22 ti63 rfl (agr hA rfl rfl) (agi hA rfl rfl) (agi hA rfl rfl) (svaL hA rfl rfl) hx42)) ?_
         refine .cons (lop rfl rfl fun S hA=>(aR rfl rfl (lb rfl) Try.underlying71 rfl ti22 (by decide) (svaR hA rfl rfl) (off':=2) rfl)) ?_
         refine .cons (lop rfl rfl fun S hA=>(cV (ds':=q5) rfl rfl ti22 (svaR hA rfl rfl) (agi hA rfl rfl) (svg (agr hA rfl rfl)) rfl rfl rfl (nle rfl) rfl)) ?_
         exact .nil
        obtain ⟨x43,hx43,h⟩:=aO h
        refine aC (aA rfl (lra q5 la71 rfl rfl rfl rfl rfl (nle rfl) rfl) <|aA rfl (mvI rfl rfl rfl rfl) <|aA rfl (mvI rfl rfl rfl rfl) <|aA rfl (mvI rfl rfl rfl rfl) <|aA rfl (mvB rfl rfl rfl rfl) <|aA rfl (aX (r:=.agg q5) rfl rfl (lb rfl) cl70 (.cons (svA q5 rfl) (.cons (svI rfl) (.cons (svI rfl) (.cons (svI rfl) (.cons (svB rfl) .nil))))) rfl (mI _ _ _ _ _ _ hx43)) <|aA rfl (stA q5 q5 ti71 rfl rfl rfl rfl rfl rfl rfl rfl (nle rfl) rfl) <|aA rfl (aG rfl rfl (lb rfl) (sv (d:=.int _ 0) rfl)) <|aD ?_)
        refine aW ?_
        obtain rfl:=Option.some.inj h
        refine ⟨.inr rfl,(.cons (rva la71 rfl rfl (nle rfl) rfl) (.cons (sv rfl) .nil))⟩

theorem oM (a0 : aM) (a1 : Int) (a2 : Int) (a3 : Int) (a4 : Bool) (r : (aM × Int)) (h : fM a0 a1 a2 a3 a4 = some r) : dP Try.prog 34 [.agg (v1 a0),.int .i64 a1,.int .i64 a2,.int .i64 a3,.bool a4] (retD [.agg (v1 r.1),.int .i64 r.2]):=by
 refine bG (rs:=[.agg (v1 r.1),.int .i64 r.2]) Try.func34 rfl Try.ntmps34 (nle rfl) rfl fun O hO=>?_
 show IWP _ _ _ _ ⟨[(0,.agg (v1 a0)),(1,.int .i64 a1),(2,.int .i64 a2),(3,.int .i64 a3),(4,.bool a4)],[]⟩ _
 unfold fM at h
 refine aC (aA rfl (cK (cs:=q5) 0 rfl rfl (lb rfl) rfl (svA q5 rfl) rfl rfl) <|aA rfl (bX (cs:=q11) (cs':=(w16 0 0 ([] : List aF) ([] : List Int))) 1 rfl rfl (lb rfl) rfl ti71 rfl rfl (.k (.k (.cons (.nils _) (.cons (.nils _) .nil))))) <|aA rfl (aG rfl rfl (lb rfl) (sv (d:=.int _ 0) rfl)) <|aD ?_)
 obtain ⟨x1,hx1,h⟩:=aO h
 refine aC (aA rfl (mvI rfl rfl rfl rfl) <|aA rfl (mvI rfl rfl rfl rfl) <|aA rfl (mvI rfl rfl rfl rfl) <|aA rfl (aX (r:=.int _ _) rfl rfl (lb rfl) cl68 (.cons (svI rfl) (.cons (svI rfl) (.cons (svI rfl) .nil))) rfl (nC _ _ _ _ hx1)) <|aA rfl (asI rfl rfl rfl rfl) <|aD ?_)
 refine aS ?_
 refine aV ?_
 obtain ⟨x2,hx2,h⟩:=aN h
 refine aC (aA rfl (mvI rfl rfl rfl rfl) <|aA rfl (aL rfl rfl (lb rfl) (svI rfl) (sv (d:=.int _ 0) rfl) rfl hx2) <|aA rfl (asB rfl rfl rfl rfl) <|aD ?_)
 refine aP (b:=_) rfl (fun hc3=>?_) (fun hc3=>?_)
 ·
  replace h:=bP h hc3
  refine aC (aA rfl (lra q5 la71 rfl rfl rfl rfl rfl (nle rfl) rfl) <|aA rfl (mvI rfl rfl rfl rfl) <|aA rfl (stA q5 q5 ti71 rfl rfl rfl rfl rfl rfl rfl rfl (nle rfl) rfl) <|aA rfl (asI rfl rfl rfl rfl) <|aD ?_)
  refine aW ?_
  refine bN ?_
  refine bA ?_
  obtain rfl:=Option.some.inj h
  refine ⟨.inr rfl,(.cons (rva la71 rfl rfl (nle rfl) rfl) (.cons (sv rfl) .nil))⟩
 ·
  replace h:=bQ h hc3
  obtain ⟨x4,hx4,h⟩:=aO h
  obtain ⟨x5,hx5,h⟩:=aN h
  refine aC (aA rfl (lra q5 la71 rfl rfl rfl rfl rfl (nle rfl) rfl) <|aA rfl (mvI rfl rfl rfl rfl) <|aA rfl (aX (r:=.int _ _) rfl rfl (lb rfl) cl45 (.cons (svA q5 rfl) (.cons (svI rfl) .nil)) rfl (bT _ _ _ hx4)) <|aA rfl (aL rfl rfl (lb rfl) (svI rfl) (sv (d:=.int _ 0) rfl) rfl hx5) <|aA rfl (asB rfl rfl rfl rfl) <|aD ?_)
  refine aP (b:=_) rfl (fun hc6=>?_) (fun hc6=>?_)
  ·
   replace h:=bP h hc6
   obtain ⟨x7,hx7,h⟩:=aO h
   refine aC (aA rfl (lra q5 la71 rfl rfl rfl rfl rfl (nle rfl) rfl) <|aA rfl (mvI rfl rfl rfl rfl) <|aA rfl (mvI rfl rfl rfl rfl) <|aA rfl (mvI rfl rfl rfl rfl) <|aA rfl (mvB rfl rfl rfl rfl) <|aA rfl (aX (r:=.tuple q15) rfl rfl (lb rfl) cl33 (.cons (svA q5 rfl) (.cons (svI rfl) (.cons (svI rfl) (.cons (svI rfl) (.cons (svB rfl) .nil))))) rfl (lR _ _ _ _ _ _ hx7)) <|aA rfl (bH (d:=.agg q5) rfl rfl (lb rfl) (sv (d:=.tuple q15) rfl) rfl) <|aA rfl (bH (d:=.int _ _) rfl rfl (lb rfl) (sv (d:=.tuple q15) rfl) rfl) <|aA rfl (stA q5 q5 ti71 rfl rfl rfl rfl rfl rfl rfl rfl (nle rfl) rfl) <|aA rfl (asI rfl rfl rfl rfl) <|aD ?_)
   refine aW ?_
   refine bN ?_
   refine bA ?_
   obtain rfl:=Option.some.inj h
   refine ⟨.inr rfl,(.cons (rva la71 rfl rfl (nle rfl) rfl) (.cons (sv rfl) .nil))⟩
  ·
   replace h:=bQ h hc6
   refine aT ?_
   refine bJ ?_
   refine aJ ?_
   obtain ⟨x8,hx8,h⟩:=aO h
   refine aC (aA rfl (lra q5 la71 rfl rfl rfl rfl rfl (nle rfl) rfl) <|aA rfl (mvI rfl rfl rfl rfl) <|aA rfl (mvI rfl rfl rfl rfl) <|aA rfl (mvI rfl rfl rfl rfl) <|aA rfl (mvB rfl rfl rfl rfl) <|aA rfl (aX (r:=.agg q5) rfl rfl (lb rfl) cl70 (.cons (svA q5 rfl) (.cons (svI rfl) (.cons (svI rfl) (.cons (svI rfl) (.cons (svB rfl) .nil))))) rfl (mI _ _ _ _ _ _ hx8)) <|aA rfl (stA q5 q5 ti71 rfl rfl rfl rfl rfl rfl rfl rfl (nle rfl) rfl) <|aA rfl (aG rfl rfl (lb rfl) (sv (d:=.int _ 0) rfl)) <|aD ?_)
   refine aW ?_
   obtain rfl:=Option.some.inj h
   refine ⟨.inr rfl,(.cons (rva la71 rfl rfl (nle rfl) rfl) (.cons (sv rfl) .nil))⟩

theorem oC (a0 : aM) (a1 : Int) (r : (aM × Int)) (h : gQ a0 a1 = some r) : dP Try.prog 35 [.agg (v1 a0),.int .i64 a1] (retD [.agg (v1 r.1),.int .i64 r.2]):=by
 refine bG (rs:=[.agg (v1 r.1),.int .i64 r.2]) Try.func35 rfl Try.ntmps35 (nle rfl) rfl fun O hO=>?_
 show IWP _ _ _ _ ⟨[(0,.agg (v1 a0)),(1,.int .i64 a1)],[]⟩ _
 unfold gQ at h
 refine aC (aA rfl (cK (cs:=q5) 0 rfl rfl (lb rfl) rfl (svA q5 rfl) rfl rfl) <|aA rfl (bX (cs:=q11) (cs':=(w16 0 0 ([] : List aF) ([] : List Int))) 1 rfl rfl (lb rfl) rfl ti71 rfl rfl (.k (.k (.cons (.nils _) (.cons (.nils _) .nil))))) <|aA rfl (aG rfl rfl (lb rfl) (sv (d:=.int _ 0) rfl)) <|aD ?_)
 obtain ⟨x1,hx1,h⟩:=aO h
 refine aC (aA rfl (lra q5 la71 rfl rfl rfl rfl rfl (nle rfl) rfl) <|aA rfl (mvI rfl rfl rfl rfl) <|aA rfl (aX (r:=.int _ _) rfl rfl (lb rfl) cl45 (.cons (svA q5 rfl) (.cons (svI rfl) .nil)) rfl (bT _ _ _ hx1)) <|aA rfl (asI rfl rfl rfl rfl) <|aD ?_)
 refine aS ?_
 obtain ⟨x2,hx2,h⟩:=aN h
 refine aC (aA rfl (mvI rfl rfl rfl rfl) <|aA rfl (aL rfl rfl (lb rfl) (svI rfl) (sv (d:=.int _ 0) rfl) rfl hx2) <|aD ?_)
 refine aP (b:=_) rfl (fun hc3=>?_) (fun hc3=>?_)
 ·
  replace h:=bP h hc3
  refine aC (aA rfl (lra q5 la71 rfl rfl rfl rfl rfl (nle rfl) rfl) <|aA rfl (stA q5 q5 ti71 rfl rfl rfl rfl rfl rfl rfl rfl (nle rfl) rfl) <|aA rfl (aG rfl rfl (lb rfl) (sv (d:=.int _ 6) rfl)) <|aD ?_)
  refine aW ?_
  refine bA ?_
  obtain rfl:=Option.some.inj h
  refine ⟨.inr rfl,(.cons (rva la71 rfl rfl (nle rfl) rfl) (.cons (sv rfl) .nil))⟩
 ·
  replace h:=bQ h hc3
  refine aT ?_
  refine aJ ?_
  obtain ⟨x4,hx4,h⟩:=aO h
  refine aC (aA rfl (faR 2 rfl rfl rfl Try.underlying71 rfl ti22 (lb rfl) rfl rfl) <|aA rfl (lrL la22 rfl rfl rfl rfl rfl (nle rfl) rfl) <|aA rfl (mvI rfl rfl rfl rfl) <|aA rfl (bW aB (cs:=q9) rfl rfl (lb rfl) Try.underlying22 ti63 (svL rfl) (svI rfl) hx4 rfl rfl) <|aA rfl (eH (cs:=q9) rfl rfl (lb rfl) Try.underlying63 ag63 ti63 (by decide) (sv (d:=.fptr q9) rfl) (nle rfl) rfl) <|aA rfl (bX (cs:=q9) (cs':=(w18 0 0 0 false)) 2 rfl rfl (lb rfl) rfl ti63 rfl rfl (.all _)) <|aA rfl (stA q9 q9 ti63 rfl rfl rfl rfl rfl rfl rfl rfl (nle rfl) rfl) <|aD ?_)
  refine aS ?_
  refine aC (aA rfl (faR 3 rfl rfl rfl Try.underlying63 rfl ti4 (lb rfl) rfl rfl) <|aA rfl (aH (d:=.bool _) rfl rfl (lb rfl) Try.underlying4 ag4 ti4 (by decide) (svR rfl) rfl (nle rfl) rfl) <|aD ?_)
  refine aP (b:=_) rfl (fun hc5=>?_) (fun hc5=>?_)
  ·
   replace h:=bP h hc5
   refine aC (aA rfl (lra q5 la71 rfl rfl rfl rfl rfl (nle rfl) rfl) <|aA rfl (stA q5 q5 ti71 rfl rfl rfl rfl rfl rfl rfl rfl (nle rfl) rfl) <|aA rfl (aG rfl rfl (lb rfl) (sv (d:=.int _ 9) rfl)) <|aD ?_)
   refine aW ?_
   refine bA ?_
   obtain rfl:=Option.some.inj h
   refine ⟨.inr rfl,(.cons (rva la71 rfl rfl (nle rfl) rfl) (.cons (sv rfl) .nil))⟩
  ·
   replace h:=bQ h hc5
   refine aT ?_
   refine aJ ?_
   refine aC (aA rfl (faR 3 rfl rfl rfl Try.underlying63 rfl ti4 (lb rfl) rfl rfl) <|aA rfl (cV (ds':=q9) rfl rfl ti4 (svR rfl) rfl (sv (d:=.bool true) rfl) rfl rfl rfl (nle rfl) rfl) <|aD ?_)
   obtain ⟨x6,hx6,h⟩:=aO h
   refine aC (aA rfl (lra q5 la71 rfl rfl rfl rfl rfl (nle rfl) rfl) <|aA rfl (lra q9 la63 rfl rfl rfl rfl rfl (nle rfl) rfl) <|aA rfl (aX (r:=.agg q5) rfl rfl (lb rfl) cl71 (.cons (svA q5 rfl) (.cons (svA q9 rfl) .nil)) rfl (hY _ _ _ hx6)) <|aA rfl (stA q5 q5 ti71 rfl rfl rfl rfl rfl rfl rfl rfl (nle rfl) rfl) <|aD ?_)
   refine aC (aA rfl (aG rfl rfl (lb rfl) (sv (d:=.nils) rfl)) <|aD ?_)
   obtain ⟨x7,hx7,h⟩:=aO h
   obtain ⟨x8,hx8,h⟩:=aO h
   refine aC (aA rfl (aE rfl rfl (lb rfl) (sv (d:=.nils) rfl)) <|aA rfl (faR 3 rfl rfl rfl Try.underlying71 rfl ti23 (lb rfl) rfl rfl) <|aA rfl (lrL la23 rfl rfl rfl rfl rfl (nle rfl) rfl) <|aA rfl (vN (eInt .i64) (ys:=x6.Closed) 3 rfl rfl (lb rfl) Try.underlying23 ti3 rfl rfl rfl (svL rfl) hx7) <|aA rfl (mvI rfl rfl rfl rfl) <|aA rfl (nU (eInt .i64) ([a1] : (List Int)) 4 rfl rfl (lb rfl) Try.underlying23 ti3 rfl (.cons (svI rfl) .nil) rfl rfl (by decide)) <|aA rfl (mY (eInt .i64) 5 rfl rfl (lb rfl) Try.underlying23 ti3 rfl rfl rfl rfl (svg rfl) hx8) <|aA rfl (faR 3 rfl rfl rfl Try.underlying71 rfl ti23 (lb rfl) rfl rfl) <|aA rfl (cV (ds':=q5) rfl rfl ti23 (svR rfl) rfl (svg rfl) rfl rfl rfl (nle rfl) rfl) <|aD ?_)
   refine aS ?_
   obtain ⟨x9,hx9,h⟩:=aN h
   refine aC (aA rfl (faR 3 rfl rfl rfl Try.underlying71 rfl ti23 (lb rfl) rfl rfl) <|aA rfl (lrL la23 rfl rfl rfl rfl rfl (nle rfl) rfl) <|aA rfl (cG (eInt .i64) (l:=x8) rfl rfl (lb rfl) Try.underlying23 (svL rfl)) <|aA rfl (faR 1 rfl rfl rfl Try.underlying71 rfl ti3 (lb rfl) rfl rfl) <|aA rfl (aH (d:=.int _ _) rfl rfl (lb rfl) Try.underlying3 ag3 ti3 (by decide) (svR rfl) rfl (nle rfl) rfl) <|aA rfl (aL rfl rfl (lb rfl) (svI rfl) (svI rfl) rfl hx9) <|aD ?_)
   refine aP (b:=_) rfl (fun hc10=>?_) (fun hc10=>?_)
   ·
    replace h:=bP h hc10
    obtain ⟨x11,hx11,h⟩:=aO h
    obtain ⟨x12,hx12,h⟩:=aO h
    refine lM rfl [⟨[2],[0],[(41,.agg (w16 x6.Room x6.Keep x6.L x8))],[]⟩,
     ⟨[2],[],[(42,.ref 0 3)],[]⟩,
     ⟨[42],[0],[(43,.slice false (x8.map (eInt .i64).d))],[]⟩,
     ⟨[43],[],[(44,.fptr [.int .i64 x11])],[]⟩,
     ⟨[44],[],[(45,.int .i64 x11)],[]⟩,
     ⟨[41,45],[],[(46,.agg (v1 x12))],[]⟩,
     ⟨[2,46],[0],[],[(0,.blk 71 (v1 x12))]⟩] rfl ?_ (by kernel_rfl) ?_
    ·refine .cons (lop rfl rfl fun S hA=>(dK (cs:=q5) rfl rfl (lb rfl) Try.underlying71 ag71 ti71 (by decide) (svaR hA rfl rfl) (agi hA rfl rfl) (nle rfl) rfl)) ?_
     refine .cons (lop rfl rfl fun S hA=>(aR rfl rfl (lb rfl) Try.underlying71 rfl ti23 (by decide) (svaR hA rfl rfl) (off':=3) rfl)) ?_
     refine .cons (lop rfl rfl fun S hA=>(aH (d:=.slice _ _) rfl rfl (lb rfl) Try.underlying23 ag23 ti23 (by decide) (svaR hA rfl rfl) (agi hA rfl rfl) (nle rfl) rfl)) ?_
     refine .cons (lop rfl rfl fun S hA=>(bW (eInt .i64) (cs:=[.int _ _]) rfl rfl (lb rfl) Try.underlying23 ti3 (svaL hA rfl rfl) (sv (d:=.int _ 0) rfl) hx11 rfl rfl)) ?_
     refine .cons (lop rfl rfl fun S hA=>(bU rfl rfl (lb rfl) Try.underlying3 ag3 ti3 (by decide) (sv (d:=.fptr [.int _ _]) (agr hA rfl rfl)) (nle rfl))) ?_
     refine .cons (lop rfl rfl fun S hA=>(aX (r:=.agg q5) rfl rfl (lb rfl) cl69 (.cons (svaA q5 hA rfl rfl) (.cons (svaI hA rfl rfl) .nil)) rfl (kV _ _ _ hx12))) ?_
     refine .cons (lop rfl rfl fun S hA=>(cV (ds':=q5) rfl rfl ti71 (svaR hA rfl rfl) (agi hA rfl rfl) (svaA q5 hA rfl rfl) rfl rfl rfl (nle rfl) rfl)) ?_
     exact .nil
    refine aJ ?_
    refine aC (aA rfl (lra q5 la71 rfl rfl rfl rfl rfl (nle rfl) rfl) <|aA rfl (stA q5 q5 ti71 rfl rfl rfl rfl rfl rfl rfl rfl (nle rfl) rfl) <|aA rfl (aG rfl rfl (lb rfl) (sv (d:=.int _ 0) rfl)) <|aD ?_)
    refine aW ?_
    obtain rfl:=Option.some.inj h
    refine ⟨.inr rfl,(.cons (rva la71 rfl rfl (nle rfl) rfl) (.cons (sv rfl) .nil))⟩
   ·
    replace h:=bQ h hc10
    refine aT ?_
    refine aJ ?_
    refine aC (aA rfl (lra q5 la71 rfl rfl rfl rfl rfl (nle rfl) rfl) <|aA rfl (stA q5 q5 ti71 rfl rfl rfl rfl rfl rfl rfl rfl (nle rfl) rfl) <|aA rfl (aG rfl rfl (lb rfl) (sv (d:=.int _ 0) rfl)) <|aD ?_)
    refine aW ?_
    obtain rfl:=Option.some.inj h
    refine ⟨.inr rfl,(.cons (rva la71 rfl rfl (nle rfl) rfl) (.cons (sv rfl) .nil))⟩

theorem nS (a0 : aM) (a1 : Int) (r : (aM × Int)) (h : hG a0 a1 = some r) : dP Try.prog 36 [.agg (v1 a0),.int .i64 a1] (retD [.agg (v1 r.1),.int .i64 r.2]):=by
 refine bG (rs:=[.agg (v1 r.1),.int .i64 r.2]) Try.func36 rfl Try.ntmps36 (nle rfl) rfl fun O hO=>?_
 show IWP _ _ _ _ ⟨[(0,.agg (v1 a0)),(1,.int .i64 a1)],[]⟩ _
 unfold hG at h
 refine aC (aA rfl (cK (cs:=q5) 0 rfl rfl (lb rfl) rfl (svA q5 rfl) rfl rfl) <|aA rfl (bX (cs:=q11) (cs':=(w16 0 0 ([] : List aF) ([] : List Int))) 1 rfl rfl (lb rfl) rfl ti71 rfl rfl (.k (.k (.cons (.nils _) (.cons (.nils _) .nil))))) <|aA rfl (aG rfl rfl (lb rfl) (sv (d:=.int _ 0) rfl)) <|aD ?_)
 refine aS ?_
 obtain ⟨x1,hx1,h⟩:=aO h
 obtain ⟨x2,hx2,h⟩:=aN h
 refine aC (aA rfl (lra q5 la71 rfl rfl rfl rfl rfl (nle rfl) rfl) <|aA rfl (mvI rfl rfl rfl rfl) <|aA rfl (aX (r:=.int _ _) rfl rfl (lb rfl) cl45 (.cons (svA q5 rfl) (.cons (svI rfl) .nil)) rfl (bT _ _ _ hx1)) <|aA rfl (aL rfl rfl (lb rfl) (svI rfl) (sv (d:=.int _ 0) rfl) rfl hx2) <|aD ?_)
 refine aP (b:=_) rfl (fun hc3=>?_) (fun hc3=>?_)
 ·
  replace h:=bP h hc3
  refine aC (aA rfl (lra q5 la71 rfl rfl rfl rfl rfl (nle rfl) rfl) <|aA rfl (stA q5 q5 ti71 rfl rfl rfl rfl rfl rfl rfl rfl (nle rfl) rfl) <|aA rfl (aG rfl rfl (lb rfl) (sv (d:=.int _ 6) rfl)) <|aD ?_)
  refine aW ?_
  refine bA ?_
  obtain rfl:=Option.some.inj h
  refine ⟨.inr rfl,(.cons (rva la71 rfl rfl (nle rfl) rfl) (.cons (sv rfl) .nil))⟩
 ·
  replace h:=bQ h hc3
  refine aT ?_
  refine aJ ?_
  obtain ⟨x4,hx4,h⟩:=aO h
  refine aC (aA rfl (lra q5 la71 rfl rfl rfl rfl rfl (nle rfl) rfl) <|aA rfl (mvI rfl rfl rfl rfl) <|aA rfl (aX (r:=.agg q5) rfl rfl (lb rfl) cl69 (.cons (svA q5 rfl) (.cons (svI rfl) .nil)) rfl (kV _ _ _ hx4)) <|aA rfl (stA q5 q5 ti71 rfl rfl rfl rfl rfl rfl rfl rfl (nle rfl) rfl) <|aA rfl (aG rfl rfl (lb rfl) (sv (d:=.int _ 0) rfl)) <|aD ?_)
  refine aW ?_
  obtain rfl:=Option.some.inj h
  refine ⟨.inr rfl,(.cons (rva la71 rfl rfl (nle rfl) rfl) (.cons (sv rfl) .nil))⟩

theorem sA (a0 : aK) (a1 : dI) (r : (aK × Int)) (h : kT a0 a1 = some r) : dP Try.prog 11 [.agg (v0 a0),.agg (v2 a1)] (retD [.agg (v0 r.1),.int .i64 r.2]):=by
 refine bG (rs:=[.agg (v0 r.1),.int .i64 r.2]) Try.func11 rfl Try.ntmps11 (nle rfl) rfl fun O hO=>?_
 show IWP _ _ _ _ ⟨[(0,.agg (v0 a0)),(1,.agg (v2 a1))],[]⟩ _
 unfold kT at h
 refine aC (aA rfl (cK (cs:=q5) 0 rfl rfl (lb rfl) rfl (svA q5 rfl) rfl rfl) <|aA rfl (cK (cs:=q4) 1 rfl rfl (lb rfl) rfl (svA q4 rfl) rfl rfl) <|aA rfl (bX (cs:=q11) (cs':=(w16 0 0 ([] : List aF) ([] : List Int))) 2 rfl rfl (lb rfl) rfl ti25 rfl rfl (.k (.k (.cons (.nils _) (.cons (.nils _) .nil))))) <|aA rfl (aG rfl rfl (lb rfl) (sv (d:=.int _ 0) rfl)) <|aD ?_)
 obtain ⟨x1,hx1,h⟩:=aO h
 refine aC (aA rfl (lra q5 la25 rfl rfl rfl rfl rfl (nle rfl) rfl) <|aA rfl (aX (r:=.int _ _) rfl rfl (lb rfl) cl15 (.cons (svA q5 rfl) .nil) rfl (nB _ _ hx1)) <|aA rfl (asI rfl rfl rfl rfl) <|aD ?_)
 refine aS ?_
 refine aV ?_
 obtain ⟨x2,hx2,h⟩:=aN h
 refine aC (aA rfl (mvI rfl rfl rfl rfl) <|aA rfl (aL rfl rfl (lb rfl) (svI rfl) (sv (d:=.int _ 0) rfl) rfl hx2) <|aA rfl (asB rfl rfl rfl rfl) <|aD ?_)
 refine aP (b:=_) rfl (fun hc3=>?_) (fun hc3=>?_)
 ·
  replace h:=bP h hc3
  refine aC (aA rfl (lra q5 la25 rfl rfl rfl rfl rfl (nle rfl) rfl) <|aA rfl (mvI rfl rfl rfl rfl) <|aA rfl (stA q5 q5 ti25 rfl rfl rfl rfl rfl rfl rfl rfl (nle rfl) rfl) <|aA rfl (asI rfl rfl rfl rfl) <|aD ?_)
  refine aW ?_
  refine bN ?_
  refine bA ?_
  obtain rfl:=Option.some.inj h
  refine ⟨.inr rfl,(.cons (rva la25 rfl rfl (nle rfl) rfl) (.cons (sv rfl) .nil))⟩
 ·
  replace h:=bQ h hc3
  obtain ⟨x4,hx4,h⟩:=aN h
  refine aC (aA rfl (faR 0 rfl rfl rfl Try.underlying27 rfl ti5 (lb rfl) rfl rfl) <|aA rfl (aH (d:=.int _ _) rfl rfl (lb rfl) Try.underlying5 ag5 ti5 (by decide) (svR rfl) rfl (nle rfl) rfl) <|aA rfl (aL rfl rfl (lb rfl) (svI rfl) (sv (d:=.int _ 3) rfl) rfl hx4) <|aA rfl (asB rfl rfl rfl rfl) <|aD ?_)
  refine aP (b:=_) rfl (fun hc5=>?_) (fun hc5=>?_)
  ·
   replace h:=bP h hc5
   refine aC (aA rfl (lra q5 la25 rfl rfl rfl rfl rfl (nle rfl) rfl) <|aA rfl (stA q5 q5 ti25 rfl rfl rfl rfl rfl rfl rfl rfl (nle rfl) rfl) <|aA rfl (aG rfl rfl (lb rfl) (sv (d:=.int _ 12) rfl)) <|aD ?_)
   refine aW ?_
   refine bN ?_
   refine bA ?_
   obtain rfl:=Option.some.inj h
   refine ⟨.inr rfl,(.cons (rva la25 rfl rfl (nle rfl) rfl) (.cons (sv rfl) .nil))⟩
  ·
   replace h:=bQ h hc5
   refine aT ?_
   refine bJ ?_
   refine aJ ?_
   obtain ⟨x6,hx6,h⟩:=aO h
   refine aC (aA rfl (lra q5 la25 rfl rfl rfl rfl rfl (nle rfl) rfl) <|aA rfl (aX (r:=.agg q5) rfl rfl (lb rfl) cl32 (.cons (svA q5 rfl) .nil) rfl (nM _ _ hx6)) <|aA rfl (bX (cs:=q11) (cs':=(w16 0 0 ([] : List aF) ([] : List Int))) 3 rfl rfl (lb rfl) rfl ti71 rfl rfl (.k (.k (.cons (.nils _) (.cons (.nils _) .nil))))) <|aA rfl (stA q5 q5 ti71 rfl rfl rfl rfl rfl rfl rfl rfl (nle rfl) rfl) <|aD ?_)
   refine iA (α:=Int × Int × Int × (List aF) × (List Int)) (fun z=>⟨[(2,.ref 0 0),(4,.ref 2 0),(6,.int .i64 z.1),(7,.ref 3 0)],[(0,.blk 25 (v0 a0)),(2,.blk 25 (w16 0 0 ([] : List aF) ([] : List Int))),(3,.blk 71 (w16 z.2.1 z.2.2.1 z.2.2.2.1 z.2.2.2.2))]⟩) (fun z=>jF a0 z.1 z.2.1 z.2.2.1 z.2.2.2.1 z.2.2.2.2 = some r) ?_ ?_
   ·
    refine aC (aA rfl (faR 0 rfl rfl rfl Try.underlying27 rfl ti5 (lb rfl) rfl rfl) <|aA rfl (aH (d:=.int _ _) rfl rfl (lb rfl) Try.underlying5 ag5 ti5 (by decide) (svR rfl) rfl (nle rfl) rfl) <|aD ?_)
    refine aV ?_
    obtain ⟨x22,hx22,h⟩:=aN h
    refine aC (aA rfl (aL rfl rfl (lb rfl) (svI rfl) (sv (d:=.int _ 0) rfl) rfl hx22) <|aA rfl (asB rfl rfl rfl rfl) <|aD ?_)
    refine aP (b:=_) rfl (fun hc23=>?_) (fun hc23=>?_)
    ·
     replace h:=bP h hc23
     obtain ⟨x24,hx24,h⟩:=aO h
     refine aU (aA rfl (lra q5 la71 rfl rfl rfl rfl rfl (nle rfl) rfl) <|aA rfl (faR 1 rfl rfl rfl Try.underlying27 rfl ti3 (lb rfl) rfl rfl) <|aA rfl (aH (d:=.int _ _) rfl rfl (lb rfl) Try.underlying3 ag3 ti3 (by decide) (svR rfl) rfl (nle rfl) rfl) <|aA rfl (faR 2 rfl rfl rfl Try.underlying27 rfl ti3 (lb rfl) rfl rfl) <|aA rfl (aH (d:=.int _ _) rfl rfl (lb rfl) Try.underlying3 ag3 ti3 (by decide) (svR rfl) rfl (nle rfl) rfl) <|aA rfl (faR 3 rfl rfl rfl Try.underlying27 rfl ti3 (lb rfl) rfl rfl) <|aA rfl (aH (d:=.int _ _) rfl rfl (lb rfl) Try.underlying3 ag3 ti3 (by decide) (svR rfl) rfl (nle rfl) rfl) <|aA rfl (faR 4 rfl rfl rfl Try.underlying27 rfl ti4 (lb rfl) rfl rfl) <|aA rfl (aH (d:=.bool _) rfl rfl (lb rfl) Try.underlying4 ag4 ti4 (by decide) (svR rfl) rfl (nle rfl) rfl) <|aA rfl (aX (r:=.tuple q15) rfl rfl (lb rfl) cl33 (.cons (svA q5 rfl) (.cons (svI rfl) (.cons (svI rfl) (.cons (svI rfl) (.cons (svB rfl) .nil))))) rfl (lR _ _ _ _ _ _ hx24)) <|aA rfl (aE rfl rfl (lb rfl) (sv (d:=.tuple q15) rfl)) <|aA rfl (bH (d:=.agg q5) rfl rfl (lb rfl) (sv (d:=.tuple q15) rfl) rfl) <|aA rfl (bH (d:=.int _ _) rfl rfl (lb rfl) (sv (d:=.tuple q15) rfl) rfl) <|aA rfl (stA q5 q5 ti71 rfl rfl rfl rfl rfl rfl rfl rfl (nle rfl) rfl) <|aA rfl (asI rfl rfl rfl rfl) <|bI ?_)
     refine bJ ?_
     refine aJ ⟨(x24.2,x24.1.Room,x24.1.Keep,x24.1.L,x24.1.Closed),(fun i=>i),⟨(.sames rfl rfl),(.cons (.blk rfl rfl rfl) (.cons (.blk rfl rfl rfl) (.cons (.blk rfl rfl rfl) .nil))),bE [0,2,3] rfl (by decide),fun _ _=>rfl⟩,?_⟩
     exact h
    ·
     replace h:=bQ h hc23
     obtain ⟨x25,hx25,h⟩:=aN h
     refine aC (aA rfl (aL rfl rfl (lb rfl) (svI rfl) (sv (d:=.int _ 1) rfl) rfl hx25) <|aA rfl (asB rfl rfl rfl rfl) <|aD ?_)
     refine aP (b:=_) rfl (fun hc26=>?_) (fun hc26=>?_)
     ·
      replace h:=bP h hc26
      obtain ⟨x27,hx27,h⟩:=aO h
      refine aU (aA rfl (lra q5 la71 rfl rfl rfl rfl rfl (nle rfl) rfl) <|aA rfl (faR 1 rfl rfl rfl Try.underlying27 rfl ti3 (lb rfl) rfl rfl) <|aA rfl (aH (d:=.int _ _) rfl rfl (lb rfl) Try.underlying3 ag3 ti3 (by decide) (svR rfl) rfl (nle rfl) rfl) <|aA rfl (faR 2 rfl rfl rfl Try.underlying27 rfl ti3 (lb rfl) rfl rfl) <|aA rfl (aH (d:=.int _ _) rfl rfl (lb rfl) Try.underlying3 ag3 ti3 (by decide) (svR rfl) rfl (nle rfl) rfl) <|aA rfl (faR 3 rfl rfl rfl Try.underlying27 rfl ti3 (lb rfl) rfl rfl) <|aA rfl (aH (d:=.int _ _) rfl rfl (lb rfl) Try.underlying3 ag3 ti3 (by decide) (svR rfl) rfl (nle rfl) rfl) <|aA rfl (faR 4 rfl rfl rfl Try.underlying27 rfl ti4 (lb rfl) rfl rfl) <|aA rfl (aH (d:=.bool _) rfl rfl (lb rfl) Try.underlying4 ag4 ti4 (by decide) (svR rfl) rfl (nle rfl) rfl) <|aA rfl (aX (r:=.tuple q15) rfl rfl (lb rfl) cl34 (.cons (svA q5 rfl) (.cons (svI rfl) (.cons (svI rfl) (.cons (svI rfl) (.cons (svB rfl) .nil))))) rfl (oM _ _ _ _ _ _ hx27)) <|aA rfl (aE rfl rfl (lb rfl) (sv (d:=.tuple q15) rfl)) <|aA rfl (bH (d:=.agg q5) rfl rfl (lb rfl) (sv (d:=.tuple q15) rfl) rfl) <|aA rfl (bH (d:=.int _ _) rfl rfl (lb rfl) (sv (d:=.tuple q15) rfl) rfl) <|aA rfl (stA q5 q5 ti71 rfl rfl rfl rfl rfl rfl rfl rfl (nle rfl) rfl) <|aA rfl (asI rfl rfl rfl rfl) <|bI ?_)
      refine bJ ?_
      refine aJ ⟨(x27.2,x27.1.Room,x27.1.Keep,x27.1.L,x27.1.Closed),(fun i=>i),⟨(.sames rfl rfl),(.cons (.blk rfl rfl rfl) (.cons (.blk rfl rfl rfl) (.cons (.blk rfl rfl rfl) .nil))),bE [0,2,3] rfl (by decide),fun _ _=>rfl⟩,?_⟩
      exact h
     ·
      replace h:=bQ h hc26
      obtain ⟨x28,hx28,h⟩:=aN h
      refine aC (aA rfl (aL rfl rfl (lb rfl) (svI rfl) (sv (d:=.int _ 2) rfl) rfl hx28) <|aA rfl (asB rfl rfl rfl rfl) <|aD ?_)
      refine aP (b:=_) rfl (fun hc29=>?_) (fun hc29=>?_)
      ·
       replace h:=bP h hc29
       obtain ⟨x30,hx30,h⟩:=aO h
       refine aU (aA rfl (lra q5 la71 rfl rfl rfl rfl rfl (nle rfl) rfl) <|aA rfl (faR 1 rfl rfl rfl Try.underlying27 rfl ti3 (lb rfl) rfl rfl) <|aA rfl (aH (d:=.int _ _) rfl rfl (lb rfl) Try.underlying3 ag3 ti3 (by decide) (svR rfl) rfl (nle rfl) rfl) <|aA rfl (aX (r:=.tuple q15) rfl rfl (lb rfl) cl35 (.cons (svA q5 rfl) (.cons (svI rfl) .nil)) rfl (oC _ _ _ hx30)) <|aA rfl (aE rfl rfl (lb rfl) (sv (d:=.tuple q15) rfl)) <|aA rfl (bH (d:=.agg q5) rfl rfl (lb rfl) (sv (d:=.tuple q15) rfl) rfl) <|aA rfl (bH (d:=.int _ _) rfl rfl (lb rfl) (sv (d:=.tuple q15) rfl) rfl) <|aA rfl (stA q5 q5 ti71 rfl rfl rfl rfl rfl rfl rfl rfl (nle rfl) rfl) <|aA rfl (asI rfl rfl rfl rfl) <|bI ?_)
       refine bJ ?_
       refine aJ ⟨(x30.2,x30.1.Room,x30.1.Keep,x30.1.L,x30.1.Closed),(fun i=>i),⟨(.sames rfl rfl),(.cons (.blk rfl rfl rfl) (.cons (.blk rfl rfl rfl) (.cons (.blk rfl rfl rfl) .nil))),bE [0,2,3] rfl (by decide),fun _ _=>rfl⟩,?_⟩
       exact h
      ·
       replace h:=bQ h hc29
       obtain ⟨x31,hx31,h⟩:=aO h
       refine aU (aA rfl (lra q5 la71 rfl rfl rfl rfl rfl (nle rfl) rfl) <|aA rfl (faR 1 rfl rfl rfl Try.underlying27 rfl ti3 (lb rfl) rfl rfl) <|aA rfl (aH (d:=.int _ _) rfl rfl (lb rfl) Try.underlying3 ag3 ti3 (by decide) (svR rfl) rfl (nle rfl) rfl) <|aA rfl (aX (r:=.tuple q15) rfl rfl (lb rfl) cl36 (.cons (svA q5 rfl) (.cons (svI rfl) .nil)) rfl (nS _ _ _ hx31)) <|aA rfl (aE rfl rfl (lb rfl) (sv (d:=.tuple q15) rfl)) <|aA rfl (bH (d:=.agg q5) rfl rfl (lb rfl) (sv (d:=.tuple q15) rfl) rfl) <|aA rfl (bH (d:=.int _ _) rfl rfl (lb rfl) (sv (d:=.tuple q15) rfl) rfl) <|aA rfl (stA q5 q5 ti71 rfl rfl rfl rfl rfl rfl rfl rfl (nle rfl) rfl) <|aA rfl (asI rfl rfl rfl rfl) <|bI ?_)
       refine bJ ?_
       refine aJ ⟨(x31.2,x31.1.Room,x31.1.Keep,x31.1.L,x31.1.Closed),(fun i=>i),⟨(.sames rfl rfl),(.cons (.blk rfl rfl rfl) (.cons (.blk rfl rfl rfl) (.cons (.blk rfl rfl rfl) .nil))),bE [0,2,3] rfl (by decide),fun _ _=>rfl⟩,?_⟩
       exact h
   ·
    rintro ⟨v17,v18,v19,v20,v21⟩ h
    unfold jF at h
    refine dE rfl [⟨[7],[],[(70,.ref 3 2)],[]⟩,
     ⟨[70],[3],[(71,.slice false (v20.map aB.d))],[]⟩,
     ⟨[7],[],[(72,.ref 3 3)],[]⟩,
     ⟨[72],[3],[(73,.slice false (v21.map (eInt .i64).d))],[]⟩,
     ⟨[2],[],[(74,.ref 0 2)],[]⟩,
     ⟨[71,74],[0],[],[(0,.blk 25 (w16 a0.Room a0.Keep v20 a0.Ended))]⟩,
     ⟨[2],[],[(75,.ref 0 3)],[]⟩,
     ⟨[73,75],[0],[],[(0,.blk 25 (w16 a0.Room a0.Keep v20 v21))]⟩] rfl ?_ (by kernel_rfl) ?_
    ·refine .cons (lop rfl rfl fun S hA=>(aR rfl rfl (lb rfl) Try.underlying71 rfl ti22 (by decide) (svaR hA rfl rfl) (off':=2) rfl)) ?_
     refine .cons (lop rfl rfl fun S hA=>(aH (d:=.slice _ _) rfl rfl (lb rfl) Try.underlying22 ag22 ti22 (by decide) (svaR hA rfl rfl) (agi hA rfl rfl) (nle rfl) rfl)) ?_
     refine .cons (lop rfl rfl fun S hA=>(aR rfl rfl (lb rfl) Try.underlying71 rfl ti23 (by decide) (svaR hA rfl rfl) (off':=3) rfl)) ?_
     refine .cons (lop rfl rfl fun S hA=>(aH (d:=.slice _ _) rfl rfl (lb rfl) Try.underlying23 ag23 ti23 (by decide) (svaR hA rfl rfl) (agi hA rfl rfl) (nle rfl) rfl)) ?_
     refine .cons (lop rfl rfl fun S hA=>(aR rfl rfl (lb rfl) Try.underlying25 rfl ti22 (by decide) (svaR hA rfl rfl) (off':=2) rfl)) ?_
     refine .cons (lop rfl rfl fun S hA=>(cV (ds':=q5) rfl rfl ti22 (svaR hA rfl rfl) (agi hA rfl rfl) (svaL hA rfl rfl) rfl rfl rfl (nle rfl) rfl)) ?_
     refine .cons (lop rfl rfl fun S hA=>(aR rfl rfl (lb rfl) Try.underlying25 rfl ti23 (by decide) (svaR hA rfl rfl) (off':=3) rfl)) ?_
     refine .cons (lop rfl rfl fun S hA=>(cV (ds':=q5) rfl rfl ti23 (svaR hA rfl rfl) (agi hA rfl rfl) (svaL hA rfl rfl) rfl rfl rfl (nle rfl) rfl)) ?_
     exact .nil
    refine aC (aA rfl (lra q5 la25 rfl rfl rfl rfl rfl (nle rfl) rfl) <|aA rfl (mvI rfl rfl rfl rfl) <|aA rfl (stA q5 q5 ti25 rfl rfl rfl rfl rfl rfl rfl rfl (nle rfl) rfl) <|aA rfl (asI rfl rfl rfl rfl) <|aD ?_)
    refine aW ?_
    obtain rfl:=Option.some.inj h
    refine ⟨.inr rfl,(.cons (rva la25 rfl rfl (nle rfl) rfl) (.cons (sv rfl) .nil))⟩

theorem pT (a0 : (List aF)) (r : (List aF)) (h : lK a0 = some r) : dP Try.prog 38 [.slice false (a0.map aB.d)] (.slice false (r.map aB.d)):=by
 refine bG (rs:=[.slice false (r.map aB.d)]) Try.func38 rfl Try.ntmps38 (nle rfl) rfl fun O hO=>?_
 show IWP _ _ _ _ ⟨[(0,.slice false (a0.map aB.d))],[]⟩ _
 unfold lK at h
 refine aC (aA rfl (aG rfl rfl (lb rfl) (sv (d:=.nils) rfl)) <|aD ?_)
 refine aC (aA rfl (aG rfl rfl (lb rfl) (sv (d:=.nils) rfl)) <|aD ?_)
 refine aS ?_
 refine aC (aA rfl (aG rfl rfl (lb rfl) (sv (d:=.int _ 0) rfl)) <|aD ?_)
 refine aV ?_
 refine bO (α:=Nat × (List aF) × Int) (fun z=>⟨[(0,.slice false (a0.map aB.d)),(3,.gsl 21 aB.sz (z.2.1.map aB.d)),(4,.int .i64 z.2.2)],[(21,.tail 63 aB.sz z.2.1.length)]⟩) (fun z=>fE a0 z.1 z.2.1 z.2.2 = some r) (fun z=>z.1) (fuel,([] : (List aF)),0) (fun i=>if i = 21 then 71 else i) ⟨(.s rfl rfl (.cons (.nils rfl) (.sames rfl rfl))),(.cons (.nils rfl) .nil),bE [71] rfl (by decide),(fun i hi=>by first | rfl | (show (if _ then _ else _) = _; (repeat' split) <;> omega))⟩ ?_ ?_
 ·exact h
 ·
  rintro ⟨n0,v6,v7⟩ h
  cases n0 with
  | zero=>exact absurd h (by unfold fE; exact nofun)
  | succ n0 =>
   unfold fE at h
   refine aS ?_
   obtain ⟨x13,hx13,h⟩:=aN h
   refine aC (aA rfl (mvI rfl rfl rfl rfl) <|aA rfl (mvL rfl rfl rfl rfl) <|aA rfl (cG aB (l:=a0) rfl rfl (lb rfl) Try.underlying30 (svL rfl)) <|aA rfl (aL rfl rfl (lb rfl) (svI rfl) (svI rfl) rfl hx13) <|aD ?_)
   refine aP (b:=_) rfl (fun hc14=>?_) (fun hc14=>?_)
   ·
    replace h:=bP h hc14
    refine aT ?_
    refine aJ ?_
    refine aS ?_
    refine aV ?_
    obtain ⟨x15,hx15,h⟩:=aO h
    obtain ⟨x16,hx16,h⟩:=aO h
    refine aU (aA rfl (aE rfl rfl (lb rfl) (sv (d:=.gsl _ _ _) rfl)) <|aA rfl (mvL rfl rfl rfl rfl) <|aA rfl (mvI rfl rfl rfl rfl) <|aA rfl (bW aB (cs:=q9) rfl rfl (lb rfl) Try.underlying30 ti56 (svL rfl) (svI rfl) hx15 rfl rfl) <|aA rfl (eH (cs:=q9) rfl rfl (lb rfl) Try.underlying56 ag56 ti56 (by decide) (sv (d:=.fptr q9) rfl) (nle rfl) rfl) <|aA rfl (nU aB ([x15] : (List aF)) 22 rfl rfl (lb rfl) Try.underlying22 ti63 rfl (.cons (svA q9 rfl) .nil) rfl rfl (by decide)) <|aA rfl (mY aB 23 rfl rfl (lb rfl) Try.underlying22 ti63 rfl rfl rfl rfl (svg rfl) hx16) <|aA rfl (aG rfl rfl (lb rfl) (sv (d:=.gsl _ _ _) rfl)) <|bI ?_)
    refine bJ ?_
    refine aJ ?_
    obtain ⟨x17,hx17,h⟩:=aN h
    refine aU (aA rfl (mvI rfl rfl rfl rfl) <|aA rfl (aQ rfl rfl (lb rfl) (svI rfl) (sv (d:=.int _ 1) rfl) rfl hx17) <|aA rfl (asI rfl rfl rfl rfl) <|bI ?_)
    refine aJ ⟨(n0,x16,x17),(fun i=>if i = 21 then 23 else i),⟨(.sames rfl rfl),(.cons (.tail rfl) .nil),bE [23] rfl (by decide),(fun i hi=>by first | rfl | (show (if _ then _ else _) = _; (repeat' split) <;> omega))⟩,?_,?_⟩
    exact h
    exact Nat.lt_succ_self _
   ·
    replace h:=bQ h hc14
    refine bY ?_
    refine bB ?_
    refine bB ?_
    refine bZ ?_
    refine aJ ?_
    refine aC (aA rfl (aE rfl rfl (lb rfl) (sv (d:=.gsl _ _ _) rfl)) <|aA rfl (aG rfl rfl (lb rfl) (sv (d:=.gsl _ _ _) rfl)) <|aD ?_)
    refine aW ?_
    obtain rfl:=Option.some.inj h
    refine ⟨.inr rfl,(.cons (wU rfl rfl) .nil)⟩

theorem nN (a0 : aK) (r : aK) (h : jN a0 = some r) : dP Try.prog 13 [.agg (v0 a0)] (.agg (v0 r)):=by
 refine bG (rs:=[.agg (v0 r)]) Try.func13 rfl Try.ntmps13 (nle rfl) rfl fun O hO=>?_
 show IWP _ _ _ _ ⟨[(0,.agg (v0 a0))],[]⟩ _
 unfold jN at h
 refine aC (aA rfl (cK (cs:=q5) 0 rfl rfl (lb rfl) rfl (svA q5 rfl) rfl rfl) <|aA rfl (bX (cs:=q11) (cs':=(w16 0 0 ([] : List aF) ([] : List Int))) 1 rfl rfl (lb rfl) rfl ti25 rfl rfl (.k (.k (.cons (.nils _) (.cons (.nils _) .nil))))) <|aD ?_)
 obtain ⟨x1,hx1,h⟩:=aO h
 refine dE rfl [⟨[1],[],[(3,.ref 0 0)],[]⟩,
  ⟨[3],[0],[(4,.int .i64 a0.Room)],[]⟩,
  ⟨[1],[],[(5,.ref 0 1)],[]⟩,
  ⟨[5],[0],[(6,.int .i64 a0.Keep)],[]⟩,
  ⟨[1],[],[(7,.ref 0 2)],[]⟩,
  ⟨[7],[0],[(8,.slice false (a0.Nodes.map aB.d))],[]⟩,
  ⟨[8],[],[(9,.slice false (x1.map aB.d))],[]⟩,
  ⟨[1],[],[(10,.ref 0 3)],[]⟩,
  ⟨[10],[0],[(11,.slice false (a0.Ended.map (eInt .i64).d))],[]⟩,
  ⟨[4,6,9,11],[],[(12,.agg (w16 a0.Room a0.Keep x1 a0.Ended))],[]⟩,
  ⟨[2,12],[1],[],[(1,.blk 25 (w16 a0.Room a0.Keep x1 a0.Ended))]⟩] rfl ?_ (by kernel_rfl) ?_
 ·refine .cons (lop rfl rfl fun S hA=>(aR rfl rfl (lb rfl) Try.underlying32 rfl ti3 (by decide) (svaR hA rfl rfl) (off':=0) rfl)) ?_
  refine .cons (lop rfl rfl fun S hA=>(aH (d:=.int _ _) rfl rfl (lb rfl) Try.underlying3 ag3 ti3 (by decide) (svaR hA rfl rfl) (agi hA rfl rfl) (nle rfl) rfl)) ?_
  refine .cons (lop rfl rfl fun S hA=>(aR rfl rfl (lb rfl) Try.underlying32 rfl ti3 (by decide) (svaR hA rfl rfl) (off':=1) rfl)) ?_
  refine .cons (lop rfl rfl fun S hA=>(aH (d:=.int _ _) rfl rfl (lb rfl) Try.underlying3 ag3 ti3 (by decide) (svaR hA rfl rfl) (agi hA rfl rfl) (nle rfl) rfl)) ?_
  refine .cons (lop rfl rfl fun S hA=>(aR rfl rfl (lb rfl) Try.underlying32 rfl ti30 (by decide) (svaR hA rfl rfl) (off':=2) rfl)) ?_
  refine .cons (lop rfl rfl fun S hA=>(aH (d:=.slice _ _) rfl rfl (lb rfl) Try.underlying30 ag30 ti30 (by decide) (svaR hA rfl rfl) (agi hA rfl rfl) (nle rfl) rfl)) ?_
  refine .cons (lop rfl rfl fun S hA=>(aX (r:=.slice _ _) rfl rfl (lb rfl) cl38 (.cons (svaL hA rfl rfl) .nil) rfl (pT _ _ hx1))) ?_
  refine .cons (lop rfl rfl fun S hA=>(aR rfl rfl (lb rfl) Try.underlying32 rfl ti23 (by decide) (svaR hA rfl rfl) (off':=3) rfl)) ?_
  refine .cons (lop rfl rfl fun S hA=>(aH (d:=.slice _ _) rfl rfl (lb rfl) Try.underlying23 ag23 ti23 (by decide) (svaR hA rfl rfl) (agi hA rfl rfl) (nle rfl) rfl)) ?_
  refine .cons (lop rfl rfl fun S hA=>(dN (cs:=q5) rfl rfl (lb rfl) Try.underlying25 ti25 pl25 rfl (.cons (svaI hA rfl rfl) (.cons (svaI hA rfl rfl) (.cons (svaL hA rfl rfl) (.cons (svaL hA rfl rfl) .nil)))) rfl)) ?_
  refine .cons (lop rfl rfl fun S hA=>(cV (ds':=q5) rfl rfl ti25 (svaR hA rfl rfl) (agi hA rfl rfl) (svaA q5 hA rfl rfl) rfl rfl rfl (nle rfl) rfl)) ?_
  exact .nil
 refine aW ?_
 obtain rfl:=Option.some.inj h
 refine ⟨.inr rfl,(.cons (rva la25 rfl rfl (nle rfl) rfl) .nil)⟩

theorem oN (a0 : (List aF)) (a1 : (List aF)) (r : Bool) (h : jP a0 a1 = some r) : dP Try.prog 37 [.slice false (a0.map aB.d),.slice false (a1.map aB.d)] (.bool r):=by
 refine bG (rs:=[.bool r]) Try.func37 rfl Try.ntmps37 (nle rfl) rfl fun O hO=>?_
 show IWP _ _ _ _ ⟨[(0,.slice false (a0.map aB.d)),(1,.slice false (a1.map aB.d))],[]⟩ _
 unfold jP at h
 refine aC (aA rfl (aG rfl rfl (lb rfl) (sv (d:=.bool false) rfl)) <|aD ?_)
 refine aS ?_
 obtain ⟨x1,hx1,h⟩:=aN h
 refine aC (aA rfl (mvL rfl rfl rfl rfl) <|aA rfl (cG aB (l:=a0) rfl rfl (lb rfl) Try.underlying22 (svL rfl)) <|aA rfl (mvL rfl rfl rfl rfl) <|aA rfl (cG aB (l:=a1) rfl rfl (lb rfl) Try.underlying22 (svL rfl)) <|aA rfl (aL rfl rfl (lb rfl) (svI rfl) (svI rfl) rfl hx1) <|aD ?_)
 refine aP (b:=_) rfl (fun hc2=>?_) (fun hc2=>?_)
 ·
  replace h:=bP h hc2
  refine aC (aA rfl (aG rfl rfl (lb rfl) (sv (d:=.bool false) rfl)) <|aD ?_)
  refine aW ?_
  refine bA ?_
  obtain rfl:=Option.some.inj h
  refine ⟨.inr rfl,(.cons (sv rfl) .nil)⟩
 ·
  replace h:=bQ h hc2
  refine aT ?_
  refine aJ ?_
  refine aS ?_
  refine aC (aA rfl (aG rfl rfl (lb rfl) (sv (d:=.int _ 0) rfl)) <|aD ?_)
  refine aV ?_
  refine bO (α:=Nat × Int) (fun z=>⟨[(0,.slice false (a0.map aB.d)),(1,.slice false (a1.map aB.d)),(5,.int .i64 z.2)],[]⟩) (fun z=>eM a0 a1 z.1 z.2 = some r) (fun z=>z.1) (fuel,0) (fun i=>i) ⟨(.sames rfl rfl),.nil,bE [] rfl (by decide),fun _ _=>rfl⟩ ?_ ?_
  ·exact h
  ·
   rintro ⟨n0,v10⟩ h
   cases n0 with
   | zero=>exact absurd h (by unfold eM; exact nofun)
   | succ n0 =>
    unfold eM at h
    refine aS ?_
    obtain ⟨x18,hx18,h⟩:=aN h
    refine aC (aA rfl (mvI rfl rfl rfl rfl) <|aA rfl (mvL rfl rfl rfl rfl) <|aA rfl (cG aB (l:=a0) rfl rfl (lb rfl) Try.underlying22 (svL rfl)) <|aA rfl (aL rfl rfl (lb rfl) (svI rfl) (svI rfl) rfl hx18) <|aD ?_)
    refine aP (b:=_) rfl (fun hc19=>?_) (fun hc19=>?_)
    ·
     replace h:=bP h hc19
     refine aT ?_
     refine aJ ?_
     refine aS ?_
     refine aV ?_
     obtain ⟨x20,hx20,h⟩:=aO h
     obtain ⟨x21,hx21,h⟩:=aO h
     obtain ⟨x22,hx22,h⟩:=aN h
     refine dE rfl [⟨[0],[],[(17,.slice false (a0.map aB.d))],[]⟩,
      ⟨[5],[],[(18,.int .i64 v10)],[]⟩,
      ⟨[17,18],[],[(19,.fptr (v3 x20))],[]⟩,
      ⟨[19],[],[(20,.agg (v3 x20))],[]⟩,
      ⟨[1],[],[(21,.slice false (a1.map aB.d))],[]⟩,
      ⟨[5],[],[(22,.int .i64 v10)],[]⟩,
      ⟨[21,22],[],[(23,.fptr (v3 x21))],[]⟩,
      ⟨[23],[],[(24,.agg (v3 x21))],[]⟩,
      ⟨[20,24],[],[(25,.bool (!x22))],[]⟩] rfl ?_ (by kernel_rfl) ?_
     ·refine .cons (lop rfl rfl fun S hA=>(aE rfl rfl (lb rfl) (svaL hA rfl rfl))) ?_
      refine .cons (lop rfl rfl fun S hA=>(aE rfl rfl (lb rfl) (svaI hA rfl rfl))) ?_
      refine .cons (lop rfl rfl fun S hA=>(bW aB (cs:=q9) rfl rfl (lb rfl) Try.underlying22 ti63 (svaL hA rfl rfl) (svaI hA rfl rfl) hx20 rfl rfl)) ?_
      refine .cons (lop rfl rfl fun S hA=>(eH (cs:=q9) rfl rfl (lb rfl) Try.underlying63 ag63 ti63 (by decide) (sv (d:=.fptr q9) (agr hA rfl rfl)) (nle rfl) rfl)) ?_
      refine .cons (lop rfl rfl fun S hA=>(aE rfl rfl (lb rfl) (svaL hA rfl rfl))) ?_
      refine .cons (lop rfl rfl fun S hA=>(aE rfl rfl (lb rfl) (svaI hA rfl rfl))) ?_
      refine .cons (lop rfl rfl fun S hA=>(bW aB (cs:=q9) rfl rfl (lb rfl) Try.underlying22 ti63 (svaL hA rfl rfl) (svaI hA rfl rfl) hx21 rfl rfl)) ?_
      refine .cons (lop rfl rfl fun S hA=>(eH (cs:=q9) rfl rfl (lb rfl) Try.underlying63 ag63 ti63 (by decide) (sv (d:=.fptr q9) (agr hA rfl rfl)) (nle rfl) rfl)) ?_
      refine .cons (lop rfl rfl fun S hA=>(zF rfl rfl (lb rfl) Try.underlying63 st63.1 st63.2 (svaA q9 hA rfl rfl) (svaA q9 hA rfl rfl) (congrArg some hx22))) ?_
      exact .nil
     refine aP (b:=_) rfl (fun hc23=>?_) (fun hc23=>?_)
     ·
      replace h:=bP h hc23
      refine aC (aA rfl (aG rfl rfl (lb rfl) (sv (d:=.bool false) rfl)) <|aD ?_)
      refine aW ?_
      refine bN ?_
      refine bA ?_
      refine bA ?_
      refine bN ?_
      refine bA ?_
      obtain rfl:=Option.some.inj h
      refine ⟨.inr rfl,(.cons (sv rfl) .nil)⟩
     ·
      replace h:=bQ h hc23
      refine aT ?_
      refine bJ ?_
      refine aJ ?_
      obtain ⟨x24,hx24,h⟩:=aN h
      refine aU (aA rfl (mvI rfl rfl rfl rfl) <|aA rfl (aQ rfl rfl (lb rfl) (svI rfl) (sv (d:=.int _ 1) rfl) rfl hx24) <|aA rfl (asI rfl rfl rfl rfl) <|bI ?_)
      refine aJ ⟨(n0,x24),(fun i=>i),⟨(.sames rfl rfl),.nil,bE [] rfl (by decide),fun _ _=>rfl⟩,?_,?_⟩
      exact h
      exact Nat.lt_succ_self _
    ·
     replace h:=bQ h hc19
     refine bY ?_
     refine bB ?_
     refine bB ?_
     refine bZ ?_
     refine aJ ?_
     refine aC (aA rfl (aG rfl rfl (lb rfl) (sv (d:=.bool true) rfl)) <|aD ?_)
     refine aW ?_
     obtain rfl:=Option.some.inj h
     refine ⟨.inr rfl,(.cons (sv rfl) .nil)⟩

theorem mA (a0 : aK) (a1 : aK) (r : Bool) (h : iY a0 a1 = some r) : dP Try.prog 12 [.agg (v0 a0),.agg (v0 a1)] (.bool r):=by
 refine bG (rs:=[.bool r]) Try.func12 rfl Try.ntmps12 (nle rfl) rfl fun O hO=>?_
 show IWP _ _ _ _ ⟨[(0,.agg (v0 a0)),(1,.agg (v0 a1))],[]⟩ _
 unfold iY at h
 refine aC (aA rfl (cK (cs:=q5) 0 rfl rfl (lb rfl) rfl (svA q5 rfl) rfl rfl) <|aA rfl (cK (cs:=q5) 1 rfl rfl (lb rfl) rfl (svA q5 rfl) rfl rfl) <|aA rfl (aG rfl rfl (lb rfl) (sv (d:=.bool false) rfl)) <|aD ?_)
 obtain ⟨x1,hx1,h⟩:=aN h
 obtain ⟨x2,hx2,h⟩:=aN h
 obtain ⟨x3,hx3,h⟩:=aN h
 obtain ⟨x4,hx4,h⟩:=aO h
 obtain ⟨x5,hx5,h⟩:=aN h
 obtain ⟨x6,hx6,h⟩:=aO h
 obtain ⟨x7,hx7,h⟩:=aN h
 refine aC (aA rfl (faR 0 rfl rfl rfl Try.underlying25 rfl ti3 (lb rfl) rfl rfl) <|aA rfl (aH (d:=.int _ _) rfl rfl (lb rfl) Try.underlying3 ag3 ti3 (by decide) (svR rfl) rfl (nle rfl) rfl) <|aA rfl (faR 0 rfl rfl rfl Try.underlying25 rfl ti3 (lb rfl) rfl rfl) <|aA rfl (aH (d:=.int _ _) rfl rfl (lb rfl) Try.underlying3 ag3 ti3 (by decide) (svR rfl) rfl (nle rfl) rfl) <|aA rfl (aL rfl rfl (lb rfl) (svI rfl) (svI rfl) rfl hx1) <|aA rfl (mvB rfl rfl rfl rfl) <|aI rfl rfl (.one rfl) rfl (by decide) (fun hb=>(faR 1 rfl rfl rfl Try.underlying25 rfl ti3 (lb rfl) rfl rfl)) <|aI rfl rfl (.one rfl) rfl (by decide) (fun hb=>(aH (d:=.int _ _) rfl rfl (lb rfl) Try.underlying3 ag3 ti3 (by decide) (svcR rfl hb) rfl (nle rfl) rfl)) <|aI rfl rfl (.one rfl) rfl (by decide) (fun hb=>(faR 1 rfl rfl rfl Try.underlying25 rfl ti3 (lb rfl) rfl rfl)) <|aI rfl rfl (.one rfl) rfl (by decide) (fun hb=>(aH (d:=.int _ _) rfl rfl (lb rfl) Try.underlying3 ag3 ti3 (by decide) (svcR rfl hb) rfl (nle rfl) rfl)) <|aI rfl rfl (.one rfl) rfl (by decide) (fun hb=>(aL rfl rfl (lb rfl) (svcI rfl hb) (svcI rfl hb) rfl hx2)) <|aA rfl (cO rfl rfl (lb rfl) (svB rfl) rfl rfl hx3) <|aA rfl (mvB rfl rfl rfl rfl) <|aI rfl rfl (.one rfl) rfl (by decide) (fun hb=>(faR 2 rfl rfl rfl Try.underlying25 rfl ti22 (lb rfl) rfl rfl)) <|aI rfl rfl (.one rfl) rfl (by decide) (fun hb=>(aH (d:=.slice _ _) rfl rfl (lb rfl) Try.underlying22 ag22 ti22 (by decide) (svcR rfl hb) rfl (nle rfl) rfl)) <|aI rfl rfl (.one rfl) rfl (by decide) (fun hb=>(faR 2 rfl rfl rfl Try.underlying25 rfl ti22 (lb rfl) rfl rfl)) <|aI rfl rfl (.one rfl) rfl (by decide) (fun hb=>(aH (d:=.slice _ _) rfl rfl (lb rfl) Try.underlying22 ag22 ti22 (by decide) (svcR rfl hb) rfl (nle rfl) rfl)) <|aI rfl rfl (.one rfl) rfl (by decide) (fun hb=>(aX (r:=.bool _) rfl rfl (lb rfl) cl37 (.cons (svcL rfl hb) (.cons (svcL rfl hb) .nil)) rfl (oN _ _ _ (gd_t hx4 hb)))) <|aA rfl (cO rfl rfl (lb rfl) (svB rfl) rfl rfl hx5) <|aA rfl (mvB rfl rfl rfl rfl) <|aI rfl rfl (.one rfl) rfl (by decide) (fun hb=>(faR 3 rfl rfl rfl Try.underlying25 rfl ti23 (lb rfl) rfl rfl)) <|aI rfl rfl (.one rfl) rfl (by decide) (fun hb=>(aH (d:=.slice _ _) rfl rfl (lb rfl) Try.underlying23 ag23 ti23 (by decide) (svcR rfl hb) rfl (nle rfl) rfl)) <|aI rfl rfl (.one rfl) rfl (by decide) (fun hb=>(faR 3 rfl rfl rfl Try.underlying25 rfl ti23 (lb rfl) rfl rfl)) <|aI rfl rfl (.one rfl) rfl (by decide) (fun hb=>(aH (d:=.slice _ _) rfl rfl (lb rfl) Try.underlying23 ag23 ti23 (by decide) (svcR rfl hb) rfl (nle rfl) rfl)) <|aI rfl rfl (.one rfl) rfl (by decide) (fun hb=>(aX (r:=.bool _) rfl rfl (lb rfl) cl21 (.cons (svcL rfl hb) (.cons (svcL rfl hb) .nil)) rfl (kW _ _ _ (gd_t hx6 hb)))) <|aA rfl (cO rfl rfl (lb rfl) (svB rfl) rfl rfl hx7) <|aA rfl (asB rfl rfl rfl rfl) <|aD ?_)
 refine aW ?_
 obtain rfl:=Option.some.inj h
 refine ⟨.inr rfl,(.cons (sv rfl) .nil)⟩

theorem oW (a0 : aK) (a1 : aK) (a2 : dI) (r : Bool) (h : jA a0 a1 a2 = some r) : dP Try.prog 3 [.agg (v0 a0),.agg (v0 a1),.agg (v2 a2)] (.bool r):=by
 refine bG (rs:=[.bool r]) Try.func3 rfl Try.ntmps3 (nle rfl) rfl fun O hO=>?_
 show IWP _ _ _ _ ⟨[(0,.agg (v0 a0)),(1,.agg (v0 a1)),(2,.agg (v2 a2))],[]⟩ _
 unfold jA at h
 refine aC (aA rfl (cK (cs:=q5) 0 rfl rfl (lb rfl) rfl (svA q5 rfl) rfl rfl) <|aA rfl (cK (cs:=q5) 1 rfl rfl (lb rfl) rfl (svA q5 rfl) rfl rfl) <|aA rfl (cK (cs:=q4) 2 rfl rfl (lb rfl) rfl (svA q4 rfl) rfl rfl) <|aA rfl (aG rfl rfl (lb rfl) (sv (d:=.bool false) rfl)) <|aD ?_)
 refine aS ?_
 obtain ⟨x1,hx1,h⟩:=aO h
 obtain ⟨x2,hx2,h⟩:=aO h
 obtain ⟨x3,hx3,h⟩:=aN h
 refine aC (aA rfl (lra q5 la25 rfl rfl rfl rfl rfl (nle rfl) rfl) <|aA rfl (aX (r:=.bool _) rfl rfl (lb rfl) cl7 (.cons (svA q5 rfl) .nil) rfl (oE _ _ hx1)) <|aA rfl (iB rfl rfl (lb rfl) (svB rfl)) <|aA rfl (mvB rfl rfl rfl rfl) <|aI rfl rfl (.one rfl) rfl (by decide) (fun hb=>(lra q5 la25 rfl rfl rfl rfl rfl (nle rfl) rfl)) <|aI rfl rfl (.one rfl) rfl (by decide) (fun hb=>(aX (r:=.bool _) rfl rfl (lb rfl) cl7 (.cons (svcA (v0 a1) rfl hb) .nil) rfl (oE _ _ (gd_t hx2 hb)))) <|aI rfl rfl (.one rfl) rfl (by decide) (fun hb=>(iB rfl rfl (lb rfl) (svcB rfl hb))) <|aA rfl (iJ rfl rfl (lb rfl) (svB rfl) rfl rfl hx3) <|aD ?_)
 refine aP (b:=_) rfl (fun hc4=>?_) (fun hc4=>?_)
 ·
  replace h:=bP h hc4
  obtain ⟨x5,hx5,h⟩:=aO h
  refine aC (aA rfl (aX (r:=.bool _) rfl rfl (lb rfl) cl8 .nil rfl (nD  _ hx5)) <|aA rfl (asB rfl rfl rfl rfl) <|aD ?_)
  refine aW ?_
  refine bA ?_
  obtain rfl:=Option.some.inj h
  refine ⟨.inr rfl,(.cons (sv rfl) .nil)⟩
 ·
  replace h:=bQ h hc4
  refine aT ?_
  refine aJ ?_
  obtain ⟨x6,hx6,h⟩:=aO h
  refine aC (aA rfl (lra q5 la25 rfl rfl rfl rfl rfl (nle rfl) rfl) <|aA rfl (aX (r:=.agg q5) rfl rfl (lb rfl) cl9 (.cons (svA q5 rfl) .nil) rfl (oD _ _ hx6)) <|aA rfl (bX (cs:=q11) (cs':=(w16 0 0 ([] : List aF) ([] : List Int))) 3 rfl rfl (lb rfl) rfl ti32 rfl rfl (.k (.k (.cons (.nils _) (.cons (.nils _) .nil))))) <|aA rfl (stA q5 q5 ti32 rfl rfl rfl rfl rfl rfl rfl rfl (nle rfl) rfl) <|aD ?_)
  obtain ⟨x7,hx7,h⟩:=aO h
  refine aC (aA rfl (lra q5 la32 rfl rfl rfl rfl rfl (nle rfl) rfl) <|aA rfl (lra q4 la27 rfl rfl rfl rfl rfl (nle rfl) rfl) <|aA rfl (aX (r:=.tuple q15) rfl rfl (lb rfl) cl10 (.cons (svA q5 rfl) (.cons (svA q4 rfl) .nil)) rfl (vB _ _ _ hx7)) <|aA rfl (aE rfl rfl (lb rfl) (sv (d:=.tuple q15) rfl)) <|aA rfl (bH (d:=.agg q5) rfl rfl (lb rfl) (sv (d:=.tuple q15) rfl) rfl) <|aA rfl (bH (d:=.int _ _) rfl rfl (lb rfl) (sv (d:=.tuple q15) rfl) rfl) <|aA rfl (bX (cs:=q11) (cs':=(w16 0 0 ([] : List aF) ([] : List Int))) 4 rfl rfl (lb rfl) rfl ti32 rfl rfl (.k (.k (.cons (.nils _) (.cons (.nils _) .nil))))) <|aA rfl (stA q5 q5 ti32 rfl rfl rfl rfl rfl rfl rfl rfl (nle rfl) rfl) <|aA rfl (asI rfl rfl rfl rfl) <|aD ?_)
  obtain ⟨x8,hx8,h⟩:=aO h
  refine aC (aA rfl (lra q5 la25 rfl rfl rfl rfl rfl (nle rfl) rfl) <|aA rfl (lra q4 la27 rfl rfl rfl rfl rfl (nle rfl) rfl) <|aA rfl (aX (r:=.tuple q15) rfl rfl (lb rfl) cl11 (.cons (svA q5 rfl) (.cons (svA q4 rfl) .nil)) rfl (sA _ _ _ hx8)) <|aA rfl (aE rfl rfl (lb rfl) (sv (d:=.tuple q15) rfl)) <|aA rfl (bH (d:=.agg q5) rfl rfl (lb rfl) (sv (d:=.tuple q15) rfl) rfl) <|aA rfl (bH (d:=.int _ _) rfl rfl (lb rfl) (sv (d:=.tuple q15) rfl) rfl) <|aA rfl (bX (cs:=q11) (cs':=(w16 0 0 ([] : List aF) ([] : List Int))) 5 rfl rfl (lb rfl) rfl ti25 rfl rfl (.k (.k (.cons (.nils _) (.cons (.nils _) .nil))))) <|aA rfl (stA q5 q5 ti25 rfl rfl rfl rfl rfl rfl rfl rfl (nle rfl) rfl) <|aA rfl (asI rfl rfl rfl rfl) <|aD ?_)
  obtain ⟨x9,hx9,h⟩:=aO h
  obtain ⟨x10,hx10,h⟩:=aO h
  obtain ⟨x11,hx11,h⟩:=aN h
  obtain ⟨x12,hx12,h⟩:=aN h
  obtain ⟨x13,hx13,h⟩:=aO h
  obtain ⟨x14,hx14,h⟩:=aO h
  obtain ⟨x15,hx15,h⟩:=aN h
  obtain ⟨x16,hx16,h⟩:=aN h
  obtain ⟨x17,hx17,h⟩:=aO h
  obtain ⟨x18,hx18,h⟩:=aO h
  obtain ⟨x19,hx19,h⟩:=aO h
  obtain ⟨x20,hx20,h⟩:=aN h
  obtain ⟨x21,hx21,h⟩:=aN h
  obtain ⟨x22,hx22,h⟩:=aO h
  obtain ⟨x23,hx23,h⟩:=aO h
  obtain ⟨x24,hx24,h⟩:=aN h
  obtain ⟨x25,hx25,h⟩:=aO h
  obtain ⟨x26,hx26,h⟩:=aN h
  refine dE rfl [⟨[8],[4],[(35,.agg (v0 x7.1))],[]⟩,
   ⟨[35],[],[(36,.agg (v0 x9))],[]⟩,
   ⟨[10],[5],[(37,.agg (v0 x8.1))],[]⟩,
   ⟨[36,37],[],[(38,.bool x10)],[]⟩,
   ⟨[38],[],[(39,.bool x10)],[]⟩,
   ⟨[9,39],[],[(40,.cnd (x10 == true) (.int .i64 x7.2))],[]⟩,
   ⟨[11,39],[],[(41,.cnd (x10 == true) (.int .i64 x8.2))],[]⟩,
   ⟨[39,40,41],[],[(42,.cnd (x10 == true) (.bool x11))],[]⟩,
   ⟨[39,42],[],[(43,.bool x12)],[]⟩,
   ⟨[43],[],[(44,.bool x12)],[]⟩,
   ⟨[7,44],[3],[(45,.cnd (x12 == true) (.agg (v0 x6)))],[]⟩,
   ⟨[44,45],[],[(46,.cnd (x12 == true) (.int .i64 x13))],[]⟩,
   ⟨[3,44],[0],[(47,.cnd (x12 == true) (.agg (v0 a0)))],[]⟩,
   ⟨[44,47],[],[(48,.cnd (x12 == true) (.int .i64 x14))],[]⟩,
   ⟨[44,46,48],[],[(49,.cnd (x12 == true) (.bool x15))],[]⟩,
   ⟨[44,49],[],[(50,.bool x16)],[]⟩,
   ⟨[50],[],[(51,.bool x16)],[]⟩,
   ⟨[7,51],[3],[(52,.cnd (x16 == true) (.agg (v0 x6)))],[]⟩,
   ⟨[4,51],[1],[(53,.cnd (x16 == true) (.agg (v0 a1)))],[]⟩,
   ⟨[51,53],[],[(54,.cnd (x16 == true) (.agg (v0 x17)))],[]⟩,
   ⟨[51,52,54],[],[(55,.cnd (x16 == true) (.bool x18))],[]⟩,
   ⟨[3,51],[0],[(56,.cnd (x16 == true) (.agg (v0 a0)))],[]⟩,
   ⟨[4,51],[1],[(57,.cnd (x16 == true) (.agg (v0 a1)))],[]⟩,
   ⟨[51,56,57],[],[(58,.cnd (x16 == true) (.bool x19))],[]⟩,
   ⟨[51,55,58],[],[(59,.cnd (x16 == true) (.bool x20))],[]⟩,
   ⟨[51,59],[],[(60,.bool x21)],[]⟩,
   ⟨[60],[],[(61,.bool x21)],[]⟩,
   ⟨[7,61],[3],[(62,.cnd (x21 == true) (.agg (v0 x6)))],[]⟩,
   ⟨[61,62],[],[(63,.cnd (x21 == true) (.agg (v0 x22)))],[]⟩,
   ⟨[3,61],[0],[(64,.cnd (x21 == true) (.agg (v0 a0)))],[]⟩,
   ⟨[61,63,64],[],[(65,.cnd (x21 == true) (.bool x23))],[]⟩,
   ⟨[61,65],[],[(66,.bool x24)],[]⟩,
   ⟨[66],[],[(67,.bool x24)],[]⟩,
   ⟨[67],[],[(68,.cnd (x24 == true) (.bool x25))],[]⟩,
   ⟨[67,68],[],[(69,.bool x26)],[]⟩,
   ⟨[69],[],[(6,.bool x26)],[]⟩] rfl ?_ (by kernel_rfl) ?_
  ·refine .cons (lop rfl rfl fun S hA=>(dK (cs:=q5) rfl rfl (lb rfl) Try.underlying32 ag32 ti32 (by decide) (svaR hA rfl rfl) (agi hA rfl rfl) (nle rfl) rfl)) ?_
   refine .cons (lop rfl rfl fun S hA=>(aX (r:=.agg q5) rfl rfl (lb rfl) cl13 (.cons (svaA q5 hA rfl rfl) .nil) rfl (nN _ _ hx9))) ?_
   refine .cons (lop rfl rfl fun S hA=>(dK (cs:=q5) rfl rfl (lb rfl) Try.underlying25 ag25 ti25 (by decide) (svaR hA rfl rfl) (agi hA rfl rfl) (nle rfl) rfl)) ?_
   refine .cons (lop rfl rfl fun S hA=>(aX (r:=.bool _) rfl rfl (lb rfl) cl12 (.cons (svaA q5 hA rfl rfl) (.cons (svaA q5 hA rfl rfl) .nil)) rfl (mA _ _ _ hx10))) ?_
   refine .cons (lop rfl rfl fun S hA=>(aE rfl rfl (lb rfl) (svaB hA rfl rfl))) ?_
   refine .cons (lopg rfl rfl rfl rfl (by decide) (fun S hA=>grd1 hA rfl rfl) (fun S hA hb=>(aE rfl rfl (lb rfl) (svaI hA rfl rfl)))) ?_
   refine .cons (lopg rfl rfl rfl rfl (by decide) (fun S hA=>grd1 hA rfl rfl) (fun S hA hb=>(aE rfl rfl (lb rfl) (svaI hA rfl rfl)))) ?_
   refine .cons (lopg rfl rfl rfl rfl (by decide) (fun S hA=>grd1 hA rfl rfl) (fun S hA hb=>(aL rfl rfl (lb rfl) (svc (d:=.int _ _) (agr hA rfl rfl) hb) (svc (d:=.int _ _) (agr hA rfl rfl) hb) rfl hx11))) ?_
   refine .cons (lop rfl rfl fun S hA=>(cO rfl rfl (lb rfl) (svaB hA rfl rfl) (agr hA rfl rfl) rfl hx12)) ?_
   refine .cons (lop rfl rfl fun S hA=>(aE rfl rfl (lb rfl) (svaB hA rfl rfl))) ?_
   refine .cons (lopg rfl rfl rfl rfl (by decide) (fun S hA=>grd1 hA rfl rfl) (fun S hA hb=>(dK (cs:=q5) rfl rfl (lb rfl) Try.underlying32 ag32 ti32 (by decide) (svaR hA rfl rfl) (agi hA rfl rfl) (nle rfl) rfl))) ?_
   refine .cons (lopg rfl rfl rfl rfl (by decide) (fun S hA=>grd1 hA rfl rfl) (fun S hA hb=>(aX (r:=.int _ _) rfl rfl (lb rfl) cl14 (.cons (svc (d:=.agg (v0 x6)) (agr hA rfl rfl) hb) .nil) rfl (lI _ _ (gd_t hx13 hb))))) ?_
   refine .cons (lopg rfl rfl rfl rfl (by decide) (fun S hA=>grd1 hA rfl rfl) (fun S hA hb=>(dK (cs:=q5) rfl rfl (lb rfl) Try.underlying25 ag25 ti25 (by decide) (svaR hA rfl rfl) (agi hA rfl rfl) (nle rfl) rfl))) ?_
   refine .cons (lopg rfl rfl rfl rfl (by decide) (fun S hA=>grd1 hA rfl rfl) (fun S hA hb=>(aX (r:=.int _ _) rfl rfl (lb rfl) cl15 (.cons (svc (d:=.agg (v0 a0)) (agr hA rfl rfl) hb) .nil) rfl (nB _ _ (gd_t hx14 hb))))) ?_
   refine .cons (lopg rfl rfl rfl rfl (by decide) (fun S hA=>grd1 hA rfl rfl) (fun S hA hb=>(aL rfl rfl (lb rfl) (svc (d:=.int _ _) (agr hA rfl rfl) hb) (svc (d:=.int _ _) (agr hA rfl rfl) hb) rfl hx15))) ?_
   refine .cons (lop rfl rfl fun S hA=>(cO rfl rfl (lb rfl) (svaB hA rfl rfl) (agr hA rfl rfl) rfl hx16)) ?_
   refine .cons (lop rfl rfl fun S hA=>(aE rfl rfl (lb rfl) (svaB hA rfl rfl))) ?_
   refine .cons (lopg rfl rfl rfl rfl (by decide) (fun S hA=>grd1 hA rfl rfl) (fun S hA hb=>(dK (cs:=q5) rfl rfl (lb rfl) Try.underlying32 ag32 ti32 (by decide) (svaR hA rfl rfl) (agi hA rfl rfl) (nle rfl) rfl))) ?_
   refine .cons (lopg rfl rfl rfl rfl (by decide) (fun S hA=>grd1 hA rfl rfl) (fun S hA hb=>(dK (cs:=q5) rfl rfl (lb rfl) Try.underlying25 ag25 ti25 (by decide) (svaR hA rfl rfl) (agi hA rfl rfl) (nle rfl) rfl))) ?_
   refine .cons (lopg rfl rfl rfl rfl (by decide) (fun S hA=>grd1 hA rfl rfl) (fun S hA hb=>(aX (r:=.agg q5) rfl rfl (lb rfl) cl9 (.cons (svc (d:=.agg (v0 a1)) (agr hA rfl rfl) hb) .nil) rfl (oD _ _ (gd_t hx17 hb))))) ?_
   refine .cons (lopg rfl rfl rfl rfl (by decide) (fun S hA=>grd1 hA rfl rfl) (fun S hA hb=>(aX (r:=.bool _) rfl rfl (lb rfl) cl16 (.cons (svc (d:=.agg (v0 x6)) (agr hA rfl rfl) hb) (.cons (svc (d:=.agg (v0 x17)) (agr hA rfl rfl) hb) .nil)) rfl (pV _ _ _ (gd_t hx18 hb))))) ?_
   refine .cons (lopg rfl rfl rfl rfl (by decide) (fun S hA=>grd1 hA rfl rfl) (fun S hA hb=>(dK (cs:=q5) rfl rfl (lb rfl) Try.underlying25 ag25 ti25 (by decide) (svaR hA rfl rfl) (agi hA rfl rfl) (nle rfl) rfl))) ?_
   refine .cons (lopg rfl rfl rfl rfl (by decide) (fun S hA=>grd1 hA rfl rfl) (fun S hA hb=>(dK (cs:=q5) rfl rfl (lb rfl) Try.underlying25 ag25 ti25 (by decide) (svaR hA rfl rfl) (agi hA rfl rfl) (nle rfl) rfl))) ?_
   refine .cons (lopg rfl rfl rfl rfl (by decide) (fun S hA=>grd1 hA rfl rfl) (fun S hA hb=>(aX (r:=.bool _) rfl rfl (lb rfl) cl12 (.cons (svc (d:=.agg (v0 a0)) (agr hA rfl rfl) hb) (.cons (svc (d:=.agg (v0 a1)) (agr hA rfl rfl) hb) .nil)) rfl (mA _ _ _ (gd_t hx19 hb))))) ?_
   refine .cons (lopg rfl rfl rfl rfl (by decide) (fun S hA=>grd1 hA rfl rfl) (fun S hA hb=>(aAG rfl rfl (lb rfl) Try.underlying4 (svc (d:=.bool _) (agr hA rfl rfl) hb) (svc (d:=.bool _) (agr hA rfl rfl) hb) hx20))) ?_
   refine .cons (lop rfl rfl fun S hA=>(cO rfl rfl (lb rfl) (svaB hA rfl rfl) (agr hA rfl rfl) rfl hx21)) ?_
   refine .cons (lop rfl rfl fun S hA=>(aE rfl rfl (lb rfl) (svaB hA rfl rfl))) ?_
   refine .cons (lopg rfl rfl rfl rfl (by decide) (fun S hA=>grd1 hA rfl rfl) (fun S hA hb=>(dK (cs:=q5) rfl rfl (lb rfl) Try.underlying32 ag32 ti32 (by decide) (svaR hA rfl rfl) (agi hA rfl rfl) (nle rfl) rfl))) ?_
   refine .cons (lopg rfl rfl rfl rfl (by decide) (fun S hA=>grd1 hA rfl rfl) (fun S hA hb=>(aX (r:=.agg q5) rfl rfl (lb rfl) cl13 (.cons (svc (d:=.agg (v0 x6)) (agr hA rfl rfl) hb) .nil) rfl (nN _ _ (gd_t hx22 hb))))) ?_
   refine .cons (lopg rfl rfl rfl rfl (by decide) (fun S hA=>grd1 hA rfl rfl) (fun S hA hb=>(dK (cs:=q5) rfl rfl (lb rfl) Try.underlying25 ag25 ti25 (by decide) (svaR hA rfl rfl) (agi hA rfl rfl) (nle rfl) rfl))) ?_
   refine .cons (lopg rfl rfl rfl rfl (by decide) (fun S hA=>grd1 hA rfl rfl) (fun S hA hb=>(aX (r:=.bool _) rfl rfl (lb rfl) cl12 (.cons (svc (d:=.agg (v0 x22)) (agr hA rfl rfl) hb) (.cons (svc (d:=.agg (v0 a0)) (agr hA rfl rfl) hb) .nil)) rfl (mA _ _ _ (gd_t hx23 hb))))) ?_
   refine .cons (lop rfl rfl fun S hA=>(cO rfl rfl (lb rfl) (svaB hA rfl rfl) (agr hA rfl rfl) rfl hx24)) ?_
   refine .cons (lop rfl rfl fun S hA=>(aE rfl rfl (lb rfl) (svaB hA rfl rfl))) ?_
   refine .cons (lopg rfl rfl rfl rfl (by decide) (fun S hA=>grd1 hA rfl rfl) (fun S hA hb=>(aX (r:=.bool _) rfl rfl (lb rfl) cl8 .nil rfl (nD  _ (gd_t hx25 hb))))) ?_
   refine .cons (lop rfl rfl fun S hA=>(cO rfl rfl (lb rfl) (svaB hA rfl rfl) (agr hA rfl rfl) rfl hx26)) ?_
   refine .cons (lop rfl rfl fun S hA=>(aG rfl rfl (lb rfl) (svaB hA rfl rfl))) ?_
   exact .nil
  refine aW ?_
  obtain rfl:=Option.some.inj h
  refine ⟨.inr rfl,(.cons (sv rfl) .nil)⟩

end Go.Proofs.Ythjfhdlaockolaa
