/-
  A part of the proof: rules and plain facts. No condition.
-/
import Derived.Test.YtnokcmkfkfeaiaaGreatProg
import Derived.KernelRfl
import Derived.Test.YtnokcmkfkfeaiaaGreatIlEq
import Derived.Test.YtnokcmkfkfeaiaaGreatIlA25bD
import Derived.Test.YtnokcmkfkfeaiaaGreatIlA25bC3
set_option linter.all false
set_option maxRecDepth 8000
set_option maxHeartbeats 2000000
open Go Go.IL Go.Fn Go.Proofs
namespace Go.Proofs.YtnokcmkfkfeaiaaGreat
theorem ti49 : TI Tryz.prog 49 (some (.agg #[.int .i64 0,.int .i64 0,.string ⟨#[]⟩,.int .i64 0,.slice none 0 0,.slice none 0 0,.bool false,.bool false,.bool false,.bool false,.int .i64 0,.string ⟨#[]⟩,.slice none 0 0,.int .i64 0,.int .i64 0,.int .i64 0,.int .i64 0,.int .i64 0,.int .i64 0,.int .i64 0,.int .i64 0,.int .i64 0,.int .i64 0,.int .i64 0,.int .i64 0,.int .i64 0,.string ⟨#[]⟩,.int .i64 0,.slice none 0 0,.slice none 0 0,.bool false,.bool false,.bool false,.bool false,.int .i64 0,.string ⟨#[]⟩,.slice none 0 0,.int .i64 0,.int .i64 0,.int .i64 0,.int .i64 0,.int .i64 0,.int .i64 0,.int .i64 0,.int .i64 0,.int .i64 0,.int .i64 0,.int .i64 0,.slice none 0 0,.string ⟨#[]⟩,.string ⟨#[]⟩,.int .i64 0,.bool false])) 53 536:=by unfold TI; kernel_rfl
theorem ag30 : gP Tryz.prog 30 = true:=by kernel_rfl
theorem pl30 : ∀ w,(Array.mapM (m:=Sem) (fun (f : Field)=>Functor.map (Prod.mk f.offset) (sizeOf f.type)) (fieldsOf Tryz.prog 30)).run Tryz.prog w = .ok #[(0,1),(1,1),(2,1),(3,1)] w:=fun w=>by kernel_rfl
theorem pl49 : ∀ w,(Array.mapM (m:=Sem) (fun (f : Field)=>Functor.map (Prod.mk f.offset) (sizeOf f.type)) (fieldsOf Tryz.prog 49)).run Tryz.prog w = .ok #[(0,24),(24,24),(48,1),(49,1),(50,1),(51,1),(52,1)] w:=fun w=>by kernel_rfl
theorem cl7 : bH Tryz.prog 7:=⟨Tryz.f7,Tryz.func7,rfl,rfl⟩
theorem cl8 : bH Tryz.prog 8:=⟨Tryz.f8,Tryz.func8,rfl,rfl⟩
theorem cl9 : bH Tryz.prog 9:=⟨Tryz.f9,Tryz.func9,rfl,rfl⟩
theorem cl10 : bH Tryz.prog 10:=⟨Tryz.f10,Tryz.func10,rfl,rfl⟩
theorem cl11 : bH Tryz.prog 11:=⟨Tryz.f11,Tryz.func11,rfl,rfl⟩



theorem nS (a0 : Int) (a1 : (List cC)) (r : Bool) (h : fO a0 a1 = some r) : cF Tryz.prog 4 [.int .u8 a0, .slice false (a1.map cP.d)] (.bool r) := by
 refine bA (rs:=[.bool r]) Tryz.func4 rfl Tryz.ntmps4 (nle rfl) rfl fun O hO=>?_
 show IWP _ _ _ _ ⟨[(0,.int .u8 a0),(1,.slice false (a1.map cP.d))],[]⟩ _
 unfold fO at h
 refine aE (aA rfl (aH rfl rfl (lb rfl) (sv (d:=.bool false) rfl)) <|aD ?_)
 refine bC ?_
 obtain ⟨x1,hx1,h⟩:=bF h
 refine aE (aA rfl (mvL rfl rfl rfl rfl) <|aA rfl (aU (r:=.bool _) rfl rfl (lb rfl) cl7 (.cons (svL rfl) (.cons (sv (d:=.int _ 60) rfl) .nil)) rfl (qU _ _ _ hx1)) <|aA rfl (dB rfl rfl (lb rfl) (svB rfl)) <|aD ?_)
 refine aV (b:=_) rfl (fun hc2=>?_) (fun hc2=>?_)
 ·
  replace h:=cD h hc2
  obtain ⟨x3,hx3,h⟩:=bF h
  refine aE (aA rfl (aU (r:=.bool _) rfl rfl (lb rfl) cl8 .nil rfl (lS  _ hx3)) <|aA rfl (asB rfl rfl rfl rfl) <|aD ?_)
  refine aT ?_
  refine bI ?_
  obtain rfl:=Option.some.inj h
  refine ⟨.inr rfl,(.cons (sv rfl) .nil)⟩
 ·
  replace h:=cE h hc2
  refine aY ?_
  refine aS ?_
  obtain ⟨x4,hx4,h⟩:=aQ h
  obtain ⟨x5,hx5,h⟩:=aQ h
  refine aE (aA rfl (mvI rfl rfl rfl rfl) <|aA rfl (iW rfl rfl (lb rfl) ⟨_,Tryz.underlying5⟩ Tryz.underlying3 (svI rfl) hx4) <|aA rfl (bM rfl rfl (lb rfl) (sv (d:=.int _ 1) rfl) (svI rfl) rfl hx5) <|aA rfl (asI rfl rfl rfl rfl) <|aD ?_)
  refine aE (aA rfl (mvI rfl rfl rfl rfl) <|?_)
  refine vH (S':=⟨[(1,.slice false (a1.map cP.d)),(5,.int .i64 x5),(26,.int .i64 x5)],[]⟩) (fun i=>i) ⟨(.sames rfl rfl),.nil,cK [] rfl (by decide),fun _ _=>rfl⟩ ?_
  refine aAp 1 0 rfl rfl rfl (by decide) cl9 Tryz.func9 rfl (.cons (svI rfl) .nil) Tryz.ntmps9 (nle rfl) rfl hO fun O1 hO1=>?_
  show IWP _ _ _ _ ⟨[(0,.int .i64 x5)],[(0,.kept 1 [.dead,.slice false (a1.map cP.d),.dead,.dead,.dead,.int .i64 x5,.dead,.dead,.dead,.dead,.dead,.dead,.dead,.dead,.dead,.dead,.dead,.dead,.dead,.dead,.dead,.dead,.dead,.dead,.dead,.dead,.int .i64 x5,.dead,.dead,.dead,.dead,.dead,.dead,.dead,.dead,.dead,.dead,.dead,.dead,.dead,.dead,.dead,.dead,.dead,.dead,.dead,.dead,.dead,.dead,.dead,.dead,.dead,.dead,.dead,.dead,.dead,.dead,.dead,.dead,.dead,.dead,.dead,.dead,.dead,.dead,.dead,.dead,.dead,.dead,.dead,.dead,.dead,.dead,.dead,.dead,.dead,.dead,.dead,.dead,.dead,.dead,.dead,.dead,.dead,.dead,.dead,.dead,.dead,.dead,.dead,.dead,.dead,.dead,.dead,.dead,.dead,.dead,.dead,.dead,.dead,.dead,.dead,.dead,.dead,.dead,.dead,.dead,.dead,.dead,.dead,.dead,.dead,.dead,.dead,.dead,.dead,.dead,.dead,.dead,.dead,.dead,.dead,.dead,.dead,.dead,.dead,.dead,.dead,.dead,.dead,.dead,.dead,.dead,.dead,.dead,.dead,.dead,.dead,.dead,.dead,.dead,.dead,.dead,.dead,.dead,.dead,.dead,.dead,.dead,.dead,.dead,.dead,.dead,.dead,.dead,.dead,.dead,.dead,.dead,.dead,.dead,.dead,.dead,.dead,.dead,.dead,.dead,.dead,.dead,.dead,.dead,.dead,.dead,.dead,.dead,.dead,.dead,.dead,.dead,.dead,.dead,.dead,.dead])]⟩ _
  refine aE (aA rfl (aH rfl rfl (lb rfl) (sv (d:=.nilp) rfl)) <|aA rfl (aH rfl rfl (lb rfl) (sv (d:=.bool false) rfl)) <|aD ?_)
  obtain ⟨x6,hx6,h⟩:=bF h
  refine aE (aA rfl (mvI rfl rfl rfl rfl) <|aA rfl (mvI rfl rfl rfl rfl) <|aA rfl (aU (r:=.tuple q38) rfl rfl (lb rfl) cl14 (.cons (sv (d:=.int _ 5) rfl) (.cons (svI rfl) (.cons (svI rfl) .nil))) rfl (mV _ _ _ _ hx6)) <|aA rfl (aM rfl rfl (lb rfl) (sv (d:=.tuple q38) rfl)) <|aA rfl (aZ (d:=.agg q13) rfl rfl (lb rfl) (sv (d:=.tuple q38) rfl) rfl) <|aA rfl (aZ (d:=.int _ _) rfl rfl (lb rfl) (sv (d:=.tuple q38) rfl) rfl) <|aA rfl (bD (cs:=q14) (cs':=[.int .i64 0,.int .i64 0,.str [],.int .i64 0,.nils,.nils,.bool false,.bool false,.bool false,.bool false,.int .i64 0,.str [],.nils,.int .i64 0,.int .i64 0,.int .i64 0,.int .i64 0,.int .i64 0,.int .i64 0,.int .i64 0,.int .i64 0,.int .i64 0,.int .i64 0,.int .i64 0]) 1 rfl rfl (lb rfl) rfl ti46 rfl rfl (.all _)) <|aA rfl (stA q13 q13 ti46 rfl rfl rfl rfl rfl rfl rfl rfl (nle rfl) rfl) <|aA rfl (asI rfl rfl rfl rfl) <|aD ?_)
  obtain ⟨x7,hx7,h⟩:=bF h
  refine aE (aA rfl (mvI rfl rfl rfl rfl) <|aA rfl (mvI rfl rfl rfl rfl) <|aA rfl (aU (r:=.tuple q38) rfl rfl (lb rfl) cl14 (.cons (sv (d:=.int _ 5) rfl) (.cons (svI rfl) (.cons (svI rfl) .nil))) rfl (mV _ _ _ _ hx7)) <|aA rfl (aM rfl rfl (lb rfl) (sv (d:=.tuple q38) rfl)) <|aA rfl (aZ (d:=.agg q13) rfl rfl (lb rfl) (sv (d:=.tuple q38) rfl) rfl) <|aA rfl (aZ (d:=.int _ _) rfl rfl (lb rfl) (sv (d:=.tuple q38) rfl) rfl) <|aA rfl (bD (cs:=q14) (cs':=[.int .i64 0,.int .i64 0,.str [],.int .i64 0,.nils,.nils,.bool false,.bool false,.bool false,.bool false,.int .i64 0,.str [],.nils,.int .i64 0,.int .i64 0,.int .i64 0,.int .i64 0,.int .i64 0,.int .i64 0,.int .i64 0,.int .i64 0,.int .i64 0,.int .i64 0,.int .i64 0]) 2 rfl rfl (lb rfl) rfl ti46 rfl rfl (.all _)) <|aA rfl (stA q13 q13 ti46 rfl rfl rfl rfl rfl rfl rfl rfl (nle rfl) rfl) <|aA rfl (asI rfl rfl rfl rfl) <|aD ?_)
  obtain ⟨x8,hx8,h⟩:=aQ h
  obtain ⟨x9,hx9,h⟩:=aQ h
  obtain ⟨x10,hx10,h⟩:=aQ h
  refine aE (aA rfl (lra q13 la46 rfl rfl rfl rfl rfl (nle rfl) rfl) <|aA rfl (lra q13 la46 rfl rfl rfl rfl rfl (nle rfl) rfl) <|aA rfl (bS (cs:=q12) rfl rfl (lb rfl) Tryz.underlying49 ti49 pl49 rfl (.cons (svA q13 rfl) (.cons (svA q13 rfl) .nil)) rfl) <|aA rfl (bR (cs:=q12) 3 rfl rfl (lb rfl) rfl (svA q12 rfl) rfl rfl) <|aA rfl (mvI rfl rfl rfl rfl) <|aA rfl (aP rfl rfl (lb rfl) (svI rfl) (sv (d:=.int _ 0) rfl) rfl hx8) <|aA rfl (mvB rfl rfl rfl rfl) <|aC rfl rfl (.one rfl) rfl (by decide) (fun hb=>(mvI rfl rfl rfl rfl)) <|aC rfl rfl (.one rfl) rfl (by decide) (fun hb=>(aP rfl rfl (lb rfl) (svcI rfl hb) (sv (d:=.int _ 0) rfl) rfl hx9)) <|aA rfl (bT rfl rfl (lb rfl) (svB rfl) rfl rfl hx10) <|aA rfl (aH rfl rfl (lb rfl) (svR rfl)) <|aA rfl (asB rfl rfl rfl rfl) <|aD ?_)
  refine aT ?_
  refine ⟨.inr rfl,0,_,[.ref 3 0,.bool x10],(.cons (sv rfl) (.cons (sv rfl) .nil)),rfl,rfl,⟨[(1,.slice false (a1.map cP.d)),(5,.int .i64 x5),(27,.tuple [.ref 3 0,.bool x10])],[(3,.blk 49 [.int .i64 x6.1.ID,.int .i64 x6.1.Send.Base,.str x6.1.Send.Data,.int .i64 x6.1.Send.Next,.slice false (x6.1.Send.Pieces.map aB.d),.slice false (x6.1.Send.Lost.map aK.d),.bool x6.1.Send.Closed,.bool x6.1.Send.Sent,.bool x6.1.Send.Again,.bool x6.1.Send.Done,.int .i64 x6.1.Recv.Recv.Base,.str x6.1.Recv.Recv.Ready,.slice false (x6.1.Recv.Recv.Parts.map aL.d),.int .i64 x6.1.Recv.End,.int .i64 x6.1.Out.Window,.int .i64 x6.1.Out.Limit,.int .i64 x6.1.Out.Used,.int .i64 x6.1.Out.Read,.int .i64 x6.1.In.Window,.int .i64 x6.1.In.Limit,.int .i64 x6.1.In.Used,.int .i64 x6.1.In.Read,.int .i64 x6.1.Mine,.int .i64 x6.1.Hers,.int .i64 x7.1.ID,.int .i64 x7.1.Send.Base,.str x7.1.Send.Data,.int .i64 x7.1.Send.Next,.slice false (x7.1.Send.Pieces.map aB.d),.slice false (x7.1.Send.Lost.map aK.d),.bool x7.1.Send.Closed,.bool x7.1.Send.Sent,.bool x7.1.Send.Again,.bool x7.1.Send.Done,.int .i64 x7.1.Recv.Recv.Base,.str x7.1.Recv.Recv.Ready,.slice false (x7.1.Recv.Recv.Parts.map aL.d),.int .i64 x7.1.Recv.End,.int .i64 x7.1.Out.Window,.int .i64 x7.1.Out.Limit,.int .i64 x7.1.Out.Used,.int .i64 x7.1.Out.Read,.int .i64 x7.1.In.Window,.int .i64 x7.1.In.Limit,.int .i64 x7.1.In.Used,.int .i64 x7.1.In.Read,.int .i64 x7.1.Mine,.int .i64 x7.1.Hers,.nils,.str [],.str [],.int .i64 0,.bool false])]⟩,(fun i=>i),⟨(.sames rfl rfl),(.cons (.blk rfl rfl rfl) .nil),cK [3] rfl (by decide),fun _ _=>rfl⟩,?_⟩
  refine aA rfl (aM rfl rfl (lb rfl) (sv (d:=.tuple [.ref _ _,.bool _]) rfl)) <|aA rfl (aZ (d:=.ref _ _) rfl rfl (lb rfl) (sv (d:=.tuple [.ref _ _,.bool _]) rfl) rfl) <|aA rfl (aZ (d:=.bool _) rfl rfl (lb rfl) (sv (d:=.tuple [.ref _ _,.bool _]) rfl) rfl) <|aA rfl (aH rfl rfl (lb rfl) (svR rfl)) <|aA rfl (asB rfl rfl rfl rfl) <|aD ?_
  refine bC ?_
  refine aE (aA rfl (mvB rfl rfl rfl rfl) <|aA rfl (dB rfl rfl (lb rfl) (svB rfl)) <|aD ?_)
  refine aV (b:=_) rfl (fun hc11=>?_) (fun hc11=>?_)
  ·
   replace h:=cD h hc11
   refine aE (aA rfl (aH rfl rfl (lb rfl) (sv (d:=.bool false) rfl)) <|aD ?_)
   refine aT ?_
   refine bI ?_
   obtain rfl:=Option.some.inj h
   refine ⟨.inr rfl,(.cons (sv rfl) .nil)⟩
  ·
   replace h:=cE h hc11
   refine aY ?_
   refine aS ?_
   refine bC ?_
   refine aE (aA rfl (aH rfl rfl (lb rfl) (sv (d:=.int _ 0) rfl)) <|aD ?_)
   refine bZ ?_
   refine dW (α:=Nat × Int × Int × Int × (List UInt8) × Int × (List aJ) × (List aG) × Bool × Bool × Bool × Bool × Int × (List UInt8) × (List aN) × Int × Int × Int × Int × Int × Int × Int × Int × Int × Int × Int × Int × Int × (List UInt8) × Int × (List aJ) × (List aG) × Bool × Bool × Bool × Bool × Int × (List UInt8) × (List aN) × Int × Int × Int × Int × Int × Int × Int × Int × Int × Int × Int × (List bL) × (List UInt8) × (List UInt8) × Int × Bool) (fun z=>⟨[(1,.slice false (a1.map cP.d)),(5,.int .i64 x5),(6,.ref 3 0),(8,.int .i64 z.2.1)],[(3,.blk 49 (w40 z.2.2.1 z.2.2.2.1 z.e.1 z.e.2.1 z.e.2.2.1 z.e.2.2.2.1 z.e.e.1 z.e.e.2.1 z.e.e.2.2.1 z.e.e.2.2.2.1 z.e.e.e.1 z.e.e.e.2.1 z.e.e.e.2.2.1 z.e.e.e.2.2.2.1 z.f.1 z.f.2.1 z.f.2.2.1 z.f.2.2.2.1 z.f.e.1 z.f.e.2.1 z.f.e.2.2.1 z.f.e.2.2.2.1 z.f.e.e.1 z.f.e.e.2.1 z.f.e.e.2.2.1 z.f.e.e.2.2.2.1 z.f.e.e.e.1 z.f.e.e.e.2.1 z.f.e.e.e.2.2.1 z.f.e.e.e.2.2.2.1 z.f.f.1 z.f.f.2.1 z.f.f.2.2.1 z.f.f.2.2.2.1 z.f.f.e.1 z.f.f.e.2.1 z.f.f.e.2.2.1 z.f.f.e.2.2.2.1 z.f.f.e.e.1 z.f.f.e.e.2.1 z.f.f.e.e.2.2.1 z.f.f.e.e.2.2.2.1 z.f.f.e.e.e.1 z.f.f.e.e.e.2.1 z.f.f.e.e.e.2.2.1 z.f.f.e.e.e.2.2.2.1 z.f.f.f.1 z.f.f.f.2.1 (.osl 25 aO.sz z.f.f.f.2.2.1.length) z.f.f.f.2.2.2.1 z.f.f.f.e.1 z.f.f.f.e.2.1 z.f.f.f.e.2.2)),(25,.blk 51 (D.flat (z.f.f.f.2.2.1.map aO.d)))]⟩) (fun z=>dR a1 x5 z.1 z.2.1 z.2.2.1 z.2.2.2.1 z.e.1 z.e.2.1 z.e.2.2.1 z.e.2.2.2.1 z.e.e.1 z.e.e.2.1 z.e.e.2.2.1 z.e.e.2.2.2.1 z.e.e.e.1 z.e.e.e.2.1 z.e.e.e.2.2.1 z.e.e.e.2.2.2.1 z.f.1 z.f.2.1 z.f.2.2.1 z.f.2.2.2.1 z.f.e.1 z.f.e.2.1 z.f.e.2.2.1 z.f.e.2.2.2.1 z.f.e.e.1 z.f.e.e.2.1 z.f.e.e.2.2.1 z.f.e.e.2.2.2.1 z.f.e.e.e.1 z.f.e.e.e.2.1 z.f.e.e.e.2.2.1 z.f.e.e.e.2.2.2.1 z.f.f.1 z.f.f.2.1 z.f.f.2.2.1 z.f.f.2.2.2.1 z.f.f.e.1 z.f.f.e.2.1 z.f.f.e.2.2.1 z.f.f.e.2.2.2.1 z.f.f.e.e.1 z.f.f.e.e.2.1 z.f.f.e.e.2.2.1 z.f.f.e.e.2.2.2.1 z.f.f.e.e.e.1 z.f.f.e.e.e.2.1 z.f.f.e.e.e.2.2.1 z.f.f.e.e.e.2.2.2.1 z.f.f.f.1 z.f.f.f.2.1 z.f.f.f.2.2.1 z.f.f.f.2.2.2.1 z.f.f.f.e.1 z.f.f.f.e.2.1 z.f.f.f.e.2.2 = some r) (fun z=>z.1) (fuel,0,x6.1.ID,x6.1.Send.Base,x6.1.Send.Data,x6.1.Send.Next,x6.1.Send.Pieces,x6.1.Send.Lost,x6.1.Send.Closed,x6.1.Send.Sent,x6.1.Send.Again,x6.1.Send.Done,x6.1.Recv.Recv.Base,x6.1.Recv.Recv.Ready,x6.1.Recv.Recv.Parts,x6.1.Recv.End,x6.1.Out.Window,x6.1.Out.Limit,x6.1.Out.Used,x6.1.Out.Read,x6.1.In.Window,x6.1.In.Limit,x6.1.In.Used,x6.1.In.Read,x6.1.Mine,x6.1.Hers,x7.1.ID,x7.1.Send.Base,x7.1.Send.Data,x7.1.Send.Next,x7.1.Send.Pieces,x7.1.Send.Lost,x7.1.Send.Closed,x7.1.Send.Sent,x7.1.Send.Again,x7.1.Send.Done,x7.1.Recv.Recv.Base,x7.1.Recv.Recv.Ready,x7.1.Recv.Recv.Parts,x7.1.Recv.End,x7.1.Out.Window,x7.1.Out.Limit,x7.1.Out.Used,x7.1.Out.Read,x7.1.In.Window,x7.1.In.Limit,x7.1.In.Used,x7.1.In.Read,x7.1.Mine,x7.1.Hers,([] : (List bL)),([] : (List UInt8)),([] : (List UInt8)),0,false) (fun i=>if i = 25 then 79 else i) ⟨(.sames rfl rfl),(.cons (.sub rfl (.same (.same (.same (.same (.same (.same (.same (.same (.same (.same (.same (.same (.same (.same (.same (.same (.same (.same (.same (.same (.same (.same (.same (.same (.same (.same (.same (.same (.same (.same (.same (.same (.same (.same (.same (.same (.same (.same (.same (.same (.same (.same (.same (.same (.same (.same (.same (.same (.nilo (.same (.same (.same (.same .nil))))))))))))))))))))))))))))))))))))))))))))))))))))) rfl) (.cons (.nilb rfl) .nil)),cK [3,79] rfl (by decide),(fun i hi=>by first | rfl | (show (if _ then _ else _) = _; (repeat' split) <;> omega))⟩ ?_ ?_
   ·exact h
   ·
    rintro ⟨n0,v18,v19,v20,v21,v22,v23,v24,v25,v26,v27,v28,v29,v30,v31,v32,v33,v34,v35,v36,v37,v38,v39,v40,v41,v42,v43,v44,v45,v46,v47,v48,v49,v50,v51,v52,v53,v54,v55,v56,v57,v58,v59,v60,v61,v62,v63,v64,v65,v66,v67,v68,v69,v70,v71⟩ h
    cases n0 with
    | zero=>exact absurd h (by unfold dR; exact nofun)
    | succ n0 =>
     unfold dR at h
     refine bC ?_
     obtain ⟨x78,hx78,h⟩:=aQ h
     refine aE (aA rfl (mvI rfl rfl rfl rfl) <|aA rfl (mvL rfl rfl rfl rfl) <|aA rfl (dL cP (l:=a1) rfl rfl (lb rfl) Tryz.underlying22 (svL rfl)) <|aA rfl (aP rfl rfl (lb rfl) (svI rfl) (svI rfl) rfl hx78) <|aD ?_)
     refine aV (b:=_) rfl (fun hc79=>?_) (fun hc79=>?_)
     ·
      replace h:=cD h hc79
      refine aY ?_
      refine aS ?_
      refine bC ?_
      refine bZ ?_
      obtain ⟨x80,hx80,h⟩:=bF h
      obtain ⟨x81,hx81,h⟩:=bF h
      refine aE (aA rfl (mvR rfl rfl rfl rfl) <|aA rfl (mvL rfl rfl rfl rfl) <|aA rfl (mvI rfl rfl rfl rfl) <|aA rfl (dY cP (cs:=q21) rfl rfl (lb rfl) Tryz.underlying22 ti30 (svL rfl) (svI rfl) hx80 rfl rfl) <|aA rfl (dE (cs:=q21) rfl rfl (lb rfl) Tryz.underlying30 ag30 ti30 (by decide) (sv (d:=.fptr q21) rfl) (nle rfl) rfl) <|aA rfl (dO (r':=.bool x81.1) (H1':=[(3,.blk 49 (w40 x81.2.1 x81.2.2.1 x81.2.2.2.1 x81.e.1 x81.e.2.1 x81.e.2.2.1 x81.e.2.2.2.1 x81.e.e.1 x81.e.e.2.1 x81.e.e.2.2.1 x81.e.e.2.2.2.1 x81.e.e.e.1 x81.e.e.e.2.1 x81.e.e.e.2.2.1 x81.e.e.e.2.2.2.1 x81.f.1 x81.f.2.1 x81.f.2.2.1 x81.f.2.2.2.1 x81.f.e.1 x81.f.e.2.1 x81.f.e.2.2.1 x81.f.e.2.2.2.1 x81.f.e.e.1 x81.f.e.e.2.1 x81.f.e.e.2.2.1 x81.f.e.e.2.2.2.1 x81.f.e.e.e.1 x81.f.e.e.e.2.1 x81.f.e.e.e.2.2.1 x81.f.e.e.e.2.2.2.1 x81.f.f.1 x81.f.f.2.1 x81.f.f.2.2.1 x81.f.f.2.2.2.1 x81.f.f.e.1 x81.f.f.e.2.1 x81.f.f.e.2.2.1 x81.f.f.e.2.2.2.1 x81.f.f.e.e.1 x81.f.f.e.e.2.1 x81.f.f.e.e.2.2.1 x81.f.f.e.e.2.2.2.1 x81.f.f.e.e.e.1 x81.f.f.e.e.e.2.1 x81.f.f.e.e.e.2.2.1 x81.f.f.e.e.e.2.2.2.1 x81.f.f.f.1 (.osl 26 aO.sz x81.f.f.f.2.1.length) x81.f.f.f.2.2.1 x81.f.f.f.2.2.2.1 x81.f.f.f.e.1 x81.f.f.f.e.2)),(26,.blk 51 (D.flat (x81.f.f.f.2.1.map aO.d)))]) 26 [3,25] rfl rfl (lb rfl) cl10 (.cons (svR rfl) (.cons (svA q21 rfl) .nil)) rfl rfl ⟨rfl,rfl,by decide,rfl,List.forall_mem_cons.2 ⟨⟨rfl,rfl,rfl,rfl⟩,List.forall_mem_cons.2 ⟨⟨rfl,rfl,(pL aO rfl),(fB aO)⟩,List.forall_mem_nil _⟩⟩⟩ (cY _ _ _ _ _ _ _ _ _ _ _ _ _ _ _ _ _ _ _ _ _ _ _ _ _ _ _ _ _ _ _ _ _ _ _ _ _ _ _ _ _ _ _ _ _ _ _ _ _ _ _ _ _ _ _ hx81) rfl rfl (List.forall_mem_cons.2 ⟨⟨rfl,rfl⟩,List.forall_mem_cons.2 ⟨⟨rfl,(fB aO)⟩,List.forall_mem_nil _⟩⟩) (by simp only [List.map_cons,List.map_nil,Ent.ren,eD,eQ]; rfl)) <|aA rfl (dB rfl rfl (lb rfl) (svB rfl)) <|aD ?_)
      refine aV (b:=_) rfl (fun hc82=>?_) (fun hc82=>?_)
      ·
       replace h:=cD h hc82
       refine aE (aA rfl (aH rfl rfl (lb rfl) (sv (d:=.bool false) rfl)) <|aD ?_)
       refine aT ?_
       refine cS ?_
       refine bI ?_
       refine bI ?_
       refine cS ?_
       refine bI ?_
       obtain rfl:=Option.some.inj h
       refine ⟨.inr rfl,(.cons (sv rfl) .nil)⟩
      ·
       replace h:=cE h hc82
       refine aY ?_
       refine cO ?_
       refine aS ?_
       obtain ⟨x83,hx83,h⟩:=aQ h
       refine bO (aA rfl (mvI rfl rfl rfl rfl) <|aA rfl (bM rfl rfl (lb rfl) (svI rfl) (sv (d:=.int _ 1) rfl) rfl hx83) <|aA rfl (asI rfl rfl rfl rfl) <|cL ?_)
       refine aS ⟨(n0,x83,x81.2.1,x81.2.2.1,x81.2.2.2.1,x81.e.1,x81.e.2.1,x81.e.2.2.1,x81.e.2.2.2.1,x81.e.e.1,x81.e.e.2.1,x81.e.e.2.2.1,x81.e.e.2.2.2.1,x81.e.e.e.1,x81.e.e.e.2.1,x81.e.e.e.2.2.1,x81.e.e.e.2.2.2.1,x81.f.1,x81.f.2.1,x81.f.2.2.1,x81.f.2.2.2.1,x81.f.e.1,x81.f.e.2.1,x81.f.e.2.2.1,x81.f.e.2.2.2.1,x81.f.e.e.1,x81.f.e.e.2.1,x81.f.e.e.2.2.1,x81.f.e.e.2.2.2.1,x81.f.e.e.e.1,x81.f.e.e.e.2.1,x81.f.e.e.e.2.2.1,x81.f.e.e.e.2.2.2.1,x81.f.f.1,x81.f.f.2.1,x81.f.f.2.2.1,x81.f.f.2.2.2.1,x81.f.f.e.1,x81.f.f.e.2.1,x81.f.f.e.2.2.1,x81.f.f.e.2.2.2.1,x81.f.f.e.e.1,x81.f.f.e.e.2.1,x81.f.f.e.e.2.2.1,x81.f.f.e.e.2.2.2.1,x81.f.f.e.e.e.1,x81.f.f.e.e.e.2.1,x81.f.f.e.e.e.2.2.1,x81.f.f.e.e.e.2.2.2.1,x81.f.f.f.1,x81.f.f.f.2.1,x81.f.f.f.2.2.1,x81.f.f.f.2.2.2.1,x81.f.f.f.e.1,x81.f.f.f.e.2),(fun i=>if i = 25 then 26 else i),⟨(.sames rfl rfl),(.cons (.blk rfl rfl rfl) (.cons (EntW.lst rfl) .nil)),cK [3,26] rfl (by decide),(fun i hi=>by first | rfl | (show (if _ then _ else _) = _; (repeat' split) <;> omega))⟩,?_,?_⟩
       exact h
       exact Nat.lt_succ_self _
     ·
      replace h:=cE h hc79
      refine eE ?_
      refine cU ?_
      refine cU ?_
      refine eG ?_
      refine aS ?_
      obtain ⟨x84,hx84,h⟩:=bF h
      refine aE (aA rfl (mvR rfl rfl rfl rfl) <|aA rfl (bS (cs:=q21) rfl rfl (lb rfl) Tryz.underlying30 ti30 pl30 rfl (.cons (sv (d:=.int _ 1) rfl) .nil) rfl) <|aA rfl (dO (r':=.bool x84.1) (H1':=[(3,.blk 49 (w40 x84.2.1 x84.2.2.1 x84.2.2.2.1 x84.e.1 x84.e.2.1 x84.e.2.2.1 x84.e.2.2.2.1 x84.e.e.1 x84.e.e.2.1 x84.e.e.2.2.1 x84.e.e.2.2.2.1 x84.e.e.e.1 x84.e.e.e.2.1 x84.e.e.e.2.2.1 x84.e.e.e.2.2.2.1 x84.f.1 x84.f.2.1 x84.f.2.2.1 x84.f.2.2.2.1 x84.f.e.1 x84.f.e.2.1 x84.f.e.2.2.1 x84.f.e.2.2.2.1 x84.f.e.e.1 x84.f.e.e.2.1 x84.f.e.e.2.2.1 x84.f.e.e.2.2.2.1 x84.f.e.e.e.1 x84.f.e.e.e.2.1 x84.f.e.e.e.2.2.1 x84.f.e.e.e.2.2.2.1 x84.f.f.1 x84.f.f.2.1 x84.f.f.2.2.1 x84.f.f.2.2.2.1 x84.f.f.e.1 x84.f.f.e.2.1 x84.f.f.e.2.2.1 x84.f.f.e.2.2.2.1 x84.f.f.e.e.1 x84.f.f.e.e.2.1 x84.f.f.e.e.2.2.1 x84.f.f.e.e.2.2.2.1 x84.f.f.e.e.e.1 x84.f.f.e.e.e.2.1 x84.f.f.e.e.e.2.2.1 x84.f.f.e.e.e.2.2.2.1 x84.f.f.f.1 (.osl 26 aO.sz x84.f.f.f.2.1.length) x84.f.f.f.2.2.1 x84.f.f.f.2.2.2.1 x84.f.f.f.e.1 x84.f.f.f.e.2)),(26,.blk 51 (D.flat (x84.f.f.f.2.1.map aO.d)))]) 26 [3,25] rfl rfl (lb rfl) cl10 (.cons (svR rfl) (.cons (svA q21 rfl) .nil)) rfl rfl ⟨rfl,rfl,by decide,rfl,List.forall_mem_cons.2 ⟨⟨rfl,rfl,rfl,rfl⟩,List.forall_mem_cons.2 ⟨⟨rfl,rfl,(pL aO rfl),(fB aO)⟩,List.forall_mem_nil _⟩⟩⟩ (cY _ _ _ _ _ _ _ _ _ _ _ _ _ _ _ _ _ _ _ _ _ _ _ _ _ _ _ _ _ _ _ _ _ _ _ _ _ _ _ _ _ _ _ _ _ _ _ _ _ _ _ _ _ _ _ hx84) rfl rfl (List.forall_mem_cons.2 ⟨⟨rfl,rfl⟩,List.forall_mem_cons.2 ⟨⟨rfl,(fB aO)⟩,List.forall_mem_nil _⟩⟩) (by simp only [List.map_cons,List.map_nil,Ent.ren,eD,eQ]; rfl)) <|aD ?_)
      refine bC ?_
      refine aE (aA rfl (aH rfl rfl (lb rfl) (sv (d:=.int _ 0) rfl)) <|aD ?_)
      refine bZ ?_
      refine dW (α:=Nat × Int × Int × Int × (List UInt8) × Int × (List aJ) × (List aG) × Bool × Bool × Bool × Bool × Int × (List UInt8) × (List aN) × Int × Int × Int × Int × Int × Int × Int × Int × Int × Int × Int × Int × Int × (List UInt8) × Int × (List aJ) × (List aG) × Bool × Bool × Bool × Bool × Int × (List UInt8) × (List aN) × Int × Int × Int × Int × Int × Int × Int × Int × Int × Int × Int × (List bL) × (List UInt8) × (List UInt8) × Int × Bool) (fun z=>⟨[(5,.int .i64 x5),(6,.ref 3 0),(9,.int .i64 z.2.1)],[(3,.blk 49 (w40 z.2.2.1 z.2.2.2.1 z.e.1 z.e.2.1 z.e.2.2.1 z.e.2.2.2.1 z.e.e.1 z.e.e.2.1 z.e.e.2.2.1 z.e.e.2.2.2.1 z.e.e.e.1 z.e.e.e.2.1 z.e.e.e.2.2.1 z.e.e.e.2.2.2.1 z.f.1 z.f.2.1 z.f.2.2.1 z.f.2.2.2.1 z.f.e.1 z.f.e.2.1 z.f.e.2.2.1 z.f.e.2.2.2.1 z.f.e.e.1 z.f.e.e.2.1 z.f.e.e.2.2.1 z.f.e.e.2.2.2.1 z.f.e.e.e.1 z.f.e.e.e.2.1 z.f.e.e.e.2.2.1 z.f.e.e.e.2.2.2.1 z.f.f.1 z.f.f.2.1 z.f.f.2.2.1 z.f.f.2.2.2.1 z.f.f.e.1 z.f.f.e.2.1 z.f.f.e.2.2.1 z.f.f.e.2.2.2.1 z.f.f.e.e.1 z.f.f.e.e.2.1 z.f.f.e.e.2.2.1 z.f.f.e.e.2.2.2.1 z.f.f.e.e.e.1 z.f.f.e.e.e.2.1 z.f.f.e.e.e.2.2.1 z.f.f.e.e.e.2.2.2.1 z.f.f.f.1 z.f.f.f.2.1 (.osl 26 aO.sz z.f.f.f.2.2.1.length) z.f.f.f.2.2.2.1 z.f.f.f.e.1 z.f.f.f.e.2.1 z.f.f.f.e.2.2)),(26,.blk 51 (D.flat (z.f.f.f.2.2.1.map aO.d)))]⟩) (fun z=>dQ x5 z.1 z.2.1 z.2.2.1 z.2.2.2.1 z.e.1 z.e.2.1 z.e.2.2.1 z.e.2.2.2.1 z.e.e.1 z.e.e.2.1 z.e.e.2.2.1 z.e.e.2.2.2.1 z.e.e.e.1 z.e.e.e.2.1 z.e.e.e.2.2.1 z.e.e.e.2.2.2.1 z.f.1 z.f.2.1 z.f.2.2.1 z.f.2.2.2.1 z.f.e.1 z.f.e.2.1 z.f.e.2.2.1 z.f.e.2.2.2.1 z.f.e.e.1 z.f.e.e.2.1 z.f.e.e.2.2.1 z.f.e.e.2.2.2.1 z.f.e.e.e.1 z.f.e.e.e.2.1 z.f.e.e.e.2.2.1 z.f.e.e.e.2.2.2.1 z.f.f.1 z.f.f.2.1 z.f.f.2.2.1 z.f.f.2.2.2.1 z.f.f.e.1 z.f.f.e.2.1 z.f.f.e.2.2.1 z.f.f.e.2.2.2.1 z.f.f.e.e.1 z.f.f.e.e.2.1 z.f.f.e.e.2.2.1 z.f.f.e.e.2.2.2.1 z.f.f.e.e.e.1 z.f.f.e.e.e.2.1 z.f.f.e.e.e.2.2.1 z.f.f.e.e.e.2.2.2.1 z.f.f.f.1 z.f.f.f.2.1 z.f.f.f.2.2.1 z.f.f.f.2.2.2.1 z.f.f.f.e.1 z.f.f.f.e.2.1 z.f.f.f.e.2.2 = some r) (fun z=>z.1) (fuel,0,x84.2.1,x84.2.2.1,x84.2.2.2.1,x84.e.1,x84.e.2.1,x84.e.2.2.1,x84.e.2.2.2.1,x84.e.e.1,x84.e.e.2.1,x84.e.e.2.2.1,x84.e.e.2.2.2.1,x84.e.e.e.1,x84.e.e.e.2.1,x84.e.e.e.2.2.1,x84.e.e.e.2.2.2.1,x84.f.1,x84.f.2.1,x84.f.2.2.1,x84.f.2.2.2.1,x84.f.e.1,x84.f.e.2.1,x84.f.e.2.2.1,x84.f.e.2.2.2.1,x84.f.e.e.1,x84.f.e.e.2.1,x84.f.e.e.2.2.1,x84.f.e.e.2.2.2.1,x84.f.e.e.e.1,x84.f.e.e.e.2.1,x84.f.e.e.e.2.2.1,x84.f.e.e.e.2.2.2.1,x84.f.f.1,x84.f.f.2.1,x84.f.f.2.2.1,x84.f.f.2.2.2.1,x84.f.f.e.1,x84.f.f.e.2.1,x84.f.f.e.2.2.1,x84.f.f.e.2.2.2.1,x84.f.f.e.e.1,x84.f.f.e.e.2.1,x84.f.f.e.e.2.2.1,x84.f.f.e.e.2.2.2.1,x84.f.f.e.e.e.1,x84.f.f.e.e.e.2.1,x84.f.f.e.e.e.2.2.1,x84.f.f.e.e.e.2.2.2.1,x84.f.f.f.1,x84.f.f.f.2.1,x84.f.f.f.2.2.1,x84.f.f.f.2.2.2.1,x84.f.f.f.e.1,x84.f.f.f.e.2) (fun i=>i) ⟨(.sames rfl rfl),(.cons (.blk rfl rfl rfl) (.cons (EntW.lst rfl) .nil)),cK [3,26] rfl (by decide),fun _ _=>rfl⟩ ?_ ?_
      ·exact h
      ·
       rintro ⟨n1,v90,v91,v92,v93,v94,v95,v96,v97,v98,v99,v100,v101,v102,v103,v104,v105,v106,v107,v108,v109,v110,v111,v112,v113,v114,v115,v116,v117,v118,v119,v120,v121,v122,v123,v124,v125,v126,v127,v128,v129,v130,v131,v132,v133,v134,v135,v136,v137,v138,v139,v140,v141,v142,v143⟩ h
       cases n1 with
       | zero=>exact absurd h (by unfold dQ; exact nofun)
       | succ n1 =>
        unfold dQ at h
        refine bC ?_
        obtain ⟨x149,hx149,h⟩:=aQ h
        refine aE (aA rfl (mvI rfl rfl rfl rfl) <|aA rfl (aP rfl rfl (lb rfl) (svI rfl) (sv (d:=.int _ 4) rfl) rfl hx149) <|aD ?_)
        refine aV (b:=_) rfl (fun hc150=>?_) (fun hc150=>?_)
        ·
         replace h:=cD h hc150
         refine aY ?_
         refine aS ?_
         refine bC ?_
         refine bZ ?_
         obtain ⟨x151,hx151,h⟩:=aQ h
         obtain ⟨x152,hx152,h⟩:=bF h
         refine bO (aA rfl (mvR rfl rfl rfl rfl) <|aA rfl (mvI rfl rfl rfl rfl) <|aA rfl (iW rfl rfl (lb rfl) ⟨_,Tryz.underlying3⟩ Tryz.underlying5 (svI rfl) hx151) <|aA rfl (bS (cs:=q21) rfl rfl (lb rfl) Tryz.underlying30 ti30 pl30 rfl (.cons (sv (d:=.int _ 7) rfl) (.cons (svI rfl) .nil)) rfl) <|aA rfl (dO (r':=.bool x152.1) (H1':=[(3,.blk 49 (w40 x152.2.1 x152.2.2.1 x152.2.2.2.1 x152.e.1 x152.e.2.1 x152.e.2.2.1 x152.e.2.2.2.1 x152.e.e.1 x152.e.e.2.1 x152.e.e.2.2.1 x152.e.e.2.2.2.1 x152.e.e.e.1 x152.e.e.e.2.1 x152.e.e.e.2.2.1 x152.e.e.e.2.2.2.1 x152.f.1 x152.f.2.1 x152.f.2.2.1 x152.f.2.2.2.1 x152.f.e.1 x152.f.e.2.1 x152.f.e.2.2.1 x152.f.e.2.2.2.1 x152.f.e.e.1 x152.f.e.e.2.1 x152.f.e.e.2.2.1 x152.f.e.e.2.2.2.1 x152.f.e.e.e.1 x152.f.e.e.e.2.1 x152.f.e.e.e.2.2.1 x152.f.e.e.e.2.2.2.1 x152.f.f.1 x152.f.f.2.1 x152.f.f.2.2.1 x152.f.f.2.2.2.1 x152.f.f.e.1 x152.f.f.e.2.1 x152.f.f.e.2.2.1 x152.f.f.e.2.2.2.1 x152.f.f.e.e.1 x152.f.f.e.e.2.1 x152.f.f.e.e.2.2.1 x152.f.f.e.e.2.2.2.1 x152.f.f.e.e.e.1 x152.f.f.e.e.e.2.1 x152.f.f.e.e.e.2.2.1 x152.f.f.e.e.e.2.2.2.1 x152.f.f.f.1 (.osl 27 aO.sz x152.f.f.f.2.1.length) x152.f.f.f.2.2.1 x152.f.f.f.2.2.2.1 x152.f.f.f.e.1 x152.f.f.f.e.2)),(27,.blk 51 (D.flat (x152.f.f.f.2.1.map aO.d)))]) 27 [3,26] rfl rfl (lb rfl) cl10 (.cons (svR rfl) (.cons (svA q21 rfl) .nil)) rfl rfl ⟨rfl,rfl,by decide,rfl,List.forall_mem_cons.2 ⟨⟨rfl,rfl,rfl,rfl⟩,List.forall_mem_cons.2 ⟨⟨rfl,rfl,(pL aO rfl),(fB aO)⟩,List.forall_mem_nil _⟩⟩⟩ (cY _ _ _ _ _ _ _ _ _ _ _ _ _ _ _ _ _ _ _ _ _ _ _ _ _ _ _ _ _ _ _ _ _ _ _ _ _ _ _ _ _ _ _ _ _ _ _ _ _ _ _ _ _ _ _ hx152) rfl rfl (List.forall_mem_cons.2 ⟨⟨rfl,rfl⟩,List.forall_mem_cons.2 ⟨⟨rfl,(fB aO)⟩,List.forall_mem_nil _⟩⟩) (by simp only [List.map_cons,List.map_nil,Ent.ren,eD,eQ]; rfl)) <|cL ?_)
         refine cO ?_
         refine aS ?_
         obtain ⟨x153,hx153,h⟩:=aQ h
         refine bO (aA rfl (mvI rfl rfl rfl rfl) <|aA rfl (bM rfl rfl (lb rfl) (svI rfl) (sv (d:=.int _ 1) rfl) rfl hx153) <|aA rfl (asI rfl rfl rfl rfl) <|cL ?_)
         refine aS ⟨(n1,x153,x152.2.1,x152.2.2.1,x152.2.2.2.1,x152.e.1,x152.e.2.1,x152.e.2.2.1,x152.e.2.2.2.1,x152.e.e.1,x152.e.e.2.1,x152.e.e.2.2.1,x152.e.e.2.2.2.1,x152.e.e.e.1,x152.e.e.e.2.1,x152.e.e.e.2.2.1,x152.e.e.e.2.2.2.1,x152.f.1,x152.f.2.1,x152.f.2.2.1,x152.f.2.2.2.1,x152.f.e.1,x152.f.e.2.1,x152.f.e.2.2.1,x152.f.e.2.2.2.1,x152.f.e.e.1,x152.f.e.e.2.1,x152.f.e.e.2.2.1,x152.f.e.e.2.2.2.1,x152.f.e.e.e.1,x152.f.e.e.e.2.1,x152.f.e.e.e.2.2.1,x152.f.e.e.e.2.2.2.1,x152.f.f.1,x152.f.f.2.1,x152.f.f.2.2.1,x152.f.f.2.2.2.1,x152.f.f.e.1,x152.f.f.e.2.1,x152.f.f.e.2.2.1,x152.f.f.e.2.2.2.1,x152.f.f.e.e.1,x152.f.f.e.e.2.1,x152.f.f.e.e.2.2.1,x152.f.f.e.e.2.2.2.1,x152.f.f.e.e.e.1,x152.f.f.e.e.e.2.1,x152.f.f.e.e.e.2.2.1,x152.f.f.e.e.e.2.2.2.1,x152.f.f.f.1,x152.f.f.f.2.1,x152.f.f.f.2.2.1,x152.f.f.f.2.2.2.1,x152.f.f.f.e.1,x152.f.f.f.e.2),(fun i=>if i = 26 then 27 else i),⟨(.sames rfl rfl),(.cons (.blk rfl rfl rfl) (.cons (EntW.lst rfl) .nil)),cK [3,27] rfl (by decide),(fun i hi=>by first | rfl | (show (if _ then _ else _) = _; (repeat' split) <;> omega))⟩,?_,?_⟩
         exact h
         exact Nat.lt_succ_self _
        ·
         replace h:=cE h hc150
         refine eE ?_
         refine cU ?_
         refine cU ?_
         refine eG ?_
         refine aS ?_
         obtain ⟨x154,hx154,h⟩:=aQ h
         obtain ⟨x155,hx155,h⟩:=aQ h
         refine aE (aA rfl (mvR rfl rfl rfl rfl) <|aA rfl (aX rfl rfl (lb rfl) (svR rfl)) <|aA rfl (faR 49 rfl rfl rfl Tryz.underlying49 rfl ti9 (lb rfl) rfl rfl) <|aA rfl (aF (d:=.str _) rfl rfl (lb rfl) Tryz.underlying9 ag9 ti9 (by decide) (svR rfl) rfl (nle rfl) rfl) <|aA rfl (cT rfl rfl (lb rfl) Tryz.underlying9 (sv (d:=.str _) rfl) rfl) <|aA rfl (bM rfl rfl (lb rfl) (sv (d:=.int _ 3) rfl) (svI rfl) rfl hx154) <|aA rfl (bM rfl rfl (lb rfl) (svI rfl) (sv (d:=.int _ 9) rfl) rfl hx155) <|aA rfl (asI rfl rfl rfl rfl) <|aD ?_)
         refine bC ?_
         refine aE (aA rfl (aH rfl rfl (lb rfl) (sv (d:=.int _ 0) rfl)) <|aD ?_)
         refine bZ ?_
         refine dW (α:=Nat × Int × Int × Int × (List UInt8) × Int × (List aJ) × (List aG) × Bool × Bool × Bool × Bool × Int × (List UInt8) × (List aN) × Int × Int × Int × Int × Int × Int × Int × Int × Int × Int × Int × Int × Int × (List UInt8) × Int × (List aJ) × (List aG) × Bool × Bool × Bool × Bool × Int × (List UInt8) × (List aN) × Int × Int × Int × Int × Int × Int × Int × Int × Int × Int × Int × (List bL) × (List UInt8) × (List UInt8) × Int × Bool) (fun z=>⟨[(5,.int .i64 x5),(6,.ref 3 0),(10,.int .i64 x155),(11,.int .i64 z.2.1)],[(3,.blk 49 (w40 z.2.2.1 z.2.2.2.1 z.e.1 z.e.2.1 z.e.2.2.1 z.e.2.2.2.1 z.e.e.1 z.e.e.2.1 z.e.e.2.2.1 z.e.e.2.2.2.1 z.e.e.e.1 z.e.e.e.2.1 z.e.e.e.2.2.1 z.e.e.e.2.2.2.1 z.f.1 z.f.2.1 z.f.2.2.1 z.f.2.2.2.1 z.f.e.1 z.f.e.2.1 z.f.e.2.2.1 z.f.e.2.2.2.1 z.f.e.e.1 z.f.e.e.2.1 z.f.e.e.2.2.1 z.f.e.e.2.2.2.1 z.f.e.e.e.1 z.f.e.e.e.2.1 z.f.e.e.e.2.2.1 z.f.e.e.e.2.2.2.1 z.f.f.1 z.f.f.2.1 z.f.f.2.2.1 z.f.f.2.2.2.1 z.f.f.e.1 z.f.f.e.2.1 z.f.f.e.2.2.1 z.f.f.e.2.2.2.1 z.f.f.e.e.1 z.f.f.e.e.2.1 z.f.f.e.e.2.2.1 z.f.f.e.e.2.2.2.1 z.f.f.e.e.e.1 z.f.f.e.e.e.2.1 z.f.f.e.e.e.2.2.1 z.f.f.e.e.e.2.2.2.1 z.f.f.f.1 z.f.f.f.2.1 (.osl 26 aO.sz z.f.f.f.2.2.1.length) z.f.f.f.2.2.2.1 z.f.f.f.e.1 z.f.f.f.e.2.1 z.f.f.f.e.2.2)),(26,.blk 51 (D.flat (z.f.f.f.2.2.1.map aO.d)))]⟩) (fun z=>cI x5 x155 z.1 z.2.1 z.2.2.1 z.2.2.2.1 z.e.1 z.e.2.1 z.e.2.2.1 z.e.2.2.2.1 z.e.e.1 z.e.e.2.1 z.e.e.2.2.1 z.e.e.2.2.2.1 z.e.e.e.1 z.e.e.e.2.1 z.e.e.e.2.2.1 z.e.e.e.2.2.2.1 z.f.1 z.f.2.1 z.f.2.2.1 z.f.2.2.2.1 z.f.e.1 z.f.e.2.1 z.f.e.2.2.1 z.f.e.2.2.2.1 z.f.e.e.1 z.f.e.e.2.1 z.f.e.e.2.2.1 z.f.e.e.2.2.2.1 z.f.e.e.e.1 z.f.e.e.e.2.1 z.f.e.e.e.2.2.1 z.f.e.e.e.2.2.2.1 z.f.f.1 z.f.f.2.1 z.f.f.2.2.1 z.f.f.2.2.2.1 z.f.f.e.1 z.f.f.e.2.1 z.f.f.e.2.2.1 z.f.f.e.2.2.2.1 z.f.f.e.e.1 z.f.f.e.e.2.1 z.f.f.e.e.2.2.1 z.f.f.e.e.2.2.2.1 z.f.f.e.e.e.1 z.f.f.e.e.e.2.1 z.f.f.e.e.e.2.2.1 z.f.f.e.e.e.2.2.2.1 z.f.f.f.1 z.f.f.f.2.1 z.f.f.f.2.2.1 z.f.f.f.2.2.2.1 z.f.f.f.e.1 z.f.f.f.e.2.1 z.f.f.f.e.2.2 = some r) (fun z=>z.1) (fuel,0,v91,v92,v93,v94,v95,v96,v97,v98,v99,v100,v101,v102,v103,v104,v105,v106,v107,v108,v109,v110,v111,v112,v113,v114,v115,v116,v117,v118,v119,v120,v121,v122,v123,v124,v125,v126,v127,v128,v129,v130,v131,v132,v133,v134,v135,v136,v137,v138,v139,v140,v141,v142,v143) (fun i=>i) ⟨(.sames rfl rfl),(.cons (.blk rfl rfl rfl) (.cons (EntW.lst rfl) .nil)),cK [3,26] rfl (by decide),fun _ _=>rfl⟩ ?_ ?_
         ·exact h
         ·
          rintro ⟨n2,v294,v295,v296,v297,v298,v299,v300,v301,v302,v303,v304,v305,v306,v307,v308,v309,v310,v311,v312,v313,v314,v315,v316,v317,v318,v319,v320,v321,v322,v323,v324,v325,v326,v327,v328,v329,v330,v331,v332,v333,v334,v335,v336,v337,v338,v339,v340,v341,v342,v343,v344,v345,v346,v347⟩ h
          cases n2 with
          | zero=>exact absurd h (by unfold cI; exact nofun)
          | succ n2 =>
           unfold cI at h
           refine bC ?_
           obtain ⟨x486,hx486,h⟩:=aQ h
           obtain ⟨x487,hx487,h⟩:=aQ h
           refine aE (aA rfl (mvI rfl rfl rfl rfl) <|aA rfl (mvI rfl rfl rfl rfl) <|aA rfl (aP rfl rfl (lb rfl) (svI rfl) (svI rfl) rfl hx486) <|aA rfl (mvB rfl rfl rfl rfl) <|aC rfl rfl (.one rfl) rfl (by decide) (fun hb=>(mvR rfl rfl rfl rfl)) <|aC rfl rfl (.one rfl) rfl (by decide) (fun hb=>(aX rfl rfl (lb rfl) (svcR rfl hb))) <|aC rfl rfl (.one rfl) rfl (by decide) (fun hb=>(aI rfl rfl (lb rfl) Tryz.underlying49 rfl ti4 (by decide) (svcR rfl hb) (off':=52) rfl)) <|aC rfl rfl (.one rfl) rfl (by decide) (fun hb=>(aF (d:=.bool _) rfl rfl (lb rfl) Tryz.underlying4 ag4 ti4 (by decide) (svcR rfl hb) rfl (nle rfl) rfl)) <|aC rfl rfl (.one rfl) rfl (by decide) (fun hb=>(dB rfl rfl (lb rfl) (svcB rfl hb))) <|aA rfl (bT rfl rfl (lb rfl) (svB rfl) rfl rfl hx487) <|aD ?_)
           refine aV (b:=_) rfl (fun hc488=>?_) (fun hc488=>?_)
           ·
            replace h:=cD h hc488
            refine aY ?_
            refine aS ?_
            refine bC ?_
            refine bZ ?_
            refine aE (aA rfl (mvR rfl rfl rfl rfl) <|aA rfl (aX rfl rfl (lb rfl) (svR rfl)) <|aA rfl (faR 48 rfl rfl rfl Tryz.underlying49 rfl ti47 (lb rfl) rfl rfl) <|aA rfl (aF (d:=.osl _ _ _) rfl rfl (lb rfl) Tryz.underlying47 ag47 ti47 (by decide) (svR rfl) rfl (nle rfl) rfl) <|aA rfl (mC rfl rfl (lb rfl) Tryz.underlying47 (sv (d:=.osl _ _ _) rfl)) <|aA rfl (asI rfl rfl rfl rfl) <|aD ?_)
            refine kN (α:=Bool × Int × Int × (List UInt8) × Int × (List aJ) × (List aG) × Bool × Bool × Bool × Bool × Int × (List UInt8) × (List aN) × Int × Int × Int × Int × Int × Int × Int × Int × Int × Int × Int × Int × Int × (List UInt8) × Int × (List aJ) × (List aG) × Bool × Bool × Bool × Bool × Int × (List UInt8) × (List aN) × Int × Int × Int × Int × Int × Int × Int × Int × Int × Int × Int × (List bL) × (List UInt8) × (List UInt8) × Int × Bool) (fun z=>⟨[(5,.int .i64 x5),(6,.ref 3 0),(10,.int .i64 x155),(11,.int .i64 v294),(12,.int .i64 (v343.length : Int)),(13,.bool z.1)],[(3,.blk 49 (w40 z.2.1 z.2.2.1 z.2.2.2.1 z.e.1 z.e.2.1 z.e.2.2.1 z.e.2.2.2.1 z.e.e.1 z.e.e.2.1 z.e.e.2.2.1 z.e.e.2.2.2.1 z.e.e.e.1 z.e.e.e.2.1 z.e.e.e.2.2.1 z.e.e.e.2.2.2.1 z.f.1 z.f.2.1 z.f.2.2.1 z.f.2.2.2.1 z.f.e.1 z.f.e.2.1 z.f.e.2.2.1 z.f.e.2.2.2.1 z.f.e.e.1 z.f.e.e.2.1 z.f.e.e.2.2.1 z.f.e.e.2.2.2.1 z.f.e.e.e.1 z.f.e.e.e.2.1 z.f.e.e.e.2.2.1 z.f.e.e.e.2.2.2.1 z.f.f.1 z.f.f.2.1 z.f.f.2.2.1 z.f.f.2.2.2.1 z.f.f.e.1 z.f.f.e.2.1 z.f.f.e.2.2.1 z.f.f.e.2.2.2.1 z.f.f.e.e.1 z.f.f.e.e.2.1 z.f.f.e.e.2.2.1 z.f.f.e.e.2.2.2.1 z.f.f.e.e.e.1 z.f.f.e.e.e.2.1 z.f.f.e.e.e.2.2.1 z.f.f.e.e.e.2.2.2.1 z.f.f.f.1 (.osl 30 aO.sz z.f.f.f.2.1.length) z.f.f.f.2.2.1 z.f.f.f.2.2.2.1 z.f.f.f.e.1 z.f.f.f.e.2)),(30,.blk 51 (D.flat (z.f.f.f.2.1.map aO.d)))]⟩) (fun z=>dK x5 v294 v343 (cI x5 x155 n2) z.1 z.2.1 z.2.2.1 z.2.2.2.1 z.e.1 z.e.2.1 z.e.2.2.1 z.e.2.2.2.1 z.e.e.1 z.e.e.2.1 z.e.e.2.2.1 z.e.e.2.2.2.1 z.e.e.e.1 z.e.e.e.2.1 z.e.e.e.2.2.1 z.e.e.e.2.2.2.1 z.f.1 z.f.2.1 z.f.2.2.1 z.f.2.2.2.1 z.f.e.1 z.f.e.2.1 z.f.e.2.2.1 z.f.e.2.2.2.1 z.f.e.e.1 z.f.e.e.2.1 z.f.e.e.2.2.1 z.f.e.e.2.2.2.1 z.f.e.e.e.1 z.f.e.e.e.2.1 z.f.e.e.e.2.2.1 z.f.e.e.e.2.2.2.1 z.f.f.1 z.f.f.2.1 z.f.f.2.2.1 z.f.f.2.2.2.1 z.f.f.e.1 z.f.f.e.2.1 z.f.f.e.2.2.1 z.f.f.e.2.2.2.1 z.f.f.e.e.1 z.f.f.e.e.2.1 z.f.f.e.e.2.2.1 z.f.f.e.e.2.2.2.1 z.f.f.e.e.e.1 z.f.f.e.e.e.2.1 z.f.f.e.e.e.2.2.1 z.f.f.e.e.e.2.2.2.1 z.f.f.f.1 z.f.f.f.2.1 z.f.f.f.2.2.1 z.f.f.f.2.2.2.1 z.f.f.f.e.1 z.f.f.f.e.2 = some r) ?_ ?_
            ·
             obtain ⟨x605,hx605,h⟩:=bF h
             refine bO (aA rfl (mvR rfl rfl rfl rfl) <|aA rfl (bS (cs:=q21) rfl rfl (lb rfl) Tryz.underlying30 ti30 pl30 rfl (.cons (sv (d:=.int _ 2) rfl) (.cons (sv (d:=.int _ 30) rfl) .nil)) rfl) <|aA rfl (dO (r':=.bool x605.1) (H1':=[(3,.blk 49 (w40 x605.2.1 x605.2.2.1 x605.2.2.2.1 x605.e.1 x605.e.2.1 x605.e.2.2.1 x605.e.2.2.2.1 x605.e.e.1 x605.e.e.2.1 x605.e.e.2.2.1 x605.e.e.2.2.2.1 x605.e.e.e.1 x605.e.e.e.2.1 x605.e.e.e.2.2.1 x605.e.e.e.2.2.2.1 x605.f.1 x605.f.2.1 x605.f.2.2.1 x605.f.2.2.2.1 x605.f.e.1 x605.f.e.2.1 x605.f.e.2.2.1 x605.f.e.2.2.2.1 x605.f.e.e.1 x605.f.e.e.2.1 x605.f.e.e.2.2.1 x605.f.e.e.2.2.2.1 x605.f.e.e.e.1 x605.f.e.e.e.2.1 x605.f.e.e.e.2.2.1 x605.f.e.e.e.2.2.2.1 x605.f.f.1 x605.f.f.2.1 x605.f.f.2.2.1 x605.f.f.2.2.2.1 x605.f.f.e.1 x605.f.f.e.2.1 x605.f.f.e.2.2.1 x605.f.f.e.2.2.2.1 x605.f.f.e.e.1 x605.f.f.e.e.2.1 x605.f.f.e.e.2.2.1 x605.f.f.e.e.2.2.2.1 x605.f.f.e.e.e.1 x605.f.f.e.e.e.2.1 x605.f.f.e.e.e.2.2.1 x605.f.f.e.e.e.2.2.2.1 x605.f.f.f.1 (.osl 27 aO.sz x605.f.f.f.2.1.length) x605.f.f.f.2.2.1 x605.f.f.f.2.2.2.1 x605.f.f.f.e.1 x605.f.f.f.e.2)),(27,.blk 51 (D.flat (x605.f.f.f.2.1.map aO.d)))]) 27 [3,26] rfl rfl (lb rfl) cl10 (.cons (svR rfl) (.cons (svA q21 rfl) .nil)) rfl rfl ⟨rfl,rfl,by decide,rfl,List.forall_mem_cons.2 ⟨⟨rfl,rfl,rfl,rfl⟩,List.forall_mem_cons.2 ⟨⟨rfl,rfl,(pL aO rfl),(fB aO)⟩,List.forall_mem_nil _⟩⟩⟩ (cY _ _ _ _ _ _ _ _ _ _ _ _ _ _ _ _ _ _ _ _ _ _ _ _ _ _ _ _ _ _ _ _ _ _ _ _ _ _ _ _ _ _ _ _ _ _ _ _ _ _ _ _ _ _ _ hx605) rfl rfl (List.forall_mem_cons.2 ⟨⟨rfl,rfl⟩,List.forall_mem_cons.2 ⟨⟨rfl,(fB aO)⟩,List.forall_mem_nil _⟩⟩) (by simp only [List.map_cons,List.map_nil,Ent.ren,eD,eQ]; rfl)) <|aA rfl (mvB rfl rfl rfl rfl) <|aC rfl rfl (.one rfl) rfl (by decide) (fun hb=>(mvR rfl rfl rfl rfl)) <|aC rfl rfl (.one rfl) rfl (by decide) (fun hb=>(bS (cs:=q21) rfl rfl (lb rfl) Tryz.underlying30 ti30 pl30 rfl (.cons (sv (d:=.int _ 4) rfl) (.cons (sv (d:=.int _ 255) rfl) .nil)) rfl)) <|?_)
             refine kK rfl rfl (.one rfl) rfl (by decide) (fun hc606=>?_) (fun hc606=>?_)
             ·
              replace h:=cD h hc606
              refine kV 85 rfl hc606 ?_
              refine kV 86 rfl hc606 ?_
              obtain ⟨x607,hx607,h⟩:=bF h
              obtain ⟨x608,hx608,h⟩:=aQ h
              refine aA rfl (dO (r':=.bool x607.1) (H1':=[(3,.blk 49 (w40 x607.2.1 x607.2.2.1 x607.2.2.2.1 x607.e.1 x607.e.2.1 x607.e.2.2.1 x607.e.2.2.2.1 x607.e.e.1 x607.e.e.2.1 x607.e.e.2.2.1 x607.e.e.2.2.2.1 x607.e.e.e.1 x607.e.e.e.2.1 x607.e.e.e.2.2.1 x607.e.e.e.2.2.2.1 x607.f.1 x607.f.2.1 x607.f.2.2.1 x607.f.2.2.2.1 x607.f.e.1 x607.f.e.2.1 x607.f.e.2.2.1 x607.f.e.2.2.2.1 x607.f.e.e.1 x607.f.e.e.2.1 x607.f.e.e.2.2.1 x607.f.e.e.2.2.2.1 x607.f.e.e.e.1 x607.f.e.e.e.2.1 x607.f.e.e.e.2.2.1 x607.f.e.e.e.2.2.2.1 x607.f.f.1 x607.f.f.2.1 x607.f.f.2.2.1 x607.f.f.2.2.2.1 x607.f.f.e.1 x607.f.f.e.2.1 x607.f.f.e.2.2.1 x607.f.f.e.2.2.2.1 x607.f.f.e.e.1 x607.f.f.e.e.2.1 x607.f.f.e.e.2.2.1 x607.f.f.e.e.2.2.2.1 x607.f.f.e.e.e.1 x607.f.f.e.e.e.2.1 x607.f.f.e.e.e.2.2.1 x607.f.f.e.e.e.2.2.2.1 x607.f.f.f.1 (.osl 28 aO.sz x607.f.f.f.2.1.length) x607.f.f.f.2.2.1 x607.f.f.f.2.2.2.1 x607.f.f.f.e.1 x607.f.f.f.e.2)),(28,.blk 51 (D.flat (x607.f.f.f.2.1.map aO.d)))]) 28 [3,27] rfl rfl (lb rfl) cl10 (.cons (svR rfl) (.cons (svA q21 rfl) .nil)) rfl rfl ⟨rfl,rfl,by decide,rfl,List.forall_mem_cons.2 ⟨⟨rfl,rfl,rfl,rfl⟩,List.forall_mem_cons.2 ⟨⟨rfl,rfl,(pL aO rfl),(fB aO)⟩,List.forall_mem_nil _⟩⟩⟩ (cY _ _ _ _ _ _ _ _ _ _ _ _ _ _ _ _ _ _ _ _ _ _ _ _ _ _ _ _ _ _ _ _ _ _ _ _ _ _ _ _ _ _ _ _ _ _ _ _ _ _ _ _ _ _ _ hx607) rfl rfl (List.forall_mem_cons.2 ⟨⟨rfl,rfl⟩,List.forall_mem_cons.2 ⟨⟨rfl,(fB aO)⟩,List.forall_mem_nil _⟩⟩) (by simp only [List.map_cons,List.map_nil,Ent.ren,eD,eQ]; rfl)) <|aA rfl (lW rfl rfl (lb rfl) (svB rfl) rfl rfl hx608) <|aA rfl (mvB rfl rfl rfl rfl) <|aC rfl rfl (.one rfl) rfl (by decide) (fun hb=>(mvR rfl rfl rfl rfl)) <|aC rfl rfl (.one rfl) rfl (by decide) (fun hb=>(bS (cs:=q21) rfl rfl (lb rfl) Tryz.underlying30 ti30 pl30 rfl (.cons (sv (d:=.int _ 5) rfl) .nil) rfl)) <|?_
              refine kK rfl rfl (.one rfl) rfl (by decide) (fun hc609=>?_) (fun hc609=>?_)
              ·
               replace h:=cD h hc609
               refine kV 90 rfl hc609 ?_
               refine kV 91 rfl hc609 ?_
               obtain ⟨x610,hx610,h⟩:=bF h
               obtain ⟨x611,hx611,h⟩:=aQ h
               refine aA rfl (dO (r':=.bool x610.1) (H1':=[(3,.blk 49 (w40 x610.2.1 x610.2.2.1 x610.2.2.2.1 x610.e.1 x610.e.2.1 x610.e.2.2.1 x610.e.2.2.2.1 x610.e.e.1 x610.e.e.2.1 x610.e.e.2.2.1 x610.e.e.2.2.2.1 x610.e.e.e.1 x610.e.e.e.2.1 x610.e.e.e.2.2.1 x610.e.e.e.2.2.2.1 x610.f.1 x610.f.2.1 x610.f.2.2.1 x610.f.2.2.2.1 x610.f.e.1 x610.f.e.2.1 x610.f.e.2.2.1 x610.f.e.2.2.2.1 x610.f.e.e.1 x610.f.e.e.2.1 x610.f.e.e.2.2.1 x610.f.e.e.2.2.2.1 x610.f.e.e.e.1 x610.f.e.e.e.2.1 x610.f.e.e.e.2.2.1 x610.f.e.e.e.2.2.2.1 x610.f.f.1 x610.f.f.2.1 x610.f.f.2.2.1 x610.f.f.2.2.2.1 x610.f.f.e.1 x610.f.f.e.2.1 x610.f.f.e.2.2.1 x610.f.f.e.2.2.2.1 x610.f.f.e.e.1 x610.f.f.e.e.2.1 x610.f.f.e.e.2.2.1 x610.f.f.e.e.2.2.2.1 x610.f.f.e.e.e.1 x610.f.f.e.e.e.2.1 x610.f.f.e.e.e.2.2.1 x610.f.f.e.e.e.2.2.2.1 x610.f.f.f.1 (.osl 29 aO.sz x610.f.f.f.2.1.length) x610.f.f.f.2.2.1 x610.f.f.f.2.2.2.1 x610.f.f.f.e.1 x610.f.f.f.e.2)),(29,.blk 51 (D.flat (x610.f.f.f.2.1.map aO.d)))]) 29 [3,28] rfl rfl (lb rfl) cl10 (.cons (svR rfl) (.cons (svA q21 rfl) .nil)) rfl rfl ⟨rfl,rfl,by decide,rfl,List.forall_mem_cons.2 ⟨⟨rfl,rfl,rfl,rfl⟩,List.forall_mem_cons.2 ⟨⟨rfl,rfl,(pL aO rfl),(fB aO)⟩,List.forall_mem_nil _⟩⟩⟩ (cY _ _ _ _ _ _ _ _ _ _ _ _ _ _ _ _ _ _ _ _ _ _ _ _ _ _ _ _ _ _ _ _ _ _ _ _ _ _ _ _ _ _ _ _ _ _ _ _ _ _ _ _ _ _ _ hx610) rfl rfl (List.forall_mem_cons.2 ⟨⟨rfl,rfl⟩,List.forall_mem_cons.2 ⟨⟨rfl,(fB aO)⟩,List.forall_mem_nil _⟩⟩) (by simp only [List.map_cons,List.map_nil,Ent.ren,eD,eQ]; rfl)) <|aA rfl (lW rfl rfl (lb rfl) (svB rfl) rfl rfl hx611) <|aA rfl (mvB rfl rfl rfl rfl) <|aC rfl rfl (.one rfl) rfl (by decide) (fun hb=>(mvR rfl rfl rfl rfl)) <|aC rfl rfl (.one rfl) rfl (by decide) (fun hb=>(bS (cs:=q21) rfl rfl (lb rfl) Tryz.underlying30 ti30 pl30 rfl (.cons (sv (d:=.int _ 6) rfl) .nil) rfl)) <|?_
               refine kK rfl rfl (.one rfl) rfl (by decide) (fun hc612=>?_) (fun hc612=>?_)
               ·
                replace h:=cD h hc612
                refine kV 95 rfl hc612 ?_
                refine kV 96 rfl hc612 ?_
                obtain ⟨x613,hx613,h⟩:=bF h
                obtain ⟨x614,hx614,h⟩:=aQ h
                refine aA rfl (dO (r':=.bool x613.1) (H1':=[(3,.blk 49 (w40 x613.2.1 x613.2.2.1 x613.2.2.2.1 x613.e.1 x613.e.2.1 x613.e.2.2.1 x613.e.2.2.2.1 x613.e.e.1 x613.e.e.2.1 x613.e.e.2.2.1 x613.e.e.2.2.2.1 x613.e.e.e.1 x613.e.e.e.2.1 x613.e.e.e.2.2.1 x613.e.e.e.2.2.2.1 x613.f.1 x613.f.2.1 x613.f.2.2.1 x613.f.2.2.2.1 x613.f.e.1 x613.f.e.2.1 x613.f.e.2.2.1 x613.f.e.2.2.2.1 x613.f.e.e.1 x613.f.e.e.2.1 x613.f.e.e.2.2.1 x613.f.e.e.2.2.2.1 x613.f.e.e.e.1 x613.f.e.e.e.2.1 x613.f.e.e.e.2.2.1 x613.f.e.e.e.2.2.2.1 x613.f.f.1 x613.f.f.2.1 x613.f.f.2.2.1 x613.f.f.2.2.2.1 x613.f.f.e.1 x613.f.f.e.2.1 x613.f.f.e.2.2.1 x613.f.f.e.2.2.2.1 x613.f.f.e.e.1 x613.f.f.e.e.2.1 x613.f.f.e.e.2.2.1 x613.f.f.e.e.2.2.2.1 x613.f.f.e.e.e.1 x613.f.f.e.e.e.2.1 x613.f.f.e.e.e.2.2.1 x613.f.f.e.e.e.2.2.2.1 x613.f.f.f.1 (.osl 30 aO.sz x613.f.f.f.2.1.length) x613.f.f.f.2.2.1 x613.f.f.f.2.2.2.1 x613.f.f.f.e.1 x613.f.f.f.e.2)),(30,.blk 51 (D.flat (x613.f.f.f.2.1.map aO.d)))]) 30 [3,29] rfl rfl (lb rfl) cl10 (.cons (svR rfl) (.cons (svA q21 rfl) .nil)) rfl rfl ⟨rfl,rfl,by decide,rfl,List.forall_mem_cons.2 ⟨⟨rfl,rfl,rfl,rfl⟩,List.forall_mem_cons.2 ⟨⟨rfl,rfl,(pL aO rfl),(fB aO)⟩,List.forall_mem_nil _⟩⟩⟩ (cY _ _ _ _ _ _ _ _ _ _ _ _ _ _ _ _ _ _ _ _ _ _ _ _ _ _ _ _ _ _ _ _ _ _ _ _ _ _ _ _ _ _ _ _ _ _ _ _ _ _ _ _ _ _ _ hx613) rfl rfl (List.forall_mem_cons.2 ⟨⟨rfl,rfl⟩,List.forall_mem_cons.2 ⟨⟨rfl,(fB aO)⟩,List.forall_mem_nil _⟩⟩) (by simp only [List.map_cons,List.map_nil,Ent.ren,eD,eQ]; rfl)) <|aA rfl (lW rfl rfl (lb rfl) (svB rfl) rfl rfl hx614) <|aA rfl (asB rfl rfl rfl rfl) <|cL ?_
                refine aS ⟨(x614,x613.2.1,x613.2.2.1,x613.2.2.2.1,x613.e.1,x613.e.2.1,x613.e.2.2.1,x613.e.2.2.2.1,x613.e.e.1,x613.e.e.2.1,x613.e.e.2.2.1,x613.e.e.2.2.2.1,x613.e.e.e.1,x613.e.e.e.2.1,x613.e.e.e.2.2.1,x613.e.e.e.2.2.2.1,x613.f.1,x613.f.2.1,x613.f.2.2.1,x613.f.2.2.2.1,x613.f.e.1,x613.f.e.2.1,x613.f.e.2.2.1,x613.f.e.2.2.2.1,x613.f.e.e.1,x613.f.e.e.2.1,x613.f.e.e.2.2.1,x613.f.e.e.2.2.2.1,x613.f.e.e.e.1,x613.f.e.e.e.2.1,x613.f.e.e.e.2.2.1,x613.f.e.e.e.2.2.2.1,x613.f.f.1,x613.f.f.2.1,x613.f.f.2.2.1,x613.f.f.2.2.2.1,x613.f.f.e.1,x613.f.f.e.2.1,x613.f.f.e.2.2.1,x613.f.f.e.2.2.2.1,x613.f.f.e.e.1,x613.f.f.e.e.2.1,x613.f.f.e.e.2.2.1,x613.f.f.e.e.2.2.2.1,x613.f.f.e.e.e.1,x613.f.f.e.e.e.2.1,x613.f.f.e.e.e.2.2.1,x613.f.f.e.e.e.2.2.2.1,x613.f.f.f.1,x613.f.f.f.2.1,x613.f.f.f.2.2.1,x613.f.f.f.2.2.2.1,x613.f.f.f.e.1,x613.f.f.f.e.2),(fun i=>i),⟨(.sames rfl rfl),(.cons (.blk rfl rfl rfl) (.cons (EntW.lst rfl) .nil)),cK [3,30] rfl (by decide),fun _ _=>rfl⟩,?_⟩
                exact h
               ·
                replace h:=cE h hc612
                obtain ⟨x615,hx615,h⟩:=aQ h
                refine aA rfl (bT rfl rfl (lb rfl) (svB rfl) rfl rfl hx615) <|aA rfl (asB rfl rfl rfl rfl) <|cL ?_
                refine aS ⟨(x615,x610.2.1,x610.2.2.1,x610.2.2.2.1,x610.e.1,x610.e.2.1,x610.e.2.2.1,x610.e.2.2.2.1,x610.e.e.1,x610.e.e.2.1,x610.e.e.2.2.1,x610.e.e.2.2.2.1,x610.e.e.e.1,x610.e.e.e.2.1,x610.e.e.e.2.2.1,x610.e.e.e.2.2.2.1,x610.f.1,x610.f.2.1,x610.f.2.2.1,x610.f.2.2.2.1,x610.f.e.1,x610.f.e.2.1,x610.f.e.2.2.1,x610.f.e.2.2.2.1,x610.f.e.e.1,x610.f.e.e.2.1,x610.f.e.e.2.2.1,x610.f.e.e.2.2.2.1,x610.f.e.e.e.1,x610.f.e.e.e.2.1,x610.f.e.e.e.2.2.1,x610.f.e.e.e.2.2.2.1,x610.f.f.1,x610.f.f.2.1,x610.f.f.2.2.1,x610.f.f.2.2.2.1,x610.f.f.e.1,x610.f.f.e.2.1,x610.f.f.e.2.2.1,x610.f.f.e.2.2.2.1,x610.f.f.e.e.1,x610.f.f.e.e.2.1,x610.f.f.e.e.2.2.1,x610.f.f.e.e.2.2.2.1,x610.f.f.e.e.e.1,x610.f.f.e.e.e.2.1,x610.f.f.e.e.e.2.2.1,x610.f.f.e.e.e.2.2.2.1,x610.f.f.f.1,x610.f.f.f.2.1,x610.f.f.f.2.2.1,x610.f.f.f.2.2.2.1,x610.f.f.f.e.1,x610.f.f.f.e.2),(fun i=>if i = 30 then 29 else i),⟨(.sames rfl rfl),(.cons (.blk rfl rfl rfl) (.cons (EntW.lst rfl) .nil)),cK [3,29] rfl (by decide),(fun i hi=>by first | rfl | (show (if _ then _ else _) = _; (repeat' split) <;> omega))⟩,?_⟩
                exact h
              ·
               replace h:=cE h hc609
               obtain ⟨x616,hx616,h⟩:=aQ h
               refine aA rfl (bT rfl rfl (lb rfl) (svB rfl) rfl rfl hx616) <|aA rfl (mvB rfl rfl rfl rfl) <|aC rfl rfl (.one rfl) rfl (by decide) (fun hb=>(mvR rfl rfl rfl rfl)) <|aC rfl rfl (.one rfl) rfl (by decide) (fun hb=>(bS (cs:=q21) rfl rfl (lb rfl) Tryz.underlying30 ti30 pl30 rfl (.cons (sv (d:=.int _ 6) rfl) .nil) rfl)) <|?_
               refine kK rfl rfl (.one rfl) rfl (by decide) (fun hc617=>absurd hc617 (by rw [(aBE hx616)]; decide)) (fun hc617=>?_)
               obtain ⟨x618,hx618,h⟩:=aQ h
               refine aA rfl (bT rfl rfl (lb rfl) (svB rfl) rfl rfl hx618) <|aA rfl (asB rfl rfl rfl rfl) <|cL ?_
               refine aS ⟨(x618,x607.2.1,x607.2.2.1,x607.2.2.2.1,x607.e.1,x607.e.2.1,x607.e.2.2.1,x607.e.2.2.2.1,x607.e.e.1,x607.e.e.2.1,x607.e.e.2.2.1,x607.e.e.2.2.2.1,x607.e.e.e.1,x607.e.e.e.2.1,x607.e.e.e.2.2.1,x607.e.e.e.2.2.2.1,x607.f.1,x607.f.2.1,x607.f.2.2.1,x607.f.2.2.2.1,x607.f.e.1,x607.f.e.2.1,x607.f.e.2.2.1,x607.f.e.2.2.2.1,x607.f.e.e.1,x607.f.e.e.2.1,x607.f.e.e.2.2.1,x607.f.e.e.2.2.2.1,x607.f.e.e.e.1,x607.f.e.e.e.2.1,x607.f.e.e.e.2.2.1,x607.f.e.e.e.2.2.2.1,x607.f.f.1,x607.f.f.2.1,x607.f.f.2.2.1,x607.f.f.2.2.2.1,x607.f.f.e.1,x607.f.f.e.2.1,x607.f.f.e.2.2.1,x607.f.f.e.2.2.2.1,x607.f.f.e.e.1,x607.f.f.e.e.2.1,x607.f.f.e.e.2.2.1,x607.f.f.e.e.2.2.2.1,x607.f.f.e.e.e.1,x607.f.f.e.e.e.2.1,x607.f.f.e.e.e.2.2.1,x607.f.f.e.e.e.2.2.2.1,x607.f.f.f.1,x607.f.f.f.2.1,x607.f.f.f.2.2.1,x607.f.f.f.2.2.2.1,x607.f.f.f.e.1,x607.f.f.f.e.2),(fun i=>if i = 30 then 28 else i),⟨(.sames rfl rfl),(.cons (.blk rfl rfl rfl) (.cons (EntW.lst rfl) .nil)),cK [3,28] rfl (by decide),(fun i hi=>by first | rfl | (show (if _ then _ else _) = _; (repeat' split) <;> omega))⟩,?_⟩
               exact h
             ·
              replace h:=cE h hc606
              obtain ⟨x619,hx619,h⟩:=aQ h
              refine aA rfl (bT rfl rfl (lb rfl) (svB rfl) rfl rfl hx619) <|aA rfl (mvB rfl rfl rfl rfl) <|aC rfl rfl (.one rfl) rfl (by decide) (fun hb=>(mvR rfl rfl rfl rfl)) <|aC rfl rfl (.one rfl) rfl (by decide) (fun hb=>(bS (cs:=q21) rfl rfl (lb rfl) Tryz.underlying30 ti30 pl30 rfl (.cons (sv (d:=.int _ 5) rfl) .nil) rfl)) <|?_
              refine kK rfl rfl (.one rfl) rfl (by decide) (fun hc620=>absurd hc620 (by rw [(aBE hx619)]; decide)) (fun hc620=>?_)
              obtain ⟨x621,hx621,h⟩:=aQ h
              refine aA rfl (bT rfl rfl (lb rfl) (svB rfl) rfl rfl hx621) <|aA rfl (mvB rfl rfl rfl rfl) <|aC rfl rfl (.one rfl) rfl (by decide) (fun hb=>(mvR rfl rfl rfl rfl)) <|aC rfl rfl (.one rfl) rfl (by decide) (fun hb=>(bS (cs:=q21) rfl rfl (lb rfl) Tryz.underlying30 ti30 pl30 rfl (.cons (sv (d:=.int _ 6) rfl) .nil) rfl)) <|?_
              refine kK rfl rfl (.one rfl) rfl (by decide) (fun hc622=>absurd hc622 (by rw [(aBE hx621)]; decide)) (fun hc622=>?_)
              obtain ⟨x623,hx623,h⟩:=aQ h
              refine aA rfl (bT rfl rfl (lb rfl) (svB rfl) rfl rfl hx623) <|aA rfl (asB rfl rfl rfl rfl) <|cL ?_
              refine aS ⟨(x623,x605.2.1,x605.2.2.1,x605.2.2.2.1,x605.e.1,x605.e.2.1,x605.e.2.2.1,x605.e.2.2.2.1,x605.e.e.1,x605.e.e.2.1,x605.e.e.2.2.1,x605.e.e.2.2.2.1,x605.e.e.e.1,x605.e.e.e.2.1,x605.e.e.e.2.2.1,x605.e.e.e.2.2.2.1,x605.f.1,x605.f.2.1,x605.f.2.2.1,x605.f.2.2.2.1,x605.f.e.1,x605.f.e.2.1,x605.f.e.2.2.1,x605.f.e.2.2.2.1,x605.f.e.e.1,x605.f.e.e.2.1,x605.f.e.e.2.2.1,x605.f.e.e.2.2.2.1,x605.f.e.e.e.1,x605.f.e.e.e.2.1,x605.f.e.e.e.2.2.1,x605.f.e.e.e.2.2.2.1,x605.f.f.1,x605.f.f.2.1,x605.f.f.2.2.1,x605.f.f.2.2.2.1,x605.f.f.e.1,x605.f.f.e.2.1,x605.f.f.e.2.2.1,x605.f.f.e.2.2.2.1,x605.f.f.e.e.1,x605.f.f.e.e.2.1,x605.f.f.e.e.2.2.1,x605.f.f.e.e.2.2.2.1,x605.f.f.e.e.e.1,x605.f.f.e.e.e.2.1,x605.f.f.e.e.e.2.2.1,x605.f.f.e.e.e.2.2.2.1,x605.f.f.f.1,x605.f.f.f.2.1,x605.f.f.f.2.2.1,x605.f.f.f.2.2.2.1,x605.f.f.f.e.1,x605.f.f.f.e.2),(fun i=>if i = 30 then 27 else i),⟨(.sames rfl rfl),(.cons (.blk rfl rfl rfl) (.cons (EntW.lst rfl) .nil)),cK [3,27] rfl (by decide),(fun i hi=>by first | rfl | (show (if _ then _ else _) = _; (repeat' split) <;> omega))⟩,?_⟩
              exact h
            ·
             rintro ⟨v508,v509,v510,v511,v512,v513,v514,v515,v516,v517,v518,v519,v520,v521,v522,v523,v524,v525,v526,v527,v528,v529,v530,v531,v532,v533,v534,v535,v536,v537,v538,v539,v540,v541,v542,v543,v544,v545,v546,v547,v548,v549,v550,v551,v552,v553,v554,v555,v556,v557,v558,v559,v560,v561⟩ h
             unfold dK at h
             refine kN (α:=Bool × Int × Int × (List UInt8) × Int × (List aJ) × (List aG) × Bool × Bool × Bool × Bool × Int × (List UInt8) × (List aN) × Int × Int × Int × Int × Int × Int × Int × Int × Int × Int × Int) (fun z=>⟨[(5,.int .i64 x5),(6,.ref 3 0),(10,.int .i64 x155),(11,.int .i64 v294),(13,.bool z.1)],[(3,.blk 49 (w40 v509 v510 v511 v512 v513 v514 v515 v516 v517 v518 v519 v520 v521 v522 v523 v524 v525 v526 v527 v528 v529 v530 v531 v532 z.2.1 z.2.2.1 z.2.2.2.1 z.e.1 z.e.2.1 z.e.2.2.1 z.e.2.2.2.1 z.e.e.1 z.e.e.2.1 z.e.e.2.2.1 z.e.e.2.2.2.1 z.e.e.e.1 z.e.e.e.2.1 z.e.e.e.2.2.1 z.e.e.e.2.2.2.1 z.f.1 z.f.2.1 z.f.2.2.1 z.f.2.2.2.1 z.f.e.1 z.f.e.2.1 z.f.e.2.2.1 z.f.e.2.2.2.1 z.f.e.e (.osl 30 aO.sz v557.length) v558 v559 v560 v561)),(30,.blk 51 (D.flat (v557.map aO.d)))]⟩) (fun z=>eJ x5 v294 (cI x5 x155 n2) v509 v510 v511 v512 v513 v514 v515 v516 v517 v518 v519 v520 v521 v522 v523 v524 v525 v526 v527 v528 v529 v530 v531 v532 v557 v558 v559 v560 v561 z.1 z.2.1 z.2.2.1 z.2.2.2.1 z.e.1 z.e.2.1 z.e.2.2.1 z.e.2.2.2.1 z.e.e.1 z.e.e.2.1 z.e.e.2.2.1 z.e.e.2.2.2.1 z.e.e.e.1 z.e.e.e.2.1 z.e.e.e.2.2.1 z.e.e.e.2.2.2.1 z.f.1 z.f.2.1 z.f.2.2.1 z.f.2.2.2.1 z.f.e.1 z.f.e.2.1 z.f.e.2.2.1 z.f.e.2.2.2.1 z.f.e.e = some r) ?_ ?_
             ·
              obtain ⟨x598,hx598,h⟩:=aQ h
              refine aE (aA rfl (mvR rfl rfl rfl rfl) <|aA rfl (aX rfl rfl (lb rfl) (svR rfl)) <|aA rfl (faR 48 rfl rfl rfl Tryz.underlying49 rfl ti47 (lb rfl) rfl rfl) <|aA rfl (aF (d:=.osl _ _ _) rfl rfl (lb rfl) Tryz.underlying47 ag47 ti47 (by decide) (svR rfl) rfl (nle rfl) rfl) <|aA rfl (mC rfl rfl (lb rfl) Tryz.underlying47 (sv (d:=.osl _ _ _) rfl)) <|aA rfl (mvI rfl rfl rfl rfl) <|aA rfl (aP rfl rfl (lb rfl) (svI rfl) (svI rfl) rfl hx598) <|aD ?_)
              refine aV (b:=_) rfl (fun hc599=>?_) (fun hc599=>?_)
              ·
               replace h:=cD h hc599
               obtain ⟨x600,hx600,h⟩:=bF h
               obtain ⟨x601,hx601,h⟩:=bF h
               refine aE (aA rfl (mvR rfl rfl rfl rfl) <|aA rfl (aX rfl rfl (lb rfl) (svR rfl)) <|aA rfl (faR 48 rfl rfl rfl Tryz.underlying49 rfl ti47 (lb rfl) rfl rfl) <|aA rfl (aF (d:=.osl _ _ _) rfl rfl (lb rfl) Tryz.underlying47 ag47 ti47 (by decide) (svR rfl) rfl (nle rfl) rfl) <|aA rfl (mvI rfl rfl rfl rfl) <|aA rfl (kD aO.toEnc0 rfl rfl (lb rfl) Tryz.underlying47 ti51 (sv (d:=.osl _ _ _) rfl) rfl (svI rfl) hx600) <|aA rfl (nA aO.toEnc0 (cs:=q25) rfl rfl (lb rfl) Tryz.underlying51 ag51 ti51 (by decide) (svR rfl) rfl hx601 (nle rfl) rfl) <|aA rfl (bD (cs:=q25) (cs':=[.int .i64 0,.str [],.bool false]) 31 rfl rfl (lb rfl) rfl ti51 rfl rfl (.all _)) <|aA rfl (stA q25 q25 ti51 rfl rfl rfl rfl rfl rfl rfl rfl (nle rfl) rfl) <|aD ?_)
               obtain ⟨x602,hx602,h⟩:=bF h
               refine dD rfl [⟨[6],[],[(114,.ref 3 0)],[]⟩,
                ⟨[114],[],[(115,.ref 3 0)],[]⟩,
                ⟨[115],[],[(116,.ref 3 24)],[]⟩,
                ⟨[116],[3],[(117,.agg (w41 v533 v534 v535 v536 v537 v538 v539 v540 v541 v542 v543 v544 v545 v546 v547 v548 v549 v550 v551 v552 v553 v554 v555 v556))],[]⟩,
                ⟨[14],[],[(118,.ref 31 0)],[]⟩,
                ⟨[118],[31],[(119,.int .i64 x601.at_)],[]⟩,
                ⟨[14],[],[(120,.ref 31 1)],[]⟩,
                ⟨[120],[31],[(121,.str x601.s)],[]⟩,
                ⟨[14],[],[(122,.ref 31 2)],[]⟩,
                ⟨[122],[31],[(123,.bool x601.fin)],[]⟩,
                ⟨[117,119,121,123],[],[(124,.tuple [.agg (v1 x602.1),.int .i64 x602.2.1,.int .u32 x602.2.2])],[]⟩,
                ⟨[124],[],[(113,.tuple [.agg (v1 x602.1),.int .i64 x602.2.1,.int .u32 x602.2.2])],[]⟩,
                ⟨[113],[],[(125,.agg (v1 x602.1))],[]⟩,
                ⟨[113],[],[(126,.int .i64 x602.2.1)],[]⟩,
                ⟨[113],[],[(127,.int .u32 x602.2.2)],[]⟩,
                ⟨[],[32],[(15,.ref 32 0)],[(32,.blk 46 (w41 0 0 [] 0 ([] : List aJ) ([] : List aG) false false false false 0 [] ([] : List aN) 0 0 0 0 0 0 0 0 0 0 0))]⟩,
                ⟨[15,125],[32],[],[(32,.blk 46 (v1 x602.1))]⟩,
                ⟨[126],[],[(16,.int .i64 x602.2.1)],[]⟩,
                ⟨[127],[],[(17,.int .u32 x602.2.2)],[]⟩] rfl ?_ (by kernel_rfl) ?_
               ·refine .cons (lop rfl rfl fun S hA=>(aM rfl rfl (lb rfl) (svaR hA rfl rfl))) ?_
                refine .cons (lop rfl rfl fun S hA=>(aX rfl rfl (lb rfl) (svaR hA rfl rfl))) ?_
                refine .cons (lop rfl rfl fun S hA=>(aI rfl rfl (lb rfl) Tryz.underlying49 rfl ti46 (by decide) (svaR hA rfl rfl) (off':=24) rfl)) ?_
                refine .cons (lop rfl rfl fun S hA=>(bK (cs:=q13) rfl rfl (lb rfl) Tryz.underlying46 ag46 ti46 (by decide) (svaR hA rfl rfl) (agi hA rfl rfl) (nle rfl) rfl)) ?_
                refine .cons (lop rfl rfl fun S hA=>(aI rfl rfl (lb rfl) Tryz.underlying51 rfl ti3 (by decide) (svaR hA rfl rfl) (off':=0) rfl)) ?_
                refine .cons (lop rfl rfl fun S hA=>(aF (d:=.int _ _) rfl rfl (lb rfl) Tryz.underlying3 ag3 ti3 (by decide) (svaR hA rfl rfl) (agi hA rfl rfl) (nle rfl) rfl)) ?_
                refine .cons (lop rfl rfl fun S hA=>(aI rfl rfl (lb rfl) Tryz.underlying51 rfl ti9 (by decide) (svaR hA rfl rfl) (off':=1) rfl)) ?_
                refine .cons (lop rfl rfl fun S hA=>(aF (d:=.str _) rfl rfl (lb rfl) Tryz.underlying9 ag9 ti9 (by decide) (svaR hA rfl rfl) (agi hA rfl rfl) (nle rfl) rfl)) ?_
                refine .cons (lop rfl rfl fun S hA=>(aI rfl rfl (lb rfl) Tryz.underlying51 rfl ti4 (by decide) (svaR hA rfl rfl) (off':=2) rfl)) ?_
                refine .cons (lop rfl rfl fun S hA=>(aF (d:=.bool _) rfl rfl (lb rfl) Tryz.underlying4 ag4 ti4 (by decide) (svaR hA rfl rfl) (agi hA rfl rfl) (nle rfl) rfl)) ?_
                refine .cons (lop rfl rfl fun S hA=>(aU (r:=.tuple q34) rfl rfl (lb rfl) cl12 (.cons (svaA q13 hA rfl rfl) (.cons (svaI hA rfl rfl) (.cons (sv (d:=.str _) (agr hA rfl rfl)) (.cons (svaB hA rfl rfl) .nil)))) rfl (lD _ _ _ _ _ hx602))) ?_
                refine .cons (lop rfl rfl fun S hA=>(aM rfl rfl (lb rfl) (sv (d:=.tuple q34) (agr hA rfl rfl)))) ?_
                refine .cons (lop rfl rfl fun S hA=>(aZ (d:=.agg q13) rfl rfl (lb rfl) (sv (d:=.tuple q34) (agr hA rfl rfl)) rfl)) ?_
                refine .cons (lop rfl rfl fun S hA=>(aZ (d:=.int _ _) rfl rfl (lb rfl) (sv (d:=.tuple q34) (agr hA rfl rfl)) rfl)) ?_
                refine .cons (lop rfl rfl fun S hA=>(aZ (d:=.int _ _) rfl rfl (lb rfl) (sv (d:=.tuple q34) (agr hA rfl rfl)) rfl)) ?_
                refine .cons (lop rfl rfl fun S hA=>(bD (cs:=q14) (cs':=(w41 0 0 [] 0 ([] : List aJ) ([] : List aG) false false false false 0 [] ([] : List aN) 0 0 0 0 0 0 0 0 0 0 0)) 32 rfl rfl (lb rfl) (agi hA rfl rfl) ti46 rfl rfl (.k4 (.cons (.nils _) (.cons (.nils _) (.k4 (.k (.k (.cons (.nils _) (.all _)))))))))) ?_
                refine .cons (lop rfl rfl fun S hA=>(bN (ds':=q13) rfl rfl ti46 (svaR hA rfl rfl) (agi hA rfl rfl) (svaA q13 hA rfl rfl) rfl rfl rfl (nle rfl) rfl)) ?_
                refine .cons (lop rfl rfl fun S hA=>(aH rfl rfl (lb rfl) (svaI hA rfl rfl))) ?_
                refine .cons (lop rfl rfl fun S hA=>(aH rfl rfl (lb rfl) (svaI hA rfl rfl))) ?_
                exact .nil
               refine aE (aA rfl (mvR rfl rfl rfl rfl) <|aA rfl (lra q13 la46 rfl rfl rfl rfl rfl (nle rfl) rfl) <|aA rfl (aX rfl rfl (lb rfl) (svR rfl)) <|aA rfl (faR 24 rfl rfl rfl Tryz.underlying49 rfl ti46 (lb rfl) rfl rfl) <|aA rfl (stA q13 q10 ti46 rfl rfl rfl rfl rfl rfl rfl rfl (nle rfl) rfl) <|aD ?_)
               obtain ⟨x603,hx603,h⟩:=aQ h
               obtain ⟨x604,hx604,h⟩:=aQ h
               refine bO (aA rfl (mvB rfl rfl rfl rfl) <|aA rfl (mvB rfl rfl rfl rfl) <|aC rfl rfl (.one rfl) rfl (by decide) (fun hb=>(mvI rfl rfl rfl rfl)) <|aC rfl rfl (.one rfl) rfl (by decide) (fun hb=>(aP rfl rfl (lb rfl) (svcI rfl hb) (sv (d:=.int _ 0) rfl) rfl hx603)) <|aA rfl (bT rfl rfl (lb rfl) (svB rfl) rfl rfl hx604) <|aA rfl (asB rfl rfl rfl rfl) <|cL ?_)
               refine aS ⟨(x604,x602.1.ID,x602.1.Send.Base,x602.1.Send.Data,x602.1.Send.Next,x602.1.Send.Pieces,x602.1.Send.Lost,x602.1.Send.Closed,x602.1.Send.Sent,x602.1.Send.Again,x602.1.Send.Done,x602.1.Recv.Recv.Base,x602.1.Recv.Recv.Ready,x602.1.Recv.Recv.Parts,x602.1.Recv.End,x602.1.Out.Window,x602.1.Out.Limit,x602.1.Out.Used,x602.1.Out.Read,x602.1.In.Window,x602.1.In.Limit,x602.1.In.Used,x602.1.In.Read,x602.1.Mine,x602.1.Hers),(fun i=>i),⟨(.sames rfl rfl),(.cons (.blk rfl rfl rfl) (.cons (EntW.lst rfl) .nil)),cK [3,30] rfl (by decide),fun _ _=>rfl⟩,?_⟩
               exact h
              ·
               replace h:=cE h hc599
               refine aY ?_
               refine aS ⟨(v508,v533,v534,v535,v536,v537,v538,v539,v540,v541,v542,v543,v544,v545,v546,v547,v548,v549,v550,v551,v552,v553,v554,v555,v556),(fun i=>i),⟨(.sames rfl rfl),(.cons (.blk rfl rfl rfl) (.cons (EntW.lst rfl) .nil)),cK [3,30] rfl (by decide),fun _ _=>rfl⟩,?_⟩
               exact h
             ·
              rintro ⟨v569,v570,v571,v572,v573,v574,v575,v576,v577,v578,v579,v580,v581,v582,v583,v584,v585,v586,v587,v588,v589,v590,v591,v592,v593⟩ h
              unfold eJ at h
              obtain ⟨x594,hx594,h⟩:=bF h
              obtain ⟨x595,hx595,h⟩:=aQ h
              refine aE (aA rfl (mvB rfl rfl rfl rfl) <|aA rfl (dB rfl rfl (lb rfl) (svB rfl)) <|aA rfl (mvB rfl rfl rfl rfl) <|aC rfl rfl (.one rfl) rfl (by decide) (fun hb=>(mvR rfl rfl rfl rfl)) <|aC rfl rfl (.one rfl) rfl (by decide) (fun hb=>(mvI rfl rfl rfl rfl)) <|aC rfl rfl (.one rfl) rfl (by decide) (fun hb=>(oL (r:=.bool x594) rfl rfl (lb rfl) cl11 (.cons (svcR rfl hb) (.cons (svcI rfl hb) .nil)) (.cons (.ref rfl rfl (.k4 (.k (.k4 (.k (.k4 (.k (.k4 (.k (.k4 (.k (.k4 (.k (.k4 (.k (.k4 (.k (.k4 (.k4 (.cons (FDT aO rfl rfl) (.all _)))))))))))))))))))) rfl) (.all _)) rfl rfl (mW _ _ _ (gd_t hx594 hb)))) <|aC rfl rfl (.one rfl) rfl (by decide) (fun hb=>(dB rfl rfl (lb rfl) (svcB rfl hb))) <|aA rfl (cQ rfl rfl (lb rfl) (svB rfl) rfl rfl hx595) <|aD ?_)
              refine aV (b:=_) rfl (fun hc596=>?_) (fun hc596=>?_)
              ·
               replace h:=cD h hc596
               refine aE (aA rfl (aH rfl rfl (lb rfl) (sv (d:=.bool false) rfl)) <|aD ?_)
               refine aT ?_
               refine cS ?_
               refine bI ?_
               refine bI ?_
               refine cS ?_
               refine bI ?_
               obtain rfl:=Option.some.inj h
               refine ⟨.inr rfl,(.cons (sv rfl) .nil)⟩
              ·
               replace h:=cE h hc596
               refine aY ?_
               refine cO ?_
               refine aS ?_
               obtain ⟨x597,hx597,h⟩:=aQ h
               refine bO (aA rfl (mvI rfl rfl rfl rfl) <|aA rfl (bM rfl rfl (lb rfl) (svI rfl) (sv (d:=.int _ 1) rfl) rfl hx597) <|aA rfl (asI rfl rfl rfl rfl) <|cL ?_)
               refine aS ⟨(n2,x597,v509,v510,v511,v512,v513,v514,v515,v516,v517,v518,v519,v520,v521,v522,v523,v524,v525,v526,v527,v528,v529,v530,v531,v532,v570,v571,v572,v573,v574,v575,v576,v577,v578,v579,v580,v581,v582,v583,v584,v585,v586,v587,v588,v589,v590,v591,v592,v593,v557,v558,v559,v560,v561),(fun i=>if i = 26 then 30 else i),⟨(.sames rfl rfl),(.cons (.blk rfl rfl rfl) (.cons (EntW.lst rfl) .nil)),cK [3,30] rfl (by decide),(fun i hi=>by first | rfl | (show (if _ then _ else _) = _; (repeat' split) <;> omega))⟩,?_,?_⟩
               exact h
               exact Nat.lt_succ_self _
           ·
            replace h:=cE h hc488
            refine eE ?_
            refine cU ?_
            refine cU ?_
            refine eG ?_
            refine aS ?_
            obtain ⟨x624,hx624,h⟩:=bF h
            refine aE (aA rfl (mvR rfl rfl rfl rfl) <|aA rfl (bS (cs:=q21) rfl rfl (lb rfl) Tryz.underlying30 ti30 pl30 rfl (.cons (sv (d:=.int _ 6) rfl) .nil) rfl) <|aA rfl (dO (r':=.bool x624.1) (H1':=[(3,.blk 49 (w40 x624.2.1 x624.2.2.1 x624.2.2.2.1 x624.e.1 x624.e.2.1 x624.e.2.2.1 x624.e.2.2.2.1 x624.e.e.1 x624.e.e.2.1 x624.e.e.2.2.1 x624.e.e.2.2.2.1 x624.e.e.e.1 x624.e.e.e.2.1 x624.e.e.e.2.2.1 x624.e.e.e.2.2.2.1 x624.f.1 x624.f.2.1 x624.f.2.2.1 x624.f.2.2.2.1 x624.f.e.1 x624.f.e.2.1 x624.f.e.2.2.1 x624.f.e.2.2.2.1 x624.f.e.e.1 x624.f.e.e.2.1 x624.f.e.e.2.2.1 x624.f.e.e.2.2.2.1 x624.f.e.e.e.1 x624.f.e.e.e.2.1 x624.f.e.e.e.2.2.1 x624.f.e.e.e.2.2.2.1 x624.f.f.1 x624.f.f.2.1 x624.f.f.2.2.1 x624.f.f.2.2.2.1 x624.f.f.e.1 x624.f.f.e.2.1 x624.f.f.e.2.2.1 x624.f.f.e.2.2.2.1 x624.f.f.e.e.1 x624.f.f.e.e.2.1 x624.f.f.e.e.2.2.1 x624.f.f.e.e.2.2.2.1 x624.f.f.e.e.e.1 x624.f.f.e.e.e.2.1 x624.f.f.e.e.e.2.2.1 x624.f.f.e.e.e.2.2.2.1 x624.f.f.f.1 (.osl 27 aO.sz x624.f.f.f.2.1.length) x624.f.f.f.2.2.1 x624.f.f.f.2.2.2.1 x624.f.f.f.e.1 x624.f.f.f.e.2)),(27,.blk 51 (D.flat (x624.f.f.f.2.1.map aO.d)))]) 27 [3,26] rfl rfl (lb rfl) cl10 (.cons (svR rfl) (.cons (svA q21 rfl) .nil)) rfl rfl ⟨rfl,rfl,by decide,rfl,List.forall_mem_cons.2 ⟨⟨rfl,rfl,rfl,rfl⟩,List.forall_mem_cons.2 ⟨⟨rfl,rfl,(pL aO rfl),(fB aO)⟩,List.forall_mem_nil _⟩⟩⟩ (cY _ _ _ _ _ _ _ _ _ _ _ _ _ _ _ _ _ _ _ _ _ _ _ _ _ _ _ _ _ _ _ _ _ _ _ _ _ _ _ _ _ _ _ _ _ _ _ _ _ _ _ _ _ _ _ hx624) rfl rfl (List.forall_mem_cons.2 ⟨⟨rfl,rfl⟩,List.forall_mem_cons.2 ⟨⟨rfl,(fB aO)⟩,List.forall_mem_nil _⟩⟩) (by simp only [List.map_cons,List.map_nil,Ent.ren,eD,eQ]; rfl)) <|aD ?_)
            obtain ⟨x625,hx625,h⟩:=aQ h
            obtain ⟨x626,hx626,h⟩:=aQ h
            obtain ⟨x627,hx627,h⟩:=aQ h
            obtain ⟨x628,hx628,h⟩:=aQ h
            obtain ⟨x629,hx629,h⟩:=aQ h
            obtain ⟨x630,hx630,h⟩:=bF h
            obtain ⟨x631,hx631,h⟩:=aQ h
            refine dD rfl [⟨[6],[],[(148,.ref 3 0)],[]⟩,
             ⟨[148],[],[(149,.ref 3 0)],[]⟩,
             ⟨[149],[],[(150,.ref 3 52)],[]⟩,
             ⟨[150],[3],[(151,.bool x624.f.f.f.e.2)],[]⟩,
             ⟨[151],[],[(152,.bool x624.f.f.f.e.2)],[]⟩,
             ⟨[6,152],[],[(153,.cnd (x624.f.f.f.e.2 == true) (.ref 3 0))],[]⟩,
             ⟨[152,153],[],[(154,.cnd (x624.f.f.f.e.2 == true) (.ref 3 0))],[]⟩,
             ⟨[152,154],[],[(155,.cnd (x624.f.f.f.e.2 == true) (.ref 3 50))],[]⟩,
             ⟨[152,155],[3],[(156,.cnd (x624.f.f.f.e.2 == true) (.str x624.f.f.f.2.2.2.1))],[]⟩,
             ⟨[6,152],[],[(157,.cnd (x624.f.f.f.e.2 == true) (.ref 3 0))],[]⟩,
             ⟨[152,157],[],[(158,.cnd (x624.f.f.f.e.2 == true) (.ref 3 0))],[]⟩,
             ⟨[152,158],[],[(159,.cnd (x624.f.f.f.e.2 == true) (.ref 3 49))],[]⟩,
             ⟨[152,159],[3],[(160,.cnd (x624.f.f.f.e.2 == true) (.str x624.f.f.f.2.2.1))],[]⟩,
             ⟨[152,156,160],[],[(161,.cnd (x624.f.f.f.e.2 == true) (.bool x625))],[]⟩,
             ⟨[152,161],[],[(162,.bool x626)],[]⟩,
             ⟨[162],[],[(163,.bool x626)],[]⟩,
             ⟨[6,163],[],[(164,.cnd (x626 == true) (.ref 3 0))],[]⟩,
             ⟨[163,164],[],[(165,.cnd (x626 == true) (.ref 3 0))],[]⟩,
             ⟨[163,165],[],[(166,.cnd (x626 == true) (.ref 3 0))],[]⟩,
             ⟨[163,166],[],[(167,.cnd (x626 == true) (.ref 3 1))],[]⟩,
             ⟨[163,167],[],[(168,.cnd (x626 == true) (.ref 3 9))],[]⟩,
             ⟨[163,168],[3],[(169,.cnd (x626 == true) (.bool x624.e.e.2.2.1))],[]⟩,
             ⟨[163,169],[],[(170,.bool x627)],[]⟩,
             ⟨[170],[],[(171,.bool x627)],[]⟩,
             ⟨[6,171],[],[(172,.cnd (x627 == true) (.ref 3 0))],[]⟩,
             ⟨[171,172],[],[(173,.cnd (x627 == true) (.ref 3 0))],[]⟩,
             ⟨[171,173],[],[(174,.cnd (x627 == true) (.ref 3 0))],[]⟩,
             ⟨[171,174],[],[(175,.cnd (x627 == true) (.ref 3 1))],[]⟩,
             ⟨[171,175],[],[(176,.cnd (x627 == true) (.ref 3 2))],[]⟩,
             ⟨[171,176],[3],[(177,.cnd (x627 == true) (.str x624.2.2.2.1))],[]⟩,
             ⟨[171,177],[],[(178,.cnd (x627 == true) (.bool x628))],[]⟩,
             ⟨[171,178],[],[(179,.bool x629)],[]⟩,
             ⟨[179],[],[(180,.bool x629)],[]⟩,
             ⟨[180],[],[(181,.cnd (x629 == true) (.bool x630))],[]⟩,
             ⟨[180,181],[],[(182,.bool x631)],[]⟩,
             ⟨[182],[],[(4,.bool x631)],[]⟩] rfl ?_ (by kernel_rfl) ?_
            ·refine .cons (lop rfl rfl fun S hA=>(aM rfl rfl (lb rfl) (svaR hA rfl rfl))) ?_
             refine .cons (lop rfl rfl fun S hA=>(aX rfl rfl (lb rfl) (svaR hA rfl rfl))) ?_
             refine .cons (lop rfl rfl fun S hA=>(aI rfl rfl (lb rfl) Tryz.underlying49 rfl ti4 (by decide) (svaR hA rfl rfl) (off':=52) rfl)) ?_
             refine .cons (lop rfl rfl fun S hA=>(aF (d:=.bool _) rfl rfl (lb rfl) Tryz.underlying4 ag4 ti4 (by decide) (svaR hA rfl rfl) (agi hA rfl rfl) (nle rfl) rfl)) ?_
             refine .cons (lop rfl rfl fun S hA=>(aM rfl rfl (lb rfl) (svaB hA rfl rfl))) ?_
             refine .cons (lopg rfl rfl rfl rfl (by decide) (fun S hA=>grd1 hA rfl rfl) (fun S hA hb=>(aM rfl rfl (lb rfl) (svaR hA rfl rfl)))) ?_
             refine .cons (lopg rfl rfl rfl rfl (by decide) (fun S hA=>grd1 hA rfl rfl) (fun S hA hb=>(aX rfl rfl (lb rfl) (svc (d:=.ref _ _) (agr hA rfl rfl) hb)))) ?_
             refine .cons (lopg rfl rfl rfl rfl (by decide) (fun S hA=>grd1 hA rfl rfl) (fun S hA hb=>(aI rfl rfl (lb rfl) Tryz.underlying49 rfl ti9 (by decide) (svc (d:=.ref _ _) (agr hA rfl rfl) hb) (off':=50) rfl))) ?_
             refine .cons (lopg rfl rfl rfl rfl (by decide) (fun S hA=>grd1 hA rfl rfl) (fun S hA hb=>(aF (d:=.str _) rfl rfl (lb rfl) Tryz.underlying9 ag9 ti9 (by decide) (svc (d:=.ref _ _) (agr hA rfl rfl) hb) (agi hA rfl rfl) (nle rfl) rfl))) ?_
             refine .cons (lopg rfl rfl rfl rfl (by decide) (fun S hA=>grd1 hA rfl rfl) (fun S hA hb=>(aM rfl rfl (lb rfl) (svaR hA rfl rfl)))) ?_
             refine .cons (lopg rfl rfl rfl rfl (by decide) (fun S hA=>grd1 hA rfl rfl) (fun S hA hb=>(aX rfl rfl (lb rfl) (svc (d:=.ref _ _) (agr hA rfl rfl) hb)))) ?_
             refine .cons (lopg rfl rfl rfl rfl (by decide) (fun S hA=>grd1 hA rfl rfl) (fun S hA hb=>(aI rfl rfl (lb rfl) Tryz.underlying49 rfl ti9 (by decide) (svc (d:=.ref _ _) (agr hA rfl rfl) hb) (off':=49) rfl))) ?_
             refine .cons (lopg rfl rfl rfl rfl (by decide) (fun S hA=>grd1 hA rfl rfl) (fun S hA hb=>(aF (d:=.str _) rfl rfl (lb rfl) Tryz.underlying9 ag9 ti9 (by decide) (svc (d:=.ref _ _) (agr hA rfl rfl) hb) (agi hA rfl rfl) (nle rfl) rfl))) ?_
             refine .cons (lopg rfl rfl rfl rfl (by decide) (fun S hA=>grd1 hA rfl rfl) (fun S hA hb=>(jC rfl rfl (lb rfl) (svc (d:=.str _) (agr hA rfl rfl) hb) (svc (d:=.str _) (agr hA rfl rfl) hb) rfl hx625))) ?_
             refine .cons (lop rfl rfl fun S hA=>(bT rfl rfl (lb rfl) (svaB hA rfl rfl) (agr hA rfl rfl) rfl hx626)) ?_
             refine .cons (lop rfl rfl fun S hA=>(aM rfl rfl (lb rfl) (svaB hA rfl rfl))) ?_
             refine .cons (lopg rfl rfl rfl rfl (by decide) (fun S hA=>grd1 hA rfl rfl) (fun S hA hb=>(aM rfl rfl (lb rfl) (svaR hA rfl rfl)))) ?_
             refine .cons (lopg rfl rfl rfl rfl (by decide) (fun S hA=>grd1 hA rfl rfl) (fun S hA hb=>(aX rfl rfl (lb rfl) (svc (d:=.ref _ _) (agr hA rfl rfl) hb)))) ?_
             refine .cons (lopg rfl rfl rfl rfl (by decide) (fun S hA=>grd1 hA rfl rfl) (fun S hA hb=>(aI rfl rfl (lb rfl) Tryz.underlying49 rfl ti46 (by decide) (svc (d:=.ref _ _) (agr hA rfl rfl) hb) (off':=0) rfl))) ?_
             refine .cons (lopg rfl rfl rfl rfl (by decide) (fun S hA=>grd1 hA rfl rfl) (fun S hA hb=>(aI rfl rfl (lb rfl) Tryz.underlying46 rfl ti37 (by decide) (svc (d:=.ref _ _) (agr hA rfl rfl) hb) (off':=1) rfl))) ?_
             refine .cons (lopg rfl rfl rfl rfl (by decide) (fun S hA=>grd1 hA rfl rfl) (fun S hA hb=>(aI rfl rfl (lb rfl) Tryz.underlying37 rfl ti4 (by decide) (svc (d:=.ref _ _) (agr hA rfl rfl) hb) (off':=9) rfl))) ?_
             refine .cons (lopg rfl rfl rfl rfl (by decide) (fun S hA=>grd1 hA rfl rfl) (fun S hA hb=>(aF (d:=.bool _) rfl rfl (lb rfl) Tryz.underlying4 ag4 ti4 (by decide) (svc (d:=.ref _ _) (agr hA rfl rfl) hb) (agi hA rfl rfl) (nle rfl) rfl))) ?_
             refine .cons (lop rfl rfl fun S hA=>(bT rfl rfl (lb rfl) (svaB hA rfl rfl) (agr hA rfl rfl) rfl hx627)) ?_
             refine .cons (lop rfl rfl fun S hA=>(aM rfl rfl (lb rfl) (svaB hA rfl rfl))) ?_
             refine .cons (lopg rfl rfl rfl rfl (by decide) (fun S hA=>grd1 hA rfl rfl) (fun S hA hb=>(aM rfl rfl (lb rfl) (svaR hA rfl rfl)))) ?_
             refine .cons (lopg rfl rfl rfl rfl (by decide) (fun S hA=>grd1 hA rfl rfl) (fun S hA hb=>(aX rfl rfl (lb rfl) (svc (d:=.ref _ _) (agr hA rfl rfl) hb)))) ?_
             refine .cons (lopg rfl rfl rfl rfl (by decide) (fun S hA=>grd1 hA rfl rfl) (fun S hA hb=>(aI rfl rfl (lb rfl) Tryz.underlying49 rfl ti46 (by decide) (svc (d:=.ref _ _) (agr hA rfl rfl) hb) (off':=0) rfl))) ?_
             refine .cons (lopg rfl rfl rfl rfl (by decide) (fun S hA=>grd1 hA rfl rfl) (fun S hA hb=>(aI rfl rfl (lb rfl) Tryz.underlying46 rfl ti37 (by decide) (svc (d:=.ref _ _) (agr hA rfl rfl) hb) (off':=1) rfl))) ?_
             refine .cons (lopg rfl rfl rfl rfl (by decide) (fun S hA=>grd1 hA rfl rfl) (fun S hA hb=>(aI rfl rfl (lb rfl) Tryz.underlying37 rfl ti9 (by decide) (svc (d:=.ref _ _) (agr hA rfl rfl) hb) (off':=2) rfl))) ?_
             refine .cons (lopg rfl rfl rfl rfl (by decide) (fun S hA=>grd1 hA rfl rfl) (fun S hA hb=>(aF (d:=.str _) rfl rfl (lb rfl) Tryz.underlying9 ag9 ti9 (by decide) (svc (d:=.ref _ _) (agr hA rfl rfl) hb) (agi hA rfl rfl) (nle rfl) rfl))) ?_
             refine .cons (lopg rfl rfl rfl rfl (by decide) (fun S hA=>grd1 hA rfl rfl) (fun S hA hb=>(jC rfl rfl (lb rfl) (svc (d:=.str _) (agr hA rfl rfl) hb) (sv (d:=.str []) rfl) rfl hx628))) ?_
             refine .cons (lop rfl rfl fun S hA=>(bT rfl rfl (lb rfl) (svaB hA rfl rfl) (agr hA rfl rfl) rfl hx629)) ?_
             refine .cons (lop rfl rfl fun S hA=>(aM rfl rfl (lb rfl) (svaB hA rfl rfl))) ?_
             refine .cons (lopg rfl rfl rfl rfl (by decide) (fun S hA=>grd1 hA rfl rfl) (fun S hA hb=>(aU (r:=.bool _) rfl rfl (lb rfl) cl8 .nil rfl (lS  _ (gd_t hx630 hb))))) ?_
             refine .cons (lop rfl rfl fun S hA=>(bT rfl rfl (lb rfl) (svaB hA rfl rfl) (agr hA rfl rfl) rfl hx631)) ?_
             refine .cons (lop rfl rfl fun S hA=>(aH rfl rfl (lb rfl) (svaB hA rfl rfl))) ?_
             exact .nil
            refine aT ?_
            obtain rfl:=Option.some.inj h
            refine ⟨.inr rfl,(.cons (sv rfl) .nil)⟩
end Go.Proofs.YtnokcmkfkfeaiaaGreat
