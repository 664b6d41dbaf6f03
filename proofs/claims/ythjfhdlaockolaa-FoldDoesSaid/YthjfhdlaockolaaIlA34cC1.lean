/-
  A part of the proof: rules and plain facts. No condition.
-/
import Derived.Test.YthjfhdlaockolaaProg
import Derived.KernelRfl
import Derived.Test.YthjfhdlaockolaaIlSh
import Derived.Test.YthjfhdlaockolaaIlA34cD
set_option linter.all false
set_option maxRecDepth 8000
set_option maxHeartbeats 2000000
open Go Go.IL Go.Fn Go.Proofs
namespace Go.Proofs.Ythjfhdlaockolaa
theorem ti3 : TI Try.prog 3 (some (.int .i64 0)) 1 8:=by unfold TI; kernel_rfl
theorem ti4 : TI Try.prog 4 (some (.bool false)) 1 1:=by unfold TI; kernel_rfl
theorem ti5 : TI Try.prog 5 (some (.int .u8 0)) 1 1:=by unfold TI; kernel_rfl
theorem ti22 : TI Try.prog 22 (some (.slice none 0 0)) 1 24:=by unfold TI; kernel_rfl
theorem ti23 : TI Try.prog 23 (some (.slice none 0 0)) 1 24:=by unfold TI; kernel_rfl
theorem ti30 : TI Try.prog 30 (some (.slice none 0 0)) 1 24:=by unfold TI; kernel_rfl
theorem ti32 : TI Try.prog 32 (some (.agg #[.int .i64 0,.int .i64 0,.slice none 0 0,.slice none 0 0])) 4 64:=by unfold TI; kernel_rfl
theorem ti34 : TI Try.prog 34 (some (.int .i64 0)) 1 8:=by unfold TI; kernel_rfl
theorem ti37 : TI Try.prog 37 (some (.agg #[.int .u8 0,.int .i64 0,.int .i64 0,.int .i64 0,.bool false])) 5 40:=by unfold TI; kernel_rfl
theorem ti56 : TI Try.prog 56 (some (.agg #[.int .i64 0,.int .i64 0,.int .i64 0,.bool false])) 4 32:=by unfold TI; kernel_rfl
theorem ag3 : lC Try.prog 3 = false:=by kernel_rfl
theorem ag4 : lC Try.prog 4 = false:=by kernel_rfl
theorem ag5 : lC Try.prog 5 = false:=by kernel_rfl
theorem ag22 : lC Try.prog 22 = false:=by kernel_rfl
theorem ag23 : lC Try.prog 23 = false:=by kernel_rfl
theorem ag30 : lC Try.prog 30 = false:=by kernel_rfl
theorem ag32 : lC Try.prog 32 = true:=by kernel_rfl
theorem ag37 : lC Try.prog 37 = true:=by kernel_rfl
theorem ag56 : lC Try.prog 56 = true:=by kernel_rfl
theorem ex76 : uR Try.prog 76 (Extern.SlicesOverlaps.overlaps #[30,30] #[4]):=⟨Try.f76,Try.func76,by kernel_rfl,by kernel_rfl,by kernel_rfl,by kernel_rfl⟩
theorem pl37 : ∀ w,(Array.mapM (m:=Sem) (fun (f : Field)=>Functor.map (Prod.mk f.offset) (sizeOf f.type)) (fieldsOf Try.prog 37)).run Try.prog w = .ok #[(0,1),(1,1),(2,1),(3,1),(4,1)] w:=fun w=>by kernel_rfl
theorem pl56 : ∀ w,(Array.mapM (m:=Sem) (fun (f : Field)=>Functor.map (Prod.mk f.offset) (sizeOf f.type)) (fieldsOf Try.prog 56)).run Try.prog w = .ok #[(0,1),(1,1),(2,1),(3,1)] w:=fun w=>by kernel_rfl
theorem cl10 : bF Try.prog 10:=⟨Try.f10,Try.func10,rfl,rfl⟩
theorem cl14 : bF Try.prog 14:=⟨Try.f14,Try.func14,rfl,rfl⟩
theorem cl27 : bF Try.prog 27:=⟨Try.f27,Try.func27,rfl,rfl⟩
theorem cl28 : bF Try.prog 28:=⟨Try.f28,Try.func28,rfl,rfl⟩
theorem cl29 : bF Try.prog 29:=⟨Try.f29,Try.func29,rfl,rfl⟩
theorem cl30 : bF Try.prog 30:=⟨Try.f30,Try.func30,rfl,rfl⟩
theorem cl31 : bF Try.prog 31:=⟨Try.f31,Try.func31,rfl,rfl⟩
theorem cl39 : bF Try.prog 39:=⟨Try.f39,Try.func39,rfl,rfl⟩
theorem cl40 : bF Try.prog 40:=⟨Try.f40,Try.func40,rfl,rfl⟩
theorem cl41 : bF Try.prog 41:=⟨Try.f41,Try.func41,rfl,rfl⟩
theorem cl42 : bF Try.prog 42:=⟨Try.f42,Try.func42,rfl,rfl⟩
theorem cl43 : bF Try.prog 43:=⟨Try.f43,Try.func43,rfl,rfl⟩
theorem cl51 : bF Try.prog 51:=⟨Try.f51,Try.func51,rfl,rfl⟩
theorem cl52 : bF Try.prog 52:=⟨Try.f52,Try.func52,rfl,rfl⟩
theorem cl54 : bF Try.prog 54:=⟨Try.f54,Try.func54,rfl,rfl⟩
theorem cl58 : bF Try.prog 58:=⟨Try.f58,Try.func58,rfl,rfl⟩
theorem cl59 : bF Try.prog 59:=⟨Try.f59,Try.func59,rfl,rfl⟩
theorem cl60 : bF Try.prog 60:=⟨Try.f60,Try.func60,rfl,rfl⟩
theorem cl61 : bF Try.prog 61:=⟨Try.f61,Try.func61,rfl,rfl⟩
theorem cl62 : bF Try.prog 62:=⟨Try.f62,Try.func62,rfl,rfl⟩
theorem cl63 : bF Try.prog 63:=⟨Try.f63,Try.func63,rfl,rfl⟩
theorem cl64 : bF Try.prog 64:=⟨Try.f64,Try.func64,rfl,rfl⟩
theorem cl65 : bF Try.prog 65:=⟨Try.f65,Try.func65,rfl,rfl⟩
theorem cl66 : bF Try.prog 66:=⟨Try.f66,Try.func66,rfl,rfl⟩
theorem cl67 : bF Try.prog 67:=⟨Try.f67,Try.func67,rfl,rfl⟩
theorem cl72 : bF Try.prog 72:=⟨Try.f72,Try.func72,rfl,rfl⟩
theorem cl73 : bF Try.prog 73:=⟨Try.f73,Try.func73,rfl,rfl⟩
theorem cl78 : bF Try.prog 78:=⟨Try.f78,Try.func78,rfl,rfl⟩
def la22:=LA.mk Try.underlying22 ag22 ti22 (by decide)
def la23:=LA.mk Try.underlying23 ag23 ti23 (by decide)
def la30:=LA.mk Try.underlying30 ag30 ti30 (by decide)
def la32:=LA.mk Try.underlying32 ag32 ti32 (by decide)
def la37:=LA.mk Try.underlying37 ag37 ti37 (by decide)
def la56:=LA.mk Try.underlying56 ag56 ti56 (by decide)
abbrev v0 (x : aK) : List D:=[.int .i64 x.Room,.int .i64 x.Keep,.slice false (x.Nodes.map aB.d),.slice false (x.Ended.map (eInt .i64).d)]
abbrev v1 (x : aM) : List D:=[.int .i64 x.Room,.int .i64 x.Keep,.slice false (x.L.map aB.d),.slice false (x.Closed.map (eInt .i64).d)]
abbrev v2 (x : dI) : List D:=[.int .u8 x.Kind,.int .i64 x.ID,.int .i64 x.Dep,.int .i64 x.Weight,.bool x.Only]
abbrev v3 (x : aF) : List D:=[.int .i64 x.ID,.int .i64 x.Parent,.int .i64 x.Weight,.bool x.Closed]
abbrev q4 {a1 : IntKind} {a2 : Int} {a3 : IntKind} {a4 : Int} {a5 : IntKind} {a6 : Int} {a7 : IntKind} {a8 : Int} {a9 : Bool} : List D:=[.int a1 a2,.int a3 a4,.int a5 a6,.int a7 a8,.bool a9]
abbrev q5 {a1 : IntKind} {a2 : Int} {a3 : IntKind} {a4 : Int} {a5 : Bool} {a6 : List D} {a7 : Bool} {a8 : List D} : List D:=[.int a1 a2,.int a3 a4,.slice a5 a6,.slice a7 a8]
abbrev q6 {a1 : IntKind} {a2 : Int} {a3 : IntKind} {a4 : Int} {a5 : Nat} {a6 : Nat} {a7 : Nat} {a8 : Bool} {a9 : List D} : List D:=[.int a1 a2,.int a3 a4,.osl a5 a6 a7,.slice a8 a9]
abbrev q7 {a1 : IntKind} {a2 : Int} {a3 : IntKind} {a4 : Int} {a5 : Nat} {a6 : Nat} {a7 : Nat} {a8 : Nat} {a9 : Nat} {a10 : Nat} : List D:=[.int a1 a2,.int a3 a4,.osl a5 a6 a7,.osl a8 a9 a10]
abbrev q8 {a1 : IntKind} {a2 : Int} {a3 : IntKind} {a4 : Int} {a5 : Nat} {a6 : Nat} {a7 : List D} {a8 : Bool} {a9 : List D} : List D:=[.int a1 a2,.int a3 a4,.gsl a5 a6 a7,.slice a8 a9]
abbrev q9 {a1 : IntKind} {a2 : Int} {a3 : IntKind} {a4 : Int} {a5 : IntKind} {a6 : Int} {a7 : Bool} : List D:=[.int a1 a2,.int a3 a4,.int a5 a6,.bool a7]
abbrev q10 {a1 : IntKind} {a2 : Int} {a3 : IntKind} {a4 : Int} {a5 : Bool} {a6 : List D} : List D:=[.int a1 a2,.int a3 a4,.nils,.slice a5 a6]
abbrev q11 {a1 : IntKind} {a2 : Int} {a3 : IntKind} {a4 : Int} : List D:=[.int a1 a2,.int a3 a4,.nils,.nils]
abbrev q12 {a1 : Nat} {a2 : Nat} {a3 : Nat} {a4 : Nat} {a5 : Nat} {a6 : Nat} : List D:=[.ref a1 a2,.ref a3 a4,.ref a5 a6]
abbrev q13 {a1 : IntKind} {a2 : Int} {a3 : IntKind} {a4 : Int} : List D:=[.int a1 a2,.int a3 a4]
abbrev q14 {a1 : IntKind} {a2 : Int} {a3 : Bool} : List D:=[.int a1 a2,.bool a3]
abbrev q15 {a1 : IntKind} {a2 : Int} {a3 : IntKind} {a4 : Int} {a5 : Bool} {a6 : List D} {a7 : Bool} {a8 : List D} {a9 : IntKind} {a10 : Int} : List D:=[.agg [.int a1 a2,.int a3 a4,.slice a5 a6,.slice a7 a8],.int a9 a10]
abbrev w16 (a0 : Int) (a1 : Int) (a2 : List aF) (a3 : List Int) : List D:=[.int .i64 a0,.int .i64 a1,.slice false (a2.map aB.d),.slice false (a3.map (eInt .i64).d)]
abbrev w17 (a0 : Int) (a1 : Int) (a2 : Int) (a3 : Int) (a4 : Bool) : List D:=[.int .u8 a0,.int .i64 a1,.int .i64 a2,.int .i64 a3,.bool a4]
abbrev w18 (a0 : Int) (a1 : Int) (a2 : Int) (a3 : Bool) : List D:=[.int .i64 a0,.int .i64 a1,.int .i64 a2,.bool a3]
abbrev w19 (a0 : D) (a1 : Int) (a2 : Int) (a3 : Int) : List D:=[a0,.int .i64 a1,.int .i64 a2,.int .i64 a3]
abbrev w20 (a0 : Int) (a1 : Int) (a2 : D) (a3 : D) : List D:=[.int .i64 a0,.int .i64 a1,a2,a3]


theorem oE (a0 : aK) (r : Bool) (h : kG a0 = some r) : dP Try.prog 7 [.agg (v0 a0)] (.bool r):=by
 refine bG (rs:=[.bool r]) Try.func7 rfl Try.ntmps7 (nle rfl) rfl fun O hO=>?_
 show IWP _ _ _ _ ⟨[(0,.agg (v0 a0))],[]⟩ _
 unfold kG at h
 refine aC (aA rfl (cK (cs:=q5) 0 rfl rfl (lb rfl) rfl (svA q5 rfl) rfl rfl) <|aA rfl (aG rfl rfl (lb rfl) (sv (d:=.bool false) rfl)) <|aD ?_)
 obtain ⟨x1,hx1,h⟩:=aN h
 obtain ⟨x2,hx2,h⟩:=aN h
 obtain ⟨x3,hx3,h⟩:=aN h
 refine aC (aA rfl (faR 2 rfl rfl rfl Try.underlying25 rfl ti22 (lb rfl) rfl rfl) <|aA rfl (lrL la22 rfl rfl rfl rfl rfl (nle rfl) rfl) <|aA rfl (cG aB (l:=a0.Nodes) rfl rfl (lb rfl) Try.underlying22 (svL rfl)) <|aA rfl (aL rfl rfl (lb rfl) (svI rfl) (sv (d:=.int _ 30) rfl) rfl hx1) <|aA rfl (mvB rfl rfl rfl rfl) <|aI rfl rfl (.one rfl) rfl (by decide) (fun hb=>(faR 3 rfl rfl rfl Try.underlying25 rfl ti23 (lb rfl) rfl rfl)) <|aI rfl rfl (.one rfl) rfl (by decide) (fun hb=>(aH (d:=.slice _ _) rfl rfl (lb rfl) Try.underlying23 ag23 ti23 (by decide) (svcR rfl hb) rfl (nle rfl) rfl)) <|aI rfl rfl (.one rfl) rfl (by decide) (fun hb=>(cG (eInt .i64) (l:=a0.Ended) rfl rfl (lb rfl) Try.underlying23 (svcL rfl hb))) <|aI rfl rfl (.one rfl) rfl (by decide) (fun hb=>(aL rfl rfl (lb rfl) (svcI rfl hb) (sv (d:=.int _ 30) rfl) rfl hx2)) <|aA rfl (cO rfl rfl (lb rfl) (svB rfl) rfl rfl hx3) <|aA rfl (asB rfl rfl rfl rfl) <|aD ?_)
 refine aW ?_
 obtain rfl:=Option.some.inj h
 refine ⟨.inr rfl,(.cons (sv rfl) .nil)⟩

theorem lL (a0 : (List aF)) (r : (List aF)) (h : eJ a0 = some r) : FnH Try.prog 59 [.slice false (a0.map aB.d)] [] (.osl 0 aB.sz r.length) [(0,.blk 56 (D.flat (r.map aB.d)))]:=by
 refine eC (rs:=[.osl 0 aB.sz r.length]) Try.func59 rfl Try.ntmps59 (nle rfl) fun O hO=>?_
 show IWP _ _ _ _ ⟨[(0,.slice false (a0.map aB.d))],[]⟩ _
 unfold eJ at h
 refine aC (aA rfl (aG rfl rfl (lb rfl) (sv (d:=.nils) rfl)) <|aD ?_)
 refine aS ?_
 refine aC (aA rfl (mvL rfl rfl rfl rfl) <|vQ rfl rfl rfl (by decide) Try.underlying30 (svL rfl) rfl <| fun bn1 hbn1 =>
  aD ?_)
 refine aP (b:=_) rfl (fun hc2=>?_) (fun hc2=>?_)
 ·
  replace h:=zW h (mapE (hbn1 hc2))
  refine aC (aA rfl (aG rfl rfl (lb rfl) (sv (d:=.nils) rfl)) <|aD ?_)
  refine aW ?_
  refine bA ?_
  obtain rfl:=Option.some.inj h
  refine ⟨.inr rfl,(fun i=>if i = 0 then 50 else i),⟨.nil,(.cons (.nilb rfl) .nil),bE [50] rfl (by decide),(fun i hi=>by first | rfl | (show (if _ then _ else _) = _; (repeat' split) <;> omega))⟩,(.cons (svno rfl) .nil),rfl⟩
 ·
  replace h:=zX h
  refine aT ?_
  refine aJ ?_
  obtain ⟨x3,hx3,h⟩:=aO h
  refine aC (aA rfl (nV aB.toEnc0 ([] : (List aF)) 0 rfl rfl (lb rfl) Try.underlying30 ti56 rfl .nil rfl rfl (by decide)) <|aA rfl (mvL rfl rfl rfl rfl) <|aA rfl (mE aB.toEnc0 1 rfl rfl (lb rfl) Try.underlying30 ti56 rfl rfl rfl rfl rfl (wA aB (ys:=a0) (svL rfl)) hx3) <|aA rfl (aG rfl rfl (lb rfl) (sv (d:=.osl _ _ _) rfl)) <|aD ?_)
  refine aW ?_
  obtain rfl:=Option.some.inj h
  refine ⟨.inr rfl,(fun i=>if i = 0 then 1 else i),⟨.nil,(.cons (EntW.lst rfl) .nil),bE [1] rfl (by decide),(fun i hi=>by first | rfl | (show (if _ then _ else _) = _; (repeat' split) <;> omega))⟩,(.cons (sv rfl) .nil),rfl⟩

theorem oB (a0 : (List Int)) (r : (List Int)) (h : iH a0 = some r) : FnH Try.prog 60 [.slice false (a0.map (eInt .i64).d)] [] (.osl 0 (eInt .i64).sz r.length) [(0,.blk 3 (D.flat (r.map (eInt .i64).d)))]:=by
 refine eC (rs:=[.osl 0 (eInt .i64).sz r.length]) Try.func60 rfl Try.ntmps60 (nle rfl) fun O hO=>?_
 show IWP _ _ _ _ ⟨[(0,.slice false (a0.map (eInt .i64).d))],[]⟩ _
 unfold iH at h
 refine aC (aA rfl (aG rfl rfl (lb rfl) (sv (d:=.nils) rfl)) <|aD ?_)
 refine aS ?_
 refine aC (aA rfl (mvL rfl rfl rfl rfl) <|vQ rfl rfl rfl (by decide) Try.underlying23 (svL rfl) rfl <| fun bn1 hbn1 =>
  aD ?_)
 refine aP (b:=_) rfl (fun hc2=>?_) (fun hc2=>?_)
 ·
  replace h:=zW h (mapE (hbn1 hc2))
  refine aC (aA rfl (aG rfl rfl (lb rfl) (sv (d:=.nils) rfl)) <|aD ?_)
  refine aW ?_
  refine bA ?_
  obtain rfl:=Option.some.inj h
  refine ⟨.inr rfl,(fun i=>if i = 0 then 50 else i),⟨.nil,(.cons (.nilb rfl) .nil),bE [50] rfl (by decide),(fun i hi=>by first | rfl | (show (if _ then _ else _) = _; (repeat' split) <;> omega))⟩,(.cons (svno rfl) .nil),rfl⟩
 ·
  replace h:=zX h
  refine aT ?_
  refine aJ ?_
  obtain ⟨x3,hx3,h⟩:=aO h
  refine aC (aA rfl (nV (eInt .i64).toEnc0 ([] : (List Int)) 0 rfl rfl (lb rfl) Try.underlying23 ti3 rfl .nil rfl rfl (by decide)) <|aA rfl (mvL rfl rfl rfl rfl) <|aA rfl (mE (eInt .i64).toEnc0 1 rfl rfl (lb rfl) Try.underlying23 ti3 rfl rfl rfl rfl rfl (wA (eInt .i64) (ys:=a0) (svL rfl)) hx3) <|aA rfl (aG rfl rfl (lb rfl) (sv (d:=.osl _ _ _) rfl)) <|aD ?_)
  refine aW ?_
  obtain rfl:=Option.some.inj h
  refine ⟨.inr rfl,(fun i=>if i = 0 then 1 else i),⟨.nil,(.cons (EntW.lst rfl) .nil),bE [1] rfl (by decide),(fun i hi=>by first | rfl | (show (if _ then _ else _) = _; (repeat' split) <;> omega))⟩,(.cons (sv rfl) .nil),rfl⟩

theorem qG (a0 : aK) (r : (Int × Int × (List aF) × (List Int))) (h : kR a0 = some r) : FnH Try.prog 27 [.agg (v0 a0)] [] (.agg (w20 r.1 r.2.1 (.osl 0 aB.sz r.2.2.1.length) (.osl 1 (eInt .i64).sz r.2.2.2.length))) [(0,.blk 56 (D.flat (r.2.2.1.map aB.d))),(1,.blk 3 (D.flat (r.2.2.2.map (eInt .i64).d)))]:=by
 refine eC (rs:=[.agg (w20 r.1 r.2.1 (.osl 0 aB.sz r.2.2.1.length) (.osl 1 (eInt .i64).sz r.2.2.2.length))]) Try.func27 rfl Try.ntmps27 (nle rfl) fun O hO=>?_
 show IWP _ _ _ _ ⟨[(0,.agg (v0 a0))],[]⟩ _
 unfold kR at h
 refine aC (aA rfl (cK (cs:=q5) 0 rfl rfl (lb rfl) rfl (svA q5 rfl) rfl rfl) <|aA rfl (bX (cs:=q11) (cs':=(w16 0 0 ([] : List aF) ([] : List Int))) 1 rfl rfl (lb rfl) rfl ti32 rfl rfl (.k (.k (.cons (.nils _) (.cons (.nils _) .nil))))) <|aD ?_)
 obtain ⟨x1,hx1,h⟩:=aO h
 obtain ⟨x2,hx2,h⟩:=aO h
 refine dE rfl [⟨[1],[],[(3,.ref 0 2)],[]⟩,
  ⟨[3],[0],[(4,.slice false (a0.Nodes.map aB.d))],[]⟩,
  ⟨[4],[2],[(5,.osl 2 aB.sz x1.length)],[(2,.blk 56 (D.flat (x1.map aB.d)))]⟩,
  ⟨[1],[],[(6,.ref 0 3)],[]⟩,
  ⟨[6],[0],[(7,.slice false (a0.Ended.map (eInt .i64).d))],[]⟩,
  ⟨[7],[3],[(8,.osl 3 (eInt .i64).sz x2.length)],[(3,.blk 3 (D.flat (x2.map (eInt .i64).d)))]⟩,
  ⟨[1],[],[(9,.ref 0 2)],[]⟩,
  ⟨[5,9],[0],[],[(0,.blk 32 [.int .i64 a0.Room,.int .i64 a0.Keep,.osl 2 aB.sz x1.length,.slice false (a0.Ended.map (eInt .i64).d)])]⟩,
  ⟨[1],[],[(10,.ref 0 3)],[]⟩,
  ⟨[8,10],[0],[],[(0,.blk 32 (w20 a0.Room a0.Keep (.osl 2 aB.sz x1.length) (.osl 3 (eInt .i64).sz x2.length)))]⟩] rfl ?_ (by kernel_rfl) ?_
 ·refine .cons (lop rfl rfl fun S hA=>(aR rfl rfl (lb rfl) Try.underlying32 rfl ti30 (by decide) (svaR hA rfl rfl) (off':=2) rfl)) ?_
  refine .cons (lop rfl rfl fun S hA=>(aH (d:=.slice _ _) rfl rfl (lb rfl) Try.underlying30 ag30 ti30 (by decide) (svaR hA rfl rfl) (agi hA rfl rfl) (nle rfl) rfl)) ?_
  refine .cons (lop rfl rfl fun S hA=>(oF (r':=.osl 2 aB.sz x1.length) (U:=[(2,.blk 56 (D.flat (x1.map aB.d)))]) 2 1 [] rfl rfl (lb rfl) cl59 (.cons (svaL hA rfl rfl) .nil) rfl rfl rfl (List.forall_mem_cons.2 ⟨(agi hA rfl rfl),List.forall_mem_nil _⟩) ⟨by decide,rfl,List.forall_mem_nil _⟩ (lL _ _ hx1) rfl rfl (List.forall_mem_cons.2 ⟨⟨rfl,(dD aB)⟩,List.forall_mem_nil _⟩) (by simp only [List.map_cons,List.map_nil,Ent.ren,dQ,eU]; rfl))) ?_
  refine .cons (lop rfl rfl fun S hA=>(aR rfl rfl (lb rfl) Try.underlying32 rfl ti23 (by decide) (svaR hA rfl rfl) (off':=3) rfl)) ?_
  refine .cons (lop rfl rfl fun S hA=>(aH (d:=.slice _ _) rfl rfl (lb rfl) Try.underlying23 ag23 ti23 (by decide) (svaR hA rfl rfl) (agi hA rfl rfl) (nle rfl) rfl)) ?_
  refine .cons (lop rfl rfl fun S hA=>(oF (r':=.osl 3 (eInt .i64).sz x2.length) (U:=[(3,.blk 3 (D.flat (x2.map (eInt .i64).d)))]) 3 1 [] rfl rfl (lb rfl) cl60 (.cons (svaL hA rfl rfl) .nil) rfl rfl rfl (List.forall_mem_cons.2 ⟨(agi hA rfl rfl),List.forall_mem_nil _⟩) ⟨by decide,rfl,List.forall_mem_nil _⟩ (oB _ _ hx2) rfl rfl (List.forall_mem_cons.2 ⟨⟨rfl,(dD (eInt .i64))⟩,List.forall_mem_nil _⟩) (by simp only [List.map_cons,List.map_nil,Ent.ren,dQ,eU]; rfl))) ?_
  refine .cons (lop rfl rfl fun S hA=>(aR rfl rfl (lb rfl) Try.underlying32 rfl ti30 (by decide) (svaR hA rfl rfl) (off':=2) rfl)) ?_
  refine .cons (lop rfl rfl fun S hA=>(cV (ds':=q6) rfl rfl ti30 (svaR hA rfl rfl) (agi hA rfl rfl) (sv (d:=.osl _ _ _) (agr hA rfl rfl)) rfl rfl rfl (nle rfl) rfl)) ?_
  refine .cons (lop rfl rfl fun S hA=>(aR rfl rfl (lb rfl) Try.underlying32 rfl ti23 (by decide) (svaR hA rfl rfl) (off':=3) rfl)) ?_
  refine .cons (lop rfl rfl fun S hA=>(cV (ds':=q7) rfl rfl ti23 (svaR hA rfl rfl) (agi hA rfl rfl) (sv (d:=.osl _ _ _) (agr hA rfl rfl)) rfl rfl rfl (nle rfl) rfl)) ?_
  exact .nil
 refine aC (aA rfl (lra q7 la32 rfl rfl rfl rfl rfl (nle rfl) rfl) <|aA rfl (stA q7 q7 ti32 rfl rfl rfl rfl rfl rfl rfl rfl (nle rfl) rfl) <|aD ?_)
 refine aW ?_
 obtain rfl:=Option.some.inj h
 refine ⟨.inr rfl,(fun i=>if i = 0 then 2 else if i = 1 then 3 else i),⟨.nil,(.cons (EntW.lst rfl) (.cons (EntW.lst rfl) .nil)),bE [2,3] rfl (by decide),(fun i hi=>by first | rfl | (show (if _ then _ else _) = _; (repeat' split) <;> omega))⟩,(.cons (rva la32 rfl rfl (nle rfl) rfl) .nil),rfl⟩

theorem rQ (a0 : aF) (r : Bool) (h : nA a0 = some r) : dP Try.prog 40 [.agg (v3 a0)] (.bool r):=by
 refine bG (rs:=[.bool r]) Try.func40 rfl Try.ntmps40 (nle rfl) rfl fun O hO=>?_
 show IWP _ _ _ _ ⟨[(0,.agg (v3 a0))],[]⟩ _
 unfold nA at h
 refine aC (aA rfl (cK (cs:=q9) 0 rfl rfl (lb rfl) rfl (svA q9 rfl) rfl rfl) <|aA rfl (aG rfl rfl (lb rfl) (sv (d:=.bool false) rfl)) <|aD ?_)
 obtain ⟨x1,hx1,h⟩:=aN h
 obtain ⟨x2,hx2,h⟩:=aN h
 obtain ⟨x3,hx3,h⟩:=aN h
 obtain ⟨x4,hx4,h⟩:=aN h
 obtain ⟨x5,hx5,h⟩:=aN h
 obtain ⟨x6,hx6,h⟩:=aN h
 obtain ⟨x7,hx7,h⟩:=aN h
 refine aC (aA rfl (faR 0 rfl rfl rfl Try.underlying56 rfl ti3 (lb rfl) rfl rfl) <|aA rfl (aH (d:=.int _ _) rfl rfl (lb rfl) Try.underlying3 ag3 ti3 (by decide) (svR rfl) rfl (nle rfl) rfl) <|aA rfl (aL rfl rfl (lb rfl) (svI rfl) (sv (d:=.int _ 1) rfl) rfl hx1) <|aA rfl (mvB rfl rfl rfl rfl) <|aI rfl rfl (.one rfl) rfl (by decide) (fun hb=>(faR 0 rfl rfl rfl Try.underlying56 rfl ti3 (lb rfl) rfl rfl)) <|aI rfl rfl (.one rfl) rfl (by decide) (fun hb=>(aH (d:=.int _ _) rfl rfl (lb rfl) Try.underlying3 ag3 ti3 (by decide) (svcR rfl hb) rfl (nle rfl) rfl)) <|aI rfl rfl (.one rfl) rfl (by decide) (fun hb=>(aL rfl rfl (lb rfl) (svcI rfl hb) (sv (d:=.int _ 1048576) rfl) rfl hx2)) <|aA rfl (iJ rfl rfl (lb rfl) (svB rfl) rfl rfl hx3) <|aA rfl (mvB rfl rfl rfl rfl) <|aI rfl rfl (.one rfl) rfl (by decide) (fun hb=>(faR 2 rfl rfl rfl Try.underlying56 rfl ti3 (lb rfl) rfl rfl)) <|aI rfl rfl (.one rfl) rfl (by decide) (fun hb=>(aH (d:=.int _ _) rfl rfl (lb rfl) Try.underlying3 ag3 ti3 (by decide) (svcR rfl hb) rfl (nle rfl) rfl)) <|aI rfl rfl (.one rfl) rfl (by decide) (fun hb=>(aL rfl rfl (lb rfl) (svcI rfl hb) (sv (d:=.int _ 1) rfl) rfl hx4)) <|aA rfl (iJ rfl rfl (lb rfl) (svB rfl) rfl rfl hx5) <|aA rfl (mvB rfl rfl rfl rfl) <|aI rfl rfl (.one rfl) rfl (by decide) (fun hb=>(faR 2 rfl rfl rfl Try.underlying56 rfl ti3 (lb rfl) rfl rfl)) <|aI rfl rfl (.one rfl) rfl (by decide) (fun hb=>(aH (d:=.int _ _) rfl rfl (lb rfl) Try.underlying3 ag3 ti3 (by decide) (svcR rfl hb) rfl (nle rfl) rfl)) <|aI rfl rfl (.one rfl) rfl (by decide) (fun hb=>(aL rfl rfl (lb rfl) (svcI rfl hb) (sv (d:=.int _ 256) rfl) rfl hx6)) <|aA rfl (iJ rfl rfl (lb rfl) (svB rfl) rfl rfl hx7) <|aA rfl (asB rfl rfl rfl rfl) <|aD ?_)
 refine aW ?_
 obtain rfl:=Option.some.inj h
 refine ⟨.inr rfl,(.cons (sv rfl) .nil)⟩

theorem jZ (a0 : (List aF)) (r : Int) (h : dW a0 = some r) : dP Try.prog 72 [.slice false (a0.map aB.d),.fn 40 []] (.int .i64 r):=by
 refine bG (rs:=[.int .i64 r]) Try.func72 rfl Try.ntmps72 (nle rfl) rfl fun O hO=>?_
 show IWP _ _ _ _ ⟨[(0,.slice false (a0.map aB.d)),(1,.fn 40 [])],[]⟩ _
 unfold dW at h
 refine aC (aA rfl (aG rfl rfl (lb rfl) (sv (d:=.int _ 0) rfl)) <|aD ?_)
 refine aS ?_
 refine aC (aA rfl (mvL rfl rfl rfl rfl) <|aA rfl (cG aB (l:=a0) rfl rfl (lb rfl) Try.underlying30 (svL rfl)) <|aA rfl (aE rfl rfl (lb rfl) (sv (d:=.int _ 0) rfl)) <|aD ?_)
 refine aV ?_
 refine bO (α:=Nat × Int) (fun z=>⟨[(0,.slice false (a0.map aB.d)),(1,.fn 40 []),(7,.int .i64 (a0.length : Int)),(8,.int .i64 z.2)],[]⟩) (fun z=>cC a0 z.1 z.2 = some r) (fun z=>z.1) (fuel,0) (fun i=>i) ⟨(.sames rfl rfl),.nil,bE [] rfl (by decide),fun _ _=>rfl⟩ ?_ ?_
 ·exact h
 ·
  rintro ⟨n0,v7⟩ h
  cases n0 with
  | zero=>exact absurd h (by unfold cC; exact nofun)
  | succ n0 =>
   unfold cC at h
   obtain ⟨x14,hx14,h⟩:=aN h
   refine aC (aA rfl (aL rfl rfl (lb rfl) (svI rfl) (svI rfl) rfl hx14) <|aD ?_)
   refine aS ?_
   refine aP (b:=_) rfl (fun hc15=>?_) (fun hc15=>?_)
   ·
    replace h:=bP h hc15
    refine aT ?_
    refine aJ ?_
    refine aS ?_
    refine aV ?_
    refine aC (aA rfl (mvI rfl rfl rfl rfl) <|aA rfl (asI rfl rfl rfl rfl) <|aD ?_)
    obtain ⟨x16,hx16,h⟩:=aO h
    obtain ⟨x17,hx17,h⟩:=aO h
    refine aC (aA rfl (aE rfl rfl (lb rfl) (sv (d:=.fn 40 []) rfl)) <|aA rfl (mvL rfl rfl rfl rfl) <|aA rfl (mvI rfl rfl rfl rfl) <|aA rfl (bW aB (cs:=q9) rfl rfl (lb rfl) Try.underlying30 ti56 (svL rfl) (svI rfl) hx16 rfl rfl) <|aA rfl (eH (cs:=q9) rfl rfl (lb rfl) Try.underlying56 ag56 ti56 (by decide) (sv (d:=.fptr q9) rfl) (nle rfl) rfl) <|aA rfl (qQ (r:=.bool _) rfl rfl (lb rfl) cl40 (sv (d:=.fn 40 []) rfl) (.cons (svA q9 rfl) .nil) rfl (rQ _ _ hx17)) <|aD ?_)
    refine aP (b:=_) rfl (fun hc18=>?_) (fun hc18=>?_)
    ·
     replace h:=bP h hc18
     refine aC (aA rfl (mvI rfl rfl rfl rfl) <|aA rfl (asI rfl rfl rfl rfl) <|aD ?_)
     refine aW ?_
     refine bN ?_
     refine bA ?_
     refine bA ?_
     refine bN ?_
     refine bA ?_
     obtain rfl:=Option.some.inj h
     refine ⟨.inr rfl,(.cons (sv rfl) .nil)⟩
    ·
     replace h:=bQ h hc18
     refine aT ?_
     refine bJ ?_
     refine aJ ?_
     obtain ⟨x19,hx19,h⟩:=aN h
     refine aU (aA rfl (aQ rfl rfl (lb rfl) (svI rfl) (sv (d:=.int _ 1) rfl) rfl hx19) <|aA rfl (mvI rfl rfl rfl rfl) <|bI ?_)
     refine aJ ⟨(n0,x19),(fun i=>i),⟨(.sames rfl rfl),.nil,bE [] rfl (by decide),fun _ _=>rfl⟩,?_,?_⟩
     exact h
     exact Nat.lt_succ_self _
   ·
    replace h:=bQ h hc15
    refine bY ?_
    refine bB ?_
    refine bB ?_
    refine bZ ?_
    refine aJ ?_
    refine aC (aA rfl (aG rfl rfl (lb rfl) (sv (d:=.int _ (-1)) rfl)) <|aD ?_)
    refine aW ?_
    obtain rfl:=Option.some.inj h
    refine ⟨.inr rfl,(.cons (sv rfl) .nil)⟩

theorem jL (a0 : (List aF)) (r : Bool) (h : cE a0 = some r) : dP Try.prog 39 [.slice false (a0.map aB.d),.fn 40 []] (.bool r):=by
 refine bG (rs:=[.bool r]) Try.func39 rfl Try.ntmps39 (nle rfl) rfl fun O hO=>?_
 show IWP _ _ _ _ ⟨[(0,.slice false (a0.map aB.d)),(1,.fn 40 [])],[]⟩ _
 unfold cE at h
 refine aC (aA rfl (aG rfl rfl (lb rfl) (sv (d:=.bool false) rfl)) <|aD ?_)
 obtain ⟨x1,hx1,h⟩:=aO h
 obtain ⟨x2,hx2,h⟩:=aN h
 refine aC (aA rfl (mvL rfl rfl rfl rfl) <|aA rfl (aE rfl rfl (lb rfl) (sv (d:=.fn 40 []) rfl)) <|aA rfl (aX (r:=.int _ _) rfl rfl (lb rfl) cl72 (.cons (svL rfl) (.cons (sv (d:=.fn 40 []) rfl) .nil)) rfl (jZ _ _ hx1)) <|aA rfl (aL rfl rfl (lb rfl) (svI rfl) (sv (d:=.int _ 0) rfl) rfl hx2) <|aA rfl (asB rfl rfl rfl rfl) <|aD ?_)
 refine aW ?_
 obtain rfl:=Option.some.inj h
 refine ⟨.inr rfl,(.cons (sv rfl) .nil)⟩

theorem nF (a0 : aF) (a1 : Int) (r : Int) (h : gW a0 a1 = some r) : dP Try.prog 64 [.agg (v3 a0),.int .i64 a1] (.int .i64 r):=by
 refine bG (rs:=[.int .i64 r]) Try.func64 rfl Try.ntmps64 (nle rfl) rfl fun O hO=>?_
 show IWP _ _ _ _ ⟨[(0,.agg (v3 a0)),(1,.int .i64 a1)],[]⟩ _
 unfold gW at h
 refine aC (aA rfl (cK (cs:=q9) 0 rfl rfl (lb rfl) rfl (svA q9 rfl) rfl rfl) <|aA rfl (aG rfl rfl (lb rfl) (sv (d:=.int _ 0) rfl)) <|aD ?_)
 obtain ⟨x1,hx1,h⟩:=aN h
 refine aC (aA rfl (faR 0 rfl rfl rfl Try.underlying56 rfl ti3 (lb rfl) rfl rfl) <|aA rfl (aH (d:=.int _ _) rfl rfl (lb rfl) Try.underlying3 ag3 ti3 (by decide) (svR rfl) rfl (nle rfl) rfl) <|aA rfl (mvI rfl rfl rfl rfl) <|aA rfl (aQ rfl rfl (lb rfl) (svI rfl) (svI rfl) rfl hx1) <|aA rfl (asI rfl rfl rfl rfl) <|aD ?_)
 refine aW ?_
 obtain rfl:=Option.some.inj h
 refine ⟨.inr rfl,(.cons (sv rfl) .nil)⟩

theorem iR (a0 : (List aF)) (a1 : Int) (r : (Int × Bool)) (h : cA a0 a1 = some r) : dP Try.prog 63 [.slice false (a0.map aB.d),.int .i64 a1,.fn 64 []] (retD [.int .i64 r.1,.bool r.2]):=by
 refine bG (rs:=[.int .i64 r.1,.bool r.2]) Try.func63 rfl Try.ntmps63 (nle rfl) rfl fun O hO=>?_
 show IWP _ _ _ _ ⟨[(0,.slice false (a0.map aB.d)),(1,.int .i64 a1),(2,.fn 64 [])],[]⟩ _
 unfold cA at h
 refine aC (aA rfl (aG rfl rfl (lb rfl) (sv (d:=.int _ 0) rfl)) <|aA rfl (aG rfl rfl (lb rfl) (sv (d:=.bool false) rfl)) <|aD ?_)
 refine aC (aA rfl (mvL rfl rfl rfl rfl) <|aA rfl (cG aB (l:=a0) rfl rfl (lb rfl) Try.underlying30 (svL rfl)) <|aA rfl (asI rfl rfl rfl rfl) <|aD ?_)
 refine aC (aA rfl (mvI rfl rfl rfl rfl) <|aA rfl (aG rfl rfl (lb rfl) (sv (d:=.int _ 0) rfl)) <|aA rfl (asI rfl rfl rfl rfl) <|aD ?_)
 refine aS ?_
 refine aV ?_
 refine bO (α:=Nat × Int × Int) (fun z=>⟨[(0,.slice false (a0.map aB.d)),(1,.int .i64 a1),(2,.fn 64 []),(8,.int .i64 (a0.length : Int)),(9,.int .i64 z.2.1),(10,.int .i64 z.2.2)],[]⟩) (fun z=>aZ a0 a1 z.1 z.2.1 z.2.2 = some r) (fun z=>z.1) (fuel,0,(a0.length : Int)) (fun i=>i) ⟨(.sames rfl rfl),.nil,bE [] rfl (by decide),fun _ _=>rfl⟩ ?_ ?_
 ·exact h
 ·
  rintro ⟨n0,v12,v13⟩ h
  cases n0 with
  | zero=>exact absurd h (by unfold aZ; exact nofun)
  | succ n0 =>
   unfold aZ at h
   refine aS ?_
   obtain ⟨x25,hx25,h⟩:=aN h
   refine aC (aA rfl (mvI rfl rfl rfl rfl) <|aA rfl (mvI rfl rfl rfl rfl) <|aA rfl (aL rfl rfl (lb rfl) (svI rfl) (svI rfl) rfl hx25) <|aD ?_)
   refine aP (b:=_) rfl (fun hc26=>?_) (fun hc26=>?_)
   ·
    replace h:=bP h hc26
    refine aT ?_
    refine aJ ?_
    refine aV ?_
    obtain ⟨x27,hx27,h⟩:=aN h
    obtain ⟨x28,hx28,h⟩:=aN h
    obtain ⟨x29,hx29,h⟩:=aO h
    obtain ⟨x30,hx30,h⟩:=aN h
    refine aC (aA rfl (mvI rfl rfl rfl rfl) <|aA rfl (mvI rfl rfl rfl rfl) <|aA rfl (aQ rfl rfl (lb rfl) (svI rfl) (svI rfl) rfl hx27) <|aA rfl (kM rfl rfl (lb rfl) ⟨_,Try.underlying3⟩ Try.underlying105 (svI rfl) hx28) <|aA rfl (qM rfl rfl (lb rfl) (svI rfl) (sv (d:=.int _ 1) rfl) hx29) <|aA rfl (kM rfl rfl (lb rfl) ⟨_,Try.underlying105⟩ Try.underlying3 (svI rfl) hx30) <|aA rfl (asI rfl rfl rfl rfl) <|aD ?_)
    obtain ⟨x31,hx31,h⟩:=aO h
    obtain ⟨x32,hx32,h⟩:=aO h
    obtain ⟨x33,hx33,h⟩:=aN h
    refine aC (aA rfl (aE rfl rfl (lb rfl) (sv (d:=.fn 64 []) rfl)) <|aA rfl (mvL rfl rfl rfl rfl) <|aA rfl (mvI rfl rfl rfl rfl) <|aA rfl (bW aB (cs:=q9) rfl rfl (lb rfl) Try.underlying30 ti56 (svL rfl) (svI rfl) hx31 rfl rfl) <|aA rfl (eH (cs:=q9) rfl rfl (lb rfl) Try.underlying56 ag56 ti56 (by decide) (sv (d:=.fptr q9) rfl) (nle rfl) rfl) <|aA rfl (mvI rfl rfl rfl rfl) <|aA rfl (qQ (r:=.int _ _) rfl rfl (lb rfl) cl64 (sv (d:=.fn 64 []) rfl) (.cons (svA q9 rfl) (.cons (svI rfl) .nil)) rfl (nF _ _ _ hx32)) <|aA rfl (aL rfl rfl (lb rfl) (svI rfl) (sv (d:=.int _ 0) rfl) rfl hx33) <|aD ?_)
    refine aP (b:=_) rfl (fun hc34=>?_) (fun hc34=>?_)
    ·
     replace h:=bP h hc34
     obtain ⟨x35,hx35,h⟩:=aN h
     refine aU (aA rfl (mvI rfl rfl rfl rfl) <|aA rfl (aQ rfl rfl (lb rfl) (svI rfl) (sv (d:=.int _ 1) rfl) rfl hx35) <|aA rfl (asI rfl rfl rfl rfl) <|bI ?_)
     refine bJ ?_
     refine aJ ⟨(n0,x35,v13),(fun i=>i),⟨(.sames rfl rfl),.nil,bE [] rfl (by decide),fun _ _=>rfl⟩,?_,?_⟩
     exact h
     exact Nat.lt_succ_self _
    ·
     replace h:=bQ h hc34
     refine aU (aA rfl (mvI rfl rfl rfl rfl) <|aA rfl (asI rfl rfl rfl rfl) <|bI ?_)
     refine bJ ?_
     refine aJ ⟨(n0,v12,x30),(fun i=>i),⟨(.sames rfl rfl),.nil,bE [] rfl (by decide),fun _ _=>rfl⟩,?_,?_⟩
     exact h
     exact Nat.lt_succ_self _
   ·
    replace h:=bQ h hc26
    refine bY ?_
    refine bB ?_
    refine bB ?_
    refine bZ ?_
    refine aJ ?_
    obtain ⟨x36,hx36,h⟩:=aN h
    obtain ⟨x37,hx37,h⟩:=aO h
    obtain ⟨x38,hx38,h⟩:=aO h
    obtain ⟨x39,hx39,h⟩:=aN h
    obtain ⟨x40,hx40,h⟩:=aN h
    refine aC (aA rfl (mvI rfl rfl rfl rfl) <|aA rfl (mvI rfl rfl rfl rfl) <|aA rfl (mvI rfl rfl rfl rfl) <|aA rfl (aL rfl rfl (lb rfl) (svI rfl) (svI rfl) rfl hx36) <|aA rfl (mvB rfl rfl rfl rfl) <|aI rfl rfl (.one rfl) rfl (by decide) (fun hb=>(aE rfl rfl (lb rfl) (sv (d:=.fn 64 []) rfl))) <|aI rfl rfl (.one rfl) rfl (by decide) (fun hb=>(mvL rfl rfl rfl rfl)) <|aI rfl rfl (.one rfl) rfl (by decide) (fun hb=>(mvI rfl rfl rfl rfl)) <|aI rfl rfl (.one rfl) rfl (by decide) (fun hb=>(bW aB (cs:=q9) rfl rfl (lb rfl) Try.underlying30 ti56 (svcL rfl hb) (svcI rfl hb) (gd_t hx37 hb) rfl rfl)) <|aI rfl rfl (.one rfl) rfl (by decide) (fun hb=>(eH (cs:=q9) rfl rfl (lb rfl) Try.underlying56 ag56 ti56 (by decide) (svc (d:=.fptr q9) rfl hb) (nle rfl) rfl)) <|aI rfl rfl (.one rfl) rfl (by decide) (fun hb=>(mvI rfl rfl rfl rfl)) <|aI rfl rfl (.one rfl) rfl (by decide) (fun hb=>(qQ (r:=.int _ _) rfl rfl (lb rfl) cl64 (svc (d:=.fn 64 []) rfl hb) (.cons (svcA (v3 x37) rfl hb) (.cons (svcI rfl hb) .nil)) rfl (nF _ _ _ (gd_t hx38 hb)))) <|aI rfl rfl (.one rfl) rfl (by decide) (fun hb=>(aL rfl rfl (lb rfl) (svcI rfl hb) (sv (d:=.int _ 0) rfl) rfl hx39)) <|aA rfl (cO rfl rfl (lb rfl) (svB rfl) rfl rfl hx40) <|aA rfl (asI rfl rfl rfl rfl) <|aA rfl (asB rfl rfl rfl rfl) <|aD ?_)
    refine aW ?_
    obtain rfl:=Option.some.inj h
    refine ⟨.inr rfl,(.cons (sv rfl) (.cons (sv rfl) .nil))⟩

theorem fJ (a0 : aK) (a1 : Int) (r : (Int × Bool)) (h : dC a0 a1 = some r) : dP Try.prog 30 [.agg (v0 a0),.int .i64 a1] (retD [.int .i64 r.1,.bool r.2]):=by
 refine bG (rs:=[.int .i64 r.1,.bool r.2]) Try.func30 rfl Try.ntmps30 (nle rfl) rfl fun O hO=>?_
 show IWP _ _ _ _ ⟨[(0,.agg (v0 a0)),(1,.int .i64 a1)],[]⟩ _
 unfold dC at h
 refine aC (aA rfl (cK (cs:=q5) 0 rfl rfl (lb rfl) rfl (svA q5 rfl) rfl rfl) <|aA rfl (aG rfl rfl (lb rfl) (sv (d:=.int _ 0) rfl)) <|aA rfl (aG rfl rfl (lb rfl) (sv (d:=.bool false) rfl)) <|aD ?_)
 obtain ⟨x1,hx1,h⟩:=aO h
 refine aC (aA rfl (faR 2 rfl rfl rfl Try.underlying32 rfl ti30 (lb rfl) rfl rfl) <|aA rfl (lrL la30 rfl rfl rfl rfl rfl (nle rfl) rfl) <|aA rfl (mvI rfl rfl rfl rfl) <|aA rfl (aX (r:=.tuple q14) rfl rfl (lb rfl) cl63 (.cons (svL rfl) (.cons (svI rfl) (.cons (sv (d:=.fn 64 []) rfl) .nil))) rfl (iR _ _ _ hx1)) <|aA rfl (bH (d:=.int _ _) rfl rfl (lb rfl) (sv (d:=.tuple q14) rfl) rfl) <|aA rfl (bH (d:=.bool _) rfl rfl (lb rfl) (sv (d:=.tuple q14) rfl) rfl) <|aA rfl (asI rfl rfl rfl rfl) <|aA rfl (asB rfl rfl rfl rfl) <|aD ?_)
 refine aW ?_
 obtain rfl:=Option.some.inj h
 refine ⟨.inr rfl,(.cons (sv rfl) (.cons (sv rfl) .nil))⟩

theorem rI (a0 : aK) (a1 : aF) (r : Bool) (h : lJ a0 a1 = some r) : dP Try.prog 41 [.agg (v0 a0),.agg (v3 a1)] (.bool r):=by
 refine bG (rs:=[.bool r]) Try.func41 rfl Try.ntmps41 (nle rfl) rfl fun O hO=>?_
 show IWP _ _ _ _ ⟨[(0,.agg (v0 a0)),(1,.agg (v3 a1))],[]⟩ _
 unfold lJ at h
 refine aC (aA rfl (cK (cs:=q5) 0 rfl rfl (lb rfl) rfl (svA q5 rfl) rfl rfl) <|aA rfl (cK (cs:=q9) 1 rfl rfl (lb rfl) rfl (svA q9 rfl) rfl rfl) <|aA rfl (aG rfl rfl (lb rfl) (sv (d:=.bool false) rfl)) <|aD ?_)
 obtain ⟨x1,hx1,h⟩:=aO h
 refine aC (aA rfl (lra q5 la32 rfl rfl rfl rfl rfl (nle rfl) rfl) <|aA rfl (faR 1 rfl rfl rfl Try.underlying56 rfl ti3 (lb rfl) rfl rfl) <|aA rfl (aH (d:=.int _ _) rfl rfl (lb rfl) Try.underlying3 ag3 ti3 (by decide) (svR rfl) rfl (nle rfl) rfl) <|aA rfl (aX (r:=.tuple q14) rfl rfl (lb rfl) cl30 (.cons (svA q5 rfl) (.cons (svI rfl) .nil)) rfl (fJ _ _ _ hx1)) <|aA rfl (aE rfl rfl (lb rfl) (sv (d:=.tuple q14) rfl)) <|aA rfl (bH (d:=.int _ _) rfl rfl (lb rfl) (sv (d:=.tuple q14) rfl) rfl) <|aA rfl (bH (d:=.bool _) rfl rfl (lb rfl) (sv (d:=.tuple q14) rfl) rfl) <|aA rfl (asI rfl rfl rfl rfl) <|aA rfl (asB rfl rfl rfl rfl) <|aD ?_)
 obtain ⟨x2,hx2,h⟩:=aN h
 obtain ⟨x3,hx3,h⟩:=aN h
 refine aC (aA rfl (faR 1 rfl rfl rfl Try.underlying56 rfl ti3 (lb rfl) rfl rfl) <|aA rfl (aH (d:=.int _ _) rfl rfl (lb rfl) Try.underlying3 ag3 ti3 (by decide) (svR rfl) rfl (nle rfl) rfl) <|aA rfl (aL rfl rfl (lb rfl) (svI rfl) (sv (d:=.int _ 0) rfl) rfl hx2) <|aA rfl (mvB rfl rfl rfl rfl) <|aI rfl rfl (.one rfl) rfl (by decide) (fun hb=>(mvB rfl rfl rfl rfl)) <|aI rfl rfl (.one rfl) rfl (by decide) (fun hb=>(iB rfl rfl (lb rfl) (svcB rfl hb))) <|aA rfl (cO rfl rfl (lb rfl) (svB rfl) rfl rfl hx3) <|aA rfl (asB rfl rfl rfl rfl) <|aD ?_)
 refine aW ?_
 obtain rfl:=Option.some.inj h
 refine ⟨.inr rfl,(.cons (sv rfl) .nil)⟩

theorem kI (a0 : (List aF)) (a1 : aK) (r : Int) (h : eD a0 a1 = some r) : dP Try.prog 72 [.slice false (a0.map aB.d),.mv 41 [.agg (v0 a1)]] (.int .i64 r):=by
 refine bG (rs:=[.int .i64 r]) Try.func72 rfl Try.ntmps72 (nle rfl) rfl fun O hO=>?_
 show IWP _ _ _ _ ⟨[(0,.slice false (a0.map aB.d)),(1,.mv 41 [.agg (v0 a1)])],[]⟩ _
 unfold eD at h
 refine aC (aA rfl (aG rfl rfl (lb rfl) (sv (d:=.int _ 0) rfl)) <|aD ?_)
 refine aS ?_
 refine aC (aA rfl (mvL rfl rfl rfl rfl) <|aA rfl (cG aB (l:=a0) rfl rfl (lb rfl) Try.underlying30 (svL rfl)) <|aA rfl (aE rfl rfl (lb rfl) (sv (d:=.int _ 0) rfl)) <|aD ?_)
 refine aV ?_
 refine bO (α:=Nat × Int) (fun z=>⟨[(0,.slice false (a0.map aB.d)),(1,.mv 41 [.agg (v0 a1)]),(7,.int .i64 (a0.length : Int)),(8,.int .i64 z.2)],[]⟩) (fun z=>cH a0 a1 z.1 z.2 = some r) (fun z=>z.1) (fuel,0) (fun i=>i) ⟨(.sames rfl rfl),.nil,bE [] rfl (by decide),fun _ _=>rfl⟩ ?_ ?_
 ·exact h
 ·
  rintro ⟨n0,v7⟩ h
  cases n0 with
  | zero=>exact absurd h (by unfold cH; exact nofun)
  | succ n0 =>
   unfold cH at h
   obtain ⟨x14,hx14,h⟩:=aN h
   refine aC (aA rfl (aL rfl rfl (lb rfl) (svI rfl) (svI rfl) rfl hx14) <|aD ?_)
   refine aS ?_
   refine aP (b:=_) rfl (fun hc15=>?_) (fun hc15=>?_)
   ·
    replace h:=bP h hc15
    refine aT ?_
    refine aJ ?_
    refine aS ?_
    refine aV ?_
    refine aC (aA rfl (mvI rfl rfl rfl rfl) <|aA rfl (asI rfl rfl rfl rfl) <|aD ?_)
    obtain ⟨x16,hx16,h⟩:=aO h
    obtain ⟨x17,hx17,h⟩:=aO h
    refine aC (aA rfl (aE rfl rfl (lb rfl) (sv (d:=.mv 41 [.agg q5]) rfl)) <|aA rfl (mvL rfl rfl rfl rfl) <|aA rfl (mvI rfl rfl rfl rfl) <|aA rfl (bW aB (cs:=q9) rfl rfl (lb rfl) Try.underlying30 ti56 (svL rfl) (svI rfl) hx16 rfl rfl) <|aA rfl (eH (cs:=q9) rfl rfl (lb rfl) Try.underlying56 ag56 ti56 (by decide) (sv (d:=.fptr q9) rfl) (nle rfl) rfl) <|aA rfl (vI (r:=.bool _) rfl rfl (lb rfl) cl41 (sv (d:=.mv 41 [.agg q5]) rfl) (.cons (svA q9 rfl) .nil) rfl (rI _ _ _ hx17)) <|aD ?_)
    refine aP (b:=_) rfl (fun hc18=>?_) (fun hc18=>?_)
    ·
     replace h:=bP h hc18
     refine aC (aA rfl (mvI rfl rfl rfl rfl) <|aA rfl (asI rfl rfl rfl rfl) <|aD ?_)
     refine aW ?_
     refine bN ?_
     refine bA ?_
     refine bA ?_
     refine bN ?_
     refine bA ?_
     obtain rfl:=Option.some.inj h
     refine ⟨.inr rfl,(.cons (sv rfl) .nil)⟩
    ·
     replace h:=bQ h hc18
     refine aT ?_
     refine bJ ?_
     refine aJ ?_
     obtain ⟨x19,hx19,h⟩:=aN h
     refine aU (aA rfl (aQ rfl rfl (lb rfl) (svI rfl) (sv (d:=.int _ 1) rfl) rfl hx19) <|aA rfl (mvI rfl rfl rfl rfl) <|bI ?_)
     refine aJ ⟨(n0,x19),(fun i=>i),⟨(.sames rfl rfl),.nil,bE [] rfl (by decide),fun _ _=>rfl⟩,?_,?_⟩
     exact h
     exact Nat.lt_succ_self _
   ·
    replace h:=bQ h hc15
    refine bY ?_
    refine bB ?_
    refine bB ?_
    refine bZ ?_
    refine aJ ?_
    refine aC (aA rfl (aG rfl rfl (lb rfl) (sv (d:=.int _ (-1)) rfl)) <|aD ?_)
    refine aW ?_
    obtain rfl:=Option.some.inj h
    refine ⟨.inr rfl,(.cons (sv rfl) .nil)⟩

theorem jS (a0 : (List aF)) (a1 : aK) (r : Bool) (h : bS a0 a1 = some r) : dP Try.prog 39 [.slice false (a0.map aB.d),.mv 41 [.agg (v0 a1)]] (.bool r):=by
 refine bG (rs:=[.bool r]) Try.func39 rfl Try.ntmps39 (nle rfl) rfl fun O hO=>?_
 show IWP _ _ _ _ ⟨[(0,.slice false (a0.map aB.d)),(1,.mv 41 [.agg (v0 a1)])],[]⟩ _
 unfold bS at h
 refine aC (aA rfl (aG rfl rfl (lb rfl) (sv (d:=.bool false) rfl)) <|aD ?_)
 obtain ⟨x1,hx1,h⟩:=aO h
 obtain ⟨x2,hx2,h⟩:=aN h
 refine aC (aA rfl (mvL rfl rfl rfl rfl) <|aA rfl (aE rfl rfl (lb rfl) (sv (d:=.mv 41 [.agg q5]) rfl)) <|aA rfl (aX (r:=.int _ _) rfl rfl (lb rfl) cl72 (.cons (svL rfl) (.cons (sv (d:=.mv 41 [.agg q5]) rfl) .nil)) rfl (kI _ _ _ hx1)) <|aA rfl (aL rfl rfl (lb rfl) (svI rfl) (sv (d:=.int _ 0) rfl) rfl hx2) <|aA rfl (asB rfl rfl rfl rfl) <|aD ?_)
 refine aW ?_
 obtain rfl:=Option.some.inj h
 refine ⟨.inr rfl,(.cons (sv rfl) .nil)⟩

theorem kN (a0 : aK) (a1 : Int) (r : (List Int)) (h : iN a0 a1 = some r) : FnH Try.prog 52 [.agg (v0 a0),.int .i64 a1] [] (.osl 0 (eInt .i64).sz r.length) [(0,.blk 3 (D.flat (r.map (eInt .i64).d)))]:=by
 refine eC (rs:=[.osl 0 (eInt .i64).sz r.length]) Try.func52 rfl Try.ntmps52 (nle rfl) fun O hO=>?_
 show IWP _ _ _ _ ⟨[(0,.agg (v0 a0)),(1,.int .i64 a1)],[]⟩ _
 unfold iN at h
 refine aC (aA rfl (cK (cs:=q5) 0 rfl rfl (lb rfl) rfl (svA q5 rfl) rfl rfl) <|aA rfl (aG rfl rfl (lb rfl) (sv (d:=.nils) rfl)) <|aD ?_)
 refine aC (aA rfl (aG rfl rfl (lb rfl) (sv (d:=.nils) rfl)) <|aD ?_)
 refine aS ?_
 refine aC (aA rfl (faR 2 rfl rfl rfl Try.underlying32 rfl ti30 (lb rfl) rfl rfl) <|aA rfl (lrL la30 rfl rfl rfl rfl rfl (nle rfl) rfl) <|aA rfl (cG aB (l:=a0.Nodes) rfl rfl (lb rfl) Try.underlying30 (svL rfl)) <|aA rfl (aE rfl rfl (lb rfl) (sv (d:=.int _ 0) rfl)) <|aD ?_)
 refine aV ?_
 refine bO (α:=Nat × Int × (List Int) × Int) (fun z=>⟨[(1,.int .i64 z.2.1),(2,.ref 0 0),(5,.osl 22 (eInt .i64).sz z.2.2.1.length),(10,.int .i64 (a0.Nodes.length : Int)),(11,.int .i64 z.2.2.2)],[(0,.blk 32 (v0 a0)),(22,.blk 3 (D.flat (z.2.2.1.map (eInt .i64).d)))]⟩) (fun z=>fW a0 z.1 z.2.1 z.2.2.1 z.2.2.2 = some r) (fun z=>z.1) (fuel,a1,([] : (List Int)),0) (fun i=>if i = 22 then 73 else i) ⟨(.s rfl rfl (.s rfl rfl (.cons (.nilo rfl) (.sames rfl rfl)))),(.cons (.blk rfl rfl rfl) (.cons (.nilb rfl) .nil)),bE [0,73] rfl (by decide),(fun i hi=>by first | rfl | (show (if _ then _ else _) = _; (repeat' split) <;> omega))⟩ ?_ ?_
 ·exact h
 ·
  rintro ⟨n0,v11,v12,v13⟩ h
  cases n0 with
  | zero=>exact absurd h (by unfold fW; exact nofun)
  | succ n0 =>
   unfold fW at h
   obtain ⟨x24,hx24,h⟩:=aN h
   refine aC (aA rfl (aL rfl rfl (lb rfl) (svI rfl) (svI rfl) rfl hx24) <|aD ?_)
   refine aS ?_
   refine aP (b:=_) rfl (fun hc25=>?_) (fun hc25=>?_)
   ·
    replace h:=bP h hc25
    refine aT ?_
    refine aJ ?_
    refine aS ?_
    refine aV ?_
    obtain ⟨x26,hx26,h⟩:=aO h
    refine aC (aA rfl (lra q5 la32 rfl rfl rfl rfl rfl (nle rfl) rfl) <|aA rfl (mvI rfl rfl rfl rfl) <|aA rfl (aX (r:=.tuple q14) rfl rfl (lb rfl) cl30 (.cons (svA q5 rfl) (.cons (svI rfl) .nil)) rfl (fJ _ _ _ hx26)) <|aA rfl (aE rfl rfl (lb rfl) (sv (d:=.tuple q14) rfl)) <|aA rfl (bH (d:=.int _ _) rfl rfl (lb rfl) (sv (d:=.tuple q14) rfl) rfl) <|aA rfl (bH (d:=.bool _) rfl rfl (lb rfl) (sv (d:=.tuple q14) rfl) rfl) <|aA rfl (asI rfl rfl rfl rfl) <|aA rfl (asB rfl rfl rfl rfl) <|aD ?_)
    refine aS ?_
    obtain ⟨x27,hx27,h⟩:=aO h
    obtain ⟨x28,hx28,h⟩:=aN h
    obtain ⟨x29,hx29,h⟩:=aN h
    refine aC (aA rfl (mvB rfl rfl rfl rfl) <|aA rfl (iB rfl rfl (lb rfl) (svB rfl)) <|aA rfl (mvB rfl rfl rfl rfl) <|aI rfl rfl (.one rfl) rfl (by decide) (fun hb=>(faR 2 rfl rfl rfl Try.underlying32 rfl ti30 (lb rfl) rfl rfl)) <|aI rfl rfl (.one rfl) rfl (by decide) (fun hb=>(aH (d:=.slice _ _) rfl rfl (lb rfl) Try.underlying30 ag30 ti30 (by decide) (svcR rfl hb) rfl (nle rfl) rfl)) <|aI rfl rfl (.one rfl) rfl (by decide) (fun hb=>(mvI rfl rfl rfl rfl)) <|aI rfl rfl (.one rfl) rfl (by decide) (fun hb=>(bW aB (cs:=q9) rfl rfl (lb rfl) Try.underlying30 ti56 (svcL rfl hb) (svcI rfl hb) (gd_t hx27 hb) rfl rfl)) <|aI rfl rfl (.one rfl) rfl (by decide) (fun hb=>(bV (cs':=[.int _ _]) rfl rfl (lb rfl) Try.underlying56 rfl ti3 (by decide) (svc (d:=.fptr q9) rfl hb) rfl)) <|aI rfl rfl (.one rfl) rfl (by decide) (fun hb=>(bU rfl rfl (lb rfl) Try.underlying3 ag3 ti3 (by decide) (svc (d:=.fptr [.int _ _]) rfl hb) (nle rfl))) <|aI rfl rfl (.one rfl) rfl (by decide) (fun hb=>(aL rfl rfl (lb rfl) (svcI rfl hb) (sv (d:=.int _ 0) rfl) rfl hx28)) <|aA rfl (iJ rfl rfl (lb rfl) (svB rfl) rfl rfl hx29) <|aD ?_)
    refine aP (b:=_) rfl (fun hc30=>?_) (fun hc30=>?_)
    ·
     replace h:=bP h hc30
     refine bY ?_
     refine bB ?_
     refine oQ rfl ?_
     refine bB ?_
     refine bB ?_
     refine bZ ?_
     refine aJ ?_
     refine aC (aA rfl (aE rfl rfl (lb rfl) (sv (d:=.osl _ _ _) rfl)) <|aA rfl (aG rfl rfl (lb rfl) (sv (d:=.osl _ _ _) rfl)) <|aD ?_)
     refine aW ?_
     obtain rfl:=Option.some.inj h
     refine ⟨.inr rfl,(fun i=>if i = 0 then 22 else i),⟨.nil,(.cons (EntW.lst rfl) .nil),bE [22] rfl (by decide),(fun i hi=>by first | rfl | (show (if _ then _ else _) = _; (repeat' split) <;> omega))⟩,(.cons (sv rfl) .nil),rfl⟩
    ·
     replace h:=bQ h hc30
     refine aT ?_
     refine aJ ?_
     obtain ⟨x31,hx31,h⟩:=aO h
     refine aC (aA rfl (faR 2 rfl rfl rfl Try.underlying32 rfl ti30 (lb rfl) rfl rfl) <|aA rfl (lrL la30 rfl rfl rfl rfl rfl (nle rfl) rfl) <|aA rfl (mvI rfl rfl rfl rfl) <|aA rfl (bW aB (cs:=q9) rfl rfl (lb rfl) Try.underlying30 ti56 (svL rfl) (svI rfl) hx31 rfl rfl) <|aA rfl (bV (cs':=[.int _ _]) rfl rfl (lb rfl) Try.underlying56 rfl ti3 (by decide) (sv (d:=.fptr q9) rfl) rfl) <|aA rfl (bU rfl rfl (lb rfl) Try.underlying3 ag3 ti3 (by decide) (sv (d:=.fptr [.int _ _]) rfl) (nle rfl)) <|aA rfl (asI rfl rfl rfl rfl) <|aD ?_)
     obtain ⟨x32,hx32,h⟩:=aO h
     refine aU (aA rfl (aE rfl rfl (lb rfl) (sv (d:=.osl _ _ _) rfl)) <|aA rfl (mvI rfl rfl rfl rfl) <|aA rfl (nV (eInt .i64).toEnc0 ([x31.Parent] : (List Int)) 23 rfl rfl (lb rfl) Try.underlying23 ti3 rfl (.cons (svI rfl) .nil) rfl rfl (by decide)) <|aA rfl (mE (eInt .i64).toEnc0 24 rfl rfl (lb rfl) Try.underlying23 ti3 rfl rfl rfl rfl rfl (uV (eInt .i64).toEnc0 rfl rfl rfl) hx32) <|aA rfl (aG rfl rfl (lb rfl) (sv (d:=.osl _ _ _) rfl)) <|bI ?_)
     refine bJ ?_
     refine aJ ?_
     obtain ⟨x33,hx33,h⟩:=aN h
     refine aU (aA rfl (aQ rfl rfl (lb rfl) (svI rfl) (sv (d:=.int _ 1) rfl) rfl hx33) <|aA rfl (mvI rfl rfl rfl rfl) <|bI ?_)
     refine aJ ⟨(n0,x31.Parent,x32,x33),(fun i=>if i = 22 then 24 else i),⟨(.sames rfl rfl),(.cons (.blk rfl rfl rfl) (.cons (EntW.lst rfl) .nil)),bE [0,24] rfl (by decide),(fun i hi=>by first | rfl | (show (if _ then _ else _) = _; (repeat' split) <;> omega))⟩,?_,?_⟩
     exact h
     exact Nat.lt_succ_self _
   ·
    replace h:=bQ h hc25
    refine bY ?_
    refine bB ?_
    refine bB ?_
    refine bZ ?_
    refine aJ ?_
    refine aC (aA rfl (aE rfl rfl (lb rfl) (sv (d:=.osl _ _ _) rfl)) <|aA rfl (aG rfl rfl (lb rfl) (sv (d:=.osl _ _ _) rfl)) <|aD ?_)
    refine aW ?_
    obtain rfl:=Option.some.inj h
    refine ⟨.inr rfl,(fun i=>if i = 0 then 22 else i),⟨.nil,(.cons (EntW.lst rfl) .nil),bE [22] rfl (by decide),(fun i hi=>by first | rfl | (show (if _ then _ else _) = _; (repeat' split) <;> omega))⟩,(.cons (sv rfl) .nil),rfl⟩

theorem oU (a0 : (List Int)) (a1 : Int) (r : Int) (h : kC a0 a1 = some r) : dP Try.prog 73 [.slice false (a0.map (eInt .i64).d),.int .i64 a1] (.int .i64 r):=by
 refine bG (rs:=[.int .i64 r]) Try.func73 rfl Try.ntmps73 (nle rfl) rfl fun O hO=>?_
 show IWP _ _ _ _ ⟨[(0,.slice false (a0.map (eInt .i64).d)),(1,.int .i64 a1)],[]⟩ _
 unfold kC at h
 refine aC (aA rfl (aG rfl rfl (lb rfl) (sv (d:=.int _ 0) rfl)) <|aD ?_)
 refine aS ?_
 refine aC (aA rfl (mvL rfl rfl rfl rfl) <|aA rfl (cG (eInt .i64) (l:=a0) rfl rfl (lb rfl) Try.underlying23 (svL rfl)) <|aA rfl (aE rfl rfl (lb rfl) (sv (d:=.int _ 0) rfl)) <|aD ?_)
 refine aV ?_
 refine bO (α:=Nat × Int) (fun z=>⟨[(0,.slice false (a0.map (eInt .i64).d)),(1,.int .i64 a1),(7,.int .i64 (a0.length : Int)),(8,.int .i64 z.2)],[]⟩) (fun z=>gE a0 a1 z.1 z.2 = some r) (fun z=>z.1) (fuel,0) (fun i=>i) ⟨(.sames rfl rfl),.nil,bE [] rfl (by decide),fun _ _=>rfl⟩ ?_ ?_
 ·exact h
 ·
  rintro ⟨n0,v7⟩ h
  cases n0 with
  | zero=>exact absurd h (by unfold gE; exact nofun)
  | succ n0 =>
   unfold gE at h
   obtain ⟨x14,hx14,h⟩:=aN h
   refine aC (aA rfl (aL rfl rfl (lb rfl) (svI rfl) (svI rfl) rfl hx14) <|aD ?_)
   refine aS ?_
   refine aP (b:=_) rfl (fun hc15=>?_) (fun hc15=>?_)
   ·
    replace h:=bP h hc15
    refine aT ?_
    refine aJ ?_
    refine aS ?_
    refine aV ?_
    refine aC (aA rfl (mvI rfl rfl rfl rfl) <|aA rfl (asI rfl rfl rfl rfl) <|aD ?_)
    obtain ⟨x16,hx16,h⟩:=aO h
    obtain ⟨x17,hx17,h⟩:=aN h
    refine aC (aA rfl (mvI rfl rfl rfl rfl) <|aA rfl (mvL rfl rfl rfl rfl) <|aA rfl (mvI rfl rfl rfl rfl) <|aA rfl (bW (eInt .i64) (cs:=[.int _ _]) rfl rfl (lb rfl) Try.underlying23 ti3 (svL rfl) (svI rfl) hx16 rfl rfl) <|aA rfl (bU rfl rfl (lb rfl) Try.underlying3 ag3 ti3 (by decide) (sv (d:=.fptr [.int _ _]) rfl) (nle rfl)) <|aA rfl (aL rfl rfl (lb rfl) (svI rfl) (svI rfl) rfl hx17) <|aD ?_)
    refine aP (b:=_) rfl (fun hc18=>?_) (fun hc18=>?_)
    ·
     replace h:=bP h hc18
     refine aC (aA rfl (mvI rfl rfl rfl rfl) <|aA rfl (asI rfl rfl rfl rfl) <|aD ?_)
     refine aW ?_
     refine bN ?_
     refine bA ?_
     refine bA ?_
     refine bN ?_
     refine bA ?_
     obtain rfl:=Option.some.inj h
     refine ⟨.inr rfl,(.cons (sv rfl) .nil)⟩
    ·
     replace h:=bQ h hc18
     refine aT ?_
     refine bJ ?_
     refine aJ ?_
     obtain ⟨x19,hx19,h⟩:=aN h
     refine aU (aA rfl (aQ rfl rfl (lb rfl) (svI rfl) (sv (d:=.int _ 1) rfl) rfl hx19) <|aA rfl (mvI rfl rfl rfl rfl) <|bI ?_)
     refine aJ ⟨(n0,x19),(fun i=>i),⟨(.sames rfl rfl),.nil,bE [] rfl (by decide),fun _ _=>rfl⟩,?_,?_⟩
     exact h
     exact Nat.lt_succ_self _
   ·
    replace h:=bQ h hc15
    refine bY ?_
    refine bB ?_
    refine bB ?_
    refine bZ ?_
    refine aJ ?_
    refine aC (aA rfl (aG rfl rfl (lb rfl) (sv (d:=.int _ (-1)) rfl)) <|aD ?_)
    refine aW ?_
    obtain rfl:=Option.some.inj h
    refine ⟨.inr rfl,(.cons (sv rfl) .nil)⟩

theorem iQ (a0 : (List Int)) (a1 : Int) (r : Bool) (h : eR a0 a1 = some r) : dP Try.prog 54 [.slice false (a0.map (eInt .i64).d),.int .i64 a1] (.bool r):=by
 refine bG (rs:=[.bool r]) Try.func54 rfl Try.ntmps54 (nle rfl) rfl fun O hO=>?_
 show IWP _ _ _ _ ⟨[(0,.slice false (a0.map (eInt .i64).d)),(1,.int .i64 a1)],[]⟩ _
 unfold eR at h
 refine aC (aA rfl (aG rfl rfl (lb rfl) (sv (d:=.bool false) rfl)) <|aD ?_)
 obtain ⟨x1,hx1,h⟩:=aO h
 obtain ⟨x2,hx2,h⟩:=aN h
 refine aC (aA rfl (mvL rfl rfl rfl rfl) <|aA rfl (mvI rfl rfl rfl rfl) <|aA rfl (aX (r:=.int _ _) rfl rfl (lb rfl) cl73 (.cons (svL rfl) (.cons (svI rfl) .nil)) rfl (oU _ _ _ hx1)) <|aA rfl (aL rfl rfl (lb rfl) (svI rfl) (sv (d:=.int _ 0) rfl) rfl hx2) <|aA rfl (asB rfl rfl rfl rfl) <|aD ?_)
 refine aW ?_
 obtain rfl:=Option.some.inj h
 refine ⟨.inr rfl,(.cons (sv rfl) .nil)⟩

theorem qF (a0 : aK) (a1 : aF) (r : Bool) (h : kQ a0 a1 = some r) : dP Try.prog 42 [.agg (v0 a0),.agg (v3 a1)] (.bool r):=by
 refine bG (rs:=[.bool r]) Try.func42 rfl Try.ntmps42 (nle rfl) rfl fun O hO=>?_
 show IWP _ _ _ _ ⟨[(0,.agg (v0 a0)),(1,.agg (v3 a1))],[]⟩ _
 unfold kQ at h
 refine aC (aA rfl (cK (cs:=q5) 0 rfl rfl (lb rfl) rfl (svA q5 rfl) rfl rfl) <|aA rfl (cK (cs:=q9) 1 rfl rfl (lb rfl) rfl (svA q9 rfl) rfl rfl) <|aA rfl (aG rfl rfl (lb rfl) (sv (d:=.bool false) rfl)) <|aD ?_)
 obtain ⟨x1,hx1,h⟩:=aO h
 obtain ⟨x2,hx2,h⟩:=aO h
 refine dE rfl [⟨[2],[0],[(5,.agg (v0 a0))],[]⟩,
  ⟨[3],[],[(6,.ref 1 0)],[]⟩,
  ⟨[6],[1],[(7,.int .i64 a1.ID)],[]⟩,
  ⟨[5,7],[2],[(8,.osl 2 (eInt .i64).sz x1.length)],[(2,.blk 3 (D.flat (x1.map (eInt .i64).d)))]⟩,
  ⟨[3],[],[(9,.ref 1 0)],[]⟩,
  ⟨[9],[1],[(10,.int .i64 a1.ID)],[]⟩,
  ⟨[8,10],[2],[(11,.bool x2)],[]⟩,
  ⟨[11],[],[(4,.bool x2)],[]⟩] rfl ?_ (by kernel_rfl) ?_
 ·refine .cons (lop rfl rfl fun S hA=>(dK (cs:=q5) rfl rfl (lb rfl) Try.underlying32 ag32 ti32 (by decide) (svaR hA rfl rfl) (agi hA rfl rfl) (nle rfl) rfl)) ?_
  refine .cons (lop rfl rfl fun S hA=>(aR rfl rfl (lb rfl) Try.underlying56 rfl ti3 (by decide) (svaR hA rfl rfl) (off':=0) rfl)) ?_
  refine .cons (lop rfl rfl fun S hA=>(aH (d:=.int _ _) rfl rfl (lb rfl) Try.underlying3 ag3 ti3 (by decide) (svaR hA rfl rfl) (agi hA rfl rfl) (nle rfl) rfl)) ?_
  refine .cons (lop rfl rfl fun S hA=>(oF (r':=.osl 2 (eInt .i64).sz x1.length) (U:=[(2,.blk 3 (D.flat (x1.map (eInt .i64).d)))]) 2 1 [] rfl rfl (lb rfl) cl52 (.cons (svaA q5 hA rfl rfl) (.cons (svaI hA rfl rfl) .nil)) rfl rfl rfl (List.forall_mem_cons.2 ⟨(agi hA rfl rfl),List.forall_mem_nil _⟩) ⟨by decide,rfl,List.forall_mem_nil _⟩ (kN _ _ _ hx1) rfl rfl (List.forall_mem_cons.2 ⟨⟨rfl,(dD (eInt .i64))⟩,List.forall_mem_nil _⟩) (by simp only [List.map_cons,List.map_nil,Ent.ren,dQ,eU]; rfl))) ?_
  refine .cons (lop rfl rfl fun S hA=>(aR rfl rfl (lb rfl) Try.underlying56 rfl ti3 (by decide) (svaR hA rfl rfl) (off':=0) rfl)) ?_
  refine .cons (lop rfl rfl fun S hA=>(aH (d:=.int _ _) rfl rfl (lb rfl) Try.underlying3 ag3 ti3 (by decide) (svaR hA rfl rfl) (agi hA rfl rfl) (nle rfl) rfl)) ?_
  refine .cons (lop rfl rfl fun S hA=>(jU (r:=.bool x2) rfl rfl (lb rfl) cl54 (.cons (sv (d:=.osl _ _ _) (agr hA rfl rfl)) (.cons (svaI hA rfl rfl) .nil)) (.cons (FDT (eInt .i64) (agi hA rfl rfl) rfl) (.all _)) rfl rfl (iQ _ _ _ hx2))) ?_
  refine .cons (lop rfl rfl fun S hA=>(aG rfl rfl (lb rfl) (svaB hA rfl rfl))) ?_
  exact .nil
 refine aW ?_
 obtain rfl:=Option.some.inj h
 refine ⟨.inr rfl,(.cons (sv rfl) .nil)⟩

theorem kB (a0 : (List aF)) (a1 : aK) (r : Int) (h : dX a0 a1 = some r) : dP Try.prog 72 [.slice false (a0.map aB.d),.mv 42 [.agg (v0 a1)]] (.int .i64 r):=by
 refine bG (rs:=[.int .i64 r]) Try.func72 rfl Try.ntmps72 (nle rfl) rfl fun O hO=>?_
 show IWP _ _ _ _ ⟨[(0,.slice false (a0.map aB.d)),(1,.mv 42 [.agg (v0 a1)])],[]⟩ _
 unfold dX at h
 refine aC (aA rfl (aG rfl rfl (lb rfl) (sv (d:=.int _ 0) rfl)) <|aD ?_)
 refine aS ?_
 refine aC (aA rfl (mvL rfl rfl rfl rfl) <|aA rfl (cG aB (l:=a0) rfl rfl (lb rfl) Try.underlying30 (svL rfl)) <|aA rfl (aE rfl rfl (lb rfl) (sv (d:=.int _ 0) rfl)) <|aD ?_)
 refine aV ?_
 refine bO (α:=Nat × Int) (fun z=>⟨[(0,.slice false (a0.map aB.d)),(1,.mv 42 [.agg (v0 a1)]),(7,.int .i64 (a0.length : Int)),(8,.int .i64 z.2)],[]⟩) (fun z=>cD a0 a1 z.1 z.2 = some r) (fun z=>z.1) (fuel,0) (fun i=>i) ⟨(.sames rfl rfl),.nil,bE [] rfl (by decide),fun _ _=>rfl⟩ ?_ ?_
 ·exact h
 ·
  rintro ⟨n0,v7⟩ h
  cases n0 with
  | zero=>exact absurd h (by unfold cD; exact nofun)
  | succ n0 =>
   unfold cD at h
   obtain ⟨x14,hx14,h⟩:=aN h
   refine aC (aA rfl (aL rfl rfl (lb rfl) (svI rfl) (svI rfl) rfl hx14) <|aD ?_)
   refine aS ?_
   refine aP (b:=_) rfl (fun hc15=>?_) (fun hc15=>?_)
   ·
    replace h:=bP h hc15
    refine aT ?_
    refine aJ ?_
    refine aS ?_
    refine aV ?_
    refine aC (aA rfl (mvI rfl rfl rfl rfl) <|aA rfl (asI rfl rfl rfl rfl) <|aD ?_)
    obtain ⟨x16,hx16,h⟩:=aO h
    obtain ⟨x17,hx17,h⟩:=aO h
    refine aC (aA rfl (aE rfl rfl (lb rfl) (sv (d:=.mv 42 [.agg q5]) rfl)) <|aA rfl (mvL rfl rfl rfl rfl) <|aA rfl (mvI rfl rfl rfl rfl) <|aA rfl (bW aB (cs:=q9) rfl rfl (lb rfl) Try.underlying30 ti56 (svL rfl) (svI rfl) hx16 rfl rfl) <|aA rfl (eH (cs:=q9) rfl rfl (lb rfl) Try.underlying56 ag56 ti56 (by decide) (sv (d:=.fptr q9) rfl) (nle rfl) rfl) <|aA rfl (vI (r:=.bool _) rfl rfl (lb rfl) cl42 (sv (d:=.mv 42 [.agg q5]) rfl) (.cons (svA q9 rfl) .nil) rfl (qF _ _ _ hx17)) <|aD ?_)
    refine aP (b:=_) rfl (fun hc18=>?_) (fun hc18=>?_)
    ·
     replace h:=bP h hc18
     refine aC (aA rfl (mvI rfl rfl rfl rfl) <|aA rfl (asI rfl rfl rfl rfl) <|aD ?_)
     refine aW ?_
     refine bN ?_
     refine bA ?_
     refine bA ?_
     refine bN ?_
     refine bA ?_
     obtain rfl:=Option.some.inj h
     refine ⟨.inr rfl,(.cons (sv rfl) .nil)⟩
    ·
     replace h:=bQ h hc18
     refine aT ?_
     refine bJ ?_
     refine aJ ?_
     obtain ⟨x19,hx19,h⟩:=aN h
     refine aU (aA rfl (aQ rfl rfl (lb rfl) (svI rfl) (sv (d:=.int _ 1) rfl) rfl hx19) <|aA rfl (mvI rfl rfl rfl rfl) <|bI ?_)
     refine aJ ⟨(n0,x19),(fun i=>i),⟨(.sames rfl rfl),.nil,bE [] rfl (by decide),fun _ _=>rfl⟩,?_,?_⟩
     exact h
     exact Nat.lt_succ_self _
   ·
    replace h:=bQ h hc15
    refine bY ?_
    refine bB ?_
    refine bB ?_
    refine bZ ?_
    refine aJ ?_
    refine aC (aA rfl (aG rfl rfl (lb rfl) (sv (d:=.int _ (-1)) rfl)) <|aD ?_)
    refine aW ?_
    obtain rfl:=Option.some.inj h
    refine ⟨.inr rfl,(.cons (sv rfl) .nil)⟩

theorem jM (a0 : (List aF)) (a1 : aK) (r : Bool) (h : bR a0 a1 = some r) : dP Try.prog 39 [.slice false (a0.map aB.d),.mv 42 [.agg (v0 a1)]] (.bool r):=by
 refine bG (rs:=[.bool r]) Try.func39 rfl Try.ntmps39 (nle rfl) rfl fun O hO=>?_
 show IWP _ _ _ _ ⟨[(0,.slice false (a0.map aB.d)),(1,.mv 42 [.agg (v0 a1)])],[]⟩ _
 unfold bR at h
 refine aC (aA rfl (aG rfl rfl (lb rfl) (sv (d:=.bool false) rfl)) <|aD ?_)
 obtain ⟨x1,hx1,h⟩:=aO h
 obtain ⟨x2,hx2,h⟩:=aN h
 refine aC (aA rfl (mvL rfl rfl rfl rfl) <|aA rfl (aE rfl rfl (lb rfl) (sv (d:=.mv 42 [.agg q5]) rfl)) <|aA rfl (aX (r:=.int _ _) rfl rfl (lb rfl) cl72 (.cons (svL rfl) (.cons (sv (d:=.mv 42 [.agg q5]) rfl) .nil)) rfl (kB _ _ _ hx1)) <|aA rfl (aL rfl rfl (lb rfl) (svI rfl) (sv (d:=.int _ 0) rfl) rfl hx2) <|aA rfl (asB rfl rfl rfl rfl) <|aD ?_)
 refine aW ?_
 obtain rfl:=Option.some.inj h
 refine ⟨.inr rfl,(.cons (sv rfl) .nil)⟩

theorem qH (a0 : aK) (r : Bool) (h : jO a0 = some r) : dP Try.prog 43 [.agg (v0 a0)] (.bool r):=by
 refine bG (rs:=[.bool r]) Try.func43 rfl Try.ntmps43 (nle rfl) rfl fun O hO=>?_
 show IWP _ _ _ _ ⟨[(0,.agg (v0 a0))],[]⟩ _
 unfold jO at h
 refine aC (aA rfl (cK (cs:=q5) 0 rfl rfl (lb rfl) rfl (svA q5 rfl) rfl rfl) <|aA rfl (aG rfl rfl (lb rfl) (sv (d:=.bool false) rfl)) <|aD ?_)
 refine aC (aA rfl (aG rfl rfl (lb rfl) (sv (d:=.int _ 0) rfl)) <|aD ?_)
 refine aS ?_
 refine aC (aA rfl (faR 2 rfl rfl rfl Try.underlying32 rfl ti30 (lb rfl) rfl rfl) <|aA rfl (lrL la30 rfl rfl rfl rfl rfl (nle rfl) rfl) <|aA rfl (cG aB (l:=a0.Nodes) rfl rfl (lb rfl) Try.underlying30 (svL rfl)) <|aA rfl (aE rfl rfl (lb rfl) (sv (d:=.int _ 0) rfl)) <|aD ?_)
 refine aV ?_
 refine bO (α:=Nat × Int × Int) (fun z=>⟨[(1,.ref 0 0),(3,.int .i64 z.2.1),(7,.slice false (a0.Nodes.map aB.d)),(8,.int .i64 (a0.Nodes.length : Int)),(9,.int .i64 z.2.2)],[(0,.blk 32 (v0 a0))]⟩) (fun z=>dT a0 z.1 z.2.1 z.2.2 = some r) (fun z=>z.1) (fuel,0,0) (fun i=>i) ⟨(.sames rfl rfl),(.cons (.blk rfl rfl rfl) .nil),bE [0] rfl (by decide),fun _ _=>rfl⟩ ?_ ?_
 ·exact h
 ·
  rintro ⟨n0,v13,v14⟩ h
  cases n0 with
  | zero=>exact absurd h (by unfold dT; exact nofun)
  | succ n0 =>
   unfold dT at h
   obtain ⟨x27,hx27,h⟩:=aN h
   refine aC (aA rfl (aL rfl rfl (lb rfl) (svI rfl) (svI rfl) rfl hx27) <|aD ?_)
   refine aS ?_
   refine aP (b:=_) rfl (fun hc28=>?_) (fun hc28=>?_)
   ·
    replace h:=bP h hc28
    refine aT ?_
    refine aJ ?_
    refine aS ?_
    refine aV ?_
    obtain ⟨x29,hx29,h⟩:=aO h
    refine aC (aA rfl (bW aB (cs:=q9) rfl rfl (lb rfl) Try.underlying30 ti56 (svL rfl) (svI rfl) hx29 rfl rfl) <|aA rfl (eH (cs:=q9) rfl rfl (lb rfl) Try.underlying56 ag56 ti56 (by decide) (sv (d:=.fptr q9) rfl) (nle rfl) rfl) <|aA rfl (bX (cs:=q9) (cs':=(w18 0 0 0 false)) 1 rfl rfl (lb rfl) rfl ti56 rfl rfl (.all _)) <|aA rfl (stA q9 q9 ti56 rfl rfl rfl rfl rfl rfl rfl rfl (nle rfl) rfl) <|aD ?_)
    refine iA (α:=Int) (fun z=>⟨[(1,.ref 0 0),(3,.int .i64 z),(7,.slice false (a0.Nodes.map aB.d)),(8,.int .i64 (a0.Nodes.length : Int)),(9,.int .i64 v14),(5,.ref 1 0)],[(0,.blk 32 (v0 a0)),(1,.blk 56 (v3 x29))]⟩) (fun z=>iP a0 v14 (dT a0 n0) x29 z = some r) ?_ ?_
    ·
     refine aC (aA rfl (faR 3 rfl rfl rfl Try.underlying56 rfl ti4 (lb rfl) rfl rfl) <|aA rfl (aH (d:=.bool _) rfl rfl (lb rfl) Try.underlying4 ag4 ti4 (by decide) (svR rfl) rfl (nle rfl) rfl) <|aD ?_)
     refine aP (b:=_) rfl (fun hc37=>?_) (fun hc37=>?_)
     ·
      replace h:=bP h hc37
      obtain ⟨x38,hx38,h⟩:=aN h
      refine aU (aA rfl (mvI rfl rfl rfl rfl) <|aA rfl (aQ rfl rfl (lb rfl) (svI rfl) (sv (d:=.int _ 1) rfl) rfl hx38) <|aA rfl (asI rfl rfl rfl rfl) <|bI ?_)
      refine aJ ⟨x38,(fun i=>i),⟨(.sames rfl rfl),(.cons (.blk rfl rfl rfl) (.cons (.blk rfl rfl rfl) .nil)),bE [0,1] rfl (by decide),fun _ _=>rfl⟩,?_⟩
      exact h
     ·
      replace h:=bQ h hc37
      refine aT ?_
      refine aJ ⟨v13,(fun i=>i),⟨(.sames rfl rfl),(.cons (.blk rfl rfl rfl) (.cons (.blk rfl rfl rfl) .nil)),bE [0,1] rfl (by decide),fun _ _=>rfl⟩,?_⟩
      exact h
    ·
     rintro v32 h
     unfold iP at h
     obtain ⟨x33,hx33,h⟩:=aO h
     obtain ⟨x34,hx34,h⟩:=aN h
     refine dE rfl [⟨[5],[],[(17,.ref 1 3)],[]⟩,
      ⟨[17],[1],[(18,.bool x29.Closed)],[]⟩,
      ⟨[1],[],[(19,.ref 0 3)],[]⟩,
      ⟨[19],[0],[(20,.slice false (a0.Ended.map (eInt .i64).d))],[]⟩,
      ⟨[5],[],[(21,.ref 1 0)],[]⟩,
      ⟨[21],[1],[(22,.int .i64 x29.ID)],[]⟩,
      ⟨[20,22],[],[(23,.bool x33)],[]⟩,
      ⟨[18,23],[],[(24,.bool x34)],[]⟩] rfl ?_ (by kernel_rfl) ?_
     ·refine .cons (lop rfl rfl fun S hA=>(aR rfl rfl (lb rfl) Try.underlying56 rfl ti4 (by decide) (svaR hA rfl rfl) (off':=3) rfl)) ?_
      refine .cons (lop rfl rfl fun S hA=>(aH (d:=.bool _) rfl rfl (lb rfl) Try.underlying4 ag4 ti4 (by decide) (svaR hA rfl rfl) (agi hA rfl rfl) (nle rfl) rfl)) ?_
      refine .cons (lop rfl rfl fun S hA=>(aR rfl rfl (lb rfl) Try.underlying32 rfl ti23 (by decide) (svaR hA rfl rfl) (off':=3) rfl)) ?_
      refine .cons (lop rfl rfl fun S hA=>(aH (d:=.slice _ _) rfl rfl (lb rfl) Try.underlying23 ag23 ti23 (by decide) (svaR hA rfl rfl) (agi hA rfl rfl) (nle rfl) rfl)) ?_
      refine .cons (lop rfl rfl fun S hA=>(aR rfl rfl (lb rfl) Try.underlying56 rfl ti3 (by decide) (svaR hA rfl rfl) (off':=0) rfl)) ?_
      refine .cons (lop rfl rfl fun S hA=>(aH (d:=.int _ _) rfl rfl (lb rfl) Try.underlying3 ag3 ti3 (by decide) (svaR hA rfl rfl) (agi hA rfl rfl) (nle rfl) rfl)) ?_
      refine .cons (lop rfl rfl fun S hA=>(aX (r:=.bool _) rfl rfl (lb rfl) cl54 (.cons (svaL hA rfl rfl) (.cons (svaI hA rfl rfl) .nil)) rfl (iQ _ _ _ hx33))) ?_
      refine .cons (lop rfl rfl fun S hA=>(xH rfl rfl (lb rfl) Try.underlying4 (svaB hA rfl rfl) (svaB hA rfl rfl) hx34)) ?_
      exact .nil
     refine aP (b:=_) rfl (fun hc35=>?_) (fun hc35=>?_)
     ·
      replace h:=bP h hc35
      refine aC (aA rfl (aG rfl rfl (lb rfl) (sv (d:=.bool false) rfl)) <|aD ?_)
      refine aW ?_
      refine bN ?_
      refine bA ?_
      refine bA ?_
      refine bN ?_
      refine bA ?_
      obtain rfl:=Option.some.inj h
      refine ⟨.inr rfl,(.cons (sv rfl) .nil)⟩
     ·
      replace h:=bQ h hc35
      refine aT ?_
      refine bJ ?_
      refine aJ ?_
      obtain ⟨x36,hx36,h⟩:=aN h
      refine aU (aA rfl (aQ rfl rfl (lb rfl) (svI rfl) (sv (d:=.int _ 1) rfl) rfl hx36) <|aA rfl (mvI rfl rfl rfl rfl) <|bI ?_)
      refine aJ ⟨(n0,v32,x36),(fun i=>i),⟨(.sames rfl rfl),(.cons (.blk rfl rfl rfl) .nil),bE [0] rfl (by decide),fun _ _=>rfl⟩,?_,?_⟩
      exact h
      exact Nat.lt_succ_self _
   ·
    replace h:=bQ h hc28
    refine bY ?_
    refine bB ?_
    refine bB ?_
    refine bZ ?_
    refine aJ ?_
    obtain ⟨x39,hx39,h⟩:=aN h
    refine aC (aA rfl (mvI rfl rfl rfl rfl) <|aA rfl (faR 3 rfl rfl rfl Try.underlying32 rfl ti23 (lb rfl) rfl rfl) <|aA rfl (lrL la23 rfl rfl rfl rfl rfl (nle rfl) rfl) <|aA rfl (cG (eInt .i64) (l:=a0.Ended) rfl rfl (lb rfl) Try.underlying23 (svL rfl)) <|aA rfl (aL rfl rfl (lb rfl) (svI rfl) (svI rfl) rfl hx39) <|aA rfl (asB rfl rfl rfl rfl) <|aD ?_)
    refine aW ?_
    obtain rfl:=Option.some.inj h
    refine ⟨.inr rfl,(.cons (sv rfl) .nil)⟩

theorem lI (a0 : aK) (r : Int) (h : kJ a0 = some r) : dP Try.prog 14 [.agg (v0 a0)] (.int .i64 r) := by
 refine bG (rs:=[.int .i64 r]) Try.func14 rfl Try.ntmps14 (nle rfl) rfl fun O hO=>?_
 show IWP _ _ _ _ ⟨[(0,.agg (v0 a0))],[]⟩ _
 unfold kJ at h
 refine aC (aA rfl (cK (cs:=q5) 0 rfl rfl (lb rfl) rfl (svA q5 rfl) rfl rfl) <|aA rfl (aG rfl rfl (lb rfl) (sv (d:=.int _ 0) rfl)) <|aD ?_)
 refine aS ?_
 obtain ⟨x1,hx1,h⟩:=aN h
 obtain ⟨x2,hx2,h⟩:=aN h
 obtain ⟨x3,hx3,h⟩:=aN h
 obtain ⟨x4,hx4,h⟩:=aN h
 obtain ⟨x5,hx5,h⟩:=aN h
 obtain ⟨x6,hx6,h⟩:=aN h
 obtain ⟨x7,hx7,h⟩:=aN h
 obtain ⟨x8,hx8,h⟩:=aO h
 obtain ⟨x9,hx9,h⟩:=aN h
 refine aC (aA rfl (faR 0 rfl rfl rfl Try.underlying32 rfl ti3 (lb rfl) rfl rfl) <|aA rfl (aH (d:=.int _ _) rfl rfl (lb rfl) Try.underlying3 ag3 ti3 (by decide) (svR rfl) rfl (nle rfl) rfl) <|aA rfl (aL rfl rfl (lb rfl) (svI rfl) (sv (d:=.int _ 1) rfl) rfl hx1) <|aA rfl (mvB rfl rfl rfl rfl) <|aI rfl rfl (.one rfl) rfl (by decide) (fun hb=>(faR 0 rfl rfl rfl Try.underlying32 rfl ti3 (lb rfl) rfl rfl)) <|aI rfl rfl (.one rfl) rfl (by decide) (fun hb=>(aH (d:=.int _ _) rfl rfl (lb rfl) Try.underlying3 ag3 ti3 (by decide) (svcR rfl hb) rfl (nle rfl) rfl)) <|aI rfl rfl (.one rfl) rfl (by decide) (fun hb=>(aL rfl rfl (lb rfl) (svcI rfl hb) (sv (d:=.int _ 24) rfl) rfl hx2)) <|aA rfl (iJ rfl rfl (lb rfl) (svB rfl) rfl rfl hx3) <|aA rfl (mvB rfl rfl rfl rfl) <|aI rfl rfl (.one rfl) rfl (by decide) (fun hb=>(faR 1 rfl rfl rfl Try.underlying32 rfl ti3 (lb rfl) rfl rfl)) <|aI rfl rfl (.one rfl) rfl (by decide) (fun hb=>(aH (d:=.int _ _) rfl rfl (lb rfl) Try.underlying3 ag3 ti3 (by decide) (svcR rfl hb) rfl (nle rfl) rfl)) <|aI rfl rfl (.one rfl) rfl (by decide) (fun hb=>(aL rfl rfl (lb rfl) (svcI rfl hb) (sv (d:=.int _ 0) rfl) rfl hx4)) <|aA rfl (iJ rfl rfl (lb rfl) (svB rfl) rfl rfl hx5) <|aA rfl (mvB rfl rfl rfl rfl) <|aI rfl rfl (.one rfl) rfl (by decide) (fun hb=>(faR 1 rfl rfl rfl Try.underlying32 rfl ti3 (lb rfl) rfl rfl)) <|aI rfl rfl (.one rfl) rfl (by decide) (fun hb=>(aH (d:=.int _ _) rfl rfl (lb rfl) Try.underlying3 ag3 ti3 (by decide) (svcR rfl hb) rfl (nle rfl) rfl)) <|aI rfl rfl (.one rfl) rfl (by decide) (fun hb=>(faR 0 rfl rfl rfl Try.underlying32 rfl ti3 (lb rfl) rfl rfl)) <|aI rfl rfl (.one rfl) rfl (by decide) (fun hb=>(aH (d:=.int _ _) rfl rfl (lb rfl) Try.underlying3 ag3 ti3 (by decide) (svcR rfl hb) rfl (nle rfl) rfl)) <|aI rfl rfl (.one rfl) rfl (by decide) (fun hb=>(aL rfl rfl (lb rfl) (svcI rfl hb) (svcI rfl hb) rfl hx6)) <|aA rfl (iJ rfl rfl (lb rfl) (svB rfl) rfl rfl hx7) <|aA rfl (mvB rfl rfl rfl rfl) <|aI rfl rfl (.one rfl) rfl (by decide) (fun hb=>(faR 2 rfl rfl rfl Try.underlying32 rfl ti30 (lb rfl) rfl rfl)) <|aI rfl rfl (.one rfl) rfl (by decide) (fun hb=>(aH (d:=.slice _ _) rfl rfl (lb rfl) Try.underlying30 ag30 ti30 (by decide) (svcR rfl hb) rfl (nle rfl) rfl)) <|aI rfl rfl (.one rfl) rfl (by decide) (fun hb=>(aX (r:=.bool _) rfl rfl (lb rfl) cl39 (.cons (svcL rfl hb) (.cons (sv (d:=.fn 40 []) rfl) .nil)) rfl (jL _ _ (gd_t hx8 hb)))) <|aA rfl (iJ rfl rfl (lb rfl) (svB rfl) rfl rfl hx9) <|aD ?_)
 refine aP (b:=_) rfl (fun hc10=>?_) (fun hc10=>?_)
 ·
  replace h:=bP h hc10
  refine aC (aA rfl (aG rfl rfl (lb rfl) (sv (d:=.int _ 8) rfl)) <|aD ?_)
  refine aW ?_
  refine bA ?_
  obtain rfl:=Option.some.inj h
  refine ⟨.inr rfl,(.cons (sv rfl) .nil)⟩
 ·
  replace h:=bQ h hc10
  refine aT ?_
  refine aJ ?_
  refine aS ?_
  obtain ⟨x11,hx11,h⟩:=aN h
  obtain ⟨x12,hx12,h⟩:=aN h
  obtain ⟨x13,hx13,h⟩:=aN h
  refine aC (aA rfl (faR 2 rfl rfl rfl Try.underlying32 rfl ti30 (lb rfl) rfl rfl) <|aA rfl (lrL la30 rfl rfl rfl rfl rfl (nle rfl) rfl) <|aA rfl (cG aB (l:=a0.Nodes) rfl rfl (lb rfl) Try.underlying30 (svL rfl)) <|aA rfl (faR 0 rfl rfl rfl Try.underlying32 rfl ti3 (lb rfl) rfl rfl) <|aA rfl (aH (d:=.int _ _) rfl rfl (lb rfl) Try.underlying3 ag3 ti3 (by decide) (svR rfl) rfl (nle rfl) rfl) <|aA rfl (aL rfl rfl (lb rfl) (svI rfl) (svI rfl) rfl hx11) <|aA rfl (mvB rfl rfl rfl rfl) <|aI rfl rfl (.one rfl) rfl (by decide) (fun hb=>(faR 3 rfl rfl rfl Try.underlying32 rfl ti23 (lb rfl) rfl rfl)) <|aI rfl rfl (.one rfl) rfl (by decide) (fun hb=>(aH (d:=.slice _ _) rfl rfl (lb rfl) Try.underlying23 ag23 ti23 (by decide) (svcR rfl hb) rfl (nle rfl) rfl)) <|aI rfl rfl (.one rfl) rfl (by decide) (fun hb=>(cG (eInt .i64) (l:=a0.Ended) rfl rfl (lb rfl) Try.underlying23 (svcL rfl hb))) <|aI rfl rfl (.one rfl) rfl (by decide) (fun hb=>(faR 1 rfl rfl rfl Try.underlying32 rfl ti3 (lb rfl) rfl rfl)) <|aI rfl rfl (.one rfl) rfl (by decide) (fun hb=>(aH (d:=.int _ _) rfl rfl (lb rfl) Try.underlying3 ag3 ti3 (by decide) (svcR rfl hb) rfl (nle rfl) rfl)) <|aI rfl rfl (.one rfl) rfl (by decide) (fun hb=>(aL rfl rfl (lb rfl) (svcI rfl hb) (svcI rfl hb) rfl hx12)) <|aA rfl (iJ rfl rfl (lb rfl) (svB rfl) rfl rfl hx13) <|aD ?_)
  refine aP (b:=_) rfl (fun hc14=>?_) (fun hc14=>?_)
  ·
   replace h:=bP h hc14
   refine aC (aA rfl (aG rfl rfl (lb rfl) (sv (d:=.int _ 7) rfl)) <|aD ?_)
   refine aW ?_
   refine bA ?_
   obtain rfl:=Option.some.inj h
   refine ⟨.inr rfl,(.cons (sv rfl) .nil)⟩
  ·
   replace h:=bQ h hc14
   refine aT ?_
   refine aJ ?_
   refine aS ?_
   refine aC (aA rfl (aG rfl rfl (lb rfl) (sv (d:=.int _ 1) rfl)) <|aD ?_)
   refine aV ?_
   refine bO (α:=Nat × Int) (fun z=>⟨[(1,.ref 0 0),(3,.int .i64 z.2)],[(0,.blk 32 (v0 a0))]⟩) (fun z=>iS a0 z.1 z.2 = some r) (fun z=>z.1) (fuel,1) (fun i=>i) ⟨(.sames rfl rfl),(.cons (.blk rfl rfl rfl) .nil),bE [0] rfl (by decide),fun _ _=>rfl⟩ ?_ ?_
   ·exact h
   ·
    rintro ⟨n0,v23⟩ h
    cases n0 with
    | zero=>exact absurd h (by unfold iS; exact nofun)
    | succ n0 =>
     unfold iS at h
     refine aS ?_
     obtain ⟨x32,hx32,h⟩:=aN h
     refine aC (aA rfl (mvI rfl rfl rfl rfl) <|aA rfl (faR 2 rfl rfl rfl Try.underlying32 rfl ti30 (lb rfl) rfl rfl) <|aA rfl (lrL la30 rfl rfl rfl rfl rfl (nle rfl) rfl) <|aA rfl (cG aB (l:=a0.Nodes) rfl rfl (lb rfl) Try.underlying30 (svL rfl)) <|aA rfl (aL rfl rfl (lb rfl) (svI rfl) (svI rfl) rfl hx32) <|aD ?_)
     refine aP (b:=_) rfl (fun hc33=>?_) (fun hc33=>?_)
     ·
      replace h:=bP h hc33
      refine aT ?_
      refine aJ ?_
      refine aS ?_
      refine aV ?_
      obtain ⟨x34,hx34,h⟩:=aN h
      obtain ⟨x35,hx35,h⟩:=aO h
      obtain ⟨x36,hx36,h⟩:=aO h
      obtain ⟨x37,hx37,h⟩:=aN h
      refine dE rfl [⟨[1],[],[(50,.ref 0 2)],[]⟩,
       ⟨[50],[0],[(51,.slice false (a0.Nodes.map aB.d))],[]⟩,
       ⟨[3],[],[(52,.int .i64 v23)],[]⟩,
       ⟨[52],[],[(53,.int .i64 x34)],[]⟩,
       ⟨[51,53],[],[(54,.fptr (v3 x35))],[]⟩,
       ⟨[54],[],[(55,.fptr [.int .i64 x35.ID])],[]⟩,
       ⟨[55],[],[(56,.int .i64 x35.ID)],[]⟩,
       ⟨[1],[],[(57,.ref 0 2)],[]⟩,
       ⟨[57],[0],[(58,.slice false (a0.Nodes.map aB.d))],[]⟩,
       ⟨[3],[],[(59,.int .i64 v23)],[]⟩,
       ⟨[58,59],[],[(60,.fptr (v3 x36))],[]⟩,
       ⟨[60],[],[(61,.fptr [.int .i64 x36.ID])],[]⟩,
       ⟨[61],[],[(62,.int .i64 x36.ID)],[]⟩,
       ⟨[56,62],[],[(63,.bool x37)],[]⟩] rfl ?_ (by kernel_rfl) ?_
      ·refine .cons (lop rfl rfl fun S hA=>(aR rfl rfl (lb rfl) Try.underlying32 rfl ti30 (by decide) (svaR hA rfl rfl) (off':=2) rfl)) ?_
       refine .cons (lop rfl rfl fun S hA=>(aH (d:=.slice _ _) rfl rfl (lb rfl) Try.underlying30 ag30 ti30 (by decide) (svaR hA rfl rfl) (agi hA rfl rfl) (nle rfl) rfl)) ?_
       refine .cons (lop rfl rfl fun S hA=>(aE rfl rfl (lb rfl) (svaI hA rfl rfl))) ?_
       refine .cons (lop rfl rfl fun S hA=>(aQ rfl rfl (lb rfl) (svaI hA rfl rfl) (sv (d:=.int _ 1) rfl) rfl hx34)) ?_
       refine .cons (lop rfl rfl fun S hA=>(bW aB (cs:=q9) rfl rfl (lb rfl) Try.underlying30 ti56 (svaL hA rfl rfl) (svaI hA rfl rfl) hx35 rfl rfl)) ?_
       refine .cons (lop rfl rfl fun S hA=>(bV (cs':=[.int _ _]) rfl rfl (lb rfl) Try.underlying56 rfl ti3 (by decide) (sv (d:=.fptr q9) (agr hA rfl rfl)) rfl)) ?_
       refine .cons (lop rfl rfl fun S hA=>(bU rfl rfl (lb rfl) Try.underlying3 ag3 ti3 (by decide) (sv (d:=.fptr [.int _ _]) (agr hA rfl rfl)) (nle rfl))) ?_
       refine .cons (lop rfl rfl fun S hA=>(aR rfl rfl (lb rfl) Try.underlying32 rfl ti30 (by decide) (svaR hA rfl rfl) (off':=2) rfl)) ?_
       refine .cons (lop rfl rfl fun S hA=>(aH (d:=.slice _ _) rfl rfl (lb rfl) Try.underlying30 ag30 ti30 (by decide) (svaR hA rfl rfl) (agi hA rfl rfl) (nle rfl) rfl)) ?_
       refine .cons (lop rfl rfl fun S hA=>(aE rfl rfl (lb rfl) (svaI hA rfl rfl))) ?_
       refine .cons (lop rfl rfl fun S hA=>(bW aB (cs:=q9) rfl rfl (lb rfl) Try.underlying30 ti56 (svaL hA rfl rfl) (svaI hA rfl rfl) hx36 rfl rfl)) ?_
       refine .cons (lop rfl rfl fun S hA=>(bV (cs':=[.int _ _]) rfl rfl (lb rfl) Try.underlying56 rfl ti3 (by decide) (sv (d:=.fptr q9) (agr hA rfl rfl)) rfl)) ?_
       refine .cons (lop rfl rfl fun S hA=>(bU rfl rfl (lb rfl) Try.underlying3 ag3 ti3 (by decide) (sv (d:=.fptr [.int _ _]) (agr hA rfl rfl)) (nle rfl))) ?_
       refine .cons (lop rfl rfl fun S hA=>(aL rfl rfl (lb rfl) (svaI hA rfl rfl) (svaI hA rfl rfl) rfl hx37)) ?_
       exact .nil
      refine aP (b:=_) rfl (fun hc38=>?_) (fun hc38=>?_)
      ·
       replace h:=bP h hc38
       refine aC (aA rfl (aG rfl rfl (lb rfl) (sv (d:=.int _ 10) rfl)) <|aD ?_)
       refine aW ?_
       refine bN ?_
       refine bA ?_
       refine bA ?_
       refine bN ?_
       refine bA ?_
       obtain rfl:=Option.some.inj h
       refine ⟨.inr rfl,(.cons (sv rfl) .nil)⟩
      ·
       replace h:=bQ h hc38
       refine aT ?_
       refine bJ ?_
       refine aJ ?_
       obtain ⟨x39,hx39,h⟩:=aN h
       refine aU (aA rfl (mvI rfl rfl rfl rfl) <|aA rfl (aQ rfl rfl (lb rfl) (svI rfl) (sv (d:=.int _ 1) rfl) rfl hx39) <|aA rfl (asI rfl rfl rfl rfl) <|bI ?_)
       refine aJ ⟨(n0,x39),(fun i=>i),⟨(.sames rfl rfl),(.cons (.blk rfl rfl rfl) .nil),bE [0] rfl (by decide),fun _ _=>rfl⟩,?_,?_⟩
       exact h
       exact Nat.lt_succ_self _
     ·
      replace h:=bQ h hc33
      refine bY ?_
      refine bB ?_
      refine bB ?_
      refine bZ ?_
      refine aJ ?_
      refine aS ?_
      refine aV ?_
      obtain ⟨x40,hx40,h⟩:=aO h
      refine aC (aA rfl (faR 2 rfl rfl rfl Try.underlying32 rfl ti30 (lb rfl) rfl rfl) <|aA rfl (lrL la30 rfl rfl rfl rfl rfl (nle rfl) rfl) <|aA rfl (lra q5 la32 rfl rfl rfl rfl rfl (nle rfl) rfl) <|aA rfl (tP rfl rfl (lb rfl) (.cons (svA q5 rfl) .nil)) <|aA rfl (aX (r:=.bool _) rfl rfl (lb rfl) cl39 (.cons (svL rfl) (.cons (sv (d:=.mv 41 [.agg q5]) rfl) .nil)) rfl (jS _ _ _ hx40)) <|aA rfl (asB rfl rfl rfl rfl) <|aD ?_)
      refine aP (b:=_) rfl (fun hc41=>?_) (fun hc41=>?_)
      ·
       replace h:=bP h hc41
       refine aC (aA rfl (aG rfl rfl (lb rfl) (sv (d:=.int _ 6) rfl)) <|aD ?_)
       refine aW ?_
       refine bN ?_
       refine bA ?_
       obtain rfl:=Option.some.inj h
       refine ⟨.inr rfl,(.cons (sv rfl) .nil)⟩
      ·
       replace h:=bQ h hc41
       obtain ⟨x42,hx42,h⟩:=aO h
       refine aC (aA rfl (faR 2 rfl rfl rfl Try.underlying32 rfl ti30 (lb rfl) rfl rfl) <|aA rfl (lrL la30 rfl rfl rfl rfl rfl (nle rfl) rfl) <|aA rfl (lra q5 la32 rfl rfl rfl rfl rfl (nle rfl) rfl) <|aA rfl (tP rfl rfl (lb rfl) (.cons (svA q5 rfl) .nil)) <|aA rfl (aX (r:=.bool _) rfl rfl (lb rfl) cl39 (.cons (svL rfl) (.cons (sv (d:=.mv 42 [.agg q5]) rfl) .nil)) rfl (jM _ _ _ hx42)) <|aA rfl (asB rfl rfl rfl rfl) <|aD ?_)
       refine aP (b:=_) rfl (fun hc43=>?_) (fun hc43=>?_)
       ·
        replace h:=bP h hc43
        refine aC (aA rfl (aG rfl rfl (lb rfl) (sv (d:=.int _ 4) rfl)) <|aD ?_)
        refine aW ?_
        refine bN ?_
        refine bA ?_
        obtain rfl:=Option.some.inj h
        refine ⟨.inr rfl,(.cons (sv rfl) .nil)⟩
       ·
        replace h:=bQ h hc43
        obtain ⟨x44,hx44,h⟩:=aO h
        refine aC (aA rfl (lra q5 la32 rfl rfl rfl rfl rfl (nle rfl) rfl) <|aA rfl (aX (r:=.bool _) rfl rfl (lb rfl) cl43 (.cons (svA q5 rfl) .nil) rfl (qH _ _ hx44)) <|aA rfl (iB rfl rfl (lb rfl) (svB rfl)) <|aA rfl (asB rfl rfl rfl rfl) <|aD ?_)
        refine aP (b:=_) rfl (fun hc45=>?_) (fun hc45=>?_)
        ·
         replace h:=bP h hc45
         refine aC (aA rfl (aG rfl rfl (lb rfl) (sv (d:=.int _ 9) rfl)) <|aD ?_)
         refine aW ?_
         refine bN ?_
         refine bA ?_
         obtain rfl:=Option.some.inj h
         refine ⟨.inr rfl,(.cons (sv rfl) .nil)⟩
        ·
         replace h:=bQ h hc45
         refine aT ?_
         refine bJ ?_
         refine aJ ?_
         refine aC (aA rfl (aG rfl rfl (lb rfl) (sv (d:=.int _ 0) rfl)) <|aD ?_)
         refine aW ?_
         obtain rfl:=Option.some.inj h
         refine ⟨.inr rfl,(.cons (sv rfl) .nil)⟩

theorem oX (a0 : Int) (a1 : Int) (a2 : Int) (a3 : (List aF)) (a4 : (List Int)) (r : (List Int)) (h : kE a0 a1 a2 a3 a4 = some r) : FnH Try.prog 52 [.agg (w20 a0 a1 (.osl 1000 aB.sz a3.length) (.osl 1001 (eInt .i64).sz a4.length)),.int .i64 a2] [(1000,.blk 56 (D.flat (a3.map aB.d))),(1001,.blk 3 (D.flat (a4.map (eInt .i64).d)))] (.osl 0 (eInt .i64).sz r.length) [(1000,.blk 56 (D.flat (a3.map aB.d))),(1001,.blk 3 (D.flat (a4.map (eInt .i64).d))),(0,.blk 3 (D.flat (r.map (eInt .i64).d)))]:=by
 refine eC (rs:=[.osl 0 (eInt .i64).sz r.length]) Try.func52 rfl Try.ntmps52 (nle rfl) fun O hO=>?_
 show IWP _ _ _ _ ⟨[(0,.agg (w20 a0 a1 (.osl 1000 aB.sz a3.length) (.osl 1001 (eInt .i64).sz a4.length))),(1,.int .i64 a2)],[(1000,.blk 56 (D.flat (a3.map aB.d))),(1001,.blk 3 (D.flat (a4.map (eInt .i64).d)))]⟩ _
 unfold kE at h
 refine aC (aA rfl (cK (cs:=q7) 0 rfl rfl (lb rfl) rfl (svA q7 rfl) rfl rfl) <|aA rfl (aG rfl rfl (lb rfl) (sv (d:=.nils) rfl)) <|aD ?_)
 refine aC (aA rfl (aG rfl rfl (lb rfl) (sv (d:=.nils) rfl)) <|aD ?_)
 refine aS ?_
 refine aC (aA rfl (faR 2 rfl rfl rfl Try.underlying32 rfl ti30 (lb rfl) rfl rfl) <|aA rfl (aH (d:=.osl _ _ _) rfl rfl (lb rfl) Try.underlying30 ag30 ti30 (by decide) (svR rfl) rfl (nle rfl) rfl) <|aA rfl (mM rfl rfl (lb rfl) Try.underlying30 (sv (d:=.osl _ _ _) rfl)) <|aA rfl (aE rfl rfl (lb rfl) (sv (d:=.int _ 0) rfl)) <|aD ?_)
 refine aV ?_
 refine bO (α:=Nat × Int × (List Int) × Int) (fun z=>⟨[(1,.int .i64 z.2.1),(2,.ref 0 0),(5,.osl 22 (eInt .i64).sz z.2.2.1.length),(10,.int .i64 (a3.length : Int)),(11,.int .i64 z.2.2.2)],[(0,.blk 32 (w20 a0 a1 (.osl 1000 aB.sz a3.length) (.osl 1001 (eInt .i64).sz a4.length))),(22,.blk 3 (D.flat (z.2.2.1.map (eInt .i64).d))),(1000,.blk 56 (D.flat (a3.map aB.d))),(1001,.blk 3 (D.flat (a4.map (eInt .i64).d)))]⟩) (fun z=>eV a0 a1 a3 a4 z.1 z.2.1 z.2.2.1 z.2.2.2 = some r) (fun z=>z.1) (fuel,a2,([] : (List Int)),0) (fun i=>if i = 22 then 73 else i) ⟨(.s rfl rfl (.s rfl rfl (.cons (.nilo rfl) (.sames rfl rfl)))),(.cons (.blk rfl rfl rfl) (.cons (.nilb rfl) (.cons (EntW.lst rfl) (.cons (EntW.lst rfl) .nil)))),bE [0,73,1000,1001] rfl (by decide),(fun i hi=>by first | rfl | (show (if _ then _ else _) = _; (repeat' split) <;> omega))⟩ ?_ ?_
 ·exact h
 ·
  rintro ⟨n0,v13,v14,v15⟩ h
  cases n0 with
  | zero=>exact absurd h (by unfold eV; exact nofun)
  | succ n0 =>
   unfold eV at h
   obtain ⟨x28,hx28,h⟩:=aN h
   refine aC (aA rfl (aL rfl rfl (lb rfl) (svI rfl) (svI rfl) rfl hx28) <|aD ?_)
   refine aS ?_
   refine aP (b:=_) rfl (fun hc29=>?_) (fun hc29=>?_)
   ·
    replace h:=bP h hc29
    refine aT ?_
    refine aJ ?_
    refine aS ?_
    refine aV ?_
    obtain ⟨x30,hx30,h⟩:=aO h
    refine aC (aA rfl (lra q7 la32 rfl rfl rfl rfl rfl (nle rfl) rfl) <|aA rfl (mvI rfl rfl rfl rfl) <|aA rfl (jU (r:=.tuple [.int .i64 x30.1,.bool x30.2]) rfl rfl (lb rfl) cl30 (.cons (svA q7 rfl) (.cons (svI rfl) .nil)) (.cons (.agg (.k (.k (.cons (FDT aB rfl rfl) (.cons (FDT (eInt .i64) rfl rfl) .nil))))) (.all _)) rfl rfl (fJ _ _ _ hx30)) <|aA rfl (aE rfl rfl (lb rfl) (sv (d:=.tuple q14) rfl)) <|aA rfl (bH (d:=.int _ _) rfl rfl (lb rfl) (sv (d:=.tuple q14) rfl) rfl) <|aA rfl (bH (d:=.bool _) rfl rfl (lb rfl) (sv (d:=.tuple q14) rfl) rfl) <|aA rfl (asI rfl rfl rfl rfl) <|aA rfl (asB rfl rfl rfl rfl) <|aD ?_)
    refine aS ?_
    obtain ⟨x31,hx31,h⟩:=aO h
    obtain ⟨x32,hx32,h⟩:=aO h
    obtain ⟨x33,hx33,h⟩:=aN h
    obtain ⟨x34,hx34,h⟩:=aN h
    refine aC (aA rfl (mvB rfl rfl rfl rfl) <|aA rfl (iB rfl rfl (lb rfl) (svB rfl)) <|aA rfl (mvB rfl rfl rfl rfl) <|aI rfl rfl (.one rfl) rfl (by decide) (fun hb=>(faR 2 rfl rfl rfl Try.underlying32 rfl ti30 (lb rfl) rfl rfl)) <|aI rfl rfl (.one rfl) rfl (by decide) (fun hb=>(aH (d:=.osl _ _ _) rfl rfl (lb rfl) Try.underlying30 ag30 ti30 (by decide) (svcR rfl hb) rfl (nle rfl) rfl)) <|aI rfl rfl (.one rfl) rfl (by decide) (fun hb=>(mvI rfl rfl rfl rfl)) <|aI rfl rfl (.one rfl) rfl (by decide) (fun hb=>(bC aB.toEnc0 rfl rfl (lb rfl) Try.underlying30 ti56 (svc (d:=.osl _ _ _) rfl hb) rfl (svcI rfl hb) (gd_t hx31 hb))) <|aI rfl rfl (.one rfl) rfl (by decide) (fun hb=>(gT rfl rfl (lb rfl) Try.underlying56 rfl ti3 (by decide) (svcR rfl hb) (k':=1) rfl)) <|aI rfl rfl (.one rfl) rfl (by decide) (fun hb=>(bD aB.toEnc0 (d:=.int _ _) rfl rfl (lb rfl) Try.underlying3 ag3 ti3 (by decide) (svcR rfl hb) rfl (gd_t hx32 hb) (nle rfl) rfl)) <|aI rfl rfl (.one rfl) rfl (by decide) (fun hb=>(aL rfl rfl (lb rfl) (svcI rfl hb) (sv (d:=.int _ 0) rfl) rfl hx33)) <|aA rfl (iJ rfl rfl (lb rfl) (svB rfl) rfl rfl hx34) <|aD ?_)
    refine aP (b:=_) rfl (fun hc35=>?_) (fun hc35=>?_)
    ·
     replace h:=bP h hc35
     refine bY ?_
     refine bB ?_
     refine oQ rfl ?_
     refine bB ?_
     refine bB ?_
     refine bZ ?_
     refine aJ ?_
     refine aC (aA rfl (aE rfl rfl (lb rfl) (sv (d:=.osl _ _ _) rfl)) <|aA rfl (aG rfl rfl (lb rfl) (sv (d:=.osl _ _ _) rfl)) <|aD ?_)
     refine aW ?_
     obtain rfl:=Option.some.inj h
     refine ⟨.inr rfl,(fun i=>if i = 0 then 22 else i),⟨.nil,(.cons (EntW.lst rfl) (.cons (EntW.lst rfl) (.cons (EntW.lst rfl) .nil))),bE [1000,1001,22] rfl (by decide),(fun i hi=>by first | rfl | (show (if _ then _ else _) = _; (repeat' split) <;> omega))⟩,(.cons (sv rfl) .nil),rfl⟩
    ·
     replace h:=bQ h hc35
     refine aT ?_
     refine aJ ?_
     obtain ⟨x36,hx36,h⟩:=aO h
     obtain ⟨x37,hx37,h⟩:=aO h
     refine aC (aA rfl (faR 2 rfl rfl rfl Try.underlying32 rfl ti30 (lb rfl) rfl rfl) <|aA rfl (aH (d:=.osl _ _ _) rfl rfl (lb rfl) Try.underlying30 ag30 ti30 (by decide) (svR rfl) rfl (nle rfl) rfl) <|aA rfl (mvI rfl rfl rfl rfl) <|aA rfl (bC aB.toEnc0 rfl rfl (lb rfl) Try.underlying30 ti56 (sv (d:=.osl _ _ _) rfl) rfl (svI rfl) hx36) <|aA rfl (gT rfl rfl (lb rfl) Try.underlying56 rfl ti3 (by decide) (svR rfl) (k':=1) rfl) <|aA rfl (bD aB.toEnc0 (d:=.int _ _) rfl rfl (lb rfl) Try.underlying3 ag3 ti3 (by decide) (svR rfl) rfl hx37 (nle rfl) rfl) <|aA rfl (asI rfl rfl rfl rfl) <|aD ?_)
     obtain ⟨x38,hx38,h⟩:=aO h
     refine aU (aA rfl (aE rfl rfl (lb rfl) (sv (d:=.osl _ _ _) rfl)) <|aA rfl (mvI rfl rfl rfl rfl) <|aA rfl (nV (eInt .i64).toEnc0 ([x37.Parent] : (List Int)) 23 rfl rfl (lb rfl) Try.underlying23 ti3 rfl (.cons (svI rfl) .nil) rfl rfl (by decide)) <|aA rfl (mE (eInt .i64).toEnc0 24 rfl rfl (lb rfl) Try.underlying23 ti3 rfl rfl rfl rfl rfl (uV (eInt .i64).toEnc0 rfl rfl rfl) hx38) <|aA rfl (aG rfl rfl (lb rfl) (sv (d:=.osl _ _ _) rfl)) <|bI ?_)
     refine bJ ?_
     refine aJ ?_
     obtain ⟨x39,hx39,h⟩:=aN h
     refine aU (aA rfl (aQ rfl rfl (lb rfl) (svI rfl) (sv (d:=.int _ 1) rfl) rfl hx39) <|aA rfl (mvI rfl rfl rfl rfl) <|bI ?_)
     refine aJ ⟨(n0,x37.Parent,x38,x39),(fun i=>if i = 22 then 24 else i),⟨(.sames rfl rfl),(.cons (.blk rfl rfl rfl) (.cons (EntW.lst rfl) (.cons (EntW.lst rfl) (.cons (EntW.lst rfl) .nil)))),bE [0,24,1000,1001] rfl (by decide),(fun i hi=>by first | rfl | (show (if _ then _ else _) = _; (repeat' split) <;> omega))⟩,?_,?_⟩
     exact h
     exact Nat.lt_succ_self _
   ·
    replace h:=bQ h hc29
    refine bY ?_
    refine bB ?_
    refine bB ?_
    refine bZ ?_
    refine aJ ?_
    refine aC (aA rfl (aE rfl rfl (lb rfl) (sv (d:=.osl _ _ _) rfl)) <|aA rfl (aG rfl rfl (lb rfl) (sv (d:=.osl _ _ _) rfl)) <|aD ?_)
    refine aW ?_
    obtain rfl:=Option.some.inj h
    refine ⟨.inr rfl,(fun i=>if i = 0 then 22 else i),⟨.nil,(.cons (EntW.lst rfl) (.cons (EntW.lst rfl) (.cons (EntW.lst rfl) .nil))),bE [1000,1001,22] rfl (by decide),(fun i hi=>by first | rfl | (show (if _ then _ else _) = _; (repeat' split) <;> omega))⟩,(.cons (sv rfl) .nil),rfl⟩

theorem nE (a0 : Int) (a1 : Int) (a2 : dI) (a3 : (List aF)) (a4 : (List Int)) (r : (Int × Int × (List aF) × (List Int))) (h : iO a0 a1 a2 a3 a4 = some r) : FnH Try.prog 61 [.agg (w20 a0 a1 (.osl 1000 aB.sz a3.length) (.osl 1001 (eInt .i64).sz a4.length)),.agg (v2 a2)] [(1000,.blk 56 (D.flat (a3.map aB.d))),(1001,.blk 3 (D.flat (a4.map (eInt .i64).d)))] (.agg (w20 r.1 r.2.1 (.osl 0 aB.sz r.2.2.1.length) (.osl 1 (eInt .i64).sz r.2.2.2.length))) [(0,.blk 56 (D.flat (r.2.2.1.map aB.d))),(1,.blk 3 (D.flat (r.2.2.2.map (eInt .i64).d)))]:=by
 refine eC (rs:=[.agg (w20 r.1 r.2.1 (.osl 0 aB.sz r.2.2.1.length) (.osl 1 (eInt .i64).sz r.2.2.2.length))]) Try.func61 rfl Try.ntmps61 (nle rfl) fun O hO=>?_
 show IWP _ _ _ _ ⟨[(0,.agg (w20 a0 a1 (.osl 1000 aB.sz a3.length) (.osl 1001 (eInt .i64).sz a4.length))),(1,.agg (v2 a2))],[(1000,.blk 56 (D.flat (a3.map aB.d))),(1001,.blk 3 (D.flat (a4.map (eInt .i64).d)))]⟩ _
 unfold iO at h
 refine aC (aA rfl (cK (cs:=q7) 0 rfl rfl (lb rfl) rfl (svA q7 rfl) rfl rfl) <|aA rfl (cK (cs:=q4) 1 rfl rfl (lb rfl) rfl (svA q4 rfl) rfl rfl) <|aA rfl (bX (cs:=q11) (cs':=(w16 0 0 ([] : List aF) ([] : List Int))) 2 rfl rfl (lb rfl) rfl ti32 rfl rfl (.k (.k (.cons (.nils _) (.cons (.nils _) .nil))))) <|aD ?_)
 obtain ⟨x1,hx1,h⟩:=aO h
 refine aC (aA rfl (lra q7 la32 rfl rfl rfl rfl rfl (nle rfl) rfl) <|aA rfl (faR 2 rfl rfl rfl Try.underlying37 rfl ti3 (lb rfl) rfl rfl) <|aA rfl (aH (d:=.int _ _) rfl rfl (lb rfl) Try.underlying3 ag3 ti3 (by decide) (svR rfl) rfl (nle rfl) rfl) <|aA rfl (jU (r:=.tuple [.int .i64 x1.1,.bool x1.2]) rfl rfl (lb rfl) cl30 (.cons (svA q7 rfl) (.cons (svI rfl) .nil)) (.cons (.agg (.k (.k (.cons (FDT aB rfl rfl) (.cons (FDT (eInt .i64) rfl rfl) .nil))))) (.all _)) rfl rfl (fJ _ _ _ hx1)) <|aA rfl (aE rfl rfl (lb rfl) (sv (d:=.tuple q14) rfl)) <|aA rfl (bH (d:=.int _ _) rfl rfl (lb rfl) (sv (d:=.tuple q14) rfl) rfl) <|aA rfl (bH (d:=.bool _) rfl rfl (lb rfl) (sv (d:=.tuple q14) rfl) rfl) <|aA rfl (asI rfl rfl rfl rfl) <|aA rfl (asB rfl rfl rfl rfl) <|aD ?_)
 refine iA (α:=Int × Int × Int × Bool) (fun z=>⟨[(2,.ref 0 0),(3,.ref 1 0),(4,.ref 2 0),(5,.int .i64 x1.1),(6,.bool x1.2)],[(0,.blk 32 (w20 a0 a1 (.osl 1000 aB.sz a3.length) (.osl 1001 (eInt .i64).sz a4.length))),(1,.blk 37 (w17 z.1 a2.ID z.2.1 z.2.2.1 z.2.2.2)),(2,.blk 32 (w16 0 0 ([] : List aF) ([] : List Int))),(1000,.blk 56 (D.flat (a3.map aB.d))),(1001,.blk 3 (D.flat (a4.map (eInt .i64).d)))]⟩) (fun z=>gK a0 a1 a2 a3 a4 x1 z.1 z.2.1 z.2.2.1 z.2.2.2 = some r) ?_ ?_
 ·
  obtain ⟨x83,hx83,h⟩:=aN h
  obtain ⟨x84,hx84,h⟩:=aN h
  refine aC (aA rfl (mvB rfl rfl rfl rfl) <|aA rfl (iB rfl rfl (lb rfl) (svB rfl)) <|aA rfl (mvB rfl rfl rfl rfl) <|aI rfl rfl (.one rfl) rfl (by decide) (fun hb=>(faR 2 rfl rfl rfl Try.underlying37 rfl ti3 (lb rfl) rfl rfl)) <|aI rfl rfl (.one rfl) rfl (by decide) (fun hb=>(aH (d:=.int _ _) rfl rfl (lb rfl) Try.underlying3 ag3 ti3 (by decide) (svcR rfl hb) rfl (nle rfl) rfl)) <|aI rfl rfl (.one rfl) rfl (by decide) (fun hb=>(aL rfl rfl (lb rfl) (svcI rfl hb) (sv (d:=.int _ 0) rfl) rfl hx83)) <|aA rfl (cO rfl rfl (lb rfl) (svB rfl) rfl rfl hx84) <|aD ?_)
  refine aP (b:=_) rfl (fun hc85=>?_) (fun hc85=>?_)
  ·
   replace h:=bP h hc85
   refine aU (aA rfl (faR 1 rfl rfl rfl Try.underlying37 rfl ti3 (lb rfl) rfl rfl) <|aA rfl (aH (d:=.int _ _) rfl rfl (lb rfl) Try.underlying3 ag3 ti3 (by decide) (svR rfl) rfl (nle rfl) rfl) <|aA rfl (dN (cs:=q4) rfl rfl (lb rfl) Try.underlying37 ti37 pl37 rfl (.cons (svI rfl) (.cons (sv (d:=.int _ 16) rfl) .nil)) rfl) <|aA rfl (stA q4 q4 ti37 rfl rfl rfl rfl rfl rfl rfl rfl (nle rfl) rfl) <|bI ?_)
   refine aJ ⟨(0,0,16,false),(fun i=>i),⟨(.sames rfl rfl),(.cons (.blk rfl rfl rfl) (.cons (.blk rfl rfl rfl) (.cons (.blk rfl rfl rfl) (.cons (EntW.lst rfl) (.cons (EntW.lst rfl) .nil))))),bE [0,1,2,1000,1001] rfl (by decide),fun _ _=>rfl⟩,?_⟩
   exact h
  ·
   replace h:=bQ h hc85
   refine aT ?_
   refine aJ ⟨(a2.Kind,a2.Dep,a2.Weight,a2.Only),(fun i=>i),⟨(.sames rfl rfl),(.cons (.blk rfl rfl rfl) (.cons (.blk rfl rfl rfl) (.cons (.blk rfl rfl rfl) (.cons (EntW.lst rfl) (.cons (EntW.lst rfl) .nil))))),bE [0,1,2,1000,1001] rfl (by decide),fun _ _=>rfl⟩,?_⟩
   exact h
 ·
  rintro ⟨v5,v6,v7,v8⟩ h
  unfold gK at h
  obtain ⟨x9,hx9,h⟩:=aO h
  refine aC (aA rfl (lra q7 la32 rfl rfl rfl rfl rfl (nle rfl) rfl) <|aA rfl (faR 1 rfl rfl rfl Try.underlying37 rfl ti3 (lb rfl) rfl rfl) <|aA rfl (aH (d:=.int _ _) rfl rfl (lb rfl) Try.underlying3 ag3 ti3 (by decide) (svR rfl) rfl (nle rfl) rfl) <|aA rfl (jU (r:=.tuple [.int .i64 x9.1,.bool x9.2]) rfl rfl (lb rfl) cl30 (.cons (svA q7 rfl) (.cons (svI rfl) .nil)) (.cons (.agg (.k (.k (.cons (FDT aB rfl rfl) (.cons (FDT (eInt .i64) rfl rfl) .nil))))) (.all _)) rfl rfl (fJ _ _ _ hx9)) <|aA rfl (aE rfl rfl (lb rfl) (sv (d:=.tuple q14) rfl)) <|aA rfl (bH (d:=.int _ _) rfl rfl (lb rfl) (sv (d:=.tuple q14) rfl) rfl) <|aA rfl (bH (d:=.bool _) rfl rfl (lb rfl) (sv (d:=.tuple q14) rfl) rfl) <|aA rfl (asI rfl rfl rfl rfl) <|aA rfl (asB rfl rfl rfl rfl) <|aD ?_)
  refine iA (α:=(List aF)) (fun z=>⟨[(2,.ref 0 0),(3,.ref 1 0),(4,.ref 2 0),(7,.int .i64 x9.1)],[(0,.blk 32 (w20 a0 a1 (.osl 1000 aB.sz z.length) (.osl 1001 (eInt .i64).sz a4.length))),(1,.blk 37 (w17 v5 a2.ID v6 v7 v8)),(2,.blk 32 (w16 0 0 ([] : List aF) ([] : List Int))),(1000,.blk 56 (D.flat (z.map aB.d))),(1001,.blk 3 (D.flat (a4.map (eInt .i64).d)))]⟩) (fun z=>gJ a0 a1 a2 a4 v6 v7 v8 x9 z = some r) ?_ ?_
  ·
   refine by_bool (x1.2) (fun hc72=>?_) (fun hc72=>?_)
   ·
    replace h:=bP h hc72
    obtain ⟨x73,hx73,h⟩:=aO h
    obtain ⟨x74,hx74,h⟩:=aO h
    obtain ⟨x75,hx75,h⟩:=aN h
    refine dE rfl [⟨[6],[],[(35,.bool x1.2)],[]⟩,
     ⟨[35],[],[(36,.bool x1.2)],[]⟩,
     ⟨[2,36],[0],[(37,.agg (w20 a0 a1 (.osl 1000 aB.sz a3.length) (.osl 1001 (eInt .i64).sz a4.length)))],[]⟩,
     ⟨[3,36],[],[(38,.ref 1 2)],[]⟩,
     ⟨[36,38],[1],[(39,.int .i64 v6)],[]⟩,
     ⟨[36,37,39],[3,1000,1001],[(40,.osl 3 (eInt .i64).sz x73.length)],[(1000,.blk 56 (D.flat (a3.map aB.d))),(1001,.blk 3 (D.flat (a4.map (eInt .i64).d))),(3,.blk 3 (D.flat (x73.map (eInt .i64).d))),(1000,.none),(1001,.none)]⟩,
     ⟨[3,36],[],[(41,.ref 1 1)],[]⟩,
     ⟨[36,41],[1],[(42,.int .i64 a2.ID)],[]⟩,
     ⟨[36,40,42],[3],[(43,.bool x74)],[]⟩,
     ⟨[36,43],[],[(44,.bool x75)],[]⟩] rfl ?_ (by kernel_rfl) ?_
    ·refine .cons (lop rfl rfl fun S hA=>(aE rfl rfl (lb rfl) (svaB hA rfl rfl))) ?_
     refine .cons (lop rfl rfl fun S hA=>(aE rfl rfl (lb rfl) (svaB hA rfl rfl))) ?_
     refine .cons (lopk rfl rfl rfl rfl (fun S hA=>grd1 hA rfl rfl) (by rw [hc72]; rfl) fun S hA=>(dK (cs:=q7) rfl rfl (lb rfl) Try.underlying32 ag32 ti32 (by decide) (svaR hA rfl rfl) (agi hA rfl rfl) (nle rfl) rfl)) ?_
     refine .cons (lopk rfl rfl rfl rfl (fun S hA=>grd1 hA rfl rfl) (by rw [hc72]; rfl) fun S hA=>(aR rfl rfl (lb rfl) Try.underlying37 rfl ti3 (by decide) (svaR hA rfl rfl) (off':=2) rfl)) ?_
     refine .cons (lopk rfl rfl rfl rfl (fun S hA=>grd1 hA rfl rfl) (by rw [hc72]; rfl) fun S hA=>(aH (d:=.int _ _) rfl rfl (lb rfl) Try.underlying3 ag3 ti3 (by decide) (svaR hA rfl rfl) (agi hA rfl rfl) (nle rfl) rfl)) ?_
     refine .cons (lopk rfl rfl rfl rfl (fun S hA=>grd1 hA rfl rfl) (by rw [hc72]; rfl) fun S hA=>(oF (r':=.osl 3 (eInt .i64).sz x73.length) (U:=[(1000,.blk 56 (D.flat (a3.map aB.d))),(1001,.blk 3 (D.flat (a4.map (eInt .i64).d))),(3,.blk 3 (D.flat (x73.map (eInt .i64).d))),(1000,.none),(1001,.none)]) 3 1 [1000,1001] rfl rfl (lb rfl) cl52 (.cons (svaA q7 hA rfl rfl) (.cons (svaI hA rfl rfl) .nil)) rfl rfl rfl (List.forall_mem_cons.2 ⟨(agi hA rfl rfl),List.forall_mem_nil _⟩) ⟨by decide,rfl,List.forall_mem_cons.2 ⟨⟨rfl,rfl,(lN aB (agi hA rfl rfl)),(dD aB)⟩,List.forall_mem_cons.2 ⟨⟨rfl,rfl,(lN (eInt .i64) (agi hA rfl rfl)),(dD (eInt .i64))⟩,List.forall_mem_nil _⟩⟩⟩ (oX _ _ _ _ _ _ hx73) rfl rfl (List.forall_mem_cons.2 ⟨⟨rfl,(dD aB)⟩,List.forall_mem_cons.2 ⟨⟨rfl,(dD (eInt .i64))⟩,List.forall_mem_cons.2 ⟨⟨rfl,(dD (eInt .i64))⟩,List.forall_mem_nil _⟩⟩⟩) (by simp only [List.map_cons,List.map_nil,Ent.ren,dQ,eU]; rfl))) ?_
     refine .cons (lopk rfl rfl rfl rfl (fun S hA=>grd1 hA rfl rfl) (by rw [hc72]; rfl) fun S hA=>(aR rfl rfl (lb rfl) Try.underlying37 rfl ti3 (by decide) (svaR hA rfl rfl) (off':=1) rfl)) ?_
     refine .cons (lopk rfl rfl rfl rfl (fun S hA=>grd1 hA rfl rfl) (by rw [hc72]; rfl) fun S hA=>(aH (d:=.int _ _) rfl rfl (lb rfl) Try.underlying3 ag3 ti3 (by decide) (svaR hA rfl rfl) (agi hA rfl rfl) (nle rfl) rfl)) ?_
     refine .cons (lopk rfl rfl rfl rfl (fun S hA=>grd1 hA rfl rfl) (by rw [hc72]; rfl) fun S hA=>(jU (r:=.bool x74) rfl rfl (lb rfl) cl54 (.cons (sv (d:=.osl _ _ _) (agr hA rfl rfl)) (.cons (svaI hA rfl rfl) .nil)) (.cons (FDT (eInt .i64) (agi hA rfl rfl) rfl) (.all _)) rfl rfl (iQ _ _ _ hx74))) ?_
     refine .cons (lop rfl rfl fun S hA=>(qN rfl rfl (lb rfl) (svaB hA rfl rfl) (agr hA rfl rfl) rfl hx75)) ?_
     exact .nil
    refine aP (b:=_) rfl (fun hc76=>?_) (fun hc76=>?_)
    ·
     replace h:=bP h hc76
     obtain ⟨x77,hx77,h⟩:=aO h
     obtain ⟨x78,hx78,h⟩:=aO h
     obtain ⟨x79,hx79,h⟩:=aO h
     obtain ⟨x80,hx80,h⟩:=aO h
     obtain ⟨x81,hx81,h⟩:=aN h
     refine lM rfl [⟨[2],[],[(45,.ref 0 2)],[]⟩,
      ⟨[45],[0],[(46,.osl 1000 aB.sz a3.length)],[]⟩,
      ⟨[5],[],[(47,.int .i64 x1.1)],[]⟩,
      ⟨[2],[],[(48,.ref 0 2)],[]⟩,
      ⟨[48],[0],[(49,.osl 1000 aB.sz a3.length)],[]⟩,
      ⟨[7],[],[(50,.int .i64 x9.1)],[]⟩,
      ⟨[49,50],[],[(51,.ref 1000 (((x9.1 : Int).toNat) * aB.sz + 0))],[]⟩,
      ⟨[51],[],[(52,.ref 1000 (((x9.1 : Int).toNat) * aB.sz + 1))],[]⟩,
      ⟨[52],[1000],[(53,.int .i64 x78.Parent)],[]⟩,
      ⟨[46,47],[],[(54,.ref 1000 (((x1.1 : Int).toNat) * aB.sz + 0))],[]⟩,
      ⟨[54],[],[(55,.ref 1000 (((x1.1 : Int).toNat) * aB.sz + 1))],[]⟩,
      ⟨[53,55],[1000],[],[(1000,.blk 56 (D.flat (x81.map aB.d)))]⟩] rfl ?_ (by kernel_rfl) ?_
     ·refine .cons (lop rfl rfl fun S hA=>(aR rfl rfl (lb rfl) Try.underlying32 rfl ti30 (by decide) (svaR hA rfl rfl) (off':=2) rfl)) ?_
      refine .cons (lop rfl rfl fun S hA=>(aH (d:=.osl _ _ _) rfl rfl (lb rfl) Try.underlying30 ag30 ti30 (by decide) (svaR hA rfl rfl) (agi hA rfl rfl) (nle rfl) rfl)) ?_
      refine .cons (lop rfl rfl fun S hA=>(aE rfl rfl (lb rfl) (svaI hA rfl rfl))) ?_
      refine .cons (lop rfl rfl fun S hA=>(aR rfl rfl (lb rfl) Try.underlying32 rfl ti30 (by decide) (svaR hA rfl rfl) (off':=2) rfl)) ?_
      refine .cons (lop rfl rfl fun S hA=>(aH (d:=.osl _ _ _) rfl rfl (lb rfl) Try.underlying30 ag30 ti30 (by decide) (svaR hA rfl rfl) (agi hA rfl rfl) (nle rfl) rfl)) ?_
      refine .cons (lop rfl rfl fun S hA=>(aE rfl rfl (lb rfl) (svaI hA rfl rfl))) ?_
      refine .cons (lop rfl rfl fun S hA=>(bC aB.toEnc0 rfl rfl (lb rfl) Try.underlying30 ti56 (sv (d:=.osl _ _ _) (agr hA rfl rfl)) rfl (svaI hA rfl rfl) hx77)) ?_
      refine .cons (lop rfl rfl fun S hA=>(gT rfl rfl (lb rfl) Try.underlying56 rfl ti3 (by decide) (svaR hA rfl rfl) (k':=1) rfl)) ?_
      refine .cons (lop rfl rfl fun S hA=>(bD aB.toEnc0 (d:=.int _ _) rfl rfl (lb rfl) Try.underlying3 ag3 ti3 (by decide) (svaR hA rfl rfl) (agi hA rfl rfl) hx78 (nle rfl) rfl)) ?_
      refine .cons (lop rfl rfl fun S hA=>(bC aB.toEnc0 rfl rfl (lb rfl) Try.underlying30 ti56 (sv (d:=.osl _ _ _) (agr hA rfl rfl)) rfl (svaI hA rfl rfl) hx79)) ?_
      refine .cons (lop rfl rfl fun S hA=>(gT rfl rfl (lb rfl) Try.underlying56 rfl ti3 (by decide) (svaR hA rfl rfl) (k':=1) rfl)) ?_
      refine .cons (lop rfl rfl fun S hA=>(cJ aB.toEnc0 (a':=(⟨x80.ID,x78.Parent,x80.Weight,x80.Closed⟩ : aF)) rfl rfl ti3 (svaR hA rfl rfl) (agi hA rfl rfl) (svaI hA rfl rfl) rfl rfl rfl hx80 (nle rfl) rfl hx81)) ?_
      exact .nil
     refine aJ ⟨x81,(fun i=>i),⟨(.sames rfl rfl),(.cons (.blk rfl (by rw [← (dO hx81 rfl)]; rfl) rfl) (.cons (.blk rfl rfl rfl) (.cons (.blk rfl rfl rfl) (.cons (EntW.lst rfl) (.cons (EntW.lst rfl) .nil))))),bE [0,1,2,1000,1001] rfl (by decide),fun _ _=>rfl⟩,?_⟩
     exact h
    ·
     replace h:=bQ h hc76
     refine aT ?_
     refine aJ ⟨a3,(fun i=>i),⟨(.sames rfl rfl),(.cons (.blk rfl rfl rfl) (.cons (.blk rfl rfl rfl) (.cons (.blk rfl rfl rfl) (.cons (EntW.lst rfl) (.cons (EntW.lst rfl) .nil))))),bE [0,1,2,1000,1001] rfl (by decide),fun _ _=>rfl⟩,?_⟩
     exact h
   ·
    replace h:=bQ h hc72
    obtain ⟨x82,hx82,h⟩:=aN h
    refine dE rfl [⟨[6],[],[(35,.bool x1.2)],[]⟩,
     ⟨[35],[],[(36,.bool x1.2)],[]⟩,
     ⟨[36],[],[(37,.cnd (x1.2 == true) (.bool false))],[]⟩,
     ⟨[36],[],[(38,.cnd (x1.2 == true) (.bool false))],[]⟩,
     ⟨[36],[],[(39,.cnd (x1.2 == true) (.bool false))],[]⟩,
     ⟨[36],[],[(40,.cnd (x1.2 == true) (.bool false))],[]⟩,
     ⟨[36],[],[(41,.cnd (x1.2 == true) (.bool false))],[]⟩,
     ⟨[36],[],[(42,.cnd (x1.2 == true) (.bool false))],[]⟩,
     ⟨[36],[],[(43,.cnd (x1.2 == true) (.bool false))],[]⟩,
     ⟨[36,43],[],[(44,.bool x82)],[]⟩] rfl ?_ (by kernel_rfl) ?_
    ·refine .cons (lop rfl rfl fun S hA=>(aE rfl rfl (lb rfl) (svaB hA rfl rfl))) ?_
     refine .cons (lop rfl rfl fun S hA=>(aE rfl rfl (lb rfl) (svaB hA rfl rfl))) ?_
     refine .cons (lopg rfl rfl rfl rfl (by decide) (fun S hA=>grd1 hA rfl rfl) (fun S hA hb=>absurd hb (by rw [hc72]; decide))) ?_
     refine .cons (lopg rfl rfl rfl rfl (by decide) (fun S hA=>grd1 hA rfl rfl) (fun S hA hb=>absurd hb (by rw [hc72]; decide))) ?_
     refine .cons (lopg rfl rfl rfl rfl (by decide) (fun S hA=>grd1 hA rfl rfl) (fun S hA hb=>absurd hb (by rw [hc72]; decide))) ?_
     refine .cons (lopg rfl rfl rfl rfl (by decide) (fun S hA=>grd1 hA rfl rfl) (fun S hA hb=>absurd hb (by rw [hc72]; decide))) ?_
     refine .cons (lopg rfl rfl rfl rfl (by decide) (fun S hA=>grd1 hA rfl rfl) (fun S hA hb=>absurd hb (by rw [hc72]; decide))) ?_
     refine .cons (lopg rfl rfl rfl rfl (by decide) (fun S hA=>grd1 hA rfl rfl) (fun S hA hb=>absurd hb (by rw [hc72]; decide))) ?_
     refine .cons (lopg rfl rfl rfl rfl (by decide) (fun S hA=>grd1 hA rfl rfl) (fun S hA hb=>absurd hb (by rw [hc72]; decide))) ?_
     refine .cons (lop rfl rfl fun S hA=>(cO rfl rfl (lb rfl) (svaB hA rfl rfl) (agr hA rfl rfl) rfl hx82)) ?_
     exact .nil
    refine tO rfl (and_ff hx82) ?_
    refine aT ?_
    refine aJ ⟨a3,(fun i=>i),⟨(.sames rfl rfl),(.cons (.blk rfl rfl rfl) (.cons (.blk rfl rfl rfl) (.cons (.blk rfl rfl rfl) (.cons (EntW.lst rfl) (.cons (EntW.lst rfl) .nil))))),bE [0,1,2,1000,1001] rfl (by decide),fun _ _=>rfl⟩,?_⟩
    exact h
  ·
   rintro v21 h
   unfold gJ at h
   refine aS ?_
   refine aC (aA rfl (faR 2 rfl rfl rfl Try.underlying32 rfl ti30 (lb rfl) rfl rfl) <|aA rfl (aH (d:=.osl _ _ _) rfl rfl (lb rfl) Try.underlying30 ag30 ti30 (by decide) (svR rfl) rfl (nle rfl) rfl) <|aA rfl (mM rfl rfl (lb rfl) Try.underlying30 (sv (d:=.osl _ _ _) rfl)) <|aA rfl (aE rfl rfl (lb rfl) (sv (d:=.int _ 0) rfl)) <|aD ?_)
   refine aV ?_
   refine bO (α:=Nat × Int × (List aF)) (fun z=>⟨[(2,.ref 0 0),(3,.ref 1 0),(4,.ref 2 0),(7,.int .i64 x9.1),(58,.int .i64 (v21.length : Int)),(59,.int .i64 z.2.1)],[(0,.blk 32 (w20 a0 a1 (.osl 1000 aB.sz z.2.2.length) (.osl 1001 (eInt .i64).sz a4.length))),(1,.blk 37 (w17 v5 a2.ID v6 v7 v8)),(2,.blk 32 (w16 0 0 ([] : List aF) ([] : List Int))),(1000,.blk 56 (D.flat (z.2.2.map aB.d))),(1001,.blk 3 (D.flat (a4.map (eInt .i64).d)))]⟩) (fun z=>fF a0 a1 a2 a4 v6 v7 v8 x9 v21 z.1 z.2.1 z.2.2 = some r) (fun z=>z.1) (fuel,0,v21) (fun i=>i) ⟨(.sames rfl rfl),(.cons (.blk rfl rfl rfl) (.cons (.blk rfl rfl rfl) (.cons (.blk rfl rfl rfl) (.cons (EntW.lst rfl) (.cons (EntW.lst rfl) .nil))))),bE [0,1,2,1000,1001] rfl (by decide),fun _ _=>rfl⟩ ?_ ?_
   ·exact h
   ·
    rintro ⟨n2,v36,v37⟩ h
    cases n2 with
    | zero=>exact absurd h (by unfold fF; exact nofun)
    | succ n2 =>
     unfold fF at h
     obtain ⟨x52,hx52,h⟩:=aN h
     refine aC (aA rfl (aL rfl rfl (lb rfl) (svI rfl) (svI rfl) rfl hx52) <|aD ?_)
     refine aS ?_
     refine aP (b:=_) rfl (fun hc53=>?_) (fun hc53=>?_)
     ·
      replace h:=bP h hc53
      refine aT ?_
      refine aJ ?_
      refine aS ?_
      refine aV ?_
      refine aC (aA rfl (mvI rfl rfl rfl rfl) <|aA rfl (asI rfl rfl rfl rfl) <|aD ?_)
      obtain ⟨x54,hx54,h⟩:=aO h
      refine aC (aA rfl (faR 2 rfl rfl rfl Try.underlying32 rfl ti30 (lb rfl) rfl rfl) <|aA rfl (aH (d:=.osl _ _ _) rfl rfl (lb rfl) Try.underlying30 ag30 ti30 (by decide) (svR rfl) rfl (nle rfl) rfl) <|aA rfl (mvI rfl rfl rfl rfl) <|aA rfl (bC aB.toEnc0 rfl rfl (lb rfl) Try.underlying30 ti56 (sv (d:=.osl _ _ _) rfl) rfl (svI rfl) hx54) <|aA rfl (aG rfl rfl (lb rfl) (svR rfl)) <|aD ?_)
      obtain ⟨x55,hx55,h⟩:=aO h
      obtain ⟨x56,hx56,h⟩:=aN h
      obtain ⟨x57,hx57,h⟩:=aN h
      obtain ⟨x58,hx58,h⟩:=aO h
      obtain ⟨x59,hx59,h⟩:=aN h
      obtain ⟨x60,hx60,h⟩:=aN h
      refine dE rfl [⟨[3],[],[(66,.ref 1 4)],[]⟩,
       ⟨[66],[1],[(67,.bool v8)],[]⟩,
       ⟨[67],[],[(68,.bool v8)],[]⟩,
       ⟨[10,68],[],[(69,.cnd (v8 == true) (.ref 1000 (((v36 : Int).toNat) * aB.sz + 0)))],[]⟩,
       ⟨[68,69],[],[(70,.cnd (v8 == true) (.ref 1000 (((v36 : Int).toNat) * aB.sz + 0)))],[]⟩,
       ⟨[68,70],[],[(71,.cnd (v8 == true) (.ref 1000 (((v36 : Int).toNat) * aB.sz + 1)))],[]⟩,
       ⟨[68,71],[1000],[(72,.cnd (v8 == true) (.int .i64 x55.Parent))],[]⟩,
       ⟨[3,68],[],[(73,.cnd (v8 == true) (.ref 1 2))],[]⟩,
       ⟨[68,73],[1],[(74,.cnd (v8 == true) (.int .i64 v6))],[]⟩,
       ⟨[68,72,74],[],[(75,.cnd (v8 == true) (.bool x56))],[]⟩,
       ⟨[68,75],[],[(76,.bool x57)],[]⟩,
       ⟨[76],[],[(77,.bool x57)],[]⟩,
       ⟨[10,77],[],[(78,.cnd (x57 == true) (.ref 1000 (((v36 : Int).toNat) * aB.sz + 0)))],[]⟩,
       ⟨[77,78],[],[(79,.cnd (x57 == true) (.ref 1000 (((v36 : Int).toNat) * aB.sz + 0)))],[]⟩,
       ⟨[77,79],[],[(80,.cnd (x57 == true) (.ref 1000 (((v36 : Int).toNat) * aB.sz + 0)))],[]⟩,
       ⟨[77,80],[1000],[(81,.cnd (x57 == true) (.int .i64 x58.ID))],[]⟩,
       ⟨[3,77],[],[(82,.cnd (x57 == true) (.ref 1 1))],[]⟩,
       ⟨[77,82],[1],[(83,.cnd (x57 == true) (.int .i64 a2.ID))],[]⟩,
       ⟨[77,81,83],[],[(84,.cnd (x57 == true) (.bool x59))],[]⟩,
       ⟨[77,84],[],[(85,.bool x60)],[]⟩] rfl ?_ (by kernel_rfl) ?_
      ·refine .cons (lop rfl rfl fun S hA=>(aR rfl rfl (lb rfl) Try.underlying37 rfl ti4 (by decide) (svaR hA rfl rfl) (off':=4) rfl)) ?_
       refine .cons (lop rfl rfl fun S hA=>(aH (d:=.bool _) rfl rfl (lb rfl) Try.underlying4 ag4 ti4 (by decide) (svaR hA rfl rfl) (agi hA rfl rfl) (nle rfl) rfl)) ?_
       refine .cons (lop rfl rfl fun S hA=>(aE rfl rfl (lb rfl) (svaB hA rfl rfl))) ?_
       refine .cons (lopg rfl rfl rfl rfl (by decide) (fun S hA=>grd1 hA rfl rfl) (fun S hA hb=>(aE rfl rfl (lb rfl) (svaR hA rfl rfl)))) ?_
       refine .cons (lopg rfl rfl rfl rfl (by decide) (fun S hA=>grd1 hA rfl rfl) (fun S hA hb=>(cT rfl rfl (lb rfl) (svc (d:=.ref _ _) (agr hA rfl rfl) hb)))) ?_
       refine .cons (lopg rfl rfl rfl rfl (by decide) (fun S hA=>grd1 hA rfl rfl) (fun S hA hb=>(gT rfl rfl (lb rfl) Try.underlying56 rfl ti3 (by decide) (svc (d:=.ref _ _) (agr hA rfl rfl) hb) (k':=1) rfl))) ?_
       refine .cons (lopg rfl rfl rfl rfl (by decide) (fun S hA=>grd1 hA rfl rfl) (fun S hA hb=>(bD aB.toEnc0 (d:=.int _ _) rfl rfl (lb rfl) Try.underlying3 ag3 ti3 (by decide) (svc (d:=.ref _ _) (agr hA rfl rfl) hb) (agi hA rfl rfl) (gd_t hx55 hb) (nle rfl) rfl))) ?_
       refine .cons (lopg rfl rfl rfl rfl (by decide) (fun S hA=>grd1 hA rfl rfl) (fun S hA hb=>(aR rfl rfl (lb rfl) Try.underlying37 rfl ti3 (by decide) (svaR hA rfl rfl) (off':=2) rfl))) ?_
       refine .cons (lopg rfl rfl rfl rfl (by decide) (fun S hA=>grd1 hA rfl rfl) (fun S hA hb=>(aH (d:=.int _ _) rfl rfl (lb rfl) Try.underlying3 ag3 ti3 (by decide) (svc (d:=.ref _ _) (agr hA rfl rfl) hb) (agi hA rfl rfl) (nle rfl) rfl))) ?_
       refine .cons (lopg rfl rfl rfl rfl (by decide) (fun S hA=>grd1 hA rfl rfl) (fun S hA hb=>(aL rfl rfl (lb rfl) (svc (d:=.int _ _) (agr hA rfl rfl) hb) (svc (d:=.int _ _) (agr hA rfl rfl) hb) rfl hx56))) ?_
       refine .cons (lop rfl rfl fun S hA=>(cO rfl rfl (lb rfl) (svaB hA rfl rfl) (agr hA rfl rfl) rfl hx57)) ?_
       refine .cons (lop rfl rfl fun S hA=>(aE rfl rfl (lb rfl) (svaB hA rfl rfl))) ?_
       refine .cons (lopg rfl rfl rfl rfl (by decide) (fun S hA=>grd1 hA rfl rfl) (fun S hA hb=>(aE rfl rfl (lb rfl) (svaR hA rfl rfl)))) ?_
       refine .cons (lopg rfl rfl rfl rfl (by decide) (fun S hA=>grd1 hA rfl rfl) (fun S hA hb=>(cT rfl rfl (lb rfl) (svc (d:=.ref _ _) (agr hA rfl rfl) hb)))) ?_
       refine .cons (lopg rfl rfl rfl rfl (by decide) (fun S hA=>grd1 hA rfl rfl) (fun S hA hb=>(gT rfl rfl (lb rfl) Try.underlying56 rfl ti3 (by decide) (svc (d:=.ref _ _) (agr hA rfl rfl) hb) (k':=0) rfl))) ?_
       refine .cons (lopg rfl rfl rfl rfl (by decide) (fun S hA=>grd1 hA rfl rfl) (fun S hA hb=>(bD aB.toEnc0 (d:=.int _ _) rfl rfl (lb rfl) Try.underlying3 ag3 ti3 (by decide) (svc (d:=.ref _ _) (agr hA rfl rfl) hb) (agi hA rfl rfl) (gd_t hx58 hb) (nle rfl) rfl))) ?_
       refine .cons (lopg rfl rfl rfl rfl (by decide) (fun S hA=>grd1 hA rfl rfl) (fun S hA hb=>(aR rfl rfl (lb rfl) Try.underlying37 rfl ti3 (by decide) (svaR hA rfl rfl) (off':=1) rfl))) ?_
       refine .cons (lopg rfl rfl rfl rfl (by decide) (fun S hA=>grd1 hA rfl rfl) (fun S hA hb=>(aH (d:=.int _ _) rfl rfl (lb rfl) Try.underlying3 ag3 ti3 (by decide) (svc (d:=.ref _ _) (agr hA rfl rfl) hb) (agi hA rfl rfl) (nle rfl) rfl))) ?_
       refine .cons (lopg rfl rfl rfl rfl (by decide) (fun S hA=>grd1 hA rfl rfl) (fun S hA hb=>(aL rfl rfl (lb rfl) (svc (d:=.int _ _) (agr hA rfl rfl) hb) (svc (d:=.int _ _) (agr hA rfl rfl) hb) rfl hx59))) ?_
       refine .cons (lop rfl rfl fun S hA=>(cO rfl rfl (lb rfl) (svaB hA rfl rfl) (agr hA rfl rfl) rfl hx60)) ?_
       exact .nil
      refine aP (b:=_) rfl (fun hc61=>?_) (fun hc61=>?_)
      ·
       replace h:=bP h hc61
       obtain ⟨x62,hx62,h⟩:=aO h
       obtain ⟨x63,hx63,h⟩:=aN h
       refine aU (aA rfl (mvR rfl rfl rfl rfl) <|aA rfl (faR 1 rfl rfl rfl Try.underlying37 rfl ti3 (lb rfl) rfl rfl) <|aA rfl (aH (d:=.int _ _) rfl rfl (lb rfl) Try.underlying3 ag3 ti3 (by decide) (svR rfl) rfl (nle rfl) rfl) <|aA rfl (cT rfl rfl (lb rfl) (svR rfl)) <|aA rfl (gT rfl rfl (lb rfl) Try.underlying56 rfl ti3 (by decide) (svR rfl) (k':=1) rfl) <|aA rfl (cJ aB.toEnc0 (a':=(⟨x62.ID,a2.ID,x62.Weight,x62.Closed⟩ : aF)) rfl rfl ti3 (svR rfl) rfl (svI rfl) rfl rfl rfl hx62 (nle rfl) rfl hx63) <|bI ?_)
       refine bJ ?_
       refine aJ ?_
       obtain ⟨x64,hx64,h⟩:=aN h
       refine aU (aA rfl (aQ rfl rfl (lb rfl) (svI rfl) (sv (d:=.int _ 1) rfl) rfl hx64) <|aA rfl (mvI rfl rfl rfl rfl) <|bI ?_)
       refine aJ ⟨(n2,x64,x63),(fun i=>i),⟨(.sames rfl rfl),(.cons (.blk rfl (by rw [← (dO hx63 rfl)]; rfl) rfl) (.cons (.blk rfl rfl rfl) (.cons (.blk rfl rfl rfl) (.cons (EntW.lst rfl) (.cons (EntW.lst rfl) .nil))))),bE [0,1,2,1000,1001] rfl (by decide),fun _ _=>rfl⟩,?_,?_⟩
       exact h
       exact Nat.lt_succ_self _
      ·
       replace h:=bQ h hc61
       refine aT ?_
       refine bJ ?_
       refine aJ ?_
       obtain ⟨x65,hx65,h⟩:=aN h
       refine aU (aA rfl (aQ rfl rfl (lb rfl) (svI rfl) (sv (d:=.int _ 1) rfl) rfl hx65) <|aA rfl (mvI rfl rfl rfl rfl) <|bI ?_)
       refine aJ ⟨(n2,x65,v37),(fun i=>i),⟨(.sames rfl rfl),(.cons (.blk rfl rfl rfl) (.cons (.blk rfl rfl rfl) (.cons (.blk rfl rfl rfl) (.cons (EntW.lst rfl) (.cons (EntW.lst rfl) .nil))))),bE [0,1,2,1000,1001] rfl (by decide),fun _ _=>rfl⟩,?_,?_⟩
       exact h
       exact Nat.lt_succ_self _
     ·
      replace h:=bQ h hc53
      refine bY ?_
      refine bB ?_
      refine bB ?_
      refine bZ ?_
      refine aJ ?_
      obtain ⟨x66,hx66,h⟩:=aO h
      obtain ⟨x67,hx67,h⟩:=aO h
      obtain ⟨x68,hx68,h⟩:=aN h
      obtain ⟨x69,hx69,h⟩:=aO h
      obtain ⟨x70,hx70,h⟩:=aO h
      obtain ⟨x71,hx71,h⟩:=aN h
      refine dE rfl [⟨[2],[],[(92,.ref 0 2)],[]⟩,
       ⟨[92],[0],[(93,.osl 1000 aB.sz v37.length)],[]⟩,
       ⟨[7],[],[(94,.int .i64 x9.1)],[]⟩,
       ⟨[2],[],[(95,.ref 0 2)],[]⟩,
       ⟨[95],[0],[(96,.osl 1000 aB.sz v37.length)],[]⟩,
       ⟨[7],[],[(97,.int .i64 x9.1)],[]⟩,
       ⟨[3],[],[(98,.ref 1 2)],[]⟩,
       ⟨[98],[1],[(99,.int .i64 v6)],[]⟩,
       ⟨[3],[],[(100,.ref 1 3)],[]⟩,
       ⟨[100],[1],[(101,.int .i64 v7)],[]⟩,
       ⟨[93,94],[],[(102,.ref 1000 (((x9.1 : Int).toNat) * aB.sz + 0))],[]⟩,
       ⟨[102],[],[(103,.ref 1000 (((x9.1 : Int).toNat) * aB.sz + 1))],[]⟩,
       ⟨[99,103],[1000],[],[(1000,.blk 56 (D.flat (x68.map aB.d)))]⟩,
       ⟨[96,97],[],[(104,.ref 1000 (((x9.1 : Int).toNat) * aB.sz + 0))],[]⟩,
       ⟨[104],[],[(105,.ref 1000 (((x9.1 : Int).toNat) * aB.sz + 2))],[]⟩,
       ⟨[101,105],[1000],[],[(1000,.blk 56 (D.flat (x71.map aB.d)))]⟩] rfl ?_ (by kernel_rfl) ?_
      ·refine .cons (lop rfl rfl fun S hA=>(aR rfl rfl (lb rfl) Try.underlying32 rfl ti30 (by decide) (svaR hA rfl rfl) (off':=2) rfl)) ?_
       refine .cons (lop rfl rfl fun S hA=>(aH (d:=.osl _ _ _) rfl rfl (lb rfl) Try.underlying30 ag30 ti30 (by decide) (svaR hA rfl rfl) (agi hA rfl rfl) (nle rfl) rfl)) ?_
       refine .cons (lop rfl rfl fun S hA=>(aE rfl rfl (lb rfl) (svaI hA rfl rfl))) ?_
       refine .cons (lop rfl rfl fun S hA=>(aR rfl rfl (lb rfl) Try.underlying32 rfl ti30 (by decide) (svaR hA rfl rfl) (off':=2) rfl)) ?_
       refine .cons (lop rfl rfl fun S hA=>(aH (d:=.osl _ _ _) rfl rfl (lb rfl) Try.underlying30 ag30 ti30 (by decide) (svaR hA rfl rfl) (agi hA rfl rfl) (nle rfl) rfl)) ?_
       refine .cons (lop rfl rfl fun S hA=>(aE rfl rfl (lb rfl) (svaI hA rfl rfl))) ?_
       refine .cons (lop rfl rfl fun S hA=>(aR rfl rfl (lb rfl) Try.underlying37 rfl ti3 (by decide) (svaR hA rfl rfl) (off':=2) rfl)) ?_
       refine .cons (lop rfl rfl fun S hA=>(aH (d:=.int _ _) rfl rfl (lb rfl) Try.underlying3 ag3 ti3 (by decide) (svaR hA rfl rfl) (agi hA rfl rfl) (nle rfl) rfl)) ?_
       refine .cons (lop rfl rfl fun S hA=>(aR rfl rfl (lb rfl) Try.underlying37 rfl ti3 (by decide) (svaR hA rfl rfl) (off':=3) rfl)) ?_
       refine .cons (lop rfl rfl fun S hA=>(aH (d:=.int _ _) rfl rfl (lb rfl) Try.underlying3 ag3 ti3 (by decide) (svaR hA rfl rfl) (agi hA rfl rfl) (nle rfl) rfl)) ?_
       refine .cons (lop rfl rfl fun S hA=>(bC aB.toEnc0 rfl rfl (lb rfl) Try.underlying30 ti56 (sv (d:=.osl _ _ _) (agr hA rfl rfl)) rfl (svaI hA rfl rfl) hx66)) ?_
       refine .cons (lop rfl rfl fun S hA=>(gT rfl rfl (lb rfl) Try.underlying56 rfl ti3 (by decide) (svaR hA rfl rfl) (k':=1) rfl)) ?_
       refine .cons (lop rfl rfl fun S hA=>(cJ aB.toEnc0 (a':=(⟨x67.ID,v6,x67.Weight,x67.Closed⟩ : aF)) rfl rfl ti3 (svaR hA rfl rfl) (agi hA rfl rfl) (svaI hA rfl rfl) rfl rfl rfl hx67 (nle rfl) rfl hx68)) ?_
       refine .cons (lop rfl rfl fun S hA=>(bC aB.toEnc0 rfl rfl (lb rfl) Try.underlying30 ti56 (sv (d:=.osl _ _ _) (agr hA rfl rfl)) (dO hx68 rfl) (svaI hA rfl rfl) hx69)) ?_
       refine .cons (lop rfl rfl fun S hA=>(gT rfl rfl (lb rfl) Try.underlying56 rfl ti3 (by decide) (svaR hA rfl rfl) (k':=2) rfl)) ?_
       refine .cons (lop rfl rfl fun S hA=>(cJ aB.toEnc0 (a':=(⟨x70.ID,x70.Parent,v7,x70.Closed⟩ : aF)) rfl rfl ti3 (svaR hA rfl rfl) (agi hA rfl rfl) (svaI hA rfl rfl) rfl rfl rfl hx70 (nle rfl) rfl hx71)) ?_
       exact .nil
      refine aC (aA rfl (lra q7 la32 rfl rfl rfl rfl rfl (nle rfl) rfl) <|aA rfl (stA q7 q7 ti32 rfl rfl rfl rfl rfl rfl rfl rfl (nle rfl) rfl) <|aD ?_)
      refine aW ?_
      obtain rfl:=Option.some.inj h
      refine ⟨.inr rfl,(fun i=>if i = 0 then 1000 else if i = 1 then 1001 else i),⟨.nil,(.cons (EntW.lst rfl) (.cons (EntW.lst rfl) .nil)),bE [1000,1001] rfl (by decide),(fun i hi=>by first | rfl | (show (if _ then _ else _) = _; (repeat' split) <;> omega))⟩,(.cons (rva la32 rfl rfl (nle rfl) (by rw [← (dO hx71 (dO hx68 rfl))]; rfl)) .nil),rfl⟩

set_option maxRecDepth 8000 in
set_option maxHeartbeats 4000000 in
theorem lH (a0 : Int) (a1 : Int) (a2 : List aF) (r : List aF) (h : fD a0 a1 a2 = some r) : FnH Try.prog 65 [.osl 1000 aB.sz a2.length,.int .i64 a0,.int .i64 a1] [(1000,.blk 56 (D.flat (a2.map aB.d)))] (.osl 0 aB.sz r.length) [(0,.blk 56 (D.flat (r.map aB.d)))]:=by
 replace h : delS a2 a0 a1 = some r:=h
 obtain ⟨i,j,rfl,rfl,hij,hj,hr⟩:=delS_e h
 have hX:=aB.toEnc0.flat_len a2
 refine eC (rs:=[.osl 0 aB.sz r.length]) Try.func65 rfl Try.ntmps65 (nle rfl) fun O hO=>?_
 show IWP _ _ _ _ ⟨[(0,.osl 1000 aB.sz a2.length),(1,.int .i64 (i : Int)),(2,.int .i64 (j : Int))],[(1000,.blk 56 (D.flat (a2.map aB.d)))]⟩ _
 refine uD 0 (id:=1000) (sz:=aB.sz) (n:=a2.length) rfl rfl hX (fun hn=>?_) (fun c hc hcm=>?_)
 ·obtain rfl:=List.length_eq_zero_iff.1 hn
  obtain rfl : j = 0:=by simpa using hj
  obtain rfl : i = 0:=by omega
  refine aC (aA rfl (aG rfl rfl (lb rfl) (sv (d:=.nils) rfl)) <| aD ?_)
  refine aC (aA rfl (aE rfl rfl (lb rfl) (sv (d:=.nils) rfl)) <| aA rfl (mvI rfl rfl rfl rfl) <| aA rfl (mvI rfl rfl rfl rfl) <| aA rfl (aE rfl rfl (lb rfl) (sv (d:=.nils) rfl)) <|aA rfl (cG aB (l:=[]) (b:=false) rfl rfl (lb rfl) Try.underlying30 (svn rfl)) <|aA rfl (sW rfl rfl (lb rfl) Try.underlying30 ti56 (sv (d:=.nils) rfl) (svI rfl) (svI rfl) (svI rfl)) <| aD ?_)
  refine aS ?_
  refine aC (aA rfl (mvI rfl rfl rfl rfl) <| aA rfl (mvI rfl rfl rfl rfl) <| aA rfl (aL rfl rfl (lb rfl) (svI rfl) (svI rfl) rfl rfl) <| aD ?_)
  refine rK rfl rfl ?_
  have hr' : [] = r:=by simpa using hr
  subst hr'
  refine aC (aA rfl (aE rfl rfl (lb rfl) (sv (d:=.nils) rfl)) <| aA rfl (aG rfl rfl (lb rfl) (sv (d:=.nils) rfl)) <| aD ?_)
  refine aW ?_
  refine bA ?_
  refine ⟨.inr rfl,(fun i=>if i = 0 then 50 else i),⟨.nil,(.cons (.nilb rfl) .nil),bE [50] rfl (by decide),(fun i hi=>by first | rfl | (show (if _ then _ else _) = _; (repeat' split) <;> omega))⟩,(.cons (svno rfl) .nil),rfl⟩
 ·refine aC (aA rfl (aG rfl rfl (lb rfl) (sv (d:=.nils) rfl)) <| aD ?_)
  refine aC (aA rfl (aE rfl rfl (lb rfl) (sv (d:=.rsl _ _ _ _ _) rfl)) <| aA rfl (mvI rfl rfl rfl rfl) <| aA rfl (mvI rfl rfl rfl rfl) <| aA rfl (aE rfl rfl (lb rfl) (sv (d:=.rsl _ _ _ _ _) rfl)) <|aA rfl (oO rfl rfl (lb rfl) Try.underlying30 (sv (d:=.rsl _ _ _ _ _) rfl) rfl) <|aA rfl (fP (sz:=aB.sz) (l:=(i : Int)) (h:=(j : Int)) (m:=(a2.length : Int)) rfl rfl (lb rfl) Try.underlying30 ti56 (sv (d:=.rsl _ _ _ _ _) rfl) ⟨_,(svI rfl)⟩ ⟨_,(svI rfl)⟩ ⟨_,(svI rfl)⟩ (by simp) (by omega) (by omega) (by omega) (by omega) rfl) <| aD ?_)
  refine aS ?_
  refine aC (aA rfl (mvI rfl rfl rfl rfl) <| aA rfl (mvI rfl rfl rfl rfl) <| aA rfl (aL rfl rfl (lb rfl) (svI rfl) (svI rfl) rfl rfl) <| aD ?_)
  refine aP (b:=_) rfl (fun h1=>?_) (fun h1=>?_)
  ·have h2:=of_decide_eq_true h1
   obtain rfl : i = j:=by omega
   have hr' : a2 = r:=by simpa using hr
   subst hr'
   refine aC (aA rfl (aE rfl rfl (lb rfl) (sv (d:=.rsl _ _ _ _ _) rfl)) <| aA rfl (aG rfl rfl (lb rfl) (sv (d:=.rsl _ _ _ _ _) rfl)) <| aD ?_)
   refine pH 6 (id:=1000) rfl rfl hX ?_
   refine aW ?_
   refine bA ?_
   refine ⟨.inr rfl,(fun i=>if i = 0 then 1000 else i),⟨.nil,(.cons (EntW.lst rfl) .nil),bE [1000] rfl (by decide),(fun i hi=>by first | rfl | (show (if _ then _ else _) = _; (repeat' split) <;> omega))⟩,(.cons (sv rfl) .nil),rfl⟩
  ·have h2:=of_decide_eq_false h1
   have hlt : i < j:=by omega
   obtain ⟨J,hJ⟩ : ∃ J,J = List.replicate ((c - a2.length) * aB.sz) D.dead:=⟨_,rfl⟩
   have hXd : (D.flat ((a2.drop j).map aB.d)).length = (a2.length - j) * aB.sz:=by rw [aB.toEnc0.flat_len,List.length_drop]
   have hXt : (D.flat ((a2.take i).map aB.d)).length = i * aB.sz:=by rw [aB.toEnc0.flat_len,List.length_take,Nat.min_eq_left (by omega)]
   have hrl : r.length = i + (a2.length - j):=by rw [← hr,List.length_append,List.length_take,List.length_drop,Nat.min_eq_left (by omega)]
   have hR : D.flat (r.map aB.d) = D.flat ((a2.take i).map aB.d) ++ D.flat ((a2.drop j).map aB.d):=by rw [← hr,aB.toEnc0.flat_append]
   have hRl : (D.flat (r.map aB.d)).length = (i + (a2.length - j)) * aB.sz:=by rw [aB.toEnc0.flat_len,hrl]
   have hfitj : j * aB.sz + (a2.length - j) * aB.sz = a2.length * aB.sz:=by rw [← Nat.add_mul]; congr 1; omega
   have hfiti : (i + (a2.length - j)) * aB.sz ≤ a2.length * aB.sz:=Nat.mul_le_mul_right _ (by omega)
   rw [← hJ]
   have hD0 : (D.flat (a2.map aB.d) ++ J).length = a2.length * aB.sz + J.length:=by rw [List.length_append,hX]
   obtain ⟨es,hes⟩ : ∃ es,es = ((D.flat (a2.map aB.d) ++ J).drop (j * aB.sz)).take ((a2.length - j) * aB.sz):=⟨_,rfl⟩
   have hes' : es = D.flat ((a2.drop j).map aB.d):=by
    rw [hes,List.drop_append_of_le_length (by rw [hX]; exact Nat.mul_le_mul_right _ hj),aB.toEnc0.flat_drop,List.take_append_of_le_length (by rw [hXd]; exact Nat.le_refl _),← hXd,List.take_length]
   obtain ⟨Z,hZ⟩ : ∃ Z,iE (D.flat (a2.map aB.d) ++ J) (i * aB.sz) es = D.flat (r.map aB.d) ++ Z:=by
    refine ⟨(D.flat ((a2.drop i).map aB.d) ++ J).drop es.length,?_⟩
    rw [tS aB.toEnc0 a2 i,List.append_assoc,tM hXt,hR,hes',List.append_assoc]
   have hZl : (D.flat (r.map aB.d) ++ Z).length = a2.length * aB.sz + J.length:=by
    rw [← hZ,pR (by rw [hD0,hes',hXd,← Nat.add_mul]; omega),hD0]
   refine aT ?_
   refine aJ ?_
   refine aC (aA rfl (aE rfl rfl (lb rfl) (sv (d:=.rsl _ _ _ _ _) rfl)) <| aA rfl (oO rfl rfl (lb rfl) Try.underlying30 (sv (d:=.rsl _ _ _ _ _) rfl) rfl) <| aA rfl (asI rfl rfl rfl rfl) <| aD ?_)
   refine dE rfl [⟨[0],[],[(20,.rsl 1000 aB.sz 0 a2.length c)],[]⟩,⟨[1],[],[(21,.int .i64 (i : Int))],[]⟩,⟨[20,21],[],[(22,.rsl 1000 aB.sz 0 i c)],[]⟩,⟨[0],[],[(23,.rsl 1000 aB.sz 0 a2.length c)],[]⟩,⟨[2],[],[(24,.int .i64 (j : Int))],[]⟩,
    ⟨[23,24],[],[(25,.rsl 1000 aB.sz (j * aB.sz) (a2.length - j) (c - j))],[]⟩,⟨[22,25],[1000],[(26,.rsl 1000 aB.sz 0 (i + (a2.length - j)) c)],[(1000,.blk 56 (D.flat (r.map aB.d) ++ Z))]⟩,⟨[26],[],[(0,.rsl 1000 aB.sz 0 (i + (a2.length - j)) c)],[]⟩] rfl ?_ (by kernel_rfl) ?_
   ·refine .cons (lop rfl rfl fun S hA=>(aE rfl rfl (lb rfl) (sv (d:=.rsl _ _ _ _ _) (agr hA rfl rfl)))) ?_
    refine .cons (lop rfl rfl fun S hA=>(aE rfl rfl (lb rfl) (svaI hA rfl rfl))) ?_
    refine .cons (lop rfl rfl fun S hA=>(fP (sz:=aB.sz) (l:=0) (h:=(i : Int)) (m:=(c : Int)) (d:=.rsl 1000 aB.sz 0 i c) rfl rfl (lb rfl) Try.underlying30 ti56 (sv (d:=.rsl _ _ _ _ _) (agr hA rfl rfl)) rfl ⟨_,(svaI hA rfl rfl)⟩ rfl (by simp) (by omega) (by omega) (by omega) (by omega) (by simp only [Int.toNat_natCast,Int.toNat_zero,Nat.zero_mul,Nat.zero_add,Nat.sub_zero]))) ?_
    refine .cons (lop rfl rfl fun S hA=>(aE rfl rfl (lb rfl) (sv (d:=.rsl _ _ _ _ _) (agr hA rfl rfl)))) ?_
    refine .cons (lop rfl rfl fun S hA=>(aE rfl rfl (lb rfl) (svaI hA rfl rfl))) ?_
    refine .cons (lop rfl rfl fun S hA=>(fP (sz:=aB.sz) (l:=(j : Int)) (h:=(a2.length : Int)) (m:=(c : Int)) (d:=.rsl 1000 aB.sz (j * aB.sz) (a2.length - j) (c - j)) rfl rfl (lb rfl) Try.underlying30 ti56 (sv (d:=.rsl _ _ _ _ _) (agr hA rfl rfl)) ⟨_,(svaI hA rfl rfl)⟩ rfl rfl (by simp) (by omega) (by omega) (by omega) (by omega) (by simp only [Int.toNat_natCast,Nat.zero_add]))) ?_
    refine .cons (lop rfl rfl fun S hA=>(vL (sz:=aB.sz) (m:=a2.length - j) (es:=es) (ds':=D.flat (r.map aB.d) ++ Z) (d:=.rsl 1000 aB.sz 0 (i + (a2.length - j)) c) rfl rfl (lb rfl) Try.underlying30 ti56 (sv (d:=.rsl _ _ _ _ _) (agr hA rfl rfl)) (agi hA rfl rfl) (hes ▸ vZ (sv (d:=.rsl _ _ _ _ _) (agr hA rfl rfl)) (agi hA rfl rfl) (by rw [hD0,hfitj]; exact Nat.le_add_right _ _)) (by rw [hes',hXd]) (by rw [hes']; exact aB.toEnc0.one _) (by omega) (by rw [hD0]; exact Nat.le_trans hfiti (Nat.le_add_right _ _)) hZ rfl)) ?_
    refine .cons (lop rfl rfl fun S hA=>(aG rfl rfl (lb rfl) (sv (d:=.rsl _ _ _ _ _) (agr hA rfl rfl)))) ?_
    exact .nil
   ·refine aC (aA rfl (aE rfl rfl (lb rfl) (sv (d:=.rsl _ _ _ _ _) rfl)) <| aA rfl (aE rfl rfl (lb rfl) (sv (d:=.rsl _ _ _ _ _) rfl)) <| aA rfl (oO rfl rfl (lb rfl) Try.underlying30 (sv (d:=.rsl _ _ _ _ _) rfl) rfl) <| aA rfl (mvI rfl rfl rfl rfl) <|aA rfl (fP (sz:=aB.sz) (l:=((i + (a2.length - j) : Nat) : Int)) (h:=(a2.length : Int)) (m:=(c : Int)) (d:=.rsl 1000 aB.sz ((i + (a2.length - j)) * aB.sz) (a2.length - (i + (a2.length - j))) (c - (i + (a2.length - j)))) rfl rfl (lb rfl) Try.underlying30 ti56 (sv (d:=.rsl _ _ _ _ _) rfl) ⟨_,(svI rfl)⟩ ⟨_,(svI rfl)⟩ rfl (by simp) (by omega) (by omega) (by omega) (by omega) (by simp only [Int.toNat_natCast,Nat.zero_add])) <|aA rfl (qP (sz:=aB.sz) rfl rfl Try.underlying30 ti56 rfl rfl (sv (d:=.rsl _ _ _ _ _) rfl) rfl (by rw [hZl,← Nat.add_mul,show i + (a2.length - j) + (a2.length - (i + (a2.length - j))) = a2.length by omega]; exact Nat.le_add_right _ _) (tM hRl)) <| aD ?_)
    refine aC (aA rfl (aE rfl rfl (lb rfl) (sv (d:=.rsl _ _ _ _ _) rfl)) <| aA rfl (aG rfl rfl (lb rfl) (sv (d:=.rsl _ _ _ _ _) rfl)) <| aD ?_)
    refine pH 6 (id:=1000) rfl rfl hRl ?_
    refine aW ?_
    refine ⟨.inr rfl,(fun i=>if i = 0 then 1000 else i),⟨.nil,(.cons (EntW.lst rfl) .nil),bE [1000] rfl (by decide),(fun i hi=>by first | rfl | (show (if _ then _ else _) = _; (repeat' split) <;> omega))⟩,(.cons (sv (congrArg (D.osl _ _) hrl.symm)) .nil),rfl⟩

theorem oS (a0 : aK) (a1 : Int) (r : Int) (h : lS a0 a1 = some r) : dP Try.prog 58 [.agg (v0 a0),.int .i64 a1] (.int .i64 r):=by
 refine bG (rs:=[.int .i64 r]) Try.func58 rfl Try.ntmps58 (nle rfl) rfl fun O hO=>?_
 show IWP _ _ _ _ ⟨[(0,.agg (v0 a0)),(1,.int .i64 a1)],[]⟩ _
 unfold lS at h
 refine aC (aA rfl (cK (cs:=q5) 0 rfl rfl (lb rfl) rfl (svA q5 rfl) rfl rfl) <|aA rfl (aG rfl rfl (lb rfl) (sv (d:=.int _ 0) rfl)) <|aD ?_)
 refine aC (aA rfl (aG rfl rfl (lb rfl) (sv (d:=.int _ 0) rfl)) <|aD ?_)
 refine aS ?_
 refine aC (aA rfl (faR 2 rfl rfl rfl Try.underlying32 rfl ti30 (lb rfl) rfl rfl) <|aA rfl (lrL la30 rfl rfl rfl rfl rfl (nle rfl) rfl) <|aA rfl (cG aB (l:=a0.Nodes) rfl rfl (lb rfl) Try.underlying30 (svL rfl)) <|aA rfl (aE rfl rfl (lb rfl) (sv (d:=.int _ 0) rfl)) <|aD ?_)
 refine aV ?_
 refine bO (α:=Nat × Int × Int) (fun z=>⟨[(1,.int .i64 a1),(5,.int .i64 z.2.1),(9,.slice false (a0.Nodes.map aB.d)),(10,.int .i64 (a0.Nodes.length : Int)),(11,.int .i64 z.2.2)],[]⟩) (fun z=>gH a0 a1 z.1 z.2.1 z.2.2 = some r) (fun z=>z.1) (fuel,0,0) (fun i=>i) ⟨(.sames rfl rfl),.nil,bE [] rfl (by decide),fun _ _=>rfl⟩ ?_ ?_
 ·exact h
 ·
  rintro ⟨n0,v9,v10⟩ h
  cases n0 with
  | zero=>exact absurd h (by unfold gH; exact nofun)
  | succ n0 =>
   unfold gH at h
   obtain ⟨x19,hx19,h⟩:=aN h
   refine aC (aA rfl (aL rfl rfl (lb rfl) (svI rfl) (svI rfl) rfl hx19) <|aD ?_)
   refine aS ?_
   refine aP (b:=_) rfl (fun hc20=>?_) (fun hc20=>?_)
   ·
    replace h:=bP h hc20
    refine aT ?_
    refine aJ ?_
    refine aS ?_
    refine aV ?_
    obtain ⟨x21,hx21,h⟩:=aO h
    refine aC (aA rfl (bW aB (cs:=q9) rfl rfl (lb rfl) Try.underlying30 ti56 (svL rfl) (svI rfl) hx21 rfl rfl) <|aA rfl (eH (cs:=q9) rfl rfl (lb rfl) Try.underlying56 ag56 ti56 (by decide) (sv (d:=.fptr q9) rfl) (nle rfl) rfl) <|aA rfl (bX (cs:=q9) (cs':=(w18 0 0 0 false)) 0 rfl rfl (lb rfl) rfl ti56 rfl rfl (.all _)) <|aA rfl (stA q9 q9 ti56 rfl rfl rfl rfl rfl rfl rfl rfl (nle rfl) rfl) <|aD ?_)
    obtain ⟨x22,hx22,h⟩:=aN h
    refine aC (aA rfl (faR 1 rfl rfl rfl Try.underlying56 rfl ti3 (lb rfl) rfl rfl) <|aA rfl (aH (d:=.int _ _) rfl rfl (lb rfl) Try.underlying3 ag3 ti3 (by decide) (svR rfl) rfl (nle rfl) rfl) <|aA rfl (mvI rfl rfl rfl rfl) <|aA rfl (aL rfl rfl (lb rfl) (svI rfl) (svI rfl) rfl hx22) <|aD ?_)
    refine aP (b:=_) rfl (fun hc23=>?_) (fun hc23=>?_)
    ·
     replace h:=bP h hc23
     obtain ⟨x24,hx24,h⟩:=aN h
     refine aU (aA rfl (mvI rfl rfl rfl rfl) <|aA rfl (faR 2 rfl rfl rfl Try.underlying56 rfl ti3 (lb rfl) rfl rfl) <|aA rfl (aH (d:=.int _ _) rfl rfl (lb rfl) Try.underlying3 ag3 ti3 (by decide) (svR rfl) rfl (nle rfl) rfl) <|aA rfl (aQ rfl rfl (lb rfl) (svI rfl) (svI rfl) rfl hx24) <|aA rfl (asI rfl rfl rfl rfl) <|bI ?_)
     refine bJ ?_
     refine aJ ?_
     obtain ⟨x25,hx25,h⟩:=aN h
     refine aU (aA rfl (aQ rfl rfl (lb rfl) (svI rfl) (sv (d:=.int _ 1) rfl) rfl hx25) <|aA rfl (mvI rfl rfl rfl rfl) <|bI ?_)
     refine aJ ⟨(n0,x24,x25),(fun i=>i),⟨(.sames rfl rfl),.nil,bE [] rfl (by decide),fun _ _=>rfl⟩,?_,?_⟩
     exact h
     exact Nat.lt_succ_self _
    ·
     replace h:=bQ h hc23
     refine aT ?_
     refine bJ ?_
     refine aJ ?_
     obtain ⟨x26,hx26,h⟩:=aN h
     refine aU (aA rfl (aQ rfl rfl (lb rfl) (svI rfl) (sv (d:=.int _ 1) rfl) rfl hx26) <|aA rfl (mvI rfl rfl rfl rfl) <|bI ?_)
     refine aJ ⟨(n0,v9,x26),(fun i=>i),⟨(.sames rfl rfl),.nil,bE [] rfl (by decide),fun _ _=>rfl⟩,?_,?_⟩
     exact h
     exact Nat.lt_succ_self _
   ·
    replace h:=bQ h hc20
    refine bY ?_
    refine bB ?_
    refine bB ?_
    refine bZ ?_
    refine aJ ?_
    refine aC (aA rfl (mvI rfl rfl rfl rfl) <|aA rfl (asI rfl rfl rfl rfl) <|aD ?_)
    refine aW ?_
    obtain rfl:=Option.some.inj h
    refine ⟨.inr rfl,(.cons (sv rfl) .nil)⟩

theorem nO (a0 : Int) (a1 : Int) (r : Bool) (h : kS a0 a1 = some r) : dP Try.prog 67 [.int .i64 a0,.fptr [.int .i64 a1]] (.bool r):=by
 refine bG (rs:=[.bool r]) Try.func67 rfl Try.ntmps67 (nle rfl) rfl fun O hO=>?_
 show IWP _ _ _ _ ⟨[(0,.int .i64 a0),(1,.fptr [.int .i64 a1])],[]⟩ _
 unfold kS at h
 refine aC (aA rfl (aG rfl rfl (lb rfl) (sv (d:=.bool false) rfl)) <|aD ?_)
 obtain ⟨x1,hx1,h⟩:=aN h
 refine aC (aA rfl (mvI rfl rfl rfl rfl) <|aA rfl (bU rfl rfl (lb rfl) Try.underlying3 ag3 ti3 (by decide) (sv (d:=.fptr [.int _ _]) rfl) (nle rfl)) <|aA rfl (aL rfl rfl (lb rfl) (svI rfl) (svI rfl) rfl hx1) <|aA rfl (asB rfl rfl rfl rfl) <|aD ?_)
 refine aW ?_
 obtain rfl:=Option.some.inj h
 refine ⟨.inr rfl,(.cons (sv rfl) .nil)⟩

theorem mH (a0 : (List Int)) (a1 : Int) (r : Int) (h : iT a0 a1 = some r) : dP Try.prog 78 [.slice false (a0.map (eInt .i64).d),.fn 67 [.fptr [.int .i64 a1]]] (.int .i64 r):=by
 refine bG (rs:=[.int .i64 r]) Try.func78 rfl Try.ntmps78 (nle rfl) rfl fun O hO=>?_
 show IWP _ _ _ _ ⟨[(0,.slice false (a0.map (eInt .i64).d)),(1,.fn 67 [.fptr [.int .i64 a1]])],[]⟩ _
 unfold iT at h
 refine aC (aA rfl (aG rfl rfl (lb rfl) (sv (d:=.int _ 0) rfl)) <|aD ?_)
 refine aS ?_
 refine aC (aA rfl (mvL rfl rfl rfl rfl) <|aA rfl (cG (eInt .i64) (l:=a0) rfl rfl (lb rfl) Try.underlying23 (svL rfl)) <|aA rfl (aE rfl rfl (lb rfl) (sv (d:=.int _ 0) rfl)) <|aD ?_)
 refine aV ?_
 refine bO (α:=Nat × Int) (fun z=>⟨[(0,.slice false (a0.map (eInt .i64).d)),(1,.fn 67 [.fptr [.int .i64 a1]]),(7,.int .i64 (a0.length : Int)),(8,.int .i64 z.2)],[]⟩) (fun z=>dR a0 a1 z.1 z.2 = some r) (fun z=>z.1) (fuel,0) (fun i=>i) ⟨(.sames rfl rfl),.nil,bE [] rfl (by decide),fun _ _=>rfl⟩ ?_ ?_
 ·exact h
 ·
  rintro ⟨n0,v7⟩ h
  cases n0 with
  | zero=>exact absurd h (by unfold dR; exact nofun)
  | succ n0 =>
   unfold dR at h
   obtain ⟨x14,hx14,h⟩:=aN h
   refine aC (aA rfl (aL rfl rfl (lb rfl) (svI rfl) (svI rfl) rfl hx14) <|aD ?_)
   refine aS ?_
   refine aP (b:=_) rfl (fun hc15=>?_) (fun hc15=>?_)
   ·
    replace h:=bP h hc15
    refine aT ?_
    refine aJ ?_
    refine aS ?_
    refine aV ?_
    refine aC (aA rfl (mvI rfl rfl rfl rfl) <|aA rfl (asI rfl rfl rfl rfl) <|aD ?_)
    obtain ⟨x16,hx16,h⟩:=aO h
    obtain ⟨x17,hx17,h⟩:=aO h
    refine aC (aA rfl (aE rfl rfl (lb rfl) (sv (d:=.fn 67 [.fptr [.int _ _]]) rfl)) <|aA rfl (mvL rfl rfl rfl rfl) <|aA rfl (mvI rfl rfl rfl rfl) <|aA rfl (bW (eInt .i64) (cs:=[.int _ _]) rfl rfl (lb rfl) Try.underlying23 ti3 (svL rfl) (svI rfl) hx16 rfl rfl) <|aA rfl (bU rfl rfl (lb rfl) Try.underlying3 ag3 ti3 (by decide) (sv (d:=.fptr [.int _ _]) rfl) (nle rfl)) <|aA rfl (qQ (r:=.bool _) rfl rfl (lb rfl) cl67 (sv (d:=.fn 67 [.fptr [.int _ _]]) rfl) (.cons (svI rfl) .nil) rfl (nO _ _ _ hx17)) <|aD ?_)
    refine aP (b:=_) rfl (fun hc18=>?_) (fun hc18=>?_)
    ·
     replace h:=bP h hc18
     refine aC (aA rfl (mvI rfl rfl rfl rfl) <|aA rfl (asI rfl rfl rfl rfl) <|aD ?_)
     refine aW ?_
     refine bN ?_
     refine bA ?_
     refine bA ?_
     refine bN ?_
     refine bA ?_
     obtain rfl:=Option.some.inj h
     refine ⟨.inr rfl,(.cons (sv rfl) .nil)⟩
    ·
     replace h:=bQ h hc18
     refine aT ?_
     refine bJ ?_
     refine aJ ?_
     obtain ⟨x19,hx19,h⟩:=aN h
     refine aU (aA rfl (aQ rfl rfl (lb rfl) (svI rfl) (sv (d:=.int _ 1) rfl) rfl hx19) <|aA rfl (mvI rfl rfl rfl rfl) <|bI ?_)
     refine aJ ⟨(n0,x19),(fun i=>i),⟨(.sames rfl rfl),.nil,bE [] rfl (by decide),fun _ _=>rfl⟩,?_,?_⟩
     exact h
     exact Nat.lt_succ_self _
   ·
    replace h:=bQ h hc15
    refine bY ?_
    refine bB ?_
    refine bB ?_
    refine bZ ?_
    refine aJ ?_
    refine aC (aA rfl (aG rfl rfl (lb rfl) (sv (d:=.int _ (-1)) rfl)) <|aD ?_)
    refine aW ?_
    obtain rfl:=Option.some.inj h
    refine ⟨.inr rfl,(.cons (sv rfl) .nil)⟩

theorem lV (a0 : (List Int)) (a1 : Int) (r : (List Int)) (h : eQ a0 a1 = some r) : FnH Try.prog 66 [.osl 1000 (eInt .i64).sz a0.length,.fn 67 [.ref 1001 0]] [(1000,.blk 3 (D.flat (a0.map (eInt .i64).d))),(1001,.blk 3 [.int .i64 a1])] (.osl 0 (eInt .i64).sz r.length) [(1001,.blk 3 [.int .i64 a1]),(0,.blk 3 (D.flat (r.map (eInt .i64).d)))]:=by
 refine eC (rs:=[.osl 0 (eInt .i64).sz r.length]) Try.func66 rfl Try.ntmps66 (nle rfl) fun O hO=>?_
 show IWP _ _ _ _ ⟨[(0,.osl 1000 (eInt .i64).sz a0.length),(1,.fn 67 [.ref 1001 0])],[(1000,.blk 3 (D.flat (a0.map (eInt .i64).d))),(1001,.blk 3 [.int .i64 a1])]⟩ _
 unfold eQ at h
 refine aC (aA rfl (aG rfl rfl (lb rfl) (sv (d:=.nils) rfl)) <|aD ?_)
 obtain ⟨x1,hx1,h⟩:=aO h
 refine aC (aA rfl (aE rfl rfl (lb rfl) (sv (d:=.osl _ _ _) rfl)) <|aA rfl (aE rfl rfl (lb rfl) (sv (d:=.fn 67 [.ref _ _]) rfl)) <|aA rfl (jU (r:=.int .i64 x1) rfl rfl (lb rfl) cl78 (.cons (sv (d:=.osl _ _ _) rfl) (.cons (sv (d:=.fn 67 [.ref _ _]) rfl) .nil)) (.cons (FDT (eInt .i64) rfl rfl) (.cons (.fn (.cons (.ref rfl rfl (sK _) rfl) .nil)) .nil)) rfl rfl (mH _ _ _ hx1)) <|aA rfl (asI rfl rfl rfl rfl) <|aD ?_)
 refine aS ?_
 obtain ⟨x2,hx2,h⟩:=aN h
 refine aC (aA rfl (mvI rfl rfl rfl rfl) <|aA rfl (aL rfl rfl (lb rfl) (svI rfl) (sv (d:=.int _ (-1)) rfl) rfl hx2) <|aD ?_)
 refine aP (b:=_) rfl (fun hc3=>?_) (fun hc3=>?_)
 ·
  replace h:=bP h hc3
  refine aC (aA rfl (aE rfl rfl (lb rfl) (sv (d:=.osl _ _ _) rfl)) <|aA rfl (aG rfl rfl (lb rfl) (sv (d:=.osl _ _ _) rfl)) <|aD ?_)
  refine aW ?_
  refine bA ?_
  obtain rfl:=Option.some.inj h
  refine ⟨.inr rfl,(fun i=>if i = 0 then 1000 else i),⟨.nil,(.cons (.blk rfl rfl rfl) (.cons (EntW.lst rfl) .nil)),bE [1001,1000] rfl (by decide),(fun i hi=>by first | rfl | (show (if _ then _ else _) = _; (repeat' split) <;> omega))⟩,(.cons (sv rfl) .nil),rfl⟩
 ·
  replace h:=bQ h hc3
  refine aT ?_
  refine aJ ?_
  refine aS ?_
  obtain ⟨x4,hx4,h⟩:=aN h
  refine aC (aA rfl (mvI rfl rfl rfl rfl) <|aA rfl (aQ rfl rfl (lb rfl) (svI rfl) (sv (d:=.int _ 1) rfl) rfl hx4) <|aA rfl (asI rfl rfl rfl rfl) <|aD ?_)
  refine aV ?_
  refine bO (α:=Nat × (List Int) × Int × Int) (fun z=>⟨[(0,.osl 1000 (eInt .i64).sz z.2.1.length),(1,.fn 67 [.ref 1001 0]),(5,.int .i64 z.2.2.1),(6,.int .i64 z.2.2.2)],[(1000,.blk 3 (D.flat (z.2.1.map (eInt .i64).d))),(1001,.blk 3 [.int .i64 a1])]⟩) (fun z=>cR a1 z.1 z.2.1 z.2.2.1 z.2.2.2 = some r) (fun z=>z.1) (fuel,a0,x1,x4) (fun i=>i) ⟨(.sames rfl rfl),(.cons (EntW.lst rfl) (.cons (.blk rfl rfl rfl) .nil)),bE [1000,1001] rfl (by decide),fun _ _=>rfl⟩ ?_ ?_
  ·exact h
  ·
   rintro ⟨n0,v17,v18,v19⟩ h
   cases n0 with
   | zero=>exact absurd h (by unfold cR; exact nofun)
   | succ n0 =>
    unfold cR at h
    refine aS ?_
    obtain ⟨x32,hx32,h⟩:=aN h
    refine aC (aA rfl (mvI rfl rfl rfl rfl) <|aA rfl (aE rfl rfl (lb rfl) (sv (d:=.osl _ _ _) rfl)) <|aA rfl (mM rfl rfl (lb rfl) Try.underlying23 (sv (d:=.osl _ _ _) rfl)) <|aA rfl (aL rfl rfl (lb rfl) (svI rfl) (svI rfl) rfl hx32) <|aD ?_)
    refine aP (b:=_) rfl (fun hc33=>?_) (fun hc33=>?_)
    ·
     replace h:=bP h hc33
     refine aT ?_
     refine aJ ?_
     refine aS ?_
     refine aV ?_
     obtain ⟨x34,hx34,h⟩:=aO h
     obtain ⟨x35,hx35,h⟩:=aO h
     refine aC (aA rfl (aE rfl rfl (lb rfl) (sv (d:=.osl _ _ _) rfl)) <|aA rfl (mvI rfl rfl rfl rfl) <|aA rfl (bC (eInt .i64).toEnc0 rfl rfl (lb rfl) Try.underlying23 ti3 (sv (d:=.osl _ _ _) rfl) rfl (svI rfl) hx34) <|aA rfl (bD (eInt .i64).toEnc0 (d:=.int _ _) rfl rfl (lb rfl) Try.underlying3 ag3 ti3 (by decide) (svR rfl) rfl hx35 (nle rfl) rfl) <|aA rfl (asI rfl rfl rfl rfl) <|aD ?_)
     obtain ⟨x36,hx36,h⟩:=aO h
     refine aC (aA rfl (aE rfl rfl (lb rfl) (sv (d:=.fn 67 [.ref _ _]) rfl)) <|aA rfl (mvI rfl rfl rfl rfl) <|aA rfl (yB (r:=.bool x36) rfl rfl (lb rfl) cl67 (sv (d:=.fn 67 [.ref _ _]) rfl) (.cons (svI rfl) .nil) (.k (.cons (.ref rfl rfl (sK _) rfl) .nil)) rfl rfl (nO _ _ _ hx36)) <|aA rfl (iB rfl rfl (lb rfl) (svB rfl)) <|aD ?_)
     refine aP (b:=_) rfl (fun hc37=>?_) (fun hc37=>?_)
     ·
      replace h:=bP h hc37
      obtain ⟨x38,hx38,h⟩:=aO h
      obtain ⟨x39,hx39,h⟩:=aO h
      obtain ⟨x40,hx40,h⟩:=aN h
      refine aC (aA rfl (aE rfl rfl (lb rfl) (sv (d:=.osl _ _ _) rfl)) <|aA rfl (mvI rfl rfl rfl rfl) <|aA rfl (mvI rfl rfl rfl rfl) <|aA rfl (bC (eInt .i64).toEnc0 rfl rfl (lb rfl) Try.underlying23 ti3 (sv (d:=.osl _ _ _) rfl) rfl (svI rfl) hx38) <|aA rfl (cJ (eInt .i64).toEnc0 (a':=x35) rfl rfl ti3 (svR rfl) rfl (svI rfl) rfl rfl rfl hx39 (nle rfl) rfl hx40) <|aD ?_)
      obtain ⟨x41,hx41,h⟩:=aN h
      refine aU (aA rfl (mvI rfl rfl rfl rfl) <|aA rfl (aQ rfl rfl (lb rfl) (svI rfl) (sv (d:=.int _ 1) rfl) rfl hx41) <|aA rfl (asI rfl rfl rfl rfl) <|bI ?_)
      refine bJ ?_
      refine aJ ?_
      obtain ⟨x42,hx42,h⟩:=aN h
      refine aU (aA rfl (mvI rfl rfl rfl rfl) <|aA rfl (aQ rfl rfl (lb rfl) (svI rfl) (sv (d:=.int _ 1) rfl) rfl hx42) <|aA rfl (asI rfl rfl rfl rfl) <|bI ?_)
      refine aJ ⟨(n0,x40,x41,x42),(fun i=>i),⟨(.cons (.same (congrArg (D.osl _ _) (dO hx40 rfl).symm) rfl) (.sames rfl rfl)),(.cons (EntW.lst rfl) (.cons (.blk rfl rfl rfl) .nil)),bE [1000,1001] rfl (by decide),fun _ _=>rfl⟩,?_,?_⟩
      exact h
      exact Nat.lt_succ_self _
     ·
      replace h:=bQ h hc37
      refine aT ?_
      refine bJ ?_
      refine aJ ?_
      obtain ⟨x43,hx43,h⟩:=aN h
      refine aU (aA rfl (mvI rfl rfl rfl rfl) <|aA rfl (aQ rfl rfl (lb rfl) (svI rfl) (sv (d:=.int _ 1) rfl) rfl hx43) <|aA rfl (asI rfl rfl rfl rfl) <|bI ?_)
      refine aJ ⟨(n0,v17,v18,x43),(fun i=>i),⟨(.sames rfl rfl),(.cons (EntW.lst rfl) (.cons (.blk rfl rfl rfl) .nil)),bE [1000,1001] rfl (by decide),fun _ _=>rfl⟩,?_,?_⟩
      exact h
      exact Nat.lt_succ_self _
    ·
     replace h:=bQ h hc33
     refine bY ?_
     refine bB ?_
     refine bB ?_
     refine bZ ?_
     refine aJ ?_
     obtain ⟨x44,hx44,h⟩:=aO h
     refine aC (aA rfl (aE rfl rfl (lb rfl) (sv (d:=.osl _ _ _) rfl)) <|aA rfl (mvI rfl rfl rfl rfl) <|wO (eInt .i64).toEnc0 rfl rfl rfl rfl (by decide) rfl rfl Try.underlying23 ti3 rfl rfl rfl rfl rfl (fun S1 h9=>sv ((h9 37 (by decide)).trans rfl)) hx44 <|aD ?_)
     obtain ⟨x45,hx45,h⟩:=aO h
     refine aC (aA rfl (aE rfl rfl (lb rfl) (sv (d:=.osl _ _ _) rfl)) <|aA rfl (mvI rfl rfl rfl rfl) <|aA rfl (xV (eInt .i64).toEnc0 rfl rfl (lb rfl) Try.underlying23 ti3 (sv (d:=.osl _ _ _) rfl) rfl (Nat.le_trans (cut_le hx44) (Nat.le_of_eq rfl)) (svI rfl) hx45) <|aA rfl (aG rfl rfl (lb rfl) (sv (d:=.osl _ _ _) rfl)) <|aD ?_)
     refine aW ?_
     obtain rfl:=Option.some.inj h
     refine ⟨.inr rfl,(fun i=>if i = 0 then 1000 else i),⟨.nil,(.cons (.blk rfl rfl rfl) (.cons (EntW.lst rfl) .nil)),bE [1001,1000] rfl (by decide),(fun i hi=>by first | rfl | (show (if _ then _ else _) = _; (repeat' split) <;> omega))⟩,(.cons (sv rfl) .nil),rfl⟩

theorem mD (a0 : Int) (a1 : Int) (a2 : Int) (a3 : (List aF)) (a4 : (List Int)) (r : (Int × Int × (List aF) × (List Int))) (h : fR a0 a1 a2 a3 a4 = some r) : FnH Try.prog 31 [.agg (w20 a0 a1 (.osl 1000 aB.sz a3.length) (.osl 1001 (eInt .i64).sz a4.length)),.int .i64 a2] [(1000,.blk 56 (D.flat (a3.map aB.d))),(1001,.blk 3 (D.flat (a4.map (eInt .i64).d)))] (.agg (w20 r.1 r.2.1 (.osl 0 aB.sz r.2.2.1.length) (.osl 1 (eInt .i64).sz r.2.2.2.length))) [(0,.blk 56 (D.flat (r.2.2.1.map aB.d))),(1,.blk 3 (D.flat (r.2.2.2.map (eInt .i64).d)))]:=by
 refine eC (rs:=[.agg (w20 r.1 r.2.1 (.osl 0 aB.sz r.2.2.1.length) (.osl 1 (eInt .i64).sz r.2.2.2.length))]) Try.func31 rfl Try.ntmps31 (nle rfl) fun O hO=>?_
 show IWP _ _ _ _ ⟨[(0,.agg (w20 a0 a1 (.osl 1000 aB.sz a3.length) (.osl 1001 (eInt .i64).sz a4.length))),(1,.int .i64 a2)],[(1000,.blk 56 (D.flat (a3.map aB.d))),(1001,.blk 3 (D.flat (a4.map (eInt .i64).d)))]⟩ _
 unfold fR at h
 refine aC (aA rfl (cK (cs:=q7) 0 rfl rfl (lb rfl) rfl (svA q7 rfl) rfl rfl) <|aA rfl (cK (cs:=[.int _ _]) 1 rfl rfl (lb rfl) rfl (svI rfl) rfl rfl) <|aA rfl (bX (cs:=q11) (cs':=(w16 0 0 ([] : List aF) ([] : List Int))) 2 rfl rfl (lb rfl) rfl ti32 rfl rfl (.k (.k (.cons (.nils _) (.cons (.nils _) .nil))))) <|aD ?_)
 obtain ⟨x1,hx1,h⟩:=aO h
 refine aC (aA rfl (lra q7 la32 rfl rfl rfl rfl rfl (nle rfl) rfl) <|aA rfl (aH (d:=.int _ _) rfl rfl (lb rfl) Try.underlying3 ag3 ti3 (by decide) (svR rfl) rfl (nle rfl) rfl) <|aA rfl (jU (r:=.tuple [.int .i64 x1.1,.bool x1.2]) rfl rfl (lb rfl) cl30 (.cons (svA q7 rfl) (.cons (svI rfl) .nil)) (.cons (.agg (.k (.k (.cons (FDT aB rfl rfl) (.cons (FDT (eInt .i64) rfl rfl) .nil))))) (.all _)) rfl rfl (fJ _ _ _ hx1)) <|aA rfl (aE rfl rfl (lb rfl) (sv (d:=.tuple q14) rfl)) <|aA rfl (bH (d:=.int _ _) rfl rfl (lb rfl) (sv (d:=.tuple q14) rfl) rfl) <|aA rfl (bH (d:=.bool _) rfl rfl (lb rfl) (sv (d:=.tuple q14) rfl) rfl) <|aA rfl (asI rfl rfl rfl rfl) <|aA rfl (asB rfl rfl rfl rfl) <|aD ?_)
 obtain ⟨x2,hx2,h⟩:=aO h
 obtain ⟨x3,hx3,h⟩:=aO h
 refine aC (aA rfl (faR 2 rfl rfl rfl Try.underlying32 rfl ti30 (lb rfl) rfl rfl) <|aA rfl (aH (d:=.osl _ _ _) rfl rfl (lb rfl) Try.underlying30 ag30 ti30 (by decide) (svR rfl) rfl (nle rfl) rfl) <|aA rfl (mvI rfl rfl rfl rfl) <|aA rfl (bC aB.toEnc0 rfl rfl (lb rfl) Try.underlying30 ti56 (sv (d:=.osl _ _ _) rfl) rfl (svI rfl) hx2) <|aA rfl (xZ aB.toEnc0 (cs:=q9) rfl rfl (lb rfl) Try.underlying56 ag56 ti56 (by decide) (svR rfl) rfl hx3 (nle rfl) rfl) <|aA rfl (bX (cs:=q9) (cs':=(w18 0 0 0 false)) 3 rfl rfl (lb rfl) rfl ti56 rfl rfl (.all _)) <|aA rfl (stA q9 q9 ti56 rfl rfl rfl rfl rfl rfl rfl rfl (nle rfl) rfl) <|aD ?_)
 obtain ⟨x4,hx4,h⟩:=aN h
 obtain ⟨x5,hx5,h⟩:=aO h
 refine aC (aA rfl (faR 2 rfl rfl rfl Try.underlying32 rfl ti30 (lb rfl) rfl rfl) <|aA rfl (aH (d:=.osl _ _ _) rfl rfl (lb rfl) Try.underlying30 ag30 ti30 (by decide) (svR rfl) rfl (nle rfl) rfl) <|aA rfl (mvI rfl rfl rfl rfl) <|aA rfl (mvI rfl rfl rfl rfl) <|aA rfl (aQ rfl rfl (lb rfl) (svI rfl) (sv (d:=.int _ 1) rfl) rfl hx4) <|aA rfl (cW (r':=.osl 4 aB.sz x5.length) (H1':=[(4,.blk 56 (D.flat (x5.map aB.d)))]) 4 [1000] rfl rfl (lb rfl) cl65 (.cons (sv (d:=.osl _ _ _) rfl) (.cons (svI rfl) (.cons (svI rfl) .nil))) rfl rfl ⟨rfl,rfl,by decide,rfl,List.forall_mem_cons.2 ⟨⟨rfl,rfl,(lN aB rfl),(dD aB)⟩,List.forall_mem_nil _⟩⟩ (lH _ _ _ _ hx5) rfl rfl (List.forall_mem_cons.2 ⟨⟨rfl,(dD aB)⟩,List.forall_mem_nil _⟩) (by simp only [List.map_cons,List.map_nil,Ent.ren,dQ,eU]; rfl)) <|aA rfl (faR 2 rfl rfl rfl Try.underlying32 rfl ti30 (lb rfl) rfl rfl) <|aA rfl (cV (ds':=q7) rfl rfl ti30 (svR rfl) rfl (sv (d:=.osl _ _ _) rfl) rfl rfl rfl (nle rfl) rfl) <|aD ?_)
 obtain ⟨x6,hx6,h⟩:=aO h
 refine aC (aA rfl (lra q7 la32 rfl rfl rfl rfl rfl (nle rfl) rfl) <|aA rfl (aH (d:=.int _ _) rfl rfl (lb rfl) Try.underlying3 ag3 ti3 (by decide) (svR rfl) rfl (nle rfl) rfl) <|aA rfl (jU (r:=.int .i64 x6) rfl rfl (lb rfl) cl58 (.cons (svA q7 rfl) (.cons (svI rfl) .nil)) (.cons (.agg (.k (.k (.cons (FDT aB rfl rfl) (.cons (FDT (eInt .i64) rfl rfl) .nil))))) (.all _)) rfl rfl (oS _ _ _ hx6)) <|aA rfl (asI rfl rfl rfl rfl) <|aD ?_)
 refine aS ?_
 refine aC (aA rfl (faR 2 rfl rfl rfl Try.underlying32 rfl ti30 (lb rfl) rfl rfl) <|aA rfl (aH (d:=.osl _ _ _) rfl rfl (lb rfl) Try.underlying30 ag30 ti30 (by decide) (svR rfl) rfl (nle rfl) rfl) <|aA rfl (mM rfl rfl (lb rfl) Try.underlying30 (sv (d:=.osl _ _ _) rfl)) <|aA rfl (aE rfl rfl (lb rfl) (sv (d:=.int _ 0) rfl)) <|aD ?_)
 refine aV ?_
 refine bO (α:=Nat × Int × (List aF)) (fun z=>⟨[(2,.ref 0 0),(3,.ref 1 0),(4,.ref 2 0),(7,.ref 3 0),(8,.int .i64 x6),(34,.int .i64 (x5.length : Int)),(35,.int .i64 z.2.1)],[(0,.blk 32 (w20 a0 a1 (.osl 4 aB.sz z.2.2.length) (.osl 1001 (eInt .i64).sz a4.length))),(1,.blk 3 [.int .i64 a2]),(2,.blk 32 (w16 0 0 ([] : List aF) ([] : List Int))),(3,.blk 56 (v3 x3)),(1001,.blk 3 (D.flat (a4.map (eInt .i64).d))),(4,.blk 56 (D.flat (z.2.2.map aB.d)))]⟩) (fun z=>fQ a0 a1 a2 a4 x3 x5 x6 z.1 z.2.1 z.2.2 = some r) (fun z=>z.1) (fuel,0,x5) (fun i=>i) ⟨(.sames rfl rfl),(.cons (.blk rfl rfl rfl) (.cons (.blk rfl rfl rfl) (.cons (.blk rfl rfl rfl) (.cons (.blk rfl rfl rfl) (.cons (EntW.lst rfl) (.cons (EntW.lst rfl) .nil)))))),bE [0,1,2,3,1001,4] rfl (by decide),fun _ _=>rfl⟩ ?_ ?_
 ·exact h
 ·
  rintro ⟨n0,v23,v24⟩ h
  cases n0 with
  | zero=>exact absurd h (by unfold fQ; exact nofun)
  | succ n0 =>
   unfold fQ at h
   obtain ⟨x41,hx41,h⟩:=aN h
   refine aC (aA rfl (aL rfl rfl (lb rfl) (svI rfl) (svI rfl) rfl hx41) <|aD ?_)
   refine aS ?_
   refine aP (b:=_) rfl (fun hc42=>?_) (fun hc42=>?_)
   ·
    replace h:=bP h hc42
    refine aT ?_
    refine aJ ?_
    refine aS ?_
    refine aV ?_
    refine aC (aA rfl (mvI rfl rfl rfl rfl) <|aA rfl (asI rfl rfl rfl rfl) <|aD ?_)
    obtain ⟨x43,hx43,h⟩:=aO h
    refine aC (aA rfl (faR 2 rfl rfl rfl Try.underlying32 rfl ti30 (lb rfl) rfl rfl) <|aA rfl (aH (d:=.osl _ _ _) rfl rfl (lb rfl) Try.underlying30 ag30 ti30 (by decide) (svR rfl) rfl (nle rfl) rfl) <|aA rfl (mvI rfl rfl rfl rfl) <|aA rfl (bC aB.toEnc0 rfl rfl (lb rfl) Try.underlying30 ti56 (sv (d:=.osl _ _ _) rfl) rfl (svI rfl) hx43) <|aA rfl (aG rfl rfl (lb rfl) (svR rfl)) <|aD ?_)
    obtain ⟨x44,hx44,h⟩:=aO h
    obtain ⟨x45,hx45,h⟩:=aN h
    refine dE rfl [⟨[10],[],[(42,.ref 4 (((v23 : Int).toNat) * aB.sz + 0))],[]⟩,
     ⟨[42],[],[(43,.ref 4 (((v23 : Int).toNat) * aB.sz + 0))],[]⟩,
     ⟨[43],[],[(44,.ref 4 (((v23 : Int).toNat) * aB.sz + 1))],[]⟩,
     ⟨[44],[4],[(45,.int .i64 x44.Parent)],[]⟩,
     ⟨[3],[1],[(46,.int .i64 a2)],[]⟩,
     ⟨[45,46],[],[(47,.bool x45)],[]⟩] rfl ?_ (by kernel_rfl) ?_
    ·refine .cons (lop rfl rfl fun S hA=>(aE rfl rfl (lb rfl) (svaR hA rfl rfl))) ?_
     refine .cons (lop rfl rfl fun S hA=>(cT rfl rfl (lb rfl) (svaR hA rfl rfl))) ?_
     refine .cons (lop rfl rfl fun S hA=>(gT rfl rfl (lb rfl) Try.underlying56 rfl ti3 (by decide) (svaR hA rfl rfl) (k':=1) rfl)) ?_
     refine .cons (lop rfl rfl fun S hA=>(bD aB.toEnc0 (d:=.int _ _) rfl rfl (lb rfl) Try.underlying3 ag3 ti3 (by decide) (svaR hA rfl rfl) (agi hA rfl rfl) hx44 (nle rfl) rfl)) ?_
     refine .cons (lop rfl rfl fun S hA=>(aH (d:=.int _ _) rfl rfl (lb rfl) Try.underlying3 ag3 ti3 (by decide) (svaR hA rfl rfl) (agi hA rfl rfl) (nle rfl) rfl)) ?_
     refine .cons (lop rfl rfl fun S hA=>(aL rfl rfl (lb rfl) (svaI hA rfl rfl) (svaI hA rfl rfl) rfl hx45)) ?_
     exact .nil
    refine aP (b:=_) rfl (fun hc46=>?_) (fun hc46=>?_)
    ·
     replace h:=bP h hc46
     obtain ⟨x47,hx47,h⟩:=aO h
     obtain ⟨x48,hx48,h⟩:=aN h
     obtain ⟨x49,hx49,h⟩:=aO h
     obtain ⟨x50,hx50,h⟩:=aN h
     obtain ⟨x51,hx51,h⟩:=aO h
     obtain ⟨x52,hx52,h⟩:=aN h
     obtain ⟨x53,hx53,h⟩:=aO h
     obtain ⟨x54,hx54,h⟩:=aN h
     refine lM rfl [⟨[10],[],[(48,.ref 4 (((v23 : Int).toNat) * aB.sz + 0))],[]⟩,
      ⟨[10],[],[(49,.ref 4 (((v23 : Int).toNat) * aB.sz + 0))],[]⟩,
      ⟨[7],[],[(50,.ref 3 1)],[]⟩,
      ⟨[50],[3],[(51,.int .i64 x3.Parent)],[]⟩,
      ⟨[7],[],[(52,.ref 3 2)],[]⟩,
      ⟨[52],[3],[(53,.int .i64 x3.Weight)],[]⟩,
      ⟨[10],[],[(54,.ref 4 (((v23 : Int).toNat) * aB.sz + 0))],[]⟩,
      ⟨[54],[],[(55,.ref 4 (((v23 : Int).toNat) * aB.sz + 0))],[]⟩,
      ⟨[55],[],[(56,.ref 4 (((v23 : Int).toNat) * aB.sz + 2))],[]⟩,
      ⟨[56],[4],[(57,.int .i64 x47.Weight)],[]⟩,
      ⟨[53,57],[],[(58,.int .i64 x48)],[]⟩,
      ⟨[8],[],[(59,.int .i64 x6)],[]⟩,
      ⟨[58,59],[],[(60,.int .i64 x49)],[]⟩,
      ⟨[60],[],[(61,.int .i64 x50)],[]⟩,
      ⟨[48],[],[(62,.ref 4 (((v23 : Int).toNat) * aB.sz + 0))],[]⟩,
      ⟨[62],[],[(63,.ref 4 (((v23 : Int).toNat) * aB.sz + 1))],[]⟩,
      ⟨[51,63],[4],[],[(4,.blk 56 (D.flat (x52.map aB.d)))]⟩,
      ⟨[49],[],[(64,.ref 4 (((v23 : Int).toNat) * aB.sz + 0))],[]⟩,
      ⟨[64],[],[(65,.ref 4 (((v23 : Int).toNat) * aB.sz + 2))],[]⟩,
      ⟨[61,65],[4],[],[(4,.blk 56 (D.flat (x54.map aB.d)))]⟩] rfl ?_ (by kernel_rfl) ?_
     ·refine .cons (lop rfl rfl fun S hA=>(aE rfl rfl (lb rfl) (svaR hA rfl rfl))) ?_
      refine .cons (lop rfl rfl fun S hA=>(aE rfl rfl (lb rfl) (svaR hA rfl rfl))) ?_
      refine .cons (lop rfl rfl fun S hA=>(aR rfl rfl (lb rfl) Try.underlying56 rfl ti3 (by decide) (svaR hA rfl rfl) (off':=1) rfl)) ?_
      refine .cons (lop rfl rfl fun S hA=>(aH (d:=.int _ _) rfl rfl (lb rfl) Try.underlying3 ag3 ti3 (by decide) (svaR hA rfl rfl) (agi hA rfl rfl) (nle rfl) rfl)) ?_
      refine .cons (lop rfl rfl fun S hA=>(aR rfl rfl (lb rfl) Try.underlying56 rfl ti3 (by decide) (svaR hA rfl rfl) (off':=2) rfl)) ?_
      refine .cons (lop rfl rfl fun S hA=>(aH (d:=.int _ _) rfl rfl (lb rfl) Try.underlying3 ag3 ti3 (by decide) (svaR hA rfl rfl) (agi hA rfl rfl) (nle rfl) rfl)) ?_
      refine .cons (lop rfl rfl fun S hA=>(aE rfl rfl (lb rfl) (svaR hA rfl rfl))) ?_
      refine .cons (lop rfl rfl fun S hA=>(cT rfl rfl (lb rfl) (svaR hA rfl rfl))) ?_
      refine .cons (lop rfl rfl fun S hA=>(gT rfl rfl (lb rfl) Try.underlying56 rfl ti3 (by decide) (svaR hA rfl rfl) (k':=2) rfl)) ?_
      refine .cons (lop rfl rfl fun S hA=>(bD aB.toEnc0 (d:=.int _ _) rfl rfl (lb rfl) Try.underlying3 ag3 ti3 (by decide) (svaR hA rfl rfl) (agi hA rfl rfl) hx47 (nle rfl) rfl)) ?_
      refine .cons (lop rfl rfl fun S hA=>(aQ rfl rfl (lb rfl) (svaI hA rfl rfl) (svaI hA rfl rfl) rfl hx48)) ?_
      refine .cons (lop rfl rfl fun S hA=>(aE rfl rfl (lb rfl) (svaI hA rfl rfl))) ?_
      refine .cons (lop rfl rfl fun S hA=>(mX rfl rfl (lb rfl) (svaI hA rfl rfl) (svaI hA rfl rfl) hx49)) ?_
      refine .cons (lop rfl rfl fun S hA=>(xI rfl rfl (lb rfl) (svaI hA rfl rfl) (sv (d:=.int _ 1) rfl) hx50)) ?_
      refine .cons (lop rfl rfl fun S hA=>(cT rfl rfl (lb rfl) (svaR hA rfl rfl))) ?_
      refine .cons (lop rfl rfl fun S hA=>(gT rfl rfl (lb rfl) Try.underlying56 rfl ti3 (by decide) (svaR hA rfl rfl) (k':=1) rfl)) ?_
      refine .cons (lop rfl rfl fun S hA=>(cJ aB.toEnc0 (a':=(⟨x51.ID,x3.Parent,x51.Weight,x51.Closed⟩ : aF)) rfl rfl ti3 (svaR hA rfl rfl) (agi hA rfl rfl) (svaI hA rfl rfl) rfl rfl rfl hx51 (nle rfl) rfl hx52)) ?_
      refine .cons (lop rfl rfl fun S hA=>(cT rfl rfl (lb rfl) (svaR hA rfl rfl))) ?_
      refine .cons (lop rfl rfl fun S hA=>(gT rfl rfl (lb rfl) Try.underlying56 rfl ti3 (by decide) (svaR hA rfl rfl) (k':=2) rfl)) ?_
      refine .cons (lop rfl rfl fun S hA=>(cJ aB.toEnc0 (a':=(⟨x53.ID,x53.Parent,x50,x53.Closed⟩ : aF)) rfl rfl ti3 (svaR hA rfl rfl) (agi hA rfl rfl) (svaI hA rfl rfl) rfl rfl rfl hx53 (nle rfl) rfl hx54)) ?_
      exact .nil
     refine bJ ?_
     refine aJ ?_
     obtain ⟨x55,hx55,h⟩:=aN h
     refine aU (aA rfl (aQ rfl rfl (lb rfl) (svI rfl) (sv (d:=.int _ 1) rfl) rfl hx55) <|aA rfl (mvI rfl rfl rfl rfl) <|bI ?_)
     refine aJ ⟨(n0,x55,x54),(fun i=>i),⟨(.sames rfl rfl),(.cons (.blk rfl (by rw [← (dO hx54 (dO hx52 rfl))]; rfl) rfl) (.cons (.blk rfl rfl rfl) (.cons (.blk rfl rfl rfl) (.cons (.blk rfl rfl rfl) (.cons (EntW.lst rfl) (.cons (EntW.lst rfl) .nil)))))),bE [0,1,2,3,1001,4] rfl (by decide),fun _ _=>rfl⟩,?_,?_⟩
     exact h
     exact Nat.lt_succ_self _
    ·
     replace h:=bQ h hc46
     refine aT ?_
     refine bJ ?_
     refine aJ ?_
     obtain ⟨x56,hx56,h⟩:=aN h
     refine aU (aA rfl (aQ rfl rfl (lb rfl) (svI rfl) (sv (d:=.int _ 1) rfl) rfl hx56) <|aA rfl (mvI rfl rfl rfl rfl) <|bI ?_)
     refine aJ ⟨(n0,x56,v24),(fun i=>i),⟨(.sames rfl rfl),(.cons (.blk rfl rfl rfl) (.cons (.blk rfl rfl rfl) (.cons (.blk rfl rfl rfl) (.cons (.blk rfl rfl rfl) (.cons (EntW.lst rfl) (.cons (EntW.lst rfl) .nil)))))),bE [0,1,2,3,1001,4] rfl (by decide),fun _ _=>rfl⟩,?_,?_⟩
     exact h
     exact Nat.lt_succ_self _
   ·
    replace h:=bQ h hc42
    refine bY ?_
    refine bB ?_
    refine bB ?_
    refine bZ ?_
    refine aJ ?_
    obtain ⟨x57,hx57,h⟩:=aO h
    refine aC (aA rfl (faR 3 rfl rfl rfl Try.underlying32 rfl ti23 (lb rfl) rfl rfl) <|aA rfl (aH (d:=.osl _ _ _) rfl rfl (lb rfl) Try.underlying23 ag23 ti23 (by decide) (svR rfl) rfl (nle rfl) rfl) <|aA rfl (rU rfl rfl (lb rfl) (.cons (svR rfl) .nil)) <|aA rfl (cW (r':=.osl 5 (eInt .i64).sz x57.length) (H1':=[(1,.blk 3 [.int .i64 a2]),(5,.blk 3 (D.flat (x57.map (eInt .i64).d)))]) 5 [1001,1] rfl rfl (lb rfl) cl66 (.cons (sv (d:=.osl _ _ _) rfl) (.cons (sv (d:=.fn 67 [.ref _ _]) rfl) .nil)) rfl rfl ⟨rfl,rfl,by decide,rfl,List.forall_mem_cons.2 ⟨⟨rfl,rfl,(lN (eInt .i64) rfl),(dD (eInt .i64))⟩,List.forall_mem_cons.2 ⟨⟨rfl,rfl,rfl,rfl⟩,List.forall_mem_nil _⟩⟩⟩ (lV _ _ _ hx57) rfl rfl (List.forall_mem_cons.2 ⟨⟨rfl,rfl⟩,List.forall_mem_cons.2 ⟨⟨rfl,(dD (eInt .i64))⟩,List.forall_mem_nil _⟩⟩) (by simp only [List.map_cons,List.map_nil,Ent.ren,dQ,eU]; rfl)) <|aA rfl (faR 3 rfl rfl rfl Try.underlying32 rfl ti23 (lb rfl) rfl rfl) <|aA rfl (cV (ds':=q7) rfl rfl ti23 (svR rfl) rfl (sv (d:=.osl _ _ _) rfl) rfl rfl rfl (nle rfl) rfl) <|aD ?_)
    refine aC (aA rfl (lra q7 la32 rfl rfl rfl rfl rfl (nle rfl) rfl) <|aA rfl (stA q7 q7 ti32 rfl rfl rfl rfl rfl rfl rfl rfl (nle rfl) rfl) <|aD ?_)
    refine aW ?_
    obtain rfl:=Option.some.inj h
    refine ⟨.inr rfl,(fun i=>if i = 0 then 4 else if i = 1 then 5 else i),⟨.nil,(.cons (EntW.lst rfl) (.cons (EntW.lst rfl) .nil)),bE [4,5] rfl (by decide),(fun i hi=>by first | rfl | (show (if _ then _ else _) = _; (repeat' split) <;> omega))⟩,(.cons (rva la32 rfl rfl (nle rfl) rfl) .nil),rfl⟩

set_option maxRecDepth 8000 in
set_option maxHeartbeats 4000000 in
theorem lG (a0 : Int) (a1 : List aF) (a2 : List aF) (r : List aF) (h : fC a0 a1 a2 = some r) : FnH Try.prog 62 [.osl 1000 aB.sz a2.length,.int .i64 a0,.slice false (a1.map aB.d)] [(1000,.blk 56 (D.flat (a2.map aB.d)))] (.osl 0 aB.sz r.length) [(0,.blk 56 (D.flat (r.map aB.d)))]:=by
 replace h : insS 32 a2 a0 a1 = some r:=h
 obtain ⟨i,rfl,hi,hm,hb,hr⟩:=insS_e h
 have hX:=aB.toEnc0.flat_len a2
 have hV:=aB.toEnc0.flat_len a1
 have hp:=aB.pos
 have hvt : ∀ k,a1.length ≤ k → (D.flat (a1.map aB.d)).take (min a1.length k * aB.sz) = D.flat (a1.map aB.d):=fun k hk=>by
  rw [Nat.min_eq_left hk,← hV,List.take_length]
 refine eC (rs:=[.osl 0 aB.sz r.length]) Try.func62 rfl Try.ntmps62 (nle rfl) fun O hO=>?_
 show IWP _ _ _ _ ⟨[(0,.osl 1000 aB.sz a2.length),(1,.int .i64 (i : Int)),(2,.slice false (a1.map aB.d))],[(1000,.blk 56 (D.flat (a2.map aB.d)))]⟩ _
 refine uD 0 (id:=1000) (sz:=aB.sz) (n:=a2.length) rfl rfl hX (fun hn=>?_) (fun c hc hcm=>?_)
 ·
  obtain rfl:=List.length_eq_zero_iff.1 hn
  obtain rfl : i = 0:=by simpa using hi
  refine aC (aA rfl (aG rfl rfl (lb rfl) (sv (d:=.nils) rfl)) <| aD ?_)
  refine aC (aA rfl (aE rfl rfl (lb rfl) (sv (d:=.nils) rfl)) <| aA rfl (mvI rfl rfl rfl rfl) <|aA rfl (uK aB (s:=[]) (r:=[]) (b:=false) rfl rfl (lb rfl) Try.underlying30 ti56 (svn rfl) ⟨_,(svI rfl)⟩ rfl rfl) <| aD ?_)
  refine aC (aA rfl (mvL rfl rfl rfl rfl) <| aA rfl (cG aB (l:=a1) rfl rfl (lb rfl) Try.underlying30 (svL rfl)) <|aA rfl (asI rfl rfl rfl rfl) <| aD ?_)
  refine aS ?_
  refine aC (aA rfl (mvI rfl rfl rfl rfl) <| aA rfl (aL rfl rfl (lb rfl) (svI rfl) (sv (d:=.int _ 0) rfl) rfl rfl) <| aD ?_)
  refine aP (b:=_) rfl (fun h1=>?_) (fun h1=>?_)
  ·have h2:=of_decide_eq_true h1
   obtain rfl:=List.length_eq_zero_iff.1 (show a1.length = 0 by omega)
   have hr' : [] = r:=by simpa using hr
   subst hr'
   refine aC (aA rfl (aE rfl rfl (lb rfl) (sv (d:=.nils) rfl)) <| aA rfl (aG rfl rfl (lb rfl) (sv (d:=.nils) rfl)) <| aD ?_)
   refine aW ?_
   refine bA ?_
   refine ⟨.inr rfl,(fun i=>if i = 0 then 50 else i),⟨.nil,(.cons (.nilb rfl) .nil),bE [50] rfl (by decide),(fun i hi=>by first | rfl | (show (if _ then _ else _) = _; (repeat' split) <;> omega))⟩,(.cons (svno rfl) .nil),rfl⟩
  ·refine aT ?_
   refine aJ ?_
   refine aC (aA rfl (aE rfl rfl (lb rfl) (sv (d:=.nils) rfl)) <| aA rfl (cG aB (l:=[]) (b:=false) rfl rfl (lb rfl) Try.underlying30 (svn rfl)) <|aA rfl (asI rfl rfl rfl rfl) <| aD ?_)
   refine aS ?_
   refine aC (aA rfl (mvI rfl rfl rfl rfl) <| aA rfl (mvI rfl rfl rfl rfl) <| aA rfl (aL rfl rfl (lb rfl) (svI rfl) (svI rfl) rfl rfl) <| aD ?_)
   refine rK rfl rfl ?_
   have ha : app 32 ([] : List aF) a1 = some r:=by
    rw [← hr]; unfold maxLen at hm; simpa using mJ hm hb
   refine aC (aA rfl (aE rfl rfl (lb rfl) (sv (d:=.nils) rfl)) <| aA rfl (mvL rfl rfl rfl rfl) <|aA rfl (vO aB.toEnc0 0 rfl rfl (lb rfl) Try.underlying30 ti56 rfl rfl rfl (wA aB (ys:=a1) (svL rfl)) ha) <|aA rfl (aG rfl rfl (lb rfl) (sv (d:=.osl _ _ _) rfl)) <| aD ?_)
   refine aW ?_
   refine bA ?_
   refine ⟨.inr rfl,(fun i=>i),⟨.nil,(.cons (EntW.lst rfl) .nil),bE [0] rfl (by decide),fun _ _=>rfl⟩,(.cons (sv rfl) .nil),rfl⟩
 ·refine aC (aA rfl (aG rfl rfl (lb rfl) (sv (d:=.nils) rfl)) <| aD ?_)
  refine aC (aA rfl (aE rfl rfl (lb rfl) (sv (d:=.rsl _ _ _ _ _) rfl)) <| aA rfl (mvI rfl rfl rfl rfl) <|aA rfl (fP (sz:=aB.sz) (l:=(i : Int)) (h:=(a2.length : Int)) (m:=(c : Int)) rfl rfl (lb rfl) Try.underlying30 ti56 (sv (d:=.rsl _ _ _ _ _) rfl) ⟨_,(svI rfl)⟩ rfl rfl (by simp) (by omega) (by omega) (by omega) (by omega) rfl) <| aD ?_)
  refine aC (aA rfl (mvL rfl rfl rfl rfl) <| aA rfl (cG aB (l:=a1) rfl rfl (lb rfl) Try.underlying30 (svL rfl)) <|aA rfl (asI rfl rfl rfl rfl) <| aD ?_)
  refine aS ?_
  refine aC (aA rfl (mvI rfl rfl rfl rfl) <| aA rfl (aL rfl rfl (lb rfl) (svI rfl) (sv (d:=.int _ 0) rfl) rfl rfl) <| aD ?_)
  refine aP (b:=_) rfl (fun h1=>?_) (fun h1=>?_)
  ·have h2:=of_decide_eq_true h1
   obtain rfl:=List.length_eq_zero_iff.1 (show a1.length = 0 by omega)
   have hr' : a2 = r:=by simpa using hr
   subst hr'
   refine aC (aA rfl (aE rfl rfl (lb rfl) (sv (d:=.rsl _ _ _ _ _) rfl)) <| aA rfl (aG rfl rfl (lb rfl) (sv (d:=.rsl _ _ _ _ _) rfl)) <| aD ?_)
   refine pH 6 (id:=1000) rfl rfl hX ?_
   refine aW ?_
   refine bA ?_
   refine ⟨.inr rfl,(fun i=>if i = 0 then 1000 else i),⟨.nil,(.cons (EntW.lst rfl) .nil),bE [1000] rfl (by decide),(fun i hi=>by first | rfl | (show (if _ then _ else _) = _; (repeat' split) <;> omega))⟩,(.cons (sv rfl) .nil),rfl⟩
  ·have h2:=of_decide_eq_false h1
   have hm0 : 0 < a1.length:=by omega
   refine aT ?_
   refine aJ ?_
   refine aC (aA rfl (aE rfl rfl (lb rfl) (sv (d:=.rsl _ _ _ _ _) rfl)) <| aA rfl (oO rfl rfl (lb rfl) Try.underlying30 (sv (d:=.rsl _ _ _ _ _) rfl) rfl) <|aA rfl (asI rfl rfl rfl rfl) <| aD ?_)
   refine aS ?_
   refine aC (aA rfl (mvI rfl rfl rfl rfl) <| aA rfl (mvI rfl rfl rfl rfl) <| aA rfl (aL rfl rfl (lb rfl) (svI rfl) (svI rfl) rfl rfl) <| aD ?_)
   refine aP (b:=_) rfl (fun h3=>?_) (fun h3=>?_)
   ·have h4:=of_decide_eq_true h3
    obtain rfl : i = a2.length:=by omega
    have hr' : a2 ++ a1 = r:=by simpa using hr
    have ha : app 32 a2 a1 = some r:=by
     rw [← hr']; unfold maxLen at hm; exact mJ hm hb
    refine aC (aA rfl (aE rfl rfl (lb rfl) (sv (d:=.rsl _ _ _ _ _) rfl)) <| aA rfl (mvL rfl rfl rfl rfl) <|zL 23 (id:=1000) rfl rfl hX <|aA rfl (mE aB.toEnc0 0 rfl rfl (lb rfl) Try.underlying30 ti56 rfl rfl rfl rfl rfl (wA aB (ys:=a1) (svL rfl)) ha) <|aA rfl (aG rfl rfl (lb rfl) (sv (d:=.osl _ _ _) rfl)) <| aD ?_)
    refine aW ?_
    refine bA ?_
    refine ⟨.inr rfl,(fun i=>i),⟨.nil,(.cons (EntW.lst rfl) .nil),bE [0] rfl (by decide),fun _ _=>rfl⟩,(.cons (sv rfl) .nil),rfl⟩
   ·have h4:=of_decide_eq_false h3
    have hin : i < a2.length:=by omega
    have hXt : (D.flat ((a2.take i).map aB.d)).length = i * aB.sz:=by rw [aB.toEnc0.flat_len,List.length_take,Nat.min_eq_left hi]
    have hXd : (D.flat ((a2.drop i).map aB.d)).length = (a2.length - i) * aB.sz:=by rw [aB.toEnc0.flat_len,List.length_drop]
    have hXs : D.flat (a2.map aB.d) = D.flat ((a2.take i).map aB.d) ++ D.flat ((a2.drop i).map aB.d):=by
     rw [aB.toEnc0.flat_append,List.take_append_drop]
    have hR : D.flat (r.map aB.d) = D.flat ((a2.take i).map aB.d) ++ D.flat (a1.map aB.d) ++ D.flat ((a2.drop i).map aB.d):=by
     rw [← hr,aB.toEnc0.flat_append,aB.toEnc0.flat_append]
    have hRl : (D.flat (r.map aB.d)).length = r.length * aB.sz:=aB.toEnc0.flat_len r
    have hrl : r.length = a2.length + a1.length:=by rw [← hr]; simp; omega
    refine aT ?_
    refine aJ ?_
    refine aS ?_
    refine aC (aA rfl (mvI rfl rfl rfl rfl) <| aA rfl (mvI rfl rfl rfl rfl) <| aA rfl (aQ rfl rfl (lb rfl) (svI rfl) (svI rfl) rfl (wN hm)) <|aA rfl (aE rfl rfl (lb rfl) (sv (d:=.rsl _ _ _ _ _) rfl)) <| aA rfl (wM rfl rfl (lb rfl) Try.underlying30 (sv (d:=.rsl _ _ _ _ _) rfl) rfl) <| aA rfl (aL rfl rfl (lb rfl) (svI rfl) (svI rfl) rfl rfl) <| aD ?_)
    refine aP (b:=_) rfl (fun h5=>?_) (fun h5=>?_)
    ·have h6:=of_decide_eq_true h5
     have hcn : c < a2.length + a1.length:=by omega
     obtain ⟨K,hK⟩ : ∃ K,K = a2.length + a1.length - i:=⟨_,rfl⟩
     have hKm : i + K = a2.length + a1.length:=by omega
     have w1 : IntKind.wrap .i64 (((a2.length + a1.length : Nat) : Int) - (i : Int)) = (K : Int):=by rw [hK]; exact wS (by omega) hm
     have hD0 : i * aB.sz ≤ (D.flat (a2.map aB.d) ++ List.replicate ((c - a2.length) * aB.sz) D.dead).length:=by
      rw [List.length_append,hX]; exact Nat.le_trans (Nat.mul_le_mul_right _ hi) (Nat.le_add_right _ _)
     have hT0 : (D.flat (a2.map aB.d) ++ List.replicate ((c - a2.length) * aB.sz) D.dead).take (i * aB.sz) = D.flat ((a2.take i).map aB.d):=by
      rw [List.take_append_of_le_length (by rw [hX]; exact Nat.mul_le_mul_right _ hi),aB.toEnc0.flat_take]
     refine aC (aA rfl (aE rfl rfl (lb rfl) (sv (d:=.rsl _ _ _ _ _) rfl)) <| aA rfl (mvI rfl rfl rfl rfl) <|aA rfl (fP (sz:=aB.sz) (l:=0) (h:=(i : Int)) (m:=(c : Int)) (d:=.rsl 1000 aB.sz 0 i c) rfl rfl (lb rfl) Try.underlying30 ti56 (sv (d:=.rsl _ _ _ _ _) rfl) rfl ⟨_,(svI rfl)⟩ rfl (by simp) (by omega) (by omega) (by omega) (by omega) (by simp only [Int.toNat_natCast,Int.toNat_zero,Nat.zero_mul,Nat.zero_add,Nat.sub_zero])) <|aA rfl (mvI rfl rfl rfl rfl) <| aA rfl (mvI rfl rfl rfl rfl) <| aA rfl (aQ rfl rfl (lb rfl) (svI rfl) (svI rfl) rfl (wN hm)) <|aA rfl (mvI rfl rfl rfl rfl) <| aA rfl (aQ rfl rfl (lb rfl) (svI rfl) (svI rfl) rfl w1) <|aA rfl (vM (sz:=aB.sz) (k:=K) 0 rfl rfl (lb rfl) Try.underlying30 Try.underlying3 ti56 rfl (sv (d:=.rsl _ _ _ _ _) rfl) rfl rfl (svI rfl) rfl (by omega) hD0 (by omega) (by rw [hKm]; exact hm) (by rw [hKm]; exact hb)) <|aA rfl (aG rfl rfl (lb rfl) (sv (d:=.osl _ _ _) rfl)) <| aD ?_)
     have hY0 : ((D.flat (a2.map aB.d) ++ List.replicate ((c - a2.length) * aB.sz) D.dead).take (i * aB.sz) ++ List.replicate (K * aB.sz) D.dead).length = (i + K) * aB.sz:=by
      rw [List.length_append,List.length_take,List.length_replicate,Nat.min_eq_left hD0,Nat.add_mul]
     refine uD 9 (id:=0) rfl rfl hY0 (fun h0=>absurd h0 (by omega)) (fun c1 hc1 hcm1=>?_)
     rw [hT0]
     rw [hT0] at hY0
     have w2 : IntKind.wrap .i64 ((i : Int) + (a1.length : Int)) = ((i + a1.length : Nat) : Int):=wN (by omega)
     have hKs : (K - a1.length) * aB.sz = (a2.length - i) * aB.sz:=by congr 1; omega
     obtain ⟨J,hJ⟩ : ∃ J,J = List.replicate ((c1 - (i + K)) * aB.sz) D.dead:=⟨_,rfl⟩
     obtain ⟨Z,hZ⟩ : ∃ Z,Z = List.replicate (K * aB.sz) D.dead:=⟨_,rfl⟩
     have hZl : Z.length = K * aB.sz:=by rw [hZ,List.length_replicate]
     have hKsp : K * aB.sz = a1.length * aB.sz + (a2.length - i) * aB.sz:=by rw [← Nat.add_mul]; congr 1; omega
     rw [← hJ,← hZ]
     have hYl : (D.flat ((a2.take i).map aB.d) ++ Z ++ J).length = i * aB.sz + K * aB.sz + J.length:=by simp only [List.length_append,hXt,hZl]
     refine aC (aA rfl (aE rfl rfl (lb rfl) (sv (d:=.rsl _ _ _ _ _) rfl)) <| aA rfl (mvI rfl rfl rfl rfl) <|aA rfl (fP (sz:=aB.sz) (l:=(i : Int)) (h:=((i + K : Nat) : Int)) (m:=(c1 : Int)) (d:=.rsl 0 aB.sz (i * aB.sz) K (c1 - i)) rfl rfl (lb rfl) Try.underlying30 ti56 (sv (d:=.rsl _ _ _ _ _) rfl) ⟨_,(svI rfl)⟩ rfl rfl (by simp) (by omega) (by omega) (by omega) (by omega) (by simp only [Int.toNat_natCast,Nat.zero_add]; congr 1; omega)) <|aA rfl (mvL rfl rfl rfl rfl) <|aA rfl (nP (sz:=aB.sz) (ds':=iE (D.flat ((a2.take i).map aB.d) ++ Z ++ J) (i * aB.sz) (D.flat (a1.map aB.d))) rfl rfl (lb rfl) Try.underlying30 ti56 (sv (d:=.rsl _ _ _ _ _) rfl) rfl (wA aB (ys:=a1) (svL rfl)) hV (tG (aB.toEnc0.one a1) _) (by rw [hYl]; omega) rfl (by rw [hvt _ (by omega)])) <| aD ?_)
     have e1 : iE (D.flat ((a2.take i).map aB.d) ++ Z ++ J) (i * aB.sz) (D.flat (a1.map aB.d)) = D.flat ((a2.take i).map aB.d) ++ D.flat (a1.map aB.d) ++ (Z.drop (a1.length * aB.sz) ++ J):=by
      have e2 : D.flat ((a2.take i).map aB.d) ++ Z ++ J = D.flat ((a2.take i).map aB.d) ++ Z.take (a1.length * aB.sz) ++ (Z.drop (a1.length * aB.sz) ++ J):=by
       rw [List.append_assoc (D.flat ((a2.take i).map aB.d)),List.append_assoc (D.flat ((a2.take i).map aB.d)),← List.append_assoc (Z.take _),List.take_append_drop]
      rw [e2]; exact pA hXt (by rw [List.length_take,hZl,hV]; omega)
     have hres:=ins_new (J:=J) (Y:=D.flat ((a2.drop i).map aB.d)) hXt hV (show Z.length = a1.length * aB.sz + (D.flat ((a2.drop i).map aB.d)).length by rw [hZl,hXd,hKsp])
     have hlen1 : (iE (D.flat ((a2.take i).map aB.d) ++ Z ++ J) (i * aB.sz) (D.flat (a1.map aB.d))).length = i * aB.sz + K * aB.sz + J.length:=by
      rw [e1]; simp only [List.length_append,hXt,hV,List.length_drop,hZl]; omega
     obtain ⟨Y1,hY1⟩ : ∃ Y1,Y1 = iE (D.flat ((a2.take i).map aB.d) ++ Z ++ J) (i * aB.sz) (D.flat (a1.map aB.d)):=⟨_,rfl⟩
     rw [← hY1] at hlen1 hres ⊢
     obtain ⟨es,hes⟩ : ∃ es,es = ((D.flat (a2.map aB.d) ++ List.replicate ((c - a2.length) * aB.sz) D.dead).drop (i * aB.sz)).take ((a2.length - i) * aB.sz):=⟨_,rfl⟩
     have hes' : es = D.flat ((a2.drop i).map aB.d):=by
      rw [hes,List.drop_append_of_le_length (by rw [hX]; exact Nat.mul_le_mul_right _ hi),aB.toEnc0.flat_drop,List.take_append_of_le_length (by rw [hXd]; exact Nat.le_refl _),← hXd,List.take_length]
     have hfit2 : i * aB.sz + (a2.length - i) * aB.sz ≤ (D.flat (a2.map aB.d) ++ List.replicate ((c - a2.length) * aB.sz) D.dead).length:=by
      rw [List.length_append,hX,← Nat.add_mul,show i + (a2.length - i) = a2.length by omega]; exact Nat.le_add_right _ _
     have him : (i + a1.length) * aB.sz = i * aB.sz + a1.length * aB.sz:=Nat.add_mul _ _ _
     refine dE rfl [⟨[9],[],[(46,.rsl 0 aB.sz 0 (i + K) c1)],[]⟩,⟨[1],[],[(47,.int .i64 (i : Int))],[]⟩,⟨[7],[],[(48,.int .i64 (a1.length : Int))],[]⟩,⟨[47,48],[],[(49,.int .i64 ((i + a1.length : Nat) : Int))],[]⟩,
      ⟨[46,49],[],[(50,.rsl 0 aB.sz ((i + a1.length) * aB.sz) (K - a1.length) (c1 - (i + a1.length)))],[]⟩,⟨[0],[],[(51,.rsl 1000 aB.sz 0 a2.length c)],[]⟩,⟨[1],[],[(52,.int .i64 (i : Int))],[]⟩,⟨[51,52],[],[(53,.rsl 1000 aB.sz (i * aB.sz) (a2.length - i) (c - i))],[]⟩,
      ⟨[50,53],[0,1000],[(54,.int .i64 ((min (a2.length - i) (K - a1.length) : Nat) : Int))],[(0,.blk 56 (iE Y1 ((i + a1.length) * aB.sz) es))]⟩] rfl ?_ (by kernel_rfl) ?_
     ·refine .cons (lop rfl rfl fun S hA=>(aE rfl rfl (lb rfl) (sv (d:=.rsl _ _ _ _ _) (agr hA rfl rfl)))) ?_
      refine .cons (lop rfl rfl fun S hA=>(aE rfl rfl (lb rfl) (svaI hA rfl rfl))) ?_
      refine .cons (lop rfl rfl fun S hA=>(aE rfl rfl (lb rfl) (svaI hA rfl rfl))) ?_
      refine .cons (lop rfl rfl fun S hA=>(aQ rfl rfl (lb rfl) (svaI hA rfl rfl) (svaI hA rfl rfl) rfl w2)) ?_
      refine .cons (lop rfl rfl fun S hA=>(fP (sz:=aB.sz) (l:=((i + a1.length : Nat) : Int)) (h:=((i + K : Nat) : Int)) (m:=(c1 : Int)) (d:=.rsl 0 aB.sz ((i + a1.length) * aB.sz) (K - a1.length) (c1 - (i + a1.length))) rfl rfl (lb rfl) Try.underlying30 ti56 (sv (d:=.rsl _ _ _ _ _) (agr hA rfl rfl)) ⟨_,(svaI hA rfl rfl)⟩ rfl rfl (by simp) (by omega) (by omega) (by omega) (by omega) (by simp only [Int.toNat_natCast,Nat.zero_add]; congr 1; omega))) ?_
      refine .cons (lop rfl rfl fun S hA=>(aE rfl rfl (lb rfl) (sv (d:=.rsl _ _ _ _ _) (agr hA rfl rfl)))) ?_
      refine .cons (lop rfl rfl fun S hA=>(aE rfl rfl (lb rfl) (svaI hA rfl rfl))) ?_
      refine .cons (lop rfl rfl fun S hA=>(fP (sz:=aB.sz) (l:=(i : Int)) (h:=(a2.length : Int)) (m:=(c : Int)) (d:=.rsl 1000 aB.sz (i * aB.sz) (a2.length - i) (c - i)) rfl rfl (lb rfl) Try.underlying30 ti56 (sv (d:=.rsl _ _ _ _ _) (agr hA rfl rfl)) ⟨_,(svaI hA rfl rfl)⟩ rfl rfl (by simp) (by omega) (by omega) (by omega) (by omega) (by simp only [Int.toNat_natCast,Nat.zero_add]))) ?_
      refine .cons (lop rfl rfl fun S hA=>(nP (sz:=aB.sz) (es:=es) (ds':=iE Y1 ((i + a1.length) * aB.sz) es) rfl rfl (lb rfl) Try.underlying30 ti56 (sv (d:=.rsl _ _ _ _ _) (agr hA rfl rfl)) (agi hA rfl rfl) (hes ▸ vZ (sv (d:=.rsl _ _ _ _ _) (agr hA rfl rfl)) (agi hA rfl rfl) hfit2) (by rw [hes',hXd]) (tG (by rw [hes']; exact aB.toEnc0.one _) _) (by rw [hlen1,him,hKs]; omega) rfl (by rw [show min (a2.length - i) (K - a1.length) = a2.length - i by omega,hes',← hXd,List.take_length]))) ?_
      exact .nil
     ·rw [hes',him,hres,← hR]
      refine aC (aA rfl (aE rfl rfl (lb rfl) (sv (d:=.rsl _ _ _ _ _) rfl)) <| aA rfl (aG rfl rfl (lb rfl) (sv (d:=.rsl _ _ _ _ _) rfl)) <| aD ?_)
      refine pH 6 (id:=0) rfl rfl (show (D.flat (r.map aB.d)).length = (i + K) * aB.sz by rw [hRl,hrl,hKm]) ?_
      refine aW ?_
      refine bA ?_
      refine ⟨.inr rfl,(fun i=>i),⟨.nil,(.cons (EntW.lst rfl) .nil),bE [0] rfl (by decide),fun _ _=>rfl⟩,(.cons (sv (congrArg (D.osl _ _) (show i + K = r.length by omega))) .nil),rfl⟩
    ·have h6:=of_decide_eq_false h5
     have hcn : a2.length + a1.length ≤ c:=by omega
     have w2 : IntKind.wrap .i64 ((i : Int) + (a1.length : Int)) = ((i + a1.length : Nat) : Int):=wN (by omega)
     have him : (i + a1.length) * aB.sz = i * aB.sz + a1.length * aB.sz:=Nat.add_mul _ _ _
     obtain ⟨J,hJ⟩ : ∃ J,J = List.replicate ((c - a2.length) * aB.sz) D.dead:=⟨_,rfl⟩
     have hJl : J.length = (c - a2.length) * aB.sz:=by rw [hJ,List.length_replicate]
     have hJm : a1.length * aB.sz ≤ J.length:=by rw [hJl]; exact Nat.mul_le_mul_right _ (by omega)
     have hni : a2.length * aB.sz = i * aB.sz + (a2.length - i) * aB.sz:=by rw [← Nat.add_mul]; congr 1; omega
     have hnm : (a2.length + a1.length - i) * aB.sz = (a2.length - i) * aB.sz + a1.length * aB.sz:=by rw [← Nat.add_mul]; congr 1; omega
     have hnm2 : (a2.length + a1.length - (i + a1.length)) * aB.sz = (a2.length - i) * aB.sz:=by congr 1; omega
     rw [← hJ]
     have hD0 : (D.flat (a2.map aB.d) ++ J).length = i * aB.sz + (a2.length - i) * aB.sz + J.length:=by rw [List.length_append,hX,hni]
     refine aT ?_
     refine aJ ?_
     refine aC (aA rfl (aE rfl rfl (lb rfl) (sv (d:=.rsl _ _ _ _ _) rfl)) <| aA rfl (mvI rfl rfl rfl rfl) <| aA rfl (mvI rfl rfl rfl rfl) <|aA rfl (aQ rfl rfl (lb rfl) (svI rfl) (svI rfl) rfl (wN hm)) <|aA rfl (fP (sz:=aB.sz) (l:=0) (h:=((a2.length + a1.length : Nat) : Int)) (m:=(c : Int)) (d:=.rsl 1000 aB.sz 0 (a2.length + a1.length) c) rfl rfl (lb rfl) Try.underlying30 ti56 (sv (d:=.rsl _ _ _ _ _) rfl) rfl ⟨_,(svI rfl)⟩ rfl (by simp) (by omega) (by omega) (by omega) (by omega) (by simp only [Int.toNat_natCast,Int.toNat_zero,Nat.zero_mul,Nat.zero_add,Nat.sub_zero])) <|aA rfl (aG rfl rfl (lb rfl) (sv (d:=.rsl _ _ _ _ _) rfl)) <| aD ?_)
     refine aS ?_
     refine aC (aA rfl (mvL rfl rfl rfl rfl) <| aA rfl (aE rfl rfl (lb rfl) (sv (d:=.rsl _ _ _ _ _) rfl)) <| aA rfl (mvI rfl rfl rfl rfl) <| aA rfl (mvI rfl rfl rfl rfl) <|aA rfl (aQ rfl rfl (lb rfl) (svI rfl) (svI rfl) rfl w2) <|aA rfl (fP (sz:=aB.sz) (l:=((i + a1.length : Nat) : Int)) (h:=((a2.length + a1.length : Nat) : Int)) (m:=(c : Int)) rfl rfl (lb rfl) Try.underlying30 ti56 (sv (d:=.rsl _ _ _ _ _) rfl) ⟨_,(svI rfl)⟩ rfl rfl (by simp) (by omega) (by omega) (by omega) (by omega) rfl) <|aA rfl (vH rfl rfl (lb rfl) ex76 Try.underlying30 ti56 (svL rfl) (by intro e; have e9:=congrArg List.length e; rw [List.length_map,List.length_nil] at e9; omega) (sv (d:=.rsl _ _ _ _ _) rfl) rfl (by intro e; have:=congrArg List.length e; rw [hD0] at this; simp only [List.length_nil] at this; have h9 : 0 < (a2.length - i) * aB.sz:=Nat.mul_pos (Nat.sub_pos_of_lt hin) hp; clear hnm hnm2 him; omega)) <|aA rfl (iB rfl rfl (lb rfl) (svB rfl)) <| aD ?_)
     refine rK rfl rfl ?_
     obtain ⟨es,hes⟩ : ∃ es,es = ((D.flat (a2.map aB.d) ++ J).drop (i * aB.sz)).take ((a2.length + a1.length - i) * aB.sz):=⟨_,rfl⟩
     have hes' : es.take ((a2.length - i) * aB.sz) = D.flat ((a2.drop i).map aB.d):=by
      rw [hes,List.take_take,Nat.min_eq_left (by omega),List.drop_append_of_le_length (by omega),aB.toEnc0.flat_drop,List.take_append_of_le_length (by rw [hXd]; exact Nat.le_refl _),← hXd,List.take_length]
     have hesl : es.length = (a2.length + a1.length - i) * aB.sz:=by
      rw [hes,List.length_take,List.length_drop,hD0]; omega
     have hres:=zK (J:=J) (Y:=D.flat ((a2.drop i).map aB.d)) hXt hV hJm
     rw [← hXs] at hres
     refine dE rfl [⟨[0],[],[(69,.rsl 1000 aB.sz 0 (a2.length + a1.length) c)],[]⟩,⟨[1],[],[(70,.int .i64 (i : Int))],[]⟩,⟨[7],[],[(71,.int .i64 (a1.length : Int))],[]⟩,⟨[70,71],[],[(72,.int .i64 ((i + a1.length : Nat) : Int))],[]⟩,
      ⟨[69,72],[],[(73,.rsl 1000 aB.sz ((i + a1.length) * aB.sz) (a2.length + a1.length - (i + a1.length)) (c - (i + a1.length)))],[]⟩,⟨[0],[],[(74,.rsl 1000 aB.sz 0 (a2.length + a1.length) c)],[]⟩,⟨[1],[],[(75,.int .i64 (i : Int))],[]⟩,⟨[74,75],[],[(76,.rsl 1000 aB.sz (i * aB.sz) (a2.length + a1.length - i) (c - i))],[]⟩,
      ⟨[73,76],[1000],[(77,.int .i64 ((min (a2.length + a1.length - i) (a2.length + a1.length - (i + a1.length)) : Nat) : Int))],[(1000,.blk 56 (iE (D.flat (a2.map aB.d) ++ J) (i * aB.sz + a1.length * aB.sz) (D.flat ((a2.drop i).map aB.d))))]⟩] rfl ?_ (by kernel_rfl) ?_
     ·refine .cons (lop rfl rfl fun S hA=>(aE rfl rfl (lb rfl) (sv (d:=.rsl _ _ _ _ _) (agr hA rfl rfl)))) ?_
      refine .cons (lop rfl rfl fun S hA=>(aE rfl rfl (lb rfl) (svaI hA rfl rfl))) ?_
      refine .cons (lop rfl rfl fun S hA=>(aE rfl rfl (lb rfl) (svaI hA rfl rfl))) ?_
      refine .cons (lop rfl rfl fun S hA=>(aQ rfl rfl (lb rfl) (svaI hA rfl rfl) (svaI hA rfl rfl) rfl w2)) ?_
      refine .cons (lop rfl rfl fun S hA=>(fP (sz:=aB.sz) (l:=((i + a1.length : Nat) : Int)) (h:=((a2.length + a1.length : Nat) : Int)) (m:=(c : Int)) (d:=.rsl 1000 aB.sz ((i + a1.length) * aB.sz) (a2.length + a1.length - (i + a1.length)) (c - (i + a1.length))) rfl rfl (lb rfl) Try.underlying30 ti56 (sv (d:=.rsl _ _ _ _ _) (agr hA rfl rfl)) ⟨_,(svaI hA rfl rfl)⟩ rfl rfl (by simp) (by omega) (by omega) (by omega) (by omega) (by simp only [Int.toNat_natCast,Nat.zero_add]))) ?_
      refine .cons (lop rfl rfl fun S hA=>(aE rfl rfl (lb rfl) (sv (d:=.rsl _ _ _ _ _) (agr hA rfl rfl)))) ?_
      refine .cons (lop rfl rfl fun S hA=>(aE rfl rfl (lb rfl) (svaI hA rfl rfl))) ?_
      refine .cons (lop rfl rfl fun S hA=>(fP (sz:=aB.sz) (l:=(i : Int)) (h:=((a2.length + a1.length : Nat) : Int)) (m:=(c : Int)) (d:=.rsl 1000 aB.sz (i * aB.sz) (a2.length + a1.length - i) (c - i)) rfl rfl (lb rfl) Try.underlying30 ti56 (sv (d:=.rsl _ _ _ _ _) (agr hA rfl rfl)) ⟨_,(svaI hA rfl rfl)⟩ rfl rfl (by simp) (by omega) (by omega) (by omega) (by omega) (by simp only [Int.toNat_natCast,Nat.zero_add]))) ?_
      refine .cons (lop rfl rfl fun S hA=>(nP (sz:=aB.sz) (es:=es) (ds':=iE (D.flat (a2.map aB.d) ++ J) (i * aB.sz + a1.length * aB.sz) (D.flat ((a2.drop i).map aB.d))) rfl rfl (lb rfl) Try.underlying30 ti56 (sv (d:=.rsl _ _ _ _ _) (agr hA rfl rfl)) (agi hA rfl rfl) (hes ▸ vZ (sv (d:=.rsl _ _ _ _ _) (agr hA rfl rfl)) (agi hA rfl rfl) (by rw [hD0]; omega)) hesl (by rw [show min (a2.length + a1.length - i) (a2.length + a1.length - (i + a1.length)) = a2.length - i by omega,hes']; exact aB.toEnc0.one _) (by rw [hD0,him,hnm2]; omega) rfl (by rw [show min (a2.length + a1.length - i) (a2.length + a1.length - (i + a1.length)) = a2.length - i by omega,hes',him]))) ?_
      exact .nil
     ·refine aC (aA rfl (aE rfl rfl (lb rfl) (sv (d:=.rsl _ _ _ _ _) rfl)) <| aA rfl (mvI rfl rfl rfl rfl) <|aA rfl (fP (sz:=aB.sz) (l:=(i : Int)) (h:=((a2.length + a1.length : Nat) : Int)) (m:=(c : Int)) (d:=.rsl 1000 aB.sz (i * aB.sz) (a2.length + a1.length - i) (c - i)) rfl rfl (lb rfl) Try.underlying30 ti56 (sv (d:=.rsl _ _ _ _ _) rfl) ⟨_,(svI rfl)⟩ rfl rfl (by simp) (by omega) (by omega) (by omega) (by omega) (by simp only [Int.toNat_natCast,Nat.zero_add])) <|aA rfl (mvL rfl rfl rfl rfl) <|aA rfl (nP (sz:=aB.sz) (ds':=D.flat (r.map aB.d) ++ J.drop (a1.length * aB.sz)) rfl rfl (lb rfl) Try.underlying30 ti56 (sv (d:=.rsl _ _ _ _ _) rfl) rfl (wA aB (ys:=a1) (svL rfl)) hV (tG (aB.toEnc0.one a1) _) (by rw [pR,hD0]; omega; rw [hD0,hXd]; omega) rfl (by rw [hvt _ (by omega),hres,hR])) <| aD ?_)
      refine aC (aA rfl (aE rfl rfl (lb rfl) (sv (d:=.rsl _ _ _ _ _) rfl)) <| aA rfl (aG rfl rfl (lb rfl) (sv (d:=.rsl _ _ _ _ _) rfl)) <| aD ?_)
      refine pH 6 (id:=1000) rfl rfl (show (D.flat (r.map aB.d)).length = (a2.length + a1.length) * aB.sz by rw [hRl,hrl]) ?_
      refine aW ?_
      refine bA ?_
      refine ⟨.inr rfl,(fun i=>if i = 0 then 1000 else i),⟨.nil,(.cons (EntW.lst rfl) .nil),bE [1000] rfl (by decide),(fun i hi=>by first | rfl | (show (if _ then _ else _) = _; (repeat' split) <;> omega))⟩,(.cons (sv (congrArg (D.osl _ _) hrl.symm)) .nil),rfl⟩

theorem pO (a0 : Int) (a1 : Int) (a2 : dI) (a3 : (List aF)) (a4 : (List Int)) (r : (Int × Int × (List aF) × (List Int) × Int)) (h : gP a0 a1 a2 a3 a4 = some r) : FnH Try.prog 28 [.agg (w20 a0 a1 (.osl 1000 aB.sz a3.length) (.osl 1001 (eInt .i64).sz a4.length)), .agg (v2 a2)] [(1000, .blk 56 (D.flat (a3.map aB.d))), (1001, .blk 3 (D.flat (a4.map (eInt .i64).d)))] (retD [.agg (w20 r.1 r.2.1 (.osl 0 aB.sz r.2.2.1.length) (.osl 1 (eInt .i64).sz r.2.2.2.1.length)), .int .i64 r.2.2.2.2]) [(0, .blk 56 (D.flat (r.2.2.1.map aB.d))), (1, .blk 3 (D.flat (r.2.2.2.1.map (eInt .i64).d)))] := by
 refine eC (rs:=[.agg (w20 r.1 r.2.1 (.osl 0 aB.sz r.2.2.1.length) (.osl 1 (eInt .i64).sz r.2.2.2.1.length)),.int .i64 r.2.2.2.2]) Try.func28 rfl Try.ntmps28 (nle rfl) fun O hO=>?_
 show IWP _ _ _ _ ⟨[(0,.agg (w20 a0 a1 (.osl 1000 aB.sz a3.length) (.osl 1001 (eInt .i64).sz a4.length))),(1,.agg (v2 a2))],[(1000,.blk 56 (D.flat (a3.map aB.d))),(1001,.blk 3 (D.flat (a4.map (eInt .i64).d)))]⟩ _
 unfold gP at h
 refine aC (aA rfl (cK (cs:=q7) 0 rfl rfl (lb rfl) rfl (svA q7 rfl) rfl rfl) <|aA rfl (cK (cs:=q4) 1 rfl rfl (lb rfl) rfl (svA q4 rfl) rfl rfl) <|aA rfl (bX (cs:=q11) (cs':=(w16 0 0 ([] : List aF) ([] : List Int))) 2 rfl rfl (lb rfl) rfl ti32 rfl rfl (.k (.k (.cons (.nils _) (.cons (.nils _) .nil))))) <|aA rfl (aG rfl rfl (lb rfl) (sv (d:=.int _ 0) rfl)) <|aD ?_)
 refine aS ?_
 refine aC (aA rfl (faR 1 rfl rfl rfl Try.underlying37 rfl ti3 (lb rfl) rfl rfl) <|aA rfl (aH (d:=.int _ _) rfl rfl (lb rfl) Try.underlying3 ag3 ti3 (by decide) (svR rfl) rfl (nle rfl) rfl) <|aA rfl (faR 3 rfl rfl rfl Try.underlying37 rfl ti3 (lb rfl) rfl rfl) <|aA rfl (aH (d:=.int _ _) rfl rfl (lb rfl) Try.underlying3 ag3 ti3 (by decide) (svR rfl) rfl (nle rfl) rfl) <|aA rfl (dN (cs:=q9) rfl rfl (lb rfl) Try.underlying56 ti56 pl56 rfl (.cons (svI rfl) (.cons (svI rfl) .nil)) rfl) <|aA rfl (bX (cs:=q9) (cs':=(w18 0 0 0 false)) 3 rfl rfl (lb rfl) rfl ti56 rfl rfl (.all _)) <|aA rfl (stA q9 q9 ti56 rfl rfl rfl rfl rfl rfl rfl rfl (nle rfl) rfl) <|aD ?_)
 refine aV ?_
 refine iA (α:=Bool) (fun z=>⟨[(2,.ref 0 0),(3,.ref 1 0),(4,.ref 2 0),(16,.bool z)],[(0,.blk 32 (w20 a0 a1 (.osl 1000 aB.sz a3.length) (.osl 1001 (eInt .i64).sz a4.length))),(1,.blk 37 (v2 a2)),(2,.blk 32 (w16 0 0 ([] : List aF) ([] : List Int))),(1000,.blk 56 (D.flat (a3.map aB.d))),(1001,.blk 3 (D.flat (a4.map (eInt .i64).d)))]⟩) (fun z=>dH a0 a1 a2 a3 a4 z = some r) ?_ ?_
 ·
  obtain ⟨x36,hx36,h⟩:=aO h
  refine aC (aA rfl (lra q9 la56 rfl rfl rfl rfl rfl (nle rfl) rfl) <|aA rfl (aX (r:=.bool _) rfl rfl (lb rfl) cl40 (.cons (svA q9 rfl) .nil) rfl (rQ _ _ hx36)) <|aA rfl (asB rfl rfl rfl rfl) <|aD ?_)
  refine aP (b:=_) rfl (fun hc37=>?_) (fun hc37=>?_)
  ·
   replace h:=bP h hc37
   refine aT ?_
   refine aJ ⟨x36,(fun i=>i),⟨(.sames rfl rfl),(.cons (.blk rfl rfl rfl) (.cons (.blk rfl rfl rfl) (.cons (.blk rfl rfl rfl) (.cons (EntW.lst rfl) (.cons (EntW.lst rfl) .nil))))),bE [0,1,2,1000,1001] rfl (by decide),fun _ _=>rfl⟩,?_⟩
   exact h
  ·
   replace h:=bQ h hc37
   obtain ⟨x38,hx38,h⟩:=aN h
   refine aC (aA rfl (faR 2 rfl rfl rfl Try.underlying37 rfl ti3 (lb rfl) rfl rfl) <|aA rfl (aH (d:=.int _ _) rfl rfl (lb rfl) Try.underlying3 ag3 ti3 (by decide) (svR rfl) rfl (nle rfl) rfl) <|aA rfl (aL rfl rfl (lb rfl) (svI rfl) (sv (d:=.int _ 0) rfl) rfl hx38) <|aA rfl (asB rfl rfl rfl rfl) <|aD ?_)
   refine aP (b:=_) rfl (fun hc39=>?_) (fun hc39=>?_)
   ·
    replace h:=bP h hc39
    refine aT ?_
    refine aJ ⟨x38,(fun i=>i),⟨(.sames rfl rfl),(.cons (.blk rfl rfl rfl) (.cons (.blk rfl rfl rfl) (.cons (.blk rfl rfl rfl) (.cons (EntW.lst rfl) (.cons (EntW.lst rfl) .nil))))),bE [0,1,2,1000,1001] rfl (by decide),fun _ _=>rfl⟩,?_⟩
    exact h
   ·
    replace h:=bQ h hc39
    obtain ⟨x40,hx40,h⟩:=aN h
    refine aU (aA rfl (faR 2 rfl rfl rfl Try.underlying37 rfl ti3 (lb rfl) rfl rfl) <|aA rfl (aH (d:=.int _ _) rfl rfl (lb rfl) Try.underlying3 ag3 ti3 (by decide) (svR rfl) rfl (nle rfl) rfl) <|aA rfl (aL rfl rfl (lb rfl) (svI rfl) (sv (d:=.int _ 1048576) rfl) rfl hx40) <|aA rfl (asB rfl rfl rfl rfl) <|bI ?_)
    refine aJ ⟨x40,(fun i=>i),⟨(.sames rfl rfl),(.cons (.blk rfl rfl rfl) (.cons (.blk rfl rfl rfl) (.cons (.blk rfl rfl rfl) (.cons (EntW.lst rfl) (.cons (EntW.lst rfl) .nil))))),bE [0,1,2,1000,1001] rfl (by decide),fun _ _=>rfl⟩,?_⟩
    exact h
 ·
  rintro v6 h
  unfold dH at h
  refine aP (b:=_) rfl (fun hc7=>?_) (fun hc7=>?_)
  ·
   replace h:=bP h hc7
   refine aC (aA rfl (lra q7 la32 rfl rfl rfl rfl rfl (nle rfl) rfl) <|aA rfl (stA q7 q7 ti32 rfl rfl rfl rfl rfl rfl rfl rfl (nle rfl) rfl) <|aA rfl (aG rfl rfl (lb rfl) (sv (d:=.int _ 8) rfl)) <|aD ?_)
   refine aW ?_
   refine bN ?_
   refine bA ?_
   obtain rfl:=Option.some.inj h
   refine ⟨.inr rfl,(fun i=>if i = 0 then 1000 else if i = 1 then 1001 else i),⟨.nil,(.cons (EntW.lst rfl) (.cons (EntW.lst rfl) .nil)),bE [1000,1001] rfl (by decide),(fun i hi=>by first | rfl | (show (if _ then _ else _) = _; (repeat' split) <;> omega))⟩,(.cons (rva la32 rfl rfl (nle rfl) rfl) (.cons (sv rfl) .nil)),rfl⟩
  ·
   replace h:=bQ h hc7
   obtain ⟨x8,hx8,h⟩:=aN h
   refine aC (aA rfl (faR 1 rfl rfl rfl Try.underlying37 rfl ti3 (lb rfl) rfl rfl) <|aA rfl (aH (d:=.int _ _) rfl rfl (lb rfl) Try.underlying3 ag3 ti3 (by decide) (svR rfl) rfl (nle rfl) rfl) <|aA rfl (faR 2 rfl rfl rfl Try.underlying37 rfl ti3 (lb rfl) rfl rfl) <|aA rfl (aH (d:=.int _ _) rfl rfl (lb rfl) Try.underlying3 ag3 ti3 (by decide) (svR rfl) rfl (nle rfl) rfl) <|aA rfl (aL rfl rfl (lb rfl) (svI rfl) (svI rfl) rfl hx8) <|aA rfl (asB rfl rfl rfl rfl) <|aD ?_)
   refine aP (b:=_) rfl (fun hc9=>?_) (fun hc9=>?_)
   ·
    replace h:=bP h hc9
    refine aC (aA rfl (lra q7 la32 rfl rfl rfl rfl rfl (nle rfl) rfl) <|aA rfl (stA q7 q7 ti32 rfl rfl rfl rfl rfl rfl rfl rfl (nle rfl) rfl) <|aA rfl (aG rfl rfl (lb rfl) (sv (d:=.int _ 4) rfl)) <|aD ?_)
    refine aW ?_
    refine bN ?_
    refine bA ?_
    obtain rfl:=Option.some.inj h
    refine ⟨.inr rfl,(fun i=>if i = 0 then 1000 else if i = 1 then 1001 else i),⟨.nil,(.cons (EntW.lst rfl) (.cons (EntW.lst rfl) .nil)),bE [1000,1001] rfl (by decide),(fun i hi=>by first | rfl | (show (if _ then _ else _) = _; (repeat' split) <;> omega))⟩,(.cons (rva la32 rfl rfl (nle rfl) rfl) (.cons (sv rfl) .nil)),rfl⟩
   ·
    replace h:=bQ h hc9
    refine aT ?_
    refine bJ ?_
    refine aJ ?_
    refine aS ?_
    obtain ⟨x10,hx10,h⟩:=aO h
    refine aC (aA rfl (lra q7 la32 rfl rfl rfl rfl rfl (nle rfl) rfl) <|aA rfl (faR 1 rfl rfl rfl Try.underlying37 rfl ti3 (lb rfl) rfl rfl) <|aA rfl (aH (d:=.int _ _) rfl rfl (lb rfl) Try.underlying3 ag3 ti3 (by decide) (svR rfl) rfl (nle rfl) rfl) <|aA rfl (jU (r:=.tuple [.int .i64 x10.1,.bool x10.2]) rfl rfl (lb rfl) cl30 (.cons (svA q7 rfl) (.cons (svI rfl) .nil)) (.cons (.agg (.k (.k (.cons (FDT aB rfl rfl) (.cons (FDT (eInt .i64) rfl rfl) .nil))))) (.all _)) rfl rfl (fJ _ _ _ hx10)) <|aA rfl (aE rfl rfl (lb rfl) (sv (d:=.tuple q14) rfl)) <|aA rfl (bH (d:=.int _ _) rfl rfl (lb rfl) (sv (d:=.tuple q14) rfl) rfl) <|aA rfl (bH (d:=.bool _) rfl rfl (lb rfl) (sv (d:=.tuple q14) rfl) rfl) <|aA rfl (asI rfl rfl rfl rfl) <|aA rfl (asB rfl rfl rfl rfl) <|aD ?_)
    refine aC (aA rfl (mvB rfl rfl rfl rfl) <|aD ?_)
    refine aP (b:=_) rfl (fun hc11=>?_) (fun hc11=>?_)
    ·
     replace h:=bP h hc11
     refine aS ?_
     obtain ⟨x12,hx12,h⟩:=aN h
     refine aC (aA rfl (faR 0 rfl rfl rfl Try.underlying37 rfl ti5 (lb rfl) rfl rfl) <|aA rfl (aH (d:=.int _ _) rfl rfl (lb rfl) Try.underlying5 ag5 ti5 (by decide) (svR rfl) rfl (nle rfl) rfl) <|aA rfl (aL rfl rfl (lb rfl) (svI rfl) (sv (d:=.int _ 0) rfl) rfl hx12) <|aD ?_)
     refine aP (b:=_) rfl (fun hc13=>?_) (fun hc13=>?_)
     ·
      replace h:=bP h hc13
      refine aC (aA rfl (lra q7 la32 rfl rfl rfl rfl rfl (nle rfl) rfl) <|aA rfl (stA q7 q7 ti32 rfl rfl rfl rfl rfl rfl rfl rfl (nle rfl) rfl) <|aA rfl (aG rfl rfl (lb rfl) (sv (d:=.int _ 13) rfl)) <|aD ?_)
      refine aW ?_
      refine bA ?_
      refine bA ?_
      obtain rfl:=Option.some.inj h
      refine ⟨.inr rfl,(fun i=>if i = 0 then 1000 else if i = 1 then 1001 else i),⟨.nil,(.cons (EntW.lst rfl) (.cons (EntW.lst rfl) .nil)),bE [1000,1001] rfl (by decide),(fun i hi=>by first | rfl | (show (if _ then _ else _) = _; (repeat' split) <;> omega))⟩,(.cons (rva la32 rfl rfl (nle rfl) rfl) (.cons (sv rfl) .nil)),rfl⟩
     ·
      replace h:=bQ h hc13
      refine aT ?_
      refine aJ ?_
      obtain ⟨x14,hx14,h⟩:=aO h
      refine aC (aA rfl (lra q7 la32 rfl rfl rfl rfl rfl (nle rfl) rfl) <|aA rfl (lra q4 la37 rfl rfl rfl rfl rfl (nle rfl) rfl) <|aA rfl (cW (r':=.agg (w20 x14.1 x14.2.1 (.osl 3 aB.sz x14.2.2.1.length) (.osl 4 (eInt .i64).sz x14.2.2.2.length))) (H1':=[(3,.blk 56 (D.flat (x14.2.2.1.map aB.d))),(4,.blk 3 (D.flat (x14.2.2.2.map (eInt .i64).d)))]) 3 [1000,1001] rfl rfl (lb rfl) cl61 (.cons (svA q7 rfl) (.cons (svA q4 rfl) .nil)) rfl rfl ⟨rfl,rfl,by decide,rfl,List.forall_mem_cons.2 ⟨⟨rfl,rfl,(lN aB rfl),(dD aB)⟩,List.forall_mem_cons.2 ⟨⟨rfl,rfl,(lN (eInt .i64) rfl),(dD (eInt .i64))⟩,List.forall_mem_nil _⟩⟩⟩ (nE _ _ _ _ _ _ hx14) rfl rfl (List.forall_mem_cons.2 ⟨⟨rfl,(dD aB)⟩,List.forall_mem_cons.2 ⟨⟨rfl,(dD (eInt .i64))⟩,List.forall_mem_nil _⟩⟩) (by simp only [List.map_cons,List.map_nil,Ent.ren,dQ,eU]; rfl)) <|aA rfl (stA q7 q7 ti32 rfl rfl rfl rfl rfl rfl rfl rfl (nle rfl) rfl) <|aA rfl (aG rfl rfl (lb rfl) (sv (d:=.int _ 0) rfl)) <|aD ?_)
      refine aW ?_
      refine bA ?_
      obtain rfl:=Option.some.inj h
      refine ⟨.inr rfl,(fun i=>if i = 0 then 3 else if i = 1 then 4 else i),⟨.nil,(.cons (EntW.lst rfl) (.cons (EntW.lst rfl) .nil)),bE [3,4] rfl (by decide),(fun i hi=>by first | rfl | (show (if _ then _ else _) = _; (repeat' split) <;> omega))⟩,(.cons (rva la32 rfl rfl (nle rfl) rfl) (.cons (sv rfl) .nil)),rfl⟩
    ·
     replace h:=bQ h hc11
     refine aT ?_
     refine aJ ?_
     refine iA (α:=Int × Int × (List aF) × (List Int)) (fun z=>⟨[(2,.ref 0 0),(3,.ref 1 0),(4,.ref 2 0)],[(0,.blk 32 (w20 z.1 z.2.1 (.osl 3 aB.sz z.2.2.1.length) (.osl 4 (eInt .i64).sz z.2.2.2.length))),(1,.blk 37 (v2 a2)),(2,.blk 32 (w16 0 0 ([] : List aF) ([] : List Int))),(3,.blk 56 (D.flat (z.2.2.1.map aB.d))),(4,.blk 3 (D.flat (z.2.2.2.map (eInt .i64).d)))]⟩) (fun z=>fO a2 z.1 z.2.1 z.2.2.1 z.2.2.2 = some r) ?_ ?_
     ·
      obtain ⟨x29,hx29,h⟩:=aN h
      refine aC (aA rfl (faR 2 rfl rfl rfl Try.underlying32 rfl ti30 (lb rfl) rfl rfl) <|aA rfl (aH (d:=.osl _ _ _) rfl rfl (lb rfl) Try.underlying30 ag30 ti30 (by decide) (svR rfl) rfl (nle rfl) rfl) <|aA rfl (mM rfl rfl (lb rfl) Try.underlying30 (sv (d:=.osl _ _ _) rfl)) <|aA rfl (faR 0 rfl rfl rfl Try.underlying32 rfl ti3 (lb rfl) rfl rfl) <|aA rfl (aH (d:=.int _ _) rfl rfl (lb rfl) Try.underlying3 ag3 ti3 (by decide) (svR rfl) rfl (nle rfl) rfl) <|aA rfl (aL rfl rfl (lb rfl) (svI rfl) (svI rfl) rfl hx29) <|aD ?_)
      refine aP (b:=_) rfl (fun hc30=>?_) (fun hc30=>?_)
      ·
       replace h:=bP h hc30
       refine aS ?_
       obtain ⟨x31,hx31,h⟩:=aN h
       refine aC (aA rfl (faR 3 rfl rfl rfl Try.underlying32 rfl ti23 (lb rfl) rfl rfl) <|aA rfl (aH (d:=.osl _ _ _) rfl rfl (lb rfl) Try.underlying23 ag23 ti23 (by decide) (svR rfl) rfl (nle rfl) rfl) <|aA rfl (mM rfl rfl (lb rfl) Try.underlying23 (sv (d:=.osl _ _ _) rfl)) <|aA rfl (aL rfl rfl (lb rfl) (svI rfl) (sv (d:=.int _ 0) rfl) rfl hx31) <|aD ?_)
       refine aP (b:=_) rfl (fun hc32=>?_) (fun hc32=>?_)
       ·
        replace h:=bP h hc32
        refine aC (aA rfl (lra q7 la32 rfl rfl rfl rfl rfl (nle rfl) rfl) <|aA rfl (stA q7 q7 ti32 rfl rfl rfl rfl rfl rfl rfl rfl (nle rfl) rfl) <|aA rfl (aG rfl rfl (lb rfl) (sv (d:=.int _ 7) rfl)) <|aD ?_)
        refine aW ?_
        refine bA ?_
        refine bA ?_
        obtain rfl:=Option.some.inj h
        refine ⟨.inr rfl,(fun i=>if i = 0 then 1000 else if i = 1 then 1001 else i),⟨.nil,(.cons (EntW.lst rfl) (.cons (EntW.lst rfl) .nil)),bE [1000,1001] rfl (by decide),(fun i hi=>by first | rfl | (show (if _ then _ else _) = _; (repeat' split) <;> omega))⟩,(.cons (rva la32 rfl rfl (nle rfl) rfl) (.cons (sv rfl) .nil)),rfl⟩
       ·
        replace h:=bQ h hc32
        refine aT ?_
        refine aJ ?_
        obtain ⟨x33,hx33,h⟩:=aO h
        obtain ⟨x34,hx34,h⟩:=aO h
        obtain ⟨x35,hx35,h⟩:=aO h
        refine lM rfl [⟨[2],[0],[(59,.agg (w20 a0 a1 (.osl 1000 aB.sz a3.length) (.osl 1001 (eInt .i64).sz a4.length)))],[]⟩,
         ⟨[2],[],[(60,.ref 0 3)],[]⟩,
         ⟨[60],[0],[(61,.osl 1001 (eInt .i64).sz a4.length)],[]⟩,
         ⟨[61],[],[(62,.ref 1001 (((0 : Int).toNat) * (eInt .i64).sz + 0))],[]⟩,
         ⟨[62],[1001],[(63,.int .i64 x34)],[]⟩,
         ⟨[59,63],[3,4,1000,1001],[(64,.agg (w20 x35.1 x35.2.1 (.osl 3 aB.sz x35.2.2.1.length) (.osl 4 (eInt .i64).sz x35.2.2.2.length)))],[(3,.blk 56 (D.flat (x35.2.2.1.map aB.d))),(4,.blk 3 (D.flat (x35.2.2.2.map (eInt .i64).d))),(1000,.none),(1001,.none)]⟩,
         ⟨[2,64],[0],[],[(0,.blk 32 (w20 x35.1 x35.2.1 (.osl 3 aB.sz x35.2.2.1.length) (.osl 4 (eInt .i64).sz x35.2.2.2.length)))]⟩] rfl ?_ (by kernel_rfl) ?_
        ·refine .cons (lop rfl rfl fun S hA=>(dK (cs:=q7) rfl rfl (lb rfl) Try.underlying32 ag32 ti32 (by decide) (svaR hA rfl rfl) (agi hA rfl rfl) (nle rfl) rfl)) ?_
         refine .cons (lop rfl rfl fun S hA=>(aR rfl rfl (lb rfl) Try.underlying32 rfl ti23 (by decide) (svaR hA rfl rfl) (off':=3) rfl)) ?_
         refine .cons (lop rfl rfl fun S hA=>(aH (d:=.osl _ _ _) rfl rfl (lb rfl) Try.underlying23 ag23 ti23 (by decide) (svaR hA rfl rfl) (agi hA rfl rfl) (nle rfl) rfl)) ?_
         refine .cons (lop rfl rfl fun S hA=>(bC (eInt .i64).toEnc0 rfl rfl (lb rfl) Try.underlying23 ti3 (sv (d:=.osl _ _ _) (agr hA rfl rfl)) rfl (sv (d:=.int _ 0) rfl) hx33)) ?_
         refine .cons (lop rfl rfl fun S hA=>(bD (eInt .i64).toEnc0 (d:=.int _ _) rfl rfl (lb rfl) Try.underlying3 ag3 ti3 (by decide) (svaR hA rfl rfl) (agi hA rfl rfl) hx34 (nle rfl) rfl)) ?_
         refine .cons (lop rfl rfl fun S hA=>(oF (r':=.agg (w20 x35.1 x35.2.1 (.osl 3 aB.sz x35.2.2.1.length) (.osl 4 (eInt .i64).sz x35.2.2.2.length))) (U:=[(3,.blk 56 (D.flat (x35.2.2.1.map aB.d))),(4,.blk 3 (D.flat (x35.2.2.2.map (eInt .i64).d))),(1000,.none),(1001,.none)]) 3 2 [1000,1001] rfl rfl (lb rfl) cl31 (.cons (svaA q7 hA rfl rfl) (.cons (svaI hA rfl rfl) .nil)) rfl rfl rfl (List.forall_mem_cons.2 ⟨(agi hA rfl rfl),List.forall_mem_cons.2 ⟨(agi hA rfl rfl),List.forall_mem_nil _⟩⟩) ⟨by decide,rfl,List.forall_mem_cons.2 ⟨⟨rfl,rfl,(lN aB (agi hA rfl rfl)),(dD aB)⟩,List.forall_mem_cons.2 ⟨⟨rfl,rfl,(lN (eInt .i64) (agi hA rfl rfl)),(dD (eInt .i64))⟩,List.forall_mem_nil _⟩⟩⟩ (mD _ _ _ _ _ _ hx35) rfl rfl (List.forall_mem_cons.2 ⟨⟨rfl,(dD aB)⟩,List.forall_mem_cons.2 ⟨⟨rfl,(dD (eInt .i64))⟩,List.forall_mem_nil _⟩⟩) (by simp only [List.map_cons,List.map_nil,Ent.ren,dQ,eU]; rfl))) ?_
         refine .cons (lop rfl rfl fun S hA=>(cV (ds':=q7) rfl rfl ti32 (svaR hA rfl rfl) (agi hA rfl rfl) (svaA q7 hA rfl rfl) rfl rfl rfl (nle rfl) rfl)) ?_
         exact .nil
        refine aJ ⟨(x35.1,x35.2.1,x35.2.2.1,x35.2.2.2),(fun i=>i),⟨(.sames rfl rfl),(.cons (.blk rfl rfl rfl) (.cons (.blk rfl rfl rfl) (.cons (.blk rfl rfl rfl) (.cons (EntW.lst rfl) (.cons (EntW.lst rfl) .nil))))),bE [0,1,2,3,4] rfl (by decide),fun _ _=>rfl⟩,?_⟩
        exact h
      ·
       replace h:=bQ h hc30
       refine aT ?_
       refine aJ ⟨(a0,a1,a3,a4),(fun i=>if i = 3 then 1000 else if i = 4 then 1001 else i),⟨(.sames rfl rfl),(.cons (.blk rfl rfl rfl) (.cons (.blk rfl rfl rfl) (.cons (.blk rfl rfl rfl) (.cons (EntW.lst rfl) (.cons (EntW.lst rfl) .nil))))),bE [0,1,2,1000,1001] rfl (by decide),(fun i hi=>by first | rfl | (show (if _ then _ else _) = _; (repeat' split) <;> omega))⟩,?_⟩
       exact h
     ·
      rintro ⟨v22,v23,v24,v25⟩ h
      unfold fO at h
      obtain ⟨x26,hx26,h⟩:=aO h
      refine aC (aA rfl (lra q7 la32 rfl rfl rfl rfl rfl (nle rfl) rfl) <|aA rfl (faR 1 rfl rfl rfl Try.underlying37 rfl ti3 (lb rfl) rfl rfl) <|aA rfl (aH (d:=.int _ _) rfl rfl (lb rfl) Try.underlying3 ag3 ti3 (by decide) (svR rfl) rfl (nle rfl) rfl) <|aA rfl (jU (r:=.tuple [.int .i64 x26.1,.bool x26.2]) rfl rfl (lb rfl) cl30 (.cons (svA q7 rfl) (.cons (svI rfl) .nil)) (.cons (.agg (.k (.k (.cons (FDT aB rfl rfl) (.cons (FDT (eInt .i64) rfl rfl) .nil))))) (.all _)) rfl rfl (fJ _ _ _ hx26)) <|aA rfl (aE rfl rfl (lb rfl) (sv (d:=.tuple q14) rfl)) <|aA rfl (bH (d:=.int _ _) rfl rfl (lb rfl) (sv (d:=.tuple q14) rfl) rfl) <|aA rfl (bH (d:=.bool _) rfl rfl (lb rfl) (sv (d:=.tuple q14) rfl) rfl) <|aA rfl (asI rfl rfl rfl rfl) <|aA rfl (asB rfl rfl rfl rfl) <|aD ?_)
      obtain ⟨x27,hx27,h⟩:=aO h
      refine aC (aA rfl (faR 2 rfl rfl rfl Try.underlying32 rfl ti30 (lb rfl) rfl rfl) <|aA rfl (aH (d:=.osl _ _ _) rfl rfl (lb rfl) Try.underlying30 ag30 ti30 (by decide) (svR rfl) rfl (nle rfl) rfl) <|aA rfl (mvI rfl rfl rfl rfl) <|aA rfl (faR 1 rfl rfl rfl Try.underlying37 rfl ti3 (lb rfl) rfl rfl) <|aA rfl (aH (d:=.int _ _) rfl rfl (lb rfl) Try.underlying3 ag3 ti3 (by decide) (svR rfl) rfl (nle rfl) rfl) <|aA rfl (faR 1 rfl rfl rfl Try.underlying37 rfl ti3 (lb rfl) rfl rfl) <|aA rfl (aH (d:=.int _ _) rfl rfl (lb rfl) Try.underlying3 ag3 ti3 (by decide) (svR rfl) rfl (nle rfl) rfl) <|aA rfl (dN (cs:=q9) rfl rfl (lb rfl) Try.underlying56 ti56 pl56 rfl (.cons (svI rfl) (.cons (svI rfl) (.cons (sv (d:=.int _ 16) rfl) .nil))) rfl) <|aA rfl (nU aB ([(⟨a2.ID,a2.ID,16,false⟩ : aF)] : (List aF)) 5 rfl rfl (lb rfl) Try.underlying30 ti56 rfl (.cons (svA q9 rfl) .nil) rfl rfl (by decide)) <|aA rfl (cW (r':=.osl 6 aB.sz x27.length) (H1':=[(6,.blk 56 (D.flat (x27.map aB.d)))]) 6 [3] rfl rfl (lb rfl) cl62 (.cons (sv (d:=.osl _ _ _) rfl) (.cons (svI rfl) (.cons (svg rfl) .nil))) rfl rfl ⟨rfl,rfl,by decide,rfl,List.forall_mem_cons.2 ⟨⟨rfl,rfl,(lN aB rfl),(dD aB)⟩,List.forall_mem_nil _⟩⟩ (lG _ _ _ _ hx27) rfl rfl (List.forall_mem_cons.2 ⟨⟨rfl,(dD aB)⟩,List.forall_mem_nil _⟩) (by simp only [List.map_cons,List.map_nil,Ent.ren,dQ,eU]; rfl)) <|aA rfl (faR 2 rfl rfl rfl Try.underlying32 rfl ti30 (lb rfl) rfl rfl) <|aA rfl (cV (ds':=q7) rfl rfl ti30 (svR rfl) rfl (sv (d:=.osl _ _ _) rfl) rfl rfl rfl (nle rfl) rfl) <|aD ?_)
      obtain ⟨x28,hx28,h⟩:=aO h
      refine aC (aA rfl (lra q7 la32 rfl rfl rfl rfl rfl (nle rfl) rfl) <|aA rfl (lra q4 la37 rfl rfl rfl rfl rfl (nle rfl) rfl) <|aA rfl (cW (r':=.agg (w20 x28.1 x28.2.1 (.osl 7 aB.sz x28.2.2.1.length) (.osl 8 (eInt .i64).sz x28.2.2.2.length))) (H1':=[(7,.blk 56 (D.flat (x28.2.2.1.map aB.d))),(8,.blk 3 (D.flat (x28.2.2.2.map (eInt .i64).d)))]) 7 [6,4] rfl rfl (lb rfl) cl61 (.cons (svA q7 rfl) (.cons (svA q4 rfl) .nil)) rfl rfl ⟨rfl,rfl,by decide,rfl,List.forall_mem_cons.2 ⟨⟨rfl,rfl,(lN aB rfl),(dD aB)⟩,List.forall_mem_cons.2 ⟨⟨rfl,rfl,(lN (eInt .i64) rfl),(dD (eInt .i64))⟩,List.forall_mem_nil _⟩⟩⟩ (nE _ _ _ _ _ _ hx28) rfl rfl (List.forall_mem_cons.2 ⟨⟨rfl,(dD aB)⟩,List.forall_mem_cons.2 ⟨⟨rfl,(dD (eInt .i64))⟩,List.forall_mem_nil _⟩⟩) (by simp only [List.map_cons,List.map_nil,Ent.ren,dQ,eU]; rfl)) <|aA rfl (stA q7 q7 ti32 rfl rfl rfl rfl rfl rfl rfl rfl (nle rfl) rfl) <|aA rfl (aG rfl rfl (lb rfl) (sv (d:=.int _ 0) rfl)) <|aD ?_)
      refine aW ?_
      obtain rfl:=Option.some.inj h
      refine ⟨.inr rfl,(fun i=>if i = 0 then 7 else if i = 1 then 8 else i),⟨.nil,(.cons (EntW.lst rfl) (.cons (EntW.lst rfl) .nil)),bE [7,8] rfl (by decide),(fun i hi=>by first | rfl | (show (if _ then _ else _) = _; (repeat' split) <;> omega))⟩,(.cons (rva la32 rfl rfl (nle rfl) rfl) (.cons (sv rfl) .nil)),rfl⟩

theorem pU (a0 : Int) (a1 : Int) (a2 : Int) (a3 : (List aF)) (a4 : (List Int)) (r : (Int × Int × (List aF) × (List Int) × Int)) (h : iM a0 a1 a2 a3 a4 = some r) : FnH Try.prog 29 [.agg (w20 a0 a1 (.osl 1000 aB.sz a3.length) (.osl 1001 (eInt .i64).sz a4.length)),.int .i64 a2] [(1000,.blk 56 (D.flat (a3.map aB.d))),(1001,.blk 3 (D.flat (a4.map (eInt .i64).d)))] (retD [.agg (w20 r.1 r.2.1 (.osl 0 aB.sz r.2.2.1.length) (.osl 1 (eInt .i64).sz r.2.2.2.1.length)),.int .i64 r.2.2.2.2]) [(0,.blk 56 (D.flat (r.2.2.1.map aB.d))),(1,.blk 3 (D.flat (r.2.2.2.1.map (eInt .i64).d)))]:=by
 refine eC (rs:=[.agg (w20 r.1 r.2.1 (.osl 0 aB.sz r.2.2.1.length) (.osl 1 (eInt .i64).sz r.2.2.2.1.length)),.int .i64 r.2.2.2.2]) Try.func29 rfl Try.ntmps29 (nle rfl) fun O hO=>?_
 show IWP _ _ _ _ ⟨[(0,.agg (w20 a0 a1 (.osl 1000 aB.sz a3.length) (.osl 1001 (eInt .i64).sz a4.length))),(1,.int .i64 a2)],[(1000,.blk 56 (D.flat (a3.map aB.d))),(1001,.blk 3 (D.flat (a4.map (eInt .i64).d)))]⟩ _
 unfold iM at h
 refine aC (aA rfl (cK (cs:=q7) 0 rfl rfl (lb rfl) rfl (svA q7 rfl) rfl rfl) <|aA rfl (bX (cs:=q11) (cs':=(w16 0 0 ([] : List aF) ([] : List Int))) 1 rfl rfl (lb rfl) rfl ti32 rfl rfl (.k (.k (.cons (.nils _) (.cons (.nils _) .nil))))) <|aA rfl (aG rfl rfl (lb rfl) (sv (d:=.int _ 0) rfl)) <|aD ?_)
 obtain ⟨x1,hx1,h⟩:=aO h
 refine aC (aA rfl (lra q7 la32 rfl rfl rfl rfl rfl (nle rfl) rfl) <|aA rfl (mvI rfl rfl rfl rfl) <|aA rfl (jU (r:=.tuple [.int .i64 x1.1,.bool x1.2]) rfl rfl (lb rfl) cl30 (.cons (svA q7 rfl) (.cons (svI rfl) .nil)) (.cons (.agg (.k (.k (.cons (FDT aB rfl rfl) (.cons (FDT (eInt .i64) rfl rfl) .nil))))) (.all _)) rfl rfl (fJ _ _ _ hx1)) <|aA rfl (aE rfl rfl (lb rfl) (sv (d:=.tuple q14) rfl)) <|aA rfl (bH (d:=.int _ _) rfl rfl (lb rfl) (sv (d:=.tuple q14) rfl) rfl) <|aA rfl (bH (d:=.bool _) rfl rfl (lb rfl) (sv (d:=.tuple q14) rfl) rfl) <|aA rfl (asI rfl rfl rfl rfl) <|aA rfl (asB rfl rfl rfl rfl) <|aD ?_)
 refine aS ?_
 refine aV ?_
 refine aC (aA rfl (mvB rfl rfl rfl rfl) <|aA rfl (iB rfl rfl (lb rfl) (svB rfl)) <|aA rfl (asB rfl rfl rfl rfl) <|aD ?_)
 refine aP (b:=_) rfl (fun hc2=>?_) (fun hc2=>?_)
 ·
  replace h:=bP h hc2
  refine aC (aA rfl (lra q7 la32 rfl rfl rfl rfl rfl (nle rfl) rfl) <|aA rfl (stA q7 q7 ti32 rfl rfl rfl rfl rfl rfl rfl rfl (nle rfl) rfl) <|aA rfl (aG rfl rfl (lb rfl) (sv (d:=.int _ 6) rfl)) <|aD ?_)
  refine aW ?_
  refine bN ?_
  refine bA ?_
  obtain rfl:=Option.some.inj h
  refine ⟨.inr rfl,(fun i=>if i = 0 then 1000 else if i = 1 then 1001 else i),⟨.nil,(.cons (EntW.lst rfl) (.cons (EntW.lst rfl) .nil)),bE [1000,1001] rfl (by decide),(fun i hi=>by first | rfl | (show (if _ then _ else _) = _; (repeat' split) <;> omega))⟩,(.cons (rva la32 rfl rfl (nle rfl) rfl) (.cons (sv rfl) .nil)),rfl⟩
 ·
  replace h:=bQ h hc2
  obtain ⟨x3,hx3,h⟩:=aO h
  obtain ⟨x4,hx4,h⟩:=aO h
  refine aC (aA rfl (faR 2 rfl rfl rfl Try.underlying32 rfl ti30 (lb rfl) rfl rfl) <|aA rfl (aH (d:=.osl _ _ _) rfl rfl (lb rfl) Try.underlying30 ag30 ti30 (by decide) (svR rfl) rfl (nle rfl) rfl) <|aA rfl (mvI rfl rfl rfl rfl) <|aA rfl (bC aB.toEnc0 rfl rfl (lb rfl) Try.underlying30 ti56 (sv (d:=.osl _ _ _) rfl) rfl (svI rfl) hx3) <|aA rfl (gT rfl rfl (lb rfl) Try.underlying56 rfl ti4 (by decide) (svR rfl) (k':=3) rfl) <|aA rfl (bD aB.toEnc0 (d:=.bool _) rfl rfl (lb rfl) Try.underlying4 ag4 ti4 (by decide) (svR rfl) rfl hx4 (nle rfl) rfl) <|aA rfl (asB rfl rfl rfl rfl) <|aD ?_)
  refine aP (b:=_) rfl (fun hc5=>?_) (fun hc5=>?_)
  ·
   replace h:=bP h hc5
   refine aC (aA rfl (lra q7 la32 rfl rfl rfl rfl rfl (nle rfl) rfl) <|aA rfl (stA q7 q7 ti32 rfl rfl rfl rfl rfl rfl rfl rfl (nle rfl) rfl) <|aA rfl (aG rfl rfl (lb rfl) (sv (d:=.int _ 9) rfl)) <|aD ?_)
   refine aW ?_
   refine bN ?_
   refine bA ?_
   obtain rfl:=Option.some.inj h
   refine ⟨.inr rfl,(fun i=>if i = 0 then 1000 else if i = 1 then 1001 else i),⟨.nil,(.cons (EntW.lst rfl) (.cons (EntW.lst rfl) .nil)),bE [1000,1001] rfl (by decide),(fun i hi=>by first | rfl | (show (if _ then _ else _) = _; (repeat' split) <;> omega))⟩,(.cons (rva la32 rfl rfl (nle rfl) rfl) (.cons (sv rfl) .nil)),rfl⟩
  ·
   replace h:=bQ h hc5
   refine aT ?_
   refine bJ ?_
   refine aJ ?_
   obtain ⟨x6,hx6,h⟩:=aO h
   obtain ⟨x7,hx7,h⟩:=aO h
   obtain ⟨x8,hx8,h⟩:=aN h
   refine aC (aA rfl (faR 2 rfl rfl rfl Try.underlying32 rfl ti30 (lb rfl) rfl rfl) <|aA rfl (aH (d:=.osl _ _ _) rfl rfl (lb rfl) Try.underlying30 ag30 ti30 (by decide) (svR rfl) rfl (nle rfl) rfl) <|aA rfl (mvI rfl rfl rfl rfl) <|aA rfl (bC aB.toEnc0 rfl rfl (lb rfl) Try.underlying30 ti56 (sv (d:=.osl _ _ _) rfl) rfl (svI rfl) hx6) <|aA rfl (gT rfl rfl (lb rfl) Try.underlying56 rfl ti4 (by decide) (svR rfl) (k':=3) rfl) <|aA rfl (cJ aB.toEnc0 (a':=(⟨x7.ID,x7.Parent,x7.Weight,true⟩ : aF)) rfl rfl ti4 (svR rfl) rfl (sv (d:=.bool true) rfl) rfl rfl rfl hx7 (nle rfl) rfl hx8) <|aD ?_)
   obtain ⟨x9,hx9,h⟩:=aO h
   refine aC (aA rfl (faR 3 rfl rfl rfl Try.underlying32 rfl ti23 (lb rfl) rfl rfl) <|aA rfl (aH (d:=.osl _ _ _) rfl rfl (lb rfl) Try.underlying23 ag23 ti23 (by decide) (svR rfl) rfl (nle rfl) rfl) <|aA rfl (mvI rfl rfl rfl rfl) <|aA rfl (nV (eInt .i64).toEnc0 ([a2] : (List Int)) 2 rfl rfl (lb rfl) Try.underlying23 ti3 rfl (.cons (svI rfl) .nil) rfl rfl (by decide)) <|aA rfl (mE (eInt .i64).toEnc0 3 rfl rfl (lb rfl) Try.underlying23 ti3 rfl rfl rfl rfl rfl (uV (eInt .i64).toEnc0 rfl rfl rfl) hx9) <|aA rfl (faR 3 rfl rfl rfl Try.underlying32 rfl ti23 (lb rfl) rfl rfl) <|aA rfl (cV (ds':=q7) rfl rfl ti23 (svR rfl) rfl (sv (d:=.osl _ _ _) rfl) rfl rfl rfl (nle rfl) rfl) <|aD ?_)
   refine aS ?_
   obtain ⟨x10,hx10,h⟩:=aN h
   refine aC (aA rfl (faR 3 rfl rfl rfl Try.underlying32 rfl ti23 (lb rfl) rfl rfl) <|aA rfl (aH (d:=.osl _ _ _) rfl rfl (lb rfl) Try.underlying23 ag23 ti23 (by decide) (svR rfl) rfl (nle rfl) rfl) <|aA rfl (mM rfl rfl (lb rfl) Try.underlying23 (sv (d:=.osl _ _ _) rfl)) <|aA rfl (faR 1 rfl rfl rfl Try.underlying32 rfl ti3 (lb rfl) rfl rfl) <|aA rfl (aH (d:=.int _ _) rfl rfl (lb rfl) Try.underlying3 ag3 ti3 (by decide) (svR rfl) rfl (nle rfl) rfl) <|aA rfl (aL rfl rfl (lb rfl) (svI rfl) (svI rfl) rfl hx10) <|aD ?_)
   refine aP (b:=_) rfl (fun hc11=>?_) (fun hc11=>?_)
   ·
    replace h:=bP h hc11
    obtain ⟨x12,hx12,h⟩:=aO h
    obtain ⟨x13,hx13,h⟩:=aO h
    obtain ⟨x14,hx14,h⟩:=aO h
    refine lM rfl [⟨[2],[0],[(43,.agg (w20 a0 a1 (.osl 1000 aB.sz a3.length) (.osl 3 (eInt .i64).sz x9.length)))],[]⟩,
     ⟨[2],[],[(44,.ref 0 3)],[]⟩,
     ⟨[44],[0],[(45,.osl 3 (eInt .i64).sz x9.length)],[]⟩,
     ⟨[45],[],[(46,.ref 3 (((0 : Int).toNat) * (eInt .i64).sz + 0))],[]⟩,
     ⟨[46],[3],[(47,.int .i64 x13)],[]⟩,
     ⟨[43,47],[3,4,5,1000],[(48,.agg (w20 x14.1 x14.2.1 (.osl 4 aB.sz x14.2.2.1.length) (.osl 5 (eInt .i64).sz x14.2.2.2.length)))],[(4,.blk 56 (D.flat (x14.2.2.1.map aB.d))),(5,.blk 3 (D.flat (x14.2.2.2.map (eInt .i64).d))),(1000,.none),(3,.none)]⟩,
     ⟨[2,48],[0],[],[(0,.blk 32 (w20 x14.1 x14.2.1 (.osl 4 aB.sz x14.2.2.1.length) (.osl 5 (eInt .i64).sz x14.2.2.2.length)))]⟩] rfl ?_ (by kernel_rfl) ?_
    ·refine .cons (lop rfl rfl fun S hA=>(dK (cs:=q7) rfl rfl (lb rfl) Try.underlying32 ag32 ti32 (by decide) (svaR hA rfl rfl) (agi hA rfl rfl) (nle rfl) rfl)) ?_
     refine .cons (lop rfl rfl fun S hA=>(aR rfl rfl (lb rfl) Try.underlying32 rfl ti23 (by decide) (svaR hA rfl rfl) (off':=3) rfl)) ?_
     refine .cons (lop rfl rfl fun S hA=>(aH (d:=.osl _ _ _) rfl rfl (lb rfl) Try.underlying23 ag23 ti23 (by decide) (svaR hA rfl rfl) (agi hA rfl rfl) (nle rfl) rfl)) ?_
     refine .cons (lop rfl rfl fun S hA=>(bC (eInt .i64).toEnc0 rfl rfl (lb rfl) Try.underlying23 ti3 (sv (d:=.osl _ _ _) (agr hA rfl rfl)) rfl (sv (d:=.int _ 0) rfl) hx12)) ?_
     refine .cons (lop rfl rfl fun S hA=>(bD (eInt .i64).toEnc0 (d:=.int _ _) rfl rfl (lb rfl) Try.underlying3 ag3 ti3 (by decide) (svaR hA rfl rfl) (agi hA rfl rfl) hx13 (nle rfl) rfl)) ?_
     refine .cons (lop rfl rfl fun S hA=>(oF (r':=.agg (w20 x14.1 x14.2.1 (.osl 4 aB.sz x14.2.2.1.length) (.osl 5 (eInt .i64).sz x14.2.2.2.length))) (U:=[(4,.blk 56 (D.flat (x14.2.2.1.map aB.d))),(5,.blk 3 (D.flat (x14.2.2.2.map (eInt .i64).d))),(1000,.none),(3,.none)]) 4 2 [1000,3] rfl rfl (lb rfl) cl31 (.cons (sv (d:=.agg (w20 a0 a1 (.osl 1000 aB.sz x8.length) (.osl 3 (eInt .i64).sz x9.length))) ((show _ = .agg (w20 a0 a1 (.osl 1000 aB.sz a3.length) (.osl 3 (eInt .i64).sz x9.length)) from (agr hA rfl rfl)).trans (by rw [(dO hx8 rfl)]))) (.cons (svaI hA rfl rfl) .nil)) rfl rfl rfl (List.forall_mem_cons.2 ⟨(agi hA rfl rfl),List.forall_mem_cons.2 ⟨(agi hA rfl rfl),List.forall_mem_nil _⟩⟩) ⟨by decide,rfl,List.forall_mem_cons.2 ⟨⟨rfl,rfl,(lN aB (agi hA rfl rfl)),(dD aB)⟩,List.forall_mem_cons.2 ⟨⟨rfl,rfl,(lN (eInt .i64) (agi hA rfl rfl)),(dD (eInt .i64))⟩,List.forall_mem_nil _⟩⟩⟩ (mD _ _ _ _ _ _ hx14) rfl rfl (List.forall_mem_cons.2 ⟨⟨rfl,(dD aB)⟩,List.forall_mem_cons.2 ⟨⟨rfl,(dD (eInt .i64))⟩,List.forall_mem_nil _⟩⟩) (by simp only [List.map_cons,List.map_nil,Ent.ren,dQ,eU]; rfl))) ?_
     refine .cons (lop rfl rfl fun S hA=>(cV (ds':=q7) rfl rfl ti32 (svaR hA rfl rfl) (agi hA rfl rfl) (svaA q7 hA rfl rfl) rfl rfl rfl (nle rfl) rfl)) ?_
     exact .nil
    refine aJ ?_
    refine aC (aA rfl (lra q7 la32 rfl rfl rfl rfl rfl (nle rfl) rfl) <|aA rfl (stA q7 q7 ti32 rfl rfl rfl rfl rfl rfl rfl rfl (nle rfl) rfl) <|aA rfl (aG rfl rfl (lb rfl) (sv (d:=.int _ 0) rfl)) <|aD ?_)
    refine aW ?_
    obtain rfl:=Option.some.inj h
    refine ⟨.inr rfl,(fun i=>if i = 0 then 4 else if i = 1 then 5 else i),⟨.nil,(.cons (EntW.lst rfl) (.cons (EntW.lst rfl) .nil)),bE [4,5] rfl (by decide),(fun i hi=>by first | rfl | (show (if _ then _ else _) = _; (repeat' split) <;> omega))⟩,(.cons (rva la32 rfl rfl (nle rfl) rfl) (.cons (sv rfl) .nil)),rfl⟩
   ·
    replace h:=bQ h hc11
    refine aT ?_
    refine aJ ?_
    refine aC (aA rfl (lra q7 la32 rfl rfl rfl rfl rfl (nle rfl) rfl) <|aA rfl (stA q7 q7 ti32 rfl rfl rfl rfl rfl rfl rfl rfl (nle rfl) rfl) <|aA rfl (aG rfl rfl (lb rfl) (sv (d:=.int _ 0) rfl)) <|aD ?_)
    refine aW ?_
    obtain rfl:=Option.some.inj h
    refine ⟨.inr rfl,(fun i=>if i = 0 then 1000 else if i = 1 then 3 else i),⟨.nil,(.cons (EntW.lst rfl) (.cons (EntW.lst rfl) .nil)),bE [1000,3] rfl (by decide),(fun i hi=>by first | rfl | (show (if _ then _ else _) = _; (repeat' split) <;> omega))⟩,(.cons (rva la32 rfl rfl (nle rfl) (by rw [← (dO hx8 rfl)]; rfl)) (.cons (sv rfl) .nil)),rfl⟩

theorem vB (a0 : aK) (a1 : dI) (r : (aK × Int)) (h : pZ a0 a1 = some r) : dP Try.prog 10 [.agg (v0 a0),.agg (v2 a1)] (retD [.agg (v0 r.1),.int .i64 r.2]):=by
 refine mP (rs:=[.agg (v0 r.1),.int .i64 r.2]) Try.func10 rfl Try.ntmps10 (nle rfl) rfl fun O hO=>?_
 show IWP _ _ _ _ ⟨[(0,.agg (v0 a0)),(1,.agg (v2 a1))],[]⟩ _
 unfold pZ at h
 refine aC (aA rfl (cK (cs:=q5) 0 rfl rfl (lb rfl) rfl (svA q5 rfl) rfl rfl) <|aA rfl (cK (cs:=q4) 1 rfl rfl (lb rfl) rfl (svA q4 rfl) rfl rfl) <|aA rfl (bX (cs:=q11) (cs':=(w16 0 0 ([] : List aF) ([] : List Int))) 2 rfl rfl (lb rfl) rfl ti32 rfl rfl (.k (.k (.cons (.nils _) (.cons (.nils _) .nil))))) <|aA rfl (aG rfl rfl (lb rfl) (sv (d:=.int _ 0) rfl)) <|aD ?_)
 obtain ⟨x1,hx1,h⟩:=aO h
 refine aC (aA rfl (lra q5 la32 rfl rfl rfl rfl rfl (nle rfl) rfl) <|aA rfl (cW (r':=.agg (w20 x1.1 x1.2.1 (.osl 3 aB.sz x1.2.2.1.length) (.osl 4 (eInt .i64).sz x1.2.2.2.length))) (H1':=[(3,.blk 56 (D.flat (x1.2.2.1.map aB.d))),(4,.blk 3 (D.flat (x1.2.2.2.map (eInt .i64).d)))]) 3 [] rfl rfl (lb rfl) cl27 (.cons (svA q5 rfl) .nil) rfl rfl ⟨rfl,rfl,by decide,rfl,List.forall_mem_nil _⟩ (qG _ _ hx1) rfl rfl (List.forall_mem_cons.2 ⟨⟨rfl,(dD aB)⟩,List.forall_mem_cons.2 ⟨⟨rfl,(dD (eInt .i64))⟩,List.forall_mem_nil _⟩⟩) (by simp only [List.map_cons,List.map_nil,Ent.ren,dQ,eU]; rfl)) <|aA rfl (bX (cs:=q11) (cs':=(w16 0 0 ([] : List aF) ([] : List Int))) 5 rfl rfl (lb rfl) rfl ti32 rfl rfl (.k (.k (.cons (.nils _) (.cons (.nils _) .nil))))) <|aA rfl (stA q7 q7 ti32 rfl rfl rfl rfl rfl rfl rfl rfl (nle rfl) rfl) <|aD ?_)
 refine aS ?_
 obtain ⟨x2,hx2,h⟩:=aO h
 refine aC (aA rfl (lra q5 la32 rfl rfl rfl rfl rfl (nle rfl) rfl) <|aA rfl (aX (r:=.int _ _) rfl rfl (lb rfl) cl14 (.cons (svA q5 rfl) .nil) rfl (lI _ _ hx2)) <|aA rfl (asI rfl rfl rfl rfl) <|aD ?_)
 obtain ⟨x3,hx3,h⟩:=aN h
 refine aC (aA rfl (mvI rfl rfl rfl rfl) <|aA rfl (aL rfl rfl (lb rfl) (svI rfl) (sv (d:=.int _ 0) rfl) rfl hx3) <|aD ?_)
 refine aP (b:=_) rfl (fun hc4=>?_) (fun hc4=>?_)
 ·
  replace h:=bP h hc4
  refine aC (aA rfl (lra q7 la32 rfl rfl rfl rfl rfl (nle rfl) rfl) <|aA rfl (mvI rfl rfl rfl rfl) <|aA rfl (stA q7 q7 ti32 rfl rfl rfl rfl rfl rfl rfl rfl (nle rfl) rfl) <|aA rfl (asI rfl rfl rfl rfl) <|aD ?_)
  refine aW ?_
  refine bA ?_
  obtain rfl:=Option.some.inj h
  refine ⟨.inr rfl,_,(.cons (rva la32 rfl rfl (nle rfl) rfl) (.cons (sv rfl) .nil)),(.cons (.agg (.k (.k (.cons (FDT aB rfl rfl) (.cons (FDT (eInt .i64) rfl rfl) .nil))))) (.all _))⟩
 ·
  replace h:=bQ h hc4
  refine aT ?_
  refine aJ ?_
  refine aS ?_
  refine aC (aA rfl (faR 0 rfl rfl rfl Try.underlying37 rfl ti5 (lb rfl) rfl rfl) <|aA rfl (aH (d:=.int _ _) rfl rfl (lb rfl) Try.underlying5 ag5 ti5 (by decide) (svR rfl) rfl (nle rfl) rfl) <|aD ?_)
  refine aV ?_
  refine iA (α:=Bool) (fun z=>⟨[(3,.ref 1 0),(4,.ref 2 0),(6,.ref 5 0),(19,.int .u8 a1.Kind),(20,.bool z)],[(1,.blk 37 (v2 a1)),(2,.blk 32 (w16 0 0 ([] : List aF) ([] : List Int))),(5,.blk 32 (w20 x1.1 x1.2.1 (.osl 3 aB.sz x1.2.2.1.length) (.osl 4 (eInt .i64).sz x1.2.2.2.length))),(3,.blk 56 (D.flat (x1.2.2.1.map aB.d))),(4,.blk 3 (D.flat (x1.2.2.2.map (eInt .i64).d)))]⟩) (fun z=>lO a1 x1 z = some r) ?_ ?_
  ·
   obtain ⟨x19,hx19,h⟩:=aN h
   refine aC (aA rfl (aL rfl rfl (lb rfl) (svI rfl) (sv (d:=.int _ 0) rfl) rfl hx19) <|aA rfl (asB rfl rfl rfl rfl) <|aD ?_)
   refine aP (b:=_) rfl (fun hc20=>?_) (fun hc20=>?_)
   ·
    replace h:=bP h hc20
    refine aT ?_
    refine aJ ⟨x19,(fun i=>i),⟨(.sames rfl rfl),(.cons (.blk rfl rfl rfl) (.cons (.blk rfl rfl rfl) (.cons (.blk rfl rfl rfl) (.cons (EntW.lst rfl) (.cons (EntW.lst rfl) .nil))))),bE [1,2,5,3,4] rfl (by decide),fun _ _=>rfl⟩,?_⟩
    exact h
   ·
    replace h:=bQ h hc20
    obtain ⟨x21,hx21,h⟩:=aN h
    refine aU (aA rfl (aL rfl rfl (lb rfl) (svI rfl) (sv (d:=.int _ 1) rfl) rfl hx21) <|aA rfl (asB rfl rfl rfl rfl) <|bI ?_)
    refine aJ ⟨x21,(fun i=>i),⟨(.sames rfl rfl),(.cons (.blk rfl rfl rfl) (.cons (.blk rfl rfl rfl) (.cons (.blk rfl rfl rfl) (.cons (EntW.lst rfl) (.cons (EntW.lst rfl) .nil))))),bE [1,2,5,3,4] rfl (by decide),fun _ _=>rfl⟩,?_⟩
    exact h
  ·
   rintro v8 h
   unfold lO at h
   refine aP (b:=_) rfl (fun hc9=>?_) (fun hc9=>?_)
   ·
    replace h:=bP h hc9
    obtain ⟨x10,hx10,h⟩:=aO h
    refine aC (aA rfl (lra q7 la32 rfl rfl rfl rfl rfl (nle rfl) rfl) <|aA rfl (lra q4 la37 rfl rfl rfl rfl rfl (nle rfl) rfl) <|aA rfl (cW (r':=.tuple [.agg (w20 x10.1 x10.2.1 (.osl 6 aB.sz x10.2.2.1.length) (.osl 7 (eInt .i64).sz x10.2.2.2.1.length)),.int .i64 x10.2.2.2.2]) (H1':=[(6,.blk 56 (D.flat (x10.2.2.1.map aB.d))),(7,.blk 3 (D.flat (x10.2.2.2.1.map (eInt .i64).d)))]) 6 [3,4] rfl rfl (lb rfl) cl28 (.cons (svA q7 rfl) (.cons (svA q4 rfl) .nil)) rfl rfl ⟨rfl,rfl,by decide,rfl,List.forall_mem_cons.2 ⟨⟨rfl,rfl,(lN aB rfl),(dD aB)⟩,List.forall_mem_cons.2 ⟨⟨rfl,rfl,(lN (eInt .i64) rfl),(dD (eInt .i64))⟩,List.forall_mem_nil _⟩⟩⟩ (pO _ _ _ _ _ _ hx10) rfl rfl (List.forall_mem_cons.2 ⟨⟨rfl,(dD aB)⟩,List.forall_mem_cons.2 ⟨⟨rfl,(dD (eInt .i64))⟩,List.forall_mem_nil _⟩⟩) (by simp only [List.map_cons,List.map_nil,Ent.ren,dQ,eU]; rfl)) <|aA rfl (bH (d:=.agg q7) rfl rfl (lb rfl) (sv (d:=.tuple [.agg q7,.int _ _]) rfl) rfl) <|aA rfl (bH (d:=.int _ _) rfl rfl (lb rfl) (sv (d:=.tuple [.agg q7,.int _ _]) rfl) rfl) <|aA rfl (stA q7 q7 ti32 rfl rfl rfl rfl rfl rfl rfl rfl (nle rfl) rfl) <|aA rfl (asI rfl rfl rfl rfl) <|aD ?_)
    refine aW ?_
    refine bN ?_
    refine bA ?_
    obtain rfl:=Option.some.inj h
    refine ⟨.inr rfl,_,(.cons (rva la32 rfl rfl (nle rfl) rfl) (.cons (sv rfl) .nil)),(.cons (.agg (.k (.k (.cons (FDT aB rfl rfl) (.cons (FDT (eInt .i64) rfl rfl) .nil))))) (.all _))⟩
   ·
    replace h:=bQ h hc9
    obtain ⟨x11,hx11,h⟩:=aN h
    refine aC (aA rfl (aL rfl rfl (lb rfl) (svI rfl) (sv (d:=.int _ 2) rfl) rfl hx11) <|aA rfl (asB rfl rfl rfl rfl) <|aD ?_)
    refine aP (b:=_) rfl (fun hc12=>?_) (fun hc12=>?_)
    ·
     replace h:=bP h hc12
     obtain ⟨x13,hx13,h⟩:=aO h
     refine aC (aA rfl (lra q7 la32 rfl rfl rfl rfl rfl (nle rfl) rfl) <|aA rfl (faR 1 rfl rfl rfl Try.underlying37 rfl ti3 (lb rfl) rfl rfl) <|aA rfl (aH (d:=.int _ _) rfl rfl (lb rfl) Try.underlying3 ag3 ti3 (by decide) (svR rfl) rfl (nle rfl) rfl) <|aA rfl (cW (r':=.tuple [.agg (w20 x13.1 x13.2.1 (.osl 6 aB.sz x13.2.2.1.length) (.osl 7 (eInt .i64).sz x13.2.2.2.1.length)),.int .i64 x13.2.2.2.2]) (H1':=[(6,.blk 56 (D.flat (x13.2.2.1.map aB.d))),(7,.blk 3 (D.flat (x13.2.2.2.1.map (eInt .i64).d)))]) 6 [3,4] rfl rfl (lb rfl) cl29 (.cons (svA q7 rfl) (.cons (svI rfl) .nil)) rfl rfl ⟨rfl,rfl,by decide,rfl,List.forall_mem_cons.2 ⟨⟨rfl,rfl,(lN aB rfl),(dD aB)⟩,List.forall_mem_cons.2 ⟨⟨rfl,rfl,(lN (eInt .i64) rfl),(dD (eInt .i64))⟩,List.forall_mem_nil _⟩⟩⟩ (pU _ _ _ _ _ _ hx13) rfl rfl (List.forall_mem_cons.2 ⟨⟨rfl,(dD aB)⟩,List.forall_mem_cons.2 ⟨⟨rfl,(dD (eInt .i64))⟩,List.forall_mem_nil _⟩⟩) (by simp only [List.map_cons,List.map_nil,Ent.ren,dQ,eU]; rfl)) <|aA rfl (bH (d:=.agg q7) rfl rfl (lb rfl) (sv (d:=.tuple [.agg q7,.int _ _]) rfl) rfl) <|aA rfl (bH (d:=.int _ _) rfl rfl (lb rfl) (sv (d:=.tuple [.agg q7,.int _ _]) rfl) rfl) <|aA rfl (stA q7 q7 ti32 rfl rfl rfl rfl rfl rfl rfl rfl (nle rfl) rfl) <|aA rfl (asI rfl rfl rfl rfl) <|aD ?_)
     refine aW ?_
     refine bN ?_
     refine bA ?_
     obtain rfl:=Option.some.inj h
     refine ⟨.inr rfl,_,(.cons (rva la32 rfl rfl (nle rfl) rfl) (.cons (sv rfl) .nil)),(.cons (.agg (.k (.k (.cons (FDT aB rfl rfl) (.cons (FDT (eInt .i64) rfl rfl) .nil))))) (.all _))⟩
    ·
     replace h:=bQ h hc12
     obtain ⟨x14,hx14,h⟩:=aN h
     refine aC (aA rfl (aL rfl rfl (lb rfl) (svI rfl) (sv (d:=.int _ 3) rfl) rfl hx14) <|aA rfl (asB rfl rfl rfl rfl) <|aD ?_)
     refine aP (b:=_) rfl (fun hc15=>?_) (fun hc15=>?_)
     ·
      replace h:=bP h hc15
      refine aS ?_
      obtain ⟨x16,hx16,h⟩:=aO h
      refine aC (aA rfl (lra q7 la32 rfl rfl rfl rfl rfl (nle rfl) rfl) <|aA rfl (faR 1 rfl rfl rfl Try.underlying37 rfl ti3 (lb rfl) rfl rfl) <|aA rfl (aH (d:=.int _ _) rfl rfl (lb rfl) Try.underlying3 ag3 ti3 (by decide) (svR rfl) rfl (nle rfl) rfl) <|aA rfl (jU (r:=.tuple [.int .i64 x16.1,.bool x16.2]) rfl rfl (lb rfl) cl30 (.cons (svA q7 rfl) (.cons (svI rfl) .nil)) (.cons (.agg (.k (.k (.cons (FDT aB rfl rfl) (.cons (FDT (eInt .i64) rfl rfl) .nil))))) (.all _)) rfl rfl (fJ _ _ _ hx16)) <|aA rfl (aE rfl rfl (lb rfl) (sv (d:=.tuple q14) rfl)) <|aA rfl (bH (d:=.int _ _) rfl rfl (lb rfl) (sv (d:=.tuple q14) rfl) rfl) <|aA rfl (bH (d:=.bool _) rfl rfl (lb rfl) (sv (d:=.tuple q14) rfl) rfl) <|aA rfl (asI rfl rfl rfl rfl) <|aA rfl (asB rfl rfl rfl rfl) <|aD ?_)
      refine aC (aA rfl (mvB rfl rfl rfl rfl) <|aA rfl (iB rfl rfl (lb rfl) (svB rfl)) <|aD ?_)
      refine aP (b:=_) rfl (fun hc17=>?_) (fun hc17=>?_)
      ·
       replace h:=bP h hc17
       refine aC (aA rfl (lra q7 la32 rfl rfl rfl rfl rfl (nle rfl) rfl) <|aA rfl (stA q7 q7 ti32 rfl rfl rfl rfl rfl rfl rfl rfl (nle rfl) rfl) <|aA rfl (aG rfl rfl (lb rfl) (sv (d:=.int _ 6) rfl)) <|aD ?_)
       refine aW ?_
       refine bA ?_
       refine bN ?_
       refine bA ?_
       obtain rfl:=Option.some.inj h
       refine ⟨.inr rfl,_,(.cons (rva la32 rfl rfl (nle rfl) rfl) (.cons (sv rfl) .nil)),(.cons (.agg (.k (.k (.cons (FDT aB rfl rfl) (.cons (FDT (eInt .i64) rfl rfl) .nil))))) (.all _))⟩
      ·
       replace h:=bQ h hc17
       refine aT ?_
       refine aJ ?_
       obtain ⟨x18,hx18,h⟩:=aO h
       refine aC (aA rfl (lra q7 la32 rfl rfl rfl rfl rfl (nle rfl) rfl) <|aA rfl (faR 1 rfl rfl rfl Try.underlying37 rfl ti3 (lb rfl) rfl rfl) <|aA rfl (aH (d:=.int _ _) rfl rfl (lb rfl) Try.underlying3 ag3 ti3 (by decide) (svR rfl) rfl (nle rfl) rfl) <|aA rfl (cW (r':=.agg (w20 x18.1 x18.2.1 (.osl 6 aB.sz x18.2.2.1.length) (.osl 7 (eInt .i64).sz x18.2.2.2.length))) (H1':=[(6,.blk 56 (D.flat (x18.2.2.1.map aB.d))),(7,.blk 3 (D.flat (x18.2.2.2.map (eInt .i64).d)))]) 6 [3,4] rfl rfl (lb rfl) cl31 (.cons (svA q7 rfl) (.cons (svI rfl) .nil)) rfl rfl ⟨rfl,rfl,by decide,rfl,List.forall_mem_cons.2 ⟨⟨rfl,rfl,(lN aB rfl),(dD aB)⟩,List.forall_mem_cons.2 ⟨⟨rfl,rfl,(lN (eInt .i64) rfl),(dD (eInt .i64))⟩,List.forall_mem_nil _⟩⟩⟩ (mD _ _ _ _ _ _ hx18) rfl rfl (List.forall_mem_cons.2 ⟨⟨rfl,(dD aB)⟩,List.forall_mem_cons.2 ⟨⟨rfl,(dD (eInt .i64))⟩,List.forall_mem_nil _⟩⟩) (by simp only [List.map_cons,List.map_nil,Ent.ren,dQ,eU]; rfl)) <|aA rfl (stA q7 q7 ti32 rfl rfl rfl rfl rfl rfl rfl rfl (nle rfl) rfl) <|aA rfl (aG rfl rfl (lb rfl) (sv (d:=.int _ 0) rfl)) <|aD ?_)
       refine aW ?_
       refine bN ?_
       refine bA ?_
       obtain rfl:=Option.some.inj h
       refine ⟨.inr rfl,_,(.cons (rva la32 rfl rfl (nle rfl) rfl) (.cons (sv rfl) .nil)),(.cons (.agg (.k (.k (.cons (FDT aB rfl rfl) (.cons (FDT (eInt .i64) rfl rfl) .nil))))) (.all _))⟩
     ·
      replace h:=bQ h hc15
      refine aT ?_
      refine bJ ?_
      refine aJ ?_
      refine aC (aA rfl (lra q7 la32 rfl rfl rfl rfl rfl (nle rfl) rfl) <|aA rfl (stA q7 q7 ti32 rfl rfl rfl rfl rfl rfl rfl rfl (nle rfl) rfl) <|aA rfl (aG rfl rfl (lb rfl) (sv (d:=.int _ 12) rfl)) <|aD ?_)
      refine aW ?_
      obtain rfl:=Option.some.inj h
      refine ⟨.inr rfl,_,(.cons (rva la32 rfl rfl (nle rfl) rfl) (.cons (sv rfl) .nil)),(.cons (.agg (.k (.k (.cons (FDT aB rfl rfl) (.cons (FDT (eInt .i64) rfl rfl) .nil))))) (.all _))⟩

theorem xS (a0 : aK) (a1 : (List dI)) (r : (aK × (List Int))) (h : uO a0 a1 = some r) : dP Try.prog 26 [.agg (v0 a0),.slice false (a1.map nK.d)] (retD [.agg (v0 r.1),.slice false (r.2.map (eInt .i64).d)]):=by
 refine mP (rs:=[.agg (v0 r.1),.slice false (r.2.map (eInt .i64).d)]) Try.func26 rfl Try.ntmps26 (nle rfl) rfl fun O hO=>?_
 show IWP _ _ _ _ ⟨[(0,.agg (v0 a0)),(1,.slice false (a1.map nK.d))],[]⟩ _
 unfold uO at h
 refine aC (aA rfl (cK (cs:=q5) 0 rfl rfl (lb rfl) rfl (svA q5 rfl) rfl rfl) <|aA rfl (bX (cs:=q11) (cs':=(w16 0 0 ([] : List aF) ([] : List Int))) 1 rfl rfl (lb rfl) rfl ti32 rfl rfl (.k (.k (.cons (.nils _) (.cons (.nils _) .nil))))) <|aA rfl (aG rfl rfl (lb rfl) (sv (d:=.nils) rfl)) <|aD ?_)
 refine aC (aA rfl (aG rfl rfl (lb rfl) (sv (d:=.nils) rfl)) <|aD ?_)
 refine aS ?_
 refine aC (aA rfl (mvL rfl rfl rfl rfl) <|aA rfl (cG nK (l:=a1) rfl rfl (lb rfl) Try.underlying62 (svL rfl)) <|aA rfl (aE rfl rfl (lb rfl) (sv (d:=.int _ 0) rfl)) <|aD ?_)
 refine aV ?_
 refine bO (α:=Nat × (List Int) × Int × Int × Int × (List aF) × (List Int)) (fun z=>⟨[(2,.ref 0 0),(4,.ref 1 0),(6,.osl 23 (eInt .i64).sz z.2.1.length),(11,.slice false (a1.map nK.d)),(12,.int .i64 (a1.length : Int)),(13,.int .i64 z.2.2.1)],[(0,.blk 32 (w16 z.2.2.2.1 z.2.2.2.2.1 z.2.2.2.2.2.1 z.2.2.2.2.2.2)),(1,.blk 32 (w16 0 0 ([] : List aF) ([] : List Int))),(23,.blk 34 (D.flat (z.2.1.map (eInt .i64).d)))]⟩) (fun z=>nJ a1 z.1 z.2.1 z.2.2.1 z.2.2.2.1 z.2.2.2.2.1 z.2.2.2.2.2.1 z.2.2.2.2.2.2 = some r) (fun z=>z.1) (fuel,([] : (List Int)),0,a0.Room,a0.Keep,a0.Nodes,a0.Ended) (fun i=>if i = 23 then 75 else i) ⟨(.s rfl rfl (.s rfl rfl (.cons (.nilo rfl) (.sames rfl rfl)))),(.cons (.blk rfl rfl rfl) (.cons (.blk rfl rfl rfl) (.cons (.nilb rfl) .nil))),bE [0,1,75] rfl (by decide),(fun i hi=>by first | rfl | (show (if _ then _ else _) = _; (repeat' split) <;> omega))⟩ ?_ ?_
 ·exact h
 ·
  rintro ⟨n0,v7,v8,v9,v10,v11,v12⟩ h
  cases n0 with
  | zero=>exact absurd h (by unfold nJ; exact nofun)
  | succ n0 =>
   unfold nJ at h
   obtain ⟨x19,hx19,h⟩:=aN h
   refine aC (aA rfl (aL rfl rfl (lb rfl) (svI rfl) (svI rfl) rfl hx19) <|aD ?_)
   refine aS ?_
   refine aP (b:=_) rfl (fun hc20=>?_) (fun hc20=>?_)
   ·
    replace h:=bP h hc20
    refine aT ?_
    refine aJ ?_
    refine aS ?_
    refine aV ?_
    obtain ⟨x21,hx21,h⟩:=aO h
    refine aC (aA rfl (bW nK (cs:=q4) rfl rfl (lb rfl) Try.underlying62 ti37 (svL rfl) (svI rfl) hx21 rfl rfl) <|aA rfl (eH (cs:=q4) rfl rfl (lb rfl) Try.underlying37 ag37 ti37 (by decide) (sv (d:=.fptr q4) rfl) (nle rfl) rfl) <|aA rfl (bX (cs:=q4) (cs':=(w17 0 0 0 0 false)) 24 rfl rfl (lb rfl) rfl ti37 rfl rfl (.all _)) <|aA rfl (stA q4 q4 ti37 rfl rfl rfl rfl rfl rfl rfl rfl (nle rfl) rfl) <|aD ?_)
    obtain ⟨x22,hx22,h⟩:=aO h
    refine aC (aA rfl (lra q5 la32 rfl rfl rfl rfl rfl (nle rfl) rfl) <|aA rfl (lra q4 la37 rfl rfl rfl rfl rfl (nle rfl) rfl) <|aA rfl (aX (r:=.tuple q15) rfl rfl (lb rfl) cl10 (.cons (svA q5 rfl) (.cons (svA q4 rfl) .nil)) rfl (vB _ _ _ hx22)) <|aA rfl (aE rfl rfl (lb rfl) (sv (d:=.tuple q15) rfl)) <|aA rfl (bH (d:=.agg q5) rfl rfl (lb rfl) (sv (d:=.tuple q15) rfl) rfl) <|aA rfl (bH (d:=.int _ _) rfl rfl (lb rfl) (sv (d:=.tuple q15) rfl) rfl) <|aA rfl (bX (cs:=q11) (cs':=(w16 0 0 ([] : List aF) ([] : List Int))) 25 rfl rfl (lb rfl) rfl ti32 rfl rfl (.k (.k (.cons (.nils _) (.cons (.nils _) .nil))))) <|aA rfl (stA q5 q5 ti32 rfl rfl rfl rfl rfl rfl rfl rfl (nle rfl) rfl) <|aA rfl (asI rfl rfl rfl rfl) <|aD ?_)
    refine aC (aA rfl (lra q5 la32 rfl rfl rfl rfl rfl (nle rfl) rfl) <|aA rfl (stA q5 q5 ti32 rfl rfl rfl rfl rfl rfl rfl rfl (nle rfl) rfl) <|aD ?_)
    obtain ⟨x23,hx23,h⟩:=aO h
    refine aU (aA rfl (aE rfl rfl (lb rfl) (sv (d:=.osl _ _ _) rfl)) <|aA rfl (mvI rfl rfl rfl rfl) <|aA rfl (nV (eInt .i64).toEnc0 ([x22.2] : (List Int)) 26 rfl rfl (lb rfl) Try.underlying59 ti34 rfl (.cons (svI rfl) .nil) rfl rfl (by decide)) <|aA rfl (mE (eInt .i64).toEnc0 27 rfl rfl (lb rfl) Try.underlying59 ti34 rfl rfl rfl rfl rfl (uV (eInt .i64).toEnc0 rfl rfl rfl) hx23) <|aA rfl (aG rfl rfl (lb rfl) (sv (d:=.osl _ _ _) rfl)) <|bI ?_)
    refine bJ ?_
    refine aJ ?_
    obtain ⟨x24,hx24,h⟩:=aN h
    refine aU (aA rfl (aQ rfl rfl (lb rfl) (svI rfl) (sv (d:=.int _ 1) rfl) rfl hx24) <|aA rfl (mvI rfl rfl rfl rfl) <|bI ?_)
    refine aJ ⟨(n0,x23,x24,x22.1.Room,x22.1.Keep,x22.1.Nodes,x22.1.Ended),(fun i=>if i = 23 then 27 else i),⟨(.sames rfl rfl),(.cons (.blk rfl rfl rfl) (.cons (.blk rfl rfl rfl) (.cons (EntW.lst rfl) .nil))),bE [0,1,27] rfl (by decide),(fun i hi=>by first | rfl | (show (if _ then _ else _) = _; (repeat' split) <;> omega))⟩,?_,?_⟩
    exact h
    exact Nat.lt_succ_self _
   ·
    replace h:=bQ h hc20
    refine bY ?_
    refine bB ?_
    refine bB ?_
    refine bZ ?_
    refine aJ ?_
    refine aC (aA rfl (lra q5 la32 rfl rfl rfl rfl rfl (nle rfl) rfl) <|aA rfl (aE rfl rfl (lb rfl) (sv (d:=.osl _ _ _) rfl)) <|aA rfl (stA q5 q5 ti32 rfl rfl rfl rfl rfl rfl rfl rfl (nle rfl) rfl) <|aA rfl (aG rfl rfl (lb rfl) (sv (d:=.osl _ _ _) rfl)) <|aD ?_)
    refine aW ?_
    obtain rfl:=Option.some.inj h
    refine ⟨.inr rfl,_,(.cons (rva la32 rfl rfl (nle rfl) rfl) (.cons (sv rfl) .nil)),(.k (.cons (FDT (eInt .i64) rfl rfl) .nil))⟩

theorem jT (a0 : aK) (a1 : Int) (r : Bool) (h : iZ a0 a1 = some r) : dP Try.prog 51 [.agg (v0 a0),.int .i64 a1] (.bool r):=by
 refine bG (rs:=[.bool r]) Try.func51 rfl Try.ntmps51 (nle rfl) rfl fun O hO=>?_
 show IWP _ _ _ _ ⟨[(0,.agg (v0 a0)),(1,.int .i64 a1)],[]⟩ _
 unfold iZ at h
 refine aC (aA rfl (cK (cs:=q5) 0 rfl rfl (lb rfl) rfl (svA q5 rfl) rfl rfl) <|aA rfl (aG rfl rfl (lb rfl) (sv (d:=.bool false) rfl)) <|aD ?_)
 obtain ⟨x1,hx1,h⟩:=aO h
 refine aC (aA rfl (lra q5 la32 rfl rfl rfl rfl rfl (nle rfl) rfl) <|aA rfl (mvI rfl rfl rfl rfl) <|aA rfl (aX (r:=.tuple q14) rfl rfl (lb rfl) cl30 (.cons (svA q5 rfl) (.cons (svI rfl) .nil)) rfl (fJ _ _ _ hx1)) <|aA rfl (aE rfl rfl (lb rfl) (sv (d:=.tuple q14) rfl)) <|aA rfl (bH (d:=.int _ _) rfl rfl (lb rfl) (sv (d:=.tuple q14) rfl) rfl) <|aA rfl (bH (d:=.bool _) rfl rfl (lb rfl) (sv (d:=.tuple q14) rfl) rfl) <|aA rfl (asI rfl rfl rfl rfl) <|aA rfl (asB rfl rfl rfl rfl) <|aD ?_)
 obtain ⟨x2,hx2,h⟩:=aO h
 obtain ⟨x3,hx3,h⟩:=aN h
 obtain ⟨x4,hx4,h⟩:=aN h
 refine aC (aA rfl (mvB rfl rfl rfl rfl) <|aA rfl (mvB rfl rfl rfl rfl) <|aI rfl rfl (.one rfl) rfl (by decide) (fun hb=>(lra q5 la32 rfl rfl rfl rfl rfl (nle rfl) rfl)) <|aI rfl rfl (.one rfl) rfl (by decide) (fun hb=>(aX (r:=.int _ _) rfl rfl (lb rfl) cl14 (.cons (svcA (v0 a0) rfl hb) .nil) rfl (lI _ _ (gd_t hx2 hb)))) <|aI rfl rfl (.one rfl) rfl (by decide) (fun hb=>(aL rfl rfl (lb rfl) (svcI rfl hb) (sv (d:=.int _ 0) rfl) rfl hx3)) <|aA rfl (cO rfl rfl (lb rfl) (svB rfl) rfl rfl hx4) <|aA rfl (asB rfl rfl rfl rfl) <|aD ?_)
 refine aW ?_
 obtain rfl:=Option.some.inj h
 refine ⟨.inr rfl,(.cons (sv rfl) .nil)⟩

theorem rR (a0 : aK) (a1 : Int) (r : Int) (h : pL a0 a1 = some r) : dP Try.prog 17 [.agg (v0 a0),.int .i64 a1] (.int .i64 r):=by
 refine bG (rs:=[.int .i64 r]) Try.func17 rfl Try.ntmps17 (nle rfl) rfl fun O hO=>?_
 show IWP _ _ _ _ ⟨[(0,.agg (v0 a0)),(1,.int .i64 a1)],[]⟩ _
 unfold pL at h
 refine aC (aA rfl (cK (cs:=q5) 0 rfl rfl (lb rfl) rfl (svA q5 rfl) rfl rfl) <|aA rfl (aG rfl rfl (lb rfl) (sv (d:=.int _ 0) rfl)) <|aD ?_)
 refine aS ?_
 obtain ⟨x1,hx1,h⟩:=aO h
 refine aC (aA rfl (lra q5 la32 rfl rfl rfl rfl rfl (nle rfl) rfl) <|aA rfl (mvI rfl rfl rfl rfl) <|aA rfl (aX (r:=.bool _) rfl rfl (lb rfl) cl51 (.cons (svA q5 rfl) (.cons (svI rfl) .nil)) rfl (jT _ _ _ hx1)) <|aA rfl (iB rfl rfl (lb rfl) (svB rfl)) <|aD ?_)
 refine aP (b:=_) rfl (fun hc2=>?_) (fun hc2=>?_)
 ·
  replace h:=bP h hc2
  refine aC (aA rfl (aG rfl rfl (lb rfl) (sv (d:=.int _ 0) rfl)) <|aD ?_)
  refine aW ?_
  refine bA ?_
  obtain rfl:=Option.some.inj h
  refine ⟨.inr rfl,(.cons (sv rfl) .nil)⟩
 ·
  replace h:=bQ h hc2
  refine aT ?_
  refine aJ ?_
  obtain ⟨x3,hx3,h⟩:=aO h
  obtain ⟨x4,hx4,h⟩:=aN h
  refine aC (aA rfl (lra q5 la32 rfl rfl rfl rfl rfl (nle rfl) rfl) <|aA rfl (mvI rfl rfl rfl rfl) <|aA rfl (cW (r':=.osl 1 (eInt .i64).sz x3.length) (H1':=[(1,.blk 3 (D.flat (x3.map (eInt .i64).d)))]) 1 [] rfl rfl (lb rfl) cl52 (.cons (svA q5 rfl) (.cons (svI rfl) .nil)) rfl rfl ⟨rfl,rfl,by decide,rfl,List.forall_mem_nil _⟩ (kN _ _ _ hx3) rfl rfl (List.forall_mem_cons.2 ⟨⟨rfl,(dD (eInt .i64))⟩,List.forall_mem_nil _⟩) (by simp only [List.map_cons,List.map_nil,Ent.ren,dQ,eU]; rfl)) <|aA rfl (mM rfl rfl (lb rfl) Try.underlying23 (sv (d:=.osl _ _ _) rfl)) <|aA rfl (aQ rfl rfl (lb rfl) (svI rfl) (sv (d:=.int _ 1) rfl) rfl hx4) <|aA rfl (asI rfl rfl rfl rfl) <|aD ?_)
  refine aW ?_
  obtain rfl:=Option.some.inj h
  refine ⟨.inr rfl,(.cons (sv rfl) .nil)⟩

theorem sU (a0 : aK) (a1 : Int) (a2 : Int) (r : Int) (h : qS a0 a1 a2 = some r) : dP Try.prog 19 [.agg (v0 a0),.int .i64 a1,.int .i64 a2] (.int .i64 r):=by
 refine bG (rs:=[.int .i64 r]) Try.func19 rfl Try.ntmps19 (nle rfl) rfl fun O hO=>?_
 show IWP _ _ _ _ ⟨[(0,.agg (v0 a0)),(1,.int .i64 a1),(2,.int .i64 a2)],[]⟩ _
 unfold qS at h
 refine aC (aA rfl (cK (cs:=q5) 0 rfl rfl (lb rfl) rfl (svA q5 rfl) rfl rfl) <|aA rfl (aG rfl rfl (lb rfl) (sv (d:=.int _ 0) rfl)) <|aD ?_)
 refine aS ?_
 obtain ⟨x1,hx1,h⟩:=aO h
 obtain ⟨x2,hx2,h⟩:=aO h
 obtain ⟨x3,hx3,h⟩:=aN h
 refine aC (aA rfl (lra q5 la32 rfl rfl rfl rfl rfl (nle rfl) rfl) <|aA rfl (mvI rfl rfl rfl rfl) <|aA rfl (aX (r:=.bool _) rfl rfl (lb rfl) cl51 (.cons (svA q5 rfl) (.cons (svI rfl) .nil)) rfl (jT _ _ _ hx1)) <|aA rfl (iB rfl rfl (lb rfl) (svB rfl)) <|aA rfl (mvB rfl rfl rfl rfl) <|aI rfl rfl (.one rfl) rfl (by decide) (fun hb=>(lra q5 la32 rfl rfl rfl rfl rfl (nle rfl) rfl)) <|aI rfl rfl (.one rfl) rfl (by decide) (fun hb=>(mvI rfl rfl rfl rfl)) <|aI rfl rfl (.one rfl) rfl (by decide) (fun hb=>(aX (r:=.bool _) rfl rfl (lb rfl) cl51 (.cons (svcA (v0 a0) rfl hb) (.cons (svcI rfl hb) .nil)) rfl (jT _ _ _ (gd_t hx2 hb)))) <|aI rfl rfl (.one rfl) rfl (by decide) (fun hb=>(iB rfl rfl (lb rfl) (svcB rfl hb))) <|aA rfl (iJ rfl rfl (lb rfl) (svB rfl) rfl rfl hx3) <|aD ?_)
 refine aP (b:=_) rfl (fun hc4=>?_) (fun hc4=>?_)
 ·
  replace h:=bP h hc4
  refine aC (aA rfl (aG rfl rfl (lb rfl) (sv (d:=.int _ 0) rfl)) <|aD ?_)
  refine aW ?_
  refine bA ?_
  obtain rfl:=Option.some.inj h
  refine ⟨.inr rfl,(.cons (sv rfl) .nil)⟩
 ·
  replace h:=bQ h hc4
  refine aT ?_
  refine aJ ?_
  obtain ⟨x5,hx5,h⟩:=aO h
  obtain ⟨x6,hx6,h⟩:=aO h
  refine aC (aA rfl (lra q5 la32 rfl rfl rfl rfl rfl (nle rfl) rfl) <|aA rfl (mvI rfl rfl rfl rfl) <|aA rfl (cW (r':=.osl 1 (eInt .i64).sz x5.length) (H1':=[(1,.blk 3 (D.flat (x5.map (eInt .i64).d)))]) 1 [] rfl rfl (lb rfl) cl52 (.cons (svA q5 rfl) (.cons (svI rfl) .nil)) rfl rfl ⟨rfl,rfl,by decide,rfl,List.forall_mem_nil _⟩ (kN _ _ _ hx5) rfl rfl (List.forall_mem_cons.2 ⟨⟨rfl,(dD (eInt .i64))⟩,List.forall_mem_nil _⟩) (by simp only [List.map_cons,List.map_nil,Ent.ren,dQ,eU]; rfl)) <|aA rfl (mvI rfl rfl rfl rfl) <|aA rfl (nV (eInt .i64).toEnc0 ([a2] : (List Int)) 2 rfl rfl (lb rfl) Try.underlying23 ti3 rfl (.cons (svI rfl) .nil) rfl rfl (by decide)) <|aA rfl (mE (eInt .i64).toEnc0 3 rfl rfl (lb rfl) Try.underlying23 ti3 rfl rfl rfl rfl rfl (uV (eInt .i64).toEnc0 rfl rfl rfl) hx6) <|aA rfl (aG rfl rfl (lb rfl) (sv (d:=.osl _ _ _) rfl)) <|aD ?_)
  refine aS ?_
  obtain ⟨x7,hx7,h⟩:=aO h
  obtain ⟨x8,hx8,h⟩:=aO h
  refine aC (aA rfl (mvI rfl rfl rfl rfl) <|aA rfl (nV (eInt .i64).toEnc0 ([a1] : (List Int)) 4 rfl rfl (lb rfl) Try.underlying23 ti3 rfl (.cons (svI rfl) .nil) rfl rfl (by decide)) <|aA rfl (lra q5 la32 rfl rfl rfl rfl rfl (nle rfl) rfl) <|aA rfl (mvI rfl rfl rfl rfl) <|aA rfl (cW (r':=.osl 5 (eInt .i64).sz x7.length) (H1':=[(5,.blk 3 (D.flat (x7.map (eInt .i64).d)))]) 5 [] rfl rfl (lb rfl) cl52 (.cons (svA q5 rfl) (.cons (svI rfl) .nil)) rfl rfl ⟨rfl,rfl,by decide,rfl,List.forall_mem_nil _⟩ (kN _ _ _ hx7) rfl rfl (List.forall_mem_cons.2 ⟨⟨rfl,(dD (eInt .i64))⟩,List.forall_mem_nil _⟩) (by simp only [List.map_cons,List.map_nil,Ent.ren,dQ,eU]; rfl)) <|aA rfl (mE (eInt .i64).toEnc0 6 rfl rfl (lb rfl) Try.underlying23 ti3 rfl rfl rfl rfl rfl (uV (eInt .i64).toEnc0 rfl rfl rfl) hx8) <|aA rfl (mM rfl rfl (lb rfl) Try.underlying23 (sv (d:=.osl _ _ _) rfl)) <|aA rfl (aE rfl rfl (lb rfl) (sv (d:=.int _ 0) rfl)) <|aD ?_)
  refine aV ?_
  refine bO (α:=Nat × Int) (fun z=>⟨[(7,.osl 3 (eInt .i64).sz x6.length),(31,.osl 6 (eInt .i64).sz x8.length),(32,.int .i64 (x8.length : Int)),(33,.int .i64 z.2)],[(3,.blk 3 (D.flat (x6.map (eInt .i64).d))),(6,.blk 3 (D.flat (x8.map (eInt .i64).d)))]⟩) (fun z=>mS x6 x8 z.1 z.2 = some r) (fun z=>z.1) (fuel,0) (fun i=>i) ⟨(.sames rfl rfl),(.cons (EntW.lst rfl) (.cons (EntW.lst rfl) .nil)),bE [3,6] rfl (by decide),fun _ _=>rfl⟩ ?_ ?_
  ·exact h
  ·
   rintro ⟨n0,v16⟩ h
   cases n0 with
   | zero=>exact absurd h (by unfold mS; exact nofun)
   | succ n0 =>
    unfold mS at h
    obtain ⟨x24,hx24,h⟩:=aN h
    refine aC (aA rfl (aL rfl rfl (lb rfl) (svI rfl) (svI rfl) rfl hx24) <|aD ?_)
    refine aS ?_
    refine aP (b:=_) rfl (fun hc25=>?_) (fun hc25=>?_)
    ·
     replace h:=bP h hc25
     refine aT ?_
     refine aJ ?_
     refine aS ?_
     refine aV ?_
     obtain ⟨x26,hx26,h⟩:=aO h
     obtain ⟨x27,hx27,h⟩:=aO h
     refine aC (aA rfl (bC (eInt .i64).toEnc0 rfl rfl (lb rfl) Try.underlying23 ti3 (sv (d:=.osl _ _ _) rfl) rfl (svI rfl) hx26) <|aA rfl (bD (eInt .i64).toEnc0 (d:=.int _ _) rfl rfl (lb rfl) Try.underlying3 ag3 ti3 (by decide) (svR rfl) rfl hx27 (nle rfl) rfl) <|aA rfl (asI rfl rfl rfl rfl) <|aD ?_)
     obtain ⟨x28,hx28,h⟩:=aO h
     refine aC (aA rfl (aE rfl rfl (lb rfl) (sv (d:=.osl _ _ _) rfl)) <|aA rfl (mvI rfl rfl rfl rfl) <|aA rfl (jU (r:=.bool x28) rfl rfl (lb rfl) cl54 (.cons (sv (d:=.osl _ _ _) rfl) (.cons (svI rfl) .nil)) (.cons (FDT (eInt .i64) rfl rfl) (.all _)) rfl rfl (iQ _ _ _ hx28)) <|aD ?_)
     refine aP (b:=_) rfl (fun hc29=>?_) (fun hc29=>?_)
     ·
      replace h:=bP h hc29
      refine aC (aA rfl (mvI rfl rfl rfl rfl) <|aA rfl (asI rfl rfl rfl rfl) <|aD ?_)
      refine aW ?_
      refine bN ?_
      refine bA ?_
      refine bA ?_
      refine bN ?_
      refine bA ?_
      obtain rfl:=Option.some.inj h
      refine ⟨.inr rfl,(.cons (sv rfl) .nil)⟩
     ·
      replace h:=bQ h hc29
      refine aT ?_
      refine bJ ?_
      refine aJ ?_
      obtain ⟨x30,hx30,h⟩:=aN h
      refine aU (aA rfl (aQ rfl rfl (lb rfl) (svI rfl) (sv (d:=.int _ 1) rfl) rfl hx30) <|aA rfl (mvI rfl rfl rfl rfl) <|bI ?_)
      refine aJ ⟨(n0,x30),(fun i=>i),⟨(.sames rfl rfl),(.cons (EntW.lst rfl) (.cons (EntW.lst rfl) .nil)),bE [3,6] rfl (by decide),fun _ _=>rfl⟩,?_,?_⟩
      exact h
      exact Nat.lt_succ_self _
    ·
     replace h:=bQ h hc25
     refine bY ?_
     refine bB ?_
     refine bB ?_
     refine bZ ?_
     refine aJ ?_
     refine aC (aA rfl (aG rfl rfl (lb rfl) (sv (d:=.int _ 0) rfl)) <|aD ?_)
     refine aW ?_
     obtain rfl:=Option.some.inj h
     refine ⟨.inr rfl,(.cons (sv rfl) .nil)⟩
end Go.Proofs.Ythjfhdlaockolaa
