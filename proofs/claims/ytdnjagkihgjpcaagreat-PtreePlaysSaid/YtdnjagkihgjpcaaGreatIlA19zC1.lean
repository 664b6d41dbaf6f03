/-
  A part of the proof: rules and plain facts. No condition.
-/
import Derived.Test.YtdnjagkihgjpcaaGreatProg
import Derived.KernelRfl
import Derived.Test.YtdnjagkihgjpcaaGreatIlSo
import Derived.Test.YtdnjagkihgjpcaaGreatIlIt19z
import Derived.Test.YtdnjagkihgjpcaaGreatIlA19zD
set_option linter.all false
set_option maxRecDepth 8000
set_option maxHeartbeats 2000000
open Go Go.IL Go.Fn Go.Proofs
open Go.Proofs.Tryz
namespace Go.Proofs.YtdnjagkihgjpcaaGreat
theorem ti3:TI prog 3 (some (.int .i64 0)) 1 8:=by unfold TI; kernel_rfl
theorem ti4:TI prog 4 (some (.bool false)) 1 1:=by unfold TI; kernel_rfl
theorem ti54:TI prog 54 (some (.slice none 0 0)) 1 24:=by unfold TI; kernel_rfl
theorem ti56:TI prog 56 (some (.agg #[.slice none 0 0,.int .i64 0,.int .i64 0])) 3 40:=by unfold TI; kernel_rfl
theorem ti59:TI prog 59 (some (.agg #[.int .i64 0,.int .i64 0,.int .i64 0,.int .i64 0,.int .i64 0,.bool false])) 6 48:=by unfold TI; kernel_rfl
theorem ti60:TI prog 60 (some (.agg #[.int .i64 0,.int .i64 0,.int .i64 0,.int .i64 0,.int .i64 0,.bool false,.int .i64 0,.int .i64 0,.int .i64 0,.int .i64 0,.int .i64 0,.bool false,.int .i64 0,.int .i64 0,.int .i64 0,.int .i64 0,.int .i64 0,.bool false,.int .i64 0,.int .i64 0,.int .i64 0,.int .i64 0,.int .i64 0,.bool false,.int .i64 0,.int .i64 0,.int .i64 0,.int .i64 0,.int .i64 0,.bool false,.int .i64 0,.int .i64 0,.int .i64 0,.int .i64 0,.int .i64 0,.bool false,.int .i64 0,.int .i64 0,.int .i64 0,.int .i64 0,.int .i64 0,.bool false,.int .i64 0,.int .i64 0,.int .i64 0,.int .i64 0,.int .i64 0,.bool false,.int .i64 0,.int .i64 0,.int .i64 0,.int .i64 0,.int .i64 0,.bool false,.int .i64 0,.int .i64 0,.int .i64 0,.int .i64 0,.int .i64 0,.bool false,.int .i64 0,.int .i64 0,.int .i64 0,.int .i64 0,.int .i64 0,.bool false,.int .i64 0,.int .i64 0,.int .i64 0,.int .i64 0,.int .i64 0,.bool false,.int .i64 0,.int .i64 0,.int .i64 0,.int .i64 0,.int .i64 0,.bool false,.int .i64 0,.int .i64 0,.int .i64 0,.int .i64 0,.int .i64 0,.bool false,.int .i64 0,.int .i64 0,.int .i64 0,.int .i64 0,.int .i64 0,.bool false,.int .i64 0,.int .i64 0,.int .i64 0,.int .i64 0,.int .i64 0,.bool false,.int .i64 0,.int .i64 0,.int .i64 0,.int .i64 0,.int .i64 0,.bool false,.int .i64 0,.int .i64 0,.int .i64 0,.int .i64 0,.int .i64 0,.bool false,.int .i64 0,.int .i64 0,.int .i64 0,.int .i64 0,.int .i64 0,.bool false,.int .i64 0,.int .i64 0,.int .i64 0,.int .i64 0,.int .i64 0,.bool false,.int .i64 0,.int .i64 0,.int .i64 0,.int .i64 0,.int .i64 0,.bool false,.int .i64 0,.int .i64 0,.int .i64 0,.int .i64 0,.int .i64 0,.bool false,.int .i64 0,.int .i64 0,.int .i64 0,.int .i64 0,.int .i64 0,.bool false,.int .i64 0,.int .i64 0,.int .i64 0,.int .i64 0,.int .i64 0,.bool false,.int .i64 0,.int .i64 0,.int .i64 0,.int .i64 0,.int .i64 0,.bool false,.int .i64 0,.int .i64 0,.int .i64 0,.int .i64 0,.int .i64 0,.bool false,.int .i64 0,.int .i64 0,.int .i64 0,.int .i64 0,.int .i64 0,.bool false,.int .i64 0,.int .i64 0,.int .i64 0,.int .i64 0,.int .i64 0,.bool false,.int .i64 0,.int .i64 0,.int .i64 0,.int .i64 0,.int .i64 0,.bool false,.int .i64 0,.int .i64 0,.int .i64 0,.int .i64 0,.int .i64 0,.bool false,.int .i64 0,.int .i64 0,.int .i64 0,.int .i64 0,.int .i64 0,.bool false,.int .i64 0,.int .i64 0,.int .i64 0,.int .i64 0,.int .i64 0,.bool false,.int .i64 0,.int .i64 0,.int .i64 0,.int .i64 0,.int .i64 0,.bool false,.int .i64 0,.int .i64 0,.int .i64 0,.int .i64 0,.int .i64 0,.bool false,.int .i64 0,.int .i64 0,.int .i64 0,.int .i64 0,.int .i64 0,.bool false,.int .i64 0,.int .i64 0,.int .i64 0,.int .i64 0,.int .i64 0,.bool false,.int .i64 0,.int .i64 0,.int .i64 0,.int .i64 0,.int .i64 0,.bool false,.int .i64 0,.int .i64 0,.int .i64 0,.int .i64 0,.int .i64 0,.bool false,.int .i64 0,.int .i64 0,.int .i64 0,.int .i64 0,.int .i64 0,.bool false,.int .i64 0,.int .i64 0,.int .i64 0,.int .i64 0,.int .i64 0,.bool false,.int .i64 0,.int .i64 0,.int .i64 0,.int .i64 0,.int .i64 0,.bool false,.int .i64 0,.int .i64 0,.int .i64 0,.int .i64 0,.int .i64 0,.bool false,.int .i64 0,.int .i64 0,.int .i64 0,.int .i64 0,.int .i64 0,.bool false,.int .i64 0,.int .i64 0,.int .i64 0,.int .i64 0,.int .i64 0,.bool false,.int .i64 0,.int .i64 0,.int .i64 0,.int .i64 0,.int .i64 0,.bool false,.int .i64 0,.int .i64 0,.int .i64 0,.int .i64 0,.int .i64 0,.bool false,.int .i64 0,.int .i64 0,.int .i64 0,.int .i64 0,.int .i64 0,.bool false,.int .i64 0,.int .i64 0,.int .i64 0,.int .i64 0,.int .i64 0,.bool false,.int .i64 0,.int .i64 0,.int .i64 0,.int .i64 0,.int .i64 0,.bool false,.int .i64 0,.int .i64 0,.int .i64 0,.int .i64 0,.int .i64 0,.bool false,.int .i64 0,.int .i64 0,.int .i64 0,.int .i64 0,.int .i64 0,.bool false,.int .i64 0,.int .i64 0,.int .i64 0,.int .i64 0,.int .i64 0,.bool false,.int .i64 0,.int .i64 0,.int .i64 0,.int .i64 0,.int .i64 0,.bool false,.int .i64 0,.int .i64 0,.int .i64 0,.int .i64 0,.int .i64 0,.bool false,.int .i64 0,.int .i64 0,.int .i64 0,.int .i64 0,.int .i64 0,.bool false,.int .i64 0,.int .i64 0,.int .i64 0,.int .i64 0,.int .i64 0,.bool false,.int .i64 0,.int .i64 0,.int .i64 0,.int .i64 0,.int .i64 0,.bool false,.int .i64 0,.int .i64 0,.int .i64 0,.int .i64 0,.int .i64 0,.bool false,.int .i64 0,.int .i64 0,.int .i64 0,.int .i64 0,.int .i64 0,.bool false,.int .i64 0,.int .i64 0,.int .i64 0,.int .i64 0,.int .i64 0,.bool false,.int .i64 0,.int .i64 0,.int .i64 0,.int .i64 0,.int .i64 0,.bool false,.int .i64 0,.int .i64 0,.int .i64 0,.int .i64 0,.int .i64 0,.bool false,.int .i64 0,.int .i64 0,.int .i64 0,.int .i64 0,.int .i64 0,.bool false,.int .i64 0,.int .i64 0,.int .i64 0,.int .i64 0,.int .i64 0,.bool false])) 384 3072:=by unfold TI; kernel_rfl
theorem ti88:TI prog 88 (some (.agg #[.bool false,.int .i64 0,.int .i64 0])) 3 24:=by unfold TI; kernel_rfl
theorem ag3:jL prog 3=false:=by kernel_rfl
theorem ag4:jL prog 4=false:=by kernel_rfl
theorem ag54:jL prog 54=false:=by kernel_rfl
theorem ag56:jL prog 56=true:=by kernel_rfl
theorem ag88:jL prog 88=true:=by kernel_rfl
theorem pl56:∀ w,(Array.mapM (m:=Sem) (fun (f:Field)=>Functor.map (Prod.mk f.offset) (sizeOf f.type)) (fieldsOf prog 56)).run prog w = .ok #[(0,1),(1,1),(2,1)] w:=fun w=>by kernel_rfl
theorem pl88:∀ w,(Array.mapM (m:=Sem) (fun (f:Field)=>Functor.map (Prod.mk f.offset) (sizeOf f.type)) (fieldsOf prog 88)).run prog w = .ok #[(0,1),(1,1),(2,1)] w:=fun w=>by kernel_rfl
theorem cl25:bM prog 25:=⟨f25,func25,rfl,rfl⟩
theorem cl31:bM prog 31:=⟨f31,func31,rfl,rfl⟩
theorem cl49:bM prog 49:=⟨f49,func49,rfl,rfl⟩
theorem cl54:bM prog 54:=⟨f54,func54,rfl,rfl⟩
theorem cl56:bM prog 56:=⟨f56,func56,rfl,rfl⟩
theorem cl60:bM prog 60:=⟨f60,func60,rfl,rfl⟩
theorem cl63:bM prog 63:=⟨f63,func63,rfl,rfl⟩
theorem cl65:bM prog 65:=⟨f65,func65,rfl,rfl⟩
theorem cl66:bM prog 66:=⟨f66,func66,rfl,rfl⟩
theorem cl67:bM prog 67:=⟨f67,func67,rfl,rfl⟩
theorem cl68:bM prog 68:=⟨f68,func68,rfl,rfl⟩
theorem cl69:bM prog 69:=⟨f69,func69,rfl,rfl⟩
theorem cl89:bM prog 89:=⟨f89,func89,rfl,rfl⟩
theorem cl91:bM prog 91:=⟨f91,func91,rfl,rfl⟩
theorem cl92:bM prog 92:=⟨f92,func92,rfl,rfl⟩
theorem cl93:bM prog 93:=⟨f93,func93,rfl,rfl⟩
theorem cl94:bM prog 94:=⟨f94,func94,rfl,rfl⟩
theorem cl104:bM prog 104:=⟨f104,func104,rfl,rfl⟩
theorem cl105:bM prog 105:=⟨f105,func105,rfl,rfl⟩
def la54:=LA.mk underlying54 ag54 ti54 (by decide)
def la56:=LA.mk underlying56 ag56 ti56 (by decide)
abbrev v0 (x:aL):List D:=[.int .i64 x.Room,.int .i64 x.Keep,.slice false (x.L.map aM.d),.slice false (x.Closed.map (eInt .i64).d)]
abbrev v1 (x:bT):List D:=[.int .u8 x.Kind,.int .i64 x.ID,.int .i64 x.Dep,.int .i64 x.Weight,.bool x.Only]
abbrev v2 (x:bF):List D:=[.slice false (x.Cells.map aZ.d),.int .i64 x.Free,.int .i64 x.Used]
abbrev v3 (x:aN):List D:=[.int .i64 x.ID,.int .i64 x.Parent,.int .i64 x.Weight,.bool x.Closed]
abbrev v4 (x:aH):List D:=[.bool x.Live,.int .i64 x.Value,.int .i64 x.Link]
abbrev v5 (x:fX):List D:=[.int .i64 x.dep,.int .i64 x.weight,.bool x.only]
abbrev q6  : List D:=[.dead,.dead,.dead,.dead,.dead,.dead,.dead,.dead,.dead,.dead,.dead,.dead,.dead,.dead,.dead,.dead,.dead,.dead,.dead,.dead,.dead,.dead,.dead,.dead,.dead,.dead,.dead,.dead,.dead,.dead,.dead,.dead,.dead,.dead,.dead,.dead,.dead,.dead,.dead,.dead,.dead,.dead,.dead,.dead,.dead,.dead,.dead,.dead,.dead,.dead,.dead,.dead,.dead,.dead,.dead,.dead,.dead,.dead,.dead,.dead,.dead,.dead,.dead,.dead,.dead,.dead,.dead,.dead,.dead,.dead,.dead,.dead,.dead,.dead,.dead,.dead,.dead,.dead,.dead,.dead,.dead,.dead,.dead,.dead,.dead,.dead,.dead,.dead,.dead,.dead,.dead,.dead,.dead,.dead,.dead,.dead,.dead,.dead,.dead,.dead,.dead,.dead,.dead,.dead,.dead,.dead,.dead,.dead,.dead,.dead,.dead,.dead,.dead,.dead,.dead,.dead,.dead,.dead,.dead,.dead,.dead,.dead,.dead,.dead,.dead,.dead,.dead,.dead,.dead,.dead,.dead,.dead,.dead,.dead,.dead,.dead,.dead,.dead,.dead,.dead,.dead,.dead,.dead,.dead,.dead,.dead,.dead,.dead]
abbrev q7 {a1:IntKind} {a2:Int} {a3:IntKind} {a4:Int} {a5:IntKind} {a6:Int} {a7:IntKind} {a8:Int} {a9:IntKind} {a10:Int} {a11:Bool}:List D:=[.int a1 a2,.int a3 a4,.int a5 a6,.int a7 a8,.int a9 a10,.bool a11]
abbrev q8 {a1:IntKind} {a2:Int} {a3:IntKind} {a4:Int} {a5:Bool} {a6:List D} {a7:IntKind} {a8:Int} {a9:IntKind} {a10:Int}:List D:=[.int a1 a2,.int a3 a4,.slice a5 a6,.int a7 a8,.int a9 a10]
abbrev q9 {a1:IntKind} {a2:Int} {a3:IntKind} {a4:Int} {a5:IntKind} {a6:Int} {a7:IntKind} {a8:Int} {a9:Bool}:List D:=[.int a1 a2,.int a3 a4,.int a5 a6,.int a7 a8,.bool a9]
abbrev q10 {a1:IntKind} {a2:Int} {a3:IntKind} {a4:Int} {a5:Bool} {a6:List D} {a7:Bool} {a8:List D}:List D:=[.int a1 a2,.int a3 a4,.slice a5 a6,.slice a7 a8]
abbrev q11 {a1:IntKind} {a2:Int} {a3:IntKind} {a4:Int} {a5:Nat} {a6:Nat} {a7:Nat} {a8:Bool} {a9:List D}:List D:=[.int a1 a2,.int a3 a4,.osl a5 a6 a7,.slice a8 a9]
abbrev q12 {a1:IntKind} {a2:Int} {a3:IntKind} {a4:Int} {a5:IntKind} {a6:Int} {a7:Bool}:List D:=[.int a1 a2,.int a3 a4,.int a5 a6,.bool a7]
abbrev q13 {a1:IntKind} {a2:Int} {a3:IntKind} {a4:Int}:List D:=[.int a1 a2,.int a3 a4,.nils,.nils]
abbrev q14 {a1:Bool} {a2:List D} {a3:IntKind} {a4:Int} {a5:IntKind} {a6:Int}:List D:=[.slice a1 a2,.int a3 a4,.int a5 a6]
abbrev q15 {a1:Nat} {a2:Nat} {a3:Nat} {a4:IntKind} {a5:Int} {a6:IntKind} {a7:Int}:List D:=[.osl a1 a2 a3,.int a4 a5,.int a6 a7]
abbrev q16 {a1:IntKind} {a2:Int} {a3:IntKind} {a4:Int} {a5:Bool}:List D:=[.int a1 a2,.int a3 a4,.bool a5]
abbrev q17 {a1:Bool} {a2:IntKind} {a3:Int} {a4:IntKind} {a5:Int}:List D:=[.bool a1,.int a2 a3,.int a4 a5]
abbrev q18 {a1:IntKind} {a2:Int} {a3:IntKind} {a4:Int}:List D:=[.nils,.int a1 a2,.int a3 a4]
abbrev q19 {a1:IntKind} {a2:Int} {a3:Nat} {a4:Nat} {a5:Nat}:List D:=[.int a1 a2,.osl a3 a4 a5]
abbrev q20 {a1:Nat} {a2:Nat} {a3:Nat} {a4:Nat}:List D:=[.ref a1 a2,.ref a3 a4]
abbrev q21 {a1:Nat} {a2:Nat} {a3:IntKind} {a4:Int}:List D:=[.ref a1 a2,.int a3 a4]
abbrev q22 {a1:Bool} {a2:List D} {a3:IntKind} {a4:Int} {a5:IntKind} {a6:Int} {a7:IntKind} {a8:Int} {a9:IntKind} {a10:Int}:List D:=[.agg [.slice a1 a2,.int a3 a4,.int a5 a6],.int a7 a8,.int a9 a10]
abbrev q23 {a1:Bool} {a2:List D} {a3:IntKind} {a4:Int} {a5:IntKind} {a6:Int} {a7:IntKind} {a8:Int}:List D:=[.agg [.slice a1 a2,.int a3 a4,.int a5 a6],.int a7 a8]
abbrev q24 {a1:IntKind} {a2:Int} {a3:IntKind} {a4:Int} {a5:Bool} {a6:List D} {a7:Bool} {a8:List D} {a9:IntKind} {a10:Int}:List D:=[.agg [.int a1 a2,.int a3 a4,.slice a5 a6,.slice a7 a8],.int a9 a10]
abbrev w25 (a0:Int) (a1:Int) (a2:List aN) (a3:List Int):List D:=[.int .i64 a0,.int .i64 a1,.slice false (a2.map aM.d),.slice false (a3.map (eInt .i64).d)]
abbrev w26 (a0:Int) (a1:Int) (a2:List aH) (a3:Int) (a4:Int):List D:=[.int .i64 a0,.int .i64 a1,.slice false (a2.map aZ.d),.int .i64 a3,.int .i64 a4]
abbrev w27 (a0:Int) (a1:Int) (a2:Int) (a3:Bool):List D:=[.int .i64 a0,.int .i64 a1,.int .i64 a2,.bool a3]


theorem lD (a0:Int) (a1:Int) (a2:Int) (r:Bool) (h:lB a0 a1 a2=some r):eJ prog 25 [.int .i64 a0,.int .i64 a1,.int .i64 a2] (.bool r):=by
 refine bS (rs:=[.bool r]) func25 M ntmps25 (nle M) M fun O hO=>?_
 show IWP _ _ _ _ ⟨[(0,.int .i64 a0),(1,.int .i64 a1),(2,.int .i64 a2)],[]⟩ _
 unfold lB at h
 refine aD (aA M (aF M M (lb M) (sv (d:=.bool false) M))<|aC ?_)
 obtain ⟨x1,hx1,h⟩:=aY h
 obtain ⟨x2,hx2,h⟩:=aY h
 obtain ⟨x3,hx3,h⟩:=aY h
 refine aD (aA M (mvI M M M M)<|aA M (mvI M M M M)<|aA M (aQ M M (lb M) (svI M) (svI M) M hx1)<|aA M (mvB M M M M)<|aJ M M (.one M) M (by decide) (fun hb=>(mvI M M M M))<|aJ M M (.one M) M (by decide) (fun hb=>(mvI M M M M))<|aJ M M (.one M) M (by decide) (fun hb=>(aQ M M (lb M) (svcI M hb) (svcI M hb) M hx2))<|aA M (cU M M (lb M) (svB M) M M hx3)<|aA M (asB M M M M)<|aC ?_)
 refine bB ?_
 obtain rfl:=sj_ h
 refine ⟨.inr M,(.cons (sv M) .nil)⟩

theorem qK  (r:bF) (h:pT=some r):eJ prog 26 [] (.agg (v2 r)):=by
 refine bS (rs:=[.agg (v2 r)]) func26 M ntmps26 (nle M) M fun O hO=>?_
 show IWP _ _ _ _ ⟨[],[]⟩ _
 unfold pT at h
 refine aD (aA M (dA (cs:=q18) (cs':=[.slice false (([]:List aH).map aZ.d),.int .i64 0,.int .i64 0]) 0 M M (lb M) M ti56 M M (.cons (.nils _) (.all _)))<|aC ?_)
 refine aD (aA M (yP (d':=.agg [.slice false (([]:List aH).map aZ.d),.int .i64 (-1),.int .i64 0]) (cP (cs:=q18) M M (lb M) underlying56 ti56 pl56 M (.cons (sv (d:=.int _ (-1)) M) .nil) M) (.agg (.cons (.nils _) (.all _))))<|aA M (cO (ds':=[.slice false (([]:List aH).map aZ.d),.int _ _,.int _ _]) M M ti56 (svR M) M (svA q14 M) M M M (nle M) M)<|aC ?_)
 refine bB ?_
 obtain rfl:=sj_ h
 refine ⟨.inr M,(.cons (rva la56 M M (nle M) M) .nil)⟩

theorem oH (a0:fX) (a1:Int) (r:Int) (h:jP a0 a1=some r):eJ prog 41 [.agg (v5 a0),.int .i64 a1] (.int .i64 r):=by
 refine bS (rs:=[.int .i64 r]) func41 M ntmps41 (nle M) M fun O hO=>?_
 show IWP _ _ _ _ ⟨[(0,.agg (v5 a0)),(1,.int .i64 a1)],[]⟩ _
 unfold jP at h
 refine aD (aA M (cY (cs:=q16) 0 M M (lb M) M (svA q16 M) M M)<|aA M (aF M M (lb M) (sv (d:=.int _ 0) M))<|aC ?_)
 refine aT ?_
 refine bA ?_
 refine jR (α:=Bool) (fun z=>⟨[(1,.int .i64 a1),(2,.ref 0 0),(5,.bool z)],[(0,.blk 78 (v5 a0))]⟩) (fun z=>iB a0 a1 z=some r) ?_ ?_
 ·
  obtain ⟨x10,hx10,h⟩:=aR h
  refine aD (aA M (mvI M M M M)<|aA M (bC (r:=.bool _) M M (lb M) cl25 (.cons (svI M) (.cons (sv (d:=.int _ 1) M) (.cons (sv (d:=.int _ 1048576) M) .nil))) M (lD _ _ _ _ hx10))<|aA M (eY M M (lb M) (svB M))<|aA M (asB M M M M)<|aC ?_)
  refine aW (b:=_) M (fun hc11=>?_) (fun hc11=>?_)
  ·
   replace h:=cI h hc11
   refine aU ?_
   refine aO ⟨(!x10),(fun i=>i),⟨(.sames M M),(.cons (.blk M M M) .nil),bD [0] M (by decide),fun _ _=>M⟩,?_⟩
   exact h
  ·
   replace h:=cJ h hc11
   obtain ⟨x12,hx12,h⟩:=aR h
   refine aD (aA M (faR 0 M M M underlying78 M ti3 (lb M) M M)<|aA M (aI (d:=.int _ _) M M (lb M) underlying3 ag3 ti3 (by decide) (svR M) M (nle M) M)<|aA M (bC (r:=.bool _) M M (lb M) cl25 (.cons (svI M) (.cons (sv (d:=.int _ 0) M) (.cons (sv (d:=.int _ 1048576) M) .nil))) M (lD _ _ _ _ hx12))<|aA M (eY M M (lb M) (svB M))<|aA M (asB M M M M)<|aC ?_)
   refine aW (b:=_) M (fun hc13=>?_) (fun hc13=>?_)
   ·
    replace h:=cI h hc13
    refine aU ?_
    refine aO ⟨(!x12),(fun i=>i),⟨(.sames M M),(.cons (.blk M M M) .nil),bD [0] M (by decide),fun _ _=>M⟩,?_⟩
    exact h
   ·
    replace h:=cJ h hc13
    obtain ⟨x14,hx14,h⟩:=aR h
    refine aX (aA M (faR 1 M M M underlying78 M ti3 (lb M) M M)<|aA M (aI (d:=.int _ _) M M (lb M) underlying3 ag3 ti3 (by decide) (svR M) M (nle M) M)<|aA M (bC (r:=.bool _) M M (lb M) cl25 (.cons (svI M) (.cons (sv (d:=.int _ 1) M) (.cons (sv (d:=.int _ 256) M) .nil))) M (lD _ _ _ _ hx14))<|aA M (eY M M (lb M) (svB M))<|aA M (asB M M M M)<|bK ?_)
    refine aO ⟨(!x14),(fun i=>i),⟨(.sames M M),(.cons (.blk M M M) .nil),bD [0] M (by decide),fun _ _=>M⟩,?_⟩
    exact h
 ·
  rintro v6 h
  unfold iB at h
  refine aW (b:=_) M (fun hc7=>?_) (fun hc7=>?_)
  ·
   replace h:=cI h hc7
   refine aD (aA M (aF M M (lb M) (sv (d:=.int _ 8) M))<|aC ?_)
   refine bB ?_
   refine dC ?_
   refine bH ?_
   obtain rfl:=sj_ h
   refine ⟨.inr M,(.cons (sv M) .nil)⟩
  ·
   replace h:=cJ h hc7
   obtain ⟨x8,hx8,h⟩:=aY h
   refine aD (aA M (mvI M M M M)<|aA M (faR 0 M M M underlying78 M ti3 (lb M) M M)<|aA M (aI (d:=.int _ _) M M (lb M) underlying3 ag3 ti3 (by decide) (svR M) M (nle M) M)<|aA M (aQ M M (lb M) (svI M) (svI M) M hx8)<|aA M (asB M M M M)<|aC ?_)
   refine aW (b:=_) M (fun hc9=>?_) (fun hc9=>?_)
   ·
    replace h:=cI h hc9
    refine aD (aA M (aF M M (lb M) (sv (d:=.int _ 4) M))<|aC ?_)
    refine bB ?_
    refine dC ?_
    refine bH ?_
    obtain rfl:=sj_ h
    refine ⟨.inr M,(.cons (sv M) .nil)⟩
   ·
    replace h:=cJ h hc9
    refine aU ?_
    refine bL ?_
    refine aO ?_
    refine aD (aA M (aF M M (lb M) (sv (d:=.int _ 0) M))<|aC ?_)
    refine bB ?_
    obtain rfl:=sj_ h
    refine ⟨.inr M,(.cons (sv M) .nil)⟩

theorem nZ (a0:bF) (a1:Int) (r:Bool) (h:iG a0 a1=some r):eJ prog 65 [.agg (v2 a0),.int .i64 a1] (.bool r):=by
 refine bS (rs:=[.bool r]) func65 M ntmps65 (nle M) M fun O hO=>?_
 show IWP _ _ _ _ ⟨[(0,.agg (v2 a0)),(1,.int .i64 a1)],[]⟩ _
 unfold iG at h
 refine aD (aA M (cY (cs:=q14) 0 M M (lb M) M (svA q14 M) M M)<|aA M (aF M M (lb M) (sv (d:=.bool false) M))<|aC ?_)
 obtain ⟨x1,hx1,h⟩:=aY h
 obtain ⟨x2,hx2,h⟩:=aY h
 obtain ⟨x3,hx3,h⟩:=aY h
 refine aD (aA M (mvI M M M M)<|aA M (aQ M M (lb M) (sv (d:=.int _ (-1)) M) (svI M) M hx1)<|aA M (mvB M M M M)<|aJ M M (.one M) M (by decide) (fun hb=>(mvI M M M M))<|aJ M M (.one M) M (by decide) (fun hb=>(faR 0 M M M underlying56 M ti54 (lb M) M M))<|aJ M M (.one M) M (by decide) (fun hb=>(aI (d:=.slice _ _) M M (lb M) underlying54 ag54 ti54 (by decide) (svcR M hb) M (nle M) M))<|aJ M M (.one M) M (by decide) (fun hb=>(dE aZ (l:=a0.Cells) M M (lb M) underlying54 (svcL M hb)))<|aJ M M (.one M) M (by decide) (fun hb=>(aQ M M (lb M) (svcI M hb) (svcI M hb) M hx2))<|aA M (cU M M (lb M) (svB M) M M hx3)<|aA M (asB M M M M)<|aC ?_)
 refine bB ?_
 obtain rfl:=sj_ h
 refine ⟨.inr M,(.cons (sv M) .nil)⟩

theorem qC (a0:bF) (a1:aH) (r:Bool) (h:jV a0 a1=some r):eJ prog 67 [.agg (v2 a0),.agg (v4 a1)] (.bool r):=by
 refine bS (rs:=[.bool r]) func67 M ntmps67 (nle M) M fun O hO=>?_
 show IWP _ _ _ _ ⟨[(0,.agg (v2 a0)),(1,.agg (v4 a1))],[]⟩ _
 unfold jV at h
 refine aD (aA M (cY (cs:=q14) 0 M M (lb M) M (svA q14 M) M M)<|aA M (cY (cs:=q17) 1 M M (lb M) M (svA q17 M) M M)<|aA M (aF M M (lb M) (sv (d:=.bool false) M))<|aC ?_)
 obtain ⟨x1,hx1,h⟩:=aR h
 obtain ⟨x2,hx2,h⟩:=aY h
 refine aD (aA M (faR 0 M M M underlying88 M ti4 (lb M) M M)<|aA M (aI (d:=.bool _) M M (lb M) underlying4 ag4 ti4 (by decide) (svR M) M (nle M) M)<|aA M (eY M M (lb M) (svB M))<|aA M (mvB M M M M)<|aJ M M (.one M) M (by decide) (fun hb=>(lra q14 la56 M M M M M (nle M) M))<|aJ M M (.one M) M (by decide) (fun hb=>(faR 2 M M M underlying88 M ti3 (lb M) M M))<|aJ M M (.one M) M (by decide) (fun hb=>(aI (d:=.int _ _) M M (lb M) underlying3 ag3 ti3 (by decide) (svcR M hb) M (nle M) M))<|aJ M M (.one M) M (by decide) (fun hb=>(bC (r:=.bool _) M M (lb M) cl65 (.cons (svcA (v2 a0) M hb) (.cons (svcI M hb) .nil)) M (nZ _ _ _ (gd_t hx1 hb))))<|aJ M M (.one M) M (by decide) (fun hb=>(eY M M (lb M) (svcB M hb)))<|aA M (cU M M (lb M) (svB M) M M hx2)<|aA M (asB M M M M)<|aC ?_)
 refine bB ?_
 obtain rfl:=sj_ h
 refine ⟨.inr M,(.cons (sv M) .nil)⟩

theorem jX (a0:(List aH)) (a1:bF) (r:Int) (h:dM a0 a1=some r):eJ prog 93 [.slice false (a0.map aZ.d),.mv 67 [.agg (v2 a1)]] (.int .i64 r):=by
 refine bS (rs:=[.int .i64 r]) func93 M ntmps93 (nle M) M fun O hO=>?_
 show IWP _ _ _ _ ⟨[(0,.slice false (a0.map aZ.d)),(1,.mv 67 [.agg (v2 a1)])],[]⟩ _
 unfold dM at h
 refine aD (aA M (aF M M (lb M) (sv (d:=.int _ 0) M))<|aC ?_)
 refine aT ?_
 refine aD (aA M (mvL M M M M)<|aA M (dE aZ (l:=a0) M M (lb M) underlying54 (svL M))<|aA M (aP M M (lb M) (sv (d:=.int _ 0) M))<|aC ?_)
 refine bA ?_
 refine cQ (α:=Nat × Int) (fun z=>⟨[(0,.slice false (a0.map aZ.d)),(1,.mv 67 [.agg (v2 a1)]),(7,.int .i64 (a0.length:Int)),(8,.int .i64 z.2)],[]⟩) (fun z=>bP a0 a1 z.1 z.2=some r) (fun z=>z.1) (fuel,0) (fun i=>i) ⟨(.sames M M),.nil,bD [] M (by decide),fun _ _=>M⟩ ?_ ?_
 ·exact h
 ·
  rintro ⟨n0,v7⟩ h
  cases n0 with
  | zero=>exact absurd h (by unfold bP; exact nofun)
  | succ n0 =>
   unfold bP at h
   obtain ⟨x14,hx14,h⟩:=aY h
   refine aD (aA M (aQ M M (lb M) (svI M) (svI M) M hx14)<|aC ?_)
   refine aT ?_
   refine aW (b:=_) M (fun hc15=>?_) (fun hc15=>?_)
   ·
    replace h:=cI h hc15
    refine aU ?_
    refine aO ?_
    refine aT ?_
    refine bA ?_
    refine aD (aA M (mvI M M M M)<|aA M (asI M M M M)<|aC ?_)
    obtain ⟨x16,hx16,h⟩:=aR h
    obtain ⟨x17,hx17,h⟩:=aR h
    refine aD (aA M (aP M M (lb M) (sv (d:=.mv 67 [.agg q14]) M))<|aA M (mvL M M M M)<|aA M (mvI M M M M)<|aA M (cM aZ (cs:=q17) M M (lb M) underlying54 ti88 (svL M) (svI M) hx16 M M)<|aA M (fR (cs:=q17) M M (lb M) underlying88 ag88 ti88 (by decide) (sv (d:=.fptr q17) M) (nle M) M)<|aA M (aBQ (r:=.bool _) M M (lb M) cl67 (sv (d:=.mv 67 [.agg q14]) M) (.cons (svA q17 M) .nil) M (qC _ _ _ hx17))<|aC ?_)
    refine aW (b:=_) M (fun hc18=>?_) (fun hc18=>?_)
    ·
     replace h:=cI h hc18
     refine aD (aA M (mvI M M M M)<|aA M (asI M M M M)<|aC ?_)
     refine bB ?_
     refine dC ?_
     refine bH ?_
     refine bH ?_
     refine dC ?_
     refine bH ?_
     obtain rfl:=sj_ h
     refine ⟨.inr M,(.cons (sv M) .nil)⟩
    ·
     replace h:=cJ h hc18
     refine aU ?_
     refine bL ?_
     refine aO ?_
     obtain ⟨x19,hx19,h⟩:=aY h
     refine aX (aA M (cK M M (lb M) (svI M) (sv (d:=.int _ 1) M) M hx19)<|aA M (mvI M M M M)<|bK ?_)
     refine aO ⟨(n0,x19),(fun i=>i),⟨(.sames M M),.nil,bD [] M (by decide),fun _ _=>M⟩,?_,?_⟩
     exact h
     exact Nat.lt_succ_self _
   ·
    replace h:=cJ h hc15
    refine cX ?_
    refine bR ?_
    refine bR ?_
    refine cZ ?_
    refine aO ?_
    refine aD (aA M (aF M M (lb M) (sv (d:=.int _ (-1)) M))<|aC ?_)
    refine bB ?_
    obtain rfl:=sj_ h
    refine ⟨.inr M,(.cons (sv M) .nil)⟩

theorem jN (a0:(List aH)) (a1:bF) (r:Bool) (h:dF a0 a1=some r):eJ prog 66 [.slice false (a0.map aZ.d),.mv 67 [.agg (v2 a1)]] (.bool r):=by
 refine bS (rs:=[.bool r]) func66 M ntmps66 (nle M) M fun O hO=>?_
 show IWP _ _ _ _ ⟨[(0,.slice false (a0.map aZ.d)),(1,.mv 67 [.agg (v2 a1)])],[]⟩ _
 unfold dF at h
 refine aD (aA M (aF M M (lb M) (sv (d:=.bool false) M))<|aC ?_)
 obtain ⟨x1,hx1,h⟩:=aR h
 obtain ⟨x2,hx2,h⟩:=aY h
 refine aD (aA M (mvL M M M M)<|aA M (aP M M (lb M) (sv (d:=.mv 67 [.agg q14]) M))<|aA M (bC (r:=.int _ _) M M (lb M) cl93 (.cons (svL M) (.cons (sv (d:=.mv 67 [.agg q14]) M) .nil)) M (jX _ _ _ hx1))<|aA M (aQ M M (lb M) (svI M) (sv (d:=.int _ 0) M) M hx2)<|aA M (asB M M M M)<|aC ?_)
 refine bB ?_
 obtain rfl:=sj_ h
 refine ⟨.inr M,(.cons (sv M) .nil)⟩

theorem yI (a0:aH) (r:Bool) (h:pS a0=some r):eJ prog 68 [.agg (v4 a0)] (.bool r):=by
 refine bS (rs:=[.bool r]) func68 M ntmps68 (nle M) M fun O hO=>?_
 show IWP _ _ _ _ ⟨[(0,.agg (v4 a0))],[]⟩ _
 unfold pS at h
 refine aD (aA M (cY (cs:=q17) 0 M M (lb M) M (svA q17 M) M M)<|aA M (aF M M (lb M) (sv (d:=.bool false) M))<|aC ?_)
 refine aT ?_
 refine aD (aA M (faR 0 M M M underlying88 M ti4 (lb M) M M)<|aA M (aI (d:=.bool _) M M (lb M) underlying4 ag4 ti4 (by decide) (svR M) M (nle M) M)<|aC ?_)
 refine aW (b:=_) M (fun hc1=>?_) (fun hc1=>?_)
 ·
  replace h:=cI h hc1
  obtain ⟨x2,hx2,h⟩:=aY h
  refine aD (aA M (faR 2 M M M underlying88 M ti3 (lb M) M M)<|aA M (aI (d:=.int _ _) M M (lb M) underlying3 ag3 ti3 (by decide) (svR M) M (nle M) M)<|aA M (aQ M M (lb M) (svI M) (sv (d:=.int _ 0) M) M hx2)<|aA M (asB M M M M)<|aC ?_)
  refine bB ?_
  refine bH ?_
  obtain rfl:=sj_ h
  refine ⟨.inr M,(.cons (sv M) .nil)⟩
 ·
  replace h:=cJ h hc1
  refine aU ?_
  refine aO ?_
  obtain ⟨x3,hx3,h⟩:=aY h
  refine aD (aA M (faR 1 M M M underlying88 M ti3 (lb M) M M)<|aA M (aI (d:=.int _ _) M M (lb M) underlying3 ag3 ti3 (by decide) (svR M) M (nle M) M)<|aA M (aQ M M (lb M) (svI M) (sv (d:=.int _ 0) M) M hx3)<|aA M (asB M M M M)<|aC ?_)
  refine bB ?_
  obtain rfl:=sj_ h
  refine ⟨.inr M,(.cons (sv M) .nil)⟩

theorem kF (a0:(List aH)) (r:Int) (h:eG a0=some r):eJ prog 93 [.slice false (a0.map aZ.d),.fn 68 []] (.int .i64 r):=by
 refine bS (rs:=[.int .i64 r]) func93 M ntmps93 (nle M) M fun O hO=>?_
 show IWP _ _ _ _ ⟨[(0,.slice false (a0.map aZ.d)),(1,.fn 68 [])],[]⟩ _
 unfold eG at h
 refine aD (aA M (aF M M (lb M) (sv (d:=.int _ 0) M))<|aC ?_)
 refine aT ?_
 refine aD (aA M (mvL M M M M)<|aA M (dE aZ (l:=a0) M M (lb M) underlying54 (svL M))<|aA M (aP M M (lb M) (sv (d:=.int _ 0) M))<|aC ?_)
 refine bA ?_
 refine cQ (α:=Nat × Int) (fun z=>⟨[(0,.slice false (a0.map aZ.d)),(1,.fn 68 []),(7,.int .i64 (a0.length:Int)),(8,.int .i64 z.2)],[]⟩) (fun z=>bU a0 z.1 z.2=some r) (fun z=>z.1) (fuel,0) (fun i=>i) ⟨(.sames M M),.nil,bD [] M (by decide),fun _ _=>M⟩ ?_ ?_
 ·exact h
 ·
  rintro ⟨n0,v7⟩ h
  cases n0 with
  | zero=>exact absurd h (by unfold bU; exact nofun)
  | succ n0 =>
   unfold bU at h
   obtain ⟨x14,hx14,h⟩:=aY h
   refine aD (aA M (aQ M M (lb M) (svI M) (svI M) M hx14)<|aC ?_)
   refine aT ?_
   refine aW (b:=_) M (fun hc15=>?_) (fun hc15=>?_)
   ·
    replace h:=cI h hc15
    refine aU ?_
    refine aO ?_
    refine aT ?_
    refine bA ?_
    refine aD (aA M (mvI M M M M)<|aA M (asI M M M M)<|aC ?_)
    obtain ⟨x16,hx16,h⟩:=aR h
    obtain ⟨x17,hx17,h⟩:=aR h
    refine aD (aA M (aP M M (lb M) (sv (d:=.fn 68 []) M))<|aA M (mvL M M M M)<|aA M (mvI M M M M)<|aA M (cM aZ (cs:=q17) M M (lb M) underlying54 ti88 (svL M) (svI M) hx16 M M)<|aA M (fR (cs:=q17) M M (lb M) underlying88 ag88 ti88 (by decide) (sv (d:=.fptr q17) M) (nle M) M)<|aA M (xL (r:=.bool _) M M (lb M) cl68 (sv (d:=.fn 68 []) M) (.cons (svA q17 M) .nil) M (yI _ _ hx17))<|aC ?_)
    refine aW (b:=_) M (fun hc18=>?_) (fun hc18=>?_)
    ·
     replace h:=cI h hc18
     refine aD (aA M (mvI M M M M)<|aA M (asI M M M M)<|aC ?_)
     refine bB ?_
     refine dC ?_
     refine bH ?_
     refine bH ?_
     refine dC ?_
     refine bH ?_
     obtain rfl:=sj_ h
     refine ⟨.inr M,(.cons (sv M) .nil)⟩
    ·
     replace h:=cJ h hc18
     refine aU ?_
     refine bL ?_
     refine aO ?_
     obtain ⟨x19,hx19,h⟩:=aY h
     refine aX (aA M (cK M M (lb M) (svI M) (sv (d:=.int _ 1) M) M hx19)<|aA M (mvI M M M M)<|bK ?_)
     refine aO ⟨(n0,x19),(fun i=>i),⟨(.sames M M),.nil,bD [] M (by decide),fun _ _=>M⟩,?_,?_⟩
     exact h
     exact Nat.lt_succ_self _
   ·
    replace h:=cJ h hc15
    refine cX ?_
    refine bR ?_
    refine bR ?_
    refine cZ ?_
    refine aO ?_
    refine aD (aA M (aF M M (lb M) (sv (d:=.int _ (-1)) M))<|aC ?_)
    refine bB ?_
    obtain rfl:=sj_ h
    refine ⟨.inr M,(.cons (sv M) .nil)⟩

theorem jY (a0:(List aH)) (r:Bool) (h:dO a0=some r):eJ prog 66 [.slice false (a0.map aZ.d),.fn 68 []] (.bool r):=by
 refine bS (rs:=[.bool r]) func66 M ntmps66 (nle M) M fun O hO=>?_
 show IWP _ _ _ _ ⟨[(0,.slice false (a0.map aZ.d)),(1,.fn 68 [])],[]⟩ _
 unfold dO at h
 refine aD (aA M (aF M M (lb M) (sv (d:=.bool false) M))<|aC ?_)
 obtain ⟨x1,hx1,h⟩:=aR h
 obtain ⟨x2,hx2,h⟩:=aY h
 refine aD (aA M (mvL M M M M)<|aA M (aP M M (lb M) (sv (d:=.fn 68 []) M))<|aA M (bC (r:=.int _ _) M M (lb M) cl93 (.cons (svL M) (.cons (sv (d:=.fn 68 []) M) .nil)) M (kF _ _ hx1))<|aA M (aQ M M (lb M) (svI M) (sv (d:=.int _ 0) M) M hx2)<|aA M (asB M M M M)<|aC ?_)
 refine bB ?_
 obtain rfl:=sj_ h
 refine ⟨.inr M,(.cons (sv M) .nil)⟩

theorem pK (a0:(List Int)) (a1:Int) (r:Int) (h:kC a0 a1=some r):eJ prog 105 [.slice false (a0.map (eInt .i64).d),.int .i64 a1] (.int .i64 r):=by
 refine bS (rs:=[.int .i64 r]) func105 M ntmps105 (nle M) M fun O hO=>?_
 show IWP _ _ _ _ ⟨[(0,.slice false (a0.map (eInt .i64).d)),(1,.int .i64 a1)],[]⟩ _
 unfold kC at h
 refine aD (aA M (aF M M (lb M) (sv (d:=.int _ 0) M))<|aC ?_)
 refine aT ?_
 refine aD (aA M (mvL M M M M)<|aA M (dE (eInt .i64) (l:=a0) M M (lb M) underlying24 (svL M))<|aA M (aP M M (lb M) (sv (d:=.int _ 0) M))<|aC ?_)
 refine bA ?_
 refine cQ (α:=Nat × Int) (fun z=>⟨[(0,.slice false (a0.map (eInt .i64).d)),(1,.int .i64 a1),(7,.int .i64 (a0.length:Int)),(8,.int .i64 z.2)],[]⟩) (fun z=>dT a0 a1 z.1 z.2=some r) (fun z=>z.1) (fuel,0) (fun i=>i) ⟨(.sames M M),.nil,bD [] M (by decide),fun _ _=>M⟩ ?_ ?_
 ·exact h
 ·
  rintro ⟨n0,v7⟩ h
  cases n0 with
  | zero=>exact absurd h (by unfold dT; exact nofun)
  | succ n0 =>
   unfold dT at h
   obtain ⟨x14,hx14,h⟩:=aY h
   refine aD (aA M (aQ M M (lb M) (svI M) (svI M) M hx14)<|aC ?_)
   refine aT ?_
   refine aW (b:=_) M (fun hc15=>?_) (fun hc15=>?_)
   ·
    replace h:=cI h hc15
    refine aU ?_
    refine aO ?_
    refine aT ?_
    refine bA ?_
    refine aD (aA M (mvI M M M M)<|aA M (asI M M M M)<|aC ?_)
    obtain ⟨x16,hx16,h⟩:=aR h
    obtain ⟨x17,hx17,h⟩:=aY h
    refine aD (aA M (mvI M M M M)<|aA M (mvL M M M M)<|aA M (mvI M M M M)<|aA M (cM (eInt .i64) (cs:=[.int _ _]) M M (lb M) underlying24 ti3 (svL M) (svI M) hx16 M M)<|aA M (cG M M (lb M) underlying3 ag3 ti3 (by decide) (sv (d:=.fptr [.int _ _]) M) (nle M))<|aA M (aQ M M (lb M) (svI M) (svI M) M hx17)<|aC ?_)
    refine aW (b:=_) M (fun hc18=>?_) (fun hc18=>?_)
    ·
     replace h:=cI h hc18
     refine aD (aA M (mvI M M M M)<|aA M (asI M M M M)<|aC ?_)
     refine bB ?_
     refine dC ?_
     refine bH ?_
     refine bH ?_
     refine dC ?_
     refine bH ?_
     obtain rfl:=sj_ h
     refine ⟨.inr M,(.cons (sv M) .nil)⟩
    ·
     replace h:=cJ h hc18
     refine aU ?_
     refine bL ?_
     refine aO ?_
     obtain ⟨x19,hx19,h⟩:=aY h
     refine aX (aA M (cK M M (lb M) (svI M) (sv (d:=.int _ 1) M) M hx19)<|aA M (mvI M M M M)<|bK ?_)
     refine aO ⟨(n0,x19),(fun i=>i),⟨(.sames M M),.nil,bD [] M (by decide),fun _ _=>M⟩,?_,?_⟩
     exact h
     exact Nat.lt_succ_self _
   ·
    replace h:=cJ h hc15
    refine cX ?_
    refine bR ?_
    refine bR ?_
    refine cZ ?_
    refine aO ?_
    refine aD (aA M (aF M M (lb M) (sv (d:=.int _ (-1)) M))<|aC ?_)
    refine bB ?_
    obtain rfl:=sj_ h
    refine ⟨.inr M,(.cons (sv M) .nil)⟩

theorem oM (a0:(List Int)) (a1:Int) (r:Bool) (h:gU a0 a1=some r):eJ prog 94 [.slice false (a0.map (eInt .i64).d),.int .i64 a1] (.bool r):=by
 refine bS (rs:=[.bool r]) func94 M ntmps94 (nle M) M fun O hO=>?_
 show IWP _ _ _ _ ⟨[(0,.slice false (a0.map (eInt .i64).d)),(1,.int .i64 a1)],[]⟩ _
 unfold gU at h
 refine aD (aA M (aF M M (lb M) (sv (d:=.bool false) M))<|aC ?_)
 obtain ⟨x1,hx1,h⟩:=aR h
 obtain ⟨x2,hx2,h⟩:=aY h
 refine aD (aA M (mvL M M M M)<|aA M (mvI M M M M)<|aA M (bC (r:=.int _ _) M M (lb M) cl105 (.cons (svL M) (.cons (svI M) .nil)) M (pK _ _ _ hx1))<|aA M (aQ M M (lb M) (svI M) (sv (d:=.int _ 0) M) M hx2)<|aA M (asB M M M M)<|aC ?_)
 refine bB ?_
 obtain rfl:=sj_ h
 refine ⟨.inr M,(.cons (sv M) .nil)⟩

theorem qJ (a0:bF) (r:((List Int) × Bool)) (h:lG a0=some r):eJ prog 69 [.agg (v2 a0)] (retD [.slice false (r.1.map (eInt .i64).d),.bool r.2]):=by
 refine mU (rs:=[.slice false (r.1.map (eInt .i64).d),.bool r.2]) func69 M ntmps69 (nle M) M fun O hO=>?_
 show IWP _ _ _ _ ⟨[(0,.agg (v2 a0))],[]⟩ _
 unfold lG at h
 refine aD (aA M (cY (cs:=q14) 0 M M (lb M) M (svA q14 M) M M)<|aA M (aF M M (lb M) (sv (d:=.nils) M))<|aA M (aF M M (lb M) (sv (d:=.bool false) M))<|aC ?_)
 refine uH (α:=Nat × (List Int) × Int) 0 (fun z=>⟨[(1,.ref 0 0),(4,.osl 22 (eInt .i64).sz z.2.1.length),(5,.int .i64 z.2.2)],[(0,.blk 56 (v2 a0)),(22,.blk 3 (D.flat (z.2.1.map (eInt .i64).d)))]⟩) (fun z=>fP a0 z.1 z.2.1 z.2.2=some r) (fun z=>z.1) M ?_ ?_
 ·
  rintro ⟨n0,v9,v10⟩ h
  cases n0 with
  | zero=>exact absurd h (by unfold fP; exact nofun)
  | succ n0 =>
   unfold fP at h
   refine aT ?_
   obtain ⟨x19,hx19,h⟩:=aY h
   refine aD (aA M (mvI M M M M)<|aA M (aQ M M (lb M) (svI M) (sv (d:=.int _ (-1)) M) M hx19)<|aC ?_)
   refine aW (b:=_) M (fun hc20=>?_) (fun hc20=>?_)
   ·
    replace h:=cI h hc20
    refine aD (aA M (aP M M (lb M) (sv (d:=.osl _ _ _) M))<|aA M (aF M M (lb M) (sv (d:=.osl _ _ _) M))<|aA M (aF M M (lb M) (sv (d:=.bool true) M))<|aC ?_)
    refine bB ?_
    refine bH ?_
    refine aBd ?_
    obtain rfl:=sj_ h
    refine ⟨.inr M,_,(.cons (sv M) (.cons (sv M) .nil)),(.cons (FDT (eInt .i64) M M) (.all _))⟩
   ·
    replace h:=cJ h hc20
    refine aU ?_
    refine aO ?_
    refine aT ?_
    obtain ⟨x21,hx21,h⟩:=aR h
    obtain ⟨x22,hx22,h⟩:=aR h
    obtain ⟨x23,hx23,h⟩:=aY h
    refine aD (aA M (faR 0 M M M underlying56 M ti54 (lb M) M M)<|aA M (lrL la54 M M M M M (nle M) M)<|aA M (mvI M M M M)<|aA M (cM aZ (cs:=q17) M M (lb M) underlying54 ti88 (svL M) (svI M) hx21 M M)<|aA M (cF (cs':=[.bool _]) M M (lb M) underlying88 M ti4 (by decide) (sv (d:=.fptr q17) M) M)<|aA M (cG M M (lb M) underlying4 ag4 ti4 (by decide) (sv (d:=.fptr [.bool _]) M) (nle M))<|aA M (mvB M M M M)<|aJ M M (.one M) M (by decide) (fun hb=>(aP M M (lb M) (sv (d:=.osl _ _ _) M)))<|aJ M M (.one M) M (by decide) (fun hb=>(mvI M M M M))<|aJ M M (.one M) M (by decide) (fun hb=>(xM (r:=.bool x22) M M (lb M) cl94 (.cons (svc (d:=.osl _ _ _) M hb) (.cons (svcI M hb) .nil)) (.cons (FDT (eInt .i64) M M) (.all _)) M M (oM _ _ _ (gd_t hx22 hb))))<|aA M (gJ M M (lb M) (svB M) M M hx23)<|aC ?_)
    refine aW (b:=_) M (fun hc24=>?_) (fun hc24=>?_)
    ·
     replace h:=cI h hc24
     refine aD (aA M (aP M M (lb M) (sv (d:=.osl _ _ _) M))<|aA M (aF M M (lb M) (sv (d:=.osl _ _ _) M))<|aA M (aF M M (lb M) (sv (d:=.bool false) M))<|aC ?_)
     refine bB ?_
     refine bH ?_
     refine aBd ?_
     obtain rfl:=sj_ h
     refine ⟨.inr M,_,(.cons (sv M) (.cons (sv M) .nil)),(.cons (FDT (eInt .i64) M M) (.all _))⟩
    ·
     replace h:=cJ h hc24
     refine aU ?_
     refine aO ?_
     obtain ⟨x25,hx25,h⟩:=aR h
     refine aD (aA M (aP M M (lb M) (sv (d:=.osl _ _ _) M))<|aA M (mvI M M M M)<|aA M (lS (eInt .i64).toEnc0 ([v10]:(List Int)) 23 M M (lb M) underlying24 ti3 M (.cons (svI M) .nil) M M (by decide))<|aA M (kJ (eInt .i64).toEnc0 24 M M (lb M) underlying24 ti3 M M M M M (qV (eInt .i64).toEnc0 M M M) hx25)<|aA M (aF M M (lb M) (sv (d:=.osl _ _ _) M))<|aC ?_)
     obtain ⟨x26,hx26,h⟩:=aR h
     refine aD (aA M (faR 0 M M M underlying56 M ti54 (lb M) M M)<|aA M (lrL la54 M M M M M (nle M) M)<|aA M (mvI M M M M)<|aA M (cM aZ (cs:=q17) M M (lb M) underlying54 ti88 (svL M) (svI M) hx26 M M)<|aA M (cF (cs':=[.int _ _]) M M (lb M) underlying88 M ti3 (by decide) (sv (d:=.fptr q17) M) M)<|aA M (cG M M (lb M) underlying3 ag3 ti3 (by decide) (sv (d:=.fptr [.int _ _]) M) (nle M))<|aA M (asI M M M M)<|aC ?_)
     refine aCC ?_
     refine ⟨M,(n0,x25,x26.Link),(fun i=>if i=22 then 24 else i),⟨(.sames M M),(.cons (.blk M M M) (.cons (EntW.lst M) .nil)),bD [0,24] M (by decide),(fun i hi=>by first | rfl | (show (if _ then _ else _)=_; (repeat' split) <;> omega))⟩,?_,?_⟩
     exact h
     exact Nat.lt_succ_self _
 ·
  intro hgo
  refine aD (aA M (aF M M (lb M) (sv (d:=.nils) M))<|aC ?_)
  refine aD (aA M (faR 1 M M M underlying56 M ti3 (lb M) M M)<|aA M (aI (d:=.int _ _) M M (lb M) underlying3 ag3 ti3 (by decide) (svR M) M (nle M) M)<|aA M (asI M M M M)<|aC ?_)
  refine aT (aBN ?_)
  exact hgo _ ⟨(fuel,([]:(List Int)),a0.Free),(fun i=>if i=22 then 73 else i),⟨(.s M M (.cons (.nilo M) (.sames M M))),(.cons (.blk M M M) (.cons (.nilb M) .nil)),bD [0,73] M (by decide),(fun i hi=>by first | rfl | (show (if _ then _ else _)=_; (repeat' split) <;> omega))⟩,h⟩

theorem pF (a0:bF) (r:Int) (h:lU a0=some r):eJ prog 49 [.agg (v2 a0)] (.int .i64 r):=by
 refine bS (rs:=[.int .i64 r]) func49 M ntmps49 (nle M) M fun O hO=>?_
 show IWP _ _ _ _ ⟨[(0,.agg (v2 a0))],[]⟩ _
 unfold lU at h
 refine aD (aA M (cY (cs:=q14) 0 M M (lb M) M (svA q14 M) M M)<|aA M (aF M M (lb M) (sv (d:=.int _ 0) M))<|aC ?_)
 refine aT ?_
 refine bA ?_
 obtain ⟨x1,hx1,h⟩:=aY h
 refine aD (aA M (faR 0 M M M underlying56 M ti54 (lb M) M M)<|aA M (lrL la54 M M M M M (nle M) M)<|aA M (dE aZ (l:=a0.Cells) M M (lb M) underlying54 (svL M))<|aA M (aQ M M (lb M) (svI M) (sv (d:=.int _ 64) M) M hx1)<|aA M (asB M M M M)<|aC ?_)
 refine aW (b:=_) M (fun hc2=>?_) (fun hc2=>?_)
 ·
  replace h:=cI h hc2
  refine aD (aA M (aF M M (lb M) (sv (d:=.int _ 5) M))<|aC ?_)
  refine bB ?_
  refine dC ?_
  refine bH ?_
  obtain rfl:=sj_ h
  refine ⟨.inr M,(.cons (sv M) .nil)⟩
 ·
  replace h:=cJ h hc2
  refine jR (α:=Bool) (fun z=>⟨[(1,.ref 0 0),(13,.bool z)],[(0,.blk 56 (v2 a0))]⟩) (fun z=>lO a0 z=some r) ?_ ?_
  ·
   obtain ⟨x40,hx40,h⟩:=aR h
   refine aD (aA M (lra q14 la56 M M M M M (nle M) M)<|aA M (faR 1 M M M underlying56 M ti3 (lb M) M M)<|aA M (aI (d:=.int _ _) M M (lb M) underlying3 ag3 ti3 (by decide) (svR M) M (nle M) M)<|aA M (bC (r:=.bool _) M M (lb M) cl65 (.cons (svA q14 M) (.cons (svI M) .nil)) M (nZ _ _ _ hx40))<|aA M (eY M M (lb M) (svB M))<|aA M (asB M M M M)<|aC ?_)
   refine aW (b:=_) M (fun hc41=>?_) (fun hc41=>?_)
   ·
    replace h:=cI h hc41
    refine aU ?_
    refine aO ⟨(!x40),(fun i=>i),⟨(.sames M M),(.cons (.blk M M M) .nil),bD [0] M (by decide),fun _ _=>M⟩,?_⟩
    exact h
   ·
    replace h:=cJ h hc41
    obtain ⟨x42,hx42,h⟩:=aR h
    refine aX (aA M (faR 0 M M M underlying56 M ti54 (lb M) M M)<|aA M (lrL la54 M M M M M (nle M) M)<|aA M (lra q14 la56 M M M M M (nle M) M)<|aA M (aAS M M (lb M) (.cons (svA q14 M) .nil))<|aA M (bC (r:=.bool _) M M (lb M) cl66 (.cons (svL M) (.cons (sv (d:=.mv 67 [.agg q14]) M) .nil)) M (jN _ _ _ hx42))<|aA M (asB M M M M)<|bK ?_)
    refine aO ⟨x42,(fun i=>i),⟨(.sames M M),(.cons (.blk M M M) .nil),bD [0] M (by decide),fun _ _=>M⟩,?_⟩
    exact h
  ·
   rintro v6 h
   unfold lO at h
   refine aW (b:=_) M (fun hc7=>?_) (fun hc7=>?_)
   ·
    replace h:=cI h hc7
    refine aD (aA M (aF M M (lb M) (sv (d:=.int _ 8) M))<|aC ?_)
    refine bB ?_
    refine dC ?_
    refine bH ?_
    obtain rfl:=sj_ h
    refine ⟨.inr M,(.cons (sv M) .nil)⟩
   ·
    replace h:=cJ h hc7
    obtain ⟨x8,hx8,h⟩:=aR h
    refine aD (aA M (faR 0 M M M underlying56 M ti54 (lb M) M M)<|aA M (lrL la54 M M M M M (nle M) M)<|aA M (bC (r:=.bool _) M M (lb M) cl66 (.cons (svL M) (.cons (sv (d:=.fn 68 []) M) .nil)) M (jY _ _ hx8))<|aA M (asB M M M M)<|aC ?_)
    refine aW (b:=_) M (fun hc9=>?_) (fun hc9=>?_)
    ·
     replace h:=cI h hc9
     refine aD (aA M (aF M M (lb M) (sv (d:=.int _ 4) M))<|aC ?_)
     refine bB ?_
     refine dC ?_
     refine bH ?_
     obtain rfl:=sj_ h
     refine ⟨.inr M,(.cons (sv M) .nil)⟩
    ·
     replace h:=cJ h hc9
     refine aU ?_
     refine bL ?_
     refine aO ?_
     refine aD (aA M (aF M M (lb M) (sv (d:=.int _ 0) M))<|aC ?_)
     refine aT ?_
     refine aD (aA M (faR 0 M M M underlying56 M ti54 (lb M) M M)<|aA M (lrL la54 M M M M M (nle M) M)<|aA M (dE aZ (l:=a0.Cells) M M (lb M) underlying54 (svL M))<|aA M (aP M M (lb M) (sv (d:=.int _ 0) M))<|aC ?_)
     refine bA ?_
     refine cQ (α:=Nat × Int × Int) (fun z=>⟨[(1,.ref 0 0),(3,.int .i64 z.2.1),(29,.slice false (a0.Cells.map aZ.d)),(30,.int .i64 (a0.Cells.length:Int)),(31,.int .i64 z.2.2)],[(0,.blk 56 (v2 a0))]⟩) (fun z=>iI a0 z.1 z.2.1 z.2.2=some r) (fun z=>z.1) (fuel,0,0) (fun i=>i) ⟨(.sames M M),(.cons (.blk M M M) .nil),bD [0] M (by decide),fun _ _=>M⟩ ?_ ?_
     ·exact h
     ·
      rintro ⟨n1,v17,v18⟩ h
      cases n1 with
      | zero=>exact absurd h (by unfold iI; exact nofun)
      | succ n1 =>
       unfold iI at h
       obtain ⟨x26,hx26,h⟩:=aY h
       refine aD (aA M (aQ M M (lb M) (svI M) (svI M) M hx26)<|aC ?_)
       refine aT ?_
       refine aW (b:=_) M (fun hc27=>?_) (fun hc27=>?_)
       ·
        replace h:=cI h hc27
        refine aU ?_
        refine aO ?_
        refine aT ?_
        refine bA ?_
        obtain ⟨x28,hx28,h⟩:=aR h
        refine aD (aA M (cM aZ (cs:=q17) M M (lb M) underlying54 ti88 (svL M) (svI M) hx28 M M)<|aA M (fR (cs:=q17) M M (lb M) underlying88 ag88 ti88 (by decide) (sv (d:=.fptr q17) M) (nle M) M)<|aA M (dA (cs:=q17) (cs':=[.bool false,.int .i64 0,.int .i64 0]) 1 M M (lb M) M ti88 M M (.all _))<|aA M (stA q17 q17 ti88 M M M M M M M M (nle M) M)<|aC ?_)
        refine aD (aA M (faR 0 M M M underlying88 M ti4 (lb M) M M)<|aA M (aI (d:=.bool _) M M (lb M) underlying4 ag4 ti4 (by decide) (svR M) M (nle M) M)<|aC ?_)
        refine aW (b:=_) M (fun hc29=>?_) (fun hc29=>?_)
        ·
         replace h:=cI h hc29
         obtain ⟨x30,hx30,h⟩:=aY h
         refine aX (aA M (mvI M M M M)<|aA M (cK M M (lb M) (svI M) (sv (d:=.int _ 1) M) M hx30)<|aA M (asI M M M M)<|bK ?_)
         refine bL ?_
         refine aO ?_
         obtain ⟨x31,hx31,h⟩:=aY h
         refine aX (aA M (cK M M (lb M) (svI M) (sv (d:=.int _ 1) M) M hx31)<|aA M (mvI M M M M)<|bK ?_)
         refine aO ⟨(n1,x30,x31),(fun i=>i),⟨(.sames M M),(.cons (.blk M M M) .nil),bD [0] M (by decide),fun _ _=>M⟩,?_,?_⟩
         exact h
         exact Nat.lt_succ_self _
        ·
         replace h:=cJ h hc29
         refine aU ?_
         refine bL ?_
         refine aO ?_
         obtain ⟨x32,hx32,h⟩:=aY h
         refine aX (aA M (cK M M (lb M) (svI M) (sv (d:=.int _ 1) M) M hx32)<|aA M (mvI M M M M)<|bK ?_)
         refine aO ⟨(n1,v17,x32),(fun i=>i),⟨(.sames M M),(.cons (.blk M M M) .nil),bD [0] M (by decide),fun _ _=>M⟩,?_,?_⟩
         exact h
         exact Nat.lt_succ_self _
       ·
        replace h:=cJ h hc27
        refine cX ?_
        refine bR ?_
        refine bR ?_
        refine cZ ?_
        refine aO ?_
        obtain ⟨x33,hx33,h⟩:=aR h
        refine aD (aA M (lra q14 la56 M M M M M (nle M) M)<|aA M (bC (r:=.tuple [.slice _ _,.bool _]) M M (lb M) cl69 (.cons (svA q14 M) .nil) M (qJ _ _ hx33))<|aA M (aP M M (lb M) (sv (d:=.tuple [.slice _ _,.bool _]) M))<|aA M (cE (d:=.slice _ _) M M (lb M) (sv (d:=.tuple [.slice _ _,.bool _]) M) M)<|aA M (cE (d:=.bool _) M M (lb M) (sv (d:=.tuple [.slice _ _,.bool _]) M) M)<|aA M (aF M M (lb M) (svL M))<|aA M (asB M M M M)<|aC ?_)
        refine aT ?_
        obtain ⟨x34,hx34,h⟩:=aY h
        obtain ⟨x35,hx35,h⟩:=aY h
        obtain ⟨x36,hx36,h⟩:=aY h
        obtain ⟨x37,hx37,h⟩:=aY h
        obtain ⟨x38,hx38,h⟩:=aY h
        refine aD (aA M (mvB M M M M)<|aA M (eY M M (lb M) (svB M))<|aA M (mvB M M M M)<|aJ M M (.one M) M (by decide) (fun hb=>(mvI M M M M))<|aJ M M (.one M) M (by decide) (fun hb=>(faR 2 M M M underlying56 M ti3 (lb M) M M))<|aJ M M (.one M) M (by decide) (fun hb=>(aI (d:=.int _ _) M M (lb M) underlying3 ag3 ti3 (by decide) (svcR M hb) M (nle M) M))<|aJ M M (.one M) M (by decide) (fun hb=>(aQ M M (lb M) (svcI M hb) (svcI M hb) M hx34))<|aA M (gJ M M (lb M) (svB M) M M hx35)<|aA M (mvB M M M M)<|aJ M M (.one M) M (by decide) (fun hb=>(mvI M M M M))<|aJ M M (.one M) M (by decide) (fun hb=>(mvL M M M M))<|aJ M M (.one M) M (by decide) (fun hb=>(dE (eInt .i64) (l:=x33.1) M M (lb M) underlying24 (svcL M hb)))<|aJ M M (.one M) M (by decide) (fun hb=>(cK M M (lb M) (svcI M hb) (svcI M hb) M hx36))<|aJ M M (.one M) M (by decide) (fun hb=>(faR 0 M M M underlying56 M ti54 (lb M) M M))<|aJ M M (.one M) M (by decide) (fun hb=>(aI (d:=.slice _ _) M M (lb M) underlying54 ag54 ti54 (by decide) (svcR M hb) M (nle M) M))<|aJ M M (.one M) M (by decide) (fun hb=>(dE aZ (l:=a0.Cells) M M (lb M) underlying54 (svcL M hb)))<|aJ M M (.one M) M (by decide) (fun hb=>(aQ M M (lb M) (svcI M hb) (svcI M hb) M hx37))<|aA M (gJ M M (lb M) (svB M) M M hx38)<|aC ?_)
        refine aW (b:=_) M (fun hc39=>?_) (fun hc39=>?_)
        ·
         replace h:=cI h hc39
         refine aD (aA M (aF M M (lb M) (sv (d:=.int _ 10) M))<|aC ?_)
         refine bB ?_
         refine bH ?_
         obtain rfl:=sj_ h
         refine ⟨.inr M,(.cons (sv M) .nil)⟩
        ·
         replace h:=cJ h hc39
         refine aU ?_
         refine aO ?_
         refine aD (aA M (aF M M (lb M) (sv (d:=.int _ 0) M))<|aC ?_)
         refine bB ?_
         obtain rfl:=sj_ h
         refine ⟨.inr M,(.cons (sv M) .nil)⟩

theorem sE (a0:bF) (r:(List Int)) (h:nN a0=some r):eJ prog 31 [.agg (v2 a0)] (.slice false (r.map (eInt .i64).d)):=by
 refine mU (rs:=[.slice false (r.map (eInt .i64).d)]) func31 M ntmps31 (nle M) M fun O hO=>?_
 show IWP _ _ _ _ ⟨[(0,.agg (v2 a0))],[]⟩ _
 unfold nN at h
 refine aD (aA M (cY (cs:=q14) 0 M M (lb M) M (svA q14 M) M M)<|aA M (aF M M (lb M) (sv (d:=.nils) M))<|aC ?_)
 refine aT ?_
 obtain ⟨x1,hx1,h⟩:=aR h
 obtain ⟨x2,hx2,h⟩:=aY h
 refine aD (aA M (lra q14 la56 M M M M M (nle M) M)<|aA M (bC (r:=.int _ _) M M (lb M) cl49 (.cons (svA q14 M) .nil) M (pF _ _ hx1))<|aA M (aQ M M (lb M) (svI M) (sv (d:=.int _ 0) M) M hx2)<|aC ?_)
 refine aW (b:=_) M (fun hc3=>?_) (fun hc3=>?_)
 ·
  replace h:=cI h hc3
  refine aD (aA M (aF M M (lb M) (sv (d:=.nils) M))<|aC ?_)
  refine bB ?_
  refine bH ?_
  obtain rfl:=sj_ h
  refine ⟨.inr M,_,(.cons (sv M) .nil),(.cons (.nils _) .nil)⟩
 ·
  replace h:=cJ h hc3
  refine aU ?_
  refine aO ?_
  refine aD (aA M (aF M M (lb M) (sv (d:=.nils) M))<|aC ?_)
  refine aT ?_
  refine aD (aA M (faR 0 M M M underlying56 M ti54 (lb M) M M)<|aA M (lrL la54 M M M M M (nle M) M)<|aA M (dE aZ (l:=a0.Cells) M M (lb M) underlying54 (svL M))<|aA M (aP M M (lb M) (sv (d:=.int _ 0) M))<|aC ?_)
  refine bA ?_
  refine cQ (α:=Nat × (List Int) × Int) (fun z=>⟨[(3,.osl 21 (eInt .i64).sz z.2.1.length),(10,.slice false (a0.Cells.map aZ.d)),(11,.int .i64 (a0.Cells.length:Int)),(12,.int .i64 z.2.2)],[(21,.blk 3 (D.flat (z.2.1.map (eInt .i64).d)))]⟩) (fun z=>iU a0 z.1 z.2.1 z.2.2=some r) (fun z=>z.1) (fuel,([]:(List Int)),0) (fun i=>if i=21 then 72 else i) ⟨(.cons (.nilo M) (.sames M M)),(.cons (.nilb M) .nil),bD [72] M (by decide),(fun i hi=>by first | rfl | (show (if _ then _ else _)=_; (repeat' split) <;> omega))⟩ ?_ ?_
  ·exact h
  ·
   rintro ⟨n0,v11,v12⟩ h
   cases n0 with
   | zero=>exact absurd h (by unfold iU; exact nofun)
   | succ n0 =>
    unfold iU at h
    obtain ⟨x20,hx20,h⟩:=aY h
    refine aD (aA M (aQ M M (lb M) (svI M) (svI M) M hx20)<|aC ?_)
    refine aT ?_
    refine aW (b:=_) M (fun hc21=>?_) (fun hc21=>?_)
    ·
     replace h:=cI h hc21
     refine aU ?_
     refine aO ?_
     refine aT ?_
     refine bA ?_
     obtain ⟨x22,hx22,h⟩:=aR h
     refine aD (aA M (mvI M M M M)<|aA M (cM aZ (cs:=q17) M M (lb M) underlying54 ti88 (svL M) (svI M) hx22 M M)<|aA M (fR (cs:=q17) M M (lb M) underlying88 ag88 ti88 (by decide) (sv (d:=.fptr q17) M) (nle M) M)<|aA M (dA (cs:=q17) (cs':=[.bool false,.int .i64 0,.int .i64 0]) 22 M M (lb M) M ti88 M M (.all _))<|aA M (asI M M M M)<|aA M (stA q17 q17 ti88 M M M M M M M M (nle M) M)<|aC ?_)
     refine aD (aA M (faR 0 M M M underlying88 M ti4 (lb M) M M)<|aA M (aI (d:=.bool _) M M (lb M) underlying4 ag4 ti4 (by decide) (svR M) M (nle M) M)<|aC ?_)
     refine aW (b:=_) M (fun hc23=>?_) (fun hc23=>?_)
     ·
      replace h:=cI h hc23
      obtain ⟨x24,hx24,h⟩:=aR h
      refine aX (aA M (aP M M (lb M) (sv (d:=.osl _ _ _) M))<|aA M (mvI M M M M)<|aA M (lS (eInt .i64).toEnc0 ([v12]:(List Int)) 23 M M (lb M) underlying24 ti3 M (.cons (svI M) .nil) M M (by decide))<|aA M (kJ (eInt .i64).toEnc0 24 M M (lb M) underlying24 ti3 M M M M M (qV (eInt .i64).toEnc0 M M M) hx24)<|aA M (aF M M (lb M) (sv (d:=.osl _ _ _) M))<|bK ?_)
      refine bL ?_
      refine aO ?_
      obtain ⟨x25,hx25,h⟩:=aY h
      refine aX (aA M (cK M M (lb M) (svI M) (sv (d:=.int _ 1) M) M hx25)<|aA M (mvI M M M M)<|bK ?_)
      refine aO ⟨(n0,x24,x25),(fun i=>if i=21 then 24 else i),⟨(.sames M M),(.cons (EntW.lst M) .nil),bD [24] M (by decide),(fun i hi=>by first | rfl | (show (if _ then _ else _)=_; (repeat' split) <;> omega))⟩,?_,?_⟩
      exact h
      exact Nat.lt_succ_self _
     ·
      replace h:=cJ h hc23
      refine aU ?_
      refine bL ?_
      refine aO ?_
      obtain ⟨x26,hx26,h⟩:=aY h
      refine aX (aA M (cK M M (lb M) (svI M) (sv (d:=.int _ 1) M) M hx26)<|aA M (mvI M M M M)<|bK ?_)
      refine aO ⟨(n0,v11,x26),(fun i=>i),⟨(.sames M M),(.cons (EntW.lst M) .nil),bD [21] M (by decide),fun _ _=>M⟩,?_,?_⟩
      exact h
      exact Nat.lt_succ_self _
    ·
     replace h:=cJ h hc21
     refine cX ?_
     refine bR ?_
     refine bR ?_
     refine cZ ?_
     refine aO ?_
     refine aD (aA M (aP M M (lb M) (sv (d:=.osl _ _ _) M))<|aA M (aF M M (lb M) (sv (d:=.osl _ _ _) M))<|aC ?_)
     refine bB ?_
     obtain rfl:=sj_ h
     refine ⟨.inr M,_,(.cons (sv M) .nil),(.cons (FDT (eInt .i64) M M) .nil)⟩

theorem fW (a0:Int) (a1:Int) (a2:Int) (a3:(List aH)) (a4:Int) (a5:Int) (a6:(List aG)) (a7:Int) (a8:(List Int)) (r:Int) (h:dD a0 a1 a2 a3 a4 a5 a6 a7 a8=some r):FnH prog 35 [.ref 1000 0,.int .i64 a0] [(1000,.blk 62 (mixD aB.toEnc0 (w26 a1 a2 a3 a4 a5) a6 [.int .i64 a7,.osl 1001 (eInt .i64).sz a8.length])),(1001,.blk 3 (D.flat (a8.map (eInt .i64).d)))] (.int .i64 r) [(1000,.blk 62 (mixD aB.toEnc0 (w26 a1 a2 a3 a4 a5) a6 [.int .i64 a7,.osl 1001 (eInt .i64).sz a8.length])),(1001,.blk 3 (D.flat (a8.map (eInt .i64).d)))]:=by
 refine eX (rs:=[.int .i64 r]) func35 M ntmps35 (nle M) fun O hO=>?_
 show IWP _ _ _ _ ⟨[(0,.ref 1000 0),(1,.int .i64 a0)],[(1000,.blk 62 (mixD aB.toEnc0 (w26 a1 a2 a3 a4 a5) a6 [.int .i64 a7,.osl 1001 (eInt .i64).sz a8.length])),(1001,.blk 3 (D.flat (a8.map (eInt .i64).d)))]⟩ _
 unfold dD at h
 refine aD (aA M (aF M M (lb M) (sv (d:=.int _ 0) M))<|aC ?_)
 refine aT ?_
 obtain ⟨x1,hx1,h⟩:=aR h
 refine aD (aA M (mvR M M M M)<|aA M (aK M M (lb M) (svR M))<|aA M (faR 2 M M M underlying62 M ti56 (lb M) M M)<|aA M (oC aB.toEnc0 (cs:=q14) M M (lb M) underlying56 ag56 ti56 (by decide) (svR M) M (nle M) (by rfl))<|aA M (bC (r:=.slice _ _) M M (lb M) cl31 (.cons (svA q14 M) .nil) M (sE _ _ hx1))<|aA M (dE (eInt .i64) (l:=x1) M M (lb M) underlying24 (svL M))<|aA M (aP M M (lb M) (sv (d:=.int _ 0) M))<|aC ?_)
 refine bA ?_
 refine cQ (α:=Nat × Int) (fun z=>⟨[(0,.ref 1000 0),(1,.int .i64 a0),(11,.slice false (x1.map (eInt .i64).d)),(12,.int .i64 (x1.length:Int)),(13,.int .i64 z.2)],[(1000,.blk 62 (mixD aB.toEnc0 (w26 a1 a2 a3 a4 a5) a6 [.int .i64 a7,.osl 1001 (eInt .i64).sz a8.length])),(1001,.blk 3 (D.flat (a8.map (eInt .i64).d)))]⟩) (fun z=>fK a0 a6 x1 z.1 z.2=some r) (fun z=>z.1) (fuel,0) (fun i=>i) ⟨(.sames M M),(.cons (EntW.mix aB M (SubC.of_eq M) (SubC.of_eq M) M M) (.cons (EntW.lst M) .nil)),bD [1000,1001] M (by decide),fun _ _=>M⟩ ?_ ?_
 ·exact h
 ·
  rintro ⟨n0,v11⟩ h
  cases n0 with
  | zero=>exact absurd h (by unfold fK; exact nofun)
  | succ n0 =>
   unfold fK at h
   obtain ⟨x21,hx21,h⟩:=aY h
   refine aD (aA M (aQ M M (lb M) (svI M) (svI M) M hx21)<|aC ?_)
   refine aT ?_
   refine aW (b:=_) M (fun hc22=>?_) (fun hc22=>?_)
   ·
    replace h:=cI h hc22
    refine aU ?_
    refine aO ?_
    refine aT ?_
    refine bA ?_
    obtain ⟨x23,hx23,h⟩:=aR h
    refine aD (aA M (cM (eInt .i64) (cs:=[.int _ _]) M M (lb M) underlying24 ti3 (svL M) (svI M) hx23 M M)<|aA M (cG M M (lb M) underlying3 ag3 ti3 (by decide) (sv (d:=.fptr [.int _ _]) M) (nle M))<|aA M (asI M M M M)<|aC ?_)
    obtain ⟨x24,hx24,h⟩:=aR h
    obtain ⟨hk25,h⟩:=lF h
    obtain ⟨x26,hx26,h⟩:=aR h
    obtain ⟨x27,hx27,h⟩:=aY h
    refine aD (aA M (mvR M M M M)<|aA M (mvI M M M M)<|aA M (aK M M (lb M) (svR M))<|aA M (faR 5 M M M underlying62 M ti60 (lb M) M M)<|aA M (cT aB.toEnc0 M M (lb M) underlying60 ti59 (svR M) hk25 (svI M) hx24)<|aA M (bQ M M (lb M) underlying59 M ti3 (by decide) (svR M) (k':=0) M)<|aA M (bZ aB.toEnc0 (b:=5) (k:=0) (d:=.int _ _) M M (lb M) underlying3 ag3 ti3 (by decide) (svR M) M M hx26 (nle M) M)<|aA M (mvI M M M M)<|aA M (aQ M M (lb M) (svI M) (svI M) M hx27)<|aC ?_)
    refine aW (b:=_) M (fun hc28=>?_) (fun hc28=>?_)
    ·
     replace h:=cI h hc28
     refine aD (aA M (mvI M M M M)<|aA M (asI M M M M)<|aC ?_)
     refine bB ?_
     refine dC ?_
     refine bH ?_
     refine bH ?_
     refine dC ?_
     refine bH ?_
     obtain rfl:=sj_ h
     refine ⟨.inr M,(fun i=>i),⟨.nil,(.cons (EntW.mix aB M (SubC.of_eq M) (SubC.of_eq M) M M) (.cons (EntW.lst M) .nil)),bD [1000,1001] M (by decide),fun _ _=>M⟩,(.cons (sv M) .nil),M⟩
    ·
     replace h:=cJ h hc28
     refine aU ?_
     refine bL ?_
     refine aO ?_
     obtain ⟨x29,hx29,h⟩:=aY h
     refine aX (aA M (cK M M (lb M) (svI M) (sv (d:=.int _ 1) M) M hx29)<|aA M (mvI M M M M)<|bK ?_)
     refine aO ⟨(n0,x29),(fun i=>i),⟨(.sames M M),(.cons (EntW.mix aB M (SubC.of_eq M) (SubC.of_eq M) M M) (.cons (EntW.lst M) .nil)),bD [1000,1001] M (by decide),fun _ _=>M⟩,?_,?_⟩
     exact h
     exact Nat.lt_succ_self _
   ·
    replace h:=cJ h hc22
    refine cX ?_
    refine bR ?_
    refine bR ?_
    refine cZ ?_
    refine aO ?_
    refine aD (aA M (aF M M (lb M) (sv (d:=.int _ (-1)) M))<|aC ?_)
    refine bB ?_
    obtain rfl:=sj_ h
    refine ⟨.inr M,(fun i=>i),⟨.nil,(.cons (EntW.mix aB M (SubC.of_eq M) (SubC.of_eq M) M M) (.cons (EntW.lst M) .nil)),bD [1000,1001] M (by decide),fun _ _=>M⟩,(.cons (sv M) .nil),M⟩

theorem kT (a0:Int) (a1:Int) (a2:(List aH)) (a3:Int) (a4:Int) (a5:(List aG)) (a6:Int) (a7:(List Int)) (r:Int) (h:gK a0 a1 a2 a3 a4 a5 a6 a7=some r):FnH prog 14 [.ref 1000 0] [(1000,.blk 62 (mixD aB.toEnc0 (w26 a0 a1 a2 a3 a4) a5 [.int .i64 a6,.osl 1001 (eInt .i64).sz a7.length])),(1001,.blk 3 (D.flat (a7.map (eInt .i64).d)))] (.int .i64 r) [(1000,.blk 62 (mixD aB.toEnc0 (w26 a0 a1 a2 a3 a4) a5 [.int .i64 a6,.osl 1001 (eInt .i64).sz a7.length])),(1001,.blk 3 (D.flat (a7.map (eInt .i64).d)))]:=by
 refine eX (rs:=[.int .i64 r]) func14 M ntmps14 (nle M) fun O hO=>?_
 show IWP _ _ _ _ ⟨[(0,.ref 1000 0)],[(1000,.blk 62 (mixD aB.toEnc0 (w26 a0 a1 a2 a3 a4) a5 [.int .i64 a6,.osl 1001 (eInt .i64).sz a7.length])),(1001,.blk 3 (D.flat (a7.map (eInt .i64).d)))]⟩ _
 unfold gK at h
 refine aD (aA M (aF M M (lb M) (sv (d:=.int _ 0) M))<|aC ?_)
 refine aT ?_
 refine aD (aA M (mvR M M M M)<|aA M (oD M M (lb M) underlying26 (svR M) (sv (d:=.nilp) M))<|aC ?_)
 refine gH M M ?_
 refine aU ?_
 refine aO ?_
 refine aD (aA M (mvR M M M M)<|aA M (aK M M (lb M) (svR M))<|aA M (faR 2 M M M underlying62 M ti56 (lb M) M M)<|aA M (faR 4 M M M underlying56 M ti3 (lb M) M M)<|aA M (qO aB.toEnc0 (d:=.int _ _) M M (lb M) underlying3 ag3 ti3 (by decide) (svR M) M (nle M) (by rfl))<|aA M (asI M M M M)<|aC ?_)
 refine bB ?_
 obtain rfl:=sj_ h
 refine ⟨.inr M,(fun i=>i),⟨.nil,(.cons (EntW.mix aB M (SubC.of_eq M) (SubC.of_eq M) M M) (.cons (EntW.lst M) .nil)),bD [1000,1001] M (by decide),fun _ _=>M⟩,(.cons (sv M) .nil),M⟩

theorem kW (a0:Int) (a1:Int) (a2:Int) (a3:(List aH)) (a4:Int) (a5:Int) (a6:(List aG)) (a7:Int) (a8:(List Int)) (r:(Int × Int × (List aH) × Int × Int × (List aG) × Int × (List Int))) (h:gL a0 a1 a2 a3 a4 a5 a6 a7 a8=some r):FnH prog 60 [.ref 1000 0,.int .i64 a0] [(1000,.blk 62 (mixD aB.toEnc0 (w26 a1 a2 a3 a4 a5) a6 [.int .i64 a7,.osl 1001 (eInt .i64).sz a8.length])),(1001,.blk 3 (D.flat (a8.map (eInt .i64).d)))] (retD []) [(1000,.blk 62 (mixD aB.toEnc0 (w26 r.1 r.2.1 r.2.2.1 r.2.2.2.1 r.2.2.2.2.1) r.2.2.2.2.2.1 [.int .i64 r.2.2.2.2.2.2.1,.osl 0 (eInt .i64).sz r.2.2.2.2.2.2.2.length])),(0,.blk 3 (D.flat (r.2.2.2.2.2.2.2.map (eInt .i64).d)))]:=by
 refine eX (rs:=[]) func60 M ntmps60 (nle M) fun O hO=>?_
 show IWP _ _ _ _ ⟨[(0,.ref 1000 0),(1,.int .i64 a0)],[(1000,.blk 62 (mixD aB.toEnc0 (w26 a1 a2 a3 a4 a5) a6 [.int .i64 a7,.osl 1001 (eInt .i64).sz a8.length])),(1001,.blk 3 (D.flat (a8.map (eInt .i64).d)))]⟩ _
 unfold gL at h
 obtain ⟨x1,hx1,h⟩:=aR h
 obtain ⟨hk2,h⟩:=lF h
 obtain ⟨x3,hx3,h⟩:=aR h
 refine aD (aA M (mvR M M M M)<|aA M (mvR M M M M)<|aA M (mvI M M M M)<|aA M (aK M M (lb M) (svR M))<|aA M (faR 5 M M M underlying62 M ti60 (lb M) M M)<|aA M (cT aB.toEnc0 M M (lb M) underlying60 ti59 (svR M) hk2 (svI M) hx1)<|aA M (bQ M M (lb M) underlying59 M ti3 (by decide) (svR M) (k':=1) M)<|aA M (bZ aB.toEnc0 (b:=5) (k:=1) (d:=.int _ _) M M (lb M) underlying3 ag3 ti3 (by decide) (svR M) M M hx3 (nle M) M) <|?_)
 refine fS (S':=⟨[(0,.ref 1000 0),(1,.int .i64 a0),(5,.ref 1000 0),(12,.int .i64 x3.up)],[(1000,.blk 62 (mixD aB.toEnc0 (w26 a1 a2 a3 a4 a5) a6 [.int .i64 a7,.osl 1001 (eInt .i64).sz a8.length])),(1001,.blk 3 (D.flat (a8.map (eInt .i64).d)))]⟩) (fun i=>i) ⟨(.sames M M),(.cons (EntW.mix aB M (SubC.of_eq M) (SubC.of_eq M) M M) (.cons (EntW.lst M) .nil)),bD [1000,1001] M (by decide),fun _ _=>M⟩ ?_
 refine jU 1 0 M M M (by decide) cl54 func54 M (.cons (svR M) (.cons (svI M) .nil)) ntmps54 (nle M) M hO.semiL fun O1 hO1=>?_
 show IWP _ _ _ _ ⟨[(0,.ref 1000 0),(1,.int .i64 x3.up)],[(0,.kept 1 (.ref 1000 0::(.int .i64 a0::(.dead::(.dead::(.dead::(.ref 1000 0::(dd_ 6 (.int .i64 x3.up::(dd_ 23 [])))))))))),(1000,.blk 62 (mixD aB.toEnc0 (w26 a1 a2 a3 a4 a5) a6 [.int .i64 a7,.osl 1001 (eInt .i64).sz a8.length])),(1001,.blk 3 (D.flat (a8.map (eInt .i64).d)))]⟩ _
 refine aD (aA M (aF M M (lb M) (sv (d:=.nilp) M))<|aC ?_)
 refine aT ?_
 obtain ⟨x4,hx4,h⟩:=aY h
 refine aD (aA M (mvI M M M M)<|aA M (aQ M M (lb M) (svI M) (sv (d:=.int _ (-1)) M) M hx4)<|aC ?_)
 refine aW (b:=_) M (fun hc5=>?_) (fun hc5=>?_)
 ·
  replace h:=cI h hc5
  refine aD (aA M (mvR M M M M)<|aA M (aK M M (lb M) (svR M))<|aA M (faR 389 M M M underlying62 M ti3 (lb M) M M)<|aA M (aF M M (lb M) (svR M))<|aC ?_)
  refine bB ?_
  refine bH ?_
  refine ⟨.inr M,0,_,[.ref 1000 389],(.cons (sv M) .nil),M,M,⟨[(0,.ref 1000 0),(1,.int .i64 a0),(13,.ref 1000 389)],[(1000,.blk 62 (mixD aB.toEnc0 (w26 a1 a2 a3 a4 a5) a6 [.int .i64 a7,.osl 1001 (eInt .i64).sz a8.length])),(1001,.blk 3 (D.flat (a8.map (eInt .i64).d)))]⟩,(fun i=>i),⟨(.sames M M),(.cons (EntW.mix aB M (SubC.of_eq M) (SubC.of_eq M) M M) (.cons (EntW.lst M) .nil)),bD [1000,1001] M (by decide),fun _ _=>M⟩,?_⟩
  refine aA M (aF M M (lb M) (svR M))<|aC ?_
  refine aT ?_
  refine bA ?_
  refine tV (zR ?_)
  refine aT ?_
  obtain ⟨x6,hx6,h⟩:=aY h
  refine aD (aA M (mvR M M M M)<|aA M (aK M M (lb M) (svR M))<|aA M (gN aB.toEnc0 (d:=.int _ _) (n:=64) (k:=0) M M (lb M) underlying3 ag3 ti3 (by decide) (svR M) M hk2 (by rfl) (nle M) (by rfl))<|aA M (mvI M M M M)<|aA M (aQ M M (lb M) (svI M) (svI M) M hx6)<|aC ?_)
  refine aW (b:=_) M (fun hc7=>?_) (fun hc7=>?_)
  ·
   replace h:=cI h hc7
   refine aU ?_
   refine aO ?_
   refine bA ?_
   obtain ⟨x8,hx8,h⟩:=aR h
   refine jM M [⟨[0],[],[(19,.ref 1000 0)],[]⟩,
    ⟨[4],[],[(20,.ref 1000 389)],[]⟩,
    ⟨[20],[],[(21,.ref 1000 389)],[]⟩,
    ⟨[21],[1000],[(22,.int .i64 a7)],[]⟩,
    ⟨[19],[],[(23,.ref 1000 0)],[]⟩,
    ⟨[23],[],[(24,.ref 1000 5)],[]⟩,
    ⟨[22,24],[],[(25,.ref 1000 (5 + (((a7:Int).toNat) * aB.sz + 0)))],[]⟩,
    ⟨[25],[],[(26,.ref 1000 (5 + (((a7:Int).toNat) * aB.sz + 3)))],[]⟩,
    ⟨[26],[],[(4,.ref 1000 (5 + (((a7:Int).toNat) * aB.sz + 3)))],[]⟩] M ?_ (by kernel_rfl) ?_
   ·refine .cons (lop M M fun S hA=>(aP M M (lb M) (svaR hA M M))) ?_
    refine .cons (lop M M fun S hA=>(aP M M (lb M) (svaR hA M M))) ?_
    refine .cons (lop M M fun S hA=>(aK M M (lb M) (svaR hA M M))) ?_
    refine .cons (lop M M fun S hA=>(gN aB.toEnc0 (d:=.int _ _) (n:=64) (k:=0) M M (lb M) underlying3 ag3 ti3 (by decide) (svaR hA M M) (agi hA M M) hk2 (by rfl) (nle M) (by rfl))) ?_
    refine .cons (lop M M fun S hA=>(aK M M (lb M) (svaR hA M M))) ?_
    refine .cons (lop M M fun S hA=>(aS M M (lb M) underlying62 M ti60 (by decide) (svaR hA M M) (off':=5) M)) ?_
    refine .cons (lop M M fun S hA=>(cT aB.toEnc0 M M (lb M) underlying60 ti59 (svaR hA M M) hk2 (svaI hA M M) hx8)) ?_
    refine .cons (lop M M fun S hA=>(bQ M M (lb M) underlying59 M ti3 (by decide) (svaR hA M M) (k':=3) M)) ?_
    refine .cons (lop M M fun S hA=>(aF M M (lb M) (svaR hA M M))) ?_
    exact .nil
   refine bL ?_
   refine aO ?_
   refine zS (α:=Nat × Nat) (fun z=>⟨[(0,.ref 1000 0),(1,.int .i64 a0),(4,.ref 1000 (5 + (z.2 * aB.sz + 3)))],[(1000,.blk 62 (mixD aB.toEnc0 (w26 a1 a2 a3 a4 a5) a6 [.int .i64 a7,.osl 1001 (eInt .i64).sz a8.length])),(1001,.blk 3 (D.flat (a8.map (eInt .i64).d)))]⟩) (fun z=>eU a0 a1 a2 a3 a4 a5 a6 a7 a8 z.1 z.2=some r) (fun z=>z.1) (fuel,(a7:Int).toNat) (fun i=>i) ⟨(.sames M M),(.cons (EntW.mix aB M (SubC.of_eq M) (SubC.of_eq M) M M) (.cons (EntW.lst M) .nil)),bD [1000,1001] M (by decide),fun _ _=>M⟩ ?_ ?_
   ·exact h
   ·
    rintro ⟨n0,v14⟩ h
    cases n0 with
    | zero=>exact absurd h (by unfold eU; exact nofun)
    | succ n0 =>
     unfold eU at h
     refine aT ?_
     obtain ⟨x20,hx20,h⟩:=aR h
     obtain ⟨x21,hx21,h⟩:=aY h
     refine aD (aA M (mvR M M M M)<|aA M (aK M M (lb M) (svR M))<|aA M (bZ aB.toEnc0 (b:=5) (k:=3) (d:=.int _ _) M M (lb M) underlying3 ag3 ti3 (by decide) (svR M) M M hx20 (nle M) M)<|aA M (mvI M M M M)<|aA M (aQ M M (lb M) (svI M) (svI M) M hx21)<|aC ?_)
     refine aW (b:=_) M (fun hc22=>?_) (fun hc22=>?_)
     ·
      replace h:=cI h hc22
      refine aU ?_
      refine aO ?_
      refine bA ?_
      obtain ⟨x23,hx23,h⟩:=aR h
      obtain ⟨x24,hx24,h⟩:=aR h
      refine jM M [⟨[0],[],[(19,.ref 1000 0)],[]⟩,
       ⟨[4],[],[(20,.ref 1000 (5 + (v14 * aB.sz + 3)))],[]⟩,
       ⟨[20],[],[(21,.ref 1000 (5 + (v14 * aB.sz + 3)))],[]⟩,
       ⟨[21],[1000],[(22,.int .i64 x23.next)],[]⟩,
       ⟨[19],[],[(23,.ref 1000 0)],[]⟩,
       ⟨[23],[],[(24,.ref 1000 5)],[]⟩,
       ⟨[22,24],[],[(25,.ref 1000 (5 + (((x23.next:Int).toNat) * aB.sz + 0)))],[]⟩,
       ⟨[25],[],[(26,.ref 1000 (5 + (((x23.next:Int).toNat) * aB.sz + 3)))],[]⟩,
       ⟨[26],[],[(4,.ref 1000 (5 + (((x23.next:Int).toNat) * aB.sz + 3)))],[]⟩] M ?_ (by kernel_rfl) ?_
      ·refine .cons (lop M M fun S hA=>(aP M M (lb M) (svaR hA M M))) ?_
       refine .cons (lop M M fun S hA=>(aP M M (lb M) (svaR hA M M))) ?_
       refine .cons (lop M M fun S hA=>(aK M M (lb M) (svaR hA M M))) ?_
       refine .cons (lop M M fun S hA=>(bZ aB.toEnc0 (b:=5) (k:=3) (d:=.int _ _) M M (lb M) underlying3 ag3 ti3 (by decide) (svaR hA M M) (agi hA M M) M hx23 (nle M) M)) ?_
       refine .cons (lop M M fun S hA=>(aK M M (lb M) (svaR hA M M))) ?_
       refine .cons (lop M M fun S hA=>(aS M M (lb M) underlying62 M ti60 (by decide) (svaR hA M M) (off':=5) M)) ?_
       refine .cons (lop M M fun S hA=>(cT aB.toEnc0 M M (lb M) underlying60 ti59 (svaR hA M M) hk2 (svaI hA M M) hx24)) ?_
       refine .cons (lop M M fun S hA=>(bQ M M (lb M) underlying59 M ti3 (by decide) (svaR hA M M) (k':=3) M)) ?_
       refine .cons (lop M M fun S hA=>(aF M M (lb M) (svaR hA M M))) ?_
       exact .nil
      refine bL ?_
      refine aO ⟨(n0,(x23.next:Int).toNat),(fun i=>i),⟨(.sames M M),(.cons (EntW.mix aB M (SubC.of_eq M) (SubC.of_eq M) M M) (.cons (EntW.lst M) .nil)),bD [1000,1001] M (by decide),fun _ _=>M⟩,?_,?_⟩
      exact h
      exact Nat.lt_succ_self _
     ·
      replace h:=cJ h hc22
      refine cX ?_
      refine bR ?_
      refine bR ?_
      refine cZ ?_
      refine aO ?_
      obtain ⟨x25,hx25,h⟩:=aR h
      obtain ⟨x26,hx26,h⟩:=aR h
      obtain ⟨x27,hx27,h⟩:=aR h
      obtain ⟨x28,hx28,h⟩:=aY h
      refine aX (aA M (mvR M M M M)<|aA M (mvR M M M M)<|aA M (mvI M M M M)<|aA M (aK M M (lb M) (svR M))<|aA M (faR 5 M M M underlying62 M ti60 (lb M) M M)<|aA M (cT aB.toEnc0 M M (lb M) underlying60 ti59 (svR M) hk2 (svI M) hx25)<|aA M (bQ M M (lb M) underlying59 M ti3 (by decide) (svR M) (k':=3) M)<|aA M (bZ aB.toEnc0 (b:=5) (k:=3) (d:=.int _ _) M M (lb M) underlying3 ag3 ti3 (by decide) (svR M) M M hx26 (nle M) M)<|aA M (aK M M (lb M) (svR M))<|aA M (jD aB.toEnc0 (b:=5) (k:=3) (a':=(⟨x27.id,x27.up,x27.first,x26.next,x27.weight,x27.closed⟩:aG)) M M ti3 (svR M) M (svI M) M M M M hx27 (nle M) M hx28)<|bK ?_)
      obtain rfl:=sj_ h
      refine ⟨.inl M,(fun i=>if i=0 then 1001 else i),⟨.nil,(.cons (EntW.mix aB M (SubC.of_eq M) (SubC.of_eq M) M M) (.cons (EntW.lst M) .nil)),bD [1000,1001] M (by decide),(fun i hi=>by first | rfl | (show (if _ then _ else _)=_; (repeat' split) <;> omega))⟩,.nil,M⟩
  ·
   replace h:=cJ h hc7
   refine cX ?_
   refine bR ?_
   refine bR ?_
   refine cZ ?_
   refine aO ?_
   obtain ⟨x29,hx29,h⟩:=aR h
   obtain ⟨x30,hx30,h⟩:=aR h
   refine aX (aA M (mvR M M M M)<|aA M (mvR M M M M)<|aA M (mvI M M M M)<|aA M (aK M M (lb M) (svR M))<|aA M (faR 5 M M M underlying62 M ti60 (lb M) M M)<|aA M (cT aB.toEnc0 M M (lb M) underlying60 ti59 (svR M) hk2 (svI M) hx29)<|aA M (bQ M M (lb M) underlying59 M ti3 (by decide) (svR M) (k':=3) M)<|aA M (bZ aB.toEnc0 (b:=5) (k:=3) (d:=.int _ _) M M (lb M) underlying3 ag3 ti3 (by decide) (svR M) M M hx30 (nle M) M)<|aA M (aK M M (lb M) (svR M))<|aA M (pA aB.toEnc0 (post:=q19) (post':=q19) (n:=64) (k:=0) M M ti3 (svR M) M (svI M) M M M hk2 (by rfl) (nle M) (by rfl))<|bK ?_)
   obtain rfl:=sj_ h
   refine ⟨.inl M,(fun i=>if i=0 then 1001 else i),⟨.nil,(.cons (EntW.mix aB M (SubC.of_eq M) (SubC.of_eq M) M M) (.cons (EntW.lst M) .nil)),bD [1000,1001] M (by decide),(fun i hi=>by first | rfl | (show (if _ then _ else _)=_; (repeat' split) <;> omega))⟩,.nil,M⟩
 ·
  replace h:=cJ h hc5
  refine aU ?_
  refine aO ?_
  obtain ⟨x31,hx31,h⟩:=aR h
  refine aD (aA M (mvR M M M M)<|aA M (mvI M M M M)<|aA M (aK M M (lb M) (svR M))<|aA M (faR 5 M M M underlying62 M ti60 (lb M) M M)<|aA M (cT aB.toEnc0 M M (lb M) underlying60 ti59 (svR M) hk2 (svI M) hx31)<|aA M (bQ M M (lb M) underlying59 M ti3 (by decide) (svR M) (k':=2) M)<|aA M (aF M M (lb M) (svR M))<|aC ?_)
  refine bB ?_
  refine ⟨.inr M,0,_,[.ref 1000 (5 + (((x3.up:Int).toNat) * aB.sz + 2))],(.cons (sv M) .nil),M,M,⟨[(0,.ref 1000 0),(1,.int .i64 a0),(13,.ref 1000 (5 + (((x3.up:Int).toNat) * aB.sz + 2)))],[(1000,.blk 62 (mixD aB.toEnc0 (w26 a1 a2 a3 a4 a5) a6 [.int .i64 a7,.osl 1001 (eInt .i64).sz a8.length])),(1001,.blk 3 (D.flat (a8.map (eInt .i64).d)))]⟩,(fun i=>i),⟨(.sames M M),(.cons (EntW.mix aB M (SubC.of_eq M) (SubC.of_eq M) M M) (.cons (EntW.lst M) .nil)),bD [1000,1001] M (by decide),fun _ _=>M⟩,?_⟩
  refine aA M (aF M M (lb M) (svR M))<|aC ?_
  refine aT ?_
  refine bA ?_
  refine tV (zR ?_)
  refine aT ?_
  obtain ⟨x32,hx32,h⟩:=aR h
  obtain ⟨x33,hx33,h⟩:=aY h
  refine aD (aA M (mvR M M M M)<|aA M (aK M M (lb M) (svR M))<|aA M (bZ aB.toEnc0 (b:=5) (k:=2) (d:=.int _ _) M M (lb M) underlying3 ag3 ti3 (by decide) (svR M) M M hx32 (nle M) M)<|aA M (mvI M M M M)<|aA M (aQ M M (lb M) (svI M) (svI M) M hx33)<|aC ?_)
  refine aW (b:=_) M (fun hc34=>?_) (fun hc34=>?_)
  ·
   replace h:=cI h hc34
   refine aU ?_
   refine aO ?_
   refine bA ?_
   obtain ⟨x35,hx35,h⟩:=aR h
   obtain ⟨x36,hx36,h⟩:=aR h
   refine jM M [⟨[0],[],[(19,.ref 1000 0)],[]⟩,
    ⟨[4],[],[(20,.ref 1000 (5 + (((x3.up:Int).toNat) * aB.sz + 2)))],[]⟩,
    ⟨[20],[],[(21,.ref 1000 (5 + (((x3.up:Int).toNat) * aB.sz + 2)))],[]⟩,
    ⟨[21],[1000],[(22,.int .i64 x35.first)],[]⟩,
    ⟨[19],[],[(23,.ref 1000 0)],[]⟩,
    ⟨[23],[],[(24,.ref 1000 5)],[]⟩,
    ⟨[22,24],[],[(25,.ref 1000 (5 + (((x35.first:Int).toNat) * aB.sz + 0)))],[]⟩,
    ⟨[25],[],[(26,.ref 1000 (5 + (((x35.first:Int).toNat) * aB.sz + 3)))],[]⟩,
    ⟨[26],[],[(4,.ref 1000 (5 + (((x35.first:Int).toNat) * aB.sz + 3)))],[]⟩] M ?_ (by kernel_rfl) ?_
   ·refine .cons (lop M M fun S hA=>(aP M M (lb M) (svaR hA M M))) ?_
    refine .cons (lop M M fun S hA=>(aP M M (lb M) (svaR hA M M))) ?_
    refine .cons (lop M M fun S hA=>(aK M M (lb M) (svaR hA M M))) ?_
    refine .cons (lop M M fun S hA=>(bZ aB.toEnc0 (b:=5) (k:=2) (d:=.int _ _) M M (lb M) underlying3 ag3 ti3 (by decide) (svaR hA M M) (agi hA M M) M hx35 (nle M) M)) ?_
    refine .cons (lop M M fun S hA=>(aK M M (lb M) (svaR hA M M))) ?_
    refine .cons (lop M M fun S hA=>(aS M M (lb M) underlying62 M ti60 (by decide) (svaR hA M M) (off':=5) M)) ?_
    refine .cons (lop M M fun S hA=>(cT aB.toEnc0 M M (lb M) underlying60 ti59 (svaR hA M M) hk2 (svaI hA M M) hx36)) ?_
    refine .cons (lop M M fun S hA=>(bQ M M (lb M) underlying59 M ti3 (by decide) (svaR hA M M) (k':=3) M)) ?_
    refine .cons (lop M M fun S hA=>(aF M M (lb M) (svaR hA M M))) ?_
    exact .nil
   refine bL ?_
   refine aO ?_
   refine zS (α:=Nat × Nat) (fun z=>⟨[(0,.ref 1000 0),(1,.int .i64 a0),(4,.ref 1000 (5 + (z.2 * aB.sz + 3)))],[(1000,.blk 62 (mixD aB.toEnc0 (w26 a1 a2 a3 a4 a5) a6 [.int .i64 a7,.osl 1001 (eInt .i64).sz a8.length])),(1001,.blk 3 (D.flat (a8.map (eInt .i64).d)))]⟩) (fun z=>eT a0 a1 a2 a3 a4 a5 a6 a7 a8 z.1 z.2=some r) (fun z=>z.1) (fuel,(x35.first:Int).toNat) (fun i=>i) ⟨(.sames M M),(.cons (EntW.mix aB M (SubC.of_eq M) (SubC.of_eq M) M M) (.cons (EntW.lst M) .nil)),bD [1000,1001] M (by decide),fun _ _=>M⟩ ?_ ?_
   ·exact h
   ·
    rintro ⟨n1,v42⟩ h
    cases n1 with
    | zero=>exact absurd h (by unfold eT; exact nofun)
    | succ n1 =>
     unfold eT at h
     refine aT ?_
     obtain ⟨x48,hx48,h⟩:=aR h
     obtain ⟨x49,hx49,h⟩:=aY h
     refine aD (aA M (mvR M M M M)<|aA M (aK M M (lb M) (svR M))<|aA M (bZ aB.toEnc0 (b:=5) (k:=3) (d:=.int _ _) M M (lb M) underlying3 ag3 ti3 (by decide) (svR M) M M hx48 (nle M) M)<|aA M (mvI M M M M)<|aA M (aQ M M (lb M) (svI M) (svI M) M hx49)<|aC ?_)
     refine aW (b:=_) M (fun hc50=>?_) (fun hc50=>?_)
     ·
      replace h:=cI h hc50
      refine aU ?_
      refine aO ?_
      refine bA ?_
      obtain ⟨x51,hx51,h⟩:=aR h
      obtain ⟨x52,hx52,h⟩:=aR h
      refine jM M [⟨[0],[],[(19,.ref 1000 0)],[]⟩,
       ⟨[4],[],[(20,.ref 1000 (5 + (v42 * aB.sz + 3)))],[]⟩,
       ⟨[20],[],[(21,.ref 1000 (5 + (v42 * aB.sz + 3)))],[]⟩,
       ⟨[21],[1000],[(22,.int .i64 x51.next)],[]⟩,
       ⟨[19],[],[(23,.ref 1000 0)],[]⟩,
       ⟨[23],[],[(24,.ref 1000 5)],[]⟩,
       ⟨[22,24],[],[(25,.ref 1000 (5 + (((x51.next:Int).toNat) * aB.sz + 0)))],[]⟩,
       ⟨[25],[],[(26,.ref 1000 (5 + (((x51.next:Int).toNat) * aB.sz + 3)))],[]⟩,
       ⟨[26],[],[(4,.ref 1000 (5 + (((x51.next:Int).toNat) * aB.sz + 3)))],[]⟩] M ?_ (by kernel_rfl) ?_
      ·refine .cons (lop M M fun S hA=>(aP M M (lb M) (svaR hA M M))) ?_
       refine .cons (lop M M fun S hA=>(aP M M (lb M) (svaR hA M M))) ?_
       refine .cons (lop M M fun S hA=>(aK M M (lb M) (svaR hA M M))) ?_
       refine .cons (lop M M fun S hA=>(bZ aB.toEnc0 (b:=5) (k:=3) (d:=.int _ _) M M (lb M) underlying3 ag3 ti3 (by decide) (svaR hA M M) (agi hA M M) M hx51 (nle M) M)) ?_
       refine .cons (lop M M fun S hA=>(aK M M (lb M) (svaR hA M M))) ?_
       refine .cons (lop M M fun S hA=>(aS M M (lb M) underlying62 M ti60 (by decide) (svaR hA M M) (off':=5) M)) ?_
       refine .cons (lop M M fun S hA=>(cT aB.toEnc0 M M (lb M) underlying60 ti59 (svaR hA M M) hk2 (svaI hA M M) hx52)) ?_
       refine .cons (lop M M fun S hA=>(bQ M M (lb M) underlying59 M ti3 (by decide) (svaR hA M M) (k':=3) M)) ?_
       refine .cons (lop M M fun S hA=>(aF M M (lb M) (svaR hA M M))) ?_
       exact .nil
      refine bL ?_
      refine aO ⟨(n1,(x51.next:Int).toNat),(fun i=>i),⟨(.sames M M),(.cons (EntW.mix aB M (SubC.of_eq M) (SubC.of_eq M) M M) (.cons (EntW.lst M) .nil)),bD [1000,1001] M (by decide),fun _ _=>M⟩,?_,?_⟩
      exact h
      exact Nat.lt_succ_self _
     ·
      replace h:=cJ h hc50
      refine cX ?_
      refine bR ?_
      refine bR ?_
      refine cZ ?_
      refine aO ?_
      obtain ⟨x53,hx53,h⟩:=aR h
      obtain ⟨x54,hx54,h⟩:=aR h
      obtain ⟨x55,hx55,h⟩:=aR h
      obtain ⟨x56,hx56,h⟩:=aY h
      refine aX (aA M (mvR M M M M)<|aA M (mvR M M M M)<|aA M (mvI M M M M)<|aA M (aK M M (lb M) (svR M))<|aA M (faR 5 M M M underlying62 M ti60 (lb M) M M)<|aA M (cT aB.toEnc0 M M (lb M) underlying60 ti59 (svR M) hk2 (svI M) hx53)<|aA M (bQ M M (lb M) underlying59 M ti3 (by decide) (svR M) (k':=3) M)<|aA M (bZ aB.toEnc0 (b:=5) (k:=3) (d:=.int _ _) M M (lb M) underlying3 ag3 ti3 (by decide) (svR M) M M hx54 (nle M) M)<|aA M (aK M M (lb M) (svR M))<|aA M (jD aB.toEnc0 (b:=5) (k:=3) (a':=(⟨x55.id,x55.up,x55.first,x54.next,x55.weight,x55.closed⟩:aG)) M M ti3 (svR M) M (svI M) M M M M hx55 (nle M) M hx56)<|bK ?_)
      obtain rfl:=sj_ h
      refine ⟨.inl M,(fun i=>if i=0 then 1001 else i),⟨.nil,(.cons (EntW.mix aB M (SubC.of_eq M) (SubC.of_eq M) M M) (.cons (EntW.lst M) .nil)),bD [1000,1001] M (by decide),(fun i hi=>by first | rfl | (show (if _ then _ else _)=_; (repeat' split) <;> omega))⟩,.nil,M⟩
  ·
   replace h:=cJ h hc34
   refine cX ?_
   refine bR ?_
   refine bR ?_
   refine cZ ?_
   refine aO ?_
   obtain ⟨x57,hx57,h⟩:=aR h
   obtain ⟨x58,hx58,h⟩:=aR h
   obtain ⟨x59,hx59,h⟩:=aR h
   obtain ⟨x60,hx60,h⟩:=aY h
   refine aX (aA M (mvR M M M M)<|aA M (mvR M M M M)<|aA M (mvI M M M M)<|aA M (aK M M (lb M) (svR M))<|aA M (faR 5 M M M underlying62 M ti60 (lb M) M M)<|aA M (cT aB.toEnc0 M M (lb M) underlying60 ti59 (svR M) hk2 (svI M) hx57)<|aA M (bQ M M (lb M) underlying59 M ti3 (by decide) (svR M) (k':=3) M)<|aA M (bZ aB.toEnc0 (b:=5) (k:=3) (d:=.int _ _) M M (lb M) underlying3 ag3 ti3 (by decide) (svR M) M M hx58 (nle M) M)<|aA M (aK M M (lb M) (svR M))<|aA M (jD aB.toEnc0 (b:=5) (k:=2) (a':=(⟨x59.id,x59.up,x58.next,x59.next,x59.weight,x59.closed⟩:aG)) M M ti3 (svR M) M (svI M) M M M M hx59 (nle M) M hx60)<|bK ?_)
   obtain rfl:=sj_ h
   refine ⟨.inl M,(fun i=>if i=0 then 1001 else i),⟨.nil,(.cons (EntW.mix aB M (SubC.of_eq M) (SubC.of_eq M) M M) (.cons (EntW.lst M) .nil)),bD [1000,1001] M (by decide),(fun i hi=>by first | rfl | (show (if _ then _ else _)=_; (repeat' split) <;> omega))⟩,.nil,M⟩

theorem nV (a0:Int) (a1:Int) (a2:Int) (a3:Int) (a4:(List aH)) (a5:Int) (a6:Int) (a7:(List aG)) (a8:Int) (a9:(List Int)) (r:(Int × Int × (List aH) × Int × Int × (List aG) × Int × (List Int))) (h:gC a0 a1 a2 a3 a4 a5 a6 a7 a8 a9=some r):FnH prog 56 [.ref 1000 0,.int .i64 a0,.int .i64 a1] [(1000,.blk 62 (mixD aB.toEnc0 (w26 a2 a3 a4 a5 a6) a7 [.int .i64 a8,.osl 1001 (eInt .i64).sz a9.length])),(1001,.blk 3 (D.flat (a9.map (eInt .i64).d)))] (retD []) [(1000,.blk 62 (mixD aB.toEnc0 (w26 r.1 r.2.1 r.2.2.1 r.2.2.2.1 r.2.2.2.2.1) r.2.2.2.2.2.1 [.int .i64 r.2.2.2.2.2.2.1,.osl 0 (eInt .i64).sz r.2.2.2.2.2.2.2.length])),(0,.blk 3 (D.flat (r.2.2.2.2.2.2.2.map (eInt .i64).d)))]:=by
 refine eX (rs:=[]) func56 M ntmps56 (nle M) fun O hO=>?_
 show IWP _ _ _ _ ⟨[(0,.ref 1000 0),(1,.int .i64 a0),(2,.int .i64 a1)],[(1000,.blk 62 (mixD aB.toEnc0 (w26 a2 a3 a4 a5 a6) a7 [.int .i64 a8,.osl 1001 (eInt .i64).sz a9.length])),(1001,.blk 3 (D.flat (a9.map (eInt .i64).d)))]⟩ _
 unfold gC at h
 refine aD (aA M (mvR M M M M)<|aA M (mvI M M M M) <|?_)
 refine fS (S':=⟨[(0,.ref 1000 0),(1,.int .i64 a0),(2,.int .i64 a1),(7,.ref 1000 0),(8,.int .i64 a1)],[(1000,.blk 62 (mixD aB.toEnc0 (w26 a2 a3 a4 a5 a6) a7 [.int .i64 a8,.osl 1001 (eInt .i64).sz a9.length])),(1001,.blk 3 (D.flat (a9.map (eInt .i64).d)))]⟩) (fun i=>i) ⟨(.sames M M),(.cons (EntW.mix aB M (SubC.of_eq M) (SubC.of_eq M) M M) (.cons (EntW.lst M) .nil)),bD [1000,1001] M (by decide),fun _ _=>M⟩ ?_
 refine jU 1 0 M M M (by decide) cl54 func54 M (.cons (svR M) (.cons (svI M) .nil)) ntmps54 (nle M) M hO.semiL fun O1 hO1=>?_
 show IWP _ _ _ _ ⟨[(0,.ref 1000 0),(1,.int .i64 a1)],[(0,.kept 1 (.ref 1000 0::(.int .i64 a0::(.int .i64 a1::(dd_ 4 (.ref 1000 0::(.int .i64 a1::(dd_ 20 [])))))))),(1000,.blk 62 (mixD aB.toEnc0 (w26 a2 a3 a4 a5 a6) a7 [.int .i64 a8,.osl 1001 (eInt .i64).sz a9.length])),(1001,.blk 3 (D.flat (a9.map (eInt .i64).d)))]⟩ _
 refine aD (aA M (aF M M (lb M) (sv (d:=.nilp) M))<|aC ?_)
 refine aT ?_
 obtain ⟨x1,hx1,h⟩:=aY h
 refine aD (aA M (mvI M M M M)<|aA M (aQ M M (lb M) (svI M) (sv (d:=.int _ (-1)) M) M hx1)<|aC ?_)
 refine aW (b:=_) M (fun hc2=>?_) (fun hc2=>?_)
 ·
  replace h:=cI h hc2
  refine aD (aA M (mvR M M M M)<|aA M (aK M M (lb M) (svR M))<|aA M (faR 389 M M M underlying62 M ti3 (lb M) M M)<|aA M (aF M M (lb M) (svR M))<|aC ?_)
  refine bB ?_
  refine bH ?_
  refine ⟨.inr M,0,_,[.ref 1000 389],(.cons (sv M) .nil),M,M,⟨[(0,.ref 1000 0),(1,.int .i64 a0),(2,.int .i64 a1),(9,.ref 1000 389)],[(1000,.blk 62 (mixD aB.toEnc0 (w26 a2 a3 a4 a5 a6) a7 [.int .i64 a8,.osl 1001 (eInt .i64).sz a9.length])),(1001,.blk 3 (D.flat (a9.map (eInt .i64).d)))]⟩,(fun i=>i),⟨(.sames M M),(.cons (EntW.mix aB M (SubC.of_eq M) (SubC.of_eq M) M M) (.cons (EntW.lst M) .nil)),bD [1000,1001] M (by decide),fun _ _=>M⟩,?_⟩
  refine aA M (aF M M (lb M) (svR M))<|aC ?_
  obtain ⟨hk3,h⟩:=lF h
  obtain ⟨x4,hx4,h⟩:=aR h
  obtain ⟨x5,hx5,h⟩:=aR h
  obtain ⟨x6,hx6,h⟩:=aY h
  obtain ⟨x7,hx7,h⟩:=aR h
  obtain ⟨x8,hx8,h⟩:=aR h
  obtain ⟨x9,hx9,h⟩:=aY h
  refine jK M [⟨[0],[],[(10,.ref 1000 0)],[]⟩,
   ⟨[1],[],[(11,.int .i64 a0)],[]⟩,
   ⟨[0],[],[(12,.ref 1000 0)],[]⟩,
   ⟨[1],[],[(13,.int .i64 a0)],[]⟩,
   ⟨[2],[],[(14,.int .i64 a1)],[]⟩,
   ⟨[6],[],[(15,.ref 1000 389)],[]⟩,
   ⟨[15],[],[(16,.ref 1000 389)],[]⟩,
   ⟨[16],[1000],[(17,.int .i64 a8)],[]⟩,
   ⟨[10],[],[(18,.ref 1000 0)],[]⟩,
   ⟨[18],[],[(19,.ref 1000 5)],[]⟩,
   ⟨[11,19],[],[(20,.ref 1000 (5 + (((a0:Int).toNat) * aB.sz + 0)))],[]⟩,
   ⟨[20],[],[(21,.ref 1000 (5 + (((a0:Int).toNat) * aB.sz + 1)))],[]⟩,
   ⟨[14,21],[1000],[],[(1000,.blk 62 (mixD aB.toEnc0 (w26 a2 a3 a4 a5 a6) x6 [.int .i64 a8,.osl 1001 (eInt .i64).sz a9.length]))]⟩,
   ⟨[12],[],[(22,.ref 1000 0)],[]⟩,
   ⟨[22],[],[(23,.ref 1000 5)],[]⟩,
   ⟨[13,23],[],[(24,.ref 1000 (5 + (((a0:Int).toNat) * aB.sz + 0)))],[]⟩,
   ⟨[24],[],[(25,.ref 1000 (5 + (((a0:Int).toNat) * aB.sz + 3)))],[]⟩,
   ⟨[17,25],[1000],[],[(1000,.blk 62 (mixD aB.toEnc0 (w26 a2 a3 a4 a5 a6) x9 [.int .i64 a8,.osl 1001 (eInt .i64).sz a9.length]))]⟩] M ?_ (by kernel_rfl) ?_
  ·refine .cons (lop M M fun S hA=>(aP M M (lb M) (svaR hA M M))) ?_
   refine .cons (lop M M fun S hA=>(aP M M (lb M) (svaI hA M M))) ?_
   refine .cons (lop M M fun S hA=>(aP M M (lb M) (svaR hA M M))) ?_
   refine .cons (lop M M fun S hA=>(aP M M (lb M) (svaI hA M M))) ?_
   refine .cons (lop M M fun S hA=>(aP M M (lb M) (svaI hA M M))) ?_
   refine .cons (lop M M fun S hA=>(aP M M (lb M) (svaR hA M M))) ?_
   refine .cons (lop M M fun S hA=>(aK M M (lb M) (svaR hA M M))) ?_
   refine .cons (lop M M fun S hA=>(gN aB.toEnc0 (d:=.int _ _) (n:=64) (k:=0) M M (lb M) underlying3 ag3 ti3 (by decide) (svaR hA M M) (agi hA M M) hk3 (by rfl) (nle M) (by rfl))) ?_
   refine .cons (lop M M fun S hA=>(aK M M (lb M) (svaR hA M M))) ?_
   refine .cons (lop M M fun S hA=>(aS M M (lb M) underlying62 M ti60 (by decide) (svaR hA M M) (off':=5) M)) ?_
   refine .cons (lop M M fun S hA=>(cT aB.toEnc0 M M (lb M) underlying60 ti59 (svaR hA M M) hk3 (svaI hA M M) hx4)) ?_
   refine .cons (lop M M fun S hA=>(bQ M M (lb M) underlying59 M ti3 (by decide) (svaR hA M M) (k':=1) M)) ?_
   refine .cons (lop M M fun S hA=>(jD aB.toEnc0 (b:=5) (k:=1) (a':=(⟨x5.id,a1,x5.first,x5.next,x5.weight,x5.closed⟩:aG)) M M ti3 (svaR hA M M) (agi hA M M) (svaI hA M M) M M M M hx5 (nle M) M hx6)) ?_
   refine .cons (lop M M fun S hA=>(aK M M (lb M) (svaR hA M M))) ?_
   refine .cons (lop M M fun S hA=>(aS M M (lb M) underlying62 M ti60 (by decide) (svaR hA M M) (off':=5) M)) ?_
   refine .cons (lop M M fun S hA=>(cT aB.toEnc0 M M (lb M) underlying60 ti59 (svaR hA M M) (kR hx6 hk3) (svaI hA M M) hx7)) ?_
   refine .cons (lop M M fun S hA=>(bQ M M (lb M) underlying59 M ti3 (by decide) (svaR hA M M) (k':=3) M)) ?_
   refine .cons (lop M M fun S hA=>(jD aB.toEnc0 (b:=5) (k:=3) (a':=(⟨x8.id,x8.up,x8.first,a8,x8.weight,x8.closed⟩:aG)) M M ti3 (svaR hA M M) (agi hA M M) (svaI hA M M) M M M M hx8 (nle M) M hx9)) ?_
   exact .nil
  refine aX (aA M (mvR M M M M)<|aA M (mvI M M M M)<|aA M (aK M M (lb M) (svR M))<|aA M (pA aB.toEnc0 (post:=q19) (post':=q19) (n:=64) (k:=0) M M ti3 (svR M) M (svI M) M M M (kR hx9 (kR hx6 hk3)) (by rfl) (nle M) (by rfl))<|bK ?_)
  obtain rfl:=sj_ h
  refine ⟨.inl M,(fun i=>if i=0 then 1001 else i),⟨.nil,(.cons (EntW.mix aB M (SubC.of_eq M) (SubC.of_eq M) M M) (.cons (EntW.lst M) .nil)),bD [1000,1001] M (by decide),(fun i hi=>by first | rfl | (show (if _ then _ else _)=_; (repeat' split) <;> omega))⟩,.nil,M⟩
 ·
  replace h:=cJ h hc2
  refine aU ?_
  refine aO ?_
  obtain ⟨x10,hx10,h⟩:=aR h
  obtain ⟨hk11,h⟩:=lF h
  refine aD (aA M (mvR M M M M)<|aA M (mvI M M M M)<|aA M (aK M M (lb M) (svR M))<|aA M (faR 5 M M M underlying62 M ti60 (lb M) M M)<|aA M (cT aB.toEnc0 M M (lb M) underlying60 ti59 (svR M) hk11 (svI M) hx10)<|aA M (bQ M M (lb M) underlying59 M ti3 (by decide) (svR M) (k':=2) M)<|aA M (aF M M (lb M) (svR M))<|aC ?_)
  refine bB ?_
  refine ⟨.inr M,0,_,[.ref 1000 (5 + (((a1:Int).toNat) * aB.sz + 2))],(.cons (sv M) .nil),M,M,⟨[(0,.ref 1000 0),(1,.int .i64 a0),(2,.int .i64 a1),(9,.ref 1000 (5 + (((a1:Int).toNat) * aB.sz + 2)))],[(1000,.blk 62 (mixD aB.toEnc0 (w26 a2 a3 a4 a5 a6) a7 [.int .i64 a8,.osl 1001 (eInt .i64).sz a9.length])),(1001,.blk 3 (D.flat (a9.map (eInt .i64).d)))]⟩,(fun i=>i),⟨(.sames M M),(.cons (EntW.mix aB M (SubC.of_eq M) (SubC.of_eq M) M M) (.cons (EntW.lst M) .nil)),bD [1000,1001] M (by decide),fun _ _=>M⟩,?_⟩
  refine aA M (aF M M (lb M) (svR M))<|aC ?_
  obtain ⟨x12,hx12,h⟩:=aR h
  obtain ⟨x13,hx13,h⟩:=aR h
  obtain ⟨x14,hx14,h⟩:=aR h
  obtain ⟨x15,hx15,h⟩:=aY h
  obtain ⟨x16,hx16,h⟩:=aR h
  obtain ⟨x17,hx17,h⟩:=aR h
  obtain ⟨x18,hx18,h⟩:=aY h
  refine jK M [⟨[0],[],[(10,.ref 1000 0)],[]⟩,
   ⟨[1],[],[(11,.int .i64 a0)],[]⟩,
   ⟨[0],[],[(12,.ref 1000 0)],[]⟩,
   ⟨[1],[],[(13,.int .i64 a0)],[]⟩,
   ⟨[2],[],[(14,.int .i64 a1)],[]⟩,
   ⟨[6],[],[(15,.ref 1000 (5 + (((a1:Int).toNat) * aB.sz + 2)))],[]⟩,
   ⟨[15],[],[(16,.ref 1000 (5 + (((a1:Int).toNat) * aB.sz + 2)))],[]⟩,
   ⟨[16],[1000],[(17,.int .i64 x12.first)],[]⟩,
   ⟨[10],[],[(18,.ref 1000 0)],[]⟩,
   ⟨[18],[],[(19,.ref 1000 5)],[]⟩,
   ⟨[11,19],[],[(20,.ref 1000 (5 + (((a0:Int).toNat) * aB.sz + 0)))],[]⟩,
   ⟨[20],[],[(21,.ref 1000 (5 + (((a0:Int).toNat) * aB.sz + 1)))],[]⟩,
   ⟨[14,21],[1000],[],[(1000,.blk 62 (mixD aB.toEnc0 (w26 a2 a3 a4 a5 a6) x15 [.int .i64 a8,.osl 1001 (eInt .i64).sz a9.length]))]⟩,
   ⟨[12],[],[(22,.ref 1000 0)],[]⟩,
   ⟨[22],[],[(23,.ref 1000 5)],[]⟩,
   ⟨[13,23],[],[(24,.ref 1000 (5 + (((a0:Int).toNat) * aB.sz + 0)))],[]⟩,
   ⟨[24],[],[(25,.ref 1000 (5 + (((a0:Int).toNat) * aB.sz + 3)))],[]⟩,
   ⟨[17,25],[1000],[],[(1000,.blk 62 (mixD aB.toEnc0 (w26 a2 a3 a4 a5 a6) x18 [.int .i64 a8,.osl 1001 (eInt .i64).sz a9.length]))]⟩] M ?_ (by kernel_rfl) ?_
  ·refine .cons (lop M M fun S hA=>(aP M M (lb M) (svaR hA M M))) ?_
   refine .cons (lop M M fun S hA=>(aP M M (lb M) (svaI hA M M))) ?_
   refine .cons (lop M M fun S hA=>(aP M M (lb M) (svaR hA M M))) ?_
   refine .cons (lop M M fun S hA=>(aP M M (lb M) (svaI hA M M))) ?_
   refine .cons (lop M M fun S hA=>(aP M M (lb M) (svaI hA M M))) ?_
   refine .cons (lop M M fun S hA=>(aP M M (lb M) (svaR hA M M))) ?_
   refine .cons (lop M M fun S hA=>(aK M M (lb M) (svaR hA M M))) ?_
   refine .cons (lop M M fun S hA=>(bZ aB.toEnc0 (b:=5) (k:=2) (d:=.int _ _) M M (lb M) underlying3 ag3 ti3 (by decide) (svaR hA M M) (agi hA M M) M hx12 (nle M) M)) ?_
   refine .cons (lop M M fun S hA=>(aK M M (lb M) (svaR hA M M))) ?_
   refine .cons (lop M M fun S hA=>(aS M M (lb M) underlying62 M ti60 (by decide) (svaR hA M M) (off':=5) M)) ?_
   refine .cons (lop M M fun S hA=>(cT aB.toEnc0 M M (lb M) underlying60 ti59 (svaR hA M M) hk11 (svaI hA M M) hx13)) ?_
   refine .cons (lop M M fun S hA=>(bQ M M (lb M) underlying59 M ti3 (by decide) (svaR hA M M) (k':=1) M)) ?_
   refine .cons (lop M M fun S hA=>(jD aB.toEnc0 (b:=5) (k:=1) (a':=(⟨x14.id,a1,x14.first,x14.next,x14.weight,x14.closed⟩:aG)) M M ti3 (svaR hA M M) (agi hA M M) (svaI hA M M) M M M M hx14 (nle M) M hx15)) ?_
   refine .cons (lop M M fun S hA=>(aK M M (lb M) (svaR hA M M))) ?_
   refine .cons (lop M M fun S hA=>(aS M M (lb M) underlying62 M ti60 (by decide) (svaR hA M M) (off':=5) M)) ?_
   refine .cons (lop M M fun S hA=>(cT aB.toEnc0 M M (lb M) underlying60 ti59 (svaR hA M M) (kR hx15 hk11) (svaI hA M M) hx16)) ?_
   refine .cons (lop M M fun S hA=>(bQ M M (lb M) underlying59 M ti3 (by decide) (svaR hA M M) (k':=3) M)) ?_
   refine .cons (lop M M fun S hA=>(jD aB.toEnc0 (b:=5) (k:=3) (a':=(⟨x17.id,x17.up,x17.first,x12.first,x17.weight,x17.closed⟩:aG)) M M ti3 (svaR hA M M) (agi hA M M) (svaI hA M M) M M M M hx17 (nle M) M hx18)) ?_
   exact .nil
  obtain ⟨x19,hx19,h⟩:=aR h
  obtain ⟨x20,hx20,h⟩:=aY h
  refine aX (aA M (mvR M M M M)<|aA M (mvI M M M M)<|aA M (aK M M (lb M) (svR M))<|aA M (jD aB.toEnc0 (b:=5) (k:=2) (a':=(⟨x19.id,x19.up,a0,x19.next,x19.weight,x19.closed⟩:aG)) M M ti3 (svR M) M (svI M) M M M M hx19 (nle M) M hx20)<|bK ?_)
  obtain rfl:=sj_ h
  refine ⟨.inl M,(fun i=>if i=0 then 1001 else i),⟨.nil,(.cons (EntW.mix aB M (SubC.of_eq M) (SubC.of_eq M) M M) (.cons (EntW.lst M) .nil)),bD [1000,1001] M (by decide),(fun i hi=>by first | rfl | (show (if _ then _ else _)=_; (repeat' split) <;> omega))⟩,.nil,M⟩

theorem iF (a0:Int) (a1:Int) (a2:Int) (a3:Int) (a4:(List aH)) (a5:Int) (a6:Int) (a7:(List aG)) (a8:Int) (a9:(List Int)) (r:(Int × Int × (List aH) × Int × Int × (List aG) × Int × (List Int))) (h:eN a0 a1 a2 a3 a4 a5 a6 a7 a8 a9=some r):FnH prog 58 [.ref 1000 0,.int .i64 a0,.int .i64 a1] [(1000,.blk 62 (mixD aB.toEnc0 (w26 a2 a3 a4 a5 a6) a7 [.int .i64 a8,.osl 1001 (eInt .i64).sz a9.length])),(1001,.blk 3 (D.flat (a9.map (eInt .i64).d)))] (retD []) [(1000,.blk 62 (mixD aB.toEnc0 (w26 r.1 r.2.1 r.2.2.1 r.2.2.2.1 r.2.2.2.2.1) r.2.2.2.2.2.1 [.int .i64 r.2.2.2.2.2.2.1,.osl 0 (eInt .i64).sz r.2.2.2.2.2.2.2.length])),(0,.blk 3 (D.flat (r.2.2.2.2.2.2.2.map (eInt .i64).d)))]:=by
 refine eX (rs:=[]) func58 M ntmps58 (nle M) fun O hO=>?_
 show IWP _ _ _ _ ⟨[(0,.ref 1000 0),(1,.int .i64 a0),(2,.int .i64 a1)],[(1000,.blk 62 (mixD aB.toEnc0 (w26 a2 a3 a4 a5 a6) a7 [.int .i64 a8,.osl 1001 (eInt .i64).sz a9.length])),(1001,.blk 3 (D.flat (a9.map (eInt .i64).d)))]⟩ _
 unfold eN at h
 obtain ⟨x1,hx1,h⟩:=aR h
 refine aD (aA M (mvR M M M M)<|aA M (mvI M M M M)<|aA M (cW (r':=.tuple []) (H1':=[(1000,.blk 62 (mixD aB.toEnc0 (w26 x1.1 x1.2.1 x1.2.2.1 x1.2.2.2.1 x1.2.2.2.2.1) x1.2.2.2.2.2.1 [.int .i64 x1.2.2.2.2.2.2.1,.osl 0 (eInt .i64).sz x1.2.2.2.2.2.2.2.length])),(0,.blk 3 (D.flat (x1.2.2.2.2.2.2.2.map (eInt .i64).d)))]) 0 [1000,1001] M M (lb M) cl60 (.cons (svR M) (.cons (svI M) .nil)) M M ⟨M,M,by decide,M,List.forall_mem_cons.2 ⟨⟨M,M,(gT aB M M M),(bV aB M M)⟩,List.forall_mem_cons.2 ⟨⟨M,M,(gE (eInt .i64) M),(bN (eInt .i64))⟩,List.forall_mem_nil _⟩⟩⟩ (kW _ _ _ _ _ _ _ _ _ _ hx1) M M (List.forall_mem_cons.2 ⟨⟨M,(bV aB M M)⟩,List.forall_mem_cons.2 ⟨⟨M,(bN (eInt .i64))⟩,List.forall_mem_nil _⟩⟩) (by simp only [List.map_cons,List.map_nil,Ent.ren,bJ,bY,cB]; rfl))<|aC ?_)
 obtain ⟨x2,hx2,h⟩:=aR h
 refine aX (aA M (mvR M M M M)<|aA M (mvI M M M M)<|aA M (mvI M M M M)<|aA M (cW (r':=.tuple []) (H1':=[(1000,.blk 62 (mixD aB.toEnc0 (w26 x2.1 x2.2.1 x2.2.2.1 x2.2.2.2.1 x2.2.2.2.2.1) x2.2.2.2.2.2.1 [.int .i64 x2.2.2.2.2.2.2.1,.osl 1 (eInt .i64).sz x2.2.2.2.2.2.2.2.length])),(1,.blk 3 (D.flat (x2.2.2.2.2.2.2.2.map (eInt .i64).d)))]) 1 [1000,0] M M (lb M) cl56 (.cons (svR M) (.cons (svI M) (.cons (svI M) .nil))) M M ⟨M,M,by decide,M,List.forall_mem_cons.2 ⟨⟨M,M,(gT aB M M M),(bV aB M M)⟩,List.forall_mem_cons.2 ⟨⟨M,M,(gE (eInt .i64) M),(bN (eInt .i64))⟩,List.forall_mem_nil _⟩⟩⟩ (nV _ _ _ _ _ _ _ _ _ _ _ hx2) M M (List.forall_mem_cons.2 ⟨⟨M,(bV aB M M)⟩,List.forall_mem_cons.2 ⟨⟨M,(bN (eInt .i64))⟩,List.forall_mem_nil _⟩⟩) (by simp only [List.map_cons,List.map_nil,Ent.ren,bJ,bY,cB]; rfl))<|bK ?_)
 obtain rfl:=sj_ h
 refine ⟨.inl M,(fun i=>if i=0 then 1 else i),⟨.nil,(.cons (EntW.mix aB M (SubC.of_eq M) (SubC.of_eq M) M M) (.cons (EntW.lst M) .nil)),bD [1000,1] M (by decide),(fun i hi=>by first | rfl | (show (if _ then _ else _)=_; (repeat' split) <;> omega))⟩,.nil,M⟩

theorem lC (a0:(List aH)) (r:(List aH)) (h:dY a0=some r):FnH prog 104 [.slice false (a0.map aZ.d)] [] (.osl 0 aZ.sz r.length) [(0,.blk 88 (D.flat (r.map aZ.d)))]:=by
 refine eX (rs:=[.osl 0 aZ.sz r.length]) func104 M ntmps104 (nle M) fun O hO=>?_
 show IWP _ _ _ _ ⟨[(0,.slice false (a0.map aZ.d))],[]⟩ _
 unfold dY at h
 refine aD (aA M (aF M M (lb M) (sv (d:=.nils) M))<|aC ?_)
 refine aT ?_
 refine aD (aA M (mvL M M M M)<|aBY M M M (by decide) underlying54 (svL M) M <| fun bn1 hbn1 =>
  aC ?_)
 refine aW (b:=_) M (fun hc2=>?_) (fun hc2=>?_)
 ·
  replace h:=bothE_t h (mapE (hbn1 hc2))
  refine aD (aA M (aF M M (lb M) (sv (d:=.nils) M))<|aC ?_)
  refine bB ?_
  refine bH ?_
  obtain rfl:=sj_ h
  refine ⟨.inr M,(fun i=>if i=0 then 50 else i),⟨.nil,(.cons (.nilb M) .nil),bD [50] M (by decide),(fun i hi=>by first | rfl | (show (if _ then _ else _)=_; (repeat' split) <;> omega))⟩,(.cons (svno M) .nil),M⟩
 ·
  replace h:=bothE_f h
  refine aU ?_
  refine aO ?_
  obtain ⟨x3,hx3,h⟩:=aR h
  refine aD (aA M (lS aZ.toEnc0 ([]:(List aH)) 0 M M (lb M) underlying54 ti88 M .nil M M (by decide))<|aA M (mvL M M M M)<|aA M (kJ aZ.toEnc0 1 M M (lb M) underlying54 ti88 M M M M M (src_T aZ (ys:=a0) (svL M)) hx3)<|aA M (aF M M (lb M) (sv (d:=.osl _ _ _) M))<|aC ?_)
  refine bB ?_
  obtain rfl:=sj_ h
  refine ⟨.inr M,(fun i=>if i=0 then 1 else i),⟨.nil,(.cons (EntW.lst M) .nil),bD [1] M (by decide),(fun i hi=>by first | rfl | (show (if _ then _ else _)=_; (repeat' split) <;> omega))⟩,(.cons (sv M) .nil),M⟩

theorem oA (a0:bF) (r:((List aH) × Int × Int)) (h:jE a0=some r):FnH prog 89 [.agg (v2 a0)] [] (.agg [.osl 0 aZ.sz r.1.length,.int .i64 r.2.1,.int .i64 r.2.2]) [(0,.blk 88 (D.flat (r.1.map aZ.d)))]:=by
 refine eX (rs:=[.agg [.osl 0 aZ.sz r.1.length,.int .i64 r.2.1,.int .i64 r.2.2]]) func89 M ntmps89 (nle M) fun O hO=>?_
 show IWP _ _ _ _ ⟨[(0,.agg (v2 a0))],[]⟩ _
 unfold jE at h
 refine aD (aA M (cY (cs:=q14) 0 M M (lb M) M (svA q14 M) M M)<|aA M (dA (cs:=q18) (cs':=[.slice false (([]:List aH).map aZ.d),.int .i64 0,.int .i64 0]) 1 M M (lb M) M ti56 M M (.cons (.nils _) (.all _)))<|aC ?_)
 obtain ⟨x1,hx1,h⟩:=aR h
 refine aD (aA M (faR 0 M M M underlying56 M ti54 (lb M) M M)<|aA M (lrL la54 M M M M M (nle M) M)<|aA M (cW (r':=.osl 2 aZ.sz x1.length) (H1':=[(2,.blk 88 (D.flat (x1.map aZ.d)))]) 2 [] M M (lb M) cl104 (.cons (svL M) .nil) M M ⟨M,M,by decide,M,List.forall_mem_nil _⟩ (lC _ _ hx1) M M (List.forall_mem_cons.2 ⟨⟨M,(bN aZ)⟩,List.forall_mem_nil _⟩) (by simp only [List.map_cons,List.map_nil,Ent.ren,bJ,bY]; rfl))<|aA M (faR 0 M M M underlying56 M ti54 (lb M) M M)<|aA M (cO (ds':=q15) M M ti54 (svR M) M (sv (d:=.osl _ _ _) M) M M M (nle M) M)<|aC ?_)
 refine aD (aA M (lra q15 la56 M M M M M (nle M) M)<|aA M (stA q15 q15 ti56 M M M M M M M M (nle M) M)<|aC ?_)
 refine bB ?_
 obtain rfl:=sj_ h
 refine ⟨.inr M,(fun i=>if i=0 then 2 else i),⟨.nil,(.cons (EntW.lst M) .nil),bD [2] M (by decide),(fun i hi=>by first | rfl | (show (if _ then _ else _)=_; (repeat' split) <;> omega))⟩,(.cons (rva la56 M M (nle M) M) .nil),M⟩

theorem rE (a0:bF) (a1:Int) (r:Bool) (h:kO a0 a1=some r):eJ prog 91 [.agg (v2 a0),.int .i64 a1] (.bool r):=by
 refine bS (rs:=[.bool r]) func91 M ntmps91 (nle M) M fun O hO=>?_
 show IWP _ _ _ _ ⟨[(0,.agg (v2 a0)),(1,.int .i64 a1)],[]⟩ _
 unfold kO at h
 refine aD (aA M (cY (cs:=q14) 0 M M (lb M) M (svA q14 M) M M)<|aA M (aF M M (lb M) (sv (d:=.bool false) M))<|aC ?_)
 obtain ⟨x1,hx1,h⟩:=aY h
 obtain ⟨x2,hx2,h⟩:=aY h
 obtain ⟨x3,hx3,h⟩:=aY h
 obtain ⟨x4,hx4,h⟩:=aR h
 obtain ⟨x5,hx5,h⟩:=aY h
 refine aD (aA M (mvI M M M M)<|aA M (aQ M M (lb M) (svI M) (sv (d:=.int _ 0) M) M hx1)<|aA M (mvB M M M M)<|aJ M M (.one M) M (by decide) (fun hb=>(mvI M M M M))<|aJ M M (.one M) M (by decide) (fun hb=>(faR 0 M M M underlying56 M ti54 (lb M) M M))<|aJ M M (.one M) M (by decide) (fun hb=>(aI (d:=.slice _ _) M M (lb M) underlying54 ag54 ti54 (by decide) (svcR M hb) M (nle M) M))<|aJ M M (.one M) M (by decide) (fun hb=>(dE aZ (l:=a0.Cells) M M (lb M) underlying54 (svcL M hb)))<|aJ M M (.one M) M (by decide) (fun hb=>(aQ M M (lb M) (svcI M hb) (svcI M hb) M hx2))<|aA M (cU M M (lb M) (svB M) M M hx3)<|aA M (mvB M M M M)<|aJ M M (.one M) M (by decide) (fun hb=>(faR 0 M M M underlying56 M ti54 (lb M) M M))<|aJ M M (.one M) M (by decide) (fun hb=>(aI (d:=.slice _ _) M M (lb M) underlying54 ag54 ti54 (by decide) (svcR M hb) M (nle M) M))<|aJ M M (.one M) M (by decide) (fun hb=>(mvI M M M M))<|aJ M M (.one M) M (by decide) (fun hb=>(cM aZ (cs:=q17) M M (lb M) underlying54 ti88 (svcL M hb) (svcI M hb) (gd_t hx4 hb) M M))<|aJ M M (.one M) M (by decide) (fun hb=>(cF (cs':=[.bool _]) M M (lb M) underlying88 M ti4 (by decide) (svc (d:=.fptr q17) M hb) M))<|aJ M M (.one M) M (by decide) (fun hb=>(cG M M (lb M) underlying4 ag4 ti4 (by decide) (svc (d:=.fptr [.bool _]) M hb) (nle M)))<|aA M (cU M M (lb M) (svB M) M M hx5)<|aA M (asB M M M M)<|aC ?_)
 refine bB ?_
 obtain rfl:=sj_ h
 refine ⟨.inr M,(.cons (sv M) .nil)⟩

theorem sF (a0:bF) (a1:Int) (r:(bF × Int)) (h:mP a0 a1=some r):eJ prog 61 [.agg (v2 a0),.int .i64 a1] (retD [.agg (v2 r.1),.int .i64 r.2]):=by
 refine mU (rs:=[.agg (v2 r.1),.int .i64 r.2]) func61 M ntmps61 (nle M) M fun O hO=>?_
 show IWP _ _ _ _ ⟨[(0,.agg (v2 a0)),(1,.int .i64 a1)],[]⟩ _
 unfold mP at h
 refine aD (aA M (cY (cs:=q14) 0 M M (lb M) M (svA q14 M) M M)<|aA M (dA (cs:=q18) (cs':=[.slice false (([]:List aH).map aZ.d),.int .i64 0,.int .i64 0]) 1 M M (lb M) M ti56 M M (.cons (.nils _) (.all _)))<|aA M (aF M M (lb M) (sv (d:=.int _ 0) M))<|aC ?_)
 obtain ⟨x1,hx1,h⟩:=aR h
 refine aD (aA M (lra q14 la56 M M M M M (nle M) M)<|aA M (cW (r':=.agg [.osl 2 aZ.sz x1.1.length,.int .i64 x1.2.1,.int .i64 x1.2.2]) (H1':=[(2,.blk 88 (D.flat (x1.1.map aZ.d)))]) 2 [] M M (lb M) cl89 (.cons (svA q14 M) .nil) M M ⟨M,M,by decide,M,List.forall_mem_nil _⟩ (oA _ _ hx1) M M (List.forall_mem_cons.2 ⟨⟨M,(bN aZ)⟩,List.forall_mem_nil _⟩) (by simp only [List.map_cons,List.map_nil,Ent.ren,bJ,bY]; rfl))<|aA M (dA (cs:=q18) (cs':=[.slice false (([]:List aH).map aZ.d),.int .i64 0,.int .i64 0]) 3 M M (lb M) M ti56 M M (.cons (.nils _) (.all _)))<|aA M (stA q15 q15 ti56 M M M M M M M M (nle M) M)<|aC ?_)
 refine aT ?_
 obtain ⟨x2,hx2,h⟩:=aR h
 refine aD (aA M (lra q14 la56 M M M M M (nle M) M)<|aA M (bC (r:=.int _ _) M M (lb M) cl49 (.cons (svA q14 M) .nil) M (pF _ _ hx2))<|aA M (asI M M M M)<|aC ?_)
 obtain ⟨x3,hx3,h⟩:=aY h
 refine aD (aA M (mvI M M M M)<|aA M (aQ M M (lb M) (svI M) (sv (d:=.int _ 0) M) M hx3)<|aC ?_)
 refine aW (b:=_) M (fun hc4=>?_) (fun hc4=>?_)
 ·
  replace h:=cI h hc4
  refine aD (aA M (lra q15 la56 M M M M M (nle M) M)<|aA M (mvI M M M M)<|aA M (stA q15 q15 ti56 M M M M M M M M (nle M) M)<|aA M (asI M M M M)<|aC ?_)
  refine bB ?_
  refine bH ?_
  obtain rfl:=sj_ h
  refine ⟨.inr M,_,(.cons (rva la56 M M (nle M) M) (.cons (sv M) .nil)),(.cons (.agg (.cons (FDT aZ M M) (.all _))) (.all _))⟩
 ·
  replace h:=cJ h hc4
  refine aU ?_
  refine aO ?_
  refine aT ?_
  obtain ⟨x5,hx5,h⟩:=aR h
  refine aD (aA M (lra q14 la56 M M M M M (nle M) M)<|aA M (mvI M M M M)<|aA M (bC (r:=.bool _) M M (lb M) cl91 (.cons (svA q14 M) (.cons (svI M) .nil)) M (rE _ _ _ hx5))<|aA M (eY M M (lb M) (svB M))<|aC ?_)
  refine aW (b:=_) M (fun hc6=>?_) (fun hc6=>?_)
  ·
   replace h:=cI h hc6
   refine aD (aA M (lra q15 la56 M M M M M (nle M) M)<|aA M (stA q15 q15 ti56 M M M M M M M M (nle M) M)<|aA M (aF M M (lb M) (sv (d:=.int _ 6) M))<|aC ?_)
   refine bB ?_
   refine bH ?_
   obtain rfl:=sj_ h
   refine ⟨.inr M,_,(.cons (rva la56 M M (nle M) M) (.cons (sv M) .nil)),(.cons (.agg (.cons (FDT aZ M M) (.all _))) (.all _))⟩
  ·
   replace h:=cJ h hc6
   refine aU ?_
   refine aO ?_
   obtain ⟨x7,hx7,h⟩:=aR h
   obtain ⟨x8,hx8,h⟩:=aR h
   obtain ⟨x9,hx9,h⟩:=aY h
   refine aD (aA M (faR 0 M M M underlying56 M ti54 (lb M) M M)<|aA M (aI (d:=.osl _ _ _) M M (lb M) underlying54 ag54 ti54 (by decide) (svR M) M (nle M) M)<|aA M (mvI M M M M)<|aA M (faR 1 M M M underlying56 M ti3 (lb M) M M)<|aA M (aI (d:=.int _ _) M M (lb M) underlying3 ag3 ti3 (by decide) (svR M) M (nle M) M)<|aA M (cP (cs:=q17) M M (lb M) underlying88 ti88 pl88 M (.cons (svI M) .nil) M)<|aA M (lE aZ.toEnc0 M M (lb M) underlying54 ti88 (sv (d:=.osl _ _ _) M) M (svI M) hx7)<|aA M (pB aZ.toEnc0 (a':=(⟨false,0,x1.2.1⟩:aH)) M M ti88 (svR M) M (svA q17 M) M M M hx8 (nle M) M hx9)<|aC ?_)
   refine aD (aA M (mvI M M M M)<|aA M (faR 1 M M M underlying56 M ti3 (lb M) M M)<|aA M (cO (ds':=q15) M M ti3 (svR M) M (svI M) M M M (nle M) M)<|aC ?_)
   obtain ⟨x10,hx10,h⟩:=aY h
   refine aD (aA M (faR 2 M M M underlying56 M ti3 (lb M) M M)<|aA M (aI (d:=.int _ _) M M (lb M) underlying3 ag3 ti3 (by decide) (svR M) M (nle M) M)<|aA M (cK M M (lb M) (svI M) (sv (d:=.int _ 1) M) M hx10)<|aA M (faR 2 M M M underlying56 M ti3 (lb M) M M)<|aA M (cO (ds':=q15) M M ti3 (svR M) M (svI M) M M M (nle M) M)<|aC ?_)
   refine aD (aA M (lra q15 la56 M M M M M (nle M) M)<|aA M (stA q15 q15 ti56 M M M M M M M M (nle M) M)<|aA M (aF M M (lb M) (sv (d:=.int _ 0) M))<|aC ?_)
   refine bB ?_
   obtain rfl:=sj_ h
   refine ⟨.inr M,_,(.cons (rva la56 M M (nle M) M) (.cons (sv M) .nil)),(.cons (.agg (.cons (FDT aZ M (kR hx9 M)) (.all _))) (.all _))⟩

theorem oI (a0:Int) (a1:Int) (r:Bool) (h:kN a0 a1=some r):eJ prog 63 [.int .i64 a0,.fptr [.int .i64 a1]] (.bool r):=by
 refine bS (rs:=[.bool r]) func63 M ntmps63 (nle M) M fun O hO=>?_
 show IWP _ _ _ _ ⟨[(0,.int .i64 a0),(1,.fptr [.int .i64 a1])],[]⟩ _
 unfold kN at h
 refine aD (aA M (aF M M (lb M) (sv (d:=.bool false) M))<|aC ?_)
 obtain ⟨x1,hx1,h⟩:=aY h
 refine aD (aA M (mvI M M M M)<|aA M (cG M M (lb M) underlying3 ag3 ti3 (by decide) (sv (d:=.fptr [.int _ _]) M) (nle M))<|aA M (aQ M M (lb M) (svI M) (svI M) M hx1)<|aA M (asB M M M M)<|aC ?_)
 refine bB ?_
 obtain rfl:=sj_ h
 refine ⟨.inr M,(.cons (sv M) .nil)⟩

theorem lY (a0:(List Int)) (a1:Int) (r:Int) (h:gZ a0 a1=some r):eJ prog 92 [.slice false (a0.map (eInt .i64).d),.fn 63 [.fptr [.int .i64 a1]]] (.int .i64 r):=by
 refine bS (rs:=[.int .i64 r]) func92 M ntmps92 (nle M) M fun O hO=>?_
 show IWP _ _ _ _ ⟨[(0,.slice false (a0.map (eInt .i64).d)),(1,.fn 63 [.fptr [.int .i64 a1]])],[]⟩ _
 unfold gZ at h
 refine aD (aA M (aF M M (lb M) (sv (d:=.int _ 0) M))<|aC ?_)
 refine aT ?_
 refine aD (aA M (mvL M M M M)<|aA M (dE (eInt .i64) (l:=a0) M M (lb M) underlying24 (svL M))<|aA M (aP M M (lb M) (sv (d:=.int _ 0) M))<|aC ?_)
 refine bA ?_
 refine cQ (α:=Nat × Int) (fun z=>⟨[(0,.slice false (a0.map (eInt .i64).d)),(1,.fn 63 [.fptr [.int .i64 a1]]),(7,.int .i64 (a0.length:Int)),(8,.int .i64 z.2)],[]⟩) (fun z=>dG a0 a1 z.1 z.2=some r) (fun z=>z.1) (fuel,0) (fun i=>i) ⟨(.sames M M),.nil,bD [] M (by decide),fun _ _=>M⟩ ?_ ?_
 ·exact h
 ·
  rintro ⟨n0,v7⟩ h
  cases n0 with
  | zero=>exact absurd h (by unfold dG; exact nofun)
  | succ n0 =>
   unfold dG at h
   obtain ⟨x14,hx14,h⟩:=aY h
   refine aD (aA M (aQ M M (lb M) (svI M) (svI M) M hx14)<|aC ?_)
   refine aT ?_
   refine aW (b:=_) M (fun hc15=>?_) (fun hc15=>?_)
   ·
    replace h:=cI h hc15
    refine aU ?_
    refine aO ?_
    refine aT ?_
    refine bA ?_
    refine aD (aA M (mvI M M M M)<|aA M (asI M M M M)<|aC ?_)
    obtain ⟨x16,hx16,h⟩:=aR h
    obtain ⟨x17,hx17,h⟩:=aR h
    refine aD (aA M (aP M M (lb M) (sv (d:=.fn 63 [.fptr [.int _ _]]) M))<|aA M (mvL M M M M)<|aA M (mvI M M M M)<|aA M (cM (eInt .i64) (cs:=[.int _ _]) M M (lb M) underlying24 ti3 (svL M) (svI M) hx16 M M)<|aA M (cG M M (lb M) underlying3 ag3 ti3 (by decide) (sv (d:=.fptr [.int _ _]) M) (nle M))<|aA M (xL (r:=.bool _) M M (lb M) cl63 (sv (d:=.fn 63 [.fptr [.int _ _]]) M) (.cons (svI M) .nil) M (oI _ _ _ hx17))<|aC ?_)
    refine aW (b:=_) M (fun hc18=>?_) (fun hc18=>?_)
    ·
     replace h:=cI h hc18
     refine aD (aA M (mvI M M M M)<|aA M (asI M M M M)<|aC ?_)
     refine bB ?_
     refine dC ?_
     refine bH ?_
     refine bH ?_
     refine dC ?_
     refine bH ?_
     obtain rfl:=sj_ h
     refine ⟨.inr M,(.cons (sv M) .nil)⟩
    ·
     replace h:=cJ h hc18
     refine aU ?_
     refine bL ?_
     refine aO ?_
     obtain ⟨x19,hx19,h⟩:=aY h
     refine aX (aA M (cK M M (lb M) (svI M) (sv (d:=.int _ 1) M) M hx19)<|aA M (mvI M M M M)<|bK ?_)
     refine aO ⟨(n0,x19),(fun i=>i),⟨(.sames M M),.nil,bD [] M (by decide),fun _ _=>M⟩,?_,?_⟩
     exact h
     exact Nat.lt_succ_self _
   ·
    replace h:=cJ h hc15
    refine cX ?_
    refine bR ?_
    refine bR ?_
    refine cZ ?_
    refine aO ?_
    refine aD (aA M (aF M M (lb M) (sv (d:=.int _ (-1)) M))<|aC ?_)
    refine bB ?_
    obtain rfl:=sj_ h
    refine ⟨.inr M,(.cons (sv M) .nil)⟩

theorem iP (a0:(List Int)) (a1:Int) (r:(List Int)) (h:dH a0 a1=some r):FnH prog 62 [.osl 1000 (eInt .i64).sz a0.length,.fn 63 [.ref 1001 0]] [(1000,.blk 3 (D.flat (a0.map (eInt .i64).d))),(1001,.blk 3 [.int .i64 a1])] (.osl 0 (eInt .i64).sz r.length) [(1001,.blk 3 [.int .i64 a1]),(0,.blk 3 (D.flat (r.map (eInt .i64).d)))]:=by
 refine eX (rs:=[.osl 0 (eInt .i64).sz r.length]) func62 M ntmps62 (nle M) fun O hO=>?_
 show IWP _ _ _ _ ⟨[(0,.osl 1000 (eInt .i64).sz a0.length),(1,.fn 63 [.ref 1001 0])],[(1000,.blk 3 (D.flat (a0.map (eInt .i64).d))),(1001,.blk 3 [.int .i64 a1])]⟩ _
 unfold dH at h
 refine aD (aA M (aF M M (lb M) (sv (d:=.nils) M))<|aC ?_)
 obtain ⟨x1,hx1,h⟩:=aR h
 refine aD (aA M (aP M M (lb M) (sv (d:=.osl _ _ _) M))<|aA M (aP M M (lb M) (sv (d:=.fn 63 [.ref _ _]) M))<|aA M (xM (r:=.int .i64 x1) M M (lb M) cl92 (.cons (sv (d:=.osl _ _ _) M) (.cons (sv (d:=.fn 63 [.ref _ _]) M) .nil)) (.cons (FDT (eInt .i64) M M) (.cons (.fn (.cons (.ref M M (sZ _) M) .nil)) .nil)) M M (lY _ _ _ hx1))<|aA M (asI M M M M)<|aC ?_)
 refine aT ?_
 obtain ⟨x2,hx2,h⟩:=aY h
 refine aD (aA M (mvI M M M M)<|aA M (aQ M M (lb M) (svI M) (sv (d:=.int _ (-1)) M) M hx2)<|aC ?_)
 refine aW (b:=_) M (fun hc3=>?_) (fun hc3=>?_)
 ·
  replace h:=cI h hc3
  refine aD (aA M (aP M M (lb M) (sv (d:=.osl _ _ _) M))<|aA M (aF M M (lb M) (sv (d:=.osl _ _ _) M))<|aC ?_)
  refine bB ?_
  refine bH ?_
  obtain rfl:=sj_ h
  refine ⟨.inr M,(fun i=>if i=0 then 1000 else i),⟨.nil,(.cons (.blk M M M) (.cons (EntW.lst M) .nil)),bD [1001,1000] M (by decide),(fun i hi=>by first | rfl | (show (if _ then _ else _)=_; (repeat' split) <;> omega))⟩,(.cons (sv M) .nil),M⟩
 ·
  replace h:=cJ h hc3
  refine aU ?_
  refine aO ?_
  refine aT ?_
  obtain ⟨x4,hx4,h⟩:=aY h
  refine aD (aA M (mvI M M M M)<|aA M (cK M M (lb M) (svI M) (sv (d:=.int _ 1) M) M hx4)<|aA M (asI M M M M)<|aC ?_)
  refine bA ?_
  refine cQ (α:=Nat × (List Int) × Int × Int) (fun z=>⟨[(0,.osl 1000 (eInt .i64).sz z.2.1.length),(1,.fn 63 [.ref 1001 0]),(5,.int .i64 z.2.2.1),(6,.int .i64 z.2.2.2)],[(1000,.blk 3 (D.flat (z.2.1.map (eInt .i64).d))),(1001,.blk 3 [.int .i64 a1])]⟩) (fun z=>cL a1 z.1 z.2.1 z.2.2.1 z.2.2.2=some r) (fun z=>z.1) (fuel,a0,x1,x4) (fun i=>i) ⟨(.sames M M),(.cons (EntW.lst M) (.cons (.blk M M M) .nil)),bD [1000,1001] M (by decide),fun _ _=>M⟩ ?_ ?_
  ·exact h
  ·
   rintro ⟨n0,v17,v18,v19⟩ h
   cases n0 with
   | zero=>exact absurd h (by unfold cL; exact nofun)
   | succ n0 =>
    unfold cL at h
    refine aT ?_
    obtain ⟨x32,hx32,h⟩:=aY h
    refine aD (aA M (mvI M M M M)<|aA M (aP M M (lb M) (sv (d:=.osl _ _ _) M))<|aA M (oJ M M (lb M) underlying24 (sv (d:=.osl _ _ _) M))<|aA M (aQ M M (lb M) (svI M) (svI M) M hx32)<|aC ?_)
    refine aW (b:=_) M (fun hc33=>?_) (fun hc33=>?_)
    ·
     replace h:=cI h hc33
     refine aU ?_
     refine aO ?_
     refine aT ?_
     refine bA ?_
     obtain ⟨x34,hx34,h⟩:=aR h
     obtain ⟨x35,hx35,h⟩:=aR h
     refine aD (aA M (aP M M (lb M) (sv (d:=.osl _ _ _) M))<|aA M (mvI M M M M)<|aA M (lE (eInt .i64).toEnc0 M M (lb M) underlying24 ti3 (sv (d:=.osl _ _ _) M) M (svI M) hx34)<|aA M (kP (eInt .i64).toEnc0 (d:=.int _ _) M M (lb M) underlying3 ag3 ti3 (by decide) (svR M) M hx35 (nle M) M)<|aA M (asI M M M M)<|aC ?_)
     obtain ⟨x36,hx36,h⟩:=aR h
     refine aD (aA M (aP M M (lb M) (sv (d:=.fn 63 [.ref _ _]) M))<|aA M (mvI M M M M)<|aA M (aAW (r:=.bool x36) M M (lb M) cl63 (sv (d:=.fn 63 [.ref _ _]) M) (.cons (svI M) .nil) (.k (.cons (.ref M M (sZ _) M) .nil)) M M (oI _ _ _ hx36))<|aA M (eY M M (lb M) (svB M))<|aC ?_)
     refine aW (b:=_) M (fun hc37=>?_) (fun hc37=>?_)
     ·
      replace h:=cI h hc37
      obtain ⟨x38,hx38,h⟩:=aR h
      obtain ⟨x39,hx39,h⟩:=aR h
      obtain ⟨x40,hx40,h⟩:=aY h
      refine aD (aA M (aP M M (lb M) (sv (d:=.osl _ _ _) M))<|aA M (mvI M M M M)<|aA M (mvI M M M M)<|aA M (lE (eInt .i64).toEnc0 M M (lb M) underlying24 ti3 (sv (d:=.osl _ _ _) M) M (svI M) hx38)<|aA M (pB (eInt .i64).toEnc0 (a':=x35) M M ti3 (svR M) M (svI M) M M M hx39 (nle M) M hx40)<|aC ?_)
      obtain ⟨x41,hx41,h⟩:=aY h
      refine aX (aA M (mvI M M M M)<|aA M (cK M M (lb M) (svI M) (sv (d:=.int _ 1) M) M hx41)<|aA M (asI M M M M)<|bK ?_)
      refine bL ?_
      refine aO ?_
      obtain ⟨x42,hx42,h⟩:=aY h
      refine aX (aA M (mvI M M M M)<|aA M (cK M M (lb M) (svI M) (sv (d:=.int _ 1) M) M hx42)<|aA M (asI M M M M)<|bK ?_)
      refine aO ⟨(n0,x40,x41,x42),(fun i=>i),⟨(.cons (.same (congrArg (D.osl _ _) (kR hx40 M).symm) M) (.sames M M)),(.cons (EntW.lst M) (.cons (.blk M M M) .nil)),bD [1000,1001] M (by decide),fun _ _=>M⟩,?_,?_⟩
      exact h
      exact Nat.lt_succ_self _
     ·
      replace h:=cJ h hc37
      refine aU ?_
      refine bL ?_
      refine aO ?_
      obtain ⟨x43,hx43,h⟩:=aY h
      refine aX (aA M (mvI M M M M)<|aA M (cK M M (lb M) (svI M) (sv (d:=.int _ 1) M) M hx43)<|aA M (asI M M M M)<|bK ?_)
      refine aO ⟨(n0,v17,v18,x43),(fun i=>i),⟨(.sames M M),(.cons (EntW.lst M) (.cons (.blk M M M) .nil)),bD [1000,1001] M (by decide),fun _ _=>M⟩,?_,?_⟩
      exact h
      exact Nat.lt_succ_self _
    ·
     replace h:=cJ h hc33
     refine cX ?_
     refine bR ?_
     refine bR ?_
     refine cZ ?_
     refine aO ?_
     obtain ⟨x44,hx44,h⟩:=aR h
     refine aD (aA M (aP M M (lb M) (sv (d:=.osl _ _ _) M))<|aA M (mvI M M M M)<|yU (eInt .i64).toEnc0 M M M M (by decide) M M underlying24 ti3 M M M M M (fun S1 h9=>sv ((h9 37 (by decide)).trans M)) hx44<|aC ?_)
     obtain ⟨x45,hx45,h⟩:=aR h
     refine aD (aA M (aP M M (lb M) (sv (d:=.osl _ _ _) M))<|aA M (mvI M M M M)<|aA M (aAP (eInt .i64).toEnc0 M M (lb M) underlying24 ti3 (sv (d:=.osl _ _ _) M) M (Nat.le_trans (cut_le hx44) (Nat.le_of_eq M)) (svI M) hx45)<|aA M (aF M M (lb M) (sv (d:=.osl _ _ _) M))<|aC ?_)
     refine bB ?_
     obtain rfl:=sj_ h
     refine ⟨.inr M,(fun i=>if i=0 then 1000 else i),⟨.nil,(.cons (.blk M M M) (.cons (EntW.lst M) .nil)),bD [1001,1000] M (by decide),(fun i hi=>by first | rfl | (show (if _ then _ else _)=_; (repeat' split) <;> omega))⟩,(.cons (sv M) .nil),M⟩
end Go.Proofs.YtdnjagkihgjpcaaGreat
