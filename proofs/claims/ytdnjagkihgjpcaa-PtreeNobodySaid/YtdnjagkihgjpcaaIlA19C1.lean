/-
  A part of the proof: rules and plain facts. No condition.
-/
import Derived.Test.YtdnjagkihgjpcaaProg
import Derived.KernelRfl
import Derived.Test.YtdnjagkihgjpcaaIlMb
import Derived.Test.YtdnjagkihgjpcaaIlA19D
set_option linter.all false
set_option maxRecDepth 8000
set_option maxHeartbeats 2000000
open Go Go.IL Go.Fn Go.Proofs
open Go.Proofs.Try
namespace Go.Proofs.Ytdnjagkihgjpcaa
theorem ti3:TI prog 3 (some (.int .i64 0)) 1 8:=by unfold TI; kernel_rfl
theorem ti4:TI prog 4 (some (.bool false)) 1 1:=by unfold TI; kernel_rfl
theorem ti26:TI prog 26 (some (.pointer none)) 1 8:=by unfold TI; kernel_rfl
theorem ti40:TI prog 40 (some (.agg #[.int .i64 0,.int .i64 0,.int .i64 0,.bool false])) 4 32:=by unfold TI; kernel_rfl
theorem ti50:TI prog 50 (some (.agg #[.int .i64 0,.int .i64 0,.int .i64 0,.bool false])) 4 32:=by unfold TI; kernel_rfl
theorem ti53:TI prog 53 (some (.slice none 0 0)) 1 24:=by unfold TI; kernel_rfl
theorem ti55:TI prog 55 (some (.agg #[.slice none 0 0,.int .i64 0,.int .i64 0])) 3 40:=by unfold TI; kernel_rfl
theorem ti57:TI prog 57 (some (.agg #[.int .i64 0,.int .i64 0,.int .i64 0,.int .i64 0,.int .i64 0,.bool false])) 6 48:=by unfold TI; kernel_rfl
theorem ti58:TI prog 58 (some (.agg #[.int .i64 0,.int .i64 0,.int .i64 0,.int .i64 0,.int .i64 0,.bool false,.int .i64 0,.int .i64 0,.int .i64 0,.int .i64 0,.int .i64 0,.bool false,.int .i64 0,.int .i64 0,.int .i64 0,.int .i64 0,.int .i64 0,.bool false,.int .i64 0,.int .i64 0,.int .i64 0,.int .i64 0,.int .i64 0,.bool false,.int .i64 0,.int .i64 0,.int .i64 0,.int .i64 0,.int .i64 0,.bool false,.int .i64 0,.int .i64 0,.int .i64 0,.int .i64 0,.int .i64 0,.bool false,.int .i64 0,.int .i64 0,.int .i64 0,.int .i64 0,.int .i64 0,.bool false,.int .i64 0,.int .i64 0,.int .i64 0,.int .i64 0,.int .i64 0,.bool false,.int .i64 0,.int .i64 0,.int .i64 0,.int .i64 0,.int .i64 0,.bool false,.int .i64 0,.int .i64 0,.int .i64 0,.int .i64 0,.int .i64 0,.bool false,.int .i64 0,.int .i64 0,.int .i64 0,.int .i64 0,.int .i64 0,.bool false,.int .i64 0,.int .i64 0,.int .i64 0,.int .i64 0,.int .i64 0,.bool false,.int .i64 0,.int .i64 0,.int .i64 0,.int .i64 0,.int .i64 0,.bool false,.int .i64 0,.int .i64 0,.int .i64 0,.int .i64 0,.int .i64 0,.bool false,.int .i64 0,.int .i64 0,.int .i64 0,.int .i64 0,.int .i64 0,.bool false,.int .i64 0,.int .i64 0,.int .i64 0,.int .i64 0,.int .i64 0,.bool false,.int .i64 0,.int .i64 0,.int .i64 0,.int .i64 0,.int .i64 0,.bool false,.int .i64 0,.int .i64 0,.int .i64 0,.int .i64 0,.int .i64 0,.bool false,.int .i64 0,.int .i64 0,.int .i64 0,.int .i64 0,.int .i64 0,.bool false,.int .i64 0,.int .i64 0,.int .i64 0,.int .i64 0,.int .i64 0,.bool false,.int .i64 0,.int .i64 0,.int .i64 0,.int .i64 0,.int .i64 0,.bool false,.int .i64 0,.int .i64 0,.int .i64 0,.int .i64 0,.int .i64 0,.bool false,.int .i64 0,.int .i64 0,.int .i64 0,.int .i64 0,.int .i64 0,.bool false,.int .i64 0,.int .i64 0,.int .i64 0,.int .i64 0,.int .i64 0,.bool false,.int .i64 0,.int .i64 0,.int .i64 0,.int .i64 0,.int .i64 0,.bool false,.int .i64 0,.int .i64 0,.int .i64 0,.int .i64 0,.int .i64 0,.bool false,.int .i64 0,.int .i64 0,.int .i64 0,.int .i64 0,.int .i64 0,.bool false,.int .i64 0,.int .i64 0,.int .i64 0,.int .i64 0,.int .i64 0,.bool false,.int .i64 0,.int .i64 0,.int .i64 0,.int .i64 0,.int .i64 0,.bool false,.int .i64 0,.int .i64 0,.int .i64 0,.int .i64 0,.int .i64 0,.bool false,.int .i64 0,.int .i64 0,.int .i64 0,.int .i64 0,.int .i64 0,.bool false,.int .i64 0,.int .i64 0,.int .i64 0,.int .i64 0,.int .i64 0,.bool false,.int .i64 0,.int .i64 0,.int .i64 0,.int .i64 0,.int .i64 0,.bool false,.int .i64 0,.int .i64 0,.int .i64 0,.int .i64 0,.int .i64 0,.bool false,.int .i64 0,.int .i64 0,.int .i64 0,.int .i64 0,.int .i64 0,.bool false,.int .i64 0,.int .i64 0,.int .i64 0,.int .i64 0,.int .i64 0,.bool false,.int .i64 0,.int .i64 0,.int .i64 0,.int .i64 0,.int .i64 0,.bool false,.int .i64 0,.int .i64 0,.int .i64 0,.int .i64 0,.int .i64 0,.bool false,.int .i64 0,.int .i64 0,.int .i64 0,.int .i64 0,.int .i64 0,.bool false,.int .i64 0,.int .i64 0,.int .i64 0,.int .i64 0,.int .i64 0,.bool false,.int .i64 0,.int .i64 0,.int .i64 0,.int .i64 0,.int .i64 0,.bool false,.int .i64 0,.int .i64 0,.int .i64 0,.int .i64 0,.int .i64 0,.bool false,.int .i64 0,.int .i64 0,.int .i64 0,.int .i64 0,.int .i64 0,.bool false,.int .i64 0,.int .i64 0,.int .i64 0,.int .i64 0,.int .i64 0,.bool false,.int .i64 0,.int .i64 0,.int .i64 0,.int .i64 0,.int .i64 0,.bool false,.int .i64 0,.int .i64 0,.int .i64 0,.int .i64 0,.int .i64 0,.bool false,.int .i64 0,.int .i64 0,.int .i64 0,.int .i64 0,.int .i64 0,.bool false,.int .i64 0,.int .i64 0,.int .i64 0,.int .i64 0,.int .i64 0,.bool false,.int .i64 0,.int .i64 0,.int .i64 0,.int .i64 0,.int .i64 0,.bool false,.int .i64 0,.int .i64 0,.int .i64 0,.int .i64 0,.int .i64 0,.bool false,.int .i64 0,.int .i64 0,.int .i64 0,.int .i64 0,.int .i64 0,.bool false,.int .i64 0,.int .i64 0,.int .i64 0,.int .i64 0,.int .i64 0,.bool false,.int .i64 0,.int .i64 0,.int .i64 0,.int .i64 0,.int .i64 0,.bool false,.int .i64 0,.int .i64 0,.int .i64 0,.int .i64 0,.int .i64 0,.bool false,.int .i64 0,.int .i64 0,.int .i64 0,.int .i64 0,.int .i64 0,.bool false,.int .i64 0,.int .i64 0,.int .i64 0,.int .i64 0,.int .i64 0,.bool false,.int .i64 0,.int .i64 0,.int .i64 0,.int .i64 0,.int .i64 0,.bool false,.int .i64 0,.int .i64 0,.int .i64 0,.int .i64 0,.int .i64 0,.bool false,.int .i64 0,.int .i64 0,.int .i64 0,.int .i64 0,.int .i64 0,.bool false,.int .i64 0,.int .i64 0,.int .i64 0,.int .i64 0,.int .i64 0,.bool false,.int .i64 0,.int .i64 0,.int .i64 0,.int .i64 0,.int .i64 0,.bool false,.int .i64 0,.int .i64 0,.int .i64 0,.int .i64 0,.int .i64 0,.bool false,.int .i64 0,.int .i64 0,.int .i64 0,.int .i64 0,.int .i64 0,.bool false,.int .i64 0,.int .i64 0,.int .i64 0,.int .i64 0,.int .i64 0,.bool false])) 384 3072:=by unfold TI; kernel_rfl
theorem ti78:TI prog 78 (some (.agg #[.bool false,.int .i64 0,.int .i64 0])) 3 24:=by unfold TI; kernel_rfl
theorem ag3:kJ prog 3=false:=by kernel_rfl
theorem ag4:kJ prog 4=false:=by kernel_rfl
theorem ag26:kJ prog 26=false:=by kernel_rfl
theorem ag40:kJ prog 40=true:=by kernel_rfl
theorem ag50:kJ prog 50=true:=by kernel_rfl
theorem ag53:kJ prog 53=false:=by kernel_rfl
theorem ag55:kJ prog 55=true:=by kernel_rfl
theorem ag78:kJ prog 78=true:=by kernel_rfl
theorem pl55:∀ w,(Array.mapM (m:=Sem) (fun (f:Field)=>Functor.map (Prod.mk f.offset) (sizeOf f.type)) (fieldsOf prog 55)).run prog w = .ok #[(0,1),(1,1),(2,1)] w:=fun w=>by kernel_rfl
theorem pl78:∀ w,(Array.mapM (m:=Sem) (fun (f:Field)=>Functor.map (Prod.mk f.offset) (sizeOf f.type)) (fieldsOf prog 78)).run prog w = .ok #[(0,1),(1,1),(2,1)] w:=fun w=>by kernel_rfl
theorem st50:prog.stoodInHeld 50=false ∧ prog.eqGuardType prog.depth 50=false:=⟨by kernel_rfl,by kernel_rfl⟩
theorem cl24:bM prog 24:=⟨f24,func24,rfl,rfl⟩
theorem cl31:bM prog 31:=⟨f31,func31,rfl,rfl⟩
theorem cl37:bM prog 37:=⟨f37,func37,rfl,rfl⟩
theorem cl41:bM prog 41:=⟨f41,func41,rfl,rfl⟩
theorem cl44:bM prog 44:=⟨f44,func44,rfl,rfl⟩
theorem cl48:bM prog 48:=⟨f48,func48,rfl,rfl⟩
theorem cl51:bM prog 51:=⟨f51,func51,rfl,rfl⟩
theorem cl52:bM prog 52:=⟨f52,func52,rfl,rfl⟩
theorem cl53:bM prog 53:=⟨f53,func53,rfl,rfl⟩
theorem cl54:bM prog 54:=⟨f54,func54,rfl,rfl⟩
theorem cl55:bM prog 55:=⟨f55,func55,rfl,rfl⟩
theorem cl56:bM prog 56:=⟨f56,func56,rfl,rfl⟩
theorem cl76:bM prog 76:=⟨f76,func76,rfl,rfl⟩
theorem cl78:bM prog 78:=⟨f78,func78,rfl,rfl⟩
theorem cl79:bM prog 79:=⟨f79,func79,rfl,rfl⟩
theorem cl80:bM prog 80:=⟨f80,func80,rfl,rfl⟩
theorem cl81:bM prog 81:=⟨f81,func81,rfl,rfl⟩
theorem cl91:bM prog 91:=⟨f91,func91,rfl,rfl⟩
theorem cl92:bM prog 92:=⟨f92,func92,rfl,rfl⟩
def la53:=LA.mk underlying53 ag53 ti53 (by decide)
def la55:=LA.mk underlying55 ag55 ti55 (by decide)
abbrev v0 (x:eY):List D:=[.int .u8 x.Kind,.int .i64 x.ID,.int .i64 x.Dep,.int .i64 x.Weight,.bool x.Only]
abbrev v1 (x:bN):List D:=[.slice false (x.Cells.map bA.d),.int .i64 x.Free,.int .i64 x.Used]
abbrev v2 (x:aG):List D:=[.int .i64 x.ID,.int .i64 x.Parent,.int .i64 x.Weight,.bool x.Closed]
abbrev v3 (x:aP):List D:=[.bool x.Live,.int .i64 x.Value,.int .i64 x.Link]
abbrev v4 (x:gS):List D:=[.int .i64 x.dep,.int .i64 x.weight,.bool x.only]
abbrev q5  : List D:=[.dead,.dead,.dead,.dead,.dead,.dead,.dead,.dead,.dead,.dead,.dead,.dead,.dead,.dead,.dead,.dead,.dead,.dead,.dead,.dead,.dead,.dead,.dead,.dead,.dead,.dead,.dead,.dead,.dead,.dead,.dead,.dead,.dead,.dead,.dead,.dead,.dead,.dead,.dead,.dead,.dead,.dead,.dead,.dead,.dead,.dead,.dead,.dead,.dead,.dead,.dead,.dead,.dead,.dead,.dead,.dead,.dead,.dead,.dead,.dead,.dead,.dead,.dead,.dead,.dead,.dead,.dead,.dead,.dead,.dead,.dead,.dead,.dead,.dead,.dead,.dead,.dead,.dead,.dead,.dead,.dead,.dead,.dead,.dead,.dead,.dead,.dead,.dead,.dead,.dead,.dead,.dead,.dead,.dead,.dead,.dead,.dead,.dead,.dead,.dead,.dead,.dead,.dead,.dead,.dead,.dead,.dead,.dead,.dead,.dead,.dead,.dead,.dead,.dead,.dead,.dead,.dead,.dead,.dead,.dead,.dead,.dead,.dead,.dead,.dead,.dead,.dead,.dead,.dead,.dead,.dead,.dead,.dead,.dead,.dead,.dead,.dead,.dead,.dead,.dead,.dead,.dead,.dead,.dead,.dead,.dead,.dead,.dead]
abbrev q6 {a1:IntKind} {a2:Int} {a3:IntKind} {a4:Int} {a5:IntKind} {a6:Int} {a7:IntKind} {a8:Int} {a9:IntKind} {a10:Int} {a11:Bool}:List D:=[.int a1 a2,.int a3 a4,.int a5 a6,.int a7 a8,.int a9 a10,.bool a11]
abbrev q7 {a1:IntKind} {a2:Int} {a3:IntKind} {a4:Int} {a5:Bool} {a6:List D} {a7:IntKind} {a8:Int} {a9:IntKind} {a10:Int}:List D:=[.int a1 a2,.int a3 a4,.slice a5 a6,.int a7 a8,.int a9 a10]
abbrev q8 {a1:IntKind} {a2:Int} {a3:IntKind} {a4:Int} {a5:IntKind} {a6:Int} {a7:IntKind} {a8:Int} {a9:Bool}:List D:=[.int a1 a2,.int a3 a4,.int a5 a6,.int a7 a8,.bool a9]
abbrev q9 {a1:IntKind} {a2:Int} {a3:IntKind} {a4:Int} {a5:IntKind} {a6:Int} {a7:Bool}:List D:=[.int a1 a2,.int a3 a4,.int a5 a6,.bool a7]
abbrev q10 {a1:Bool} {a2:List D} {a3:IntKind} {a4:Int} {a5:IntKind} {a6:Int}:List D:=[.slice a1 a2,.int a3 a4,.int a5 a6]
abbrev q11 {a1:Nat} {a2:Nat} {a3:Nat} {a4:IntKind} {a5:Int} {a6:IntKind} {a7:Int}:List D:=[.osl a1 a2 a3,.int a4 a5,.int a6 a7]
abbrev q12 {a1:IntKind} {a2:Int} {a3:IntKind} {a4:Int} {a5:Bool}:List D:=[.int a1 a2,.int a3 a4,.bool a5]
abbrev q13 {a1:Bool} {a2:IntKind} {a3:Int} {a4:IntKind} {a5:Int}:List D:=[.bool a1,.int a2 a3,.int a4 a5]
abbrev q14 {a1:IntKind} {a2:Int} {a3:IntKind} {a4:Int}:List D:=[.nils,.int a1 a2,.int a3 a4]
abbrev q15 {a1:IntKind} {a2:Int} {a3:Nat} {a4:Nat} {a5:Nat}:List D:=[.int a1 a2,.osl a3 a4 a5]
abbrev q16 {a1:Nat} {a2:Nat} {a3:Nat} {a4:Nat}:List D:=[.ref a1 a2,.ref a3 a4]
abbrev q17 {a1:IntKind} {a2:Int} {a3:IntKind} {a4:Int}:List D:=[.int a1 a2,.int a3 a4]
abbrev q18 {a1:Nat} {a2:Nat} {a3:IntKind} {a4:Int}:List D:=[.ref a1 a2,.int a3 a4]
abbrev q19 {a1:IntKind} {a2:Int} {a3:Bool}:List D:=[.int a1 a2,.bool a3]
abbrev q20 {a1:Bool} {a2:List D} {a3:IntKind} {a4:Int} {a5:IntKind} {a6:Int} {a7:IntKind} {a8:Int} {a9:IntKind} {a10:Int}:List D:=[.agg [.slice a1 a2,.int a3 a4,.int a5 a6],.int a7 a8,.int a9 a10]
abbrev q21 {a1:Bool} {a2:List D} {a3:IntKind} {a4:Int} {a5:IntKind} {a6:Int} {a7:IntKind} {a8:Int}:List D:=[.agg [.slice a1 a2,.int a3 a4,.int a5 a6],.int a7 a8]
abbrev w22 (a0:Int) (a1:Int) (a2:List aP) (a3:Int) (a4:Int):List D:=[.int .i64 a0,.int .i64 a1,.slice false (a2.map bA.d),.int .i64 a3,.int .i64 a4]
abbrev w23 (a0:Int) (a1:Int) (a2:Int) (a3:Bool):List D:=[.int .i64 a0,.int .i64 a1,.int .i64 a2,.bool a3]
abbrev w24 (a0:D) (a1:Int) (a2:Int) (a3:Int):List D:=[a0,.int .i64 a1,.int .i64 a2,.int .i64 a3]


theorem mV (a0:Int) (a1:Int) (a2:Int) (r:Bool) (h:nT a0 a1 a2=some r):fS prog 31 [.int .i64 a0,.int .i64 a1,.int .i64 a2] (.bool r):=by
 refine cR (rs:=[.bool r]) func31 M ntmps31 (nle M) M fun O hO=>?_
 show IWP _ _ _ _ ⟨[(0,.int .i64 a0),(1,.int .i64 a1),(2,.int .i64 a2)],[]⟩ _
 unfold nT at h
 refine aF (aA M (aI M M (lb M) (sv (d:=.bool false) M))<|aE ?_)
 obtain ⟨x1,hx1,h⟩:=aK h
 obtain ⟨x2,hx2,h⟩:=aK h
 obtain ⟨x3,hx3,h⟩:=aK h
 refine aF (aA M (mvI M M M M)<|aA M (mvI M M M M)<|aA M (aO M M (lb M) (svI M) (svI M) M hx1)<|aA M (mvB M M M M)<|aH M M (.one M) M (by decide) (fun hb=>(mvI M M M M))<|aH M M (.one M) M (by decide) (fun hb=>(mvI M M M M))<|aH M M (.one M) M (by decide) (fun hb=>(aO M M (lb M) (svcI M hb) (svcI M hb) M hx2))<|aA M (bC M M (lb M) (svB M) M M hx3)<|aA M (asB M M M M)<|aE ?_)
 refine bB ?_
 obtain rfl:=sj_ h
 refine ⟨.inr M,(.cons (sv M) .nil)⟩

theorem kI (a0:Int) (a1:Int) (a2:Int) (a3:Bool) (r:Int) (h:iS a0 a1 a2 a3=some r):fS prog 18 [.nilp,.int .i64 a0,.int .i64 a1,.int .i64 a2,.bool a3] (.int .i64 r):=by
 refine cR (rs:=[.int .i64 r]) func18 M ntmps18 (nle M) M fun O hO=>?_
 show IWP _ _ _ _ ⟨[(0,.nilp),(1,.int .i64 a0),(2,.int .i64 a1),(3,.int .i64 a2),(4,.bool a3)],[]⟩ _
 unfold iS at h
 refine aF (aA M (aI M M (lb M) (sv (d:=.int _ 0) M))<|aE ?_)
 refine aU ?_
 refine aF (aA M (aD M M (lb M) (sv (d:=.nilp) M))<|aA M (oH M M (lb M) underlying26 (sv (d:=.nilp) M) (sv (d:=.nilp) M))<|aE ?_)
 refine mH M M ?_
 refine aF (aA M (aI M M (lb M) (sv (d:=.int _ 1) M))<|aE ?_)
 refine bB ?_
 refine bP ?_
 obtain rfl:=sj_ h
 refine ⟨.inr M,(.cons (sv M) .nil)⟩

theorem qI (a0:Int) (a1:Int) (a2:Int) (a3:Bool) (r:Int) (h:nX a0 a1 a2 a3=some r):fS prog 17 [.nilp,.int .i64 a0,.int .i64 a1,.int .i64 a2,.bool a3] (.int .i64 r):=by
 refine cR (rs:=[.int .i64 r]) func17 M ntmps17 (nle M) M fun O hO=>?_
 show IWP _ _ _ _ ⟨[(0,.nilp),(1,.int .i64 a0),(2,.int .i64 a1),(3,.int .i64 a2),(4,.bool a3)],[]⟩ _
 unfold nX at h
 refine aF (aA M (aI M M (lb M) (sv (d:=.int _ 0) M))<|aE ?_)
 refine aU ?_
 refine aF (aA M (aD M M (lb M) (sv (d:=.nilp) M))<|aA M (oH M M (lb M) underlying26 (sv (d:=.nilp) M) (sv (d:=.nilp) M))<|aE ?_)
 refine mH M M ?_
 refine aF (aA M (aI M M (lb M) (sv (d:=.int _ 1) M))<|aE ?_)
 refine bB ?_
 refine bP ?_
 obtain rfl:=sj_ h
 refine ⟨.inr M,(.cons (sv M) .nil)⟩

theorem qB  (r:(List aG)) (h:nG=some r):fS prog 9 [.nilp] (.slice false (r.map aC.d)):=by
 refine cR (rs:=[.slice false (r.map aC.d)]) func9 M ntmps9 (nle M) M fun O hO=>?_
 show IWP _ _ _ _ ⟨[(0,.nilp)],[]⟩ _
 unfold nG at h
 refine aF (aA M (aI M M (lb M) (sv (d:=.nils) M))<|aE ?_)
 refine aU ?_
 refine aF (aA M (aD M M (lb M) (sv (d:=.nilp) M))<|aA M (oH M M (lb M) underlying26 (sv (d:=.nilp) M) (sv (d:=.nilp) M))<|aE ?_)
 refine mH M M ?_
 refine aF (aA M (aI M M (lb M) (sv (d:=.nils) M))<|aE ?_)
 refine bB ?_
 refine bP ?_
 obtain rfl:=sj_ h
 refine ⟨.inr M,(.cons (vD M M) .nil)⟩

theorem rH (a0:(List aG)) (r:(List aG)) (h:oM a0=some r):fS prog 19 [.slice false (a0.map aC.d)] (.slice false (r.map aC.d)):=by
 refine cR (rs:=[.slice false (r.map aC.d)]) func19 M ntmps19 (nle M) M fun O hO=>?_
 show IWP _ _ _ _ ⟨[(0,.slice false (a0.map aC.d))],[]⟩ _
 unfold oM at h
 refine aF (aA M (aI M M (lb M) (sv (d:=.nils) M))<|aE ?_)
 refine aF (aA M (aI M M (lb M) (sv (d:=.nils) M))<|aE ?_)
 refine aU ?_
 refine aF (aA M (aI M M (lb M) (sv (d:=.int _ 0) M))<|aE ?_)
 refine aV ?_
 refine bS (α:=Nat × (List aG) × Int) (fun z=>⟨[(0,.slice false (a0.map aC.d)),(3,.gsl 21 aC.sz (z.2.1.map aC.d)),(4,.int .i64 z.2.2)],[(21,.tail 50 aC.sz z.2.1.length)]⟩) (fun z=>jJ a0 z.1 z.2.1 z.2.2=some r) (fun z=>z.1) (fuel,([]:(List aG)),0) (fun i=>if i=21 then 71 else i) ⟨(.s M M (.cons (.nils M) (.sames M M))),(.cons (.nils M) .nil),aY [71] M (by decide),(fun i hi=>by first | rfl | (show (if _ then _ else _)=_; (repeat' split) <;> omega))⟩ ?_ ?_
 ·exact h
 ·
  rintro ⟨n0,v6,v7⟩ h
  cases n0 with
  | zero=>exact absurd h (by unfold jJ; exact nofun)
  | succ n0 =>
   unfold jJ at h
   refine aU ?_
   obtain ⟨x13,hx13,h⟩:=aK h
   refine aF (aA M (mvI M M M M)<|aA M (mvL M M M M)<|aA M (dU aC (l:=a0) M M (lb M) underlying28 (svL M))<|aA M (aO M M (lb M) (svI M) (svI M) M hx13)<|aE ?_)
   refine aW (b:=_) M (fun hc14=>?_) (fun hc14=>?_)
   ·
    replace h:=bX h hc14
    refine aT ?_
    refine aJ ?_
    refine aU ?_
    refine aV ?_
    obtain ⟨x15,hx15,h⟩:=aL h
    obtain ⟨x16,hx16,h⟩:=aL h
    refine aS (aA M (aD M M (lb M) (sv (d:=.gsl _ _ _) M))<|aA M (mvL M M M M)<|aA M (mvI M M M M)<|aA M (iV aC (cs:=q9) M M (lb M) underlying28 ti40 (svL M) (svI M) hx15 M M)<|aA M (lY (cs:=q9) M M (lb M) underlying40 ag40 ti40 (by decide) (sv (d:=.fptr q9) M) (nle M) M)<|aA M (sH aC ([x15]:(List aG)) 22 M M (lb M) underlying46 ti50 M (.cons (svA q9 M) .nil) M M (by decide))<|aA M (wJ aC 23 M M (lb M) underlying46 ti50 M M M M (svg M) hx16)<|aA M (aI M M (lb M) (sv (d:=.gsl _ _ _) M))<|bE ?_)
    refine bI ?_
    refine aJ ?_
    obtain ⟨x17,hx17,h⟩:=aK h
    refine aS (aA M (mvI M M M M)<|aA M (aQ M M (lb M) (svI M) (sv (d:=.int _ 1) M) M hx17)<|aA M (asI M M M M)<|bE ?_)
    refine aJ ⟨(n0,x16,x17),(fun i=>if i=21 then 23 else i),⟨(.sames M M),(.cons (.tail M) .nil),aY [23] M (by decide),(fun i hi=>by first | rfl | (show (if _ then _ else _)=_; (repeat' split) <;> omega))⟩,?_,?_⟩
    exact h
    exact Nat.lt_succ_self _
   ·
    replace h:=bY h hc14
    refine cA ?_
    refine bD ?_
    refine bD ?_
    refine cC ?_
    refine aJ ?_
    refine aF (aA M (aD M M (lb M) (sv (d:=.gsl _ _ _) M))<|aA M (aI M M (lb M) (sv (d:=.gsl _ _ _) M))<|aE ?_)
    refine bB ?_
    obtain rfl:=sj_ h
    refine ⟨.inr M,(.cons (yW M M) .nil)⟩

theorem qH (a0:Int) (r:(List Int)) (h:nV a0=some r):fS prog 11 [.nilp,.int .i64 a0] (.slice false (r.map (eInt .i64).d)):=by
 refine cR (rs:=[.slice false (r.map (eInt .i64).d)]) func11 M ntmps11 (nle M) M fun O hO=>?_
 show IWP _ _ _ _ ⟨[(0,.nilp),(1,.int .i64 a0)],[]⟩ _
 unfold nV at h
 refine aF (aA M (aI M M (lb M) (sv (d:=.nils) M))<|aE ?_)
 refine aU ?_
 refine aF (aA M (aD M M (lb M) (sv (d:=.nilp) M))<|aA M (oH M M (lb M) underlying26 (sv (d:=.nilp) M) (sv (d:=.nilp) M))<|aE ?_)
 refine mH M M ?_
 refine aF (aA M (aI M M (lb M) (sv (d:=.nils) M))<|aE ?_)
 refine bB ?_
 refine bP ?_
 obtain rfl:=sj_ h
 refine ⟨.inr M,(.cons (vD M M) .nil)⟩

theorem oC (a0:(List Int)) (r:(List Int)) (h:mC a0=some r):fS prog 13 [.nilp,.slice false (a0.map (eInt .i64).d)] (.slice false (r.map (eInt .i64).d)):=by
 refine cR (rs:=[.slice false (r.map (eInt .i64).d)]) func13 M ntmps13 (nle M) M fun O hO=>?_
 show IWP _ _ _ _ ⟨[(0,.nilp),(1,.slice false (a0.map (eInt .i64).d))],[]⟩ _
 unfold mC at h
 refine aF (aA M (aI M M (lb M) (sv (d:=.nils) M))<|aE ?_)
 refine aU ?_
 refine aF (aA M (aD M M (lb M) (sv (d:=.nilp) M))<|aA M (oH M M (lb M) underlying26 (sv (d:=.nilp) M) (sv (d:=.nilp) M))<|aE ?_)
 refine mH M M ?_
 refine aF (aA M (aI M M (lb M) (sv (d:=.nils) M))<|aE ?_)
 refine bB ?_
 refine bP ?_
 obtain rfl:=sj_ h
 refine ⟨.inr M,(.cons (vD M M) .nil)⟩

theorem oE (a0:Int) (r:Int) (h:mE a0=some r):fS prog 20 [.nilp,.int .i64 a0] (.int .i64 r):=by
 refine cR (rs:=[.int .i64 r]) func20 M ntmps20 (nle M) M fun O hO=>?_
 show IWP _ _ _ _ ⟨[(0,.nilp),(1,.int .i64 a0)],[]⟩ _
 unfold mE at h
 refine aF (aA M (aI M M (lb M) (sv (d:=.int _ 0) M))<|aE ?_)
 refine aU ?_
 refine aF (aA M (aD M M (lb M) (sv (d:=.nilp) M))<|aA M (oH M M (lb M) underlying26 (sv (d:=.nilp) M) (sv (d:=.nilp) M))<|aE ?_)
 refine mH M M ?_
 refine aF (aA M (aI M M (lb M) (sv (d:=.int _ 1) M))<|aE ?_)
 refine bB ?_
 refine bP ?_
 obtain rfl:=sj_ h
 refine ⟨.inr M,(.cons (sv M) .nil)⟩

theorem pM (a0:Int) (r:Int) (h:mT a0=some r):fS prog 21 [.nilp,.int .i64 a0] (.int .i64 r):=by
 refine cR (rs:=[.int .i64 r]) func21 M ntmps21 (nle M) M fun O hO=>?_
 show IWP _ _ _ _ ⟨[(0,.nilp),(1,.int .i64 a0)],[]⟩ _
 unfold mT at h
 refine aF (aA M (aI M M (lb M) (sv (d:=.int _ 0) M))<|aE ?_)
 refine aU ?_
 refine aF (aA M (aD M M (lb M) (sv (d:=.nilp) M))<|aA M (oH M M (lb M) underlying26 (sv (d:=.nilp) M) (sv (d:=.nilp) M))<|aE ?_)
 refine mH M M ?_
 refine aF (aA M (aI M M (lb M) (sv (d:=.int _ 1) M))<|aE ?_)
 refine bB ?_
 refine bP ?_
 obtain rfl:=sj_ h
 refine ⟨.inr M,(.cons (sv M) .nil)⟩

theorem qJ (a0:Int) (r:(List Int)) (h:nY a0=some r):fS prog 12 [.nilp,.int .i64 a0] (.slice false (r.map (eInt .i64).d)):=by
 refine cR (rs:=[.slice false (r.map (eInt .i64).d)]) func12 M ntmps12 (nle M) M fun O hO=>?_
 show IWP _ _ _ _ ⟨[(0,.nilp),(1,.int .i64 a0)],[]⟩ _
 unfold nY at h
 refine aF (aA M (fE (cs:=[.nilp]) 0 M M (lb M) M (sv (d:=.nilp) M) M M)<|aA M (aI M M (lb M) (sv (d:=.nils) M))<|aE ?_)
 refine aU ?_
 refine aF (aA M (aR (d:=.nilp) M M (lb M) underlying26 ag26 ti26 (by decide) (svR M) M (nle M) M)<|aA M (oH M M (lb M) underlying26 (sv (d:=.nilp) M) (sv (d:=.nilp) M))<|aE ?_)
 refine mH M M ?_
 refine aF (aA M (aI M M (lb M) (sv (d:=.nils) M))<|aE ?_)
 refine bB ?_
 refine bP ?_
 obtain rfl:=sj_ h
 refine ⟨.inr M,(.cons (vD M M) .nil)⟩

theorem jS (a0:(List aG)) (a1:(List aG)) (r:Bool) (h:gY a0 a1=some r):fS prog 22 [.slice false (a0.map aC.d),.slice false (a1.map aC.d)] (.bool r):=by
 refine cR (rs:=[.bool r]) func22 M ntmps22 (nle M) M fun O hO=>?_
 show IWP _ _ _ _ ⟨[(0,.slice false (a0.map aC.d)),(1,.slice false (a1.map aC.d))],[]⟩ _
 unfold gY at h
 refine aF (aA M (aI M M (lb M) (sv (d:=.bool false) M))<|aE ?_)
 refine aU ?_
 obtain ⟨x1,hx1,h⟩:=aK h
 refine aF (aA M (mvL M M M M)<|aA M (dU aC (l:=a0) M M (lb M) underlying46 (svL M))<|aA M (mvL M M M M)<|aA M (dU aC (l:=a1) M M (lb M) underlying46 (svL M))<|aA M (aO M M (lb M) (svI M) (svI M) M hx1)<|aE ?_)
 refine aW (b:=_) M (fun hc2=>?_) (fun hc2=>?_)
 ·
  replace h:=bX h hc2
  refine aF (aA M (aI M M (lb M) (sv (d:=.bool false) M))<|aE ?_)
  refine bB ?_
  refine bP ?_
  obtain rfl:=sj_ h
  refine ⟨.inr M,(.cons (sv M) .nil)⟩
 ·
  replace h:=bY h hc2
  refine aT ?_
  refine aJ ?_
  refine aU ?_
  refine aF (aA M (aI M M (lb M) (sv (d:=.int _ 0) M))<|aE ?_)
  refine aV ?_
  refine bS (α:=Nat × Int) (fun z=>⟨[(0,.slice false (a0.map aC.d)),(1,.slice false (a1.map aC.d)),(5,.int .i64 z.2)],[]⟩) (fun z=>gX a0 a1 z.1 z.2=some r) (fun z=>z.1) (fuel,0) (fun i=>i) ⟨(.sames M M),.nil,aY [] M (by decide),fun _ _=>M⟩ ?_ ?_
  ·exact h
  ·
   rintro ⟨n0,v10⟩ h
   cases n0 with
   | zero=>exact absurd h (by unfold gX; exact nofun)
   | succ n0 =>
    unfold gX at h
    refine aU ?_
    obtain ⟨x18,hx18,h⟩:=aK h
    refine aF (aA M (mvI M M M M)<|aA M (mvL M M M M)<|aA M (dU aC (l:=a0) M M (lb M) underlying46 (svL M))<|aA M (aO M M (lb M) (svI M) (svI M) M hx18)<|aE ?_)
    refine aW (b:=_) M (fun hc19=>?_) (fun hc19=>?_)
    ·
     replace h:=bX h hc19
     refine aT ?_
     refine aJ ?_
     refine aU ?_
     refine aV ?_
     obtain ⟨x20,hx20,h⟩:=aL h
     obtain ⟨x21,hx21,h⟩:=aL h
     obtain ⟨x22,hx22,h⟩:=aK h
     refine dN M [⟨[0],[],[(17,.slice false (a0.map aC.d))],[]⟩,
      ⟨[5],[],[(18,.int .i64 v10)],[]⟩,
      ⟨[17,18],[],[(19,.fptr (v2 x20))],[]⟩,
      ⟨[19],[],[(20,.agg (v2 x20))],[]⟩,
      ⟨[1],[],[(21,.slice false (a1.map aC.d))],[]⟩,
      ⟨[5],[],[(22,.int .i64 v10)],[]⟩,
      ⟨[21,22],[],[(23,.fptr (v2 x21))],[]⟩,
      ⟨[23],[],[(24,.agg (v2 x21))],[]⟩,
      ⟨[20,24],[],[(25,.bool (!x22))],[]⟩] M ?_ (by kernel_rfl) ?_
     ·refine .cons (lop M M fun S hA=>(aD M M (lb M) (svaL hA M M))) ?_
      refine .cons (lop M M fun S hA=>(aD M M (lb M) (svaI hA M M))) ?_
      refine .cons (lop M M fun S hA=>(iV aC (cs:=q9) M M (lb M) underlying46 ti50 (svaL hA M M) (svaI hA M M) hx20 M M)) ?_
      refine .cons (lop M M fun S hA=>(lY (cs:=q9) M M (lb M) underlying50 ag50 ti50 (by decide) (sv (d:=.fptr q9) (agr hA M M)) (nle M) M)) ?_
      refine .cons (lop M M fun S hA=>(aD M M (lb M) (svaL hA M M))) ?_
      refine .cons (lop M M fun S hA=>(aD M M (lb M) (svaI hA M M))) ?_
      refine .cons (lop M M fun S hA=>(iV aC (cs:=q9) M M (lb M) underlying46 ti50 (svaL hA M M) (svaI hA M M) hx21 M M)) ?_
      refine .cons (lop M M fun S hA=>(lY (cs:=q9) M M (lb M) underlying50 ag50 ti50 (by decide) (sv (d:=.fptr q9) (agr hA M M)) (nle M) M)) ?_
      refine .cons (lop M M fun S hA=>(iop_nes M M (lb M) underlying50 st50.1 st50.2 (svaA q9 hA M M) (svaA q9 hA M M) (congrArg some hx22))) ?_
      exact .nil
     refine aW (b:=_) M (fun hc23=>?_) (fun hc23=>?_)
     ·
      replace h:=bX h hc23
      refine aF (aA M (aI M M (lb M) (sv (d:=.bool false) M))<|aE ?_)
      refine bB ?_
      refine dB ?_
      refine bP ?_
      refine bP ?_
      refine dB ?_
      refine bP ?_
      obtain rfl:=sj_ h
      refine ⟨.inr M,(.cons (sv M) .nil)⟩
     ·
      replace h:=bY h hc23
      refine aT ?_
      refine bI ?_
      refine aJ ?_
      obtain ⟨x24,hx24,h⟩:=aK h
      refine aS (aA M (mvI M M M M)<|aA M (aQ M M (lb M) (svI M) (sv (d:=.int _ 1) M) M hx24)<|aA M (asI M M M M)<|bE ?_)
      refine aJ ⟨(n0,x24),(fun i=>i),⟨(.sames M M),.nil,aY [] M (by decide),fun _ _=>M⟩,?_,?_⟩
      exact h
      exact Nat.lt_succ_self _
    ·
     replace h:=bY h hc19
     refine cA ?_
     refine bD ?_
     refine bD ?_
     refine cC ?_
     refine aJ ?_
     refine aF (aA M (aI M M (lb M) (sv (d:=.bool true) M))<|aE ?_)
     refine bB ?_
     obtain rfl:=sj_ h
     refine ⟨.inr M,(.cons (sv M) .nil)⟩

theorem cT (a0:(List Int)) (a1:(List Int)) (r:Bool) (h:cS a0 a1=some r):fS prog 23 [.slice false (a0.map (eInt .i64).d),.slice false (a1.map (eInt .i64).d)] (.bool r):=by
 refine cR (rs:=[.bool r]) func23 M ntmps23 (nle M) M fun O hO=>?_
 show IWP _ _ _ _ ⟨[(0,.slice false (a0.map (eInt .i64).d)),(1,.slice false (a1.map (eInt .i64).d))],[]⟩ _
 unfold cS at h
 refine aF (aA M (aI M M (lb M) (sv (d:=.bool false) M))<|aE ?_)
 refine aU ?_
 obtain ⟨x1,hx1,h⟩:=aK h
 refine aF (aA M (mvL M M M M)<|aA M (dU (eInt .i64) (l:=a0) M M (lb M) underlying24 (svL M))<|aA M (mvL M M M M)<|aA M (dU (eInt .i64) (l:=a1) M M (lb M) underlying24 (svL M))<|aA M (aO M M (lb M) (svI M) (svI M) M hx1)<|aE ?_)
 refine aW (b:=_) M (fun hc2=>?_) (fun hc2=>?_)
 ·
  replace h:=bX h hc2
  refine aF (aA M (aI M M (lb M) (sv (d:=.bool false) M))<|aE ?_)
  refine bB ?_
  refine bP ?_
  obtain rfl:=sj_ h
  refine ⟨.inr M,(.cons (sv M) .nil)⟩
 ·
  replace h:=bY h hc2
  refine aT ?_
  refine aJ ?_
  refine aU ?_
  refine aF (aA M (aI M M (lb M) (sv (d:=.int _ 0) M))<|aE ?_)
  refine aV ?_
  refine bS (α:=Nat × Int) (fun z=>⟨[(0,.slice false (a0.map (eInt .i64).d)),(1,.slice false (a1.map (eInt .i64).d)),(5,.int .i64 z.2)],[]⟩) (fun z=>iC a0 a1 z.1 z.2=some r) (fun z=>z.1) (fuel,0) (fun i=>i) ⟨(.sames M M),.nil,aY [] M (by decide),fun _ _=>M⟩ ?_ ?_
  ·exact h
  ·
   rintro ⟨n0,v10⟩ h
   cases n0 with
   | zero=>exact absurd h (by unfold iC; exact nofun)
   | succ n0 =>
    unfold iC at h
    refine aU ?_
    obtain ⟨x18,hx18,h⟩:=aK h
    refine aF (aA M (mvI M M M M)<|aA M (mvL M M M M)<|aA M (dU (eInt .i64) (l:=a0) M M (lb M) underlying24 (svL M))<|aA M (aO M M (lb M) (svI M) (svI M) M hx18)<|aE ?_)
    refine aW (b:=_) M (fun hc19=>?_) (fun hc19=>?_)
    ·
     replace h:=bX h hc19
     refine aT ?_
     refine aJ ?_
     refine aU ?_
     refine aV ?_
     obtain ⟨x20,hx20,h⟩:=aL h
     obtain ⟨x21,hx21,h⟩:=aL h
     obtain ⟨x22,hx22,h⟩:=aK h
     refine dN M [⟨[0],[],[(17,.slice false (a0.map (eInt .i64).d))],[]⟩,
      ⟨[5],[],[(18,.int .i64 v10)],[]⟩,
      ⟨[17,18],[],[(19,.fptr [.int .i64 x20])],[]⟩,
      ⟨[19],[],[(20,.int .i64 x20)],[]⟩,
      ⟨[1],[],[(21,.slice false (a1.map (eInt .i64).d))],[]⟩,
      ⟨[5],[],[(22,.int .i64 v10)],[]⟩,
      ⟨[21,22],[],[(23,.fptr [.int .i64 x21])],[]⟩,
      ⟨[23],[],[(24,.int .i64 x21)],[]⟩,
      ⟨[20,24],[],[(25,.bool x22)],[]⟩] M ?_ (by kernel_rfl) ?_
     ·refine .cons (lop M M fun S hA=>(aD M M (lb M) (svaL hA M M))) ?_
      refine .cons (lop M M fun S hA=>(aD M M (lb M) (svaI hA M M))) ?_
      refine .cons (lop M M fun S hA=>(iV (eInt .i64) (cs:=[.int _ _]) M M (lb M) underlying24 ti3 (svaL hA M M) (svaI hA M M) hx20 M M)) ?_
      refine .cons (lop M M fun S hA=>(iU M M (lb M) underlying3 ag3 ti3 (by decide) (sv (d:=.fptr [.int _ _]) (agr hA M M)) (nle M))) ?_
      refine .cons (lop M M fun S hA=>(aD M M (lb M) (svaL hA M M))) ?_
      refine .cons (lop M M fun S hA=>(aD M M (lb M) (svaI hA M M))) ?_
      refine .cons (lop M M fun S hA=>(iV (eInt .i64) (cs:=[.int _ _]) M M (lb M) underlying24 ti3 (svaL hA M M) (svaI hA M M) hx21 M M)) ?_
      refine .cons (lop M M fun S hA=>(iU M M (lb M) underlying3 ag3 ti3 (by decide) (sv (d:=.fptr [.int _ _]) (agr hA M M)) (nle M))) ?_
      refine .cons (lop M M fun S hA=>(aO M M (lb M) (svaI hA M M) (svaI hA M M) M hx22)) ?_
      exact .nil
     refine aW (b:=_) M (fun hc23=>?_) (fun hc23=>?_)
     ·
      replace h:=bX h hc23
      refine aF (aA M (aI M M (lb M) (sv (d:=.bool false) M))<|aE ?_)
      refine bB ?_
      refine dB ?_
      refine bP ?_
      refine bP ?_
      refine dB ?_
      refine bP ?_
      obtain rfl:=sj_ h
      refine ⟨.inr M,(.cons (sv M) .nil)⟩
     ·
      replace h:=bY h hc23
      refine aT ?_
      refine bI ?_
      refine aJ ?_
      obtain ⟨x24,hx24,h⟩:=aK h
      refine aS (aA M (mvI M M M M)<|aA M (aQ M M (lb M) (svI M) (sv (d:=.int _ 1) M) M hx24)<|aA M (asI M M M M)<|bE ?_)
      refine aJ ⟨(n0,x24),(fun i=>i),⟨(.sames M M),.nil,aY [] M (by decide),fun _ _=>M⟩,?_,?_⟩
      exact h
      exact Nat.lt_succ_self _
    ·
     replace h:=bY h hc19
     refine cA ?_
     refine bD ?_
     refine bD ?_
     refine cC ?_
     refine aJ ?_
     refine aF (aA M (aI M M (lb M) (sv (d:=.bool true) M))<|aE ?_)
     refine bB ?_
     obtain rfl:=sj_ h
     refine ⟨.inr M,(.cons (sv M) .nil)⟩

theorem iH  (r:Int) (h:hR=some r):fS prog 14 [.nilp] (.int .i64 r):=by
 refine cR (rs:=[.int .i64 r]) func14 M ntmps14 (nle M) M fun O hO=>?_
 show IWP _ _ _ _ ⟨[(0,.nilp)],[]⟩ _
 unfold hR at h
 refine aF (aA M (aI M M (lb M) (sv (d:=.int _ 0) M))<|aE ?_)
 refine aU ?_
 refine aF (aA M (aD M M (lb M) (sv (d:=.nilp) M))<|aA M (oH M M (lb M) underlying26 (sv (d:=.nilp) M) (sv (d:=.nilp) M))<|aE ?_)
 refine mH M M ?_
 refine aF (aA M (aI M M (lb M) (sv (d:=.int _ 0) M))<|aE ?_)
 refine bB ?_
 refine bP ?_
 obtain rfl:=sj_ h
 refine ⟨.inr M,(.cons (sv M) .nil)⟩

theorem nL  (r:(List Int)) (h:lN=some r):fS prog 10 [.nilp] (.slice false (r.map (eInt .i64).d)):=by
 refine cR (rs:=[.slice false (r.map (eInt .i64).d)]) func10 M ntmps10 (nle M) M fun O hO=>?_
 show IWP _ _ _ _ ⟨[(0,.nilp)],[]⟩ _
 unfold lN at h
 refine aF (aA M (aI M M (lb M) (sv (d:=.nils) M))<|aE ?_)
 refine aU ?_
 refine aF (aA M (aD M M (lb M) (sv (d:=.nilp) M))<|aA M (oH M M (lb M) underlying26 (sv (d:=.nilp) M) (sv (d:=.nilp) M))<|aE ?_)
 refine mH M M ?_
 refine aF (aA M (aI M M (lb M) (sv (d:=.nils) M))<|aE ?_)
 refine bB ?_
 refine bP ?_
 obtain rfl:=sj_ h
 refine ⟨.inr M,(.cons (vD M M) .nil)⟩

theorem rM  (r:bN) (h:qW=some r):fS prog 32 [] (.agg (v1 r)):=by
 refine cR (rs:=[.agg (v1 r)]) func32 M ntmps32 (nle M) M fun O hO=>?_
 show IWP _ _ _ _ ⟨[],[]⟩ _
 unfold qW at h
 refine aF (aA M (gN (cs:=q14) (cs':=[.slice false (([]:List aP).map bA.d),.int .i64 0,.int .i64 0]) 0 M M (lb M) M ti55 M M (.cons (.nils _) (.all _)))<|aE ?_)
 refine aF (aA M (iop_sub (d':=.agg [.slice false (([]:List aP).map bA.d),.int .i64 (-1),.int .i64 0]) (cV (cs:=q14) M M (lb M) underlying55 ti55 pl55 M (.cons (sv (d:=.int _ (-1)) M) .nil) M) (.agg (.cons (.nils _) (.all _))))<|aA M (fD (ds':=[.slice false (([]:List aP).map bA.d),.int _ _,.int _ _]) M M ti55 (svR M) M (svA q10 M) M M M (nle M) M)<|aE ?_)
 refine bB ?_
 obtain rfl:=sj_ h
 refine ⟨.inr M,(.cons (rva la55 M M (nle M) M) .nil)⟩

theorem pZ (a0:gS) (a1:Int) (r:Int) (h:nE a0 a1=some r):fS prog 33 [.agg (v4 a0),.int .i64 a1] (.int .i64 r):=by
 refine cR (rs:=[.int .i64 r]) func33 M ntmps33 (nle M) M fun O hO=>?_
 show IWP _ _ _ _ ⟨[(0,.agg (v4 a0)),(1,.int .i64 a1)],[]⟩ _
 unfold nE at h
 refine aF (aA M (fE (cs:=q12) 0 M M (lb M) M (svA q12 M) M M)<|aA M (aI M M (lb M) (sv (d:=.int _ 0) M))<|aE ?_)
 refine aU ?_
 refine aV ?_
 refine fL (α:=Bool) (fun z=>⟨[(1,.int .i64 a1),(2,.ref 0 0),(5,.bool z)],[(0,.blk 72 (v4 a0))]⟩) (fun z=>jX a0 a1 z=some r) ?_ ?_
 ·
  obtain ⟨x10,hx10,h⟩:=aL h
  refine aF (aA M (mvI M M M M)<|aA M (bJ (r:=.bool _) M M (lb M) cl31 (.cons (svI M) (.cons (sv (d:=.int _ 1) M) (.cons (sv (d:=.int _ 1048576) M) .nil))) M (mV _ _ _ _ hx10))<|aA M (eX M M (lb M) (svB M))<|aA M (asB M M M M)<|aE ?_)
  refine aW (b:=_) M (fun hc11=>?_) (fun hc11=>?_)
  ·
   replace h:=bX h hc11
   refine aT ?_
   refine aJ ⟨(!x10),(fun i=>i),⟨(.sames M M),(.cons (.blk M M M) .nil),aY [0] M (by decide),fun _ _=>M⟩,?_⟩
   exact h
  ·
   replace h:=bY h hc11
   obtain ⟨x12,hx12,h⟩:=aL h
   refine aF (aA M (faR 0 M M M underlying72 M ti3 (lb M) M M)<|aA M (aR (d:=.int _ _) M M (lb M) underlying3 ag3 ti3 (by decide) (svR M) M (nle M) M)<|aA M (bJ (r:=.bool _) M M (lb M) cl31 (.cons (svI M) (.cons (sv (d:=.int _ 0) M) (.cons (sv (d:=.int _ 1048576) M) .nil))) M (mV _ _ _ _ hx12))<|aA M (eX M M (lb M) (svB M))<|aA M (asB M M M M)<|aE ?_)
   refine aW (b:=_) M (fun hc13=>?_) (fun hc13=>?_)
   ·
    replace h:=bX h hc13
    refine aT ?_
    refine aJ ⟨(!x12),(fun i=>i),⟨(.sames M M),(.cons (.blk M M M) .nil),aY [0] M (by decide),fun _ _=>M⟩,?_⟩
    exact h
   ·
    replace h:=bY h hc13
    obtain ⟨x14,hx14,h⟩:=aL h
    refine aS (aA M (faR 1 M M M underlying72 M ti3 (lb M) M M)<|aA M (aR (d:=.int _ _) M M (lb M) underlying3 ag3 ti3 (by decide) (svR M) M (nle M) M)<|aA M (bJ (r:=.bool _) M M (lb M) cl31 (.cons (svI M) (.cons (sv (d:=.int _ 1) M) (.cons (sv (d:=.int _ 256) M) .nil))) M (mV _ _ _ _ hx14))<|aA M (eX M M (lb M) (svB M))<|aA M (asB M M M M)<|bE ?_)
    refine aJ ⟨(!x14),(fun i=>i),⟨(.sames M M),(.cons (.blk M M M) .nil),aY [0] M (by decide),fun _ _=>M⟩,?_⟩
    exact h
 ·
  rintro v6 h
  unfold jX at h
  refine aW (b:=_) M (fun hc7=>?_) (fun hc7=>?_)
  ·
   replace h:=bX h hc7
   refine aF (aA M (aI M M (lb M) (sv (d:=.int _ 8) M))<|aE ?_)
   refine bB ?_
   refine dB ?_
   refine bP ?_
   obtain rfl:=sj_ h
   refine ⟨.inr M,(.cons (sv M) .nil)⟩
  ·
   replace h:=bY h hc7
   obtain ⟨x8,hx8,h⟩:=aK h
   refine aF (aA M (mvI M M M M)<|aA M (faR 0 M M M underlying72 M ti3 (lb M) M M)<|aA M (aR (d:=.int _ _) M M (lb M) underlying3 ag3 ti3 (by decide) (svR M) M (nle M) M)<|aA M (aO M M (lb M) (svI M) (svI M) M hx8)<|aA M (asB M M M M)<|aE ?_)
   refine aW (b:=_) M (fun hc9=>?_) (fun hc9=>?_)
   ·
    replace h:=bX h hc9
    refine aF (aA M (aI M M (lb M) (sv (d:=.int _ 4) M))<|aE ?_)
    refine bB ?_
    refine dB ?_
    refine bP ?_
    obtain rfl:=sj_ h
    refine ⟨.inr M,(.cons (sv M) .nil)⟩
   ·
    replace h:=bY h hc9
    refine aT ?_
    refine bI ?_
    refine aJ ?_
    refine aF (aA M (aI M M (lb M) (sv (d:=.int _ 0) M))<|aE ?_)
    refine bB ?_
    obtain rfl:=sj_ h
    refine ⟨.inr M,(.cons (sv M) .nil)⟩

theorem pO (a0:bN) (a1:Int) (r:Bool) (h:mX a0 a1=some r):fS prog 52 [.agg (v1 a0),.int .i64 a1] (.bool r):=by
 refine cR (rs:=[.bool r]) func52 M ntmps52 (nle M) M fun O hO=>?_
 show IWP _ _ _ _ ⟨[(0,.agg (v1 a0)),(1,.int .i64 a1)],[]⟩ _
 unfold mX at h
 refine aF (aA M (fE (cs:=q10) 0 M M (lb M) M (svA q10 M) M M)<|aA M (aI M M (lb M) (sv (d:=.bool false) M))<|aE ?_)
 obtain ⟨x1,hx1,h⟩:=aK h
 obtain ⟨x2,hx2,h⟩:=aK h
 obtain ⟨x3,hx3,h⟩:=aK h
 refine aF (aA M (mvI M M M M)<|aA M (aO M M (lb M) (sv (d:=.int _ (-1)) M) (svI M) M hx1)<|aA M (mvB M M M M)<|aH M M (.one M) M (by decide) (fun hb=>(mvI M M M M))<|aH M M (.one M) M (by decide) (fun hb=>(faR 0 M M M underlying55 M ti53 (lb M) M M))<|aH M M (.one M) M (by decide) (fun hb=>(aR (d:=.slice _ _) M M (lb M) underlying53 ag53 ti53 (by decide) (svcR M hb) M (nle M) M))<|aH M M (.one M) M (by decide) (fun hb=>(dU bA (l:=a0.Cells) M M (lb M) underlying53 (svcL M hb)))<|aH M M (.one M) M (by decide) (fun hb=>(aO M M (lb M) (svcI M hb) (svcI M hb) M hx2))<|aA M (bC M M (lb M) (svB M) M M hx3)<|aA M (asB M M M M)<|aE ?_)
 refine bB ?_
 obtain rfl:=sj_ h
 refine ⟨.inr M,(.cons (sv M) .nil)⟩

theorem rD (a0:bN) (a1:aP) (r:Bool) (h:oK a0 a1=some r):fS prog 54 [.agg (v1 a0),.agg (v3 a1)] (.bool r):=by
 refine cR (rs:=[.bool r]) func54 M ntmps54 (nle M) M fun O hO=>?_
 show IWP _ _ _ _ ⟨[(0,.agg (v1 a0)),(1,.agg (v3 a1))],[]⟩ _
 unfold oK at h
 refine aF (aA M (fE (cs:=q10) 0 M M (lb M) M (svA q10 M) M M)<|aA M (fE (cs:=q13) 1 M M (lb M) M (svA q13 M) M M)<|aA M (aI M M (lb M) (sv (d:=.bool false) M))<|aE ?_)
 obtain ⟨x1,hx1,h⟩:=aL h
 obtain ⟨x2,hx2,h⟩:=aK h
 refine aF (aA M (faR 0 M M M underlying78 M ti4 (lb M) M M)<|aA M (aR (d:=.bool _) M M (lb M) underlying4 ag4 ti4 (by decide) (svR M) M (nle M) M)<|aA M (eX M M (lb M) (svB M))<|aA M (mvB M M M M)<|aH M M (.one M) M (by decide) (fun hb=>(lra q10 la55 M M M M M (nle M) M))<|aH M M (.one M) M (by decide) (fun hb=>(faR 2 M M M underlying78 M ti3 (lb M) M M))<|aH M M (.one M) M (by decide) (fun hb=>(aR (d:=.int _ _) M M (lb M) underlying3 ag3 ti3 (by decide) (svcR M hb) M (nle M) M))<|aH M M (.one M) M (by decide) (fun hb=>(bJ (r:=.bool _) M M (lb M) cl52 (.cons (svcA (v1 a0) M hb) (.cons (svcI M hb) .nil)) M (pO _ _ _ (gd_t hx1 hb))))<|aH M M (.one M) M (by decide) (fun hb=>(eX M M (lb M) (svcB M hb)))<|aA M (bC M M (lb M) (svB M) M M hx2)<|aA M (asB M M M M)<|aE ?_)
 refine bB ?_
 obtain rfl:=sj_ h
 refine ⟨.inr M,(.cons (sv M) .nil)⟩

theorem lA (a0:(List aP)) (a1:bN) (r:Int) (h:fO a0 a1=some r):fS prog 80 [.slice false (a0.map bA.d),.mv 54 [.agg (v1 a1)]] (.int .i64 r):=by
 refine cR (rs:=[.int .i64 r]) func80 M ntmps80 (nle M) M fun O hO=>?_
 show IWP _ _ _ _ ⟨[(0,.slice false (a0.map bA.d)),(1,.mv 54 [.agg (v1 a1)])],[]⟩ _
 unfold fO at h
 refine aF (aA M (aI M M (lb M) (sv (d:=.int _ 0) M))<|aE ?_)
 refine aU ?_
 refine aF (aA M (mvL M M M M)<|aA M (dU bA (l:=a0) M M (lb M) underlying53 (svL M))<|aA M (aD M M (lb M) (sv (d:=.int _ 0) M))<|aE ?_)
 refine aV ?_
 refine bS (α:=Nat × Int) (fun z=>⟨[(0,.slice false (a0.map bA.d)),(1,.mv 54 [.agg (v1 a1)]),(7,.int .i64 (a0.length:Int)),(8,.int .i64 z.2)],[]⟩) (fun z=>dH a0 a1 z.1 z.2=some r) (fun z=>z.1) (fuel,0) (fun i=>i) ⟨(.sames M M),.nil,aY [] M (by decide),fun _ _=>M⟩ ?_ ?_
 ·exact h
 ·
  rintro ⟨n0,v7⟩ h
  cases n0 with
  | zero=>exact absurd h (by unfold dH; exact nofun)
  | succ n0 =>
   unfold dH at h
   obtain ⟨x14,hx14,h⟩:=aK h
   refine aF (aA M (aO M M (lb M) (svI M) (svI M) M hx14)<|aE ?_)
   refine aU ?_
   refine aW (b:=_) M (fun hc15=>?_) (fun hc15=>?_)
   ·
    replace h:=bX h hc15
    refine aT ?_
    refine aJ ?_
    refine aU ?_
    refine aV ?_
    refine aF (aA M (mvI M M M M)<|aA M (asI M M M M)<|aE ?_)
    obtain ⟨x16,hx16,h⟩:=aL h
    obtain ⟨x17,hx17,h⟩:=aL h
    refine aF (aA M (aD M M (lb M) (sv (d:=.mv 54 [.agg q10]) M))<|aA M (mvL M M M M)<|aA M (mvI M M M M)<|aA M (iV bA (cs:=q13) M M (lb M) underlying53 ti78 (svL M) (svI M) hx16 M M)<|aA M (lY (cs:=q13) M M (lb M) underlying78 ag78 ti78 (by decide) (sv (d:=.fptr q13) M) (nle M) M)<|aA M (xV (r:=.bool _) M M (lb M) cl54 (sv (d:=.mv 54 [.agg q10]) M) (.cons (svA q13 M) .nil) M (rD _ _ _ hx17))<|aE ?_)
    refine aW (b:=_) M (fun hc18=>?_) (fun hc18=>?_)
    ·
     replace h:=bX h hc18
     refine aF (aA M (mvI M M M M)<|aA M (asI M M M M)<|aE ?_)
     refine bB ?_
     refine dB ?_
     refine bP ?_
     refine bP ?_
     refine dB ?_
     refine bP ?_
     obtain rfl:=sj_ h
     refine ⟨.inr M,(.cons (sv M) .nil)⟩
    ·
     replace h:=bY h hc18
     refine aT ?_
     refine bI ?_
     refine aJ ?_
     obtain ⟨x19,hx19,h⟩:=aK h
     refine aS (aA M (aQ M M (lb M) (svI M) (sv (d:=.int _ 1) M) M hx19)<|aA M (mvI M M M M)<|bE ?_)
     refine aJ ⟨(n0,x19),(fun i=>i),⟨(.sames M M),.nil,aY [] M (by decide),fun _ _=>M⟩,?_,?_⟩
     exact h
     exact Nat.lt_succ_self _
   ·
    replace h:=bY h hc15
    refine cA ?_
    refine bD ?_
    refine bD ?_
    refine cC ?_
    refine aJ ?_
    refine aF (aA M (aI M M (lb M) (sv (d:=.int _ (-1)) M))<|aE ?_)
    refine bB ?_
    obtain rfl:=sj_ h
    refine ⟨.inr M,(.cons (sv M) .nil)⟩

theorem kO (a0:(List aP)) (a1:bN) (r:Bool) (h:fC a0 a1=some r):fS prog 53 [.slice false (a0.map bA.d),.mv 54 [.agg (v1 a1)]] (.bool r):=by
 refine cR (rs:=[.bool r]) func53 M ntmps53 (nle M) M fun O hO=>?_
 show IWP _ _ _ _ ⟨[(0,.slice false (a0.map bA.d)),(1,.mv 54 [.agg (v1 a1)])],[]⟩ _
 unfold fC at h
 refine aF (aA M (aI M M (lb M) (sv (d:=.bool false) M))<|aE ?_)
 obtain ⟨x1,hx1,h⟩:=aL h
 obtain ⟨x2,hx2,h⟩:=aK h
 refine aF (aA M (mvL M M M M)<|aA M (aD M M (lb M) (sv (d:=.mv 54 [.agg q10]) M))<|aA M (bJ (r:=.int _ _) M M (lb M) cl80 (.cons (svL M) (.cons (sv (d:=.mv 54 [.agg q10]) M) .nil)) M (lA _ _ _ hx1))<|aA M (aO M M (lb M) (svI M) (sv (d:=.int _ 0) M) M hx2)<|aA M (asB M M M M)<|aE ?_)
 refine bB ?_
 obtain rfl:=sj_ h
 refine ⟨.inr M,(.cons (sv M) .nil)⟩

theorem vV (a0:aP) (r:Bool) (h:tS a0=some r):fS prog 55 [.agg (v3 a0)] (.bool r):=by
 refine cR (rs:=[.bool r]) func55 M ntmps55 (nle M) M fun O hO=>?_
 show IWP _ _ _ _ ⟨[(0,.agg (v3 a0))],[]⟩ _
 unfold tS at h
 refine aF (aA M (fE (cs:=q13) 0 M M (lb M) M (svA q13 M) M M)<|aA M (aI M M (lb M) (sv (d:=.bool false) M))<|aE ?_)
 refine aU ?_
 refine aF (aA M (faR 0 M M M underlying78 M ti4 (lb M) M M)<|aA M (aR (d:=.bool _) M M (lb M) underlying4 ag4 ti4 (by decide) (svR M) M (nle M) M)<|aE ?_)
 refine aW (b:=_) M (fun hc1=>?_) (fun hc1=>?_)
 ·
  replace h:=bX h hc1
  obtain ⟨x2,hx2,h⟩:=aK h
  refine aF (aA M (faR 2 M M M underlying78 M ti3 (lb M) M M)<|aA M (aR (d:=.int _ _) M M (lb M) underlying3 ag3 ti3 (by decide) (svR M) M (nle M) M)<|aA M (aO M M (lb M) (svI M) (sv (d:=.int _ 0) M) M hx2)<|aA M (asB M M M M)<|aE ?_)
  refine bB ?_
  refine bP ?_
  obtain rfl:=sj_ h
  refine ⟨.inr M,(.cons (sv M) .nil)⟩
 ·
  replace h:=bY h hc1
  refine aT ?_
  refine aJ ?_
  obtain ⟨x3,hx3,h⟩:=aK h
  refine aF (aA M (faR 1 M M M underlying78 M ti3 (lb M) M M)<|aA M (aR (d:=.int _ _) M M (lb M) underlying3 ag3 ti3 (by decide) (svR M) M (nle M) M)<|aA M (aO M M (lb M) (svI M) (sv (d:=.int _ 0) M) M hx3)<|aA M (asB M M M M)<|aE ?_)
  refine bB ?_
  obtain rfl:=sj_ h
  refine ⟨.inr M,(.cons (sv M) .nil)⟩

theorem lR (a0:(List aP)) (r:Int) (h:gA a0=some r):fS prog 80 [.slice false (a0.map bA.d),.fn 55 []] (.int .i64 r):=by
 refine cR (rs:=[.int .i64 r]) func80 M ntmps80 (nle M) M fun O hO=>?_
 show IWP _ _ _ _ ⟨[(0,.slice false (a0.map bA.d)),(1,.fn 55 [])],[]⟩ _
 unfold gA at h
 refine aF (aA M (aI M M (lb M) (sv (d:=.int _ 0) M))<|aE ?_)
 refine aU ?_
 refine aF (aA M (mvL M M M M)<|aA M (dU bA (l:=a0) M M (lb M) underlying53 (svL M))<|aA M (aD M M (lb M) (sv (d:=.int _ 0) M))<|aE ?_)
 refine aV ?_
 refine bS (α:=Nat × Int) (fun z=>⟨[(0,.slice false (a0.map bA.d)),(1,.fn 55 []),(7,.int .i64 (a0.length:Int)),(8,.int .i64 z.2)],[]⟩) (fun z=>dT a0 z.1 z.2=some r) (fun z=>z.1) (fuel,0) (fun i=>i) ⟨(.sames M M),.nil,aY [] M (by decide),fun _ _=>M⟩ ?_ ?_
 ·exact h
 ·
  rintro ⟨n0,v7⟩ h
  cases n0 with
  | zero=>exact absurd h (by unfold dT; exact nofun)
  | succ n0 =>
   unfold dT at h
   obtain ⟨x14,hx14,h⟩:=aK h
   refine aF (aA M (aO M M (lb M) (svI M) (svI M) M hx14)<|aE ?_)
   refine aU ?_
   refine aW (b:=_) M (fun hc15=>?_) (fun hc15=>?_)
   ·
    replace h:=bX h hc15
    refine aT ?_
    refine aJ ?_
    refine aU ?_
    refine aV ?_
    refine aF (aA M (mvI M M M M)<|aA M (asI M M M M)<|aE ?_)
    obtain ⟨x16,hx16,h⟩:=aL h
    obtain ⟨x17,hx17,h⟩:=aL h
    refine aF (aA M (aD M M (lb M) (sv (d:=.fn 55 []) M))<|aA M (mvL M M M M)<|aA M (mvI M M M M)<|aA M (iV bA (cs:=q13) M M (lb M) underlying53 ti78 (svL M) (svI M) hx16 M M)<|aA M (lY (cs:=q13) M M (lb M) underlying78 ag78 ti78 (by decide) (sv (d:=.fptr q13) M) (nle M) M)<|aA M (jO (r:=.bool _) M M (lb M) cl55 (sv (d:=.fn 55 []) M) (.cons (svA q13 M) .nil) M (vV _ _ hx17))<|aE ?_)
    refine aW (b:=_) M (fun hc18=>?_) (fun hc18=>?_)
    ·
     replace h:=bX h hc18
     refine aF (aA M (mvI M M M M)<|aA M (asI M M M M)<|aE ?_)
     refine bB ?_
     refine dB ?_
     refine bP ?_
     refine bP ?_
     refine dB ?_
     refine bP ?_
     obtain rfl:=sj_ h
     refine ⟨.inr M,(.cons (sv M) .nil)⟩
    ·
     replace h:=bY h hc18
     refine aT ?_
     refine bI ?_
     refine aJ ?_
     obtain ⟨x19,hx19,h⟩:=aK h
     refine aS (aA M (aQ M M (lb M) (svI M) (sv (d:=.int _ 1) M) M hx19)<|aA M (mvI M M M M)<|bE ?_)
     refine aJ ⟨(n0,x19),(fun i=>i),⟨(.sames M M),.nil,aY [] M (by decide),fun _ _=>M⟩,?_,?_⟩
     exact h
     exact Nat.lt_succ_self _
   ·
    replace h:=bY h hc15
    refine cA ?_
    refine bD ?_
    refine bD ?_
    refine cC ?_
    refine aJ ?_
    refine aF (aA M (aI M M (lb M) (sv (d:=.int _ (-1)) M))<|aE ?_)
    refine bB ?_
    obtain rfl:=sj_ h
    refine ⟨.inr M,(.cons (sv M) .nil)⟩

theorem lB (a0:(List aP)) (r:Bool) (h:fP a0=some r):fS prog 53 [.slice false (a0.map bA.d),.fn 55 []] (.bool r):=by
 refine cR (rs:=[.bool r]) func53 M ntmps53 (nle M) M fun O hO=>?_
 show IWP _ _ _ _ ⟨[(0,.slice false (a0.map bA.d)),(1,.fn 55 [])],[]⟩ _
 unfold fP at h
 refine aF (aA M (aI M M (lb M) (sv (d:=.bool false) M))<|aE ?_)
 obtain ⟨x1,hx1,h⟩:=aL h
 obtain ⟨x2,hx2,h⟩:=aK h
 refine aF (aA M (mvL M M M M)<|aA M (aD M M (lb M) (sv (d:=.fn 55 []) M))<|aA M (bJ (r:=.int _ _) M M (lb M) cl80 (.cons (svL M) (.cons (sv (d:=.fn 55 []) M) .nil)) M (lR _ _ hx1))<|aA M (aO M M (lb M) (svI M) (sv (d:=.int _ 0) M) M hx2)<|aA M (asB M M M M)<|aE ?_)
 refine bB ?_
 obtain rfl:=sj_ h
 refine ⟨.inr M,(.cons (sv M) .nil)⟩

theorem qO (a0:(List Int)) (a1:Int) (r:Int) (h:nB a0 a1=some r):fS prog 92 [.slice false (a0.map (eInt .i64).d),.int .i64 a1] (.int .i64 r):=by
 refine cR (rs:=[.int .i64 r]) func92 M ntmps92 (nle M) M fun O hO=>?_
 show IWP _ _ _ _ ⟨[(0,.slice false (a0.map (eInt .i64).d)),(1,.int .i64 a1)],[]⟩ _
 unfold nB at h
 refine aF (aA M (aI M M (lb M) (sv (d:=.int _ 0) M))<|aE ?_)
 refine aU ?_
 refine aF (aA M (mvL M M M M)<|aA M (dU (eInt .i64) (l:=a0) M M (lb M) underlying24 (svL M))<|aA M (aD M M (lb M) (sv (d:=.int _ 0) M))<|aE ?_)
 refine aV ?_
 refine bS (α:=Nat × Int) (fun z=>⟨[(0,.slice false (a0.map (eInt .i64).d)),(1,.int .i64 a1),(7,.int .i64 (a0.length:Int)),(8,.int .i64 z.2)],[]⟩) (fun z=>iB a0 a1 z.1 z.2=some r) (fun z=>z.1) (fuel,0) (fun i=>i) ⟨(.sames M M),.nil,aY [] M (by decide),fun _ _=>M⟩ ?_ ?_
 ·exact h
 ·
  rintro ⟨n0,v7⟩ h
  cases n0 with
  | zero=>exact absurd h (by unfold iB; exact nofun)
  | succ n0 =>
   unfold iB at h
   obtain ⟨x14,hx14,h⟩:=aK h
   refine aF (aA M (aO M M (lb M) (svI M) (svI M) M hx14)<|aE ?_)
   refine aU ?_
   refine aW (b:=_) M (fun hc15=>?_) (fun hc15=>?_)
   ·
    replace h:=bX h hc15
    refine aT ?_
    refine aJ ?_
    refine aU ?_
    refine aV ?_
    refine aF (aA M (mvI M M M M)<|aA M (asI M M M M)<|aE ?_)
    obtain ⟨x16,hx16,h⟩:=aL h
    obtain ⟨x17,hx17,h⟩:=aK h
    refine aF (aA M (mvI M M M M)<|aA M (mvL M M M M)<|aA M (mvI M M M M)<|aA M (iV (eInt .i64) (cs:=[.int _ _]) M M (lb M) underlying24 ti3 (svL M) (svI M) hx16 M M)<|aA M (iU M M (lb M) underlying3 ag3 ti3 (by decide) (sv (d:=.fptr [.int _ _]) M) (nle M))<|aA M (aO M M (lb M) (svI M) (svI M) M hx17)<|aE ?_)
    refine aW (b:=_) M (fun hc18=>?_) (fun hc18=>?_)
    ·
     replace h:=bX h hc18
     refine aF (aA M (mvI M M M M)<|aA M (asI M M M M)<|aE ?_)
     refine bB ?_
     refine dB ?_
     refine bP ?_
     refine bP ?_
     refine dB ?_
     refine bP ?_
     obtain rfl:=sj_ h
     refine ⟨.inr M,(.cons (sv M) .nil)⟩
    ·
     replace h:=bY h hc18
     refine aT ?_
     refine bI ?_
     refine aJ ?_
     obtain ⟨x19,hx19,h⟩:=aK h
     refine aS (aA M (aQ M M (lb M) (svI M) (sv (d:=.int _ 1) M) M hx19)<|aA M (mvI M M M M)<|bE ?_)
     refine aJ ⟨(n0,x19),(fun i=>i),⟨(.sames M M),.nil,aY [] M (by decide),fun _ _=>M⟩,?_,?_⟩
     exact h
     exact Nat.lt_succ_self _
   ·
    replace h:=bY h hc15
    refine cA ?_
    refine bD ?_
    refine bD ?_
    refine cC ?_
    refine aJ ?_
    refine aF (aA M (aI M M (lb M) (sv (d:=.int _ (-1)) M))<|aE ?_)
    refine bB ?_
    obtain rfl:=sj_ h
    refine ⟨.inr M,(.cons (sv M) .nil)⟩

theorem qC (a0:(List Int)) (a1:Int) (r:Bool) (h:lU a0 a1=some r):fS prog 81 [.slice false (a0.map (eInt .i64).d),.int .i64 a1] (.bool r):=by
 refine cR (rs:=[.bool r]) func81 M ntmps81 (nle M) M fun O hO=>?_
 show IWP _ _ _ _ ⟨[(0,.slice false (a0.map (eInt .i64).d)),(1,.int .i64 a1)],[]⟩ _
 unfold lU at h
 refine aF (aA M (aI M M (lb M) (sv (d:=.bool false) M))<|aE ?_)
 obtain ⟨x1,hx1,h⟩:=aL h
 obtain ⟨x2,hx2,h⟩:=aK h
 refine aF (aA M (mvL M M M M)<|aA M (mvI M M M M)<|aA M (bJ (r:=.int _ _) M M (lb M) cl92 (.cons (svL M) (.cons (svI M) .nil)) M (qO _ _ _ hx1))<|aA M (aO M M (lb M) (svI M) (sv (d:=.int _ 0) M) M hx2)<|aA M (asB M M M M)<|aE ?_)
 refine bB ?_
 obtain rfl:=sj_ h
 refine ⟨.inr M,(.cons (sv M) .nil)⟩

theorem rL (a0:bN) (r:((List Int) × Bool)) (h:oT a0=some r):fS prog 56 [.agg (v1 a0)] (retD [.slice false (r.1.map (eInt .i64).d),.bool r.2]):=by
 refine pY (rs:=[.slice false (r.1.map (eInt .i64).d),.bool r.2]) func56 M ntmps56 (nle M) M fun O hO=>?_
 show IWP _ _ _ _ ⟨[(0,.agg (v1 a0))],[]⟩ _
 unfold oT at h
 refine aF (aA M (fE (cs:=q10) 0 M M (lb M) M (svA q10 M) M M)<|aA M (aI M M (lb M) (sv (d:=.nils) M))<|aA M (aI M M (lb M) (sv (d:=.bool false) M))<|aE ?_)
 refine tT (α:=Nat × (List Int) × Int) 0 (fun z=>⟨[(1,.ref 0 0),(4,.osl 22 (eInt .i64).sz z.2.1.length),(5,.int .i64 z.2.2)],[(0,.blk 55 (v1 a0)),(22,.blk 3 (D.flat (z.2.1.map (eInt .i64).d)))]⟩) (fun z=>jP a0 z.1 z.2.1 z.2.2=some r) (fun z=>z.1) M ?_ ?_
 ·
  rintro ⟨n0,v9,v10⟩ h
  cases n0 with
  | zero=>exact absurd h (by unfold jP; exact nofun)
  | succ n0 =>
   unfold jP at h
   refine aU ?_
   obtain ⟨x19,hx19,h⟩:=aK h
   refine aF (aA M (mvI M M M M)<|aA M (aO M M (lb M) (svI M) (sv (d:=.int _ (-1)) M) M hx19)<|aE ?_)
   refine aW (b:=_) M (fun hc20=>?_) (fun hc20=>?_)
   ·
    replace h:=bX h hc20
    refine aF (aA M (aD M M (lb M) (sv (d:=.osl _ _ _) M))<|aA M (aI M M (lb M) (sv (d:=.osl _ _ _) M))<|aA M (aI M M (lb M) (sv (d:=.bool true) M))<|aE ?_)
    refine bB ?_
    refine bP ?_
    refine yB ?_
    obtain rfl:=sj_ h
    refine ⟨.inr M,_,(.cons (sv M) (.cons (sv M) .nil)),(.cons (FDT (eInt .i64) M M) (.all _))⟩
   ·
    replace h:=bY h hc20
    refine aT ?_
    refine aJ ?_
    refine aU ?_
    obtain ⟨x21,hx21,h⟩:=aL h
    obtain ⟨x22,hx22,h⟩:=aL h
    obtain ⟨x23,hx23,h⟩:=aK h
    refine aF (aA M (faR 0 M M M underlying55 M ti53 (lb M) M M)<|aA M (lrL la53 M M M M M (nle M) M)<|aA M (mvI M M M M)<|aA M (iV bA (cs:=q13) M M (lb M) underlying53 ti78 (svL M) (svI M) hx21 M M)<|aA M (oG (cs':=[.bool _]) M M (lb M) underlying78 M ti4 (by decide) (sv (d:=.fptr q13) M) M)<|aA M (iU M M (lb M) underlying4 ag4 ti4 (by decide) (sv (d:=.fptr [.bool _]) M) (nle M))<|aA M (mvB M M M M)<|aH M M (.one M) M (by decide) (fun hb=>(aD M M (lb M) (sv (d:=.osl _ _ _) M)))<|aH M M (.one M) M (by decide) (fun hb=>(mvI M M M M))<|aH M M (.one M) M (by decide) (fun hb=>(mG (r:=.bool x22) M M (lb M) cl81 (.cons (svc (d:=.osl _ _ _) M hb) (.cons (svcI M hb) .nil)) (.cons (FDT (eInt .i64) M M) (.all _)) M M (qC _ _ _ (gd_t hx22 hb))))<|aA M (qN M M (lb M) (svB M) M M hx23)<|aE ?_)
    refine aW (b:=_) M (fun hc24=>?_) (fun hc24=>?_)
    ·
     replace h:=bX h hc24
     refine aF (aA M (aD M M (lb M) (sv (d:=.osl _ _ _) M))<|aA M (aI M M (lb M) (sv (d:=.osl _ _ _) M))<|aA M (aI M M (lb M) (sv (d:=.bool false) M))<|aE ?_)
     refine bB ?_
     refine bP ?_
     refine yB ?_
     obtain rfl:=sj_ h
     refine ⟨.inr M,_,(.cons (sv M) (.cons (sv M) .nil)),(.cons (FDT (eInt .i64) M M) (.all _))⟩
    ·
     replace h:=bY h hc24
     refine aT ?_
     refine aJ ?_
     obtain ⟨x25,hx25,h⟩:=aL h
     refine aF (aA M (aD M M (lb M) (sv (d:=.osl _ _ _) M))<|aA M (mvI M M M M)<|aA M (nM (eInt .i64).toEnc0 ([v10]:(List Int)) 23 M M (lb M) underlying24 ti3 M (.cons (svI M) .nil) M M (by decide))<|aA M (lZ (eInt .i64).toEnc0 24 M M (lb M) underlying24 ti3 M M M M M (rQ (eInt .i64).toEnc0 M M M) hx25)<|aA M (aI M M (lb M) (sv (d:=.osl _ _ _) M))<|aE ?_)
     obtain ⟨x26,hx26,h⟩:=aL h
     refine aF (aA M (faR 0 M M M underlying55 M ti53 (lb M) M M)<|aA M (lrL la53 M M M M M (nle M) M)<|aA M (mvI M M M M)<|aA M (iV bA (cs:=q13) M M (lb M) underlying53 ti78 (svL M) (svI M) hx26 M M)<|aA M (oG (cs':=[.int _ _]) M M (lb M) underlying78 M ti3 (by decide) (sv (d:=.fptr q13) M) M)<|aA M (iU M M (lb M) underlying3 ag3 ti3 (by decide) (sv (d:=.fptr [.int _ _]) M) (nle M))<|aA M (asI M M M M)<|aE ?_)
     refine yS ?_
     refine ⟨M,(n0,x25,x26.Link),(fun i=>if i=22 then 24 else i),⟨(.sames M M),(.cons (.blk M M M) (.cons (EntW.lst M) .nil)),aY [0,24] M (by decide),(fun i hi=>by first | rfl | (show (if _ then _ else _)=_; (repeat' split) <;> omega))⟩,?_,?_⟩
     exact h
     exact Nat.lt_succ_self _
 ·
  intro hgo
  refine aF (aA M (aI M M (lb M) (sv (d:=.nils) M))<|aE ?_)
  refine aF (aA M (faR 1 M M M underlying55 M ti3 (lb M) M M)<|aA M (aR (d:=.int _ _) M M (lb M) underlying3 ag3 ti3 (by decide) (svR M) M (nle M) M)<|aA M (asI M M M M)<|aE ?_)
  refine aU (xS ?_)
  exact hgo _ ⟨(fuel,([]:(List Int)),a0.Free),(fun i=>if i=22 then 73 else i),⟨(.s M M (.cons (.nilo M) (.sames M M))),(.cons (.blk M M M) (.cons (.nilb M) .nil)),aY [0,73] M (by decide),(fun i hi=>by first | rfl | (show (if _ then _ else _)=_; (repeat' split) <;> omega))⟩,h⟩

theorem qL (a0:bN) (r:Int) (h:pW a0=some r):fS prog 37 [.agg (v1 a0)] (.int .i64 r):=by
 refine cR (rs:=[.int .i64 r]) func37 M ntmps37 (nle M) M fun O hO=>?_
 show IWP _ _ _ _ ⟨[(0,.agg (v1 a0))],[]⟩ _
 unfold pW at h
 refine aF (aA M (fE (cs:=q10) 0 M M (lb M) M (svA q10 M) M M)<|aA M (aI M M (lb M) (sv (d:=.int _ 0) M))<|aE ?_)
 refine aU ?_
 refine aV ?_
 obtain ⟨x1,hx1,h⟩:=aK h
 refine aF (aA M (faR 0 M M M underlying55 M ti53 (lb M) M M)<|aA M (lrL la53 M M M M M (nle M) M)<|aA M (dU bA (l:=a0.Cells) M M (lb M) underlying53 (svL M))<|aA M (aO M M (lb M) (svI M) (sv (d:=.int _ 64) M) M hx1)<|aA M (asB M M M M)<|aE ?_)
 refine aW (b:=_) M (fun hc2=>?_) (fun hc2=>?_)
 ·
  replace h:=bX h hc2
  refine aF (aA M (aI M M (lb M) (sv (d:=.int _ 5) M))<|aE ?_)
  refine bB ?_
  refine dB ?_
  refine bP ?_
  obtain rfl:=sj_ h
  refine ⟨.inr M,(.cons (sv M) .nil)⟩
 ·
  replace h:=bY h hc2
  refine fL (α:=Bool) (fun z=>⟨[(1,.ref 0 0),(13,.bool z)],[(0,.blk 55 (v1 a0))]⟩) (fun z=>oW a0 z=some r) ?_ ?_
  ·
   obtain ⟨x40,hx40,h⟩:=aL h
   refine aF (aA M (lra q10 la55 M M M M M (nle M) M)<|aA M (faR 1 M M M underlying55 M ti3 (lb M) M M)<|aA M (aR (d:=.int _ _) M M (lb M) underlying3 ag3 ti3 (by decide) (svR M) M (nle M) M)<|aA M (bJ (r:=.bool _) M M (lb M) cl52 (.cons (svA q10 M) (.cons (svI M) .nil)) M (pO _ _ _ hx40))<|aA M (eX M M (lb M) (svB M))<|aA M (asB M M M M)<|aE ?_)
   refine aW (b:=_) M (fun hc41=>?_) (fun hc41=>?_)
   ·
    replace h:=bX h hc41
    refine aT ?_
    refine aJ ⟨(!x40),(fun i=>i),⟨(.sames M M),(.cons (.blk M M M) .nil),aY [0] M (by decide),fun _ _=>M⟩,?_⟩
    exact h
   ·
    replace h:=bY h hc41
    obtain ⟨x42,hx42,h⟩:=aL h
    refine aS (aA M (faR 0 M M M underlying55 M ti53 (lb M) M M)<|aA M (lrL la53 M M M M M (nle M) M)<|aA M (lra q10 la55 M M M M M (nle M) M)<|aA M (wW M M (lb M) (.cons (svA q10 M) .nil))<|aA M (bJ (r:=.bool _) M M (lb M) cl53 (.cons (svL M) (.cons (sv (d:=.mv 54 [.agg q10]) M) .nil)) M (kO _ _ _ hx42))<|aA M (asB M M M M)<|bE ?_)
    refine aJ ⟨x42,(fun i=>i),⟨(.sames M M),(.cons (.blk M M M) .nil),aY [0] M (by decide),fun _ _=>M⟩,?_⟩
    exact h
  ·
   rintro v6 h
   unfold oW at h
   refine aW (b:=_) M (fun hc7=>?_) (fun hc7=>?_)
   ·
    replace h:=bX h hc7
    refine aF (aA M (aI M M (lb M) (sv (d:=.int _ 8) M))<|aE ?_)
    refine bB ?_
    refine dB ?_
    refine bP ?_
    obtain rfl:=sj_ h
    refine ⟨.inr M,(.cons (sv M) .nil)⟩
   ·
    replace h:=bY h hc7
    obtain ⟨x8,hx8,h⟩:=aL h
    refine aF (aA M (faR 0 M M M underlying55 M ti53 (lb M) M M)<|aA M (lrL la53 M M M M M (nle M) M)<|aA M (bJ (r:=.bool _) M M (lb M) cl53 (.cons (svL M) (.cons (sv (d:=.fn 55 []) M) .nil)) M (lB _ _ hx8))<|aA M (asB M M M M)<|aE ?_)
    refine aW (b:=_) M (fun hc9=>?_) (fun hc9=>?_)
    ·
     replace h:=bX h hc9
     refine aF (aA M (aI M M (lb M) (sv (d:=.int _ 4) M))<|aE ?_)
     refine bB ?_
     refine dB ?_
     refine bP ?_
     obtain rfl:=sj_ h
     refine ⟨.inr M,(.cons (sv M) .nil)⟩
    ·
     replace h:=bY h hc9
     refine aT ?_
     refine bI ?_
     refine aJ ?_
     refine aF (aA M (aI M M (lb M) (sv (d:=.int _ 0) M))<|aE ?_)
     refine aU ?_
     refine aF (aA M (faR 0 M M M underlying55 M ti53 (lb M) M M)<|aA M (lrL la53 M M M M M (nle M) M)<|aA M (dU bA (l:=a0.Cells) M M (lb M) underlying53 (svL M))<|aA M (aD M M (lb M) (sv (d:=.int _ 0) M))<|aE ?_)
     refine aV ?_
     refine bS (α:=Nat × Int × Int) (fun z=>⟨[(1,.ref 0 0),(3,.int .i64 z.2.1),(29,.slice false (a0.Cells.map bA.d)),(30,.int .i64 (a0.Cells.length:Int)),(31,.int .i64 z.2.2)],[(0,.blk 55 (v1 a0))]⟩) (fun z=>mI a0 z.1 z.2.1 z.2.2=some r) (fun z=>z.1) (fuel,0,0) (fun i=>i) ⟨(.sames M M),(.cons (.blk M M M) .nil),aY [0] M (by decide),fun _ _=>M⟩ ?_ ?_
     ·exact h
     ·
      rintro ⟨n1,v17,v18⟩ h
      cases n1 with
      | zero=>exact absurd h (by unfold mI; exact nofun)
      | succ n1 =>
       unfold mI at h
       obtain ⟨x26,hx26,h⟩:=aK h
       refine aF (aA M (aO M M (lb M) (svI M) (svI M) M hx26)<|aE ?_)
       refine aU ?_
       refine aW (b:=_) M (fun hc27=>?_) (fun hc27=>?_)
       ·
        replace h:=bX h hc27
        refine aT ?_
        refine aJ ?_
        refine aU ?_
        refine aV ?_
        obtain ⟨x28,hx28,h⟩:=aL h
        refine aF (aA M (iV bA (cs:=q13) M M (lb M) underlying53 ti78 (svL M) (svI M) hx28 M M)<|aA M (lY (cs:=q13) M M (lb M) underlying78 ag78 ti78 (by decide) (sv (d:=.fptr q13) M) (nle M) M)<|aA M (gN (cs:=q13) (cs':=[.bool false,.int .i64 0,.int .i64 0]) 1 M M (lb M) M ti78 M M (.all _))<|aA M (stA q13 q13 ti78 M M M M M M M M (nle M) M)<|aE ?_)
        refine aF (aA M (faR 0 M M M underlying78 M ti4 (lb M) M M)<|aA M (aR (d:=.bool _) M M (lb M) underlying4 ag4 ti4 (by decide) (svR M) M (nle M) M)<|aE ?_)
        refine aW (b:=_) M (fun hc29=>?_) (fun hc29=>?_)
        ·
         replace h:=bX h hc29
         obtain ⟨x30,hx30,h⟩:=aK h
         refine aS (aA M (mvI M M M M)<|aA M (aQ M M (lb M) (svI M) (sv (d:=.int _ 1) M) M hx30)<|aA M (asI M M M M)<|bE ?_)
         refine bI ?_
         refine aJ ?_
         obtain ⟨x31,hx31,h⟩:=aK h
         refine aS (aA M (aQ M M (lb M) (svI M) (sv (d:=.int _ 1) M) M hx31)<|aA M (mvI M M M M)<|bE ?_)
         refine aJ ⟨(n1,x30,x31),(fun i=>i),⟨(.sames M M),(.cons (.blk M M M) .nil),aY [0] M (by decide),fun _ _=>M⟩,?_,?_⟩
         exact h
         exact Nat.lt_succ_self _
        ·
         replace h:=bY h hc29
         refine aT ?_
         refine bI ?_
         refine aJ ?_
         obtain ⟨x32,hx32,h⟩:=aK h
         refine aS (aA M (aQ M M (lb M) (svI M) (sv (d:=.int _ 1) M) M hx32)<|aA M (mvI M M M M)<|bE ?_)
         refine aJ ⟨(n1,v17,x32),(fun i=>i),⟨(.sames M M),(.cons (.blk M M M) .nil),aY [0] M (by decide),fun _ _=>M⟩,?_,?_⟩
         exact h
         exact Nat.lt_succ_self _
       ·
        replace h:=bY h hc27
        refine cA ?_
        refine bD ?_
        refine bD ?_
        refine cC ?_
        refine aJ ?_
        obtain ⟨x33,hx33,h⟩:=aL h
        refine aF (aA M (lra q10 la55 M M M M M (nle M) M)<|aA M (bJ (r:=.tuple [.slice _ _,.bool _]) M M (lb M) cl56 (.cons (svA q10 M) .nil) M (rL _ _ hx33))<|aA M (aD M M (lb M) (sv (d:=.tuple [.slice _ _,.bool _]) M))<|aA M (cM (d:=.slice _ _) M M (lb M) (sv (d:=.tuple [.slice _ _,.bool _]) M) M)<|aA M (cM (d:=.bool _) M M (lb M) (sv (d:=.tuple [.slice _ _,.bool _]) M) M)<|aA M (aI M M (lb M) (svL M))<|aA M (asB M M M M)<|aE ?_)
        refine aU ?_
        obtain ⟨x34,hx34,h⟩:=aK h
        obtain ⟨x35,hx35,h⟩:=aK h
        obtain ⟨x36,hx36,h⟩:=aK h
        obtain ⟨x37,hx37,h⟩:=aK h
        obtain ⟨x38,hx38,h⟩:=aK h
        refine aF (aA M (mvB M M M M)<|aA M (eX M M (lb M) (svB M))<|aA M (mvB M M M M)<|aH M M (.one M) M (by decide) (fun hb=>(mvI M M M M))<|aH M M (.one M) M (by decide) (fun hb=>(faR 2 M M M underlying55 M ti3 (lb M) M M))<|aH M M (.one M) M (by decide) (fun hb=>(aR (d:=.int _ _) M M (lb M) underlying3 ag3 ti3 (by decide) (svcR M hb) M (nle M) M))<|aH M M (.one M) M (by decide) (fun hb=>(aO M M (lb M) (svcI M hb) (svcI M hb) M hx34))<|aA M (qN M M (lb M) (svB M) M M hx35)<|aA M (mvB M M M M)<|aH M M (.one M) M (by decide) (fun hb=>(mvI M M M M))<|aH M M (.one M) M (by decide) (fun hb=>(mvL M M M M))<|aH M M (.one M) M (by decide) (fun hb=>(dU (eInt .i64) (l:=x33.1) M M (lb M) underlying24 (svcL M hb)))<|aH M M (.one M) M (by decide) (fun hb=>(aQ M M (lb M) (svcI M hb) (svcI M hb) M hx36))<|aH M M (.one M) M (by decide) (fun hb=>(faR 0 M M M underlying55 M ti53 (lb M) M M))<|aH M M (.one M) M (by decide) (fun hb=>(aR (d:=.slice _ _) M M (lb M) underlying53 ag53 ti53 (by decide) (svcR M hb) M (nle M) M))<|aH M M (.one M) M (by decide) (fun hb=>(dU bA (l:=a0.Cells) M M (lb M) underlying53 (svcL M hb)))<|aH M M (.one M) M (by decide) (fun hb=>(aO M M (lb M) (svcI M hb) (svcI M hb) M hx37))<|aA M (qN M M (lb M) (svB M) M M hx38)<|aE ?_)
        refine aW (b:=_) M (fun hc39=>?_) (fun hc39=>?_)
        ·
         replace h:=bX h hc39
         refine aF (aA M (aI M M (lb M) (sv (d:=.int _ 10) M))<|aE ?_)
         refine bB ?_
         refine bP ?_
         obtain rfl:=sj_ h
         refine ⟨.inr M,(.cons (sv M) .nil)⟩
        ·
         replace h:=bY h hc39
         refine aT ?_
         refine aJ ?_
         refine aF (aA M (aI M M (lb M) (sv (d:=.int _ 0) M))<|aE ?_)
         refine bB ?_
         obtain rfl:=sj_ h
         refine ⟨.inr M,(.cons (sv M) .nil)⟩

theorem sM (a0:bN) (r:(List Int)) (h:qZ a0=some r):fS prog 24 [.agg (v1 a0)] (.slice false (r.map (eInt .i64).d)):=by
 refine pY (rs:=[.slice false (r.map (eInt .i64).d)]) func24 M ntmps24 (nle M) M fun O hO=>?_
 show IWP _ _ _ _ ⟨[(0,.agg (v1 a0))],[]⟩ _
 unfold qZ at h
 refine aF (aA M (fE (cs:=q10) 0 M M (lb M) M (svA q10 M) M M)<|aA M (aI M M (lb M) (sv (d:=.nils) M))<|aE ?_)
 refine aU ?_
 obtain ⟨x1,hx1,h⟩:=aL h
 obtain ⟨x2,hx2,h⟩:=aK h
 refine aF (aA M (lra q10 la55 M M M M M (nle M) M)<|aA M (bJ (r:=.int _ _) M M (lb M) cl37 (.cons (svA q10 M) .nil) M (qL _ _ hx1))<|aA M (aO M M (lb M) (svI M) (sv (d:=.int _ 0) M) M hx2)<|aE ?_)
 refine aW (b:=_) M (fun hc3=>?_) (fun hc3=>?_)
 ·
  replace h:=bX h hc3
  refine aF (aA M (aI M M (lb M) (sv (d:=.nils) M))<|aE ?_)
  refine bB ?_
  refine bP ?_
  obtain rfl:=sj_ h
  refine ⟨.inr M,_,(.cons (sv M) .nil),(.cons (.nils _) .nil)⟩
 ·
  replace h:=bY h hc3
  refine aT ?_
  refine aJ ?_
  refine aF (aA M (aI M M (lb M) (sv (d:=.nils) M))<|aE ?_)
  refine aU ?_
  refine aF (aA M (faR 0 M M M underlying55 M ti53 (lb M) M M)<|aA M (lrL la53 M M M M M (nle M) M)<|aA M (dU bA (l:=a0.Cells) M M (lb M) underlying53 (svL M))<|aA M (aD M M (lb M) (sv (d:=.int _ 0) M))<|aE ?_)
  refine aV ?_
  refine bS (α:=Nat × (List Int) × Int) (fun z=>⟨[(3,.osl 21 (eInt .i64).sz z.2.1.length),(10,.slice false (a0.Cells.map bA.d)),(11,.int .i64 (a0.Cells.length:Int)),(12,.int .i64 z.2.2)],[(21,.blk 3 (D.flat (z.2.1.map (eInt .i64).d)))]⟩) (fun z=>mZ a0 z.1 z.2.1 z.2.2=some r) (fun z=>z.1) (fuel,([]:(List Int)),0) (fun i=>if i=21 then 72 else i) ⟨(.cons (.nilo M) (.sames M M)),(.cons (.nilb M) .nil),aY [72] M (by decide),(fun i hi=>by first | rfl | (show (if _ then _ else _)=_; (repeat' split) <;> omega))⟩ ?_ ?_
  ·exact h
  ·
   rintro ⟨n0,v11,v12⟩ h
   cases n0 with
   | zero=>exact absurd h (by unfold mZ; exact nofun)
   | succ n0 =>
    unfold mZ at h
    obtain ⟨x20,hx20,h⟩:=aK h
    refine aF (aA M (aO M M (lb M) (svI M) (svI M) M hx20)<|aE ?_)
    refine aU ?_
    refine aW (b:=_) M (fun hc21=>?_) (fun hc21=>?_)
    ·
     replace h:=bX h hc21
     refine aT ?_
     refine aJ ?_
     refine aU ?_
     refine aV ?_
     obtain ⟨x22,hx22,h⟩:=aL h
     refine aF (aA M (mvI M M M M)<|aA M (iV bA (cs:=q13) M M (lb M) underlying53 ti78 (svL M) (svI M) hx22 M M)<|aA M (lY (cs:=q13) M M (lb M) underlying78 ag78 ti78 (by decide) (sv (d:=.fptr q13) M) (nle M) M)<|aA M (gN (cs:=q13) (cs':=[.bool false,.int .i64 0,.int .i64 0]) 22 M M (lb M) M ti78 M M (.all _))<|aA M (asI M M M M)<|aA M (stA q13 q13 ti78 M M M M M M M M (nle M) M)<|aE ?_)
     refine aF (aA M (faR 0 M M M underlying78 M ti4 (lb M) M M)<|aA M (aR (d:=.bool _) M M (lb M) underlying4 ag4 ti4 (by decide) (svR M) M (nle M) M)<|aE ?_)
     refine aW (b:=_) M (fun hc23=>?_) (fun hc23=>?_)
     ·
      replace h:=bX h hc23
      obtain ⟨x24,hx24,h⟩:=aL h
      refine aS (aA M (aD M M (lb M) (sv (d:=.osl _ _ _) M))<|aA M (mvI M M M M)<|aA M (nM (eInt .i64).toEnc0 ([v12]:(List Int)) 23 M M (lb M) underlying24 ti3 M (.cons (svI M) .nil) M M (by decide))<|aA M (lZ (eInt .i64).toEnc0 24 M M (lb M) underlying24 ti3 M M M M M (rQ (eInt .i64).toEnc0 M M M) hx24)<|aA M (aI M M (lb M) (sv (d:=.osl _ _ _) M))<|bE ?_)
      refine bI ?_
      refine aJ ?_
      obtain ⟨x25,hx25,h⟩:=aK h
      refine aS (aA M (aQ M M (lb M) (svI M) (sv (d:=.int _ 1) M) M hx25)<|aA M (mvI M M M M)<|bE ?_)
      refine aJ ⟨(n0,x24,x25),(fun i=>if i=21 then 24 else i),⟨(.sames M M),(.cons (EntW.lst M) .nil),aY [24] M (by decide),(fun i hi=>by first | rfl | (show (if _ then _ else _)=_; (repeat' split) <;> omega))⟩,?_,?_⟩
      exact h
      exact Nat.lt_succ_self _
     ·
      replace h:=bY h hc23
      refine aT ?_
      refine bI ?_
      refine aJ ?_
      obtain ⟨x26,hx26,h⟩:=aK h
      refine aS (aA M (aQ M M (lb M) (svI M) (sv (d:=.int _ 1) M) M hx26)<|aA M (mvI M M M M)<|bE ?_)
      refine aJ ⟨(n0,v11,x26),(fun i=>i),⟨(.sames M M),(.cons (EntW.lst M) .nil),aY [21] M (by decide),fun _ _=>M⟩,?_,?_⟩
      exact h
      exact Nat.lt_succ_self _
    ·
     replace h:=bY h hc21
     refine cA ?_
     refine bD ?_
     refine bD ?_
     refine cC ?_
     refine aJ ?_
     refine aF (aA M (aD M M (lb M) (sv (d:=.osl _ _ _) M))<|aA M (aI M M (lb M) (sv (d:=.osl _ _ _) M))<|aE ?_)
     refine bB ?_
     obtain rfl:=sj_ h
     refine ⟨.inr M,_,(.cons (sv M) .nil),(.cons (FDT (eInt .i64) M M) .nil)⟩

theorem gJ (a0:Int) (a1:Int) (a2:Int) (a3:(List aP)) (a4:Int) (a5:Int) (a6:(List aM)) (a7:Int) (a8:(List Int)) (r:Int) (h:gC a0 a1 a2 a3 a4 a5 a6 a7 a8=some r):FnH prog 28 [.ref 1000 0,.int .i64 a0] [(1000,.blk 60 (mixD aB.toEnc0 (w22 a1 a2 a3 a4 a5) a6 [.int .i64 a7,.osl 1001 (eInt .i64).sz a8.length])),(1001,.blk 3 (D.flat (a8.map (eInt .i64).d)))] (.int .i64 r) [(1000,.blk 60 (mixD aB.toEnc0 (w22 a1 a2 a3 a4 a5) a6 [.int .i64 a7,.osl 1001 (eInt .i64).sz a8.length])),(1001,.blk 3 (D.flat (a8.map (eInt .i64).d)))]:=by
 refine cF (rs:=[.int .i64 r]) func28 M ntmps28 (nle M) fun O hO=>?_
 show IWP _ _ _ _ ⟨[(0,.ref 1000 0),(1,.int .i64 a0)],[(1000,.blk 60 (mixD aB.toEnc0 (w22 a1 a2 a3 a4 a5) a6 [.int .i64 a7,.osl 1001 (eInt .i64).sz a8.length])),(1001,.blk 3 (D.flat (a8.map (eInt .i64).d)))]⟩ _
 unfold gC at h
 refine aF (aA M (aI M M (lb M) (sv (d:=.int _ 0) M))<|aE ?_)
 refine aU ?_
 obtain ⟨x1,hx1,h⟩:=aL h
 refine aF (aA M (mvR M M M M)<|aA M (aN M M (lb M) (svR M))<|aA M (faR 2 M M M underlying60 M ti55 (lb M) M M)<|aA M (pS aB.toEnc0 (cs:=q10) M M (lb M) underlying55 ag55 ti55 (by decide) (svR M) M (nle M) (by rfl))<|aA M (bJ (r:=.slice _ _) M M (lb M) cl24 (.cons (svA q10 M) .nil) M (sM _ _ hx1))<|aA M (dU (eInt .i64) (l:=x1) M M (lb M) underlying24 (svL M))<|aA M (aD M M (lb M) (sv (d:=.int _ 0) M))<|aE ?_)
 refine aV ?_
 refine bS (α:=Nat × Int) (fun z=>⟨[(0,.ref 1000 0),(1,.int .i64 a0),(11,.slice false (x1.map (eInt .i64).d)),(12,.int .i64 (x1.length:Int)),(13,.int .i64 z.2)],[(1000,.blk 60 (mixD aB.toEnc0 (w22 a1 a2 a3 a4 a5) a6 [.int .i64 a7,.osl 1001 (eInt .i64).sz a8.length])),(1001,.blk 3 (D.flat (a8.map (eInt .i64).d)))]⟩) (fun z=>jK a0 a6 x1 z.1 z.2=some r) (fun z=>z.1) (fuel,0) (fun i=>i) ⟨(.sames M M),(.cons (EntW.mix aB M (SubC.of_eq M) (SubC.of_eq M) M M) (.cons (EntW.lst M) .nil)),aY [1000,1001] M (by decide),fun _ _=>M⟩ ?_ ?_
 ·exact h
 ·
  rintro ⟨n0,v11⟩ h
  cases n0 with
  | zero=>exact absurd h (by unfold jK; exact nofun)
  | succ n0 =>
   unfold jK at h
   obtain ⟨x21,hx21,h⟩:=aK h
   refine aF (aA M (aO M M (lb M) (svI M) (svI M) M hx21)<|aE ?_)
   refine aU ?_
   refine aW (b:=_) M (fun hc22=>?_) (fun hc22=>?_)
   ·
    replace h:=bX h hc22
    refine aT ?_
    refine aJ ?_
    refine aU ?_
    refine aV ?_
    obtain ⟨x23,hx23,h⟩:=aL h
    refine aF (aA M (iV (eInt .i64) (cs:=[.int _ _]) M M (lb M) underlying24 ti3 (svL M) (svI M) hx23 M M)<|aA M (iU M M (lb M) underlying3 ag3 ti3 (by decide) (sv (d:=.fptr [.int _ _]) M) (nle M))<|aA M (asI M M M M)<|aE ?_)
    obtain ⟨x24,hx24,h⟩:=aL h
    obtain ⟨hk25,h⟩:=iG h
    obtain ⟨x26,hx26,h⟩:=aL h
    obtain ⟨x27,hx27,h⟩:=aK h
    refine aF (aA M (mvR M M M M)<|aA M (mvI M M M M)<|aA M (aN M M (lb M) (svR M))<|aA M (faR 5 M M M underlying60 M ti58 (lb M) M M)<|aA M (dO aB.toEnc0 M M (lb M) underlying58 ti57 (svR M) hk25 (svI M) hx24)<|aA M (cB M M (lb M) underlying57 M ti3 (by decide) (svR M) (k':=0) M)<|aA M (cI aB.toEnc0 (b:=5) (k:=0) (d:=.int _ _) M M (lb M) underlying3 ag3 ti3 (by decide) (svR M) M M hx26 (nle M) M)<|aA M (mvI M M M M)<|aA M (aO M M (lb M) (svI M) (svI M) M hx27)<|aE ?_)
    refine aW (b:=_) M (fun hc28=>?_) (fun hc28=>?_)
    ·
     replace h:=bX h hc28
     refine aF (aA M (mvI M M M M)<|aA M (asI M M M M)<|aE ?_)
     refine bB ?_
     refine dB ?_
     refine bP ?_
     refine bP ?_
     refine dB ?_
     refine bP ?_
     obtain rfl:=sj_ h
     refine ⟨.inr M,(fun i=>i),⟨.nil,(.cons (EntW.mix aB M (SubC.of_eq M) (SubC.of_eq M) M M) (.cons (EntW.lst M) .nil)),aY [1000,1001] M (by decide),fun _ _=>M⟩,(.cons (sv M) .nil),M⟩
    ·
     replace h:=bY h hc28
     refine aT ?_
     refine bI ?_
     refine aJ ?_
     obtain ⟨x29,hx29,h⟩:=aK h
     refine aS (aA M (aQ M M (lb M) (svI M) (sv (d:=.int _ 1) M) M hx29)<|aA M (mvI M M M M)<|bE ?_)
     refine aJ ⟨(n0,x29),(fun i=>i),⟨(.sames M M),(.cons (EntW.mix aB M (SubC.of_eq M) (SubC.of_eq M) M M) (.cons (EntW.lst M) .nil)),aY [1000,1001] M (by decide),fun _ _=>M⟩,?_,?_⟩
     exact h
     exact Nat.lt_succ_self _
   ·
    replace h:=bY h hc22
    refine cA ?_
    refine bD ?_
    refine bD ?_
    refine cC ?_
    refine aJ ?_
    refine aF (aA M (aI M M (lb M) (sv (d:=.int _ (-1)) M))<|aE ?_)
    refine bB ?_
    obtain rfl:=sj_ h
    refine ⟨.inr M,(fun i=>i),⟨.nil,(.cons (EntW.mix aB M (SubC.of_eq M) (SubC.of_eq M) M M) (.cons (EntW.lst M) .nil)),aY [1000,1001] M (by decide),fun _ _=>M⟩,(.cons (sv M) .nil),M⟩

theorem oD (a0:Int) (a1:Int) (a2:(List aP)) (a3:Int) (a4:Int) (a5:(List aM)) (a6:Int) (a7:(List Int)) (r:Int) (h:mD a0 a1 a2 a3 a4 a5 a6 a7=some r):FnH prog 14 [.ref 1000 0] [(1000,.blk 60 (mixD aB.toEnc0 (w22 a0 a1 a2 a3 a4) a5 [.int .i64 a6,.osl 1001 (eInt .i64).sz a7.length])),(1001,.blk 3 (D.flat (a7.map (eInt .i64).d)))] (.int .i64 r) [(1000,.blk 60 (mixD aB.toEnc0 (w22 a0 a1 a2 a3 a4) a5 [.int .i64 a6,.osl 1001 (eInt .i64).sz a7.length])),(1001,.blk 3 (D.flat (a7.map (eInt .i64).d)))]:=by
 refine cF (rs:=[.int .i64 r]) func14 M ntmps14 (nle M) fun O hO=>?_
 show IWP _ _ _ _ ⟨[(0,.ref 1000 0)],[(1000,.blk 60 (mixD aB.toEnc0 (w22 a0 a1 a2 a3 a4) a5 [.int .i64 a6,.osl 1001 (eInt .i64).sz a7.length])),(1001,.blk 3 (D.flat (a7.map (eInt .i64).d)))]⟩ _
 unfold mD at h
 refine aF (aA M (aI M M (lb M) (sv (d:=.int _ 0) M))<|aE ?_)
 refine aU ?_
 refine aF (aA M (mvR M M M M)<|aA M (pT M M (lb M) underlying26 (svR M) (sv (d:=.nilp) M))<|aE ?_)
 refine gM M M ?_
 refine aT ?_
 refine aJ ?_
 refine aF (aA M (mvR M M M M)<|aA M (aN M M (lb M) (svR M))<|aA M (faR 2 M M M underlying60 M ti55 (lb M) M M)<|aA M (faR 4 M M M underlying55 M ti3 (lb M) M M)<|aA M (rN aB.toEnc0 (d:=.int _ _) M M (lb M) underlying3 ag3 ti3 (by decide) (svR M) M (nle M) (by rfl))<|aA M (asI M M M M)<|aE ?_)
 refine bB ?_
 obtain rfl:=sj_ h
 refine ⟨.inr M,(fun i=>i),⟨.nil,(.cons (EntW.mix aB M (SubC.of_eq M) (SubC.of_eq M) M M) (.cons (EntW.lst M) .nil)),aY [1000,1001] M (by decide),fun _ _=>M⟩,(.cons (sv M) .nil),M⟩

theorem mR (a0:Int) (a1:Int) (a2:Int) (a3:(List aP)) (a4:Int) (a5:Int) (a6:(List aM)) (a7:Int) (a8:(List Int)) (r:(Int × Int × (List aP) × Int × Int × (List aM) × Int × (List Int))) (h:jY a0 a1 a2 a3 a4 a5 a6 a7 a8=some r):FnH prog 48 [.ref 1000 0,.int .i64 a0] [(1000,.blk 60 (mixD aB.toEnc0 (w22 a1 a2 a3 a4 a5) a6 [.int .i64 a7,.osl 1001 (eInt .i64).sz a8.length])),(1001,.blk 3 (D.flat (a8.map (eInt .i64).d)))] (retD []) [(1000,.blk 60 (mixD aB.toEnc0 (w22 r.1 r.2.1 r.2.2.1 r.2.2.2.1 r.2.2.2.2.1) r.2.2.2.2.2.1 [.int .i64 r.2.2.2.2.2.2.1,.osl 0 (eInt .i64).sz r.2.2.2.2.2.2.2.length])),(0,.blk 3 (D.flat (r.2.2.2.2.2.2.2.map (eInt .i64).d)))]:=by
 refine cF (rs:=[]) func48 M ntmps48 (nle M) fun O hO=>?_
 show IWP _ _ _ _ ⟨[(0,.ref 1000 0),(1,.int .i64 a0)],[(1000,.blk 60 (mixD aB.toEnc0 (w22 a1 a2 a3 a4 a5) a6 [.int .i64 a7,.osl 1001 (eInt .i64).sz a8.length])),(1001,.blk 3 (D.flat (a8.map (eInt .i64).d)))]⟩ _
 unfold jY at h
 obtain ⟨x1,hx1,h⟩:=aL h
 obtain ⟨hk2,h⟩:=iG h
 obtain ⟨x3,hx3,h⟩:=aL h
 refine aF (aA M (mvR M M M M)<|aA M (mvR M M M M)<|aA M (mvI M M M M)<|aA M (aN M M (lb M) (svR M))<|aA M (faR 5 M M M underlying60 M ti58 (lb M) M M)<|aA M (dO aB.toEnc0 M M (lb M) underlying58 ti57 (svR M) hk2 (svI M) hx1)<|aA M (cB M M (lb M) underlying57 M ti3 (by decide) (svR M) (k':=1) M)<|aA M (cI aB.toEnc0 (b:=5) (k:=1) (d:=.int _ _) M M (lb M) underlying3 ag3 ti3 (by decide) (svR M) M M hx3 (nle M) M) <|?_)
 refine gI (S':=⟨[(0,.ref 1000 0),(1,.int .i64 a0),(5,.ref 1000 0),(12,.int .i64 x3.up)],[(1000,.blk 60 (mixD aB.toEnc0 (w22 a1 a2 a3 a4 a5) a6 [.int .i64 a7,.osl 1001 (eInt .i64).sz a8.length])),(1001,.blk 3 (D.flat (a8.map (eInt .i64).d)))]⟩) (fun i=>i) ⟨(.sames M M),(.cons (EntW.mix aB M (SubC.of_eq M) (SubC.of_eq M) M M) (.cons (EntW.lst M) .nil)),aY [1000,1001] M (by decide),fun _ _=>M⟩ ?_
 refine kZ 1 0 M M M (by decide) cl41 func41 M (.cons (svR M) (.cons (svI M) .nil)) ntmps41 (nle M) M hO.semiL fun O1 hO1=>?_
 show IWP _ _ _ _ ⟨[(0,.ref 1000 0),(1,.int .i64 x3.up)],[(0,.kept 1 [.ref 1000 0,.int .i64 a0,.dead,.dead,.dead,.ref 1000 0,.dead,.dead,.dead,.dead,.dead,.dead,.int .i64 x3.up,.dead,.dead,.dead,.dead,.dead,.dead,.dead,.dead,.dead,.dead,.dead,.dead,.dead,.dead,.dead,.dead,.dead,.dead,.dead,.dead,.dead,.dead,.dead]),(1000,.blk 60 (mixD aB.toEnc0 (w22 a1 a2 a3 a4 a5) a6 [.int .i64 a7,.osl 1001 (eInt .i64).sz a8.length])),(1001,.blk 3 (D.flat (a8.map (eInt .i64).d)))]⟩ _
 refine aF (aA M (aI M M (lb M) (sv (d:=.nilp) M))<|aE ?_)
 refine aU ?_
 obtain ⟨x4,hx4,h⟩:=aK h
 refine aF (aA M (mvI M M M M)<|aA M (aO M M (lb M) (svI M) (sv (d:=.int _ (-1)) M) M hx4)<|aE ?_)
 refine aW (b:=_) M (fun hc5=>?_) (fun hc5=>?_)
 ·
  replace h:=bX h hc5
  refine aF (aA M (mvR M M M M)<|aA M (aN M M (lb M) (svR M))<|aA M (faR 389 M M M underlying60 M ti3 (lb M) M M)<|aA M (aI M M (lb M) (svR M))<|aE ?_)
  refine bB ?_
  refine bP ?_
  refine ⟨.inr M,0,_,[.ref 1000 389],(.cons (sv M) .nil),M,M,⟨[(0,.ref 1000 0),(1,.int .i64 a0),(13,.ref 1000 389)],[(1000,.blk 60 (mixD aB.toEnc0 (w22 a1 a2 a3 a4 a5) a6 [.int .i64 a7,.osl 1001 (eInt .i64).sz a8.length])),(1001,.blk 3 (D.flat (a8.map (eInt .i64).d)))]⟩,(fun i=>i),⟨(.sames M M),(.cons (EntW.mix aB M (SubC.of_eq M) (SubC.of_eq M) M M) (.cons (EntW.lst M) .nil)),aY [1000,1001] M (by decide),fun _ _=>M⟩,?_⟩
  refine aA M (aI M M (lb M) (svR M))<|aE ?_
  refine aU ?_
  refine aV ?_
  refine tK (wF ?_)
  refine aU ?_
  obtain ⟨x6,hx6,h⟩:=aK h
  refine aF (aA M (mvR M M M M)<|aA M (aN M M (lb M) (svR M))<|aA M (gW aB.toEnc0 (d:=.int _ _) (n:=64) (k:=0) M M (lb M) underlying3 ag3 ti3 (by decide) (svR M) M hk2 (by rfl) (nle M) (by rfl))<|aA M (mvI M M M M)<|aA M (aO M M (lb M) (svI M) (svI M) M hx6)<|aE ?_)
  refine aW (b:=_) M (fun hc7=>?_) (fun hc7=>?_)
  ·
   replace h:=bX h hc7
   refine aT ?_
   refine aJ ?_
   refine aV ?_
   obtain ⟨x8,hx8,h⟩:=aL h
   refine iM M [⟨[0],[],[(19,.ref 1000 0)],[]⟩,
    ⟨[4],[],[(20,.ref 1000 389)],[]⟩,
    ⟨[20],[],[(21,.ref 1000 389)],[]⟩,
    ⟨[21],[1000],[(22,.int .i64 a7)],[]⟩,
    ⟨[19],[],[(23,.ref 1000 0)],[]⟩,
    ⟨[23],[],[(24,.ref 1000 5)],[]⟩,
    ⟨[22,24],[],[(25,.ref 1000 (5 + (((a7:Int).toNat) * aB.sz + 0)))],[]⟩,
    ⟨[25],[],[(26,.ref 1000 (5 + (((a7:Int).toNat) * aB.sz + 3)))],[]⟩,
    ⟨[26],[],[(4,.ref 1000 (5 + (((a7:Int).toNat) * aB.sz + 3)))],[]⟩] M ?_ (by kernel_rfl) ?_
   ·refine .cons (lop M M fun S hA=>(aD M M (lb M) (svaR hA M M))) ?_
    refine .cons (lop M M fun S hA=>(aD M M (lb M) (svaR hA M M))) ?_
    refine .cons (lop M M fun S hA=>(aN M M (lb M) (svaR hA M M))) ?_
    refine .cons (lop M M fun S hA=>(gW aB.toEnc0 (d:=.int _ _) (n:=64) (k:=0) M M (lb M) underlying3 ag3 ti3 (by decide) (svaR hA M M) (agi hA M M) hk2 (by rfl) (nle M) (by rfl))) ?_
    refine .cons (lop M M fun S hA=>(aN M M (lb M) (svaR hA M M))) ?_
    refine .cons (lop M M fun S hA=>(bF M M (lb M) underlying60 M ti58 (by decide) (svaR hA M M) (off':=5) M)) ?_
    refine .cons (lop M M fun S hA=>(dO aB.toEnc0 M M (lb M) underlying58 ti57 (svaR hA M M) hk2 (svaI hA M M) hx8)) ?_
    refine .cons (lop M M fun S hA=>(cB M M (lb M) underlying57 M ti3 (by decide) (svaR hA M M) (k':=3) M)) ?_
    refine .cons (lop M M fun S hA=>(aI M M (lb M) (svaR hA M M))) ?_
    exact .nil
   refine bI ?_
   refine aJ ?_
   refine wG (α:=Nat × Nat) (fun z=>⟨[(0,.ref 1000 0),(1,.int .i64 a0),(4,.ref 1000 (5 + (z.2 * aB.sz + 3)))],[(1000,.blk 60 (mixD aB.toEnc0 (w22 a1 a2 a3 a4 a5) a6 [.int .i64 a7,.osl 1001 (eInt .i64).sz a8.length])),(1001,.blk 3 (D.flat (a8.map (eInt .i64).d)))]⟩) (fun z=>iP a0 a1 a2 a3 a4 a5 a6 a7 a8 z.1 z.2=some r) (fun z=>z.1) (fuel,(a7:Int).toNat) (fun i=>i) ⟨(.sames M M),(.cons (EntW.mix aB M (SubC.of_eq M) (SubC.of_eq M) M M) (.cons (EntW.lst M) .nil)),aY [1000,1001] M (by decide),fun _ _=>M⟩ ?_ ?_
   ·exact h
   ·
    rintro ⟨n0,v14⟩ h
    cases n0 with
    | zero=>exact absurd h (by unfold iP; exact nofun)
    | succ n0 =>
     unfold iP at h
     refine aU ?_
     obtain ⟨x20,hx20,h⟩:=aL h
     obtain ⟨x21,hx21,h⟩:=aK h
     refine aF (aA M (mvR M M M M)<|aA M (aN M M (lb M) (svR M))<|aA M (cI aB.toEnc0 (b:=5) (k:=3) (d:=.int _ _) M M (lb M) underlying3 ag3 ti3 (by decide) (svR M) M M hx20 (nle M) M)<|aA M (mvI M M M M)<|aA M (aO M M (lb M) (svI M) (svI M) M hx21)<|aE ?_)
     refine aW (b:=_) M (fun hc22=>?_) (fun hc22=>?_)
     ·
      replace h:=bX h hc22
      refine aT ?_
      refine aJ ?_
      refine aV ?_
      obtain ⟨x23,hx23,h⟩:=aL h
      obtain ⟨x24,hx24,h⟩:=aL h
      refine iM M [⟨[0],[],[(19,.ref 1000 0)],[]⟩,
       ⟨[4],[],[(20,.ref 1000 (5 + (v14 * aB.sz + 3)))],[]⟩,
       ⟨[20],[],[(21,.ref 1000 (5 + (v14 * aB.sz + 3)))],[]⟩,
       ⟨[21],[1000],[(22,.int .i64 x23.next)],[]⟩,
       ⟨[19],[],[(23,.ref 1000 0)],[]⟩,
       ⟨[23],[],[(24,.ref 1000 5)],[]⟩,
       ⟨[22,24],[],[(25,.ref 1000 (5 + (((x23.next:Int).toNat) * aB.sz + 0)))],[]⟩,
       ⟨[25],[],[(26,.ref 1000 (5 + (((x23.next:Int).toNat) * aB.sz + 3)))],[]⟩,
       ⟨[26],[],[(4,.ref 1000 (5 + (((x23.next:Int).toNat) * aB.sz + 3)))],[]⟩] M ?_ (by kernel_rfl) ?_
      ·refine .cons (lop M M fun S hA=>(aD M M (lb M) (svaR hA M M))) ?_
       refine .cons (lop M M fun S hA=>(aD M M (lb M) (svaR hA M M))) ?_
       refine .cons (lop M M fun S hA=>(aN M M (lb M) (svaR hA M M))) ?_
       refine .cons (lop M M fun S hA=>(cI aB.toEnc0 (b:=5) (k:=3) (d:=.int _ _) M M (lb M) underlying3 ag3 ti3 (by decide) (svaR hA M M) (agi hA M M) M hx23 (nle M) M)) ?_
       refine .cons (lop M M fun S hA=>(aN M M (lb M) (svaR hA M M))) ?_
       refine .cons (lop M M fun S hA=>(bF M M (lb M) underlying60 M ti58 (by decide) (svaR hA M M) (off':=5) M)) ?_
       refine .cons (lop M M fun S hA=>(dO aB.toEnc0 M M (lb M) underlying58 ti57 (svaR hA M M) hk2 (svaI hA M M) hx24)) ?_
       refine .cons (lop M M fun S hA=>(cB M M (lb M) underlying57 M ti3 (by decide) (svaR hA M M) (k':=3) M)) ?_
       refine .cons (lop M M fun S hA=>(aI M M (lb M) (svaR hA M M))) ?_
       exact .nil
      refine bI ?_
      refine aJ ⟨(n0,(x23.next:Int).toNat),(fun i=>i),⟨(.sames M M),(.cons (EntW.mix aB M (SubC.of_eq M) (SubC.of_eq M) M M) (.cons (EntW.lst M) .nil)),aY [1000,1001] M (by decide),fun _ _=>M⟩,?_,?_⟩
      exact h
      exact Nat.lt_succ_self _
     ·
      replace h:=bY h hc22
      refine cA ?_
      refine bD ?_
      refine bD ?_
      refine cC ?_
      refine aJ ?_
      obtain ⟨x25,hx25,h⟩:=aL h
      obtain ⟨x26,hx26,h⟩:=aL h
      obtain ⟨x27,hx27,h⟩:=aL h
      obtain ⟨x28,hx28,h⟩:=aK h
      refine aS (aA M (mvR M M M M)<|aA M (mvR M M M M)<|aA M (mvI M M M M)<|aA M (aN M M (lb M) (svR M))<|aA M (faR 5 M M M underlying60 M ti58 (lb M) M M)<|aA M (dO aB.toEnc0 M M (lb M) underlying58 ti57 (svR M) hk2 (svI M) hx25)<|aA M (cB M M (lb M) underlying57 M ti3 (by decide) (svR M) (k':=3) M)<|aA M (cI aB.toEnc0 (b:=5) (k:=3) (d:=.int _ _) M M (lb M) underlying3 ag3 ti3 (by decide) (svR M) M M hx26 (nle M) M)<|aA M (aN M M (lb M) (svR M))<|aA M (jW aB.toEnc0 (b:=5) (k:=3) (a':=(⟨x27.id,x27.up,x27.first,x26.next,x27.weight,x27.closed⟩:aM)) M M ti3 (svR M) M (svI M) M M M M hx27 (nle M) M hx28)<|bE ?_)
      obtain rfl:=sj_ h
      refine ⟨.inl M,(fun i=>if i=0 then 1001 else i),⟨.nil,(.cons (EntW.mix aB M (SubC.of_eq M) (SubC.of_eq M) M M) (.cons (EntW.lst M) .nil)),aY [1000,1001] M (by decide),(fun i hi=>by first | rfl | (show (if _ then _ else _)=_; (repeat' split) <;> omega))⟩,.nil,M⟩
  ·
   replace h:=bY h hc7
   refine cA ?_
   refine bD ?_
   refine bD ?_
   refine cC ?_
   refine aJ ?_
   obtain ⟨x29,hx29,h⟩:=aL h
   obtain ⟨x30,hx30,h⟩:=aL h
   refine aS (aA M (mvR M M M M)<|aA M (mvR M M M M)<|aA M (mvI M M M M)<|aA M (aN M M (lb M) (svR M))<|aA M (faR 5 M M M underlying60 M ti58 (lb M) M M)<|aA M (dO aB.toEnc0 M M (lb M) underlying58 ti57 (svR M) hk2 (svI M) hx29)<|aA M (cB M M (lb M) underlying57 M ti3 (by decide) (svR M) (k':=3) M)<|aA M (cI aB.toEnc0 (b:=5) (k:=3) (d:=.int _ _) M M (lb M) underlying3 ag3 ti3 (by decide) (svR M) M M hx30 (nle M) M)<|aA M (aN M M (lb M) (svR M))<|aA M (qK aB.toEnc0 (post:=q15) (post':=q15) (n:=64) (k:=0) M M ti3 (svR M) M (svI M) M M M hk2 (by rfl) (nle M) (by rfl))<|bE ?_)
   obtain rfl:=sj_ h
   refine ⟨.inl M,(fun i=>if i=0 then 1001 else i),⟨.nil,(.cons (EntW.mix aB M (SubC.of_eq M) (SubC.of_eq M) M M) (.cons (EntW.lst M) .nil)),aY [1000,1001] M (by decide),(fun i hi=>by first | rfl | (show (if _ then _ else _)=_; (repeat' split) <;> omega))⟩,.nil,M⟩
 ·
  replace h:=bY h hc5
  refine aT ?_
  refine aJ ?_
  obtain ⟨x31,hx31,h⟩:=aL h
  refine aF (aA M (mvR M M M M)<|aA M (mvI M M M M)<|aA M (aN M M (lb M) (svR M))<|aA M (faR 5 M M M underlying60 M ti58 (lb M) M M)<|aA M (dO aB.toEnc0 M M (lb M) underlying58 ti57 (svR M) hk2 (svI M) hx31)<|aA M (cB M M (lb M) underlying57 M ti3 (by decide) (svR M) (k':=2) M)<|aA M (aI M M (lb M) (svR M))<|aE ?_)
  refine bB ?_
  refine ⟨.inr M,0,_,[.ref 1000 (5 + (((x3.up:Int).toNat) * aB.sz + 2))],(.cons (sv M) .nil),M,M,⟨[(0,.ref 1000 0),(1,.int .i64 a0),(13,.ref 1000 (5 + (((x3.up:Int).toNat) * aB.sz + 2)))],[(1000,.blk 60 (mixD aB.toEnc0 (w22 a1 a2 a3 a4 a5) a6 [.int .i64 a7,.osl 1001 (eInt .i64).sz a8.length])),(1001,.blk 3 (D.flat (a8.map (eInt .i64).d)))]⟩,(fun i=>i),⟨(.sames M M),(.cons (EntW.mix aB M (SubC.of_eq M) (SubC.of_eq M) M M) (.cons (EntW.lst M) .nil)),aY [1000,1001] M (by decide),fun _ _=>M⟩,?_⟩
  refine aA M (aI M M (lb M) (svR M))<|aE ?_
  refine aU ?_
  refine aV ?_
  refine tK (wF ?_)
  refine aU ?_
  obtain ⟨x32,hx32,h⟩:=aL h
  obtain ⟨x33,hx33,h⟩:=aK h
  refine aF (aA M (mvR M M M M)<|aA M (aN M M (lb M) (svR M))<|aA M (cI aB.toEnc0 (b:=5) (k:=2) (d:=.int _ _) M M (lb M) underlying3 ag3 ti3 (by decide) (svR M) M M hx32 (nle M) M)<|aA M (mvI M M M M)<|aA M (aO M M (lb M) (svI M) (svI M) M hx33)<|aE ?_)
  refine aW (b:=_) M (fun hc34=>?_) (fun hc34=>?_)
  ·
   replace h:=bX h hc34
   refine aT ?_
   refine aJ ?_
   refine aV ?_
   obtain ⟨x35,hx35,h⟩:=aL h
   obtain ⟨x36,hx36,h⟩:=aL h
   refine iM M [⟨[0],[],[(19,.ref 1000 0)],[]⟩,
    ⟨[4],[],[(20,.ref 1000 (5 + (((x3.up:Int).toNat) * aB.sz + 2)))],[]⟩,
    ⟨[20],[],[(21,.ref 1000 (5 + (((x3.up:Int).toNat) * aB.sz + 2)))],[]⟩,
    ⟨[21],[1000],[(22,.int .i64 x35.first)],[]⟩,
    ⟨[19],[],[(23,.ref 1000 0)],[]⟩,
    ⟨[23],[],[(24,.ref 1000 5)],[]⟩,
    ⟨[22,24],[],[(25,.ref 1000 (5 + (((x35.first:Int).toNat) * aB.sz + 0)))],[]⟩,
    ⟨[25],[],[(26,.ref 1000 (5 + (((x35.first:Int).toNat) * aB.sz + 3)))],[]⟩,
    ⟨[26],[],[(4,.ref 1000 (5 + (((x35.first:Int).toNat) * aB.sz + 3)))],[]⟩] M ?_ (by kernel_rfl) ?_
   ·refine .cons (lop M M fun S hA=>(aD M M (lb M) (svaR hA M M))) ?_
    refine .cons (lop M M fun S hA=>(aD M M (lb M) (svaR hA M M))) ?_
    refine .cons (lop M M fun S hA=>(aN M M (lb M) (svaR hA M M))) ?_
    refine .cons (lop M M fun S hA=>(cI aB.toEnc0 (b:=5) (k:=2) (d:=.int _ _) M M (lb M) underlying3 ag3 ti3 (by decide) (svaR hA M M) (agi hA M M) M hx35 (nle M) M)) ?_
    refine .cons (lop M M fun S hA=>(aN M M (lb M) (svaR hA M M))) ?_
    refine .cons (lop M M fun S hA=>(bF M M (lb M) underlying60 M ti58 (by decide) (svaR hA M M) (off':=5) M)) ?_
    refine .cons (lop M M fun S hA=>(dO aB.toEnc0 M M (lb M) underlying58 ti57 (svaR hA M M) hk2 (svaI hA M M) hx36)) ?_
    refine .cons (lop M M fun S hA=>(cB M M (lb M) underlying57 M ti3 (by decide) (svaR hA M M) (k':=3) M)) ?_
    refine .cons (lop M M fun S hA=>(aI M M (lb M) (svaR hA M M))) ?_
    exact .nil
   refine bI ?_
   refine aJ ?_
   refine wG (α:=Nat × Nat) (fun z=>⟨[(0,.ref 1000 0),(1,.int .i64 a0),(4,.ref 1000 (5 + (z.2 * aB.sz + 3)))],[(1000,.blk 60 (mixD aB.toEnc0 (w22 a1 a2 a3 a4 a5) a6 [.int .i64 a7,.osl 1001 (eInt .i64).sz a8.length])),(1001,.blk 3 (D.flat (a8.map (eInt .i64).d)))]⟩) (fun z=>iO a0 a1 a2 a3 a4 a5 a6 a7 a8 z.1 z.2=some r) (fun z=>z.1) (fuel,(x35.first:Int).toNat) (fun i=>i) ⟨(.sames M M),(.cons (EntW.mix aB M (SubC.of_eq M) (SubC.of_eq M) M M) (.cons (EntW.lst M) .nil)),aY [1000,1001] M (by decide),fun _ _=>M⟩ ?_ ?_
   ·exact h
   ·
    rintro ⟨n1,v42⟩ h
    cases n1 with
    | zero=>exact absurd h (by unfold iO; exact nofun)
    | succ n1 =>
     unfold iO at h
     refine aU ?_
     obtain ⟨x48,hx48,h⟩:=aL h
     obtain ⟨x49,hx49,h⟩:=aK h
     refine aF (aA M (mvR M M M M)<|aA M (aN M M (lb M) (svR M))<|aA M (cI aB.toEnc0 (b:=5) (k:=3) (d:=.int _ _) M M (lb M) underlying3 ag3 ti3 (by decide) (svR M) M M hx48 (nle M) M)<|aA M (mvI M M M M)<|aA M (aO M M (lb M) (svI M) (svI M) M hx49)<|aE ?_)
     refine aW (b:=_) M (fun hc50=>?_) (fun hc50=>?_)
     ·
      replace h:=bX h hc50
      refine aT ?_
      refine aJ ?_
      refine aV ?_
      obtain ⟨x51,hx51,h⟩:=aL h
      obtain ⟨x52,hx52,h⟩:=aL h
      refine iM M [⟨[0],[],[(19,.ref 1000 0)],[]⟩,
       ⟨[4],[],[(20,.ref 1000 (5 + (v42 * aB.sz + 3)))],[]⟩,
       ⟨[20],[],[(21,.ref 1000 (5 + (v42 * aB.sz + 3)))],[]⟩,
       ⟨[21],[1000],[(22,.int .i64 x51.next)],[]⟩,
       ⟨[19],[],[(23,.ref 1000 0)],[]⟩,
       ⟨[23],[],[(24,.ref 1000 5)],[]⟩,
       ⟨[22,24],[],[(25,.ref 1000 (5 + (((x51.next:Int).toNat) * aB.sz + 0)))],[]⟩,
       ⟨[25],[],[(26,.ref 1000 (5 + (((x51.next:Int).toNat) * aB.sz + 3)))],[]⟩,
       ⟨[26],[],[(4,.ref 1000 (5 + (((x51.next:Int).toNat) * aB.sz + 3)))],[]⟩] M ?_ (by kernel_rfl) ?_
      ·refine .cons (lop M M fun S hA=>(aD M M (lb M) (svaR hA M M))) ?_
       refine .cons (lop M M fun S hA=>(aD M M (lb M) (svaR hA M M))) ?_
       refine .cons (lop M M fun S hA=>(aN M M (lb M) (svaR hA M M))) ?_
       refine .cons (lop M M fun S hA=>(cI aB.toEnc0 (b:=5) (k:=3) (d:=.int _ _) M M (lb M) underlying3 ag3 ti3 (by decide) (svaR hA M M) (agi hA M M) M hx51 (nle M) M)) ?_
       refine .cons (lop M M fun S hA=>(aN M M (lb M) (svaR hA M M))) ?_
       refine .cons (lop M M fun S hA=>(bF M M (lb M) underlying60 M ti58 (by decide) (svaR hA M M) (off':=5) M)) ?_
       refine .cons (lop M M fun S hA=>(dO aB.toEnc0 M M (lb M) underlying58 ti57 (svaR hA M M) hk2 (svaI hA M M) hx52)) ?_
       refine .cons (lop M M fun S hA=>(cB M M (lb M) underlying57 M ti3 (by decide) (svaR hA M M) (k':=3) M)) ?_
       refine .cons (lop M M fun S hA=>(aI M M (lb M) (svaR hA M M))) ?_
       exact .nil
      refine bI ?_
      refine aJ ⟨(n1,(x51.next:Int).toNat),(fun i=>i),⟨(.sames M M),(.cons (EntW.mix aB M (SubC.of_eq M) (SubC.of_eq M) M M) (.cons (EntW.lst M) .nil)),aY [1000,1001] M (by decide),fun _ _=>M⟩,?_,?_⟩
      exact h
      exact Nat.lt_succ_self _
     ·
      replace h:=bY h hc50
      refine cA ?_
      refine bD ?_
      refine bD ?_
      refine cC ?_
      refine aJ ?_
      obtain ⟨x53,hx53,h⟩:=aL h
      obtain ⟨x54,hx54,h⟩:=aL h
      obtain ⟨x55,hx55,h⟩:=aL h
      obtain ⟨x56,hx56,h⟩:=aK h
      refine aS (aA M (mvR M M M M)<|aA M (mvR M M M M)<|aA M (mvI M M M M)<|aA M (aN M M (lb M) (svR M))<|aA M (faR 5 M M M underlying60 M ti58 (lb M) M M)<|aA M (dO aB.toEnc0 M M (lb M) underlying58 ti57 (svR M) hk2 (svI M) hx53)<|aA M (cB M M (lb M) underlying57 M ti3 (by decide) (svR M) (k':=3) M)<|aA M (cI aB.toEnc0 (b:=5) (k:=3) (d:=.int _ _) M M (lb M) underlying3 ag3 ti3 (by decide) (svR M) M M hx54 (nle M) M)<|aA M (aN M M (lb M) (svR M))<|aA M (jW aB.toEnc0 (b:=5) (k:=3) (a':=(⟨x55.id,x55.up,x55.first,x54.next,x55.weight,x55.closed⟩:aM)) M M ti3 (svR M) M (svI M) M M M M hx55 (nle M) M hx56)<|bE ?_)
      obtain rfl:=sj_ h
      refine ⟨.inl M,(fun i=>if i=0 then 1001 else i),⟨.nil,(.cons (EntW.mix aB M (SubC.of_eq M) (SubC.of_eq M) M M) (.cons (EntW.lst M) .nil)),aY [1000,1001] M (by decide),(fun i hi=>by first | rfl | (show (if _ then _ else _)=_; (repeat' split) <;> omega))⟩,.nil,M⟩
  ·
   replace h:=bY h hc34
   refine cA ?_
   refine bD ?_
   refine bD ?_
   refine cC ?_
   refine aJ ?_
   obtain ⟨x57,hx57,h⟩:=aL h
   obtain ⟨x58,hx58,h⟩:=aL h
   obtain ⟨x59,hx59,h⟩:=aL h
   obtain ⟨x60,hx60,h⟩:=aK h
   refine aS (aA M (mvR M M M M)<|aA M (mvR M M M M)<|aA M (mvI M M M M)<|aA M (aN M M (lb M) (svR M))<|aA M (faR 5 M M M underlying60 M ti58 (lb M) M M)<|aA M (dO aB.toEnc0 M M (lb M) underlying58 ti57 (svR M) hk2 (svI M) hx57)<|aA M (cB M M (lb M) underlying57 M ti3 (by decide) (svR M) (k':=3) M)<|aA M (cI aB.toEnc0 (b:=5) (k:=3) (d:=.int _ _) M M (lb M) underlying3 ag3 ti3 (by decide) (svR M) M M hx58 (nle M) M)<|aA M (aN M M (lb M) (svR M))<|aA M (jW aB.toEnc0 (b:=5) (k:=2) (a':=(⟨x59.id,x59.up,x58.next,x59.next,x59.weight,x59.closed⟩:aM)) M M ti3 (svR M) M (svI M) M M M M hx59 (nle M) M hx60)<|bE ?_)
   obtain rfl:=sj_ h
   refine ⟨.inl M,(fun i=>if i=0 then 1001 else i),⟨.nil,(.cons (EntW.mix aB M (SubC.of_eq M) (SubC.of_eq M) M M) (.cons (EntW.lst M) .nil)),aY [1000,1001] M (by decide),(fun i hi=>by first | rfl | (show (if _ then _ else _)=_; (repeat' split) <;> omega))⟩,.nil,M⟩

theorem pL (a0:Int) (a1:Int) (a2:Int) (a3:Int) (a4:(List aP)) (a5:Int) (a6:Int) (a7:(List aM)) (a8:Int) (a9:(List Int)) (r:(Int × Int × (List aP) × Int × Int × (List aM) × Int × (List Int))) (h:mS a0 a1 a2 a3 a4 a5 a6 a7 a8 a9=some r):FnH prog 44 [.ref 1000 0,.int .i64 a0,.int .i64 a1] [(1000,.blk 60 (mixD aB.toEnc0 (w22 a2 a3 a4 a5 a6) a7 [.int .i64 a8,.osl 1001 (eInt .i64).sz a9.length])),(1001,.blk 3 (D.flat (a9.map (eInt .i64).d)))] (retD []) [(1000,.blk 60 (mixD aB.toEnc0 (w22 r.1 r.2.1 r.2.2.1 r.2.2.2.1 r.2.2.2.2.1) r.2.2.2.2.2.1 [.int .i64 r.2.2.2.2.2.2.1,.osl 0 (eInt .i64).sz r.2.2.2.2.2.2.2.length])),(0,.blk 3 (D.flat (r.2.2.2.2.2.2.2.map (eInt .i64).d)))]:=by
 refine cF (rs:=[]) func44 M ntmps44 (nle M) fun O hO=>?_
 show IWP _ _ _ _ ⟨[(0,.ref 1000 0),(1,.int .i64 a0),(2,.int .i64 a1)],[(1000,.blk 60 (mixD aB.toEnc0 (w22 a2 a3 a4 a5 a6) a7 [.int .i64 a8,.osl 1001 (eInt .i64).sz a9.length])),(1001,.blk 3 (D.flat (a9.map (eInt .i64).d)))]⟩ _
 unfold mS at h
 refine aF (aA M (mvR M M M M)<|aA M (mvI M M M M) <|?_)
 refine gI (S':=⟨[(0,.ref 1000 0),(1,.int .i64 a0),(2,.int .i64 a1),(7,.ref 1000 0),(8,.int .i64 a1)],[(1000,.blk 60 (mixD aB.toEnc0 (w22 a2 a3 a4 a5 a6) a7 [.int .i64 a8,.osl 1001 (eInt .i64).sz a9.length])),(1001,.blk 3 (D.flat (a9.map (eInt .i64).d)))]⟩) (fun i=>i) ⟨(.sames M M),(.cons (EntW.mix aB M (SubC.of_eq M) (SubC.of_eq M) M M) (.cons (EntW.lst M) .nil)),aY [1000,1001] M (by decide),fun _ _=>M⟩ ?_
 refine kZ 1 0 M M M (by decide) cl41 func41 M (.cons (svR M) (.cons (svI M) .nil)) ntmps41 (nle M) M hO.semiL fun O1 hO1=>?_
 show IWP _ _ _ _ ⟨[(0,.ref 1000 0),(1,.int .i64 a1)],[(0,.kept 1 [.ref 1000 0,.int .i64 a0,.int .i64 a1,.dead,.dead,.dead,.dead,.ref 1000 0,.int .i64 a1,.dead,.dead,.dead,.dead,.dead,.dead,.dead,.dead,.dead,.dead,.dead,.dead,.dead,.dead,.dead,.dead,.dead,.dead,.dead,.dead]),(1000,.blk 60 (mixD aB.toEnc0 (w22 a2 a3 a4 a5 a6) a7 [.int .i64 a8,.osl 1001 (eInt .i64).sz a9.length])),(1001,.blk 3 (D.flat (a9.map (eInt .i64).d)))]⟩ _
 refine aF (aA M (aI M M (lb M) (sv (d:=.nilp) M))<|aE ?_)
 refine aU ?_
 obtain ⟨x1,hx1,h⟩:=aK h
 refine aF (aA M (mvI M M M M)<|aA M (aO M M (lb M) (svI M) (sv (d:=.int _ (-1)) M) M hx1)<|aE ?_)
 refine aW (b:=_) M (fun hc2=>?_) (fun hc2=>?_)
 ·
  replace h:=bX h hc2
  refine aF (aA M (mvR M M M M)<|aA M (aN M M (lb M) (svR M))<|aA M (faR 389 M M M underlying60 M ti3 (lb M) M M)<|aA M (aI M M (lb M) (svR M))<|aE ?_)
  refine bB ?_
  refine bP ?_
  refine ⟨.inr M,0,_,[.ref 1000 389],(.cons (sv M) .nil),M,M,⟨[(0,.ref 1000 0),(1,.int .i64 a0),(2,.int .i64 a1),(9,.ref 1000 389)],[(1000,.blk 60 (mixD aB.toEnc0 (w22 a2 a3 a4 a5 a6) a7 [.int .i64 a8,.osl 1001 (eInt .i64).sz a9.length])),(1001,.blk 3 (D.flat (a9.map (eInt .i64).d)))]⟩,(fun i=>i),⟨(.sames M M),(.cons (EntW.mix aB M (SubC.of_eq M) (SubC.of_eq M) M M) (.cons (EntW.lst M) .nil)),aY [1000,1001] M (by decide),fun _ _=>M⟩,?_⟩
  refine aA M (aI M M (lb M) (svR M))<|aE ?_
  obtain ⟨hk3,h⟩:=iG h
  obtain ⟨x4,hx4,h⟩:=aL h
  obtain ⟨x5,hx5,h⟩:=aL h
  obtain ⟨x6,hx6,h⟩:=aK h
  obtain ⟨x7,hx7,h⟩:=aL h
  obtain ⟨x8,hx8,h⟩:=aL h
  obtain ⟨x9,hx9,h⟩:=aK h
  refine dN M [⟨[0],[],[(10,.ref 1000 0)],[]⟩,
   ⟨[1],[],[(11,.int .i64 a0)],[]⟩,
   ⟨[0],[],[(12,.ref 1000 0)],[]⟩,
   ⟨[1],[],[(13,.int .i64 a0)],[]⟩,
   ⟨[2],[],[(14,.int .i64 a1)],[]⟩,
   ⟨[6],[],[(15,.ref 1000 389)],[]⟩,
   ⟨[15],[],[(16,.ref 1000 389)],[]⟩,
   ⟨[16],[1000],[(17,.int .i64 a8)],[]⟩,
   ⟨[10],[],[(18,.ref 1000 0)],[]⟩,
   ⟨[18],[],[(19,.ref 1000 5)],[]⟩,
   ⟨[11,19],[],[(20,.ref 1000 (5 + (((a0:Int).toNat) * aB.sz + 0)))],[]⟩,
   ⟨[20],[],[(21,.ref 1000 (5 + (((a0:Int).toNat) * aB.sz + 1)))],[]⟩,
   ⟨[14,21],[1000],[],[(1000,.blk 60 (mixD aB.toEnc0 (w22 a2 a3 a4 a5 a6) x6 [.int .i64 a8,.osl 1001 (eInt .i64).sz a9.length]))]⟩,
   ⟨[12],[],[(22,.ref 1000 0)],[]⟩,
   ⟨[22],[],[(23,.ref 1000 5)],[]⟩,
   ⟨[13,23],[],[(24,.ref 1000 (5 + (((a0:Int).toNat) * aB.sz + 0)))],[]⟩,
   ⟨[24],[],[(25,.ref 1000 (5 + (((a0:Int).toNat) * aB.sz + 3)))],[]⟩,
   ⟨[17,25],[1000],[],[(1000,.blk 60 (mixD aB.toEnc0 (w22 a2 a3 a4 a5 a6) x9 [.int .i64 a8,.osl 1001 (eInt .i64).sz a9.length]))]⟩] M ?_ (by kernel_rfl) ?_
  ·refine .cons (lop M M fun S hA=>(aD M M (lb M) (svaR hA M M))) ?_
   refine .cons (lop M M fun S hA=>(aD M M (lb M) (svaI hA M M))) ?_
   refine .cons (lop M M fun S hA=>(aD M M (lb M) (svaR hA M M))) ?_
   refine .cons (lop M M fun S hA=>(aD M M (lb M) (svaI hA M M))) ?_
   refine .cons (lop M M fun S hA=>(aD M M (lb M) (svaI hA M M))) ?_
   refine .cons (lop M M fun S hA=>(aD M M (lb M) (svaR hA M M))) ?_
   refine .cons (lop M M fun S hA=>(aN M M (lb M) (svaR hA M M))) ?_
   refine .cons (lop M M fun S hA=>(gW aB.toEnc0 (d:=.int _ _) (n:=64) (k:=0) M M (lb M) underlying3 ag3 ti3 (by decide) (svaR hA M M) (agi hA M M) hk3 (by rfl) (nle M) (by rfl))) ?_
   refine .cons (lop M M fun S hA=>(aN M M (lb M) (svaR hA M M))) ?_
   refine .cons (lop M M fun S hA=>(bF M M (lb M) underlying60 M ti58 (by decide) (svaR hA M M) (off':=5) M)) ?_
   refine .cons (lop M M fun S hA=>(dO aB.toEnc0 M M (lb M) underlying58 ti57 (svaR hA M M) hk3 (svaI hA M M) hx4)) ?_
   refine .cons (lop M M fun S hA=>(cB M M (lb M) underlying57 M ti3 (by decide) (svaR hA M M) (k':=1) M)) ?_
   refine .cons (lop M M fun S hA=>(jW aB.toEnc0 (b:=5) (k:=1) (a':=(⟨x5.id,a1,x5.first,x5.next,x5.weight,x5.closed⟩:aM)) M M ti3 (svaR hA M M) (agi hA M M) (svaI hA M M) M M M M hx5 (nle M) M hx6)) ?_
   refine .cons (lop M M fun S hA=>(aN M M (lb M) (svaR hA M M))) ?_
   refine .cons (lop M M fun S hA=>(bF M M (lb M) underlying60 M ti58 (by decide) (svaR hA M M) (off':=5) M)) ?_
   refine .cons (lop M M fun S hA=>(dO aB.toEnc0 M M (lb M) underlying58 ti57 (svaR hA M M) (bV hx6 hk3) (svaI hA M M) hx7)) ?_
   refine .cons (lop M M fun S hA=>(cB M M (lb M) underlying57 M ti3 (by decide) (svaR hA M M) (k':=3) M)) ?_
   refine .cons (lop M M fun S hA=>(jW aB.toEnc0 (b:=5) (k:=3) (a':=(⟨x8.id,x8.up,x8.first,a8,x8.weight,x8.closed⟩:aM)) M M ti3 (svaR hA M M) (agi hA M M) (svaI hA M M) M M M M hx8 (nle M) M hx9)) ?_
   exact .nil
  refine aS (aA M (mvR M M M M)<|aA M (mvI M M M M)<|aA M (aN M M (lb M) (svR M))<|aA M (qK aB.toEnc0 (post:=q15) (post':=q15) (n:=64) (k:=0) M M ti3 (svR M) M (svI M) M M M (bV hx9 (bV hx6 hk3)) (by rfl) (nle M) (by rfl))<|bE ?_)
  obtain rfl:=sj_ h
  refine ⟨.inl M,(fun i=>if i=0 then 1001 else i),⟨.nil,(.cons (EntW.mix aB M (SubC.of_eq M) (SubC.of_eq M) M M) (.cons (EntW.lst M) .nil)),aY [1000,1001] M (by decide),(fun i hi=>by first | rfl | (show (if _ then _ else _)=_; (repeat' split) <;> omega))⟩,.nil,M⟩
 ·
  replace h:=bY h hc2
  refine aT ?_
  refine aJ ?_
  obtain ⟨x10,hx10,h⟩:=aL h
  obtain ⟨hk11,h⟩:=iG h
  refine aF (aA M (mvR M M M M)<|aA M (mvI M M M M)<|aA M (aN M M (lb M) (svR M))<|aA M (faR 5 M M M underlying60 M ti58 (lb M) M M)<|aA M (dO aB.toEnc0 M M (lb M) underlying58 ti57 (svR M) hk11 (svI M) hx10)<|aA M (cB M M (lb M) underlying57 M ti3 (by decide) (svR M) (k':=2) M)<|aA M (aI M M (lb M) (svR M))<|aE ?_)
  refine bB ?_
  refine ⟨.inr M,0,_,[.ref 1000 (5 + (((a1:Int).toNat) * aB.sz + 2))],(.cons (sv M) .nil),M,M,⟨[(0,.ref 1000 0),(1,.int .i64 a0),(2,.int .i64 a1),(9,.ref 1000 (5 + (((a1:Int).toNat) * aB.sz + 2)))],[(1000,.blk 60 (mixD aB.toEnc0 (w22 a2 a3 a4 a5 a6) a7 [.int .i64 a8,.osl 1001 (eInt .i64).sz a9.length])),(1001,.blk 3 (D.flat (a9.map (eInt .i64).d)))]⟩,(fun i=>i),⟨(.sames M M),(.cons (EntW.mix aB M (SubC.of_eq M) (SubC.of_eq M) M M) (.cons (EntW.lst M) .nil)),aY [1000,1001] M (by decide),fun _ _=>M⟩,?_⟩
  refine aA M (aI M M (lb M) (svR M))<|aE ?_
  obtain ⟨x12,hx12,h⟩:=aL h
  obtain ⟨x13,hx13,h⟩:=aL h
  obtain ⟨x14,hx14,h⟩:=aL h
  obtain ⟨x15,hx15,h⟩:=aK h
  obtain ⟨x16,hx16,h⟩:=aL h
  obtain ⟨x17,hx17,h⟩:=aL h
  obtain ⟨x18,hx18,h⟩:=aK h
  refine dN M [⟨[0],[],[(10,.ref 1000 0)],[]⟩,
   ⟨[1],[],[(11,.int .i64 a0)],[]⟩,
   ⟨[0],[],[(12,.ref 1000 0)],[]⟩,
   ⟨[1],[],[(13,.int .i64 a0)],[]⟩,
   ⟨[2],[],[(14,.int .i64 a1)],[]⟩,
   ⟨[6],[],[(15,.ref 1000 (5 + (((a1:Int).toNat) * aB.sz + 2)))],[]⟩,
   ⟨[15],[],[(16,.ref 1000 (5 + (((a1:Int).toNat) * aB.sz + 2)))],[]⟩,
   ⟨[16],[1000],[(17,.int .i64 x12.first)],[]⟩,
   ⟨[10],[],[(18,.ref 1000 0)],[]⟩,
   ⟨[18],[],[(19,.ref 1000 5)],[]⟩,
   ⟨[11,19],[],[(20,.ref 1000 (5 + (((a0:Int).toNat) * aB.sz + 0)))],[]⟩,
   ⟨[20],[],[(21,.ref 1000 (5 + (((a0:Int).toNat) * aB.sz + 1)))],[]⟩,
   ⟨[14,21],[1000],[],[(1000,.blk 60 (mixD aB.toEnc0 (w22 a2 a3 a4 a5 a6) x15 [.int .i64 a8,.osl 1001 (eInt .i64).sz a9.length]))]⟩,
   ⟨[12],[],[(22,.ref 1000 0)],[]⟩,
   ⟨[22],[],[(23,.ref 1000 5)],[]⟩,
   ⟨[13,23],[],[(24,.ref 1000 (5 + (((a0:Int).toNat) * aB.sz + 0)))],[]⟩,
   ⟨[24],[],[(25,.ref 1000 (5 + (((a0:Int).toNat) * aB.sz + 3)))],[]⟩,
   ⟨[17,25],[1000],[],[(1000,.blk 60 (mixD aB.toEnc0 (w22 a2 a3 a4 a5 a6) x18 [.int .i64 a8,.osl 1001 (eInt .i64).sz a9.length]))]⟩] M ?_ (by kernel_rfl) ?_
  ·refine .cons (lop M M fun S hA=>(aD M M (lb M) (svaR hA M M))) ?_
   refine .cons (lop M M fun S hA=>(aD M M (lb M) (svaI hA M M))) ?_
   refine .cons (lop M M fun S hA=>(aD M M (lb M) (svaR hA M M))) ?_
   refine .cons (lop M M fun S hA=>(aD M M (lb M) (svaI hA M M))) ?_
   refine .cons (lop M M fun S hA=>(aD M M (lb M) (svaI hA M M))) ?_
   refine .cons (lop M M fun S hA=>(aD M M (lb M) (svaR hA M M))) ?_
   refine .cons (lop M M fun S hA=>(aN M M (lb M) (svaR hA M M))) ?_
   refine .cons (lop M M fun S hA=>(cI aB.toEnc0 (b:=5) (k:=2) (d:=.int _ _) M M (lb M) underlying3 ag3 ti3 (by decide) (svaR hA M M) (agi hA M M) M hx12 (nle M) M)) ?_
   refine .cons (lop M M fun S hA=>(aN M M (lb M) (svaR hA M M))) ?_
   refine .cons (lop M M fun S hA=>(bF M M (lb M) underlying60 M ti58 (by decide) (svaR hA M M) (off':=5) M)) ?_
   refine .cons (lop M M fun S hA=>(dO aB.toEnc0 M M (lb M) underlying58 ti57 (svaR hA M M) hk11 (svaI hA M M) hx13)) ?_
   refine .cons (lop M M fun S hA=>(cB M M (lb M) underlying57 M ti3 (by decide) (svaR hA M M) (k':=1) M)) ?_
   refine .cons (lop M M fun S hA=>(jW aB.toEnc0 (b:=5) (k:=1) (a':=(⟨x14.id,a1,x14.first,x14.next,x14.weight,x14.closed⟩:aM)) M M ti3 (svaR hA M M) (agi hA M M) (svaI hA M M) M M M M hx14 (nle M) M hx15)) ?_
   refine .cons (lop M M fun S hA=>(aN M M (lb M) (svaR hA M M))) ?_
   refine .cons (lop M M fun S hA=>(bF M M (lb M) underlying60 M ti58 (by decide) (svaR hA M M) (off':=5) M)) ?_
   refine .cons (lop M M fun S hA=>(dO aB.toEnc0 M M (lb M) underlying58 ti57 (svaR hA M M) (bV hx15 hk11) (svaI hA M M) hx16)) ?_
   refine .cons (lop M M fun S hA=>(cB M M (lb M) underlying57 M ti3 (by decide) (svaR hA M M) (k':=3) M)) ?_
   refine .cons (lop M M fun S hA=>(jW aB.toEnc0 (b:=5) (k:=3) (a':=(⟨x17.id,x17.up,x17.first,x12.first,x17.weight,x17.closed⟩:aM)) M M ti3 (svaR hA M M) (agi hA M M) (svaI hA M M) M M M M hx17 (nle M) M hx18)) ?_
   exact .nil
  obtain ⟨x19,hx19,h⟩:=aL h
  obtain ⟨x20,hx20,h⟩:=aK h
  refine aS (aA M (mvR M M M M)<|aA M (mvI M M M M)<|aA M (aN M M (lb M) (svR M))<|aA M (jW aB.toEnc0 (b:=5) (k:=2) (a':=(⟨x19.id,x19.up,a0,x19.next,x19.weight,x19.closed⟩:aM)) M M ti3 (svR M) M (svI M) M M M M hx19 (nle M) M hx20)<|bE ?_)
  obtain rfl:=sj_ h
  refine ⟨.inl M,(fun i=>if i=0 then 1001 else i),⟨.nil,(.cons (EntW.mix aB M (SubC.of_eq M) (SubC.of_eq M) M M) (.cons (EntW.lst M) .nil)),aY [1000,1001] M (by decide),(fun i hi=>by first | rfl | (show (if _ then _ else _)=_; (repeat' split) <;> omega))⟩,.nil,M⟩

theorem iT (a0:Int) (a1:Int) (a2:Int) (a3:Int) (a4:(List aP)) (a5:Int) (a6:Int) (a7:(List aM)) (a8:Int) (a9:(List Int)) (r:(Int × Int × (List aP) × Int × Int × (List aM) × Int × (List Int))) (h:gZ a0 a1 a2 a3 a4 a5 a6 a7 a8 a9=some r):FnH prog 46 [.ref 1000 0,.int .i64 a0,.int .i64 a1] [(1000,.blk 60 (mixD aB.toEnc0 (w22 a2 a3 a4 a5 a6) a7 [.int .i64 a8,.osl 1001 (eInt .i64).sz a9.length])),(1001,.blk 3 (D.flat (a9.map (eInt .i64).d)))] (retD []) [(1000,.blk 60 (mixD aB.toEnc0 (w22 r.1 r.2.1 r.2.2.1 r.2.2.2.1 r.2.2.2.2.1) r.2.2.2.2.2.1 [.int .i64 r.2.2.2.2.2.2.1,.osl 0 (eInt .i64).sz r.2.2.2.2.2.2.2.length])),(0,.blk 3 (D.flat (r.2.2.2.2.2.2.2.map (eInt .i64).d)))]:=by
 refine cF (rs:=[]) func46 M ntmps46 (nle M) fun O hO=>?_
 show IWP _ _ _ _ ⟨[(0,.ref 1000 0),(1,.int .i64 a0),(2,.int .i64 a1)],[(1000,.blk 60 (mixD aB.toEnc0 (w22 a2 a3 a4 a5 a6) a7 [.int .i64 a8,.osl 1001 (eInt .i64).sz a9.length])),(1001,.blk 3 (D.flat (a9.map (eInt .i64).d)))]⟩ _
 unfold gZ at h
 obtain ⟨x1,hx1,h⟩:=aL h
 refine aF (aA M (mvR M M M M)<|aA M (mvI M M M M)<|aA M (bG (r':=.tuple []) (H1':=[(1000,.blk 60 (mixD aB.toEnc0 (w22 x1.1 x1.2.1 x1.2.2.1 x1.2.2.2.1 x1.2.2.2.2.1) x1.2.2.2.2.2.1 [.int .i64 x1.2.2.2.2.2.2.1,.osl 0 (eInt .i64).sz x1.2.2.2.2.2.2.2.length])),(0,.blk 3 (D.flat (x1.2.2.2.2.2.2.2.map (eInt .i64).d)))]) 0 [1000,1001] M M (lb M) cl48 (.cons (svR M) (.cons (svI M) .nil)) M M ⟨M,M,by decide,M,List.forall_mem_cons.2 ⟨⟨M,M,(jI aB M M M),(cW aB M M)⟩,List.forall_mem_cons.2 ⟨⟨M,M,(fW (eInt .i64) M),(bK (eInt .i64))⟩,List.forall_mem_nil _⟩⟩⟩ (mR _ _ _ _ _ _ _ _ _ _ hx1) M M (List.forall_mem_cons.2 ⟨⟨M,(cW aB M M)⟩,List.forall_mem_cons.2 ⟨⟨M,(bK (eInt .i64))⟩,List.forall_mem_nil _⟩⟩) (by simp only [List.map_cons,List.map_nil,Ent.ren,bL,bT,dE]; rfl))<|aE ?_)
 obtain ⟨x2,hx2,h⟩:=aL h
 refine aS (aA M (mvR M M M M)<|aA M (mvI M M M M)<|aA M (mvI M M M M)<|aA M (bG (r':=.tuple []) (H1':=[(1000,.blk 60 (mixD aB.toEnc0 (w22 x2.1 x2.2.1 x2.2.2.1 x2.2.2.2.1 x2.2.2.2.2.1) x2.2.2.2.2.2.1 [.int .i64 x2.2.2.2.2.2.2.1,.osl 1 (eInt .i64).sz x2.2.2.2.2.2.2.2.length])),(1,.blk 3 (D.flat (x2.2.2.2.2.2.2.2.map (eInt .i64).d)))]) 1 [1000,0] M M (lb M) cl44 (.cons (svR M) (.cons (svI M) (.cons (svI M) .nil))) M M ⟨M,M,by decide,M,List.forall_mem_cons.2 ⟨⟨M,M,(jI aB M M M),(cW aB M M)⟩,List.forall_mem_cons.2 ⟨⟨M,M,(fW (eInt .i64) M),(bK (eInt .i64))⟩,List.forall_mem_nil _⟩⟩⟩ (pL _ _ _ _ _ _ _ _ _ _ _ hx2) M M (List.forall_mem_cons.2 ⟨⟨M,(cW aB M M)⟩,List.forall_mem_cons.2 ⟨⟨M,(bK (eInt .i64))⟩,List.forall_mem_nil _⟩⟩) (by simp only [List.map_cons,List.map_nil,Ent.ren,bL,bT,dE]; rfl))<|bE ?_)
 obtain rfl:=sj_ h
 refine ⟨.inl M,(fun i=>if i=0 then 1 else i),⟨.nil,(.cons (EntW.mix aB M (SubC.of_eq M) (SubC.of_eq M) M M) (.cons (EntW.lst M) .nil)),aY [1000,1] M (by decide),(fun i hi=>by first | rfl | (show (if _ then _ else _)=_; (repeat' split) <;> omega))⟩,.nil,M⟩

theorem mU (a0:(List aP)) (r:(List aP)) (h:gT a0=some r):FnH prog 91 [.slice false (a0.map bA.d)] [] (.osl 0 bA.sz r.length) [(0,.blk 78 (D.flat (r.map bA.d)))]:=by
 refine cF (rs:=[.osl 0 bA.sz r.length]) func91 M ntmps91 (nle M) fun O hO=>?_
 show IWP _ _ _ _ ⟨[(0,.slice false (a0.map bA.d))],[]⟩ _
 unfold gT at h
 refine aF (aA M (aI M M (lb M) (sv (d:=.nils) M))<|aE ?_)
 refine aU ?_
 refine aF (aA M (mvL M M M M)<|xZ M M M (by decide) underlying53 (svL M) M <| fun bn1 hbn1 =>
  aE ?_)
 refine aW (b:=_) M (fun hc2=>?_) (fun hc2=>?_)
 ·
  replace h:=bothE_t h (mapE (hbn1 hc2))
  refine aF (aA M (aI M M (lb M) (sv (d:=.nils) M))<|aE ?_)
  refine bB ?_
  refine bP ?_
  obtain rfl:=sj_ h
  refine ⟨.inr M,(fun i=>if i=0 then 50 else i),⟨.nil,(.cons (.nilb M) .nil),aY [50] M (by decide),(fun i hi=>by first | rfl | (show (if _ then _ else _)=_; (repeat' split) <;> omega))⟩,(.cons (svno M) .nil),M⟩
 ·
  replace h:=bothE_f h
  refine aT ?_
  refine aJ ?_
  obtain ⟨x3,hx3,h⟩:=aL h
  refine aF (aA M (nM bA.toEnc0 ([]:(List aP)) 0 M M (lb M) underlying53 ti78 M .nil M M (by decide))<|aA M (mvL M M M M)<|aA M (lZ bA.toEnc0 1 M M (lb M) underlying53 ti78 M M M M M (src_T bA (ys:=a0) (svL M)) hx3)<|aA M (aI M M (lb M) (sv (d:=.osl _ _ _) M))<|aE ?_)
  refine bB ?_
  obtain rfl:=sj_ h
  refine ⟨.inr M,(fun i=>if i=0 then 1 else i),⟨.nil,(.cons (EntW.lst M) .nil),aY [1] M (by decide),(fun i hi=>by first | rfl | (show (if _ then _ else _)=_; (repeat' split) <;> omega))⟩,(.cons (sv M) .nil),M⟩

theorem pP (a0:bN) (r:((List aP) × Int × Int)) (h:mY a0=some r):FnH prog 76 [.agg (v1 a0)] [] (.agg [.osl 0 bA.sz r.1.length,.int .i64 r.2.1,.int .i64 r.2.2]) [(0,.blk 78 (D.flat (r.1.map bA.d)))]:=by
 refine cF (rs:=[.agg [.osl 0 bA.sz r.1.length,.int .i64 r.2.1,.int .i64 r.2.2]]) func76 M ntmps76 (nle M) fun O hO=>?_
 show IWP _ _ _ _ ⟨[(0,.agg (v1 a0))],[]⟩ _
 unfold mY at h
 refine aF (aA M (fE (cs:=q10) 0 M M (lb M) M (svA q10 M) M M)<|aA M (gN (cs:=q14) (cs':=[.slice false (([]:List aP).map bA.d),.int .i64 0,.int .i64 0]) 1 M M (lb M) M ti55 M M (.cons (.nils _) (.all _)))<|aE ?_)
 obtain ⟨x1,hx1,h⟩:=aL h
 refine aF (aA M (faR 0 M M M underlying55 M ti53 (lb M) M M)<|aA M (lrL la53 M M M M M (nle M) M)<|aA M (bG (r':=.osl 2 bA.sz x1.length) (H1':=[(2,.blk 78 (D.flat (x1.map bA.d)))]) 2 [] M M (lb M) cl91 (.cons (svL M) .nil) M M ⟨M,M,by decide,M,List.forall_mem_nil _⟩ (mU _ _ hx1) M M (List.forall_mem_cons.2 ⟨⟨M,(bK bA)⟩,List.forall_mem_nil _⟩) (by simp only [List.map_cons,List.map_nil,Ent.ren,bL,bT]; rfl))<|aA M (faR 0 M M M underlying55 M ti53 (lb M) M M)<|aA M (fD (ds':=q11) M M ti53 (svR M) M (sv (d:=.osl _ _ _) M) M M M (nle M) M)<|aE ?_)
 refine aF (aA M (lra q11 la55 M M M M M (nle M) M)<|aA M (stA q11 q11 ti55 M M M M M M M M (nle M) M)<|aE ?_)
 refine bB ?_
 obtain rfl:=sj_ h
 refine ⟨.inr M,(fun i=>if i=0 then 2 else i),⟨.nil,(.cons (EntW.lst M) .nil),aY [2] M (by decide),(fun i hi=>by first | rfl | (show (if _ then _ else _)=_; (repeat' split) <;> omega))⟩,(.cons (rva la55 M M (nle M) M) .nil),M⟩

theorem rU (a0:bN) (a1:Int) (r:Bool) (h:pF a0 a1=some r):fS prog 78 [.agg (v1 a0),.int .i64 a1] (.bool r):=by
 refine cR (rs:=[.bool r]) func78 M ntmps78 (nle M) M fun O hO=>?_
 show IWP _ _ _ _ ⟨[(0,.agg (v1 a0)),(1,.int .i64 a1)],[]⟩ _
 unfold pF at h
 refine aF (aA M (fE (cs:=q10) 0 M M (lb M) M (svA q10 M) M M)<|aA M (aI M M (lb M) (sv (d:=.bool false) M))<|aE ?_)
 obtain ⟨x1,hx1,h⟩:=aK h
 obtain ⟨x2,hx2,h⟩:=aK h
 obtain ⟨x3,hx3,h⟩:=aK h
 obtain ⟨x4,hx4,h⟩:=aL h
 obtain ⟨x5,hx5,h⟩:=aK h
 refine aF (aA M (mvI M M M M)<|aA M (aO M M (lb M) (svI M) (sv (d:=.int _ 0) M) M hx1)<|aA M (mvB M M M M)<|aH M M (.one M) M (by decide) (fun hb=>(mvI M M M M))<|aH M M (.one M) M (by decide) (fun hb=>(faR 0 M M M underlying55 M ti53 (lb M) M M))<|aH M M (.one M) M (by decide) (fun hb=>(aR (d:=.slice _ _) M M (lb M) underlying53 ag53 ti53 (by decide) (svcR M hb) M (nle M) M))<|aH M M (.one M) M (by decide) (fun hb=>(dU bA (l:=a0.Cells) M M (lb M) underlying53 (svcL M hb)))<|aH M M (.one M) M (by decide) (fun hb=>(aO M M (lb M) (svcI M hb) (svcI M hb) M hx2))<|aA M (bC M M (lb M) (svB M) M M hx3)<|aA M (mvB M M M M)<|aH M M (.one M) M (by decide) (fun hb=>(faR 0 M M M underlying55 M ti53 (lb M) M M))<|aH M M (.one M) M (by decide) (fun hb=>(aR (d:=.slice _ _) M M (lb M) underlying53 ag53 ti53 (by decide) (svcR M hb) M (nle M) M))<|aH M M (.one M) M (by decide) (fun hb=>(mvI M M M M))<|aH M M (.one M) M (by decide) (fun hb=>(iV bA (cs:=q13) M M (lb M) underlying53 ti78 (svcL M hb) (svcI M hb) (gd_t hx4 hb) M M))<|aH M M (.one M) M (by decide) (fun hb=>(oG (cs':=[.bool _]) M M (lb M) underlying78 M ti4 (by decide) (svc (d:=.fptr q13) M hb) M))<|aH M M (.one M) M (by decide) (fun hb=>(iU M M (lb M) underlying4 ag4 ti4 (by decide) (svc (d:=.fptr [.bool _]) M hb) (nle M)))<|aA M (bC M M (lb M) (svB M) M M hx5)<|aA M (asB M M M M)<|aE ?_)
 refine bB ?_
 obtain rfl:=sj_ h
 refine ⟨.inr M,(.cons (sv M) .nil)⟩

theorem sN (a0:bN) (a1:Int) (r:(bN × Int)) (h:rA a0 a1=some r):fS prog 49 [.agg (v1 a0),.int .i64 a1] (retD [.agg (v1 r.1),.int .i64 r.2]):=by
 refine pY (rs:=[.agg (v1 r.1),.int .i64 r.2]) func49 M ntmps49 (nle M) M fun O hO=>?_
 show IWP _ _ _ _ ⟨[(0,.agg (v1 a0)),(1,.int .i64 a1)],[]⟩ _
 unfold rA at h
 refine aF (aA M (fE (cs:=q10) 0 M M (lb M) M (svA q10 M) M M)<|aA M (gN (cs:=q14) (cs':=[.slice false (([]:List aP).map bA.d),.int .i64 0,.int .i64 0]) 1 M M (lb M) M ti55 M M (.cons (.nils _) (.all _)))<|aA M (aI M M (lb M) (sv (d:=.int _ 0) M))<|aE ?_)
 obtain ⟨x1,hx1,h⟩:=aL h
 refine aF (aA M (lra q10 la55 M M M M M (nle M) M)<|aA M (bG (r':=.agg [.osl 2 bA.sz x1.1.length,.int .i64 x1.2.1,.int .i64 x1.2.2]) (H1':=[(2,.blk 78 (D.flat (x1.1.map bA.d)))]) 2 [] M M (lb M) cl76 (.cons (svA q10 M) .nil) M M ⟨M,M,by decide,M,List.forall_mem_nil _⟩ (pP _ _ hx1) M M (List.forall_mem_cons.2 ⟨⟨M,(bK bA)⟩,List.forall_mem_nil _⟩) (by simp only [List.map_cons,List.map_nil,Ent.ren,bL,bT]; rfl))<|aA M (gN (cs:=q14) (cs':=[.slice false (([]:List aP).map bA.d),.int .i64 0,.int .i64 0]) 3 M M (lb M) M ti55 M M (.cons (.nils _) (.all _)))<|aA M (stA q11 q11 ti55 M M M M M M M M (nle M) M)<|aE ?_)
 refine aU ?_
 obtain ⟨x2,hx2,h⟩:=aL h
 refine aF (aA M (lra q10 la55 M M M M M (nle M) M)<|aA M (bJ (r:=.int _ _) M M (lb M) cl37 (.cons (svA q10 M) .nil) M (qL _ _ hx2))<|aA M (asI M M M M)<|aE ?_)
 obtain ⟨x3,hx3,h⟩:=aK h
 refine aF (aA M (mvI M M M M)<|aA M (aO M M (lb M) (svI M) (sv (d:=.int _ 0) M) M hx3)<|aE ?_)
 refine aW (b:=_) M (fun hc4=>?_) (fun hc4=>?_)
 ·
  replace h:=bX h hc4
  refine aF (aA M (lra q11 la55 M M M M M (nle M) M)<|aA M (mvI M M M M)<|aA M (stA q11 q11 ti55 M M M M M M M M (nle M) M)<|aA M (asI M M M M)<|aE ?_)
  refine bB ?_
  refine bP ?_
  obtain rfl:=sj_ h
  refine ⟨.inr M,_,(.cons (rva la55 M M (nle M) M) (.cons (sv M) .nil)),(.cons (.agg (.cons (FDT bA M M) (.all _))) (.all _))⟩
 ·
  replace h:=bY h hc4
  refine aT ?_
  refine aJ ?_
  refine aU ?_
  obtain ⟨x5,hx5,h⟩:=aL h
  refine aF (aA M (lra q10 la55 M M M M M (nle M) M)<|aA M (mvI M M M M)<|aA M (bJ (r:=.bool _) M M (lb M) cl78 (.cons (svA q10 M) (.cons (svI M) .nil)) M (rU _ _ _ hx5))<|aA M (eX M M (lb M) (svB M))<|aE ?_)
  refine aW (b:=_) M (fun hc6=>?_) (fun hc6=>?_)
  ·
   replace h:=bX h hc6
   refine aF (aA M (lra q11 la55 M M M M M (nle M) M)<|aA M (stA q11 q11 ti55 M M M M M M M M (nle M) M)<|aA M (aI M M (lb M) (sv (d:=.int _ 6) M))<|aE ?_)
   refine bB ?_
   refine bP ?_
   obtain rfl:=sj_ h
   refine ⟨.inr M,_,(.cons (rva la55 M M (nle M) M) (.cons (sv M) .nil)),(.cons (.agg (.cons (FDT bA M M) (.all _))) (.all _))⟩
  ·
   replace h:=bY h hc6
   refine aT ?_
   refine aJ ?_
   obtain ⟨x7,hx7,h⟩:=aL h
   obtain ⟨x8,hx8,h⟩:=aL h
   obtain ⟨x9,hx9,h⟩:=aK h
   refine aF (aA M (faR 0 M M M underlying55 M ti53 (lb M) M M)<|aA M (aR (d:=.osl _ _ _) M M (lb M) underlying53 ag53 ti53 (by decide) (svR M) M (nle M) M)<|aA M (mvI M M M M)<|aA M (faR 1 M M M underlying55 M ti3 (lb M) M M)<|aA M (aR (d:=.int _ _) M M (lb M) underlying3 ag3 ti3 (by decide) (svR M) M (nle M) M)<|aA M (cV (cs:=q13) M M (lb M) underlying78 ti78 pl78 M (.cons (svI M) .nil) M)<|aA M (aX bA.toEnc0 M M (lb M) underlying53 ti78 (sv (d:=.osl _ _ _) M) M (svI M) hx7)<|aA M (bR bA.toEnc0 (a':=(⟨false,0,x1.2.1⟩:aP)) M M ti78 (svR M) M (svA q13 M) M M M hx8 (nle M) M hx9)<|aE ?_)
   refine aF (aA M (mvI M M M M)<|aA M (faR 1 M M M underlying55 M ti3 (lb M) M M)<|aA M (fD (ds':=q11) M M ti3 (svR M) M (svI M) M M M (nle M) M)<|aE ?_)
   obtain ⟨x10,hx10,h⟩:=aK h
   refine aF (aA M (faR 2 M M M underlying55 M ti3 (lb M) M M)<|aA M (aR (d:=.int _ _) M M (lb M) underlying3 ag3 ti3 (by decide) (svR M) M (nle M) M)<|aA M (aQ M M (lb M) (svI M) (sv (d:=.int _ 1) M) M hx10)<|aA M (faR 2 M M M underlying55 M ti3 (lb M) M M)<|aA M (fD (ds':=q11) M M ti3 (svR M) M (svI M) M M M (nle M) M)<|aE ?_)
   refine aF (aA M (lra q11 la55 M M M M M (nle M) M)<|aA M (stA q11 q11 ti55 M M M M M M M M (nle M) M)<|aA M (aI M M (lb M) (sv (d:=.int _ 0) M))<|aE ?_)
   refine bB ?_
   obtain rfl:=sj_ h
   refine ⟨.inr M,_,(.cons (rva la55 M M (nle M) M) (.cons (sv M) .nil)),(.cons (.agg (.cons (FDT bA M (bV hx9 M)) (.all _))) (.all _))⟩

theorem qA (a0:Int) (a1:Int) (r:Bool) (h:nF a0 a1=some r):fS prog 51 [.int .i64 a0,.fptr [.int .i64 a1]] (.bool r):=by
 refine cR (rs:=[.bool r]) func51 M ntmps51 (nle M) M fun O hO=>?_
 show IWP _ _ _ _ ⟨[(0,.int .i64 a0),(1,.fptr [.int .i64 a1])],[]⟩ _
 unfold nF at h
 refine aF (aA M (aI M M (lb M) (sv (d:=.bool false) M))<|aE ?_)
 obtain ⟨x1,hx1,h⟩:=aK h
 refine aF (aA M (mvI M M M M)<|aA M (iU M M (lb M) underlying3 ag3 ti3 (by decide) (sv (d:=.fptr [.int _ _]) M) (nle M))<|aA M (aO M M (lb M) (svI M) (svI M) M hx1)<|aA M (asB M M M M)<|aE ?_)
 refine bB ?_
 obtain rfl:=sj_ h
 refine ⟨.inr M,(.cons (sv M) .nil)⟩

theorem oL (a0:(List Int)) (a1:Int) (r:Int) (h:iX a0 a1=some r):fS prog 79 [.slice false (a0.map (eInt .i64).d),.fn 51 [.fptr [.int .i64 a1]]] (.int .i64 r):=by
 refine cR (rs:=[.int .i64 r]) func79 M ntmps79 (nle M) M fun O hO=>?_
 show IWP _ _ _ _ ⟨[(0,.slice false (a0.map (eInt .i64).d)),(1,.fn 51 [.fptr [.int .i64 a1]])],[]⟩ _
 unfold iX at h
 refine aF (aA M (aI M M (lb M) (sv (d:=.int _ 0) M))<|aE ?_)
 refine aU ?_
 refine aF (aA M (mvL M M M M)<|aA M (dU (eInt .i64) (l:=a0) M M (lb M) underlying24 (svL M))<|aA M (aD M M (lb M) (sv (d:=.int _ 0) M))<|aE ?_)
 refine aV ?_
 refine bS (α:=Nat × Int) (fun z=>⟨[(0,.slice false (a0.map (eInt .i64).d)),(1,.fn 51 [.fptr [.int .i64 a1]]),(7,.int .i64 (a0.length:Int)),(8,.int .i64 z.2)],[]⟩) (fun z=>fB a0 a1 z.1 z.2=some r) (fun z=>z.1) (fuel,0) (fun i=>i) ⟨(.sames M M),.nil,aY [] M (by decide),fun _ _=>M⟩ ?_ ?_
 ·exact h
 ·
  rintro ⟨n0,v7⟩ h
  cases n0 with
  | zero=>exact absurd h (by unfold fB; exact nofun)
  | succ n0 =>
   unfold fB at h
   obtain ⟨x14,hx14,h⟩:=aK h
   refine aF (aA M (aO M M (lb M) (svI M) (svI M) M hx14)<|aE ?_)
   refine aU ?_
   refine aW (b:=_) M (fun hc15=>?_) (fun hc15=>?_)
   ·
    replace h:=bX h hc15
    refine aT ?_
    refine aJ ?_
    refine aU ?_
    refine aV ?_
    refine aF (aA M (mvI M M M M)<|aA M (asI M M M M)<|aE ?_)
    obtain ⟨x16,hx16,h⟩:=aL h
    obtain ⟨x17,hx17,h⟩:=aL h
    refine aF (aA M (aD M M (lb M) (sv (d:=.fn 51 [.fptr [.int _ _]]) M))<|aA M (mvL M M M M)<|aA M (mvI M M M M)<|aA M (iV (eInt .i64) (cs:=[.int _ _]) M M (lb M) underlying24 ti3 (svL M) (svI M) hx16 M M)<|aA M (iU M M (lb M) underlying3 ag3 ti3 (by decide) (sv (d:=.fptr [.int _ _]) M) (nle M))<|aA M (jO (r:=.bool _) M M (lb M) cl51 (sv (d:=.fn 51 [.fptr [.int _ _]]) M) (.cons (svI M) .nil) M (qA _ _ _ hx17))<|aE ?_)
    refine aW (b:=_) M (fun hc18=>?_) (fun hc18=>?_)
    ·
     replace h:=bX h hc18
     refine aF (aA M (mvI M M M M)<|aA M (asI M M M M)<|aE ?_)
     refine bB ?_
     refine dB ?_
     refine bP ?_
     refine bP ?_
     refine dB ?_
     refine bP ?_
     obtain rfl:=sj_ h
     refine ⟨.inr M,(.cons (sv M) .nil)⟩
    ·
     replace h:=bY h hc18
     refine aT ?_
     refine bI ?_
     refine aJ ?_
     obtain ⟨x19,hx19,h⟩:=aK h
     refine aS (aA M (aQ M M (lb M) (svI M) (sv (d:=.int _ 1) M) M hx19)<|aA M (mvI M M M M)<|bE ?_)
     refine aJ ⟨(n0,x19),(fun i=>i),⟨(.sames M M),.nil,aY [] M (by decide),fun _ _=>M⟩,?_,?_⟩
     exact h
     exact Nat.lt_succ_self _
   ·
    replace h:=bY h hc15
    refine cA ?_
    refine bD ?_
    refine bD ?_
    refine cC ?_
    refine aJ ?_
    refine aF (aA M (aI M M (lb M) (sv (d:=.int _ (-1)) M))<|aE ?_)
    refine bB ?_
    obtain rfl:=sj_ h
    refine ⟨.inr M,(.cons (sv M) .nil)⟩

theorem kH (a0:(List Int)) (a1:Int) (r:(List Int)) (h:gE a0 a1=some r):FnH prog 50 [.osl 1000 (eInt .i64).sz a0.length,.fn 51 [.ref 1001 0]] [(1000,.blk 3 (D.flat (a0.map (eInt .i64).d))),(1001,.blk 3 [.int .i64 a1])] (.osl 0 (eInt .i64).sz r.length) [(1001,.blk 3 [.int .i64 a1]),(0,.blk 3 (D.flat (r.map (eInt .i64).d)))]:=by
 refine cF (rs:=[.osl 0 (eInt .i64).sz r.length]) func50 M ntmps50 (nle M) fun O hO=>?_
 show IWP _ _ _ _ ⟨[(0,.osl 1000 (eInt .i64).sz a0.length),(1,.fn 51 [.ref 1001 0])],[(1000,.blk 3 (D.flat (a0.map (eInt .i64).d))),(1001,.blk 3 [.int .i64 a1])]⟩ _
 unfold gE at h
 refine aF (aA M (aI M M (lb M) (sv (d:=.nils) M))<|aE ?_)
 obtain ⟨x1,hx1,h⟩:=aL h
 refine aF (aA M (aD M M (lb M) (sv (d:=.osl _ _ _) M))<|aA M (aD M M (lb M) (sv (d:=.fn 51 [.ref _ _]) M))<|aA M (mG (r:=.int .i64 x1) M M (lb M) cl79 (.cons (sv (d:=.osl _ _ _) M) (.cons (sv (d:=.fn 51 [.ref _ _]) M) .nil)) (.cons (FDT (eInt .i64) M M) (.cons (.fn (.cons (.ref M M (tD _) M) .nil)) .nil)) M M (oL _ _ _ hx1))<|aA M (asI M M M M)<|aE ?_)
 refine aU ?_
 obtain ⟨x2,hx2,h⟩:=aK h
 refine aF (aA M (mvI M M M M)<|aA M (aO M M (lb M) (svI M) (sv (d:=.int _ (-1)) M) M hx2)<|aE ?_)
 refine aW (b:=_) M (fun hc3=>?_) (fun hc3=>?_)
 ·
  replace h:=bX h hc3
  refine aF (aA M (aD M M (lb M) (sv (d:=.osl _ _ _) M))<|aA M (aI M M (lb M) (sv (d:=.osl _ _ _) M))<|aE ?_)
  refine bB ?_
  refine bP ?_
  obtain rfl:=sj_ h
  refine ⟨.inr M,(fun i=>if i=0 then 1000 else i),⟨.nil,(.cons (.blk M M M) (.cons (EntW.lst M) .nil)),aY [1001,1000] M (by decide),(fun i hi=>by first | rfl | (show (if _ then _ else _)=_; (repeat' split) <;> omega))⟩,(.cons (sv M) .nil),M⟩
 ·
  replace h:=bY h hc3
  refine aT ?_
  refine aJ ?_
  refine aU ?_
  obtain ⟨x4,hx4,h⟩:=aK h
  refine aF (aA M (mvI M M M M)<|aA M (aQ M M (lb M) (svI M) (sv (d:=.int _ 1) M) M hx4)<|aA M (asI M M M M)<|aE ?_)
  refine aV ?_
  refine bS (α:=Nat × (List Int) × Int × Int) (fun z=>⟨[(0,.osl 1000 (eInt .i64).sz z.2.1.length),(1,.fn 51 [.ref 1001 0]),(5,.int .i64 z.2.2.1),(6,.int .i64 z.2.2.2)],[(1000,.blk 3 (D.flat (z.2.1.map (eInt .i64).d))),(1001,.blk 3 [.int .i64 a1])]⟩) (fun z=>eC a1 z.1 z.2.1 z.2.2.1 z.2.2.2=some r) (fun z=>z.1) (fuel,a0,x1,x4) (fun i=>i) ⟨(.sames M M),(.cons (EntW.lst M) (.cons (.blk M M M) .nil)),aY [1000,1001] M (by decide),fun _ _=>M⟩ ?_ ?_
  ·exact h
  ·
   rintro ⟨n0,v17,v18,v19⟩ h
   cases n0 with
   | zero=>exact absurd h (by unfold eC; exact nofun)
   | succ n0 =>
    unfold eC at h
    refine aU ?_
    obtain ⟨x32,hx32,h⟩:=aK h
    refine aF (aA M (mvI M M M M)<|aA M (aD M M (lb M) (sv (d:=.osl _ _ _) M))<|aA M (mW M M (lb M) underlying24 (sv (d:=.osl _ _ _) M))<|aA M (aO M M (lb M) (svI M) (svI M) M hx32)<|aE ?_)
    refine aW (b:=_) M (fun hc33=>?_) (fun hc33=>?_)
    ·
     replace h:=bX h hc33
     refine aT ?_
     refine aJ ?_
     refine aU ?_
     refine aV ?_
     obtain ⟨x34,hx34,h⟩:=aL h
     obtain ⟨x35,hx35,h⟩:=aL h
     refine aF (aA M (aD M M (lb M) (sv (d:=.osl _ _ _) M))<|aA M (mvI M M M M)<|aA M (aX (eInt .i64).toEnc0 M M (lb M) underlying24 ti3 (sv (d:=.osl _ _ _) M) M (svI M) hx34)<|aA M (bO (eInt .i64).toEnc0 (d:=.int _ _) M M (lb M) underlying3 ag3 ti3 (by decide) (svR M) M hx35 (nle M) M)<|aA M (asI M M M M)<|aE ?_)
     obtain ⟨x36,hx36,h⟩:=aL h
     refine aF (aA M (aD M M (lb M) (sv (d:=.fn 51 [.ref _ _]) M))<|aA M (mvI M M M M)<|aA M (xA (r:=.bool x36) M M (lb M) cl51 (sv (d:=.fn 51 [.ref _ _]) M) (.cons (svI M) .nil) (.k (.cons (.ref M M (tD _) M) .nil)) M M (qA _ _ _ hx36))<|aA M (eX M M (lb M) (svB M))<|aE ?_)
     refine aW (b:=_) M (fun hc37=>?_) (fun hc37=>?_)
     ·
      replace h:=bX h hc37
      obtain ⟨x38,hx38,h⟩:=aL h
      obtain ⟨x39,hx39,h⟩:=aL h
      obtain ⟨x40,hx40,h⟩:=aK h
      refine aF (aA M (aD M M (lb M) (sv (d:=.osl _ _ _) M))<|aA M (mvI M M M M)<|aA M (mvI M M M M)<|aA M (aX (eInt .i64).toEnc0 M M (lb M) underlying24 ti3 (sv (d:=.osl _ _ _) M) M (svI M) hx38)<|aA M (bR (eInt .i64).toEnc0 (a':=x35) M M ti3 (svR M) M (svI M) M M M hx39 (nle M) M hx40)<|aE ?_)
      obtain ⟨x41,hx41,h⟩:=aK h
      refine aS (aA M (mvI M M M M)<|aA M (aQ M M (lb M) (svI M) (sv (d:=.int _ 1) M) M hx41)<|aA M (asI M M M M)<|bE ?_)
      refine bI ?_
      refine aJ ?_
      obtain ⟨x42,hx42,h⟩:=aK h
      refine aS (aA M (mvI M M M M)<|aA M (aQ M M (lb M) (svI M) (sv (d:=.int _ 1) M) M hx42)<|aA M (asI M M M M)<|bE ?_)
      refine aJ ⟨(n0,x40,x41,x42),(fun i=>i),⟨(.cons (.same (congrArg (D.osl _ _) (bV hx40 M).symm) M) (.sames M M)),(.cons (EntW.lst M) (.cons (.blk M M M) .nil)),aY [1000,1001] M (by decide),fun _ _=>M⟩,?_,?_⟩
      exact h
      exact Nat.lt_succ_self _
     ·
      replace h:=bY h hc37
      refine aT ?_
      refine bI ?_
      refine aJ ?_
      obtain ⟨x43,hx43,h⟩:=aK h
      refine aS (aA M (mvI M M M M)<|aA M (aQ M M (lb M) (svI M) (sv (d:=.int _ 1) M) M hx43)<|aA M (asI M M M M)<|bE ?_)
      refine aJ ⟨(n0,v17,v18,x43),(fun i=>i),⟨(.sames M M),(.cons (EntW.lst M) (.cons (.blk M M M) .nil)),aY [1000,1001] M (by decide),fun _ _=>M⟩,?_,?_⟩
      exact h
      exact Nat.lt_succ_self _
    ·
     replace h:=bY h hc33
     refine cA ?_
     refine bD ?_
     refine bD ?_
     refine cC ?_
     refine aJ ?_
     obtain ⟨x44,hx44,h⟩:=aL h
     refine aF (aA M (aD M M (lb M) (sv (d:=.osl _ _ _) M))<|aA M (mvI M M M M)<|wA (eInt .i64).toEnc0 M M M M (by decide) M M underlying24 ti3 M M M M M (fun S1 h9=>sv ((h9 37 (by decide)).trans M)) hx44<|aE ?_)
     obtain ⟨x45,hx45,h⟩:=aL h
     refine aF (aA M (aD M M (lb M) (sv (d:=.osl _ _ _) M))<|aA M (mvI M M M M)<|aA M (wS (eInt .i64).toEnc0 M M (lb M) underlying24 ti3 (sv (d:=.osl _ _ _) M) M (Nat.le_trans (cut_le hx44) (Nat.le_of_eq M)) (svI M) hx45)<|aA M (aI M M (lb M) (sv (d:=.osl _ _ _) M))<|aE ?_)
     refine bB ?_
     obtain rfl:=sj_ h
     refine ⟨.inr M,(fun i=>if i=0 then 1000 else i),⟨.nil,(.cons (.blk M M M) (.cons (EntW.lst M) .nil)),aY [1001,1000] M (by decide),(fun i hi=>by first | rfl | (show (if _ then _ else _)=_; (repeat' split) <;> omega))⟩,(.cons (sv M) .nil),M⟩
end Go.Proofs.Ytdnjagkihgjpcaa
