/-
  A part of the proof: rules and plain facts. No condition.
-/
import Derived.Test.YtknpfbfkaccgmaaGreatProg
import Derived.KernelRfl
import Derived.Test.YtknpfbfkaccgmaaGreatIlPn
import Derived.Test.YtknpfbfkaccgmaaGreatIlA34tD
import Derived.Test.YtknpfbfkaccgmaaGreatIlIt34t
set_option linter.all false
set_option maxRecDepth 8000
set_option maxHeartbeats 2000000
open Go Go.IL Go.Fn Go.Proofs
open Go.Proofs.Tryz
namespace Go.Proofs.YtknpfbfkaccgmaaGreat
theorem ti3:TI prog 3 (some (.int .i64 0)) 1 8:=by unfold TI; kernel_rfl
theorem ti4:TI prog 4 (some (.bool false)) 1 1:=by unfold TI; kernel_rfl
theorem ti5:TI prog 5 (some (.int .u8 0)) 1 1:=by unfold TI; kernel_rfl
theorem ti26:TI prog 26 (some (.int .i64 0)) 1 8:=by unfold TI; kernel_rfl
theorem ti29:TI prog 29 (some (.slice none 0 0)) 1 24:=by unfold TI; kernel_rfl
theorem ti30:TI prog 30 (some (.slice none 0 0)) 1 24:=by unfold TI; kernel_rfl
theorem ti32:TI prog 32 (some (.agg #[.int .i64 0,.int .i64 0,.slice none 0 0,.slice none 0 0])) 4 64:=by unfold TI; kernel_rfl
theorem ti37:TI prog 37 (some (.agg #[.int .u8 0,.int .i64 0,.int .i64 0,.int .i64 0,.bool false])) 5 40:=by unfold TI; kernel_rfl
theorem ti53:TI prog 53 (some (.agg #[.int .i64 0,.int .i64 0,.int .i64 0,.bool false])) 4 32:=by unfold TI; kernel_rfl
theorem ag3:kM prog 3=false:=by kernel_rfl
theorem ag4:kM prog 4=false:=by kernel_rfl
theorem ag5:kM prog 5=false:=by kernel_rfl
theorem ag29:kM prog 29=false:=by kernel_rfl
theorem ag30:kM prog 30=false:=by kernel_rfl
theorem ag32:kM prog 32=true:=by kernel_rfl
theorem ag37:kM prog 37=true:=by kernel_rfl
theorem ag53:kM prog 53=true:=by kernel_rfl
theorem ex77:zI prog 77 (Extern.SlicesOverlaps.overlaps #[29,29] #[4]):=⟨f77,func77,by kernel_rfl,by kernel_rfl,by kernel_rfl,by kernel_rfl⟩
theorem pl37:∀ w,(Array.mapM (m:=Sem) (fun (f:Field)=>Functor.map (Prod.mk f.offset) (sizeOf f.type)) (fieldsOf prog 37)).run prog w = .ok #[(0,1),(1,1),(2,1),(3,1),(4,1)] w:=fun w=>by kernel_rfl
theorem pl53:∀ w,(Array.mapM (m:=Sem) (fun (f:Field)=>Functor.map (Prod.mk f.offset) (sizeOf f.type)) (fieldsOf prog 53)).run prog w = .ok #[(0,1),(1,1),(2,1),(3,1)] w:=fun w=>by kernel_rfl
theorem cl6:bI prog 6:=⟨f6,func6,rfl,rfl⟩
theorem cl11:bI prog 11:=⟨f11,func11,rfl,rfl⟩
theorem cl25:bI prog 25:=⟨f25,func25,rfl,rfl⟩
theorem cl26:bI prog 26:=⟨f26,func26,rfl,rfl⟩
theorem cl27:bI prog 27:=⟨f27,func27,rfl,rfl⟩
theorem cl28:bI prog 28:=⟨f28,func28,rfl,rfl⟩
theorem cl29:bI prog 29:=⟨f29,func29,rfl,rfl⟩
theorem cl35:bI prog 35:=⟨f35,func35,rfl,rfl⟩
theorem cl36:bI prog 36:=⟨f36,func36,rfl,rfl⟩
theorem cl37:bI prog 37:=⟨f37,func37,rfl,rfl⟩
theorem cl38:bI prog 38:=⟨f38,func38,rfl,rfl⟩
theorem cl39:bI prog 39:=⟨f39,func39,rfl,rfl⟩
theorem cl44:bI prog 44:=⟨f44,func44,rfl,rfl⟩
theorem cl45:bI prog 45:=⟨f45,func45,rfl,rfl⟩
theorem cl46:bI prog 46:=⟨f46,func46,rfl,rfl⟩
theorem cl49:bI prog 49:=⟨f49,func49,rfl,rfl⟩
theorem cl52:bI prog 52:=⟨f52,func52,rfl,rfl⟩
theorem cl53:bI prog 53:=⟨f53,func53,rfl,rfl⟩
theorem cl54:bI prog 54:=⟨f54,func54,rfl,rfl⟩
theorem cl55:bI prog 55:=⟨f55,func55,rfl,rfl⟩
theorem cl56:bI prog 56:=⟨f56,func56,rfl,rfl⟩
theorem cl57:bI prog 57:=⟨f57,func57,rfl,rfl⟩
theorem cl58:bI prog 58:=⟨f58,func58,rfl,rfl⟩
theorem cl59:bI prog 59:=⟨f59,func59,rfl,rfl⟩
theorem cl60:bI prog 60:=⟨f60,func60,rfl,rfl⟩
theorem cl71:bI prog 71:=⟨f71,func71,rfl,rfl⟩
theorem cl75:bI prog 75:=⟨f75,func75,rfl,rfl⟩
theorem cl79:bI prog 79:=⟨f79,func79,rfl,rfl⟩
def la29:=LA.mk underlying29 ag29 ti29 (by decide)
def la30:=LA.mk underlying30 ag30 ti30 (by decide)
def la32:=LA.mk underlying32 ag32 ti32 (by decide)
def la37:=LA.mk underlying37 ag37 ti37 (by decide)
def la53:=LA.mk underlying53 ag53 ti53 (by decide)
abbrev v0 (x:aV):List D:=[.int .i64 x.Room,.int .i64 x.Keep,.slice false (x.Nodes.map aC.d),.slice false (x.Ended.map (eInt .i64).d)]
abbrev v1 (x:dD):List D:=[.int .u8 x.Kind,.int .i64 x.ID,.int .i64 x.Dep,.int .i64 x.Weight,.bool x.Only]
abbrev v2 (x:bH):List D:=[.slice false (x.Cells.map aZ.d),.int .i64 x.Free,.int .i64 x.Used]
abbrev v3 (x:aH):List D:=[.int .i64 x.ID,.int .i64 x.Parent,.int .i64 x.Weight,.bool x.Closed]
abbrev v4 (x:aK):List D:=[.bool x.Live,.int .i64 x.Value,.int .i64 x.Link]
abbrev v5 (x:gE):List D:=[.int .i64 x.dep,.int .i64 x.weight,.bool x.only]
abbrev q6 {a1:IntKind} {a2:Int} {a3:IntKind} {a4:Int} {a5:IntKind} {a6:Int} {a7:IntKind} {a8:Int} {a9:IntKind} {a10:Int} {a11:Bool}:List D:=[.int a1 a2,.int a3 a4,.int a5 a6,.int a7 a8,.int a9 a10,.bool a11]
abbrev q7 {a1:IntKind} {a2:Int} {a3:IntKind} {a4:Int} {a5:Bool} {a6:List D} {a7:IntKind} {a8:Int} {a9:IntKind} {a10:Int}:List D:=[.int a1 a2,.int a3 a4,.slice a5 a6,.int a7 a8,.int a9 a10]
abbrev q8 {a1:IntKind} {a2:Int} {a3:IntKind} {a4:Int} {a5:IntKind} {a6:Int} {a7:IntKind} {a8:Int} {a9:Bool}:List D:=[.int a1 a2,.int a3 a4,.int a5 a6,.int a7 a8,.bool a9]
abbrev q9 {a1:IntKind} {a2:Int} {a3:IntKind} {a4:Int} {a5:Bool} {a6:List D} {a7:Bool} {a8:List D}:List D:=[.int a1 a2,.int a3 a4,.slice a5 a6,.slice a7 a8]
abbrev q10 {a1:IntKind} {a2:Int} {a3:IntKind} {a4:Int} {a5:Nat} {a6:Nat} {a7:Nat} {a8:Nat} {a9:Nat} {a10:Nat}:List D:=[.int a1 a2,.int a3 a4,.osl a5 a6 a7,.osl a8 a9 a10]
abbrev q11 {a1:IntKind} {a2:Int} {a3:IntKind} {a4:Int} {a5:IntKind} {a6:Int} {a7:Bool}:List D:=[.int a1 a2,.int a3 a4,.int a5 a6,.bool a7]
abbrev q12 {a1:IntKind} {a2:Int} {a3:IntKind} {a4:Int}:List D:=[.int a1 a2,.int a3 a4,.nils,.nils]
abbrev q13 {a1:Bool} {a2:List D} {a3:IntKind} {a4:Int} {a5:IntKind} {a6:Int}:List D:=[.slice a1 a2,.int a3 a4,.int a5 a6]
abbrev q14 {a1:Nat} {a2:Nat} {a3:Nat} {a4:IntKind} {a5:Int} {a6:IntKind} {a7:Int}:List D:=[.osl a1 a2 a3,.int a4 a5,.int a6 a7]
abbrev q15 {a1:Nat} {a2:Nat} {a3:Nat} {a4:Nat} {a5:Nat} {a6:Nat}:List D:=[.ref a1 a2,.ref a3 a4,.ref a5 a6]
abbrev q16 {a1:IntKind} {a2:Int} {a3:IntKind} {a4:Int} {a5:Bool}:List D:=[.int a1 a2,.int a3 a4,.bool a5]
abbrev q17 {a1:Bool} {a2:IntKind} {a3:Int} {a4:IntKind} {a5:Int}:List D:=[.bool a1,.int a2 a3,.int a4 a5]
abbrev q18 {a1:IntKind} {a2:Int} {a3:IntKind} {a4:Int}:List D:=[.nils,.int a1 a2,.int a3 a4]
abbrev q19 {a1:IntKind} {a2:Int} {a3:Nat} {a4:Nat} {a5:Nat}:List D:=[.int a1 a2,.osl a3 a4 a5]
abbrev q20 {a1:Nat} {a2:Nat} {a3:Nat} {a4:Nat}:List D:=[.ref a1 a2,.ref a3 a4]
abbrev q21 {a1:IntKind} {a2:Int} {a3:Bool}:List D:=[.int a1 a2,.bool a3]
abbrev q22 {a1:Bool} {a2:List D} {a3:IntKind} {a4:Int} {a5:IntKind} {a6:Int} {a7:IntKind} {a8:Int} {a9:IntKind} {a10:Int}:List D:=[.agg [.slice a1 a2,.int a3 a4,.int a5 a6],.int a7 a8,.int a9 a10]
abbrev q23 {a1:Bool} {a2:List D} {a3:IntKind} {a4:Int} {a5:IntKind} {a6:Int} {a7:IntKind} {a8:Int}:List D:=[.agg [.slice a1 a2,.int a3 a4,.int a5 a6],.int a7 a8]
abbrev q24 {a1:IntKind} {a2:Int} {a3:IntKind} {a4:Int} {a5:Bool} {a6:List D} {a7:Bool} {a8:List D} {a9:IntKind} {a10:Int}:List D:=[.agg [.int a1 a2,.int a3 a4,.slice a5 a6,.slice a7 a8],.int a9 a10]
abbrev w25 (a0:Int) (a1:Int) (a2:List aH) (a3:List Int):List D:=[.int .i64 a0,.int .i64 a1,.slice false (a2.map aC.d),.slice false (a3.map (eInt .i64).d)]
abbrev w26 (a0:Int) (a1:Int) (a2:List aK) (a3:Int) (a4:Int):List D:=[.int .i64 a0,.int .i64 a1,.slice false (a2.map aZ.d),.int .i64 a3,.int .i64 a4]
abbrev w27 (a0:Int) (a1:Int) (a2:Int) (a3:Int) (a4:Bool):List D:=[.int .u8 a0,.int .i64 a1,.int .i64 a2,.int .i64 a3,.bool a4]
abbrev w28 (a0:Int) (a1:Int) (a2:Int) (a3:Bool):List D:=[.int .i64 a0,.int .i64 a1,.int .i64 a2,.bool a3]
abbrev w29 (a0:Int) (a1:Int) (a2:D) (a3:D):List D:=[.int .i64 a0,.int .i64 a1,a2,a3]


theorem mL (a0:(List aH)) (r:(List aH)) (h:dE a0=some r):FnH prog 52 [.slice false (a0.map aC.d)] [] (.osl 0 aC.sz r.length) [(0,.blk 53 (D.flat (r.map aC.d)))]:=by
 refine dB (rs:=[.osl 0 aC.sz r.length]) func52 M ntmps52 (nle M) fun O hO=>?_
 show IWP _ _ _ _ ⟨[(0,.slice false (a0.map aC.d))],[]⟩ _
 unfold dE at h
 refine aF (aA M (aG M M (lb M) (sv (d:=.nils) M))<|aD ?_)
 refine aT ?_
 refine aF (aA M (mvL M M M M)<|wG M M M (by decide) underlying29 (svL M) M <| fun bn1 hbn1 =>
  aD ?_)
 refine aR (b:=_) M (fun hc2=>?_) (fun hc2=>?_)
 ·
  replace h:=aAv h (mapE (hbn1 hc2))
  refine aF (aA M (aG M M (lb M) (sv (d:=.nils) M))<|aD ?_)
  refine aY ?_
  refine bG ?_
  obtain rfl:=sj_ h
  refine ⟨.inr M,(fun i=>if i=0 then 50 else i),⟨.nil,(.cons (.nilb M) .nil),bE [50] M (by decide),(fun i hi=>by first | rfl | (show (if _ then _ else _)=_; (repeat' split) <;> omega))⟩,(.cons (svno M) .nil),M⟩
 ·
  replace h:=aAw h
  refine aS ?_
  refine aM ?_
  obtain ⟨x3,hx3,h⟩:=aX h
  refine aF (aA M (lD aC.toEnc0 ([]:(List aH)) 0 M M (lb M) underlying29 ti53 M .nil M M (by decide))<|aA M (mvL M M M M)<|aA M (iH aC.toEnc0 1 M M (lb M) underlying29 ti53 M M M M M (aAY aC (ys:=a0) (svL M)) hx3)<|aA M (aG M M (lb M) (sv (d:=.osl _ _ _) M))<|aD ?_)
  refine aY ?_
  obtain rfl:=sj_ h
  refine ⟨.inr M,(fun i=>if i=0 then 1 else i),⟨.nil,(.cons (EntW.lst M) .nil),bE [1] M (by decide),(fun i hi=>by first | rfl | (show (if _ then _ else _)=_; (repeat' split) <;> omega))⟩,(.cons (sv M) .nil),M⟩

theorem pS (a0:(List Int)) (r:(List Int)) (h:gS a0=some r):FnH prog 53 [.slice false (a0.map (eInt .i64).d)] [] (.osl 0 (eInt .i64).sz r.length) [(0,.blk 3 (D.flat (r.map (eInt .i64).d)))]:=by
 refine dB (rs:=[.osl 0 (eInt .i64).sz r.length]) func53 M ntmps53 (nle M) fun O hO=>?_
 show IWP _ _ _ _ ⟨[(0,.slice false (a0.map (eInt .i64).d))],[]⟩ _
 unfold gS at h
 refine aF (aA M (aG M M (lb M) (sv (d:=.nils) M))<|aD ?_)
 refine aT ?_
 refine aF (aA M (mvL M M M M)<|wG M M M (by decide) underlying30 (svL M) M <| fun bn1 hbn1 =>
  aD ?_)
 refine aR (b:=_) M (fun hc2=>?_) (fun hc2=>?_)
 ·
  replace h:=aAv h (mapE (hbn1 hc2))
  refine aF (aA M (aG M M (lb M) (sv (d:=.nils) M))<|aD ?_)
  refine aY ?_
  refine bG ?_
  obtain rfl:=sj_ h
  refine ⟨.inr M,(fun i=>if i=0 then 50 else i),⟨.nil,(.cons (.nilb M) .nil),bE [50] M (by decide),(fun i hi=>by first | rfl | (show (if _ then _ else _)=_; (repeat' split) <;> omega))⟩,(.cons (svno M) .nil),M⟩
 ·
  replace h:=aAw h
  refine aS ?_
  refine aM ?_
  obtain ⟨x3,hx3,h⟩:=aX h
  refine aF (aA M (lD (eInt .i64).toEnc0 ([]:(List Int)) 0 M M (lb M) underlying30 ti3 M .nil M M (by decide))<|aA M (mvL M M M M)<|aA M (iH (eInt .i64).toEnc0 1 M M (lb M) underlying30 ti3 M M M M M (aAY (eInt .i64) (ys:=a0) (svL M)) hx3)<|aA M (aG M M (lb M) (sv (d:=.osl _ _ _) M))<|aD ?_)
  refine aY ?_
  obtain rfl:=sj_ h
  refine ⟨.inr M,(fun i=>if i=0 then 1 else i),⟨.nil,(.cons (EntW.lst M) .nil),bE [1] M (by decide),(fun i hi=>by first | rfl | (show (if _ then _ else _)=_; (repeat' split) <;> omega))⟩,(.cons (sv M) .nil),M⟩

theorem sO (a0:aV) (r:(Int × Int × (List aH) × (List Int))) (h:lU a0=some r):FnH prog 25 [.agg (v0 a0)] [] (.agg (w29 r.1 r.2.1 (.osl 0 aC.sz r.2.2.1.length) (.osl 1 (eInt .i64).sz r.2.2.2.length))) [(0,.blk 53 (D.flat (r.2.2.1.map aC.d))),(1,.blk 3 (D.flat (r.2.2.2.map (eInt .i64).d)))]:=by
 refine dB (rs:=[.agg (w29 r.1 r.2.1 (.osl 0 aC.sz r.2.2.1.length) (.osl 1 (eInt .i64).sz r.2.2.2.length))]) func25 M ntmps25 (nle M) fun O hO=>?_
 show IWP _ _ _ _ ⟨[(0,.agg (v0 a0))],[]⟩ _
 unfold lU at h
 refine aF (aA M (cK (cs:=q9) 0 M M (lb M) M (svA q9 M) M M)<|aA M (cT (cs:=q12) (cs':=(w25 0 0 ([]:List aH) ([]:List Int))) 1 M M (lb M) M ti32 M M (.k (.k (.cons (.nils _) (.cons (.nils _) .nil)))))<|aD ?_)
 obtain ⟨x1,hx1,h⟩:=aX h
 obtain ⟨x2,hx2,h⟩:=aX h
 refine iR M [⟨[1],[],[(3,.ref 0 2)],[]⟩,
  ⟨[3],[0],[(4,.slice false (a0.Nodes.map aC.d))],[]⟩,
  ⟨[4],[2],[(5,.osl 2 aC.sz x1.length)],[(2,.blk 53 (D.flat (x1.map aC.d)))]⟩,
  ⟨[1],[],[(6,.ref 0 3)],[]⟩,
  ⟨[6],[0],[(7,.slice false (a0.Ended.map (eInt .i64).d))],[]⟩,
  ⟨[7],[3],[(8,.osl 3 (eInt .i64).sz x2.length)],[(3,.blk 3 (D.flat (x2.map (eInt .i64).d)))]⟩,
  ⟨[1],[],[(9,.ref 0 2)],[]⟩,
  ⟨[5,9],[0],[],[(0,.blk 32 [.int .i64 a0.Room,.int .i64 a0.Keep,.osl 2 aC.sz x1.length,.slice false (a0.Ended.map (eInt .i64).d)])]⟩,
  ⟨[1],[],[(10,.ref 0 3)],[]⟩,
  ⟨[8,10],[0],[],[(0,.blk 32 (w29 a0.Room a0.Keep (.osl 2 aC.sz x1.length) (.osl 3 (eInt .i64).sz x2.length)))]⟩] M ?_ (by kernel_rfl) ?_
 ·refine .cons (lop M M fun S hA=>(aP M M (lb M) underlying32 M ti29 (by decide) (svaR hA M M) (off':=2) M)) ?_
  refine .cons (lop M M fun S hA=>(aI (d:=.slice _ _) M M (lb M) underlying29 ag29 ti29 (by decide) (svaR hA M M) (agi hA M M) (nle M) M)) ?_
  refine .cons (lop M M fun S hA=>(mI (r':=.osl 2 aC.sz x1.length) (U:=[(2,.blk 53 (D.flat (x1.map aC.d)))]) 2 1 [] M M (lb M) cl52 (.cons (svaL hA M M) .nil) M M M (List.forall_mem_cons.2 ⟨(agi hA M M),List.forall_mem_nil _⟩) ⟨by decide,M,List.forall_mem_nil _⟩ (mL _ _ hx1) M M (List.forall_mem_cons.2 ⟨⟨M,(bP aC)⟩,List.forall_mem_nil _⟩) (by simp only [List.map_cons,List.map_nil,Ent.ren,bT,cE]; rfl))) ?_
  refine .cons (lop M M fun S hA=>(aP M M (lb M) underlying32 M ti30 (by decide) (svaR hA M M) (off':=3) M)) ?_
  refine .cons (lop M M fun S hA=>(aI (d:=.slice _ _) M M (lb M) underlying30 ag30 ti30 (by decide) (svaR hA M M) (agi hA M M) (nle M) M)) ?_
  refine .cons (lop M M fun S hA=>(mI (r':=.osl 3 (eInt .i64).sz x2.length) (U:=[(3,.blk 3 (D.flat (x2.map (eInt .i64).d)))]) 3 1 [] M M (lb M) cl53 (.cons (svaL hA M M) .nil) M M M (List.forall_mem_cons.2 ⟨(agi hA M M),List.forall_mem_nil _⟩) ⟨by decide,M,List.forall_mem_nil _⟩ (pS _ _ hx2) M M (List.forall_mem_cons.2 ⟨⟨M,(bP (eInt .i64))⟩,List.forall_mem_nil _⟩) (by simp only [List.map_cons,List.map_nil,Ent.ren,bT,cE]; rfl))) ?_
  refine .cons (lop M M fun S hA=>(aP M M (lb M) underlying32 M ti29 (by decide) (svaR hA M M) (off':=2) M)) ?_
  refine .cons (lop M M fun S hA=>(dZ (ds':=[.int _ _,.int _ _,.osl _ _ _,.slice _ _]) M M ti29 (svaR hA M M) (agi hA M M) (sv (d:=.osl _ _ _) (agr hA M M)) M M M (nle M) M)) ?_
  refine .cons (lop M M fun S hA=>(aP M M (lb M) underlying32 M ti30 (by decide) (svaR hA M M) (off':=3) M)) ?_
  refine .cons (lop M M fun S hA=>(dZ (ds':=q10) M M ti30 (svaR hA M M) (agi hA M M) (sv (d:=.osl _ _ _) (agr hA M M)) M M M (nle M) M)) ?_
  exact .nil
 refine aF (aA M (lra q10 la32 M M M M M (nle M) M)<|aA M (stA q10 q10 ti32 M M M M M M M M (nle M) M)<|aD ?_)
 refine aY ?_
 obtain rfl:=sj_ h
 refine ⟨.inr M,(fun i=>if i=0 then 2 else if i=1 then 3 else i),⟨.nil,(.cons (EntW.lst M) (.cons (EntW.lst M) .nil)),bE [2,3] M (by decide),(fun i hi=>by first | rfl | (show (if _ then _ else _)=_; (repeat' split) <;> omega))⟩,(.cons (rva la32 M M (nle M) M) .nil),M⟩

theorem uC (a0:aH) (r:Bool) (h:oK a0=some r):eK prog 36 [.agg (v3 a0)] (.bool r):=by
 refine bW (rs:=[.bool r]) func36 M ntmps36 (nle M) M fun O hO=>?_
 show IWP _ _ _ _ ⟨[(0,.agg (v3 a0))],[]⟩ _
 unfold oK at h
 refine aF (aA M (cK (cs:=q11) 0 M M (lb M) M (svA q11 M) M M)<|aA M (aG M M (lb M) (sv (d:=.bool false) M))<|aD ?_)
 obtain ⟨x1,hx1,h⟩:=bC h
 obtain ⟨x2,hx2,h⟩:=bC h
 obtain ⟨x3,hx3,h⟩:=bC h
 obtain ⟨x4,hx4,h⟩:=bC h
 obtain ⟨x5,hx5,h⟩:=bC h
 obtain ⟨x6,hx6,h⟩:=bC h
 obtain ⟨x7,hx7,h⟩:=bC h
 refine aF (aA M (faR 0 M M M underlying53 M ti3 (lb M) M M)<|aA M (aI (d:=.int _ _) M M (lb M) underlying3 ag3 ti3 (by decide) (svR M) M (nle M) M)<|aA M (aQ M M (lb M) (svI M) (sv (d:=.int _ 1) M) M hx1)<|aA M (mvB M M M M)<|aN M M (.one M) M (by decide) (fun hb=>(faR 0 M M M underlying53 M ti3 (lb M) M M))<|aN M M (.one M) M (by decide) (fun hb=>(aI (d:=.int _ _) M M (lb M) underlying3 ag3 ti3 (by decide) (svcR M hb) M (nle M) M))<|aN M M (.one M) M (by decide) (fun hb=>(aQ M M (lb M) (svcI M hb) (sv (d:=.int _ 1048576) M) M hx2))<|aA M (kL M M (lb M) (svB M) M M hx3)<|aA M (mvB M M M M)<|aN M M (.one M) M (by decide) (fun hb=>(faR 2 M M M underlying53 M ti3 (lb M) M M))<|aN M M (.one M) M (by decide) (fun hb=>(aI (d:=.int _ _) M M (lb M) underlying3 ag3 ti3 (by decide) (svcR M hb) M (nle M) M))<|aN M M (.one M) M (by decide) (fun hb=>(aQ M M (lb M) (svcI M hb) (sv (d:=.int _ 1) M) M hx4))<|aA M (kL M M (lb M) (svB M) M M hx5)<|aA M (mvB M M M M)<|aN M M (.one M) M (by decide) (fun hb=>(faR 2 M M M underlying53 M ti3 (lb M) M M))<|aN M M (.one M) M (by decide) (fun hb=>(aI (d:=.int _ _) M M (lb M) underlying3 ag3 ti3 (by decide) (svcR M hb) M (nle M) M))<|aN M M (.one M) M (by decide) (fun hb=>(aQ M M (lb M) (svcI M hb) (sv (d:=.int _ 256) M) M hx6))<|aA M (kL M M (lb M) (svB M) M M hx7)<|aA M (asB M M M M)<|aD ?_)
 refine aY ?_
 obtain rfl:=sj_ h
 refine ⟨.inr M,(.cons (sv M) .nil)⟩

theorem lF (a0:(List aH)) (r:Int) (h:dU a0=some r):eK prog 71 [.slice false (a0.map aC.d),.fn 36 []] (.int .i64 r):=by
 refine bW (rs:=[.int .i64 r]) func71 M ntmps71 (nle M) M fun O hO=>?_
 show IWP _ _ _ _ ⟨[(0,.slice false (a0.map aC.d)),(1,.fn 36 [])],[]⟩ _
 unfold dU at h
 refine aF (aA M (aG M M (lb M) (sv (d:=.int _ 0) M))<|aD ?_)
 refine aT ?_
 refine aF (aA M (mvL M M M M)<|aA M (cV aC (l:=a0) M M (lb M) underlying29 (svL M))<|aA M (aO M M (lb M) (sv (d:=.int _ 0) M))<|aD ?_)
 refine bB ?_
 refine cP (α:=Nat × Int) (fun z=>⟨[(0,.slice false (a0.map aC.d)),(1,.fn 36 []),(7,.int .i64 (a0.length:Int)),(8,.int .i64 z.2)],[]⟩) (fun z=>cF a0 z.1 z.2=some r) (fun z=>z.1) (fuel,0) (fun i=>i) ⟨(.sames M M),.nil,bE [] M (by decide),fun _ _=>M⟩ ?_ ?_
 ·exact h
 ·
  rintro ⟨n0,v7⟩ h
  cases n0 with
  | zero=>exact absurd h (by unfold cF; exact nofun)
  | succ n0 =>
   unfold cF at h
   obtain ⟨x14,hx14,h⟩:=bC h
   refine aF (aA M (aQ M M (lb M) (svI M) (svI M) M hx14)<|aD ?_)
   refine aT ?_
   refine aR (b:=_) M (fun hc15=>?_) (fun hc15=>?_)
   ·
    replace h:=cA h hc15
    refine aS ?_
    refine aM ?_
    refine aT ?_
    refine bB ?_
    refine aF (aA M (mvI M M M M)<|aA M (asI M M M M)<|aD ?_)
    obtain ⟨x16,hx16,h⟩:=aX h
    obtain ⟨x17,hx17,h⟩:=aX h
    refine aF (aA M (aO M M (lb M) (sv (d:=.fn 36 []) M))<|aA M (mvL M M M M)<|aA M (mvI M M M M)<|aA M (dW aC (cs:=q11) M M (lb M) underlying29 ti53 (svL M) (svI M) hx16 M M)<|aA M (fD (cs:=q11) M M (lb M) underlying53 ag53 ti53 (by decide) (sv (d:=.fptr q11) M) (nle M) M)<|aA M (pW (r:=.bool _) M M (lb M) cl36 (sv (d:=.fn 36 []) M) (.cons (svA q11 M) .nil) M (uC _ _ hx17))<|aD ?_)
    refine aR (b:=_) M (fun hc18=>?_) (fun hc18=>?_)
    ·
     replace h:=cA h hc18
     refine aF (aA M (mvI M M M M)<|aA M (asI M M M M)<|aD ?_)
     refine aY ?_
     refine cO ?_
     refine bG ?_
     refine bG ?_
     refine cO ?_
     refine bG ?_
     obtain rfl:=sj_ h
     refine ⟨.inr M,(.cons (sv M) .nil)⟩
    ·
     replace h:=cB h hc18
     refine aS ?_
     refine bJ ?_
     refine aM ?_
     obtain ⟨x19,hx19,h⟩:=bC h
     refine bA (aA M (bO M M (lb M) (svI M) (sv (d:=.int _ 1) M) M hx19)<|aA M (mvI M M M M)<|bL ?_)
     refine aM ⟨(n0,x19),(fun i=>i),⟨(.sames M M),.nil,bE [] M (by decide),fun _ _=>M⟩,?_,?_⟩
     exact h
     exact Nat.lt_succ_self _
   ·
    replace h:=cB h hc15
    refine cU ?_
    refine bK ?_
    refine bK ?_
    refine cW ?_
    refine aM ?_
    refine aF (aA M (aG M M (lb M) (sv (d:=.int _ (-1)) M))<|aD ?_)
    refine aY ?_
    obtain rfl:=sj_ h
    refine ⟨.inr M,(.cons (sv M) .nil)⟩

theorem kJ (a0:(List aH)) (r:Bool) (h:cH a0=some r):eK prog 35 [.slice false (a0.map aC.d),.fn 36 []] (.bool r):=by
 refine bW (rs:=[.bool r]) func35 M ntmps35 (nle M) M fun O hO=>?_
 show IWP _ _ _ _ ⟨[(0,.slice false (a0.map aC.d)),(1,.fn 36 [])],[]⟩ _
 unfold cH at h
 refine aF (aA M (aG M M (lb M) (sv (d:=.bool false) M))<|aD ?_)
 obtain ⟨x1,hx1,h⟩:=aX h
 obtain ⟨x2,hx2,h⟩:=bC h
 refine aF (aA M (mvL M M M M)<|aA M (aO M M (lb M) (sv (d:=.fn 36 []) M))<|aA M (bU (r:=.int _ _) M M (lb M) cl71 (.cons (svL M) (.cons (sv (d:=.fn 36 []) M) .nil)) M (lF _ _ hx1))<|aA M (aQ M M (lb M) (svI M) (sv (d:=.int _ 0) M) M hx2)<|aA M (asB M M M M)<|aD ?_)
 refine aY ?_
 obtain rfl:=sj_ h
 refine ⟨.inr M,(.cons (sv M) .nil)⟩

theorem oQ (a0:aH) (a1:Int) (r:Int) (h:hD a0 a1=some r):eK prog 57 [.agg (v3 a0),.int .i64 a1] (.int .i64 r):=by
 refine bW (rs:=[.int .i64 r]) func57 M ntmps57 (nle M) M fun O hO=>?_
 show IWP _ _ _ _ ⟨[(0,.agg (v3 a0)),(1,.int .i64 a1)],[]⟩ _
 unfold hD at h
 refine aF (aA M (cK (cs:=q11) 0 M M (lb M) M (svA q11 M) M M)<|aA M (aG M M (lb M) (sv (d:=.int _ 0) M))<|aD ?_)
 obtain ⟨x1,hx1,h⟩:=bC h
 refine aF (aA M (faR 0 M M M underlying53 M ti3 (lb M) M M)<|aA M (aI (d:=.int _ _) M M (lb M) underlying3 ag3 ti3 (by decide) (svR M) M (nle M) M)<|aA M (mvI M M M M)<|aA M (bO M M (lb M) (svI M) (svI M) M hx1)<|aA M (asI M M M M)<|aD ?_)
 refine aY ?_
 obtain rfl:=sj_ h
 refine ⟨.inr M,(.cons (sv M) .nil)⟩

theorem iW (a0:(List aH)) (a1:Int) (r:(Int × Bool)) (h:cD a0 a1=some r):eK prog 56 [.slice false (a0.map aC.d),.int .i64 a1,.fn 57 []] (retD [.int .i64 r.1,.bool r.2]):=by
 refine bW (rs:=[.int .i64 r.1,.bool r.2]) func56 M ntmps56 (nle M) M fun O hO=>?_
 show IWP _ _ _ _ ⟨[(0,.slice false (a0.map aC.d)),(1,.int .i64 a1),(2,.fn 57 [])],[]⟩ _
 unfold cD at h
 refine aF (aA M (aG M M (lb M) (sv (d:=.int _ 0) M))<|aA M (aG M M (lb M) (sv (d:=.bool false) M))<|aD ?_)
 refine aF (aA M (mvL M M M M)<|aA M (cV aC (l:=a0) M M (lb M) underlying29 (svL M))<|aA M (asI M M M M)<|aD ?_)
 refine aF (aA M (mvI M M M M)<|aA M (aG M M (lb M) (sv (d:=.int _ 0) M))<|aA M (asI M M M M)<|aD ?_)
 refine aT ?_
 refine bB ?_
 refine cP (α:=Nat × Int × Int) (fun z=>⟨[(0,.slice false (a0.map aC.d)),(1,.int .i64 a1),(2,.fn 57 []),(8,.int .i64 (a0.length:Int)),(9,.int .i64 z.2.1),(10,.int .i64 z.2.2)],[]⟩) (fun z=>bF a0 a1 z.1 z.2.1 z.2.2=some r) (fun z=>z.1) (fuel,0,(a0.length:Int)) (fun i=>i) ⟨(.sames M M),.nil,bE [] M (by decide),fun _ _=>M⟩ ?_ ?_
 ·exact h
 ·
  rintro ⟨n0,v12,v13⟩ h
  cases n0 with
  | zero=>exact absurd h (by unfold bF; exact nofun)
  | succ n0 =>
   unfold bF at h
   refine aT ?_
   obtain ⟨x25,hx25,h⟩:=bC h
   refine aF (aA M (mvI M M M M)<|aA M (mvI M M M M)<|aA M (aQ M M (lb M) (svI M) (svI M) M hx25)<|aD ?_)
   refine aR (b:=_) M (fun hc26=>?_) (fun hc26=>?_)
   ·
    replace h:=cA h hc26
    refine aS ?_
    refine aM ?_
    refine bB ?_
    obtain ⟨x27,hx27,h⟩:=bC h
    obtain ⟨x28,hx28,h⟩:=bC h
    obtain ⟨x29,hx29,h⟩:=aX h
    obtain ⟨x30,hx30,h⟩:=bC h
    refine aF (aA M (mvI M M M M)<|aA M (mvI M M M M)<|aA M (bO M M (lb M) (svI M) (svI M) M hx27)<|aA M (pE M M (lb M) ⟨_,underlying3⟩ underlying117 (svI M) hx28)<|aA M (aDZ M M (lb M) (svI M) (sv (d:=.int _ 1) M) hx29)<|aA M (pE M M (lb M) ⟨_,underlying117⟩ underlying3 (svI M) hx30)<|aA M (asI M M M M)<|aD ?_)
    obtain ⟨x31,hx31,h⟩:=aX h
    obtain ⟨x32,hx32,h⟩:=aX h
    obtain ⟨x33,hx33,h⟩:=bC h
    refine aF (aA M (aO M M (lb M) (sv (d:=.fn 57 []) M))<|aA M (mvL M M M M)<|aA M (mvI M M M M)<|aA M (dW aC (cs:=q11) M M (lb M) underlying29 ti53 (svL M) (svI M) hx31 M M)<|aA M (fD (cs:=q11) M M (lb M) underlying53 ag53 ti53 (by decide) (sv (d:=.fptr q11) M) (nle M) M)<|aA M (mvI M M M M)<|aA M (pW (r:=.int _ _) M M (lb M) cl57 (sv (d:=.fn 57 []) M) (.cons (svA q11 M) (.cons (svI M) .nil)) M (oQ _ _ _ hx32))<|aA M (aQ M M (lb M) (svI M) (sv (d:=.int _ 0) M) M hx33)<|aD ?_)
    refine aR (b:=_) M (fun hc34=>?_) (fun hc34=>?_)
    ·
     replace h:=cA h hc34
     obtain ⟨x35,hx35,h⟩:=bC h
     refine bA (aA M (mvI M M M M)<|aA M (bO M M (lb M) (svI M) (sv (d:=.int _ 1) M) M hx35)<|aA M (asI M M M M)<|bL ?_)
     refine bJ ?_
     refine aM ⟨(n0,x35,v13),(fun i=>i),⟨(.sames M M),.nil,bE [] M (by decide),fun _ _=>M⟩,?_,?_⟩
     exact h
     exact Nat.lt_succ_self _
    ·
     replace h:=cB h hc34
     refine bA (aA M (mvI M M M M)<|aA M (asI M M M M)<|bL ?_)
     refine bJ ?_
     refine aM ⟨(n0,v12,x30),(fun i=>i),⟨(.sames M M),.nil,bE [] M (by decide),fun _ _=>M⟩,?_,?_⟩
     exact h
     exact Nat.lt_succ_self _
   ·
    replace h:=cB h hc26
    refine cU ?_
    refine bK ?_
    refine bK ?_
    refine cW ?_
    refine aM ?_
    obtain ⟨x36,hx36,h⟩:=bC h
    obtain ⟨x37,hx37,h⟩:=aX h
    obtain ⟨x38,hx38,h⟩:=aX h
    obtain ⟨x39,hx39,h⟩:=bC h
    obtain ⟨x40,hx40,h⟩:=bC h
    refine aF (aA M (mvI M M M M)<|aA M (mvI M M M M)<|aA M (mvI M M M M)<|aA M (aQ M M (lb M) (svI M) (svI M) M hx36)<|aA M (mvB M M M M)<|aN M M (.one M) M (by decide) (fun hb=>(aO M M (lb M) (sv (d:=.fn 57 []) M)))<|aN M M (.one M) M (by decide) (fun hb=>(mvL M M M M))<|aN M M (.one M) M (by decide) (fun hb=>(mvI M M M M))<|aN M M (.one M) M (by decide) (fun hb=>(dW aC (cs:=q11) M M (lb M) underlying29 ti53 (svcL M hb) (svcI M hb) (gd_t hx37 hb) M M))<|aN M M (.one M) M (by decide) (fun hb=>(fD (cs:=q11) M M (lb M) underlying53 ag53 ti53 (by decide) (svc (d:=.fptr q11) M hb) (nle M) M))<|aN M M (.one M) M (by decide) (fun hb=>(mvI M M M M))<|aN M M (.one M) M (by decide) (fun hb=>(pW (r:=.int _ _) M M (lb M) cl57 (svc (d:=.fn 57 []) M hb) (.cons (svcA (v3 x37) M hb) (.cons (svcI M hb) .nil)) M (oQ _ _ _ (gd_t hx38 hb))))<|aN M M (.one M) M (by decide) (fun hb=>(aQ M M (lb M) (svcI M hb) (sv (d:=.int _ 0) M) M hx39))<|aA M (fE M M (lb M) (svB M) M M hx40)<|aA M (asI M M M M)<|aA M (asB M M M M)<|aD ?_)
    refine aY ?_
    obtain rfl:=sj_ h
    refine ⟨.inr M,(.cons (sv M) (.cons (sv M) .nil))⟩

theorem fC (a0:aV) (a1:Int) (r:(Int × Bool)) (h:dA a0 a1=some r):eK prog 28 [.agg (v0 a0),.int .i64 a1] (retD [.int .i64 r.1,.bool r.2]):=by
 refine bW (rs:=[.int .i64 r.1,.bool r.2]) func28 M ntmps28 (nle M) M fun O hO=>?_
 show IWP _ _ _ _ ⟨[(0,.agg (v0 a0)),(1,.int .i64 a1)],[]⟩ _
 unfold dA at h
 refine aF (aA M (cK (cs:=q9) 0 M M (lb M) M (svA q9 M) M M)<|aA M (aG M M (lb M) (sv (d:=.int _ 0) M))<|aA M (aG M M (lb M) (sv (d:=.bool false) M))<|aD ?_)
 obtain ⟨x1,hx1,h⟩:=aX h
 refine aF (aA M (faR 2 M M M underlying32 M ti29 (lb M) M M)<|aA M (lrL la29 M M M M M (nle M) M)<|aA M (mvI M M M M)<|aA M (bU (r:=.tuple q21) M M (lb M) cl56 (.cons (svL M) (.cons (svI M) (.cons (sv (d:=.fn 57 []) M) .nil))) M (iW _ _ _ hx1))<|aA M (bQ (d:=.int _ _) M M (lb M) (sv (d:=.tuple q21) M) M)<|aA M (bQ (d:=.bool _) M M (lb M) (sv (d:=.tuple q21) M) M)<|aA M (asI M M M M)<|aA M (asB M M M M)<|aD ?_)
 refine aY ?_
 obtain rfl:=sj_ h
 refine ⟨.inr M,(.cons (sv M) (.cons (sv M) .nil))⟩

theorem tO (a0:aV) (a1:aH) (r:Bool) (h:mJ a0 a1=some r):eK prog 37 [.agg (v0 a0),.agg (v3 a1)] (.bool r):=by
 refine bW (rs:=[.bool r]) func37 M ntmps37 (nle M) M fun O hO=>?_
 show IWP _ _ _ _ ⟨[(0,.agg (v0 a0)),(1,.agg (v3 a1))],[]⟩ _
 unfold mJ at h
 refine aF (aA M (cK (cs:=q9) 0 M M (lb M) M (svA q9 M) M M)<|aA M (cK (cs:=q11) 1 M M (lb M) M (svA q11 M) M M)<|aA M (aG M M (lb M) (sv (d:=.bool false) M))<|aD ?_)
 obtain ⟨x1,hx1,h⟩:=aX h
 refine aF (aA M (lra q9 la32 M M M M M (nle M) M)<|aA M (faR 1 M M M underlying53 M ti3 (lb M) M M)<|aA M (aI (d:=.int _ _) M M (lb M) underlying3 ag3 ti3 (by decide) (svR M) M (nle M) M)<|aA M (bU (r:=.tuple q21) M M (lb M) cl28 (.cons (svA q9 M) (.cons (svI M) .nil)) M (fC _ _ _ hx1))<|aA M (aO M M (lb M) (sv (d:=.tuple q21) M))<|aA M (bQ (d:=.int _ _) M M (lb M) (sv (d:=.tuple q21) M) M)<|aA M (bQ (d:=.bool _) M M (lb M) (sv (d:=.tuple q21) M) M)<|aA M (asI M M M M)<|aA M (asB M M M M)<|aD ?_)
 obtain ⟨x2,hx2,h⟩:=bC h
 obtain ⟨x3,hx3,h⟩:=bC h
 refine aF (aA M (faR 1 M M M underlying53 M ti3 (lb M) M M)<|aA M (aI (d:=.int _ _) M M (lb M) underlying3 ag3 ti3 (by decide) (svR M) M (nle M) M)<|aA M (aQ M M (lb M) (svI M) (sv (d:=.int _ 0) M) M hx2)<|aA M (mvB M M M M)<|aN M M (.one M) M (by decide) (fun hb=>(mvB M M M M))<|aN M M (.one M) M (by decide) (fun hb=>(gD M M (lb M) (svcB M hb)))<|aA M (fE M M (lb M) (svB M) M M hx3)<|aA M (asB M M M M)<|aD ?_)
 refine aY ?_
 obtain rfl:=sj_ h
 refine ⟨.inr M,(.cons (sv M) .nil)⟩

theorem lM (a0:(List aH)) (a1:aV) (r:Int) (h:eB a0 a1=some r):eK prog 71 [.slice false (a0.map aC.d),.mv 37 [.agg (v0 a1)]] (.int .i64 r):=by
 refine bW (rs:=[.int .i64 r]) func71 M ntmps71 (nle M) M fun O hO=>?_
 show IWP _ _ _ _ ⟨[(0,.slice false (a0.map aC.d)),(1,.mv 37 [.agg (v0 a1)])],[]⟩ _
 unfold eB at h
 refine aF (aA M (aG M M (lb M) (sv (d:=.int _ 0) M))<|aD ?_)
 refine aT ?_
 refine aF (aA M (mvL M M M M)<|aA M (cV aC (l:=a0) M M (lb M) underlying29 (svL M))<|aA M (aO M M (lb M) (sv (d:=.int _ 0) M))<|aD ?_)
 refine bB ?_
 refine cP (α:=Nat × Int) (fun z=>⟨[(0,.slice false (a0.map aC.d)),(1,.mv 37 [.agg (v0 a1)]),(7,.int .i64 (a0.length:Int)),(8,.int .i64 z.2)],[]⟩) (fun z=>cI a0 a1 z.1 z.2=some r) (fun z=>z.1) (fuel,0) (fun i=>i) ⟨(.sames M M),.nil,bE [] M (by decide),fun _ _=>M⟩ ?_ ?_
 ·exact h
 ·
  rintro ⟨n0,v7⟩ h
  cases n0 with
  | zero=>exact absurd h (by unfold cI; exact nofun)
  | succ n0 =>
   unfold cI at h
   obtain ⟨x14,hx14,h⟩:=bC h
   refine aF (aA M (aQ M M (lb M) (svI M) (svI M) M hx14)<|aD ?_)
   refine aT ?_
   refine aR (b:=_) M (fun hc15=>?_) (fun hc15=>?_)
   ·
    replace h:=cA h hc15
    refine aS ?_
    refine aM ?_
    refine aT ?_
    refine bB ?_
    refine aF (aA M (mvI M M M M)<|aA M (asI M M M M)<|aD ?_)
    obtain ⟨x16,hx16,h⟩:=aX h
    obtain ⟨x17,hx17,h⟩:=aX h
    refine aF (aA M (aO M M (lb M) (sv (d:=.mv 37 [.agg q9]) M))<|aA M (mvL M M M M)<|aA M (mvI M M M M)<|aA M (dW aC (cs:=q11) M M (lb M) underlying29 ti53 (svL M) (svI M) hx16 M M)<|aA M (fD (cs:=q11) M M (lb M) underlying53 ag53 ti53 (by decide) (sv (d:=.fptr q11) M) (nle M) M)<|aA M (wD (r:=.bool _) M M (lb M) cl37 (sv (d:=.mv 37 [.agg q9]) M) (.cons (svA q11 M) .nil) M (tO _ _ _ hx17))<|aD ?_)
    refine aR (b:=_) M (fun hc18=>?_) (fun hc18=>?_)
    ·
     replace h:=cA h hc18
     refine aF (aA M (mvI M M M M)<|aA M (asI M M M M)<|aD ?_)
     refine aY ?_
     refine cO ?_
     refine bG ?_
     refine bG ?_
     refine cO ?_
     refine bG ?_
     obtain rfl:=sj_ h
     refine ⟨.inr M,(.cons (sv M) .nil)⟩
    ·
     replace h:=cB h hc18
     refine aS ?_
     refine bJ ?_
     refine aM ?_
     obtain ⟨x19,hx19,h⟩:=bC h
     refine bA (aA M (bO M M (lb M) (svI M) (sv (d:=.int _ 1) M) M hx19)<|aA M (mvI M M M M)<|bL ?_)
     refine aM ⟨(n0,x19),(fun i=>i),⟨(.sames M M),.nil,bE [] M (by decide),fun _ _=>M⟩,?_,?_⟩
     exact h
     exact Nat.lt_succ_self _
   ·
    replace h:=cB h hc15
    refine cU ?_
    refine bK ?_
    refine bK ?_
    refine cW ?_
    refine aM ?_
    refine aF (aA M (aG M M (lb M) (sv (d:=.int _ (-1)) M))<|aD ?_)
    refine aY ?_
    obtain rfl:=sj_ h
    refine ⟨.inr M,(.cons (sv M) .nil)⟩

theorem kT (a0:(List aH)) (a1:aV) (r:Bool) (h:bY a0 a1=some r):eK prog 35 [.slice false (a0.map aC.d),.mv 37 [.agg (v0 a1)]] (.bool r):=by
 refine bW (rs:=[.bool r]) func35 M ntmps35 (nle M) M fun O hO=>?_
 show IWP _ _ _ _ ⟨[(0,.slice false (a0.map aC.d)),(1,.mv 37 [.agg (v0 a1)])],[]⟩ _
 unfold bY at h
 refine aF (aA M (aG M M (lb M) (sv (d:=.bool false) M))<|aD ?_)
 obtain ⟨x1,hx1,h⟩:=aX h
 obtain ⟨x2,hx2,h⟩:=bC h
 refine aF (aA M (mvL M M M M)<|aA M (aO M M (lb M) (sv (d:=.mv 37 [.agg q9]) M))<|aA M (bU (r:=.int _ _) M M (lb M) cl71 (.cons (svL M) (.cons (sv (d:=.mv 37 [.agg q9]) M) .nil)) M (lM _ _ _ hx1))<|aA M (aQ M M (lb M) (svI M) (sv (d:=.int _ 0) M) M hx2)<|aA M (asB M M M M)<|aD ?_)
 refine aY ?_
 obtain rfl:=sj_ h
 refine ⟨.inr M,(.cons (sv M) .nil)⟩

theorem lR (a0:aV) (a1:Int) (r:(List Int)) (h:iS a0 a1=some r):FnH prog 45 [.agg (v0 a0),.int .i64 a1] [] (.osl 0 (eInt .i64).sz r.length) [(0,.blk 3 (D.flat (r.map (eInt .i64).d)))]:=by
 refine dB (rs:=[.osl 0 (eInt .i64).sz r.length]) func45 M ntmps45 (nle M) fun O hO=>?_
 show IWP _ _ _ _ ⟨[(0,.agg (v0 a0)),(1,.int .i64 a1)],[]⟩ _
 unfold iS at h
 refine aF (aA M (cK (cs:=q9) 0 M M (lb M) M (svA q9 M) M M)<|aA M (aG M M (lb M) (sv (d:=.nils) M))<|aD ?_)
 refine aF (aA M (aG M M (lb M) (sv (d:=.nils) M))<|aD ?_)
 refine aT ?_
 refine aF (aA M (faR 2 M M M underlying32 M ti29 (lb M) M M)<|aA M (lrL la29 M M M M M (nle M) M)<|aA M (cV aC (l:=a0.Nodes) M M (lb M) underlying29 (svL M))<|aA M (aO M M (lb M) (sv (d:=.int _ 0) M))<|aD ?_)
 refine bB ?_
 refine cP (α:=Nat × Int × (List Int) × Int) (fun z=>⟨[(1,.int .i64 z.2.1),(2,.ref 0 0),(5,.osl 22 (eInt .i64).sz z.2.2.1.length),(10,.int .i64 (a0.Nodes.length:Int)),(11,.int .i64 z.2.2.2)],[(0,.blk 32 (v0 a0)),(22,.blk 3 (D.flat (z.2.2.1.map (eInt .i64).d)))]⟩) (fun z=>fT a0 z.1 z.2.1 z.2.2.1 z.2.2.2=some r) (fun z=>z.1) (fuel,a1,([]:(List Int)),0) (fun i=>if i=22 then 73 else i) ⟨(.s M M (.s M M (.cons (.nilo M) (.sames M M)))),(.cons (.blk M M M) (.cons (.nilb M) .nil)),bE [0,73] M (by decide),(fun i hi=>by first | rfl | (show (if _ then _ else _)=_; (repeat' split) <;> omega))⟩ ?_ ?_
 ·exact h
 ·
  rintro ⟨n0,v11,v12,v13⟩ h
  cases n0 with
  | zero=>exact absurd h (by unfold fT; exact nofun)
  | succ n0 =>
   unfold fT at h
   obtain ⟨x24,hx24,h⟩:=bC h
   refine aF (aA M (aQ M M (lb M) (svI M) (svI M) M hx24)<|aD ?_)
   refine aT ?_
   refine aR (b:=_) M (fun hc25=>?_) (fun hc25=>?_)
   ·
    replace h:=cA h hc25
    refine aS ?_
    refine aM ?_
    refine aT ?_
    refine bB ?_
    obtain ⟨x26,hx26,h⟩:=aX h
    refine aF (aA M (lra q9 la32 M M M M M (nle M) M)<|aA M (mvI M M M M)<|aA M (bU (r:=.tuple q21) M M (lb M) cl28 (.cons (svA q9 M) (.cons (svI M) .nil)) M (fC _ _ _ hx26))<|aA M (aO M M (lb M) (sv (d:=.tuple q21) M))<|aA M (bQ (d:=.int _ _) M M (lb M) (sv (d:=.tuple q21) M) M)<|aA M (bQ (d:=.bool _) M M (lb M) (sv (d:=.tuple q21) M) M)<|aA M (asI M M M M)<|aA M (asB M M M M)<|aD ?_)
    refine aT ?_
    obtain ⟨x27,hx27,h⟩:=aX h
    obtain ⟨x28,hx28,h⟩:=bC h
    obtain ⟨x29,hx29,h⟩:=bC h
    refine aF (aA M (mvB M M M M)<|aA M (gD M M (lb M) (svB M))<|aA M (mvB M M M M)<|aN M M (.one M) M (by decide) (fun hb=>(faR 2 M M M underlying32 M ti29 (lb M) M M))<|aN M M (.one M) M (by decide) (fun hb=>(aI (d:=.slice _ _) M M (lb M) underlying29 ag29 ti29 (by decide) (svcR M hb) M (nle M) M))<|aN M M (.one M) M (by decide) (fun hb=>(mvI M M M M))<|aN M M (.one M) M (by decide) (fun hb=>(dW aC (cs:=q11) M M (lb M) underlying29 ti53 (svcL M hb) (svcI M hb) (gd_t hx27 hb) M M))<|aN M M (.one M) M (by decide) (fun hb=>(gR (cs':=[.int _ _]) M M (lb M) underlying53 M ti3 (by decide) (svc (d:=.fptr q11) M hb) M))<|aN M M (.one M) M (by decide) (fun hb=>(eM M M (lb M) underlying3 ag3 ti3 (by decide) (svc (d:=.fptr [.int _ _]) M hb) (nle M)))<|aN M M (.one M) M (by decide) (fun hb=>(aQ M M (lb M) (svcI M hb) (sv (d:=.int _ 0) M) M hx28))<|aA M (kL M M (lb M) (svB M) M M hx29)<|aD ?_)
    refine aR (b:=_) M (fun hc30=>?_) (fun hc30=>?_)
    ·
     replace h:=cA h hc30
     refine cU ?_
     refine bK ?_
     refine aBL M ?_
     refine bK ?_
     refine bK ?_
     refine cW ?_
     refine aM ?_
     refine aF (aA M (aO M M (lb M) (sv (d:=.osl _ _ _) M))<|aA M (aG M M (lb M) (sv (d:=.osl _ _ _) M))<|aD ?_)
     refine aY ?_
     obtain rfl:=sj_ h
     refine ⟨.inr M,(fun i=>if i=0 then 22 else i),⟨.nil,(.cons (EntW.lst M) .nil),bE [22] M (by decide),(fun i hi=>by first | rfl | (show (if _ then _ else _)=_; (repeat' split) <;> omega))⟩,(.cons (sv M) .nil),M⟩
    ·
     replace h:=cB h hc30
     refine aS ?_
     refine aM ?_
     obtain ⟨x31,hx31,h⟩:=aX h
     refine aF (aA M (faR 2 M M M underlying32 M ti29 (lb M) M M)<|aA M (lrL la29 M M M M M (nle M) M)<|aA M (mvI M M M M)<|aA M (dW aC (cs:=q11) M M (lb M) underlying29 ti53 (svL M) (svI M) hx31 M M)<|aA M (gR (cs':=[.int _ _]) M M (lb M) underlying53 M ti3 (by decide) (sv (d:=.fptr q11) M) M)<|aA M (eM M M (lb M) underlying3 ag3 ti3 (by decide) (sv (d:=.fptr [.int _ _]) M) (nle M))<|aA M (asI M M M M)<|aD ?_)
     obtain ⟨x32,hx32,h⟩:=aX h
     refine bA (aA M (aO M M (lb M) (sv (d:=.osl _ _ _) M))<|aA M (mvI M M M M)<|aA M (lD (eInt .i64).toEnc0 ([x31.Parent]:(List Int)) 23 M M (lb M) underlying30 ti3 M (.cons (svI M) .nil) M M (by decide))<|aA M (iH (eInt .i64).toEnc0 24 M M (lb M) underlying30 ti3 M M M M M (qP (eInt .i64).toEnc0 M M M) hx32)<|aA M (aG M M (lb M) (sv (d:=.osl _ _ _) M))<|bL ?_)
     refine bJ ?_
     refine aM ?_
     obtain ⟨x33,hx33,h⟩:=bC h
     refine bA (aA M (bO M M (lb M) (svI M) (sv (d:=.int _ 1) M) M hx33)<|aA M (mvI M M M M)<|bL ?_)
     refine aM ⟨(n0,x31.Parent,x32,x33),(fun i=>if i=22 then 24 else i),⟨(.sames M M),(.cons (.blk M M M) (.cons (EntW.lst M) .nil)),bE [0,24] M (by decide),(fun i hi=>by first | rfl | (show (if _ then _ else _)=_; (repeat' split) <;> omega))⟩,?_,?_⟩
     exact h
     exact Nat.lt_succ_self _
   ·
    replace h:=cB h hc25
    refine cU ?_
    refine bK ?_
    refine bK ?_
    refine cW ?_
    refine aM ?_
    refine aF (aA M (aO M M (lb M) (sv (d:=.osl _ _ _) M))<|aA M (aG M M (lb M) (sv (d:=.osl _ _ _) M))<|aD ?_)
    refine aY ?_
    obtain rfl:=sj_ h
    refine ⟨.inr M,(fun i=>if i=0 then 22 else i),⟨.nil,(.cons (EntW.lst M) .nil),bE [22] M (by decide),(fun i hi=>by first | rfl | (show (if _ then _ else _)=_; (repeat' split) <;> omega))⟩,(.cons (sv M) .nil),M⟩

theorem qQ (a0:(List Int)) (a1:Int) (r:Int) (h:jG a0 a1=some r):eK prog 75 [.slice false (a0.map (eInt .i64).d),.int .i64 a1] (.int .i64 r):=by
 refine bW (rs:=[.int .i64 r]) func75 M ntmps75 (nle M) M fun O hO=>?_
 show IWP _ _ _ _ ⟨[(0,.slice false (a0.map (eInt .i64).d)),(1,.int .i64 a1)],[]⟩ _
 unfold jG at h
 refine aF (aA M (aG M M (lb M) (sv (d:=.int _ 0) M))<|aD ?_)
 refine aT ?_
 refine aF (aA M (mvL M M M M)<|aA M (cV (eInt .i64) (l:=a0) M M (lb M) underlying30 (svL M))<|aA M (aO M M (lb M) (sv (d:=.int _ 0) M))<|aD ?_)
 refine bB ?_
 refine cP (α:=Nat × Int) (fun z=>⟨[(0,.slice false (a0.map (eInt .i64).d)),(1,.int .i64 a1),(7,.int .i64 (a0.length:Int)),(8,.int .i64 z.2)],[]⟩) (fun z=>dL a0 a1 z.1 z.2=some r) (fun z=>z.1) (fuel,0) (fun i=>i) ⟨(.sames M M),.nil,bE [] M (by decide),fun _ _=>M⟩ ?_ ?_
 ·exact h
 ·
  rintro ⟨n0,v7⟩ h
  cases n0 with
  | zero=>exact absurd h (by unfold dL; exact nofun)
  | succ n0 =>
   unfold dL at h
   obtain ⟨x14,hx14,h⟩:=bC h
   refine aF (aA M (aQ M M (lb M) (svI M) (svI M) M hx14)<|aD ?_)
   refine aT ?_
   refine aR (b:=_) M (fun hc15=>?_) (fun hc15=>?_)
   ·
    replace h:=cA h hc15
    refine aS ?_
    refine aM ?_
    refine aT ?_
    refine bB ?_
    refine aF (aA M (mvI M M M M)<|aA M (asI M M M M)<|aD ?_)
    obtain ⟨x16,hx16,h⟩:=aX h
    obtain ⟨x17,hx17,h⟩:=bC h
    refine aF (aA M (mvI M M M M)<|aA M (mvL M M M M)<|aA M (mvI M M M M)<|aA M (dW (eInt .i64) (cs:=[.int _ _]) M M (lb M) underlying30 ti3 (svL M) (svI M) hx16 M M)<|aA M (eM M M (lb M) underlying3 ag3 ti3 (by decide) (sv (d:=.fptr [.int _ _]) M) (nle M))<|aA M (aQ M M (lb M) (svI M) (svI M) M hx17)<|aD ?_)
    refine aR (b:=_) M (fun hc18=>?_) (fun hc18=>?_)
    ·
     replace h:=cA h hc18
     refine aF (aA M (mvI M M M M)<|aA M (asI M M M M)<|aD ?_)
     refine aY ?_
     refine cO ?_
     refine bG ?_
     refine bG ?_
     refine cO ?_
     refine bG ?_
     obtain rfl:=sj_ h
     refine ⟨.inr M,(.cons (sv M) .nil)⟩
    ·
     replace h:=cB h hc18
     refine aS ?_
     refine bJ ?_
     refine aM ?_
     obtain ⟨x19,hx19,h⟩:=bC h
     refine bA (aA M (bO M M (lb M) (svI M) (sv (d:=.int _ 1) M) M hx19)<|aA M (mvI M M M M)<|bL ?_)
     refine aM ⟨(n0,x19),(fun i=>i),⟨(.sames M M),.nil,bE [] M (by decide),fun _ _=>M⟩,?_,?_⟩
     exact h
     exact Nat.lt_succ_self _
   ·
    replace h:=cB h hc15
    refine cU ?_
    refine bK ?_
    refine bK ?_
    refine cW ?_
    refine aM ?_
    refine aF (aA M (aG M M (lb M) (sv (d:=.int _ (-1)) M))<|aD ?_)
    refine aY ?_
    obtain rfl:=sj_ h
    refine ⟨.inr M,(.cons (sv M) .nil)⟩

theorem gU (a0:(List Int)) (a1:Int) (r:Bool) (h:cX a0 a1=some r):eK prog 46 [.slice false (a0.map (eInt .i64).d),.int .i64 a1] (.bool r):=by
 refine bW (rs:=[.bool r]) func46 M ntmps46 (nle M) M fun O hO=>?_
 show IWP _ _ _ _ ⟨[(0,.slice false (a0.map (eInt .i64).d)),(1,.int .i64 a1)],[]⟩ _
 unfold cX at h
 refine aF (aA M (aG M M (lb M) (sv (d:=.bool false) M))<|aD ?_)
 obtain ⟨x1,hx1,h⟩:=aX h
 obtain ⟨x2,hx2,h⟩:=bC h
 refine aF (aA M (mvL M M M M)<|aA M (mvI M M M M)<|aA M (bU (r:=.int _ _) M M (lb M) cl75 (.cons (svL M) (.cons (svI M) .nil)) M (qQ _ _ _ hx1))<|aA M (aQ M M (lb M) (svI M) (sv (d:=.int _ 0) M) M hx2)<|aA M (asB M M M M)<|aD ?_)
 refine aY ?_
 obtain rfl:=sj_ h
 refine ⟨.inr M,(.cons (sv M) .nil)⟩

theorem sN (a0:aV) (a1:aH) (r:Bool) (h:lT a0 a1=some r):eK prog 38 [.agg (v0 a0),.agg (v3 a1)] (.bool r):=by
 refine bW (rs:=[.bool r]) func38 M ntmps38 (nle M) M fun O hO=>?_
 show IWP _ _ _ _ ⟨[(0,.agg (v0 a0)),(1,.agg (v3 a1))],[]⟩ _
 unfold lT at h
 refine aF (aA M (cK (cs:=q9) 0 M M (lb M) M (svA q9 M) M M)<|aA M (cK (cs:=q11) 1 M M (lb M) M (svA q11 M) M M)<|aA M (aG M M (lb M) (sv (d:=.bool false) M))<|aD ?_)
 obtain ⟨x1,hx1,h⟩:=aX h
 obtain ⟨x2,hx2,h⟩:=aX h
 refine iR M [⟨[2],[0],[(5,.agg (v0 a0))],[]⟩,
  ⟨[3],[],[(6,.ref 1 0)],[]⟩,
  ⟨[6],[1],[(7,.int .i64 a1.ID)],[]⟩,
  ⟨[5,7],[2],[(8,.osl 2 (eInt .i64).sz x1.length)],[(2,.blk 3 (D.flat (x1.map (eInt .i64).d)))]⟩,
  ⟨[3],[],[(9,.ref 1 0)],[]⟩,
  ⟨[9],[1],[(10,.int .i64 a1.ID)],[]⟩,
  ⟨[8,10],[2],[(11,.bool x2)],[]⟩,
  ⟨[11],[],[(4,.bool x2)],[]⟩] M ?_ (by kernel_rfl) ?_
 ·refine .cons (lop M M fun S hA=>(lC (cs:=q9) M M (lb M) underlying32 ag32 ti32 (by decide) (svaR hA M M) (agi hA M M) (nle M) M)) ?_
  refine .cons (lop M M fun S hA=>(aP M M (lb M) underlying53 M ti3 (by decide) (svaR hA M M) (off':=0) M)) ?_
  refine .cons (lop M M fun S hA=>(aI (d:=.int _ _) M M (lb M) underlying3 ag3 ti3 (by decide) (svaR hA M M) (agi hA M M) (nle M) M)) ?_
  refine .cons (lop M M fun S hA=>(mI (r':=.osl 2 (eInt .i64).sz x1.length) (U:=[(2,.blk 3 (D.flat (x1.map (eInt .i64).d)))]) 2 1 [] M M (lb M) cl45 (.cons (svaA q9 hA M M) (.cons (svaI hA M M) .nil)) M M M (List.forall_mem_cons.2 ⟨(agi hA M M),List.forall_mem_nil _⟩) ⟨by decide,M,List.forall_mem_nil _⟩ (lR _ _ _ hx1) M M (List.forall_mem_cons.2 ⟨⟨M,(bP (eInt .i64))⟩,List.forall_mem_nil _⟩) (by simp only [List.map_cons,List.map_nil,Ent.ren,bT,cE]; rfl))) ?_
  refine .cons (lop M M fun S hA=>(aP M M (lb M) underlying53 M ti3 (by decide) (svaR hA M M) (off':=0) M)) ?_
  refine .cons (lop M M fun S hA=>(aI (d:=.int _ _) M M (lb M) underlying3 ag3 ti3 (by decide) (svaR hA M M) (agi hA M M) (nle M) M)) ?_
  refine .cons (lop M M fun S hA=>(kF (r:=.bool x2) M M (lb M) cl46 (.cons (sv (d:=.osl _ _ _) (agr hA M M)) (.cons (svaI hA M M) .nil)) (.cons (FDT (eInt .i64) (agi hA M M) M) (.all _)) M M (gU _ _ _ hx2))) ?_
  refine .cons (lop M M fun S hA=>(aG M M (lb M) (svaB hA M M))) ?_
  exact .nil
 refine aY ?_
 obtain rfl:=sj_ h
 refine ⟨.inr M,(.cons (sv M) .nil)⟩

theorem lG (a0:(List aH)) (a1:aV) (r:Int) (h:dV a0 a1=some r):eK prog 71 [.slice false (a0.map aC.d),.mv 38 [.agg (v0 a1)]] (.int .i64 r):=by
 refine bW (rs:=[.int .i64 r]) func71 M ntmps71 (nle M) M fun O hO=>?_
 show IWP _ _ _ _ ⟨[(0,.slice false (a0.map aC.d)),(1,.mv 38 [.agg (v0 a1)])],[]⟩ _
 unfold dV at h
 refine aF (aA M (aG M M (lb M) (sv (d:=.int _ 0) M))<|aD ?_)
 refine aT ?_
 refine aF (aA M (mvL M M M M)<|aA M (cV aC (l:=a0) M M (lb M) underlying29 (svL M))<|aA M (aO M M (lb M) (sv (d:=.int _ 0) M))<|aD ?_)
 refine bB ?_
 refine cP (α:=Nat × Int) (fun z=>⟨[(0,.slice false (a0.map aC.d)),(1,.mv 38 [.agg (v0 a1)]),(7,.int .i64 (a0.length:Int)),(8,.int .i64 z.2)],[]⟩) (fun z=>cG a0 a1 z.1 z.2=some r) (fun z=>z.1) (fuel,0) (fun i=>i) ⟨(.sames M M),.nil,bE [] M (by decide),fun _ _=>M⟩ ?_ ?_
 ·exact h
 ·
  rintro ⟨n0,v7⟩ h
  cases n0 with
  | zero=>exact absurd h (by unfold cG; exact nofun)
  | succ n0 =>
   unfold cG at h
   obtain ⟨x14,hx14,h⟩:=bC h
   refine aF (aA M (aQ M M (lb M) (svI M) (svI M) M hx14)<|aD ?_)
   refine aT ?_
   refine aR (b:=_) M (fun hc15=>?_) (fun hc15=>?_)
   ·
    replace h:=cA h hc15
    refine aS ?_
    refine aM ?_
    refine aT ?_
    refine bB ?_
    refine aF (aA M (mvI M M M M)<|aA M (asI M M M M)<|aD ?_)
    obtain ⟨x16,hx16,h⟩:=aX h
    obtain ⟨x17,hx17,h⟩:=aX h
    refine aF (aA M (aO M M (lb M) (sv (d:=.mv 38 [.agg q9]) M))<|aA M (mvL M M M M)<|aA M (mvI M M M M)<|aA M (dW aC (cs:=q11) M M (lb M) underlying29 ti53 (svL M) (svI M) hx16 M M)<|aA M (fD (cs:=q11) M M (lb M) underlying53 ag53 ti53 (by decide) (sv (d:=.fptr q11) M) (nle M) M)<|aA M (wD (r:=.bool _) M M (lb M) cl38 (sv (d:=.mv 38 [.agg q9]) M) (.cons (svA q11 M) .nil) M (sN _ _ _ hx17))<|aD ?_)
    refine aR (b:=_) M (fun hc18=>?_) (fun hc18=>?_)
    ·
     replace h:=cA h hc18
     refine aF (aA M (mvI M M M M)<|aA M (asI M M M M)<|aD ?_)
     refine aY ?_
     refine cO ?_
     refine bG ?_
     refine bG ?_
     refine cO ?_
     refine bG ?_
     obtain rfl:=sj_ h
     refine ⟨.inr M,(.cons (sv M) .nil)⟩
    ·
     replace h:=cB h hc18
     refine aS ?_
     refine bJ ?_
     refine aM ?_
     obtain ⟨x19,hx19,h⟩:=bC h
     refine bA (aA M (bO M M (lb M) (svI M) (sv (d:=.int _ 1) M) M hx19)<|aA M (mvI M M M M)<|bL ?_)
     refine aM ⟨(n0,x19),(fun i=>i),⟨(.sames M M),.nil,bE [] M (by decide),fun _ _=>M⟩,?_,?_⟩
     exact h
     exact Nat.lt_succ_self _
   ·
    replace h:=cB h hc15
    refine cU ?_
    refine bK ?_
    refine bK ?_
    refine cW ?_
    refine aM ?_
    refine aF (aA M (aG M M (lb M) (sv (d:=.int _ (-1)) M))<|aD ?_)
    refine aY ?_
    obtain rfl:=sj_ h
    refine ⟨.inr M,(.cons (sv M) .nil)⟩

theorem kK (a0:(List aH)) (a1:aV) (r:Bool) (h:bX a0 a1=some r):eK prog 35 [.slice false (a0.map aC.d),.mv 38 [.agg (v0 a1)]] (.bool r):=by
 refine bW (rs:=[.bool r]) func35 M ntmps35 (nle M) M fun O hO=>?_
 show IWP _ _ _ _ ⟨[(0,.slice false (a0.map aC.d)),(1,.mv 38 [.agg (v0 a1)])],[]⟩ _
 unfold bX at h
 refine aF (aA M (aG M M (lb M) (sv (d:=.bool false) M))<|aD ?_)
 obtain ⟨x1,hx1,h⟩:=aX h
 obtain ⟨x2,hx2,h⟩:=bC h
 refine aF (aA M (mvL M M M M)<|aA M (aO M M (lb M) (sv (d:=.mv 38 [.agg q9]) M))<|aA M (bU (r:=.int _ _) M M (lb M) cl71 (.cons (svL M) (.cons (sv (d:=.mv 38 [.agg q9]) M) .nil)) M (lG _ _ _ hx1))<|aA M (aQ M M (lb M) (svI M) (sv (d:=.int _ 0) M) M hx2)<|aA M (asB M M M M)<|aD ?_)
 refine aY ?_
 obtain rfl:=sj_ h
 refine ⟨.inr M,(.cons (sv M) .nil)⟩

theorem sP (a0:aV) (r:Bool) (h:kO a0=some r):eK prog 39 [.agg (v0 a0)] (.bool r):=by
 refine bW (rs:=[.bool r]) func39 M ntmps39 (nle M) M fun O hO=>?_
 show IWP _ _ _ _ ⟨[(0,.agg (v0 a0))],[]⟩ _
 unfold kO at h
 refine aF (aA M (cK (cs:=q9) 0 M M (lb M) M (svA q9 M) M M)<|aA M (aG M M (lb M) (sv (d:=.bool false) M))<|aD ?_)
 refine aF (aA M (aG M M (lb M) (sv (d:=.int _ 0) M))<|aD ?_)
 refine aT ?_
 refine aF (aA M (faR 2 M M M underlying32 M ti29 (lb M) M M)<|aA M (lrL la29 M M M M M (nle M) M)<|aA M (cV aC (l:=a0.Nodes) M M (lb M) underlying29 (svL M))<|aA M (aO M M (lb M) (sv (d:=.int _ 0) M))<|aD ?_)
 refine bB ?_
 refine cP (α:=Nat × Int × Int) (fun z=>⟨[(1,.ref 0 0),(3,.int .i64 z.2.1),(7,.slice false (a0.Nodes.map aC.d)),(8,.int .i64 (a0.Nodes.length:Int)),(9,.int .i64 z.2.2)],[(0,.blk 32 (v0 a0))]⟩) (fun z=>dS a0 z.1 z.2.1 z.2.2=some r) (fun z=>z.1) (fuel,0,0) (fun i=>i) ⟨(.sames M M),(.cons (.blk M M M) .nil),bE [0] M (by decide),fun _ _=>M⟩ ?_ ?_
 ·exact h
 ·
  rintro ⟨n0,v13,v14⟩ h
  cases n0 with
  | zero=>exact absurd h (by unfold dS; exact nofun)
  | succ n0 =>
   unfold dS at h
   obtain ⟨x27,hx27,h⟩:=bC h
   refine aF (aA M (aQ M M (lb M) (svI M) (svI M) M hx27)<|aD ?_)
   refine aT ?_
   refine aR (b:=_) M (fun hc28=>?_) (fun hc28=>?_)
   ·
    replace h:=cA h hc28
    refine aS ?_
    refine aM ?_
    refine aT ?_
    refine bB ?_
    obtain ⟨x29,hx29,h⟩:=aX h
    refine aF (aA M (dW aC (cs:=q11) M M (lb M) underlying29 ti53 (svL M) (svI M) hx29 M M)<|aA M (fD (cs:=q11) M M (lb M) underlying53 ag53 ti53 (by decide) (sv (d:=.fptr q11) M) (nle M) M)<|aA M (cT (cs:=q11) (cs':=(w28 0 0 0 false)) 1 M M (lb M) M ti53 M M (.all _))<|aA M (stA q11 q11 ti53 M M M M M M M M (nle M) M)<|aD ?_)
    refine mN (α:=Int) (fun z=>⟨[(1,.ref 0 0),(3,.int .i64 z),(7,.slice false (a0.Nodes.map aC.d)),(8,.int .i64 (a0.Nodes.length:Int)),(9,.int .i64 v14),(5,.ref 1 0)],[(0,.blk 32 (v0 a0)),(1,.blk 53 (v3 x29))]⟩) (fun z=>iU a0 v14 (dS a0 n0) x29 z=some r) ?_ ?_
    ·
     refine aF (aA M (faR 3 M M M underlying53 M ti4 (lb M) M M)<|aA M (aI (d:=.bool _) M M (lb M) underlying4 ag4 ti4 (by decide) (svR M) M (nle M) M)<|aD ?_)
     refine aR (b:=_) M (fun hc37=>?_) (fun hc37=>?_)
     ·
      replace h:=cA h hc37
      obtain ⟨x38,hx38,h⟩:=bC h
      refine bA (aA M (mvI M M M M)<|aA M (bO M M (lb M) (svI M) (sv (d:=.int _ 1) M) M hx38)<|aA M (asI M M M M)<|bL ?_)
      refine aM ⟨x38,(fun i=>i),⟨(.sames M M),(.cons (.blk M M M) (.cons (.blk M M M) .nil)),bE [0,1] M (by decide),fun _ _=>M⟩,?_⟩
      exact h
     ·
      replace h:=cB h hc37
      refine aS ?_
      refine aM ⟨v13,(fun i=>i),⟨(.sames M M),(.cons (.blk M M M) (.cons (.blk M M M) .nil)),bE [0,1] M (by decide),fun _ _=>M⟩,?_⟩
      exact h
    ·
     rintro v32 h
     unfold iU at h
     obtain ⟨x33,hx33,h⟩:=aX h
     obtain ⟨x34,hx34,h⟩:=bC h
     refine iR M [⟨[5],[],[(17,.ref 1 3)],[]⟩,
      ⟨[17],[1],[(18,.bool x29.Closed)],[]⟩,
      ⟨[1],[],[(19,.ref 0 3)],[]⟩,
      ⟨[19],[0],[(20,.slice false (a0.Ended.map (eInt .i64).d))],[]⟩,
      ⟨[5],[],[(21,.ref 1 0)],[]⟩,
      ⟨[21],[1],[(22,.int .i64 x29.ID)],[]⟩,
      ⟨[20,22],[],[(23,.bool x33)],[]⟩,
      ⟨[18,23],[],[(24,.bool x34)],[]⟩] M ?_ (by kernel_rfl) ?_
     ·refine .cons (lop M M fun S hA=>(aP M M (lb M) underlying53 M ti4 (by decide) (svaR hA M M) (off':=3) M)) ?_
      refine .cons (lop M M fun S hA=>(aI (d:=.bool _) M M (lb M) underlying4 ag4 ti4 (by decide) (svaR hA M M) (agi hA M M) (nle M) M)) ?_
      refine .cons (lop M M fun S hA=>(aP M M (lb M) underlying32 M ti30 (by decide) (svaR hA M M) (off':=3) M)) ?_
      refine .cons (lop M M fun S hA=>(aI (d:=.slice _ _) M M (lb M) underlying30 ag30 ti30 (by decide) (svaR hA M M) (agi hA M M) (nle M) M)) ?_
      refine .cons (lop M M fun S hA=>(aP M M (lb M) underlying53 M ti3 (by decide) (svaR hA M M) (off':=0) M)) ?_
      refine .cons (lop M M fun S hA=>(aI (d:=.int _ _) M M (lb M) underlying3 ag3 ti3 (by decide) (svaR hA M M) (agi hA M M) (nle M) M)) ?_
      refine .cons (lop M M fun S hA=>(bU (r:=.bool _) M M (lb M) cl46 (.cons (svaL hA M M) (.cons (svaI hA M M) .nil)) M (gU _ _ _ hx33))) ?_
      refine .cons (lop M M fun S hA=>(aDa M M (lb M) underlying4 (svaB hA M M) (svaB hA M M) hx34)) ?_
      exact .nil
     refine aR (b:=_) M (fun hc35=>?_) (fun hc35=>?_)
     ·
      replace h:=cA h hc35
      refine aF (aA M (aG M M (lb M) (sv (d:=.bool false) M))<|aD ?_)
      refine aY ?_
      refine cO ?_
      refine bG ?_
      refine bG ?_
      refine cO ?_
      refine bG ?_
      obtain rfl:=sj_ h
      refine ⟨.inr M,(.cons (sv M) .nil)⟩
     ·
      replace h:=cB h hc35
      refine aS ?_
      refine bJ ?_
      refine aM ?_
      obtain ⟨x36,hx36,h⟩:=bC h
      refine bA (aA M (bO M M (lb M) (svI M) (sv (d:=.int _ 1) M) M hx36)<|aA M (mvI M M M M)<|bL ?_)
      refine aM ⟨(n0,v32,x36),(fun i=>i),⟨(.sames M M),(.cons (.blk M M M) .nil),bE [0] M (by decide),fun _ _=>M⟩,?_,?_⟩
      exact h
      exact Nat.lt_succ_self _
   ·
    replace h:=cB h hc28
    refine cU ?_
    refine bK ?_
    refine bK ?_
    refine cW ?_
    refine aM ?_
    obtain ⟨x39,hx39,h⟩:=bC h
    refine aF (aA M (mvI M M M M)<|aA M (faR 3 M M M underlying32 M ti30 (lb M) M M)<|aA M (lrL la30 M M M M M (nle M) M)<|aA M (cV (eInt .i64) (l:=a0.Ended) M M (lb M) underlying30 (svL M))<|aA M (aQ M M (lb M) (svI M) (svI M) M hx39)<|aA M (asB M M M M)<|aD ?_)
    refine aY ?_
    obtain rfl:=sj_ h
    refine ⟨.inr M,(.cons (sv M) .nil)⟩

theorem mF (a0:aV) (r:Int) (h:jR a0=some r):eK prog 11 [.agg (v0 a0)] (.int .i64 r):=by
 refine bW (rs:=[.int .i64 r]) func11 M ntmps11 (nle M) M fun O hO=>?_
 show IWP _ _ _ _ ⟨[(0,.agg (v0 a0))],[]⟩ _
 unfold jR at h
 refine aF (aA M (cK (cs:=q9) 0 M M (lb M) M (svA q9 M) M M)<|aA M (aG M M (lb M) (sv (d:=.int _ 0) M))<|aD ?_)
 refine aT ?_
 obtain ⟨x1,hx1,h⟩:=bC h
 obtain ⟨x2,hx2,h⟩:=bC h
 obtain ⟨x3,hx3,h⟩:=bC h
 obtain ⟨x4,hx4,h⟩:=bC h
 obtain ⟨x5,hx5,h⟩:=bC h
 obtain ⟨x6,hx6,h⟩:=bC h
 obtain ⟨x7,hx7,h⟩:=bC h
 obtain ⟨x8,hx8,h⟩:=aX h
 obtain ⟨x9,hx9,h⟩:=bC h
 refine aF (aA M (faR 0 M M M underlying32 M ti3 (lb M) M M)<|aA M (aI (d:=.int _ _) M M (lb M) underlying3 ag3 ti3 (by decide) (svR M) M (nle M) M)<|aA M (aQ M M (lb M) (svI M) (sv (d:=.int _ 1) M) M hx1)<|aA M (mvB M M M M)<|aN M M (.one M) M (by decide) (fun hb=>(faR 0 M M M underlying32 M ti3 (lb M) M M))<|aN M M (.one M) M (by decide) (fun hb=>(aI (d:=.int _ _) M M (lb M) underlying3 ag3 ti3 (by decide) (svcR M hb) M (nle M) M))<|aN M M (.one M) M (by decide) (fun hb=>(aQ M M (lb M) (svcI M hb) (sv (d:=.int _ 24) M) M hx2))<|aA M (kL M M (lb M) (svB M) M M hx3)<|aA M (mvB M M M M)<|aN M M (.one M) M (by decide) (fun hb=>(faR 1 M M M underlying32 M ti3 (lb M) M M))<|aN M M (.one M) M (by decide) (fun hb=>(aI (d:=.int _ _) M M (lb M) underlying3 ag3 ti3 (by decide) (svcR M hb) M (nle M) M))<|aN M M (.one M) M (by decide) (fun hb=>(aQ M M (lb M) (svcI M hb) (sv (d:=.int _ 0) M) M hx4))<|aA M (kL M M (lb M) (svB M) M M hx5)<|aA M (mvB M M M M)<|aN M M (.one M) M (by decide) (fun hb=>(faR 1 M M M underlying32 M ti3 (lb M) M M))<|aN M M (.one M) M (by decide) (fun hb=>(aI (d:=.int _ _) M M (lb M) underlying3 ag3 ti3 (by decide) (svcR M hb) M (nle M) M))<|aN M M (.one M) M (by decide) (fun hb=>(faR 0 M M M underlying32 M ti3 (lb M) M M))<|aN M M (.one M) M (by decide) (fun hb=>(aI (d:=.int _ _) M M (lb M) underlying3 ag3 ti3 (by decide) (svcR M hb) M (nle M) M))<|aN M M (.one M) M (by decide) (fun hb=>(aQ M M (lb M) (svcI M hb) (svcI M hb) M hx6))<|aA M (kL M M (lb M) (svB M) M M hx7)<|aA M (mvB M M M M)<|aN M M (.one M) M (by decide) (fun hb=>(faR 2 M M M underlying32 M ti29 (lb M) M M))<|aN M M (.one M) M (by decide) (fun hb=>(aI (d:=.slice _ _) M M (lb M) underlying29 ag29 ti29 (by decide) (svcR M hb) M (nle M) M))<|aN M M (.one M) M (by decide) (fun hb=>(bU (r:=.bool _) M M (lb M) cl35 (.cons (svcL M hb) (.cons (sv (d:=.fn 36 []) M) .nil)) M (kJ _ _ (gd_t hx8 hb))))<|aA M (kL M M (lb M) (svB M) M M hx9)<|aD ?_)
 refine aR (b:=_) M (fun hc10=>?_) (fun hc10=>?_)
 ·
  replace h:=cA h hc10
  refine aF (aA M (aG M M (lb M) (sv (d:=.int _ 8) M))<|aD ?_)
  refine aY ?_
  refine bG ?_
  obtain rfl:=sj_ h
  refine ⟨.inr M,(.cons (sv M) .nil)⟩
 ·
  replace h:=cB h hc10
  refine aS ?_
  refine aM ?_
  refine aT ?_
  obtain ⟨x11,hx11,h⟩:=bC h
  obtain ⟨x12,hx12,h⟩:=bC h
  obtain ⟨x13,hx13,h⟩:=bC h
  refine aF (aA M (faR 2 M M M underlying32 M ti29 (lb M) M M)<|aA M (lrL la29 M M M M M (nle M) M)<|aA M (cV aC (l:=a0.Nodes) M M (lb M) underlying29 (svL M))<|aA M (faR 0 M M M underlying32 M ti3 (lb M) M M)<|aA M (aI (d:=.int _ _) M M (lb M) underlying3 ag3 ti3 (by decide) (svR M) M (nle M) M)<|aA M (aQ M M (lb M) (svI M) (svI M) M hx11)<|aA M (mvB M M M M)<|aN M M (.one M) M (by decide) (fun hb=>(faR 3 M M M underlying32 M ti30 (lb M) M M))<|aN M M (.one M) M (by decide) (fun hb=>(aI (d:=.slice _ _) M M (lb M) underlying30 ag30 ti30 (by decide) (svcR M hb) M (nle M) M))<|aN M M (.one M) M (by decide) (fun hb=>(cV (eInt .i64) (l:=a0.Ended) M M (lb M) underlying30 (svcL M hb)))<|aN M M (.one M) M (by decide) (fun hb=>(faR 1 M M M underlying32 M ti3 (lb M) M M))<|aN M M (.one M) M (by decide) (fun hb=>(aI (d:=.int _ _) M M (lb M) underlying3 ag3 ti3 (by decide) (svcR M hb) M (nle M) M))<|aN M M (.one M) M (by decide) (fun hb=>(aQ M M (lb M) (svcI M hb) (svcI M hb) M hx12))<|aA M (kL M M (lb M) (svB M) M M hx13)<|aD ?_)
  refine aR (b:=_) M (fun hc14=>?_) (fun hc14=>?_)
  ·
   replace h:=cA h hc14
   refine aF (aA M (aG M M (lb M) (sv (d:=.int _ 7) M))<|aD ?_)
   refine aY ?_
   refine bG ?_
   obtain rfl:=sj_ h
   refine ⟨.inr M,(.cons (sv M) .nil)⟩
  ·
   replace h:=cB h hc14
   refine aS ?_
   refine aM ?_
   refine aT ?_
   refine aF (aA M (aG M M (lb M) (sv (d:=.int _ 1) M))<|aD ?_)
   refine bB ?_
   refine cP (α:=Nat × Int) (fun z=>⟨[(1,.ref 0 0),(3,.int .i64 z.2)],[(0,.blk 32 (v0 a0))]⟩) (fun z=>iX a0 z.1 z.2=some r) (fun z=>z.1) (fuel,1) (fun i=>i) ⟨(.sames M M),(.cons (.blk M M M) .nil),bE [0] M (by decide),fun _ _=>M⟩ ?_ ?_
   ·exact h
   ·
    rintro ⟨n0,v23⟩ h
    cases n0 with
    | zero=>exact absurd h (by unfold iX; exact nofun)
    | succ n0 =>
     unfold iX at h
     refine aT ?_
     obtain ⟨x32,hx32,h⟩:=bC h
     refine aF (aA M (mvI M M M M)<|aA M (faR 2 M M M underlying32 M ti29 (lb M) M M)<|aA M (lrL la29 M M M M M (nle M) M)<|aA M (cV aC (l:=a0.Nodes) M M (lb M) underlying29 (svL M))<|aA M (aQ M M (lb M) (svI M) (svI M) M hx32)<|aD ?_)
     refine aR (b:=_) M (fun hc33=>?_) (fun hc33=>?_)
     ·
      replace h:=cA h hc33
      refine aS ?_
      refine aM ?_
      refine aT ?_
      refine bB ?_
      obtain ⟨x34,hx34,h⟩:=bC h
      obtain ⟨x35,hx35,h⟩:=aX h
      obtain ⟨x36,hx36,h⟩:=aX h
      obtain ⟨x37,hx37,h⟩:=bC h
      refine iR M [⟨[1],[],[(50,.ref 0 2)],[]⟩,
       ⟨[50],[0],[(51,.slice false (a0.Nodes.map aC.d))],[]⟩,
       ⟨[3],[],[(52,.int .i64 v23)],[]⟩,
       ⟨[52],[],[(53,.int .i64 x34)],[]⟩,
       ⟨[51,53],[],[(54,.fptr (v3 x35))],[]⟩,
       ⟨[54],[],[(55,.fptr [.int .i64 x35.ID])],[]⟩,
       ⟨[55],[],[(56,.int .i64 x35.ID)],[]⟩,
       ⟨[1],[],[(57,.ref 0 2)],[]⟩,
       ⟨[57],[0],[(58,.slice false (a0.Nodes.map aC.d))],[]⟩,
       ⟨[3],[],[(59,.int .i64 v23)],[]⟩,
       ⟨[58,59],[],[(60,.fptr (v3 x36))],[]⟩,
       ⟨[60],[],[(61,.fptr [.int .i64 x36.ID])],[]⟩,
       ⟨[61],[],[(62,.int .i64 x36.ID)],[]⟩,
       ⟨[56,62],[],[(63,.bool x37)],[]⟩] M ?_ (by kernel_rfl) ?_
      ·refine .cons (lop M M fun S hA=>(aP M M (lb M) underlying32 M ti29 (by decide) (svaR hA M M) (off':=2) M)) ?_
       refine .cons (lop M M fun S hA=>(aI (d:=.slice _ _) M M (lb M) underlying29 ag29 ti29 (by decide) (svaR hA M M) (agi hA M M) (nle M) M)) ?_
       refine .cons (lop M M fun S hA=>(aO M M (lb M) (svaI hA M M))) ?_
       refine .cons (lop M M fun S hA=>(bO M M (lb M) (svaI hA M M) (sv (d:=.int _ 1) M) M hx34)) ?_
       refine .cons (lop M M fun S hA=>(dW aC (cs:=q11) M M (lb M) underlying29 ti53 (svaL hA M M) (svaI hA M M) hx35 M M)) ?_
       refine .cons (lop M M fun S hA=>(gR (cs':=[.int _ _]) M M (lb M) underlying53 M ti3 (by decide) (sv (d:=.fptr q11) (agr hA M M)) M)) ?_
       refine .cons (lop M M fun S hA=>(eM M M (lb M) underlying3 ag3 ti3 (by decide) (sv (d:=.fptr [.int _ _]) (agr hA M M)) (nle M))) ?_
       refine .cons (lop M M fun S hA=>(aP M M (lb M) underlying32 M ti29 (by decide) (svaR hA M M) (off':=2) M)) ?_
       refine .cons (lop M M fun S hA=>(aI (d:=.slice _ _) M M (lb M) underlying29 ag29 ti29 (by decide) (svaR hA M M) (agi hA M M) (nle M) M)) ?_
       refine .cons (lop M M fun S hA=>(aO M M (lb M) (svaI hA M M))) ?_
       refine .cons (lop M M fun S hA=>(dW aC (cs:=q11) M M (lb M) underlying29 ti53 (svaL hA M M) (svaI hA M M) hx36 M M)) ?_
       refine .cons (lop M M fun S hA=>(gR (cs':=[.int _ _]) M M (lb M) underlying53 M ti3 (by decide) (sv (d:=.fptr q11) (agr hA M M)) M)) ?_
       refine .cons (lop M M fun S hA=>(eM M M (lb M) underlying3 ag3 ti3 (by decide) (sv (d:=.fptr [.int _ _]) (agr hA M M)) (nle M))) ?_
       refine .cons (lop M M fun S hA=>(aQ M M (lb M) (svaI hA M M) (svaI hA M M) M hx37)) ?_
       exact .nil
      refine aR (b:=_) M (fun hc38=>?_) (fun hc38=>?_)
      ·
       replace h:=cA h hc38
       refine aF (aA M (aG M M (lb M) (sv (d:=.int _ 10) M))<|aD ?_)
       refine aY ?_
       refine cO ?_
       refine bG ?_
       refine bG ?_
       refine cO ?_
       refine bG ?_
       obtain rfl:=sj_ h
       refine ⟨.inr M,(.cons (sv M) .nil)⟩
      ·
       replace h:=cB h hc38
       refine aS ?_
       refine bJ ?_
       refine aM ?_
       obtain ⟨x39,hx39,h⟩:=bC h
       refine bA (aA M (mvI M M M M)<|aA M (bO M M (lb M) (svI M) (sv (d:=.int _ 1) M) M hx39)<|aA M (asI M M M M)<|bL ?_)
       refine aM ⟨(n0,x39),(fun i=>i),⟨(.sames M M),(.cons (.blk M M M) .nil),bE [0] M (by decide),fun _ _=>M⟩,?_,?_⟩
       exact h
       exact Nat.lt_succ_self _
     ·
      replace h:=cB h hc33
      refine cU ?_
      refine bK ?_
      refine bK ?_
      refine cW ?_
      refine aM ?_
      refine aT ?_
      refine bB ?_
      obtain ⟨x40,hx40,h⟩:=aX h
      refine aF (aA M (faR 2 M M M underlying32 M ti29 (lb M) M M)<|aA M (lrL la29 M M M M M (nle M) M)<|aA M (lra q9 la32 M M M M M (nle M) M)<|aA M (tT M M (lb M) (.cons (svA q9 M) .nil))<|aA M (bU (r:=.bool _) M M (lb M) cl35 (.cons (svL M) (.cons (sv (d:=.mv 37 [.agg q9]) M) .nil)) M (kT _ _ _ hx40))<|aA M (asB M M M M)<|aD ?_)
      refine aR (b:=_) M (fun hc41=>?_) (fun hc41=>?_)
      ·
       replace h:=cA h hc41
       refine aF (aA M (aG M M (lb M) (sv (d:=.int _ 6) M))<|aD ?_)
       refine aY ?_
       refine cO ?_
       refine bG ?_
       obtain rfl:=sj_ h
       refine ⟨.inr M,(.cons (sv M) .nil)⟩
      ·
       replace h:=cB h hc41
       obtain ⟨x42,hx42,h⟩:=aX h
       refine aF (aA M (faR 2 M M M underlying32 M ti29 (lb M) M M)<|aA M (lrL la29 M M M M M (nle M) M)<|aA M (lra q9 la32 M M M M M (nle M) M)<|aA M (tT M M (lb M) (.cons (svA q9 M) .nil))<|aA M (bU (r:=.bool _) M M (lb M) cl35 (.cons (svL M) (.cons (sv (d:=.mv 38 [.agg q9]) M) .nil)) M (kK _ _ _ hx42))<|aA M (asB M M M M)<|aD ?_)
       refine aR (b:=_) M (fun hc43=>?_) (fun hc43=>?_)
       ·
        replace h:=cA h hc43
        refine aF (aA M (aG M M (lb M) (sv (d:=.int _ 4) M))<|aD ?_)
        refine aY ?_
        refine cO ?_
        refine bG ?_
        obtain rfl:=sj_ h
        refine ⟨.inr M,(.cons (sv M) .nil)⟩
       ·
        replace h:=cB h hc43
        obtain ⟨x44,hx44,h⟩:=aX h
        refine aF (aA M (lra q9 la32 M M M M M (nle M) M)<|aA M (bU (r:=.bool _) M M (lb M) cl39 (.cons (svA q9 M) .nil) M (sP _ _ hx44))<|aA M (gD M M (lb M) (svB M))<|aA M (asB M M M M)<|aD ?_)
        refine aR (b:=_) M (fun hc45=>?_) (fun hc45=>?_)
        ·
         replace h:=cA h hc45
         refine aF (aA M (aG M M (lb M) (sv (d:=.int _ 9) M))<|aD ?_)
         refine aY ?_
         refine cO ?_
         refine bG ?_
         obtain rfl:=sj_ h
         refine ⟨.inr M,(.cons (sv M) .nil)⟩
        ·
         replace h:=cB h hc45
         refine aS ?_
         refine bJ ?_
         refine aM ?_
         refine aF (aA M (aG M M (lb M) (sv (d:=.int _ 0) M))<|aD ?_)
         refine aY ?_
         obtain rfl:=sj_ h
         refine ⟨.inr M,(.cons (sv M) .nil)⟩

theorem qT (a0:Int) (a1:Int) (a2:Int) (a3:(List aH)) (a4:(List Int)) (r:(List Int)) (h:lI a0 a1 a2 a3 a4=some r):FnH prog 45 [.agg (w29 a0 a1 (.osl 1000 aC.sz a3.length) (.osl 1001 (eInt .i64).sz a4.length)),.int .i64 a2] [(1000,.blk 53 (D.flat (a3.map aC.d))),(1001,.blk 3 (D.flat (a4.map (eInt .i64).d)))] (.osl 0 (eInt .i64).sz r.length) [(1000,.blk 53 (D.flat (a3.map aC.d))),(1001,.blk 3 (D.flat (a4.map (eInt .i64).d))),(0,.blk 3 (D.flat (r.map (eInt .i64).d)))]:=by
 refine dB (rs:=[.osl 0 (eInt .i64).sz r.length]) func45 M ntmps45 (nle M) fun O hO=>?_
 show IWP _ _ _ _ ⟨[(0,.agg (w29 a0 a1 (.osl 1000 aC.sz a3.length) (.osl 1001 (eInt .i64).sz a4.length))),(1,.int .i64 a2)],[(1000,.blk 53 (D.flat (a3.map aC.d))),(1001,.blk 3 (D.flat (a4.map (eInt .i64).d)))]⟩ _
 unfold lI at h
 refine aF (aA M (cK (cs:=q10) 0 M M (lb M) M (svA q10 M) M M)<|aA M (aG M M (lb M) (sv (d:=.nils) M))<|aD ?_)
 refine aF (aA M (aG M M (lb M) (sv (d:=.nils) M))<|aD ?_)
 refine aT ?_
 refine aF (aA M (faR 2 M M M underlying32 M ti29 (lb M) M M)<|aA M (aI (d:=.osl _ _ _) M M (lb M) underlying29 ag29 ti29 (by decide) (svR M) M (nle M) M)<|aA M (kV M M (lb M) underlying29 (sv (d:=.osl _ _ _) M))<|aA M (aO M M (lb M) (sv (d:=.int _ 0) M))<|aD ?_)
 refine bB ?_
 refine cP (α:=Nat × Int × (List Int) × Int) (fun z=>⟨[(1,.int .i64 z.2.1),(2,.ref 0 0),(5,.osl 22 (eInt .i64).sz z.2.2.1.length),(10,.int .i64 (a3.length:Int)),(11,.int .i64 z.2.2.2)],[(0,.blk 32 (w29 a0 a1 (.osl 1000 aC.sz a3.length) (.osl 1001 (eInt .i64).sz a4.length))),(22,.blk 3 (D.flat (z.2.2.1.map (eInt .i64).d))),(1000,.blk 53 (D.flat (a3.map aC.d))),(1001,.blk 3 (D.flat (a4.map (eInt .i64).d)))]⟩) (fun z=>eS a0 a1 a3 a4 z.1 z.2.1 z.2.2.1 z.2.2.2=some r) (fun z=>z.1) (fuel,a2,([]:(List Int)),0) (fun i=>if i=22 then 73 else i) ⟨(.s M M (.s M M (.cons (.nilo M) (.sames M M)))),(.cons (.blk M M M) (.cons (.nilb M) (.cons (EntW.lst M) (.cons (EntW.lst M) .nil)))),bE [0,73,1000,1001] M (by decide),(fun i hi=>by first | rfl | (show (if _ then _ else _)=_; (repeat' split) <;> omega))⟩ ?_ ?_
 ·exact h
 ·
  rintro ⟨n0,v13,v14,v15⟩ h
  cases n0 with
  | zero=>exact absurd h (by unfold eS; exact nofun)
  | succ n0 =>
   unfold eS at h
   obtain ⟨x28,hx28,h⟩:=bC h
   refine aF (aA M (aQ M M (lb M) (svI M) (svI M) M hx28)<|aD ?_)
   refine aT ?_
   refine aR (b:=_) M (fun hc29=>?_) (fun hc29=>?_)
   ·
    replace h:=cA h hc29
    refine aS ?_
    refine aM ?_
    refine aT ?_
    refine bB ?_
    obtain ⟨x30,hx30,h⟩:=aX h
    refine aF (aA M (lra q10 la32 M M M M M (nle M) M)<|aA M (mvI M M M M)<|aA M (kF (r:=.tuple [.int .i64 x30.1,.bool x30.2]) M M (lb M) cl28 (.cons (svA q10 M) (.cons (svI M) .nil)) (.cons (.agg (.k (.k (.cons (FDT aC M M) (.cons (FDT (eInt .i64) M M) .nil))))) (.all _)) M M (fC _ _ _ hx30))<|aA M (aO M M (lb M) (sv (d:=.tuple q21) M))<|aA M (bQ (d:=.int _ _) M M (lb M) (sv (d:=.tuple q21) M) M)<|aA M (bQ (d:=.bool _) M M (lb M) (sv (d:=.tuple q21) M) M)<|aA M (asI M M M M)<|aA M (asB M M M M)<|aD ?_)
    refine aT ?_
    obtain ⟨x31,hx31,h⟩:=aX h
    obtain ⟨x32,hx32,h⟩:=aX h
    obtain ⟨x33,hx33,h⟩:=bC h
    obtain ⟨x34,hx34,h⟩:=bC h
    refine aF (aA M (mvB M M M M)<|aA M (gD M M (lb M) (svB M))<|aA M (mvB M M M M)<|aN M M (.one M) M (by decide) (fun hb=>(faR 2 M M M underlying32 M ti29 (lb M) M M))<|aN M M (.one M) M (by decide) (fun hb=>(aI (d:=.osl _ _ _) M M (lb M) underlying29 ag29 ti29 (by decide) (svcR M hb) M (nle M) M))<|aN M M (.one M) M (by decide) (fun hb=>(mvI M M M M))<|aN M M (.one M) M (by decide) (fun hb=>(fY aC.toEnc0 M M (lb M) underlying29 ti53 (svc (d:=.osl _ _ _) M hb) M (svcI M hb) (gd_t hx31 hb)))<|aN M M (.one M) M (by decide) (fun hb=>(gN M M (lb M) underlying53 M ti3 (by decide) (svcR M hb) (k':=1) M))<|aN M M (.one M) M (by decide) (fun hb=>(fP aC.toEnc0 (d:=.int _ _) M M (lb M) underlying3 ag3 ti3 (by decide) (svcR M hb) M (gd_t hx32 hb) (nle M) M))<|aN M M (.one M) M (by decide) (fun hb=>(aQ M M (lb M) (svcI M hb) (sv (d:=.int _ 0) M) M hx33))<|aA M (kL M M (lb M) (svB M) M M hx34)<|aD ?_)
    refine aR (b:=_) M (fun hc35=>?_) (fun hc35=>?_)
    ·
     replace h:=cA h hc35
     refine cU ?_
     refine bK ?_
     refine aBL M ?_
     refine bK ?_
     refine bK ?_
     refine cW ?_
     refine aM ?_
     refine aF (aA M (aO M M (lb M) (sv (d:=.osl _ _ _) M))<|aA M (aG M M (lb M) (sv (d:=.osl _ _ _) M))<|aD ?_)
     refine aY ?_
     obtain rfl:=sj_ h
     refine ⟨.inr M,(fun i=>if i=0 then 22 else i),⟨.nil,(.cons (EntW.lst M) (.cons (EntW.lst M) (.cons (EntW.lst M) .nil))),bE [1000,1001,22] M (by decide),(fun i hi=>by first | rfl | (show (if _ then _ else _)=_; (repeat' split) <;> omega))⟩,(.cons (sv M) .nil),M⟩
    ·
     replace h:=cB h hc35
     refine aS ?_
     refine aM ?_
     obtain ⟨x36,hx36,h⟩:=aX h
     obtain ⟨x37,hx37,h⟩:=aX h
     refine aF (aA M (faR 2 M M M underlying32 M ti29 (lb M) M M)<|aA M (aI (d:=.osl _ _ _) M M (lb M) underlying29 ag29 ti29 (by decide) (svR M) M (nle M) M)<|aA M (mvI M M M M)<|aA M (fY aC.toEnc0 M M (lb M) underlying29 ti53 (sv (d:=.osl _ _ _) M) M (svI M) hx36)<|aA M (gN M M (lb M) underlying53 M ti3 (by decide) (svR M) (k':=1) M)<|aA M (fP aC.toEnc0 (d:=.int _ _) M M (lb M) underlying3 ag3 ti3 (by decide) (svR M) M hx37 (nle M) M)<|aA M (asI M M M M)<|aD ?_)
     obtain ⟨x38,hx38,h⟩:=aX h
     refine bA (aA M (aO M M (lb M) (sv (d:=.osl _ _ _) M))<|aA M (mvI M M M M)<|aA M (lD (eInt .i64).toEnc0 ([x37.Parent]:(List Int)) 23 M M (lb M) underlying30 ti3 M (.cons (svI M) .nil) M M (by decide))<|aA M (iH (eInt .i64).toEnc0 24 M M (lb M) underlying30 ti3 M M M M M (qP (eInt .i64).toEnc0 M M M) hx38)<|aA M (aG M M (lb M) (sv (d:=.osl _ _ _) M))<|bL ?_)
     refine bJ ?_
     refine aM ?_
     obtain ⟨x39,hx39,h⟩:=bC h
     refine bA (aA M (bO M M (lb M) (svI M) (sv (d:=.int _ 1) M) M hx39)<|aA M (mvI M M M M)<|bL ?_)
     refine aM ⟨(n0,x37.Parent,x38,x39),(fun i=>if i=22 then 24 else i),⟨(.sames M M),(.cons (.blk M M M) (.cons (EntW.lst M) (.cons (EntW.lst M) (.cons (EntW.lst M) .nil)))),bE [0,24,1000,1001] M (by decide),(fun i hi=>by first | rfl | (show (if _ then _ else _)=_; (repeat' split) <;> omega))⟩,?_,?_⟩
     exact h
     exact Nat.lt_succ_self _
   ·
    replace h:=cB h hc29
    refine cU ?_
    refine bK ?_
    refine bK ?_
    refine cW ?_
    refine aM ?_
    refine aF (aA M (aO M M (lb M) (sv (d:=.osl _ _ _) M))<|aA M (aG M M (lb M) (sv (d:=.osl _ _ _) M))<|aD ?_)
    refine aY ?_
    obtain rfl:=sj_ h
    refine ⟨.inr M,(fun i=>if i=0 then 22 else i),⟨.nil,(.cons (EntW.lst M) (.cons (EntW.lst M) (.cons (EntW.lst M) .nil))),bE [1000,1001,22] M (by decide),(fun i hi=>by first | rfl | (show (if _ then _ else _)=_; (repeat' split) <;> omega))⟩,(.cons (sv M) .nil),M⟩

theorem oP (a0:Int) (a1:Int) (a2:dD) (a3:(List aH)) (a4:(List Int)) (r:(Int × Int × (List aH) × (List Int))) (h:iT a0 a1 a2 a3 a4=some r):FnH prog 54 [.agg (w29 a0 a1 (.osl 1000 aC.sz a3.length) (.osl 1001 (eInt .i64).sz a4.length)),.agg (v1 a2)] [(1000,.blk 53 (D.flat (a3.map aC.d))),(1001,.blk 3 (D.flat (a4.map (eInt .i64).d)))] (.agg (w29 r.1 r.2.1 (.osl 0 aC.sz r.2.2.1.length) (.osl 1 (eInt .i64).sz r.2.2.2.length))) [(0,.blk 53 (D.flat (r.2.2.1.map aC.d))),(1,.blk 3 (D.flat (r.2.2.2.map (eInt .i64).d)))]:=by
 refine dB (rs:=[.agg (w29 r.1 r.2.1 (.osl 0 aC.sz r.2.2.1.length) (.osl 1 (eInt .i64).sz r.2.2.2.length))]) func54 M ntmps54 (nle M) fun O hO=>?_
 show IWP _ _ _ _ ⟨[(0,.agg (w29 a0 a1 (.osl 1000 aC.sz a3.length) (.osl 1001 (eInt .i64).sz a4.length))),(1,.agg (v1 a2))],[(1000,.blk 53 (D.flat (a3.map aC.d))),(1001,.blk 3 (D.flat (a4.map (eInt .i64).d)))]⟩ _
 unfold iT at h
 refine aF (aA M (cK (cs:=q10) 0 M M (lb M) M (svA q10 M) M M)<|aA M (cK (cs:=q8) 1 M M (lb M) M (svA q8 M) M M)<|aA M (cT (cs:=q12) (cs':=(w25 0 0 ([]:List aH) ([]:List Int))) 2 M M (lb M) M ti32 M M (.k (.k (.cons (.nils _) (.cons (.nils _) .nil)))))<|aD ?_)
 obtain ⟨x1,hx1,h⟩:=aX h
 refine aF (aA M (lra q10 la32 M M M M M (nle M) M)<|aA M (faR 2 M M M underlying37 M ti3 (lb M) M M)<|aA M (aI (d:=.int _ _) M M (lb M) underlying3 ag3 ti3 (by decide) (svR M) M (nle M) M)<|aA M (kF (r:=.tuple [.int .i64 x1.1,.bool x1.2]) M M (lb M) cl28 (.cons (svA q10 M) (.cons (svI M) .nil)) (.cons (.agg (.k (.k (.cons (FDT aC M M) (.cons (FDT (eInt .i64) M M) .nil))))) (.all _)) M M (fC _ _ _ hx1))<|aA M (aO M M (lb M) (sv (d:=.tuple q21) M))<|aA M (bQ (d:=.int _ _) M M (lb M) (sv (d:=.tuple q21) M) M)<|aA M (bQ (d:=.bool _) M M (lb M) (sv (d:=.tuple q21) M) M)<|aA M (asI M M M M)<|aA M (asB M M M M)<|aD ?_)
 refine mN (α:=Int × Int × Int × Bool) (fun z=>⟨[(2,.ref 0 0),(3,.ref 1 0),(4,.ref 2 0),(5,.int .i64 x1.1),(6,.bool x1.2)],[(0,.blk 32 (w29 a0 a1 (.osl 1000 aC.sz a3.length) (.osl 1001 (eInt .i64).sz a4.length))),(1,.blk 37 (w27 z.1 a2.ID z.2.1 z.2.2.1 z.2.2.2)),(2,.blk 32 (w25 0 0 ([]:List aH) ([]:List Int))),(1000,.blk 53 (D.flat (a3.map aC.d))),(1001,.blk 3 (D.flat (a4.map (eInt .i64).d)))]⟩) (fun z=>gP a0 a1 a2 a3 a4 x1 z.1 z.2.1 z.2.2.1 z.2.2.2=some r) ?_ ?_
 ·
  obtain ⟨x83,hx83,h⟩:=bC h
  obtain ⟨x84,hx84,h⟩:=bC h
  refine aF (aA M (mvB M M M M)<|aA M (gD M M (lb M) (svB M))<|aA M (mvB M M M M)<|aN M M (.one M) M (by decide) (fun hb=>(faR 2 M M M underlying37 M ti3 (lb M) M M))<|aN M M (.one M) M (by decide) (fun hb=>(aI (d:=.int _ _) M M (lb M) underlying3 ag3 ti3 (by decide) (svcR M hb) M (nle M) M))<|aN M M (.one M) M (by decide) (fun hb=>(aQ M M (lb M) (svcI M hb) (sv (d:=.int _ 0) M) M hx83))<|aA M (fE M M (lb M) (svB M) M M hx84)<|aD ?_)
  refine aR (b:=_) M (fun hc85=>?_) (fun hc85=>?_)
  ·
   replace h:=cA h hc85
   refine bA (aA M (faR 1 M M M underlying37 M ti3 (lb M) M M)<|aA M (aI (d:=.int _ _) M M (lb M) underlying3 ag3 ti3 (by decide) (svR M) M (nle M) M)<|aA M (cJ (cs:=q8) M M (lb M) underlying37 ti37 pl37 M (.cons (svI M) (.cons (sv (d:=.int _ 16) M) .nil)) M)<|aA M (stA q8 q8 ti37 M M M M M M M M (nle M) M)<|bL ?_)
   refine aM ⟨(0,0,16,false),(fun i=>i),⟨(.sames M M),(.cons (.blk M M M) (.cons (.blk M M M) (.cons (.blk M M M) (.cons (EntW.lst M) (.cons (EntW.lst M) .nil))))),bE [0,1,2,1000,1001] M (by decide),fun _ _=>M⟩,?_⟩
   exact h
  ·
   replace h:=cB h hc85
   refine aS ?_
   refine aM ⟨(a2.Kind,a2.Dep,a2.Weight,a2.Only),(fun i=>i),⟨(.sames M M),(.cons (.blk M M M) (.cons (.blk M M M) (.cons (.blk M M M) (.cons (EntW.lst M) (.cons (EntW.lst M) .nil))))),bE [0,1,2,1000,1001] M (by decide),fun _ _=>M⟩,?_⟩
   exact h
 ·
  rintro ⟨v5,v6,v7,v8⟩ h
  unfold gP at h
  obtain ⟨x9,hx9,h⟩:=aX h
  refine aF (aA M (lra q10 la32 M M M M M (nle M) M)<|aA M (faR 1 M M M underlying37 M ti3 (lb M) M M)<|aA M (aI (d:=.int _ _) M M (lb M) underlying3 ag3 ti3 (by decide) (svR M) M (nle M) M)<|aA M (kF (r:=.tuple [.int .i64 x9.1,.bool x9.2]) M M (lb M) cl28 (.cons (svA q10 M) (.cons (svI M) .nil)) (.cons (.agg (.k (.k (.cons (FDT aC M M) (.cons (FDT (eInt .i64) M M) .nil))))) (.all _)) M M (fC _ _ _ hx9))<|aA M (aO M M (lb M) (sv (d:=.tuple q21) M))<|aA M (bQ (d:=.int _ _) M M (lb M) (sv (d:=.tuple q21) M) M)<|aA M (bQ (d:=.bool _) M M (lb M) (sv (d:=.tuple q21) M) M)<|aA M (asI M M M M)<|aA M (asB M M M M)<|aD ?_)
  refine mN (α:=(List aH)) (fun z=>⟨[(2,.ref 0 0),(3,.ref 1 0),(4,.ref 2 0),(7,.int .i64 x9.1)],[(0,.blk 32 (w29 a0 a1 (.osl 1000 aC.sz z.length) (.osl 1001 (eInt .i64).sz a4.length))),(1,.blk 37 (w27 v5 a2.ID v6 v7 v8)),(2,.blk 32 (w25 0 0 ([]:List aH) ([]:List Int))),(1000,.blk 53 (D.flat (z.map aC.d))),(1001,.blk 3 (D.flat (a4.map (eInt .i64).d)))]⟩) (fun z=>gO a0 a1 a2 a4 v6 v7 v8 x9 z=some r) ?_ ?_
  ·
   refine by_bool (x1.2) (fun hc72=>?_) (fun hc72=>?_)
   ·
    replace h:=cA h hc72
    obtain ⟨x73,hx73,h⟩:=aX h
    obtain ⟨x74,hx74,h⟩:=aX h
    obtain ⟨x75,hx75,h⟩:=bC h
    refine iR M [⟨[6],[],[(35,.bool x1.2)],[]⟩,
     ⟨[35],[],[(36,.bool x1.2)],[]⟩,
     ⟨[2,36],[0],[(37,.agg (w29 a0 a1 (.osl 1000 aC.sz a3.length) (.osl 1001 (eInt .i64).sz a4.length)))],[]⟩,
     ⟨[3,36],[],[(38,.ref 1 2)],[]⟩,
     ⟨[36,38],[1],[(39,.int .i64 v6)],[]⟩,
     ⟨[36,37,39],[3,1000,1001],[(40,.osl 3 (eInt .i64).sz x73.length)],[(1000,.blk 53 (D.flat (a3.map aC.d))),(1001,.blk 3 (D.flat (a4.map (eInt .i64).d))),(3,.blk 3 (D.flat (x73.map (eInt .i64).d))),(1000,.none),(1001,.none)]⟩,
     ⟨[3,36],[],[(41,.ref 1 1)],[]⟩,
     ⟨[36,41],[1],[(42,.int .i64 a2.ID)],[]⟩,
     ⟨[36,40,42],[3],[(43,.bool x74)],[]⟩,
     ⟨[36,43],[],[(44,.bool x75)],[]⟩] M ?_ (by kernel_rfl) ?_
    ·refine .cons (lop M M fun S hA=>(aO M M (lb M) (svaB hA M M))) ?_
     refine .cons (lop M M fun S hA=>(aO M M (lb M) (svaB hA M M))) ?_
     refine .cons (lopk M M M M (fun S hA=>grd1 hA M M) (by rw [hc72]; rfl) fun S hA=>(lC (cs:=q10) M M (lb M) underlying32 ag32 ti32 (by decide) (svaR hA M M) (agi hA M M) (nle M) M)) ?_
     refine .cons (lopk M M M M (fun S hA=>grd1 hA M M) (by rw [hc72]; rfl) fun S hA=>(aP M M (lb M) underlying37 M ti3 (by decide) (svaR hA M M) (off':=2) M)) ?_
     refine .cons (lopk M M M M (fun S hA=>grd1 hA M M) (by rw [hc72]; rfl) fun S hA=>(aI (d:=.int _ _) M M (lb M) underlying3 ag3 ti3 (by decide) (svaR hA M M) (agi hA M M) (nle M) M)) ?_
     refine .cons (lopk M M M M (fun S hA=>grd1 hA M M) (by rw [hc72]; rfl) fun S hA=>(mI (r':=.osl 3 (eInt .i64).sz x73.length) (U:=[(1000,.blk 53 (D.flat (a3.map aC.d))),(1001,.blk 3 (D.flat (a4.map (eInt .i64).d))),(3,.blk 3 (D.flat (x73.map (eInt .i64).d))),(1000,.none),(1001,.none)]) 3 1 [1000,1001] M M (lb M) cl45 (.cons (svaA q10 hA M M) (.cons (svaI hA M M) .nil)) M M M (List.forall_mem_cons.2 ⟨(agi hA M M),List.forall_mem_nil _⟩) ⟨by decide,M,List.forall_mem_cons.2 ⟨⟨M,M,(iF aC (agi hA M M)),(bP aC)⟩,List.forall_mem_cons.2 ⟨⟨M,M,(iF (eInt .i64) (agi hA M M)),(bP (eInt .i64))⟩,List.forall_mem_nil _⟩⟩⟩ (qT _ _ _ _ _ _ hx73) M M (List.forall_mem_cons.2 ⟨⟨M,(bP aC)⟩,List.forall_mem_cons.2 ⟨⟨M,(bP (eInt .i64))⟩,List.forall_mem_cons.2 ⟨⟨M,(bP (eInt .i64))⟩,List.forall_mem_nil _⟩⟩⟩) (by simp only [List.map_cons,List.map_nil,Ent.ren,bT,cE]; rfl))) ?_
     refine .cons (lopk M M M M (fun S hA=>grd1 hA M M) (by rw [hc72]; rfl) fun S hA=>(aP M M (lb M) underlying37 M ti3 (by decide) (svaR hA M M) (off':=1) M)) ?_
     refine .cons (lopk M M M M (fun S hA=>grd1 hA M M) (by rw [hc72]; rfl) fun S hA=>(aI (d:=.int _ _) M M (lb M) underlying3 ag3 ti3 (by decide) (svaR hA M M) (agi hA M M) (nle M) M)) ?_
     refine .cons (lopk M M M M (fun S hA=>grd1 hA M M) (by rw [hc72]; rfl) fun S hA=>(kF (r:=.bool x74) M M (lb M) cl46 (.cons (sv (d:=.osl _ _ _) (agr hA M M)) (.cons (svaI hA M M) .nil)) (.cons (FDT (eInt .i64) (agi hA M M) M) (.all _)) M M (gU _ _ _ hx74))) ?_
     refine .cons (lop M M fun S hA=>(sX M M (lb M) (svaB hA M M) (agr hA M M) M hx75)) ?_
     exact .nil
    refine aR (b:=_) M (fun hc76=>?_) (fun hc76=>?_)
    ·
     replace h:=cA h hc76
     obtain ⟨x77,hx77,h⟩:=aX h
     obtain ⟨x78,hx78,h⟩:=aX h
     obtain ⟨x79,hx79,h⟩:=aX h
     obtain ⟨x80,hx80,h⟩:=aX h
     obtain ⟨x81,hx81,h⟩:=bC h
     refine lH M [⟨[2],[],[(45,.ref 0 2)],[]⟩,
      ⟨[45],[0],[(46,.osl 1000 aC.sz a3.length)],[]⟩,
      ⟨[5],[],[(47,.int .i64 x1.1)],[]⟩,
      ⟨[2],[],[(48,.ref 0 2)],[]⟩,
      ⟨[48],[0],[(49,.osl 1000 aC.sz a3.length)],[]⟩,
      ⟨[7],[],[(50,.int .i64 x9.1)],[]⟩,
      ⟨[49,50],[],[(51,.ref 1000 (((x9.1:Int).toNat) * aC.sz + 0))],[]⟩,
      ⟨[51],[],[(52,.ref 1000 (((x9.1:Int).toNat) * aC.sz + 1))],[]⟩,
      ⟨[52],[1000],[(53,.int .i64 x78.Parent)],[]⟩,
      ⟨[46,47],[],[(54,.ref 1000 (((x1.1:Int).toNat) * aC.sz + 0))],[]⟩,
      ⟨[54],[],[(55,.ref 1000 (((x1.1:Int).toNat) * aC.sz + 1))],[]⟩,
      ⟨[53,55],[1000],[],[(1000,.blk 53 (D.flat (x81.map aC.d)))]⟩] M ?_ (by kernel_rfl) ?_
     ·refine .cons (lop M M fun S hA=>(aP M M (lb M) underlying32 M ti29 (by decide) (svaR hA M M) (off':=2) M)) ?_
      refine .cons (lop M M fun S hA=>(aI (d:=.osl _ _ _) M M (lb M) underlying29 ag29 ti29 (by decide) (svaR hA M M) (agi hA M M) (nle M) M)) ?_
      refine .cons (lop M M fun S hA=>(aO M M (lb M) (svaI hA M M))) ?_
      refine .cons (lop M M fun S hA=>(aP M M (lb M) underlying32 M ti29 (by decide) (svaR hA M M) (off':=2) M)) ?_
      refine .cons (lop M M fun S hA=>(aI (d:=.osl _ _ _) M M (lb M) underlying29 ag29 ti29 (by decide) (svaR hA M M) (agi hA M M) (nle M) M)) ?_
      refine .cons (lop M M fun S hA=>(aO M M (lb M) (svaI hA M M))) ?_
      refine .cons (lop M M fun S hA=>(fY aC.toEnc0 M M (lb M) underlying29 ti53 (sv (d:=.osl _ _ _) (agr hA M M)) M (svaI hA M M) hx77)) ?_
      refine .cons (lop M M fun S hA=>(gN M M (lb M) underlying53 M ti3 (by decide) (svaR hA M M) (k':=1) M)) ?_
      refine .cons (lop M M fun S hA=>(fP aC.toEnc0 (d:=.int _ _) M M (lb M) underlying3 ag3 ti3 (by decide) (svaR hA M M) (agi hA M M) hx78 (nle M) M)) ?_
      refine .cons (lop M M fun S hA=>(fY aC.toEnc0 M M (lb M) underlying29 ti53 (sv (d:=.osl _ _ _) (agr hA M M)) M (svaI hA M M) hx79)) ?_
      refine .cons (lop M M fun S hA=>(gN M M (lb M) underlying53 M ti3 (by decide) (svaR hA M M) (k':=1) M)) ?_
      refine .cons (lop M M fun S hA=>(lN aC.toEnc0 (a':=(⟨x80.ID,x78.Parent,x80.Weight,x80.Closed⟩:aH)) M M ti3 (svaR hA M M) (agi hA M M) (svaI hA M M) M M M hx80 (nle M) M hx81)) ?_
      exact .nil
     refine aM ⟨x81,(fun i=>i),⟨(.sames M M),(.cons (.blk M (by rw [← (iQ hx81 M)]; rfl) M) (.cons (.blk M M M) (.cons (.blk M M M) (.cons (EntW.lst M) (.cons (EntW.lst M) .nil))))),bE [0,1,2,1000,1001] M (by decide),fun _ _=>M⟩,?_⟩
     exact h
    ·
     replace h:=cB h hc76
     refine aS ?_
     refine aM ⟨a3,(fun i=>i),⟨(.sames M M),(.cons (.blk M M M) (.cons (.blk M M M) (.cons (.blk M M M) (.cons (EntW.lst M) (.cons (EntW.lst M) .nil))))),bE [0,1,2,1000,1001] M (by decide),fun _ _=>M⟩,?_⟩
     exact h
   ·
    replace h:=cB h hc72
    obtain ⟨x82,hx82,h⟩:=bC h
    refine iR M [⟨[6],[],[(35,.bool x1.2)],[]⟩,
     ⟨[35],[],[(36,.bool x1.2)],[]⟩,
     ⟨[36],[],[(37,.cnd (x1.2 == true) (.bool false))],[]⟩,
     ⟨[36],[],[(38,.cnd (x1.2 == true) (.bool false))],[]⟩,
     ⟨[36],[],[(39,.cnd (x1.2 == true) (.bool false))],[]⟩,
     ⟨[36],[],[(40,.cnd (x1.2 == true) (.bool false))],[]⟩,
     ⟨[36],[],[(41,.cnd (x1.2 == true) (.bool false))],[]⟩,
     ⟨[36],[],[(42,.cnd (x1.2 == true) (.bool false))],[]⟩,
     ⟨[36],[],[(43,.cnd (x1.2 == true) (.bool false))],[]⟩,
     ⟨[36,43],[],[(44,.bool x82)],[]⟩] M ?_ (by kernel_rfl) ?_
    ·refine .cons (lop M M fun S hA=>(aO M M (lb M) (svaB hA M M))) ?_
     refine .cons (lop M M fun S hA=>(aO M M (lb M) (svaB hA M M))) ?_
     refine .cons (lopg M M M M (by decide) (fun S hA=>grd1 hA M M) (fun S hA hb=>absurd hb (by rw [hc72]; decide))) ?_
     refine .cons (lopg M M M M (by decide) (fun S hA=>grd1 hA M M) (fun S hA hb=>absurd hb (by rw [hc72]; decide))) ?_
     refine .cons (lopg M M M M (by decide) (fun S hA=>grd1 hA M M) (fun S hA hb=>absurd hb (by rw [hc72]; decide))) ?_
     refine .cons (lopg M M M M (by decide) (fun S hA=>grd1 hA M M) (fun S hA hb=>absurd hb (by rw [hc72]; decide))) ?_
     refine .cons (lopg M M M M (by decide) (fun S hA=>grd1 hA M M) (fun S hA hb=>absurd hb (by rw [hc72]; decide))) ?_
     refine .cons (lopg M M M M (by decide) (fun S hA=>grd1 hA M M) (fun S hA hb=>absurd hb (by rw [hc72]; decide))) ?_
     refine .cons (lopg M M M M (by decide) (fun S hA=>grd1 hA M M) (fun S hA hb=>absurd hb (by rw [hc72]; decide))) ?_
     refine .cons (lop M M fun S hA=>(fE M M (lb M) (svaB hA M M) (agr hA M M) M hx82)) ?_
     exact .nil
    refine jD M (and_cf hx82 hc72) ?_
    refine aS ?_
    refine aM ⟨a3,(fun i=>i),⟨(.sames M M),(.cons (.blk M M M) (.cons (.blk M M M) (.cons (.blk M M M) (.cons (EntW.lst M) (.cons (EntW.lst M) .nil))))),bE [0,1,2,1000,1001] M (by decide),fun _ _=>M⟩,?_⟩
    exact h
  ·
   rintro v21 h
   unfold gO at h
   refine aT ?_
   refine aF (aA M (faR 2 M M M underlying32 M ti29 (lb M) M M)<|aA M (aI (d:=.osl _ _ _) M M (lb M) underlying29 ag29 ti29 (by decide) (svR M) M (nle M) M)<|aA M (kV M M (lb M) underlying29 (sv (d:=.osl _ _ _) M))<|aA M (aO M M (lb M) (sv (d:=.int _ 0) M))<|aD ?_)
   refine bB ?_
   refine cP (α:=Nat × Int × (List aH)) (fun z=>⟨[(2,.ref 0 0),(3,.ref 1 0),(4,.ref 2 0),(7,.int .i64 x9.1),(58,.int .i64 (v21.length:Int)),(59,.int .i64 z.2.1)],[(0,.blk 32 (w29 a0 a1 (.osl 1000 aC.sz z.2.2.length) (.osl 1001 (eInt .i64).sz a4.length))),(1,.blk 37 (w27 v5 a2.ID v6 v7 v8)),(2,.blk 32 (w25 0 0 ([]:List aH) ([]:List Int))),(1000,.blk 53 (D.flat (z.2.2.map aC.d))),(1001,.blk 3 (D.flat (a4.map (eInt .i64).d)))]⟩) (fun z=>fA a0 a1 a2 a4 v6 v7 v8 x9 v21 z.1 z.2.1 z.2.2=some r) (fun z=>z.1) (fuel,0,v21) (fun i=>i) ⟨(.sames M M),(.cons (.blk M M M) (.cons (.blk M M M) (.cons (.blk M M M) (.cons (EntW.lst M) (.cons (EntW.lst M) .nil))))),bE [0,1,2,1000,1001] M (by decide),fun _ _=>M⟩ ?_ ?_
   ·exact h
   ·
    rintro ⟨n2,v36,v37⟩ h
    cases n2 with
    | zero=>exact absurd h (by unfold fA; exact nofun)
    | succ n2 =>
     unfold fA at h
     obtain ⟨x52,hx52,h⟩:=bC h
     refine aF (aA M (aQ M M (lb M) (svI M) (svI M) M hx52)<|aD ?_)
     refine aT ?_
     refine aR (b:=_) M (fun hc53=>?_) (fun hc53=>?_)
     ·
      replace h:=cA h hc53
      refine aS ?_
      refine aM ?_
      refine aT ?_
      refine bB ?_
      refine aF (aA M (mvI M M M M)<|aA M (asI M M M M)<|aD ?_)
      obtain ⟨x54,hx54,h⟩:=aX h
      refine aF (aA M (faR 2 M M M underlying32 M ti29 (lb M) M M)<|aA M (aI (d:=.osl _ _ _) M M (lb M) underlying29 ag29 ti29 (by decide) (svR M) M (nle M) M)<|aA M (mvI M M M M)<|aA M (fY aC.toEnc0 M M (lb M) underlying29 ti53 (sv (d:=.osl _ _ _) M) M (svI M) hx54)<|aA M (aG M M (lb M) (svR M))<|aD ?_)
      obtain ⟨x55,hx55,h⟩:=aX h
      obtain ⟨x56,hx56,h⟩:=bC h
      obtain ⟨x57,hx57,h⟩:=bC h
      obtain ⟨x58,hx58,h⟩:=aX h
      obtain ⟨x59,hx59,h⟩:=bC h
      obtain ⟨x60,hx60,h⟩:=bC h
      refine iR M [⟨[3],[],[(66,.ref 1 4)],[]⟩,
       ⟨[66],[1],[(67,.bool v8)],[]⟩,
       ⟨[67],[],[(68,.bool v8)],[]⟩,
       ⟨[10,68],[],[(69,.cnd (v8 == true) (.ref 1000 (((v36:Int).toNat) * aC.sz + 0)))],[]⟩,
       ⟨[68,69],[],[(70,.cnd (v8 == true) (.ref 1000 (((v36:Int).toNat) * aC.sz + 0)))],[]⟩,
       ⟨[68,70],[],[(71,.cnd (v8 == true) (.ref 1000 (((v36:Int).toNat) * aC.sz + 1)))],[]⟩,
       ⟨[68,71],[1000],[(72,.cnd (v8 == true) (.int .i64 x55.Parent))],[]⟩,
       ⟨[3,68],[],[(73,.cnd (v8 == true) (.ref 1 2))],[]⟩,
       ⟨[68,73],[1],[(74,.cnd (v8 == true) (.int .i64 v6))],[]⟩,
       ⟨[68,72,74],[],[(75,.cnd (v8 == true) (.bool x56))],[]⟩,
       ⟨[68,75],[],[(76,.bool x57)],[]⟩,
       ⟨[76],[],[(77,.bool x57)],[]⟩,
       ⟨[10,77],[],[(78,.cnd (x57 == true) (.ref 1000 (((v36:Int).toNat) * aC.sz + 0)))],[]⟩,
       ⟨[77,78],[],[(79,.cnd (x57 == true) (.ref 1000 (((v36:Int).toNat) * aC.sz + 0)))],[]⟩,
       ⟨[77,79],[],[(80,.cnd (x57 == true) (.ref 1000 (((v36:Int).toNat) * aC.sz + 0)))],[]⟩,
       ⟨[77,80],[1000],[(81,.cnd (x57 == true) (.int .i64 x58.ID))],[]⟩,
       ⟨[3,77],[],[(82,.cnd (x57 == true) (.ref 1 1))],[]⟩,
       ⟨[77,82],[1],[(83,.cnd (x57 == true) (.int .i64 a2.ID))],[]⟩,
       ⟨[77,81,83],[],[(84,.cnd (x57 == true) (.bool x59))],[]⟩,
       ⟨[77,84],[],[(85,.bool x60)],[]⟩] M ?_ (by kernel_rfl) ?_
      ·refine .cons (lop M M fun S hA=>(aP M M (lb M) underlying37 M ti4 (by decide) (svaR hA M M) (off':=4) M)) ?_
       refine .cons (lop M M fun S hA=>(aI (d:=.bool _) M M (lb M) underlying4 ag4 ti4 (by decide) (svaR hA M M) (agi hA M M) (nle M) M)) ?_
       refine .cons (lop M M fun S hA=>(aO M M (lb M) (svaB hA M M))) ?_
       refine .cons (lopg M M M M (by decide) (fun S hA=>grd1 hA M M) (fun S hA hb=>(aO M M (lb M) (svaR hA M M)))) ?_
       refine .cons (lopg M M M M (by decide) (fun S hA=>grd1 hA M M) (fun S hA hb=>(aL M M (lb M) (svc (d:=.ref _ _) (agr hA M M) hb)))) ?_
       refine .cons (lopg M M M M (by decide) (fun S hA=>grd1 hA M M) (fun S hA hb=>(gN M M (lb M) underlying53 M ti3 (by decide) (svc (d:=.ref _ _) (agr hA M M) hb) (k':=1) M))) ?_
       refine .cons (lopg M M M M (by decide) (fun S hA=>grd1 hA M M) (fun S hA hb=>(fP aC.toEnc0 (d:=.int _ _) M M (lb M) underlying3 ag3 ti3 (by decide) (svc (d:=.ref _ _) (agr hA M M) hb) (agi hA M M) (gd_t hx55 hb) (nle M) M))) ?_
       refine .cons (lopg M M M M (by decide) (fun S hA=>grd1 hA M M) (fun S hA hb=>(aP M M (lb M) underlying37 M ti3 (by decide) (svaR hA M M) (off':=2) M))) ?_
       refine .cons (lopg M M M M (by decide) (fun S hA=>grd1 hA M M) (fun S hA hb=>(aI (d:=.int _ _) M M (lb M) underlying3 ag3 ti3 (by decide) (svc (d:=.ref _ _) (agr hA M M) hb) (agi hA M M) (nle M) M))) ?_
       refine .cons (lopg M M M M (by decide) (fun S hA=>grd1 hA M M) (fun S hA hb=>(aQ M M (lb M) (svc (d:=.int _ _) (agr hA M M) hb) (svc (d:=.int _ _) (agr hA M M) hb) M hx56))) ?_
       refine .cons (lop M M fun S hA=>(fE M M (lb M) (svaB hA M M) (agr hA M M) M hx57)) ?_
       refine .cons (lop M M fun S hA=>(aO M M (lb M) (svaB hA M M))) ?_
       refine .cons (lopg M M M M (by decide) (fun S hA=>grd1 hA M M) (fun S hA hb=>(aO M M (lb M) (svaR hA M M)))) ?_
       refine .cons (lopg M M M M (by decide) (fun S hA=>grd1 hA M M) (fun S hA hb=>(aL M M (lb M) (svc (d:=.ref _ _) (agr hA M M) hb)))) ?_
       refine .cons (lopg M M M M (by decide) (fun S hA=>grd1 hA M M) (fun S hA hb=>(gN M M (lb M) underlying53 M ti3 (by decide) (svc (d:=.ref _ _) (agr hA M M) hb) (k':=0) M))) ?_
       refine .cons (lopg M M M M (by decide) (fun S hA=>grd1 hA M M) (fun S hA hb=>(fP aC.toEnc0 (d:=.int _ _) M M (lb M) underlying3 ag3 ti3 (by decide) (svc (d:=.ref _ _) (agr hA M M) hb) (agi hA M M) (gd_t hx58 hb) (nle M) M))) ?_
       refine .cons (lopg M M M M (by decide) (fun S hA=>grd1 hA M M) (fun S hA hb=>(aP M M (lb M) underlying37 M ti3 (by decide) (svaR hA M M) (off':=1) M))) ?_
       refine .cons (lopg M M M M (by decide) (fun S hA=>grd1 hA M M) (fun S hA hb=>(aI (d:=.int _ _) M M (lb M) underlying3 ag3 ti3 (by decide) (svc (d:=.ref _ _) (agr hA M M) hb) (agi hA M M) (nle M) M))) ?_
       refine .cons (lopg M M M M (by decide) (fun S hA=>grd1 hA M M) (fun S hA hb=>(aQ M M (lb M) (svc (d:=.int _ _) (agr hA M M) hb) (svc (d:=.int _ _) (agr hA M M) hb) M hx59))) ?_
       refine .cons (lop M M fun S hA=>(fE M M (lb M) (svaB hA M M) (agr hA M M) M hx60)) ?_
       exact .nil
      refine aR (b:=_) M (fun hc61=>?_) (fun hc61=>?_)
      ·
       replace h:=cA h hc61
       obtain ⟨x62,hx62,h⟩:=aX h
       obtain ⟨x63,hx63,h⟩:=bC h
       refine bA (aA M (mvR M M M M)<|aA M (faR 1 M M M underlying37 M ti3 (lb M) M M)<|aA M (aI (d:=.int _ _) M M (lb M) underlying3 ag3 ti3 (by decide) (svR M) M (nle M) M)<|aA M (aL M M (lb M) (svR M))<|aA M (gN M M (lb M) underlying53 M ti3 (by decide) (svR M) (k':=1) M)<|aA M (lN aC.toEnc0 (a':=(⟨x62.ID,a2.ID,x62.Weight,x62.Closed⟩:aH)) M M ti3 (svR M) M (svI M) M M M hx62 (nle M) M hx63)<|bL ?_)
       refine bJ ?_
       refine aM ?_
       obtain ⟨x64,hx64,h⟩:=bC h
       refine bA (aA M (bO M M (lb M) (svI M) (sv (d:=.int _ 1) M) M hx64)<|aA M (mvI M M M M)<|bL ?_)
       refine aM ⟨(n2,x64,x63),(fun i=>i),⟨(.sames M M),(.cons (.blk M (by rw [← (iQ hx63 M)]; rfl) M) (.cons (.blk M M M) (.cons (.blk M M M) (.cons (EntW.lst M) (.cons (EntW.lst M) .nil))))),bE [0,1,2,1000,1001] M (by decide),fun _ _=>M⟩,?_,?_⟩
       exact h
       exact Nat.lt_succ_self _
      ·
       replace h:=cB h hc61
       refine aS ?_
       refine bJ ?_
       refine aM ?_
       obtain ⟨x65,hx65,h⟩:=bC h
       refine bA (aA M (bO M M (lb M) (svI M) (sv (d:=.int _ 1) M) M hx65)<|aA M (mvI M M M M)<|bL ?_)
       refine aM ⟨(n2,x65,v37),(fun i=>i),⟨(.sames M M),(.cons (.blk M M M) (.cons (.blk M M M) (.cons (.blk M M M) (.cons (EntW.lst M) (.cons (EntW.lst M) .nil))))),bE [0,1,2,1000,1001] M (by decide),fun _ _=>M⟩,?_,?_⟩
       exact h
       exact Nat.lt_succ_self _
     ·
      replace h:=cB h hc53
      refine cU ?_
      refine bK ?_
      refine bK ?_
      refine cW ?_
      refine aM ?_
      obtain ⟨x66,hx66,h⟩:=aX h
      obtain ⟨x67,hx67,h⟩:=aX h
      obtain ⟨x68,hx68,h⟩:=bC h
      obtain ⟨x69,hx69,h⟩:=aX h
      obtain ⟨x70,hx70,h⟩:=aX h
      obtain ⟨x71,hx71,h⟩:=bC h
      refine iR M [⟨[2],[],[(92,.ref 0 2)],[]⟩,
       ⟨[92],[0],[(93,.osl 1000 aC.sz v37.length)],[]⟩,
       ⟨[7],[],[(94,.int .i64 x9.1)],[]⟩,
       ⟨[2],[],[(95,.ref 0 2)],[]⟩,
       ⟨[95],[0],[(96,.osl 1000 aC.sz v37.length)],[]⟩,
       ⟨[7],[],[(97,.int .i64 x9.1)],[]⟩,
       ⟨[3],[],[(98,.ref 1 2)],[]⟩,
       ⟨[98],[1],[(99,.int .i64 v6)],[]⟩,
       ⟨[3],[],[(100,.ref 1 3)],[]⟩,
       ⟨[100],[1],[(101,.int .i64 v7)],[]⟩,
       ⟨[93,94],[],[(102,.ref 1000 (((x9.1:Int).toNat) * aC.sz + 0))],[]⟩,
       ⟨[102],[],[(103,.ref 1000 (((x9.1:Int).toNat) * aC.sz + 1))],[]⟩,
       ⟨[99,103],[1000],[],[(1000,.blk 53 (D.flat (x68.map aC.d)))]⟩,
       ⟨[96,97],[],[(104,.ref 1000 (((x9.1:Int).toNat) * aC.sz + 0))],[]⟩,
       ⟨[104],[],[(105,.ref 1000 (((x9.1:Int).toNat) * aC.sz + 2))],[]⟩,
       ⟨[101,105],[1000],[],[(1000,.blk 53 (D.flat (x71.map aC.d)))]⟩] M ?_ (by kernel_rfl) ?_
      ·refine .cons (lop M M fun S hA=>(aP M M (lb M) underlying32 M ti29 (by decide) (svaR hA M M) (off':=2) M)) ?_
       refine .cons (lop M M fun S hA=>(aI (d:=.osl _ _ _) M M (lb M) underlying29 ag29 ti29 (by decide) (svaR hA M M) (agi hA M M) (nle M) M)) ?_
       refine .cons (lop M M fun S hA=>(aO M M (lb M) (svaI hA M M))) ?_
       refine .cons (lop M M fun S hA=>(aP M M (lb M) underlying32 M ti29 (by decide) (svaR hA M M) (off':=2) M)) ?_
       refine .cons (lop M M fun S hA=>(aI (d:=.osl _ _ _) M M (lb M) underlying29 ag29 ti29 (by decide) (svaR hA M M) (agi hA M M) (nle M) M)) ?_
       refine .cons (lop M M fun S hA=>(aO M M (lb M) (svaI hA M M))) ?_
       refine .cons (lop M M fun S hA=>(aP M M (lb M) underlying37 M ti3 (by decide) (svaR hA M M) (off':=2) M)) ?_
       refine .cons (lop M M fun S hA=>(aI (d:=.int _ _) M M (lb M) underlying3 ag3 ti3 (by decide) (svaR hA M M) (agi hA M M) (nle M) M)) ?_
       refine .cons (lop M M fun S hA=>(aP M M (lb M) underlying37 M ti3 (by decide) (svaR hA M M) (off':=3) M)) ?_
       refine .cons (lop M M fun S hA=>(aI (d:=.int _ _) M M (lb M) underlying3 ag3 ti3 (by decide) (svaR hA M M) (agi hA M M) (nle M) M)) ?_
       refine .cons (lop M M fun S hA=>(fY aC.toEnc0 M M (lb M) underlying29 ti53 (sv (d:=.osl _ _ _) (agr hA M M)) M (svaI hA M M) hx66)) ?_
       refine .cons (lop M M fun S hA=>(gN M M (lb M) underlying53 M ti3 (by decide) (svaR hA M M) (k':=1) M)) ?_
       refine .cons (lop M M fun S hA=>(lN aC.toEnc0 (a':=(⟨x67.ID,v6,x67.Weight,x67.Closed⟩:aH)) M M ti3 (svaR hA M M) (agi hA M M) (svaI hA M M) M M M hx67 (nle M) M hx68)) ?_
       refine .cons (lop M M fun S hA=>(fY aC.toEnc0 M M (lb M) underlying29 ti53 (sv (d:=.osl _ _ _) (agr hA M M)) (iQ hx68 M) (svaI hA M M) hx69)) ?_
       refine .cons (lop M M fun S hA=>(gN M M (lb M) underlying53 M ti3 (by decide) (svaR hA M M) (k':=2) M)) ?_
       refine .cons (lop M M fun S hA=>(lN aC.toEnc0 (a':=(⟨x70.ID,x70.Parent,v7,x70.Closed⟩:aH)) M M ti3 (svaR hA M M) (agi hA M M) (svaI hA M M) M M M hx70 (nle M) M hx71)) ?_
       exact .nil
      refine aF (aA M (lra q10 la32 M M M M M (nle M) M)<|aA M (stA q10 q10 ti32 M M M M M M M M (nle M) M)<|aD ?_)
      refine aY ?_
      obtain rfl:=sj_ h
      refine ⟨.inr M,(fun i=>if i=0 then 1000 else if i=1 then 1001 else i),⟨.nil,(.cons (EntW.lst M) (.cons (EntW.lst M) .nil)),bE [1000,1001] M (by decide),(fun i hi=>by first | rfl | (show (if _ then _ else _)=_; (repeat' split) <;> omega))⟩,(.cons (rva la32 M M (nle M) (by rw [← (iQ hx71 (iQ hx68 M))]; rfl)) .nil),M⟩

set_option maxRecDepth 8000 in
set_option maxHeartbeats 4000000 in
theorem mD (a0:Int) (a1:Int) (a2:List aH) (r:List aH) (h:eZ a0 a1 a2=some r):FnH prog 58 [.osl 1000 aC.sz a2.length,.int .i64 a0,.int .i64 a1] [(1000,.blk 53 (D.flat (a2.map aC.d)))] (.osl 0 aC.sz r.length) [(0,.blk 53 (D.flat (r.map aC.d)))]:=by
 replace h:delS a2 a0 a1=some r:=h
 obtain ⟨i,j,rfl,rfl,hij,hj,hr⟩:=delS_e h
 have hX:=aC.toEnc0.flat_len a2
 refine dB (rs:=[.osl 0 aC.sz r.length]) func58 M ntmps58 (nle M) fun O hO=>?_
 show IWP _ _ _ _ ⟨[(0,.osl 1000 aC.sz a2.length),(1,.int .i64 (i:Int)),(2,.int .i64 (j:Int))],[(1000,.blk 53 (D.flat (a2.map aC.d)))]⟩ _
 refine yM 0 (id:=1000) (sz:=aC.sz) (n:=a2.length) M M hX (fun hn=>?_) (fun c hc hcm=>?_)
 ·obtain rfl:=List.length_eq_zero_iff.1 hn
  obtain rfl:j=0:=by simpa using hj
  obtain rfl:i=0:=by omega
  refine aF (aA M (aG M M (lb M) (sv (d:=.nils) M)) <| aD ?_)
  refine aF (aA M (aO M M (lb M) (sv (d:=.nils) M)) <| aA M (mvI M M M M) <| aA M (mvI M M M M) <| aA M (aO M M (lb M) (sv (d:=.nils) M))<|aA M (cV aC (l:=[]) (b:=false) M M (lb M) underlying29 (svn M))<|aA M (wA M M (lb M) underlying29 ti53 (sv (d:=.nils) M) (svI M) (svI M) (svI M)) <| aD ?_)
  refine aT ?_
  refine aF (aA M (mvI M M M M) <| aA M (mvI M M M M) <| aA M (aQ M M (lb M) (svI M) (svI M) M M) <| aD ?_)
  refine rH M M ?_
  have hr':[]=r:=by simpa using hr
  subst hr'
  refine aF (aA M (aO M M (lb M) (sv (d:=.nils) M)) <| aA M (aG M M (lb M) (sv (d:=.nils) M)) <| aD ?_)
  refine aY ?_
  refine bG ?_
  refine ⟨.inr M,(fun i=>if i=0 then 50 else i),⟨.nil,(.cons (.nilb M) .nil),bE [50] M (by decide),(fun i hi=>by first | rfl | (show (if _ then _ else _)=_; (repeat' split) <;> omega))⟩,(.cons (svno M) .nil),M⟩
 ·refine aF (aA M (aG M M (lb M) (sv (d:=.nils) M)) <| aD ?_)
  refine aF (aA M (aO M M (lb M) (sv (d:=.rsl _ _ _ _ _) M)) <| aA M (mvI M M M M) <| aA M (mvI M M M M) <| aA M (aO M M (lb M) (sv (d:=.rsl _ _ _ _ _) M))<|aA M (qH M M (lb M) underlying29 (sv (d:=.rsl _ _ _ _ _) M) M)<|aA M (fK (sz:=aC.sz) (l:=(i:Int)) (h:=(j:Int)) (m:=(a2.length:Int)) M M (lb M) underlying29 ti53 (sv (d:=.rsl _ _ _ _ _) M) ⟨_,(svI M)⟩ ⟨_,(svI M)⟩ ⟨_,(svI M)⟩ (by simp) (by omega) (by omega) (by omega) (by omega) M) <| aD ?_)
  refine aT ?_
  refine aF (aA M (mvI M M M M) <| aA M (mvI M M M M) <| aA M (aQ M M (lb M) (svI M) (svI M) M M) <| aD ?_)
  refine aR (b:=_) M (fun h1=>?_) (fun h1=>?_)
  ·have h2:=of_decide_eq_true h1
   obtain rfl:i=j:=by omega
   have hr':a2=r:=by simpa using hr
   subst hr'
   refine aF (aA M (aO M M (lb M) (sv (d:=.rsl _ _ _ _ _) M)) <| aA M (aG M M (lb M) (sv (d:=.rsl _ _ _ _ _) M)) <| aD ?_)
   refine rC 6 (id:=1000) M M hX ?_
   refine aY ?_
   refine bG ?_
   refine ⟨.inr M,(fun i=>if i=0 then 1000 else i),⟨.nil,(.cons (EntW.lst M) .nil),bE [1000] M (by decide),(fun i hi=>by first | rfl | (show (if _ then _ else _)=_; (repeat' split) <;> omega))⟩,(.cons (sv M) .nil),M⟩
  ·have h2:=of_decide_eq_false h1
   have hlt:i < j:=by omega
   obtain ⟨J,hJ⟩:∃ J,J=List.replicate ((c - a2.length) * aC.sz) D.dead:=⟨_,rfl⟩
   have hXd:(D.flat ((a2.drop j).map aC.d)).length=(a2.length - j) * aC.sz:=by rw [aC.toEnc0.flat_len,List.length_drop]
   have hXt:(D.flat ((a2.take i).map aC.d)).length=i * aC.sz:=by rw [aC.toEnc0.flat_len,List.length_take,Nat.min_eq_left (by omega)]
   have hrl:r.length=i + (a2.length - j):=by rw [← hr,List.length_append,List.length_take,List.length_drop,Nat.min_eq_left (by omega)]
   have hR:D.flat (r.map aC.d)=D.flat ((a2.take i).map aC.d) ++ D.flat ((a2.drop j).map aC.d):=by rw [← hr,aC.toEnc0.flat_append]
   have hRl:(D.flat (r.map aC.d)).length=(i + (a2.length - j)) * aC.sz:=by rw [aC.toEnc0.flat_len,hrl]
   have hfitj:j * aC.sz + (a2.length - j) * aC.sz=a2.length * aC.sz:=by rw [← Nat.add_mul]; congr 1; omega
   have hfiti:(i + (a2.length - j)) * aC.sz ≤ a2.length * aC.sz:=Nat.mul_le_mul_right _ (by omega)
   rw [← hJ]
   have hD0:(D.flat (a2.map aC.d) ++ J).length=a2.length * aC.sz + J.length:=by rw [List.length_append,hX]
   obtain ⟨es,hes⟩:∃ es,es=((D.flat (a2.map aC.d) ++ J).drop (j * aC.sz)).take ((a2.length - j) * aC.sz):=⟨_,rfl⟩
   have hes':es=D.flat ((a2.drop j).map aC.d):=by
    rw [hes,List.drop_append_of_le_length (by rw [hX]; exact Nat.mul_le_mul_right _ hj),aC.toEnc0.flat_drop,List.take_append_of_le_length (by rw [hXd]; exact Nat.le_refl _),← hXd,List.take_length]
   obtain ⟨Z,hZ⟩:∃ Z,fZ (D.flat (a2.map aC.d) ++ J) (i * aC.sz) es=D.flat (r.map aC.d) ++ Z:=by
    refine ⟨(D.flat ((a2.drop i).map aC.d) ++ J).drop es.length,?_⟩
    rw [xQ aC.toEnc0 a2 i,List.append_assoc,xC hXt,hR,hes',List.append_assoc]
   have hZl:(D.flat (r.map aC.d) ++ Z).length=a2.length * aC.sz + J.length:=by
    rw [← hZ,rR (by rw [hD0,hes',hXd,← Nat.add_mul]; omega),hD0]
   refine aS ?_
   refine aM ?_
   refine aF (aA M (aO M M (lb M) (sv (d:=.rsl _ _ _ _ _) M)) <| aA M (qH M M (lb M) underlying29 (sv (d:=.rsl _ _ _ _ _) M) M) <| aA M (asI M M M M) <| aD ?_)
   refine iR M [⟨[0],[],[(20,.rsl 1000 aC.sz 0 a2.length c)],[]⟩,⟨[1],[],[(21,.int .i64 (i:Int))],[]⟩,⟨[20,21],[],[(22,.rsl 1000 aC.sz 0 i c)],[]⟩,⟨[0],[],[(23,.rsl 1000 aC.sz 0 a2.length c)],[]⟩,⟨[2],[],[(24,.int .i64 (j:Int))],[]⟩,
    ⟨[23,24],[],[(25,.rsl 1000 aC.sz (j * aC.sz) (a2.length - j) (c - j))],[]⟩,⟨[22,25],[1000],[(26,.rsl 1000 aC.sz 0 (i + (a2.length - j)) c)],[(1000,.blk 53 (D.flat (r.map aC.d) ++ Z))]⟩,⟨[26],[],[(0,.rsl 1000 aC.sz 0 (i + (a2.length - j)) c)],[]⟩] M ?_ (by kernel_rfl) ?_
   ·refine .cons (lop M M fun S hA=>(aO M M (lb M) (sv (d:=.rsl _ _ _ _ _) (agr hA M M)))) ?_
    refine .cons (lop M M fun S hA=>(aO M M (lb M) (svaI hA M M))) ?_
    refine .cons (lop M M fun S hA=>(fK (sz:=aC.sz) (l:=0) (h:=(i:Int)) (m:=(c:Int)) (d:=.rsl 1000 aC.sz 0 i c) M M (lb M) underlying29 ti53 (sv (d:=.rsl _ _ _ _ _) (agr hA M M)) M ⟨_,(svaI hA M M)⟩ M (by simp) (by omega) (by omega) (by omega) (by omega) (by simp only [Int.toNat_natCast,Int.toNat_zero,Nat.zero_mul,Nat.zero_add,Nat.sub_zero]))) ?_
    refine .cons (lop M M fun S hA=>(aO M M (lb M) (sv (d:=.rsl _ _ _ _ _) (agr hA M M)))) ?_
    refine .cons (lop M M fun S hA=>(aO M M (lb M) (svaI hA M M))) ?_
    refine .cons (lop M M fun S hA=>(fK (sz:=aC.sz) (l:=(j:Int)) (h:=(a2.length:Int)) (m:=(c:Int)) (d:=.rsl 1000 aC.sz (j * aC.sz) (a2.length - j) (c - j)) M M (lb M) underlying29 ti53 (sv (d:=.rsl _ _ _ _ _) (agr hA M M)) ⟨_,(svaI hA M M)⟩ M M (by simp) (by omega) (by omega) (by omega) (by omega) (by simp only [Int.toNat_natCast,Nat.zero_add]))) ?_
    refine .cons (lop M M fun S hA=>(aAG (sz:=aC.sz) (m:=a2.length - j) (es:=es) (ds':=D.flat (r.map aC.d) ++ Z) (d:=.rsl 1000 aC.sz 0 (i + (a2.length - j)) c) M M (lb M) underlying29 ti53 (sv (d:=.rsl _ _ _ _ _) (agr hA M M)) (agi hA M M) (hes ▸ aAX (sv (d:=.rsl _ _ _ _ _) (agr hA M M)) (agi hA M M) (by rw [hD0,hfitj]; exact Nat.le_add_right _ _)) (by rw [hes',hXd]) (by rw [hes']; exact aC.toEnc0.one _) (by omega) (by rw [hD0]; exact Nat.le_trans hfiti (Nat.le_add_right _ _)) hZ M)) ?_
    refine .cons (lop M M fun S hA=>(aG M M (lb M) (sv (d:=.rsl _ _ _ _ _) (agr hA M M)))) ?_
    exact .nil
   ·refine aF (aA M (aO M M (lb M) (sv (d:=.rsl _ _ _ _ _) M)) <| aA M (aO M M (lb M) (sv (d:=.rsl _ _ _ _ _) M)) <| aA M (qH M M (lb M) underlying29 (sv (d:=.rsl _ _ _ _ _) M) M) <| aA M (mvI M M M M)<|aA M (fK (sz:=aC.sz) (l:=((i + (a2.length - j):Nat):Int)) (h:=(a2.length:Int)) (m:=(c:Int)) (d:=.rsl 1000 aC.sz ((i + (a2.length - j)) * aC.sz) (a2.length - (i + (a2.length - j))) (c - (i + (a2.length - j)))) M M (lb M) underlying29 ti53 (sv (d:=.rsl _ _ _ _ _) M) ⟨_,(svI M)⟩ ⟨_,(svI M)⟩ M (by simp) (by omega) (by omega) (by omega) (by omega) (by simp only [Int.toNat_natCast,Nat.zero_add]))<|aA M (sZ (sz:=aC.sz) M M underlying29 ti53 M M (sv (d:=.rsl _ _ _ _ _) M) M (by rw [hZl,← Nat.add_mul,show i + (a2.length - j) + (a2.length - (i + (a2.length - j)))=a2.length by omega]; exact Nat.le_add_right _ _) (xC hRl)) <| aD ?_)
    refine aF (aA M (aO M M (lb M) (sv (d:=.rsl _ _ _ _ _) M)) <| aA M (aG M M (lb M) (sv (d:=.rsl _ _ _ _ _) M)) <| aD ?_)
    refine rC 6 (id:=1000) M M hRl ?_
    refine aY ?_
    refine ⟨.inr M,(fun i=>if i=0 then 1000 else i),⟨.nil,(.cons (EntW.lst M) .nil),bE [1000] M (by decide),(fun i hi=>by first | rfl | (show (if _ then _ else _)=_; (repeat' split) <;> omega))⟩,(.cons (sv (congrArg (D.osl _ _) hrl.symm)) .nil),M⟩

theorem qN (a0:aV) (a1:Int) (r:Int) (h:mW a0 a1=some r):eK prog 49 [.agg (v0 a0),.int .i64 a1] (.int .i64 r):=by
 refine bW (rs:=[.int .i64 r]) func49 M ntmps49 (nle M) M fun O hO=>?_
 show IWP _ _ _ _ ⟨[(0,.agg (v0 a0)),(1,.int .i64 a1)],[]⟩ _
 unfold mW at h
 refine aF (aA M (cK (cs:=q9) 0 M M (lb M) M (svA q9 M) M M)<|aA M (aG M M (lb M) (sv (d:=.int _ 0) M))<|aD ?_)
 refine aF (aA M (aG M M (lb M) (sv (d:=.int _ 0) M))<|aD ?_)
 refine aT ?_
 refine aF (aA M (faR 2 M M M underlying32 M ti29 (lb M) M M)<|aA M (lrL la29 M M M M M (nle M) M)<|aA M (cV aC (l:=a0.Nodes) M M (lb M) underlying29 (svL M))<|aA M (aO M M (lb M) (sv (d:=.int _ 0) M))<|aD ?_)
 refine bB ?_
 refine cP (α:=Nat × Int × Int) (fun z=>⟨[(1,.int .i64 a1),(5,.int .i64 z.2.1),(9,.slice false (a0.Nodes.map aC.d)),(10,.int .i64 (a0.Nodes.length:Int)),(11,.int .i64 z.2.2)],[]⟩) (fun z=>gJ a0 a1 z.1 z.2.1 z.2.2=some r) (fun z=>z.1) (fuel,0,0) (fun i=>i) ⟨(.sames M M),.nil,bE [] M (by decide),fun _ _=>M⟩ ?_ ?_
 ·exact h
 ·
  rintro ⟨n0,v9,v10⟩ h
  cases n0 with
  | zero=>exact absurd h (by unfold gJ; exact nofun)
  | succ n0 =>
   unfold gJ at h
   obtain ⟨x19,hx19,h⟩:=bC h
   refine aF (aA M (aQ M M (lb M) (svI M) (svI M) M hx19)<|aD ?_)
   refine aT ?_
   refine aR (b:=_) M (fun hc20=>?_) (fun hc20=>?_)
   ·
    replace h:=cA h hc20
    refine aS ?_
    refine aM ?_
    refine aT ?_
    refine bB ?_
    obtain ⟨x21,hx21,h⟩:=aX h
    refine aF (aA M (dW aC (cs:=q11) M M (lb M) underlying29 ti53 (svL M) (svI M) hx21 M M)<|aA M (fD (cs:=q11) M M (lb M) underlying53 ag53 ti53 (by decide) (sv (d:=.fptr q11) M) (nle M) M)<|aA M (cT (cs:=q11) (cs':=(w28 0 0 0 false)) 0 M M (lb M) M ti53 M M (.all _))<|aA M (stA q11 q11 ti53 M M M M M M M M (nle M) M)<|aD ?_)
    obtain ⟨x22,hx22,h⟩:=bC h
    refine aF (aA M (faR 1 M M M underlying53 M ti3 (lb M) M M)<|aA M (aI (d:=.int _ _) M M (lb M) underlying3 ag3 ti3 (by decide) (svR M) M (nle M) M)<|aA M (mvI M M M M)<|aA M (aQ M M (lb M) (svI M) (svI M) M hx22)<|aD ?_)
    refine aR (b:=_) M (fun hc23=>?_) (fun hc23=>?_)
    ·
     replace h:=cA h hc23
     obtain ⟨x24,hx24,h⟩:=bC h
     refine bA (aA M (mvI M M M M)<|aA M (faR 2 M M M underlying53 M ti3 (lb M) M M)<|aA M (aI (d:=.int _ _) M M (lb M) underlying3 ag3 ti3 (by decide) (svR M) M (nle M) M)<|aA M (bO M M (lb M) (svI M) (svI M) M hx24)<|aA M (asI M M M M)<|bL ?_)
     refine bJ ?_
     refine aM ?_
     obtain ⟨x25,hx25,h⟩:=bC h
     refine bA (aA M (bO M M (lb M) (svI M) (sv (d:=.int _ 1) M) M hx25)<|aA M (mvI M M M M)<|bL ?_)
     refine aM ⟨(n0,x24,x25),(fun i=>i),⟨(.sames M M),.nil,bE [] M (by decide),fun _ _=>M⟩,?_,?_⟩
     exact h
     exact Nat.lt_succ_self _
    ·
     replace h:=cB h hc23
     refine aS ?_
     refine bJ ?_
     refine aM ?_
     obtain ⟨x26,hx26,h⟩:=bC h
     refine bA (aA M (bO M M (lb M) (svI M) (sv (d:=.int _ 1) M) M hx26)<|aA M (mvI M M M M)<|bL ?_)
     refine aM ⟨(n0,v9,x26),(fun i=>i),⟨(.sames M M),.nil,bE [] M (by decide),fun _ _=>M⟩,?_,?_⟩
     exact h
     exact Nat.lt_succ_self _
   ·
    replace h:=cB h hc20
    refine cU ?_
    refine bK ?_
    refine bK ?_
    refine cW ?_
    refine aM ?_
    refine aF (aA M (mvI M M M M)<|aA M (asI M M M M)<|aD ?_)
    refine aY ?_
    obtain rfl:=sj_ h
    refine ⟨.inr M,(.cons (sv M) .nil)⟩

theorem pD (a0:Int) (a1:Int) (r:Bool) (h:lV a0 a1=some r):eK prog 60 [.int .i64 a0,.fptr [.int .i64 a1]] (.bool r):=by
 refine bW (rs:=[.bool r]) func60 M ntmps60 (nle M) M fun O hO=>?_
 show IWP _ _ _ _ ⟨[(0,.int .i64 a0),(1,.fptr [.int .i64 a1])],[]⟩ _
 unfold lV at h
 refine aF (aA M (aG M M (lb M) (sv (d:=.bool false) M))<|aD ?_)
 obtain ⟨x1,hx1,h⟩:=bC h
 refine aF (aA M (mvI M M M M)<|aA M (eM M M (lb M) underlying3 ag3 ti3 (by decide) (sv (d:=.fptr [.int _ _]) M) (nle M))<|aA M (aQ M M (lb M) (svI M) (svI M) M hx1)<|aA M (asB M M M M)<|aD ?_)
 refine aY ?_
 obtain rfl:=sj_ h
 refine ⟨.inr M,(.cons (sv M) .nil)⟩

theorem nS (a0:(List Int)) (a1:Int) (r:Int) (h:jA a0 a1=some r):eK prog 79 [.slice false (a0.map (eInt .i64).d),.fn 60 [.fptr [.int .i64 a1]]] (.int .i64 r):=by
 refine bW (rs:=[.int .i64 r]) func79 M ntmps79 (nle M) M fun O hO=>?_
 show IWP _ _ _ _ ⟨[(0,.slice false (a0.map (eInt .i64).d)),(1,.fn 60 [.fptr [.int .i64 a1]])],[]⟩ _
 unfold jA at h
 refine aF (aA M (aG M M (lb M) (sv (d:=.int _ 0) M))<|aD ?_)
 refine aT ?_
 refine aF (aA M (mvL M M M M)<|aA M (cV (eInt .i64) (l:=a0) M M (lb M) underlying30 (svL M))<|aA M (aO M M (lb M) (sv (d:=.int _ 0) M))<|aD ?_)
 refine bB ?_
 refine cP (α:=Nat × Int) (fun z=>⟨[(0,.slice false (a0.map (eInt .i64).d)),(1,.fn 60 [.fptr [.int .i64 a1]]),(7,.int .i64 (a0.length:Int)),(8,.int .i64 z.2)],[]⟩) (fun z=>dP a0 a1 z.1 z.2=some r) (fun z=>z.1) (fuel,0) (fun i=>i) ⟨(.sames M M),.nil,bE [] M (by decide),fun _ _=>M⟩ ?_ ?_
 ·exact h
 ·
  rintro ⟨n0,v7⟩ h
  cases n0 with
  | zero=>exact absurd h (by unfold dP; exact nofun)
  | succ n0 =>
   unfold dP at h
   obtain ⟨x14,hx14,h⟩:=bC h
   refine aF (aA M (aQ M M (lb M) (svI M) (svI M) M hx14)<|aD ?_)
   refine aT ?_
   refine aR (b:=_) M (fun hc15=>?_) (fun hc15=>?_)
   ·
    replace h:=cA h hc15
    refine aS ?_
    refine aM ?_
    refine aT ?_
    refine bB ?_
    refine aF (aA M (mvI M M M M)<|aA M (asI M M M M)<|aD ?_)
    obtain ⟨x16,hx16,h⟩:=aX h
    obtain ⟨x17,hx17,h⟩:=aX h
    refine aF (aA M (aO M M (lb M) (sv (d:=.fn 60 [.fptr [.int _ _]]) M))<|aA M (mvL M M M M)<|aA M (mvI M M M M)<|aA M (dW (eInt .i64) (cs:=[.int _ _]) M M (lb M) underlying30 ti3 (svL M) (svI M) hx16 M M)<|aA M (eM M M (lb M) underlying3 ag3 ti3 (by decide) (sv (d:=.fptr [.int _ _]) M) (nle M))<|aA M (pW (r:=.bool _) M M (lb M) cl60 (sv (d:=.fn 60 [.fptr [.int _ _]]) M) (.cons (svI M) .nil) M (pD _ _ _ hx17))<|aD ?_)
    refine aR (b:=_) M (fun hc18=>?_) (fun hc18=>?_)
    ·
     replace h:=cA h hc18
     refine aF (aA M (mvI M M M M)<|aA M (asI M M M M)<|aD ?_)
     refine aY ?_
     refine cO ?_
     refine bG ?_
     refine bG ?_
     refine cO ?_
     refine bG ?_
     obtain rfl:=sj_ h
     refine ⟨.inr M,(.cons (sv M) .nil)⟩
    ·
     replace h:=cB h hc18
     refine aS ?_
     refine bJ ?_
     refine aM ?_
     obtain ⟨x19,hx19,h⟩:=bC h
     refine bA (aA M (bO M M (lb M) (svI M) (sv (d:=.int _ 1) M) M hx19)<|aA M (mvI M M M M)<|bL ?_)
     refine aM ⟨(n0,x19),(fun i=>i),⟨(.sames M M),.nil,bE [] M (by decide),fun _ _=>M⟩,?_,?_⟩
     exact h
     exact Nat.lt_succ_self _
   ·
    replace h:=cB h hc15
    refine cU ?_
    refine bK ?_
    refine bK ?_
    refine cW ?_
    refine aM ?_
    refine aF (aA M (aG M M (lb M) (sv (d:=.int _ (-1)) M))<|aD ?_)
    refine aY ?_
    obtain rfl:=sj_ h
    refine ⟨.inr M,(.cons (sv M) .nil)⟩

theorem nA (a0:(List Int)) (a1:Int) (r:(List Int)) (h:eO a0 a1=some r):FnH prog 59 [.osl 1000 (eInt .i64).sz a0.length,.fn 60 [.ref 1001 0]] [(1000,.blk 3 (D.flat (a0.map (eInt .i64).d))),(1001,.blk 3 [.int .i64 a1])] (.osl 0 (eInt .i64).sz r.length) [(1001,.blk 3 [.int .i64 a1]),(0,.blk 3 (D.flat (r.map (eInt .i64).d)))]:=by
 refine dB (rs:=[.osl 0 (eInt .i64).sz r.length]) func59 M ntmps59 (nle M) fun O hO=>?_
 show IWP _ _ _ _ ⟨[(0,.osl 1000 (eInt .i64).sz a0.length),(1,.fn 60 [.ref 1001 0])],[(1000,.blk 3 (D.flat (a0.map (eInt .i64).d))),(1001,.blk 3 [.int .i64 a1])]⟩ _
 unfold eO at h
 refine aF (aA M (aG M M (lb M) (sv (d:=.nils) M))<|aD ?_)
 obtain ⟨x1,hx1,h⟩:=aX h
 refine aF (aA M (aO M M (lb M) (sv (d:=.osl _ _ _) M))<|aA M (aO M M (lb M) (sv (d:=.fn 60 [.ref _ _]) M))<|aA M (kF (r:=.int .i64 x1) M M (lb M) cl79 (.cons (sv (d:=.osl _ _ _) M) (.cons (sv (d:=.fn 60 [.ref _ _]) M) .nil)) (.cons (FDT (eInt .i64) M M) (.cons (.fn (.cons (.ref M M (rJ _) M) .nil)) .nil)) M M (nS _ _ _ hx1))<|aA M (asI M M M M)<|aD ?_)
 refine aT ?_
 obtain ⟨x2,hx2,h⟩:=bC h
 refine aF (aA M (mvI M M M M)<|aA M (aQ M M (lb M) (svI M) (sv (d:=.int _ (-1)) M) M hx2)<|aD ?_)
 refine aR (b:=_) M (fun hc3=>?_) (fun hc3=>?_)
 ·
  replace h:=cA h hc3
  refine aF (aA M (aO M M (lb M) (sv (d:=.osl _ _ _) M))<|aA M (aG M M (lb M) (sv (d:=.osl _ _ _) M))<|aD ?_)
  refine aY ?_
  refine bG ?_
  obtain rfl:=sj_ h
  refine ⟨.inr M,(fun i=>if i=0 then 1000 else i),⟨.nil,(.cons (.blk M M M) (.cons (EntW.lst M) .nil)),bE [1001,1000] M (by decide),(fun i hi=>by first | rfl | (show (if _ then _ else _)=_; (repeat' split) <;> omega))⟩,(.cons (sv M) .nil),M⟩
 ·
  replace h:=cB h hc3
  refine aS ?_
  refine aM ?_
  refine aT ?_
  obtain ⟨x4,hx4,h⟩:=bC h
  refine aF (aA M (mvI M M M M)<|aA M (bO M M (lb M) (svI M) (sv (d:=.int _ 1) M) M hx4)<|aA M (asI M M M M)<|aD ?_)
  refine bB ?_
  refine cP (α:=Nat × (List Int) × Int × Int) (fun z=>⟨[(0,.osl 1000 (eInt .i64).sz z.2.1.length),(1,.fn 60 [.ref 1001 0]),(5,.int .i64 z.2.2.1),(6,.int .i64 z.2.2.2)],[(1000,.blk 3 (D.flat (z.2.1.map (eInt .i64).d))),(1001,.blk 3 [.int .i64 a1])]⟩) (fun z=>cR a1 z.1 z.2.1 z.2.2.1 z.2.2.2=some r) (fun z=>z.1) (fuel,a0,x1,x4) (fun i=>i) ⟨(.sames M M),(.cons (EntW.lst M) (.cons (.blk M M M) .nil)),bE [1000,1001] M (by decide),fun _ _=>M⟩ ?_ ?_
  ·exact h
  ·
   rintro ⟨n0,v17,v18,v19⟩ h
   cases n0 with
   | zero=>exact absurd h (by unfold cR; exact nofun)
   | succ n0 =>
    unfold cR at h
    refine aT ?_
    obtain ⟨x32,hx32,h⟩:=bC h
    refine aF (aA M (mvI M M M M)<|aA M (aO M M (lb M) (sv (d:=.osl _ _ _) M))<|aA M (kV M M (lb M) underlying30 (sv (d:=.osl _ _ _) M))<|aA M (aQ M M (lb M) (svI M) (svI M) M hx32)<|aD ?_)
    refine aR (b:=_) M (fun hc33=>?_) (fun hc33=>?_)
    ·
     replace h:=cA h hc33
     refine aS ?_
     refine aM ?_
     refine aT ?_
     refine bB ?_
     obtain ⟨x34,hx34,h⟩:=aX h
     obtain ⟨x35,hx35,h⟩:=aX h
     refine aF (aA M (aO M M (lb M) (sv (d:=.osl _ _ _) M))<|aA M (mvI M M M M)<|aA M (fY (eInt .i64).toEnc0 M M (lb M) underlying30 ti3 (sv (d:=.osl _ _ _) M) M (svI M) hx34)<|aA M (fP (eInt .i64).toEnc0 (d:=.int _ _) M M (lb M) underlying3 ag3 ti3 (by decide) (svR M) M hx35 (nle M) M)<|aA M (asI M M M M)<|aD ?_)
     obtain ⟨x36,hx36,h⟩:=aX h
     refine aF (aA M (aO M M (lb M) (sv (d:=.fn 60 [.ref _ _]) M))<|aA M (mvI M M M M)<|aA M (xP (r:=.bool x36) M M (lb M) cl60 (sv (d:=.fn 60 [.ref _ _]) M) (.cons (svI M) .nil) (.k (.cons (.ref M M (rJ _) M) .nil)) M M (pD _ _ _ hx36))<|aA M (gD M M (lb M) (svB M))<|aD ?_)
     refine aR (b:=_) M (fun hc37=>?_) (fun hc37=>?_)
     ·
      replace h:=cA h hc37
      obtain ⟨x38,hx38,h⟩:=aX h
      obtain ⟨x39,hx39,h⟩:=aX h
      obtain ⟨x40,hx40,h⟩:=bC h
      refine aF (aA M (aO M M (lb M) (sv (d:=.osl _ _ _) M))<|aA M (mvI M M M M)<|aA M (mvI M M M M)<|aA M (fY (eInt .i64).toEnc0 M M (lb M) underlying30 ti3 (sv (d:=.osl _ _ _) M) M (svI M) hx38)<|aA M (lN (eInt .i64).toEnc0 (a':=x35) M M ti3 (svR M) M (svI M) M M M hx39 (nle M) M hx40)<|aD ?_)
      obtain ⟨x41,hx41,h⟩:=bC h
      refine bA (aA M (mvI M M M M)<|aA M (bO M M (lb M) (svI M) (sv (d:=.int _ 1) M) M hx41)<|aA M (asI M M M M)<|bL ?_)
      refine bJ ?_
      refine aM ?_
      obtain ⟨x42,hx42,h⟩:=bC h
      refine bA (aA M (mvI M M M M)<|aA M (bO M M (lb M) (svI M) (sv (d:=.int _ 1) M) M hx42)<|aA M (asI M M M M)<|bL ?_)
      refine aM ⟨(n0,x40,x41,x42),(fun i=>i),⟨(.cons (.same (congrArg (D.osl _ _) (iQ hx40 M).symm) M) (.sames M M)),(.cons (EntW.lst M) (.cons (.blk M M M) .nil)),bE [1000,1001] M (by decide),fun _ _=>M⟩,?_,?_⟩
      exact h
      exact Nat.lt_succ_self _
     ·
      replace h:=cB h hc37
      refine aS ?_
      refine bJ ?_
      refine aM ?_
      obtain ⟨x43,hx43,h⟩:=bC h
      refine bA (aA M (mvI M M M M)<|aA M (bO M M (lb M) (svI M) (sv (d:=.int _ 1) M) M hx43)<|aA M (asI M M M M)<|bL ?_)
      refine aM ⟨(n0,v17,v18,x43),(fun i=>i),⟨(.sames M M),(.cons (EntW.lst M) (.cons (.blk M M M) .nil)),bE [1000,1001] M (by decide),fun _ _=>M⟩,?_,?_⟩
      exact h
      exact Nat.lt_succ_self _
    ·
     replace h:=cB h hc33
     refine cU ?_
     refine bK ?_
     refine bK ?_
     refine cW ?_
     refine aM ?_
     obtain ⟨x44,hx44,h⟩:=aX h
     refine aF (aA M (aO M M (lb M) (sv (d:=.osl _ _ _) M))<|aA M (mvI M M M M)<|wH (eInt .i64).toEnc0 M M M M (by decide) M M underlying30 ti3 M M M M M (fun S1 h9=>sv ((h9 37 (by decide)).trans M)) hx44<|aD ?_)
     obtain ⟨x45,hx45,h⟩:=aX h
     refine aF (aA M (aO M M (lb M) (sv (d:=.osl _ _ _) M))<|aA M (mvI M M M M)<|aA M (xM (eInt .i64).toEnc0 M M (lb M) underlying30 ti3 (sv (d:=.osl _ _ _) M) M (Nat.le_trans (aEC hx44) (Nat.le_of_eq M)) (svI M) hx45)<|aA M (aG M M (lb M) (sv (d:=.osl _ _ _) M))<|aD ?_)
     refine aY ?_
     obtain rfl:=sj_ h
     refine ⟨.inr M,(fun i=>if i=0 then 1000 else i),⟨.nil,(.cons (.blk M M M) (.cons (EntW.lst M) .nil)),bE [1001,1000] M (by decide),(fun i hi=>by first | rfl | (show (if _ then _ else _)=_; (repeat' split) <;> omega))⟩,(.cons (sv M) .nil),M⟩

theorem nN (a0:Int) (a1:Int) (a2:Int) (a3:(List aH)) (a4:(List Int)) (r:(Int × Int × (List aH) × (List Int))) (h:fN a0 a1 a2 a3 a4=some r):FnH prog 29 [.agg (w29 a0 a1 (.osl 1000 aC.sz a3.length) (.osl 1001 (eInt .i64).sz a4.length)),.int .i64 a2] [(1000,.blk 53 (D.flat (a3.map aC.d))),(1001,.blk 3 (D.flat (a4.map (eInt .i64).d)))] (.agg (w29 r.1 r.2.1 (.osl 0 aC.sz r.2.2.1.length) (.osl 1 (eInt .i64).sz r.2.2.2.length))) [(0,.blk 53 (D.flat (r.2.2.1.map aC.d))),(1,.blk 3 (D.flat (r.2.2.2.map (eInt .i64).d)))]:=by
 refine dB (rs:=[.agg (w29 r.1 r.2.1 (.osl 0 aC.sz r.2.2.1.length) (.osl 1 (eInt .i64).sz r.2.2.2.length))]) func29 M ntmps29 (nle M) fun O hO=>?_
 show IWP _ _ _ _ ⟨[(0,.agg (w29 a0 a1 (.osl 1000 aC.sz a3.length) (.osl 1001 (eInt .i64).sz a4.length))),(1,.int .i64 a2)],[(1000,.blk 53 (D.flat (a3.map aC.d))),(1001,.blk 3 (D.flat (a4.map (eInt .i64).d)))]⟩ _
 unfold fN at h
 refine aF (aA M (cK (cs:=q10) 0 M M (lb M) M (svA q10 M) M M)<|aA M (cK (cs:=[.int _ _]) 1 M M (lb M) M (svI M) M M)<|aA M (cT (cs:=q12) (cs':=(w25 0 0 ([]:List aH) ([]:List Int))) 2 M M (lb M) M ti32 M M (.k (.k (.cons (.nils _) (.cons (.nils _) .nil)))))<|aD ?_)
 obtain ⟨x1,hx1,h⟩:=aX h
 refine aF (aA M (lra q10 la32 M M M M M (nle M) M)<|aA M (aI (d:=.int _ _) M M (lb M) underlying3 ag3 ti3 (by decide) (svR M) M (nle M) M)<|aA M (kF (r:=.tuple [.int .i64 x1.1,.bool x1.2]) M M (lb M) cl28 (.cons (svA q10 M) (.cons (svI M) .nil)) (.cons (.agg (.k (.k (.cons (FDT aC M M) (.cons (FDT (eInt .i64) M M) .nil))))) (.all _)) M M (fC _ _ _ hx1))<|aA M (aO M M (lb M) (sv (d:=.tuple q21) M))<|aA M (bQ (d:=.int _ _) M M (lb M) (sv (d:=.tuple q21) M) M)<|aA M (bQ (d:=.bool _) M M (lb M) (sv (d:=.tuple q21) M) M)<|aA M (asI M M M M)<|aA M (asB M M M M)<|aD ?_)
 obtain ⟨x2,hx2,h⟩:=aX h
 obtain ⟨x3,hx3,h⟩:=aX h
 refine aF (aA M (faR 2 M M M underlying32 M ti29 (lb M) M M)<|aA M (aI (d:=.osl _ _ _) M M (lb M) underlying29 ag29 ti29 (by decide) (svR M) M (nle M) M)<|aA M (mvI M M M M)<|aA M (fY aC.toEnc0 M M (lb M) underlying29 ti53 (sv (d:=.osl _ _ _) M) M (svI M) hx2)<|aA M (aBc aC.toEnc0 (cs:=q11) M M (lb M) underlying53 ag53 ti53 (by decide) (svR M) M hx3 (nle M) M)<|aA M (cT (cs:=q11) (cs':=(w28 0 0 0 false)) 3 M M (lb M) M ti53 M M (.all _))<|aA M (stA q11 q11 ti53 M M M M M M M M (nle M) M)<|aD ?_)
 obtain ⟨x4,hx4,h⟩:=bC h
 obtain ⟨x5,hx5,h⟩:=aX h
 refine aF (aA M (faR 2 M M M underlying32 M ti29 (lb M) M M)<|aA M (aI (d:=.osl _ _ _) M M (lb M) underlying29 ag29 ti29 (by decide) (svR M) M (nle M) M)<|aA M (mvI M M M M)<|aA M (mvI M M M M)<|aA M (bO M M (lb M) (svI M) (sv (d:=.int _ 1) M) M hx4)<|aA M (cQ (r':=.osl 4 aC.sz x5.length) (H1':=[(4,.blk 53 (D.flat (x5.map aC.d)))]) 4 [1000] M M (lb M) cl58 (.cons (sv (d:=.osl _ _ _) M) (.cons (svI M) (.cons (svI M) .nil))) M M ⟨M,M,by decide,M,List.forall_mem_cons.2 ⟨⟨M,M,(iF aC M),(bP aC)⟩,List.forall_mem_nil _⟩⟩ (mD _ _ _ _ hx5) M M (List.forall_mem_cons.2 ⟨⟨M,(bP aC)⟩,List.forall_mem_nil _⟩) (by simp only [List.map_cons,List.map_nil,Ent.ren,bT,cE]; rfl))<|aA M (faR 2 M M M underlying32 M ti29 (lb M) M M)<|aA M (dZ (ds':=q10) M M ti29 (svR M) M (sv (d:=.osl _ _ _) M) M M M (nle M) M)<|aD ?_)
 obtain ⟨x6,hx6,h⟩:=aX h
 refine aF (aA M (lra q10 la32 M M M M M (nle M) M)<|aA M (aI (d:=.int _ _) M M (lb M) underlying3 ag3 ti3 (by decide) (svR M) M (nle M) M)<|aA M (kF (r:=.int .i64 x6) M M (lb M) cl49 (.cons (svA q10 M) (.cons (svI M) .nil)) (.cons (.agg (.k (.k (.cons (FDT aC M M) (.cons (FDT (eInt .i64) M M) .nil))))) (.all _)) M M (qN _ _ _ hx6))<|aA M (asI M M M M)<|aD ?_)
 refine aT ?_
 refine aF (aA M (faR 2 M M M underlying32 M ti29 (lb M) M M)<|aA M (aI (d:=.osl _ _ _) M M (lb M) underlying29 ag29 ti29 (by decide) (svR M) M (nle M) M)<|aA M (kV M M (lb M) underlying29 (sv (d:=.osl _ _ _) M))<|aA M (aO M M (lb M) (sv (d:=.int _ 0) M))<|aD ?_)
 refine bB ?_
 refine cP (α:=Nat × Int × (List aH)) (fun z=>⟨[(2,.ref 0 0),(3,.ref 1 0),(4,.ref 2 0),(7,.ref 3 0),(8,.int .i64 x6),(34,.int .i64 (x5.length:Int)),(35,.int .i64 z.2.1)],[(0,.blk 32 (w29 a0 a1 (.osl 4 aC.sz z.2.2.length) (.osl 1001 (eInt .i64).sz a4.length))),(1,.blk 3 [.int .i64 a2]),(2,.blk 32 (w25 0 0 ([]:List aH) ([]:List Int))),(3,.blk 53 (v3 x3)),(1001,.blk 3 (D.flat (a4.map (eInt .i64).d))),(4,.blk 53 (D.flat (z.2.2.map aC.d)))]⟩) (fun z=>fL a0 a1 a2 a4 x3 x5 x6 z.1 z.2.1 z.2.2=some r) (fun z=>z.1) (fuel,0,x5) (fun i=>i) ⟨(.sames M M),(.cons (.blk M M M) (.cons (.blk M M M) (.cons (.blk M M M) (.cons (.blk M M M) (.cons (EntW.lst M) (.cons (EntW.lst M) .nil)))))),bE [0,1,2,3,1001,4] M (by decide),fun _ _=>M⟩ ?_ ?_
 ·exact h
 ·
  rintro ⟨n0,v23,v24⟩ h
  cases n0 with
  | zero=>exact absurd h (by unfold fL; exact nofun)
  | succ n0 =>
   unfold fL at h
   obtain ⟨x41,hx41,h⟩:=bC h
   refine aF (aA M (aQ M M (lb M) (svI M) (svI M) M hx41)<|aD ?_)
   refine aT ?_
   refine aR (b:=_) M (fun hc42=>?_) (fun hc42=>?_)
   ·
    replace h:=cA h hc42
    refine aS ?_
    refine aM ?_
    refine aT ?_
    refine bB ?_
    refine aF (aA M (mvI M M M M)<|aA M (asI M M M M)<|aD ?_)
    obtain ⟨x43,hx43,h⟩:=aX h
    refine aF (aA M (faR 2 M M M underlying32 M ti29 (lb M) M M)<|aA M (aI (d:=.osl _ _ _) M M (lb M) underlying29 ag29 ti29 (by decide) (svR M) M (nle M) M)<|aA M (mvI M M M M)<|aA M (fY aC.toEnc0 M M (lb M) underlying29 ti53 (sv (d:=.osl _ _ _) M) M (svI M) hx43)<|aA M (aG M M (lb M) (svR M))<|aD ?_)
    obtain ⟨x44,hx44,h⟩:=aX h
    obtain ⟨x45,hx45,h⟩:=bC h
    refine iR M [⟨[10],[],[(42,.ref 4 (((v23:Int).toNat) * aC.sz + 0))],[]⟩,
     ⟨[42],[],[(43,.ref 4 (((v23:Int).toNat) * aC.sz + 0))],[]⟩,
     ⟨[43],[],[(44,.ref 4 (((v23:Int).toNat) * aC.sz + 1))],[]⟩,
     ⟨[44],[4],[(45,.int .i64 x44.Parent)],[]⟩,
     ⟨[3],[1],[(46,.int .i64 a2)],[]⟩,
     ⟨[45,46],[],[(47,.bool x45)],[]⟩] M ?_ (by kernel_rfl) ?_
    ·refine .cons (lop M M fun S hA=>(aO M M (lb M) (svaR hA M M))) ?_
     refine .cons (lop M M fun S hA=>(aL M M (lb M) (svaR hA M M))) ?_
     refine .cons (lop M M fun S hA=>(gN M M (lb M) underlying53 M ti3 (by decide) (svaR hA M M) (k':=1) M)) ?_
     refine .cons (lop M M fun S hA=>(fP aC.toEnc0 (d:=.int _ _) M M (lb M) underlying3 ag3 ti3 (by decide) (svaR hA M M) (agi hA M M) hx44 (nle M) M)) ?_
     refine .cons (lop M M fun S hA=>(aI (d:=.int _ _) M M (lb M) underlying3 ag3 ti3 (by decide) (svaR hA M M) (agi hA M M) (nle M) M)) ?_
     refine .cons (lop M M fun S hA=>(aQ M M (lb M) (svaI hA M M) (svaI hA M M) M hx45)) ?_
     exact .nil
    refine aR (b:=_) M (fun hc46=>?_) (fun hc46=>?_)
    ·
     replace h:=cA h hc46
     obtain ⟨x47,hx47,h⟩:=aX h
     obtain ⟨x48,hx48,h⟩:=bC h
     obtain ⟨x49,hx49,h⟩:=aX h
     obtain ⟨x50,hx50,h⟩:=bC h
     obtain ⟨x51,hx51,h⟩:=aX h
     obtain ⟨x52,hx52,h⟩:=bC h
     obtain ⟨x53,hx53,h⟩:=aX h
     obtain ⟨x54,hx54,h⟩:=bC h
     refine lH M [⟨[10],[],[(48,.ref 4 (((v23:Int).toNat) * aC.sz + 0))],[]⟩,
      ⟨[10],[],[(49,.ref 4 (((v23:Int).toNat) * aC.sz + 0))],[]⟩,
      ⟨[7],[],[(50,.ref 3 1)],[]⟩,
      ⟨[50],[3],[(51,.int .i64 x3.Parent)],[]⟩,
      ⟨[7],[],[(52,.ref 3 2)],[]⟩,
      ⟨[52],[3],[(53,.int .i64 x3.Weight)],[]⟩,
      ⟨[10],[],[(54,.ref 4 (((v23:Int).toNat) * aC.sz + 0))],[]⟩,
      ⟨[54],[],[(55,.ref 4 (((v23:Int).toNat) * aC.sz + 0))],[]⟩,
      ⟨[55],[],[(56,.ref 4 (((v23:Int).toNat) * aC.sz + 2))],[]⟩,
      ⟨[56],[4],[(57,.int .i64 x47.Weight)],[]⟩,
      ⟨[53,57],[],[(58,.int .i64 x48)],[]⟩,
      ⟨[8],[],[(59,.int .i64 x6)],[]⟩,
      ⟨[58,59],[],[(60,.int .i64 x49)],[]⟩,
      ⟨[60],[],[(61,.int .i64 x50)],[]⟩,
      ⟨[48],[],[(62,.ref 4 (((v23:Int).toNat) * aC.sz + 0))],[]⟩,
      ⟨[62],[],[(63,.ref 4 (((v23:Int).toNat) * aC.sz + 1))],[]⟩,
      ⟨[51,63],[4],[],[(4,.blk 53 (D.flat (x52.map aC.d)))]⟩,
      ⟨[49],[],[(64,.ref 4 (((v23:Int).toNat) * aC.sz + 0))],[]⟩,
      ⟨[64],[],[(65,.ref 4 (((v23:Int).toNat) * aC.sz + 2))],[]⟩,
      ⟨[61,65],[4],[],[(4,.blk 53 (D.flat (x54.map aC.d)))]⟩] M ?_ (by kernel_rfl) ?_
     ·refine .cons (lop M M fun S hA=>(aO M M (lb M) (svaR hA M M))) ?_
      refine .cons (lop M M fun S hA=>(aO M M (lb M) (svaR hA M M))) ?_
      refine .cons (lop M M fun S hA=>(aP M M (lb M) underlying53 M ti3 (by decide) (svaR hA M M) (off':=1) M)) ?_
      refine .cons (lop M M fun S hA=>(aI (d:=.int _ _) M M (lb M) underlying3 ag3 ti3 (by decide) (svaR hA M M) (agi hA M M) (nle M) M)) ?_
      refine .cons (lop M M fun S hA=>(aP M M (lb M) underlying53 M ti3 (by decide) (svaR hA M M) (off':=2) M)) ?_
      refine .cons (lop M M fun S hA=>(aI (d:=.int _ _) M M (lb M) underlying3 ag3 ti3 (by decide) (svaR hA M M) (agi hA M M) (nle M) M)) ?_
      refine .cons (lop M M fun S hA=>(aO M M (lb M) (svaR hA M M))) ?_
      refine .cons (lop M M fun S hA=>(aL M M (lb M) (svaR hA M M))) ?_
      refine .cons (lop M M fun S hA=>(gN M M (lb M) underlying53 M ti3 (by decide) (svaR hA M M) (k':=2) M)) ?_
      refine .cons (lop M M fun S hA=>(fP aC.toEnc0 (d:=.int _ _) M M (lb M) underlying3 ag3 ti3 (by decide) (svaR hA M M) (agi hA M M) hx47 (nle M) M)) ?_
      refine .cons (lop M M fun S hA=>(bO M M (lb M) (svaI hA M M) (svaI hA M M) M hx48)) ?_
      refine .cons (lop M M fun S hA=>(aO M M (lb M) (svaI hA M M))) ?_
      refine .cons (lop M M fun S hA=>(yQ M M (lb M) (svaI hA M M) (svaI hA M M) hx49)) ?_
      refine .cons (lop M M fun S hA=>(yR M M (lb M) (svaI hA M M) (sv (d:=.int _ 1) M) hx50)) ?_
      refine .cons (lop M M fun S hA=>(aL M M (lb M) (svaR hA M M))) ?_
      refine .cons (lop M M fun S hA=>(gN M M (lb M) underlying53 M ti3 (by decide) (svaR hA M M) (k':=1) M)) ?_
      refine .cons (lop M M fun S hA=>(lN aC.toEnc0 (a':=(⟨x51.ID,x3.Parent,x51.Weight,x51.Closed⟩:aH)) M M ti3 (svaR hA M M) (agi hA M M) (svaI hA M M) M M M hx51 (nle M) M hx52)) ?_
      refine .cons (lop M M fun S hA=>(aL M M (lb M) (svaR hA M M))) ?_
      refine .cons (lop M M fun S hA=>(gN M M (lb M) underlying53 M ti3 (by decide) (svaR hA M M) (k':=2) M)) ?_
      refine .cons (lop M M fun S hA=>(lN aC.toEnc0 (a':=(⟨x53.ID,x53.Parent,x50,x53.Closed⟩:aH)) M M ti3 (svaR hA M M) (agi hA M M) (svaI hA M M) M M M hx53 (nle M) M hx54)) ?_
      exact .nil
     refine bJ ?_
     refine aM ?_
     obtain ⟨x55,hx55,h⟩:=bC h
     refine bA (aA M (bO M M (lb M) (svI M) (sv (d:=.int _ 1) M) M hx55)<|aA M (mvI M M M M)<|bL ?_)
     refine aM ⟨(n0,x55,x54),(fun i=>i),⟨(.sames M M),(.cons (.blk M (by rw [← (iQ hx54 (iQ hx52 M))]; rfl) M) (.cons (.blk M M M) (.cons (.blk M M M) (.cons (.blk M M M) (.cons (EntW.lst M) (.cons (EntW.lst M) .nil)))))),bE [0,1,2,3,1001,4] M (by decide),fun _ _=>M⟩,?_,?_⟩
     exact h
     exact Nat.lt_succ_self _
    ·
     replace h:=cB h hc46
     refine aS ?_
     refine bJ ?_
     refine aM ?_
     obtain ⟨x56,hx56,h⟩:=bC h
     refine bA (aA M (bO M M (lb M) (svI M) (sv (d:=.int _ 1) M) M hx56)<|aA M (mvI M M M M)<|bL ?_)
     refine aM ⟨(n0,x56,v24),(fun i=>i),⟨(.sames M M),(.cons (.blk M M M) (.cons (.blk M M M) (.cons (.blk M M M) (.cons (.blk M M M) (.cons (EntW.lst M) (.cons (EntW.lst M) .nil)))))),bE [0,1,2,3,1001,4] M (by decide),fun _ _=>M⟩,?_,?_⟩
     exact h
     exact Nat.lt_succ_self _
   ·
    replace h:=cB h hc42
    refine cU ?_
    refine bK ?_
    refine bK ?_
    refine cW ?_
    refine aM ?_
    obtain ⟨x57,hx57,h⟩:=aX h
    refine aF (aA M (faR 3 M M M underlying32 M ti30 (lb M) M M)<|aA M (aI (d:=.osl _ _ _) M M (lb M) underlying30 ag30 ti30 (by decide) (svR M) M (nle M) M)<|aA M (mG M M (lb M) (.cons (svR M) .nil))<|aA M (cQ (r':=.osl 5 (eInt .i64).sz x57.length) (H1':=[(1,.blk 3 [.int .i64 a2]),(5,.blk 3 (D.flat (x57.map (eInt .i64).d)))]) 5 [1001,1] M M (lb M) cl59 (.cons (sv (d:=.osl _ _ _) M) (.cons (sv (d:=.fn 60 [.ref _ _]) M) .nil)) M M ⟨M,M,by decide,M,List.forall_mem_cons.2 ⟨⟨M,M,(iF (eInt .i64) M),(bP (eInt .i64))⟩,List.forall_mem_cons.2 ⟨⟨M,M,M,M⟩,List.forall_mem_nil _⟩⟩⟩ (nA _ _ _ hx57) M M (List.forall_mem_cons.2 ⟨⟨M,M⟩,List.forall_mem_cons.2 ⟨⟨M,(bP (eInt .i64))⟩,List.forall_mem_nil _⟩⟩) (by simp only [List.map_cons,List.map_nil,Ent.ren,bT,cE]; rfl))<|aA M (faR 3 M M M underlying32 M ti30 (lb M) M M)<|aA M (dZ (ds':=q10) M M ti30 (svR M) M (sv (d:=.osl _ _ _) M) M M M (nle M) M)<|aD ?_)
    refine aF (aA M (lra q10 la32 M M M M M (nle M) M)<|aA M (stA q10 q10 ti32 M M M M M M M M (nle M) M)<|aD ?_)
    refine aY ?_
    obtain rfl:=sj_ h
    refine ⟨.inr M,(fun i=>if i=0 then 4 else if i=1 then 5 else i),⟨.nil,(.cons (EntW.lst M) (.cons (EntW.lst M) .nil)),bE [4,5] M (by decide),(fun i hi=>by first | rfl | (show (if _ then _ else _)=_; (repeat' split) <;> omega))⟩,(.cons (rva la32 M M (nle M) M) .nil),M⟩

set_option maxRecDepth 8000 in
set_option maxHeartbeats 4000000 in
theorem mC (a0:Int) (a1:List aH) (a2:List aH) (r:List aH) (h:eY a0 a1 a2=some r):FnH prog 55 [.osl 1000 aC.sz a2.length,.int .i64 a0,.slice false (a1.map aC.d)] [(1000,.blk 53 (D.flat (a2.map aC.d)))] (.osl 0 aC.sz r.length) [(0,.blk 53 (D.flat (r.map aC.d)))]:=by
 replace h:insS 32 a2 a0 a1=some r:=h
 obtain ⟨i,rfl,hi,hm,hb,hr⟩:=insS_e h
 have hX:=aC.toEnc0.flat_len a2
 have hV:=aC.toEnc0.flat_len a1
 have hp:=aC.pos
 have hvt:∀ k,a1.length ≤ k → (D.flat (a1.map aC.d)).take (min a1.length k * aC.sz)=D.flat (a1.map aC.d):=fun k hk=>by
  rw [Nat.min_eq_left hk,← hV,List.take_length]
 refine dB (rs:=[.osl 0 aC.sz r.length]) func55 M ntmps55 (nle M) fun O hO=>?_
 show IWP _ _ _ _ ⟨[(0,.osl 1000 aC.sz a2.length),(1,.int .i64 (i:Int)),(2,.slice false (a1.map aC.d))],[(1000,.blk 53 (D.flat (a2.map aC.d)))]⟩ _
 refine yM 0 (id:=1000) (sz:=aC.sz) (n:=a2.length) M M hX (fun hn=>?_) (fun c hc hcm=>?_)
 ·
  obtain rfl:=List.length_eq_zero_iff.1 hn
  obtain rfl:i=0:=by simpa using hi
  refine aF (aA M (aG M M (lb M) (sv (d:=.nils) M)) <| aD ?_)
  refine aF (aA M (aO M M (lb M) (sv (d:=.nils) M)) <| aA M (mvI M M M M)<|aA M (aDc aC (s:=[]) (r:=[]) (b:=false) M M (lb M) underlying29 ti53 (svn M) ⟨_,(svI M)⟩ M M) <| aD ?_)
  refine aF (aA M (mvL M M M M) <| aA M (cV aC (l:=a1) M M (lb M) underlying29 (svL M))<|aA M (asI M M M M) <| aD ?_)
  refine aT ?_
  refine aF (aA M (mvI M M M M) <| aA M (aQ M M (lb M) (svI M) (sv (d:=.int _ 0) M) M M) <| aD ?_)
  refine aR (b:=_) M (fun h1=>?_) (fun h1=>?_)
  ·have h2:=of_decide_eq_true h1
   obtain rfl:=List.length_eq_zero_iff.1 (show a1.length=0 by omega)
   have hr':[]=r:=by simpa using hr
   subst hr'
   refine aF (aA M (aO M M (lb M) (sv (d:=.nils) M)) <| aA M (aG M M (lb M) (sv (d:=.nils) M)) <| aD ?_)
   refine aY ?_
   refine bG ?_
   refine ⟨.inr M,(fun i=>if i=0 then 50 else i),⟨.nil,(.cons (.nilb M) .nil),bE [50] M (by decide),(fun i hi=>by first | rfl | (show (if _ then _ else _)=_; (repeat' split) <;> omega))⟩,(.cons (svno M) .nil),M⟩
  ·refine aS ?_
   refine aM ?_
   refine aF (aA M (aO M M (lb M) (sv (d:=.nils) M)) <| aA M (cV aC (l:=[]) (b:=false) M M (lb M) underlying29 (svn M))<|aA M (asI M M M M) <| aD ?_)
   refine aT ?_
   refine aF (aA M (mvI M M M M) <| aA M (mvI M M M M) <| aA M (aQ M M (lb M) (svI M) (svI M) M M) <| aD ?_)
   refine rH M M ?_
   have ha:app 32 ([]:List aH) a1=some r:=by
    rw [← hr]; unfold maxLen at hm; simpa using kX hm hb
   refine aF (aA M (aO M M (lb M) (sv (d:=.nils) M)) <| aA M (mvL M M M M)<|aA M (aCn aC.toEnc0 0 M M (lb M) underlying29 ti53 M M M (aAY aC (ys:=a1) (svL M)) ha)<|aA M (aG M M (lb M) (sv (d:=.osl _ _ _) M)) <| aD ?_)
   refine aY ?_
   refine bG ?_
   refine ⟨.inr M,(fun i=>i),⟨.nil,(.cons (EntW.lst M) .nil),bE [0] M (by decide),fun _ _=>M⟩,(.cons (sv M) .nil),M⟩
 ·refine aF (aA M (aG M M (lb M) (sv (d:=.nils) M)) <| aD ?_)
  refine aF (aA M (aO M M (lb M) (sv (d:=.rsl _ _ _ _ _) M)) <| aA M (mvI M M M M)<|aA M (fK (sz:=aC.sz) (l:=(i:Int)) (h:=(a2.length:Int)) (m:=(c:Int)) M M (lb M) underlying29 ti53 (sv (d:=.rsl _ _ _ _ _) M) ⟨_,(svI M)⟩ M M (by simp) (by omega) (by omega) (by omega) (by omega) M) <| aD ?_)
  refine aF (aA M (mvL M M M M) <| aA M (cV aC (l:=a1) M M (lb M) underlying29 (svL M))<|aA M (asI M M M M) <| aD ?_)
  refine aT ?_
  refine aF (aA M (mvI M M M M) <| aA M (aQ M M (lb M) (svI M) (sv (d:=.int _ 0) M) M M) <| aD ?_)
  refine aR (b:=_) M (fun h1=>?_) (fun h1=>?_)
  ·have h2:=of_decide_eq_true h1
   obtain rfl:=List.length_eq_zero_iff.1 (show a1.length=0 by omega)
   have hr':a2=r:=by simpa using hr
   subst hr'
   refine aF (aA M (aO M M (lb M) (sv (d:=.rsl _ _ _ _ _) M)) <| aA M (aG M M (lb M) (sv (d:=.rsl _ _ _ _ _) M)) <| aD ?_)
   refine rC 6 (id:=1000) M M hX ?_
   refine aY ?_
   refine bG ?_
   refine ⟨.inr M,(fun i=>if i=0 then 1000 else i),⟨.nil,(.cons (EntW.lst M) .nil),bE [1000] M (by decide),(fun i hi=>by first | rfl | (show (if _ then _ else _)=_; (repeat' split) <;> omega))⟩,(.cons (sv M) .nil),M⟩
  ·have h2:=of_decide_eq_false h1
   have hm0:0 < a1.length:=by omega
   refine aS ?_
   refine aM ?_
   refine aF (aA M (aO M M (lb M) (sv (d:=.rsl _ _ _ _ _) M)) <| aA M (qH M M (lb M) underlying29 (sv (d:=.rsl _ _ _ _ _) M) M)<|aA M (asI M M M M) <| aD ?_)
   refine aT ?_
   refine aF (aA M (mvI M M M M) <| aA M (mvI M M M M) <| aA M (aQ M M (lb M) (svI M) (svI M) M M) <| aD ?_)
   refine aR (b:=_) M (fun h3=>?_) (fun h3=>?_)
   ·have h4:=of_decide_eq_true h3
    obtain rfl:i=a2.length:=by omega
    have hr':a2 ++ a1=r:=by simpa using hr
    have ha:app 32 a2 a1=some r:=by
     rw [← hr']; unfold maxLen at hm; exact kX hm hb
    refine aF (aA M (aO M M (lb M) (sv (d:=.rsl _ _ _ _ _) M)) <| aA M (mvL M M M M)<|aCr 23 (id:=1000) M M hX<|aA M (iH aC.toEnc0 0 M M (lb M) underlying29 ti53 M M M M M (aAY aC (ys:=a1) (svL M)) ha)<|aA M (aG M M (lb M) (sv (d:=.osl _ _ _) M)) <| aD ?_)
    refine aY ?_
    refine bG ?_
    refine ⟨.inr M,(fun i=>i),⟨.nil,(.cons (EntW.lst M) .nil),bE [0] M (by decide),fun _ _=>M⟩,(.cons (sv M) .nil),M⟩
   ·have h4:=of_decide_eq_false h3
    have hin:i < a2.length:=by omega
    have hXt:(D.flat ((a2.take i).map aC.d)).length=i * aC.sz:=by rw [aC.toEnc0.flat_len,List.length_take,Nat.min_eq_left hi]
    have hXd:(D.flat ((a2.drop i).map aC.d)).length=(a2.length - i) * aC.sz:=by rw [aC.toEnc0.flat_len,List.length_drop]
    have hXs:D.flat (a2.map aC.d)=D.flat ((a2.take i).map aC.d) ++ D.flat ((a2.drop i).map aC.d):=by
     rw [aC.toEnc0.flat_append,List.take_append_drop]
    have hR:D.flat (r.map aC.d)=D.flat ((a2.take i).map aC.d) ++ D.flat (a1.map aC.d) ++ D.flat ((a2.drop i).map aC.d):=by
     rw [← hr,aC.toEnc0.flat_append,aC.toEnc0.flat_append]
    have hRl:(D.flat (r.map aC.d)).length=r.length * aC.sz:=aC.toEnc0.flat_len r
    have hrl:r.length=a2.length + a1.length:=by rw [← hr]; simp; omega
    refine aS ?_
    refine aM ?_
    refine aT ?_
    refine aF (aA M (mvI M M M M) <| aA M (mvI M M M M) <| aA M (bO M M (lb M) (svI M) (svI M) M (wN hm))<|aA M (aO M M (lb M) (sv (d:=.rsl _ _ _ _ _) M)) <| aA M (aAo M M (lb M) underlying29 (sv (d:=.rsl _ _ _ _ _) M) M) <| aA M (aQ M M (lb M) (svI M) (svI M) M M) <| aD ?_)
    refine aR (b:=_) M (fun h5=>?_) (fun h5=>?_)
    ·have h6:=of_decide_eq_true h5
     have hcn:c < a2.length + a1.length:=by omega
     obtain ⟨K,hK⟩:∃ K,K=a2.length + a1.length - i:=⟨_,rfl⟩
     have hKm:i + K=a2.length + a1.length:=by omega
     have w1:IntKind.wrap .i64 (((a2.length + a1.length:Nat):Int) - (i:Int))=(K:Int):=by rw [hK]; exact wS (by omega) hm
     have hD0:i * aC.sz ≤ (D.flat (a2.map aC.d) ++ List.replicate ((c - a2.length) * aC.sz) D.dead).length:=by
      rw [List.length_append,hX]; exact Nat.le_trans (Nat.mul_le_mul_right _ hi) (Nat.le_add_right _ _)
     have hT0:(D.flat (a2.map aC.d) ++ List.replicate ((c - a2.length) * aC.sz) D.dead).take (i * aC.sz)=D.flat ((a2.take i).map aC.d):=by
      rw [List.take_append_of_le_length (by rw [hX]; exact Nat.mul_le_mul_right _ hi),aC.toEnc0.flat_take]
     refine aF (aA M (aO M M (lb M) (sv (d:=.rsl _ _ _ _ _) M)) <| aA M (mvI M M M M)<|aA M (fK (sz:=aC.sz) (l:=0) (h:=(i:Int)) (m:=(c:Int)) (d:=.rsl 1000 aC.sz 0 i c) M M (lb M) underlying29 ti53 (sv (d:=.rsl _ _ _ _ _) M) M ⟨_,(svI M)⟩ M (by simp) (by omega) (by omega) (by omega) (by omega) (by simp only [Int.toNat_natCast,Int.toNat_zero,Nat.zero_mul,Nat.zero_add,Nat.sub_zero]))<|aA M (mvI M M M M) <| aA M (mvI M M M M) <| aA M (bO M M (lb M) (svI M) (svI M) M (wN hm))<|aA M (mvI M M M M) <| aA M (bO M M (lb M) (svI M) (svI M) M w1)<|aA M (aAH (sz:=aC.sz) (k:=K) 0 M M (lb M) underlying29 underlying3 ti53 M (sv (d:=.rsl _ _ _ _ _) M) M M (svI M) M (by omega) hD0 (by omega) (by rw [hKm]; exact hm) (by rw [hKm]; exact hb))<|aA M (aG M M (lb M) (sv (d:=.osl _ _ _) M)) <| aD ?_)
     have hY0:((D.flat (a2.map aC.d) ++ List.replicate ((c - a2.length) * aC.sz) D.dead).take (i * aC.sz) ++ List.replicate (K * aC.sz) D.dead).length=(i + K) * aC.sz:=by
      rw [List.length_append,List.length_take,List.length_replicate,Nat.min_eq_left hD0,Nat.add_mul]
     refine yM 9 (id:=0) M M hY0 (fun h0=>absurd h0 (by omega)) (fun c1 hc1 hcm1=>?_)
     rw [hT0]
     rw [hT0] at hY0
     have w2:IntKind.wrap .i64 ((i:Int) + (a1.length:Int))=((i + a1.length:Nat):Int):=wN (by omega)
     have hKs:(K - a1.length) * aC.sz=(a2.length - i) * aC.sz:=by congr 1; omega
     obtain ⟨J,hJ⟩:∃ J,J=List.replicate ((c1 - (i + K)) * aC.sz) D.dead:=⟨_,rfl⟩
     obtain ⟨Z,hZ⟩:∃ Z,Z=List.replicate (K * aC.sz) D.dead:=⟨_,rfl⟩
     have hZl:Z.length=K * aC.sz:=by rw [hZ,List.length_replicate]
     have hKsp:K * aC.sz=a1.length * aC.sz + (a2.length - i) * aC.sz:=by rw [← Nat.add_mul]; congr 1; omega
     rw [← hJ,← hZ]
     have hYl:(D.flat ((a2.take i).map aC.d) ++ Z ++ J).length=i * aC.sz + K * aC.sz + J.length:=by simp only [List.length_append,hXt,hZl]
     refine aF (aA M (aO M M (lb M) (sv (d:=.rsl _ _ _ _ _) M)) <| aA M (mvI M M M M)<|aA M (fK (sz:=aC.sz) (l:=(i:Int)) (h:=((i + K:Nat):Int)) (m:=(c1:Int)) (d:=.rsl 0 aC.sz (i * aC.sz) K (c1 - i)) M M (lb M) underlying29 ti53 (sv (d:=.rsl _ _ _ _ _) M) ⟨_,(svI M)⟩ M M (by simp) (by omega) (by omega) (by omega) (by omega) (by simp only [Int.toNat_natCast,Nat.zero_add]; congr 1; omega))<|aA M (mvL M M M M)<|aA M (pF (sz:=aC.sz) (ds':=fZ (D.flat ((a2.take i).map aC.d) ++ Z ++ J) (i * aC.sz) (D.flat (a1.map aC.d))) M M (lb M) underlying29 ti53 (sv (d:=.rsl _ _ _ _ _) M) M (aAY aC (ys:=a1) (svL M)) hV (wP (aC.toEnc0.one a1) _) (by rw [hYl]; omega) M (by rw [hvt _ (by omega)])) <| aD ?_)
     have e1:fZ (D.flat ((a2.take i).map aC.d) ++ Z ++ J) (i * aC.sz) (D.flat (a1.map aC.d))=D.flat ((a2.take i).map aC.d) ++ D.flat (a1.map aC.d) ++ (Z.drop (a1.length * aC.sz) ++ J):=by
      have e2:D.flat ((a2.take i).map aC.d) ++ Z ++ J=D.flat ((a2.take i).map aC.d) ++ Z.take (a1.length * aC.sz) ++ (Z.drop (a1.length * aC.sz) ++ J):=by
       rw [List.append_assoc (D.flat ((a2.take i).map aC.d)),List.append_assoc (D.flat ((a2.take i).map aC.d)),← List.append_assoc (Z.take _),List.take_append_drop]
      rw [e2]; exact qW hXt (by rw [List.length_take,hZl,hV]; omega)
     have hres:=ins_new (J:=J) (Y:=D.flat ((a2.drop i).map aC.d)) hXt hV (show Z.length=a1.length * aC.sz + (D.flat ((a2.drop i).map aC.d)).length by rw [hZl,hXd,hKsp])
     have hlen1:(fZ (D.flat ((a2.take i).map aC.d) ++ Z ++ J) (i * aC.sz) (D.flat (a1.map aC.d))).length=i * aC.sz + K * aC.sz + J.length:=by
      rw [e1]; simp only [List.length_append,hXt,hV,List.length_drop,hZl]; omega
     obtain ⟨Y1,hY1⟩:∃ Y1,Y1=fZ (D.flat ((a2.take i).map aC.d) ++ Z ++ J) (i * aC.sz) (D.flat (a1.map aC.d)):=⟨_,rfl⟩
     rw [← hY1] at hlen1 hres ⊢
     obtain ⟨es,hes⟩:∃ es,es=((D.flat (a2.map aC.d) ++ List.replicate ((c - a2.length) * aC.sz) D.dead).drop (i * aC.sz)).take ((a2.length - i) * aC.sz):=⟨_,rfl⟩
     have hes':es=D.flat ((a2.drop i).map aC.d):=by
      rw [hes,List.drop_append_of_le_length (by rw [hX]; exact Nat.mul_le_mul_right _ hi),aC.toEnc0.flat_drop,List.take_append_of_le_length (by rw [hXd]; exact Nat.le_refl _),← hXd,List.take_length]
     have hfit2:i * aC.sz + (a2.length - i) * aC.sz ≤ (D.flat (a2.map aC.d) ++ List.replicate ((c - a2.length) * aC.sz) D.dead).length:=by
      rw [List.length_append,hX,← Nat.add_mul,show i + (a2.length - i)=a2.length by omega]; exact Nat.le_add_right _ _
     have him:(i + a1.length) * aC.sz=i * aC.sz + a1.length * aC.sz:=Nat.add_mul _ _ _
     refine iR M [⟨[9],[],[(46,.rsl 0 aC.sz 0 (i + K) c1)],[]⟩,⟨[1],[],[(47,.int .i64 (i:Int))],[]⟩,⟨[7],[],[(48,.int .i64 (a1.length:Int))],[]⟩,⟨[47,48],[],[(49,.int .i64 ((i + a1.length:Nat):Int))],[]⟩,
      ⟨[46,49],[],[(50,.rsl 0 aC.sz ((i + a1.length) * aC.sz) (K - a1.length) (c1 - (i + a1.length)))],[]⟩,⟨[0],[],[(51,.rsl 1000 aC.sz 0 a2.length c)],[]⟩,⟨[1],[],[(52,.int .i64 (i:Int))],[]⟩,⟨[51,52],[],[(53,.rsl 1000 aC.sz (i * aC.sz) (a2.length - i) (c - i))],[]⟩,
      ⟨[50,53],[0,1000],[(54,.int .i64 ((min (a2.length - i) (K - a1.length):Nat):Int))],[(0,.blk 53 (fZ Y1 ((i + a1.length) * aC.sz) es))]⟩] M ?_ (by kernel_rfl) ?_
     ·refine .cons (lop M M fun S hA=>(aO M M (lb M) (sv (d:=.rsl _ _ _ _ _) (agr hA M M)))) ?_
      refine .cons (lop M M fun S hA=>(aO M M (lb M) (svaI hA M M))) ?_
      refine .cons (lop M M fun S hA=>(aO M M (lb M) (svaI hA M M))) ?_
      refine .cons (lop M M fun S hA=>(bO M M (lb M) (svaI hA M M) (svaI hA M M) M w2)) ?_
      refine .cons (lop M M fun S hA=>(fK (sz:=aC.sz) (l:=((i + a1.length:Nat):Int)) (h:=((i + K:Nat):Int)) (m:=(c1:Int)) (d:=.rsl 0 aC.sz ((i + a1.length) * aC.sz) (K - a1.length) (c1 - (i + a1.length))) M M (lb M) underlying29 ti53 (sv (d:=.rsl _ _ _ _ _) (agr hA M M)) ⟨_,(svaI hA M M)⟩ M M (by simp) (by omega) (by omega) (by omega) (by omega) (by simp only [Int.toNat_natCast,Nat.zero_add]; congr 1; omega))) ?_
      refine .cons (lop M M fun S hA=>(aO M M (lb M) (sv (d:=.rsl _ _ _ _ _) (agr hA M M)))) ?_
      refine .cons (lop M M fun S hA=>(aO M M (lb M) (svaI hA M M))) ?_
      refine .cons (lop M M fun S hA=>(fK (sz:=aC.sz) (l:=(i:Int)) (h:=(a2.length:Int)) (m:=(c:Int)) (d:=.rsl 1000 aC.sz (i * aC.sz) (a2.length - i) (c - i)) M M (lb M) underlying29 ti53 (sv (d:=.rsl _ _ _ _ _) (agr hA M M)) ⟨_,(svaI hA M M)⟩ M M (by simp) (by omega) (by omega) (by omega) (by omega) (by simp only [Int.toNat_natCast,Nat.zero_add]))) ?_
      refine .cons (lop M M fun S hA=>(pF (sz:=aC.sz) (es:=es) (ds':=fZ Y1 ((i + a1.length) * aC.sz) es) M M (lb M) underlying29 ti53 (sv (d:=.rsl _ _ _ _ _) (agr hA M M)) (agi hA M M) (hes ▸ aAX (sv (d:=.rsl _ _ _ _ _) (agr hA M M)) (agi hA M M) hfit2) (by rw [hes',hXd]) (wP (by rw [hes']; exact aC.toEnc0.one _) _) (by rw [hlen1,him,hKs]; omega) M (by rw [show min (a2.length - i) (K - a1.length)=a2.length - i by omega,hes',← hXd,List.take_length]))) ?_
      exact .nil
     ·rw [hes',him,hres,← hR]
      refine aF (aA M (aO M M (lb M) (sv (d:=.rsl _ _ _ _ _) M)) <| aA M (aG M M (lb M) (sv (d:=.rsl _ _ _ _ _) M)) <| aD ?_)
      refine rC 6 (id:=0) M M (show (D.flat (r.map aC.d)).length=(i + K) * aC.sz by rw [hRl,hrl,hKm]) ?_
      refine aY ?_
      refine bG ?_
      refine ⟨.inr M,(fun i=>i),⟨.nil,(.cons (EntW.lst M) .nil),bE [0] M (by decide),fun _ _=>M⟩,(.cons (sv (congrArg (D.osl _ _) (show i + K=r.length by omega))) .nil),M⟩
    ·have h6:=of_decide_eq_false h5
     have hcn:a2.length + a1.length ≤ c:=by omega
     have w2:IntKind.wrap .i64 ((i:Int) + (a1.length:Int))=((i + a1.length:Nat):Int):=wN (by omega)
     have him:(i + a1.length) * aC.sz=i * aC.sz + a1.length * aC.sz:=Nat.add_mul _ _ _
     obtain ⟨J,hJ⟩:∃ J,J=List.replicate ((c - a2.length) * aC.sz) D.dead:=⟨_,rfl⟩
     have hJl:J.length=(c - a2.length) * aC.sz:=by rw [hJ,List.length_replicate]
     have hJm:a1.length * aC.sz ≤ J.length:=by rw [hJl]; exact Nat.mul_le_mul_right _ (by omega)
     have hni:a2.length * aC.sz=i * aC.sz + (a2.length - i) * aC.sz:=by rw [← Nat.add_mul]; congr 1; omega
     have hnm:(a2.length + a1.length - i) * aC.sz=(a2.length - i) * aC.sz + a1.length * aC.sz:=by rw [← Nat.add_mul]; congr 1; omega
     have hnm2:(a2.length + a1.length - (i + a1.length)) * aC.sz=(a2.length - i) * aC.sz:=by congr 1; omega
     rw [← hJ]
     have hD0:(D.flat (a2.map aC.d) ++ J).length=i * aC.sz + (a2.length - i) * aC.sz + J.length:=by rw [List.length_append,hX,hni]
     refine aS ?_
     refine aM ?_
     refine aF (aA M (aO M M (lb M) (sv (d:=.rsl _ _ _ _ _) M)) <| aA M (mvI M M M M) <| aA M (mvI M M M M)<|aA M (bO M M (lb M) (svI M) (svI M) M (wN hm))<|aA M (fK (sz:=aC.sz) (l:=0) (h:=((a2.length + a1.length:Nat):Int)) (m:=(c:Int)) (d:=.rsl 1000 aC.sz 0 (a2.length + a1.length) c) M M (lb M) underlying29 ti53 (sv (d:=.rsl _ _ _ _ _) M) M ⟨_,(svI M)⟩ M (by simp) (by omega) (by omega) (by omega) (by omega) (by simp only [Int.toNat_natCast,Int.toNat_zero,Nat.zero_mul,Nat.zero_add,Nat.sub_zero]))<|aA M (aG M M (lb M) (sv (d:=.rsl _ _ _ _ _) M)) <| aD ?_)
     refine aT ?_
     refine aF (aA M (mvL M M M M) <| aA M (aO M M (lb M) (sv (d:=.rsl _ _ _ _ _) M)) <| aA M (mvI M M M M) <| aA M (mvI M M M M)<|aA M (bO M M (lb M) (svI M) (svI M) M w2)<|aA M (fK (sz:=aC.sz) (l:=((i + a1.length:Nat):Int)) (h:=((a2.length + a1.length:Nat):Int)) (m:=(c:Int)) M M (lb M) underlying29 ti53 (sv (d:=.rsl _ _ _ _ _) M) ⟨_,(svI M)⟩ M M (by simp) (by omega) (by omega) (by omega) (by omega) M)<|aA M (aAE M M (lb M) ex77 underlying29 ti53 (svL M) (by intro e; have e9:=congrArg List.length e; rw [List.length_map,List.length_nil] at e9; omega) (sv (d:=.rsl _ _ _ _ _) M) M (by intro e; have:=congrArg List.length e; rw [hD0] at this; simp only [List.length_nil] at this; have h9:0 < (a2.length - i) * aC.sz:=Nat.mul_pos (Nat.sub_pos_of_lt hin) hp; clear hnm hnm2 him; omega))<|aA M (gD M M (lb M) (svB M)) <| aD ?_)
     refine rH M M ?_
     obtain ⟨es,hes⟩:∃ es,es=((D.flat (a2.map aC.d) ++ J).drop (i * aC.sz)).take ((a2.length + a1.length - i) * aC.sz):=⟨_,rfl⟩
     have hes':es.take ((a2.length - i) * aC.sz)=D.flat ((a2.drop i).map aC.d):=by
      rw [hes,List.take_take,Nat.min_eq_left (by omega),List.drop_append_of_le_length (by omega),aC.toEnc0.flat_drop,List.take_append_of_le_length (by rw [hXd]; exact Nat.le_refl _),← hXd,List.take_length]
     have hesl:es.length=(a2.length + a1.length - i) * aC.sz:=by
      rw [hes,List.length_take,List.length_drop,hD0]; omega
     have hres:=aCp (J:=J) (Y:=D.flat ((a2.drop i).map aC.d)) hXt hV hJm
     rw [← hXs] at hres
     refine iR M [⟨[0],[],[(69,.rsl 1000 aC.sz 0 (a2.length + a1.length) c)],[]⟩,⟨[1],[],[(70,.int .i64 (i:Int))],[]⟩,⟨[7],[],[(71,.int .i64 (a1.length:Int))],[]⟩,⟨[70,71],[],[(72,.int .i64 ((i + a1.length:Nat):Int))],[]⟩,
      ⟨[69,72],[],[(73,.rsl 1000 aC.sz ((i + a1.length) * aC.sz) (a2.length + a1.length - (i + a1.length)) (c - (i + a1.length)))],[]⟩,⟨[0],[],[(74,.rsl 1000 aC.sz 0 (a2.length + a1.length) c)],[]⟩,⟨[1],[],[(75,.int .i64 (i:Int))],[]⟩,⟨[74,75],[],[(76,.rsl 1000 aC.sz (i * aC.sz) (a2.length + a1.length - i) (c - i))],[]⟩,
      ⟨[73,76],[1000],[(77,.int .i64 ((min (a2.length + a1.length - i) (a2.length + a1.length - (i + a1.length)):Nat):Int))],[(1000,.blk 53 (fZ (D.flat (a2.map aC.d) ++ J) (i * aC.sz + a1.length * aC.sz) (D.flat ((a2.drop i).map aC.d))))]⟩] M ?_ (by kernel_rfl) ?_
     ·refine .cons (lop M M fun S hA=>(aO M M (lb M) (sv (d:=.rsl _ _ _ _ _) (agr hA M M)))) ?_
      refine .cons (lop M M fun S hA=>(aO M M (lb M) (svaI hA M M))) ?_
      refine .cons (lop M M fun S hA=>(aO M M (lb M) (svaI hA M M))) ?_
      refine .cons (lop M M fun S hA=>(bO M M (lb M) (svaI hA M M) (svaI hA M M) M w2)) ?_
      refine .cons (lop M M fun S hA=>(fK (sz:=aC.sz) (l:=((i + a1.length:Nat):Int)) (h:=((a2.length + a1.length:Nat):Int)) (m:=(c:Int)) (d:=.rsl 1000 aC.sz ((i + a1.length) * aC.sz) (a2.length + a1.length - (i + a1.length)) (c - (i + a1.length))) M M (lb M) underlying29 ti53 (sv (d:=.rsl _ _ _ _ _) (agr hA M M)) ⟨_,(svaI hA M M)⟩ M M (by simp) (by omega) (by omega) (by omega) (by omega) (by simp only [Int.toNat_natCast,Nat.zero_add]))) ?_
      refine .cons (lop M M fun S hA=>(aO M M (lb M) (sv (d:=.rsl _ _ _ _ _) (agr hA M M)))) ?_
      refine .cons (lop M M fun S hA=>(aO M M (lb M) (svaI hA M M))) ?_
      refine .cons (lop M M fun S hA=>(fK (sz:=aC.sz) (l:=(i:Int)) (h:=((a2.length + a1.length:Nat):Int)) (m:=(c:Int)) (d:=.rsl 1000 aC.sz (i * aC.sz) (a2.length + a1.length - i) (c - i)) M M (lb M) underlying29 ti53 (sv (d:=.rsl _ _ _ _ _) (agr hA M M)) ⟨_,(svaI hA M M)⟩ M M (by simp) (by omega) (by omega) (by omega) (by omega) (by simp only [Int.toNat_natCast,Nat.zero_add]))) ?_
      refine .cons (lop M M fun S hA=>(pF (sz:=aC.sz) (es:=es) (ds':=fZ (D.flat (a2.map aC.d) ++ J) (i * aC.sz + a1.length * aC.sz) (D.flat ((a2.drop i).map aC.d))) M M (lb M) underlying29 ti53 (sv (d:=.rsl _ _ _ _ _) (agr hA M M)) (agi hA M M) (hes ▸ aAX (sv (d:=.rsl _ _ _ _ _) (agr hA M M)) (agi hA M M) (by rw [hD0]; omega)) hesl (by rw [show min (a2.length + a1.length - i) (a2.length + a1.length - (i + a1.length))=a2.length - i by omega,hes']; exact aC.toEnc0.one _) (by rw [hD0,him,hnm2]; omega) M (by rw [show min (a2.length + a1.length - i) (a2.length + a1.length - (i + a1.length))=a2.length - i by omega,hes',him]))) ?_
      exact .nil
     ·refine aF (aA M (aO M M (lb M) (sv (d:=.rsl _ _ _ _ _) M)) <| aA M (mvI M M M M)<|aA M (fK (sz:=aC.sz) (l:=(i:Int)) (h:=((a2.length + a1.length:Nat):Int)) (m:=(c:Int)) (d:=.rsl 1000 aC.sz (i * aC.sz) (a2.length + a1.length - i) (c - i)) M M (lb M) underlying29 ti53 (sv (d:=.rsl _ _ _ _ _) M) ⟨_,(svI M)⟩ M M (by simp) (by omega) (by omega) (by omega) (by omega) (by simp only [Int.toNat_natCast,Nat.zero_add]))<|aA M (mvL M M M M)<|aA M (pF (sz:=aC.sz) (ds':=D.flat (r.map aC.d) ++ J.drop (a1.length * aC.sz)) M M (lb M) underlying29 ti53 (sv (d:=.rsl _ _ _ _ _) M) M (aAY aC (ys:=a1) (svL M)) hV (wP (aC.toEnc0.one a1) _) (by rw [rR,hD0]; omega; rw [hD0,hXd]; omega) M (by rw [hvt _ (by omega),hres,hR])) <| aD ?_)
      refine aF (aA M (aO M M (lb M) (sv (d:=.rsl _ _ _ _ _) M)) <| aA M (aG M M (lb M) (sv (d:=.rsl _ _ _ _ _) M)) <| aD ?_)
      refine rC 6 (id:=1000) M M (show (D.flat (r.map aC.d)).length=(a2.length + a1.length) * aC.sz by rw [hRl,hrl]) ?_
      refine aY ?_
      refine bG ?_
      refine ⟨.inr M,(fun i=>if i=0 then 1000 else i),⟨.nil,(.cons (EntW.lst M) .nil),bE [1000] M (by decide),(fun i hi=>by first | rfl | (show (if _ then _ else _)=_; (repeat' split) <;> omega))⟩,(.cons (sv (congrArg (D.osl _ _) hrl.symm)) .nil),M⟩

theorem rN (a0:Int) (a1:Int) (a2:dD) (a3:(List aH)) (a4:(List Int)) (r:(Int × Int × (List aH) × (List Int) × Int)) (h:fF a0 a1 a2 a3 a4=some r):FnH prog 26 [.agg (w29 a0 a1 (.osl 1000 aC.sz a3.length) (.osl 1001 (eInt .i64).sz a4.length)),.agg (v1 a2)] [(1000,.blk 53 (D.flat (a3.map aC.d))),(1001,.blk 3 (D.flat (a4.map (eInt .i64).d)))] (retD [.agg (w29 r.1 r.2.1 (.osl 0 aC.sz r.2.2.1.length) (.osl 1 (eInt .i64).sz r.2.2.2.1.length)),.int .i64 r.2.2.2.2]) [(0,.blk 53 (D.flat (r.2.2.1.map aC.d))),(1,.blk 3 (D.flat (r.2.2.2.1.map (eInt .i64).d)))]:=by
 refine dB (rs:=[.agg (w29 r.1 r.2.1 (.osl 0 aC.sz r.2.2.1.length) (.osl 1 (eInt .i64).sz r.2.2.2.1.length)),.int .i64 r.2.2.2.2]) func26 M ntmps26 (nle M) fun O hO=>?_
 show IWP _ _ _ _ ⟨[(0,.agg (w29 a0 a1 (.osl 1000 aC.sz a3.length) (.osl 1001 (eInt .i64).sz a4.length))),(1,.agg (v1 a2))],[(1000,.blk 53 (D.flat (a3.map aC.d))),(1001,.blk 3 (D.flat (a4.map (eInt .i64).d)))]⟩ _
 unfold fF at h
 refine aF (aA M (cK (cs:=q10) 0 M M (lb M) M (svA q10 M) M M)<|aA M (cK (cs:=q8) 1 M M (lb M) M (svA q8 M) M M)<|aA M (cT (cs:=q12) (cs':=(w25 0 0 ([]:List aH) ([]:List Int))) 2 M M (lb M) M ti32 M M (.k (.k (.cons (.nils _) (.cons (.nils _) .nil)))))<|aA M (aG M M (lb M) (sv (d:=.int _ 0) M))<|aD ?_)
 refine aT ?_
 refine aF (aA M (faR 1 M M M underlying37 M ti3 (lb M) M M)<|aA M (aI (d:=.int _ _) M M (lb M) underlying3 ag3 ti3 (by decide) (svR M) M (nle M) M)<|aA M (faR 3 M M M underlying37 M ti3 (lb M) M M)<|aA M (aI (d:=.int _ _) M M (lb M) underlying3 ag3 ti3 (by decide) (svR M) M (nle M) M)<|aA M (cJ (cs:=q11) M M (lb M) underlying53 ti53 pl53 M (.cons (svI M) (.cons (svI M) .nil)) M)<|aA M (cT (cs:=q11) (cs':=(w28 0 0 0 false)) 3 M M (lb M) M ti53 M M (.all _))<|aA M (stA q11 q11 ti53 M M M M M M M M (nle M) M)<|aD ?_)
 refine bB ?_
 refine mN (α:=Bool) (fun z=>⟨[(2,.ref 0 0),(3,.ref 1 0),(4,.ref 2 0),(16,.bool z)],[(0,.blk 32 (w29 a0 a1 (.osl 1000 aC.sz a3.length) (.osl 1001 (eInt .i64).sz a4.length))),(1,.blk 37 (v1 a2)),(2,.blk 32 (w25 0 0 ([]:List aH) ([]:List Int))),(1000,.blk 53 (D.flat (a3.map aC.d))),(1001,.blk 3 (D.flat (a4.map (eInt .i64).d)))]⟩) (fun z=>dC a0 a1 a2 a3 a4 z=some r) ?_ ?_
 ·
  obtain ⟨x36,hx36,h⟩:=aX h
  refine aF (aA M (lra q11 la53 M M M M M (nle M) M)<|aA M (bU (r:=.bool _) M M (lb M) cl36 (.cons (svA q11 M) .nil) M (uC _ _ hx36))<|aA M (asB M M M M)<|aD ?_)
  refine aR (b:=_) M (fun hc37=>?_) (fun hc37=>?_)
  ·
   replace h:=cA h hc37
   refine aS ?_
   refine aM ⟨x36,(fun i=>i),⟨(.sames M M),(.cons (.blk M M M) (.cons (.blk M M M) (.cons (.blk M M M) (.cons (EntW.lst M) (.cons (EntW.lst M) .nil))))),bE [0,1,2,1000,1001] M (by decide),fun _ _=>M⟩,?_⟩
   exact h
  ·
   replace h:=cB h hc37
   obtain ⟨x38,hx38,h⟩:=bC h
   refine aF (aA M (faR 2 M M M underlying37 M ti3 (lb M) M M)<|aA M (aI (d:=.int _ _) M M (lb M) underlying3 ag3 ti3 (by decide) (svR M) M (nle M) M)<|aA M (aQ M M (lb M) (svI M) (sv (d:=.int _ 0) M) M hx38)<|aA M (asB M M M M)<|aD ?_)
   refine aR (b:=_) M (fun hc39=>?_) (fun hc39=>?_)
   ·
    replace h:=cA h hc39
    refine aS ?_
    refine aM ⟨x38,(fun i=>i),⟨(.sames M M),(.cons (.blk M M M) (.cons (.blk M M M) (.cons (.blk M M M) (.cons (EntW.lst M) (.cons (EntW.lst M) .nil))))),bE [0,1,2,1000,1001] M (by decide),fun _ _=>M⟩,?_⟩
    exact h
   ·
    replace h:=cB h hc39
    obtain ⟨x40,hx40,h⟩:=bC h
    refine bA (aA M (faR 2 M M M underlying37 M ti3 (lb M) M M)<|aA M (aI (d:=.int _ _) M M (lb M) underlying3 ag3 ti3 (by decide) (svR M) M (nle M) M)<|aA M (aQ M M (lb M) (svI M) (sv (d:=.int _ 1048576) M) M hx40)<|aA M (asB M M M M)<|bL ?_)
    refine aM ⟨x40,(fun i=>i),⟨(.sames M M),(.cons (.blk M M M) (.cons (.blk M M M) (.cons (.blk M M M) (.cons (EntW.lst M) (.cons (EntW.lst M) .nil))))),bE [0,1,2,1000,1001] M (by decide),fun _ _=>M⟩,?_⟩
    exact h
 ·
  rintro v6 h
  unfold dC at h
  refine aR (b:=_) M (fun hc7=>?_) (fun hc7=>?_)
  ·
   replace h:=cA h hc7
   refine aF (aA M (lra q10 la32 M M M M M (nle M) M)<|aA M (stA q10 q10 ti32 M M M M M M M M (nle M) M)<|aA M (aG M M (lb M) (sv (d:=.int _ 8) M))<|aD ?_)
   refine aY ?_
   refine cO ?_
   refine bG ?_
   obtain rfl:=sj_ h
   refine ⟨.inr M,(fun i=>if i=0 then 1000 else if i=1 then 1001 else i),⟨.nil,(.cons (EntW.lst M) (.cons (EntW.lst M) .nil)),bE [1000,1001] M (by decide),(fun i hi=>by first | rfl | (show (if _ then _ else _)=_; (repeat' split) <;> omega))⟩,(.cons (rva la32 M M (nle M) M) (.cons (sv M) .nil)),M⟩
  ·
   replace h:=cB h hc7
   obtain ⟨x8,hx8,h⟩:=bC h
   refine aF (aA M (faR 1 M M M underlying37 M ti3 (lb M) M M)<|aA M (aI (d:=.int _ _) M M (lb M) underlying3 ag3 ti3 (by decide) (svR M) M (nle M) M)<|aA M (faR 2 M M M underlying37 M ti3 (lb M) M M)<|aA M (aI (d:=.int _ _) M M (lb M) underlying3 ag3 ti3 (by decide) (svR M) M (nle M) M)<|aA M (aQ M M (lb M) (svI M) (svI M) M hx8)<|aA M (asB M M M M)<|aD ?_)
   refine aR (b:=_) M (fun hc9=>?_) (fun hc9=>?_)
   ·
    replace h:=cA h hc9
    refine aF (aA M (lra q10 la32 M M M M M (nle M) M)<|aA M (stA q10 q10 ti32 M M M M M M M M (nle M) M)<|aA M (aG M M (lb M) (sv (d:=.int _ 4) M))<|aD ?_)
    refine aY ?_
    refine cO ?_
    refine bG ?_
    obtain rfl:=sj_ h
    refine ⟨.inr M,(fun i=>if i=0 then 1000 else if i=1 then 1001 else i),⟨.nil,(.cons (EntW.lst M) (.cons (EntW.lst M) .nil)),bE [1000,1001] M (by decide),(fun i hi=>by first | rfl | (show (if _ then _ else _)=_; (repeat' split) <;> omega))⟩,(.cons (rva la32 M M (nle M) M) (.cons (sv M) .nil)),M⟩
   ·
    replace h:=cB h hc9
    refine aS ?_
    refine bJ ?_
    refine aM ?_
    refine aT ?_
    obtain ⟨x10,hx10,h⟩:=aX h
    refine aF (aA M (lra q10 la32 M M M M M (nle M) M)<|aA M (faR 1 M M M underlying37 M ti3 (lb M) M M)<|aA M (aI (d:=.int _ _) M M (lb M) underlying3 ag3 ti3 (by decide) (svR M) M (nle M) M)<|aA M (kF (r:=.tuple [.int .i64 x10.1,.bool x10.2]) M M (lb M) cl28 (.cons (svA q10 M) (.cons (svI M) .nil)) (.cons (.agg (.k (.k (.cons (FDT aC M M) (.cons (FDT (eInt .i64) M M) .nil))))) (.all _)) M M (fC _ _ _ hx10))<|aA M (aO M M (lb M) (sv (d:=.tuple q21) M))<|aA M (bQ (d:=.int _ _) M M (lb M) (sv (d:=.tuple q21) M) M)<|aA M (bQ (d:=.bool _) M M (lb M) (sv (d:=.tuple q21) M) M)<|aA M (asI M M M M)<|aA M (asB M M M M)<|aD ?_)
    refine aF (aA M (mvB M M M M)<|aD ?_)
    refine aR (b:=_) M (fun hc11=>?_) (fun hc11=>?_)
    ·
     replace h:=cA h hc11
     refine aT ?_
     obtain ⟨x12,hx12,h⟩:=bC h
     refine aF (aA M (faR 0 M M M underlying37 M ti5 (lb M) M M)<|aA M (aI (d:=.int _ _) M M (lb M) underlying5 ag5 ti5 (by decide) (svR M) M (nle M) M)<|aA M (aQ M M (lb M) (svI M) (sv (d:=.int _ 0) M) M hx12)<|aD ?_)
     refine aR (b:=_) M (fun hc13=>?_) (fun hc13=>?_)
     ·
      replace h:=cA h hc13
      refine aF (aA M (lra q10 la32 M M M M M (nle M) M)<|aA M (stA q10 q10 ti32 M M M M M M M M (nle M) M)<|aA M (aG M M (lb M) (sv (d:=.int _ 13) M))<|aD ?_)
      refine aY ?_
      refine bG ?_
      refine bG ?_
      obtain rfl:=sj_ h
      refine ⟨.inr M,(fun i=>if i=0 then 1000 else if i=1 then 1001 else i),⟨.nil,(.cons (EntW.lst M) (.cons (EntW.lst M) .nil)),bE [1000,1001] M (by decide),(fun i hi=>by first | rfl | (show (if _ then _ else _)=_; (repeat' split) <;> omega))⟩,(.cons (rva la32 M M (nle M) M) (.cons (sv M) .nil)),M⟩
     ·
      replace h:=cB h hc13
      refine aS ?_
      refine aM ?_
      obtain ⟨x14,hx14,h⟩:=aX h
      refine aF (aA M (lra q10 la32 M M M M M (nle M) M)<|aA M (lra q8 la37 M M M M M (nle M) M)<|aA M (cQ (r':=.agg (w29 x14.1 x14.2.1 (.osl 3 aC.sz x14.2.2.1.length) (.osl 4 (eInt .i64).sz x14.2.2.2.length))) (H1':=[(3,.blk 53 (D.flat (x14.2.2.1.map aC.d))),(4,.blk 3 (D.flat (x14.2.2.2.map (eInt .i64).d)))]) 3 [1000,1001] M M (lb M) cl54 (.cons (svA q10 M) (.cons (svA q8 M) .nil)) M M ⟨M,M,by decide,M,List.forall_mem_cons.2 ⟨⟨M,M,(iF aC M),(bP aC)⟩,List.forall_mem_cons.2 ⟨⟨M,M,(iF (eInt .i64) M),(bP (eInt .i64))⟩,List.forall_mem_nil _⟩⟩⟩ (oP _ _ _ _ _ _ hx14) M M (List.forall_mem_cons.2 ⟨⟨M,(bP aC)⟩,List.forall_mem_cons.2 ⟨⟨M,(bP (eInt .i64))⟩,List.forall_mem_nil _⟩⟩) (by simp only [List.map_cons,List.map_nil,Ent.ren,bT,cE]; rfl))<|aA M (stA q10 q10 ti32 M M M M M M M M (nle M) M)<|aA M (aG M M (lb M) (sv (d:=.int _ 0) M))<|aD ?_)
      refine aY ?_
      refine bG ?_
      obtain rfl:=sj_ h
      refine ⟨.inr M,(fun i=>if i=0 then 3 else if i=1 then 4 else i),⟨.nil,(.cons (EntW.lst M) (.cons (EntW.lst M) .nil)),bE [3,4] M (by decide),(fun i hi=>by first | rfl | (show (if _ then _ else _)=_; (repeat' split) <;> omega))⟩,(.cons (rva la32 M M (nle M) M) (.cons (sv M) .nil)),M⟩
    ·
     replace h:=cB h hc11
     refine aS ?_
     refine aM ?_
     refine mN (α:=Int × Int × (List aH) × (List Int)) (fun z=>⟨[(2,.ref 0 0),(3,.ref 1 0),(4,.ref 2 0)],[(0,.blk 32 (w29 z.1 z.2.1 (.osl 3 aC.sz z.2.2.1.length) (.osl 4 (eInt .i64).sz z.2.2.2.length))),(1,.blk 37 (v1 a2)),(2,.blk 32 (w25 0 0 ([]:List aH) ([]:List Int))),(3,.blk 53 (D.flat (z.2.2.1.map aC.d))),(4,.blk 3 (D.flat (z.2.2.2.map (eInt .i64).d)))]⟩) (fun z=>fJ a2 z.1 z.2.1 z.2.2.1 z.2.2.2=some r) ?_ ?_
     ·
      obtain ⟨x29,hx29,h⟩:=bC h
      refine aF (aA M (faR 2 M M M underlying32 M ti29 (lb M) M M)<|aA M (aI (d:=.osl _ _ _) M M (lb M) underlying29 ag29 ti29 (by decide) (svR M) M (nle M) M)<|aA M (kV M M (lb M) underlying29 (sv (d:=.osl _ _ _) M))<|aA M (faR 0 M M M underlying32 M ti3 (lb M) M M)<|aA M (aI (d:=.int _ _) M M (lb M) underlying3 ag3 ti3 (by decide) (svR M) M (nle M) M)<|aA M (aQ M M (lb M) (svI M) (svI M) M hx29)<|aD ?_)
      refine aR (b:=_) M (fun hc30=>?_) (fun hc30=>?_)
      ·
       replace h:=cA h hc30
       refine aT ?_
       obtain ⟨x31,hx31,h⟩:=bC h
       refine aF (aA M (faR 3 M M M underlying32 M ti30 (lb M) M M)<|aA M (aI (d:=.osl _ _ _) M M (lb M) underlying30 ag30 ti30 (by decide) (svR M) M (nle M) M)<|aA M (kV M M (lb M) underlying30 (sv (d:=.osl _ _ _) M))<|aA M (aQ M M (lb M) (svI M) (sv (d:=.int _ 0) M) M hx31)<|aD ?_)
       refine aR (b:=_) M (fun hc32=>?_) (fun hc32=>?_)
       ·
        replace h:=cA h hc32
        refine aF (aA M (lra q10 la32 M M M M M (nle M) M)<|aA M (stA q10 q10 ti32 M M M M M M M M (nle M) M)<|aA M (aG M M (lb M) (sv (d:=.int _ 7) M))<|aD ?_)
        refine aY ?_
        refine bG ?_
        refine bG ?_
        obtain rfl:=sj_ h
        refine ⟨.inr M,(fun i=>if i=0 then 1000 else if i=1 then 1001 else i),⟨.nil,(.cons (EntW.lst M) (.cons (EntW.lst M) .nil)),bE [1000,1001] M (by decide),(fun i hi=>by first | rfl | (show (if _ then _ else _)=_; (repeat' split) <;> omega))⟩,(.cons (rva la32 M M (nle M) M) (.cons (sv M) .nil)),M⟩
       ·
        replace h:=cB h hc32
        refine aS ?_
        refine aM ?_
        obtain ⟨x33,hx33,h⟩:=aX h
        obtain ⟨x34,hx34,h⟩:=aX h
        obtain ⟨x35,hx35,h⟩:=aX h
        refine lH M [⟨[2],[0],[(59,.agg (w29 a0 a1 (.osl 1000 aC.sz a3.length) (.osl 1001 (eInt .i64).sz a4.length)))],[]⟩,
         ⟨[2],[],[(60,.ref 0 3)],[]⟩,
         ⟨[60],[0],[(61,.osl 1001 (eInt .i64).sz a4.length)],[]⟩,
         ⟨[61],[],[(62,.ref 1001 (((0:Int).toNat) * (eInt .i64).sz + 0))],[]⟩,
         ⟨[62],[1001],[(63,.int .i64 x34)],[]⟩,
         ⟨[59,63],[3,4,1000,1001],[(64,.agg (w29 x35.1 x35.2.1 (.osl 3 aC.sz x35.2.2.1.length) (.osl 4 (eInt .i64).sz x35.2.2.2.length)))],[(3,.blk 53 (D.flat (x35.2.2.1.map aC.d))),(4,.blk 3 (D.flat (x35.2.2.2.map (eInt .i64).d))),(1000,.none),(1001,.none)]⟩,
         ⟨[2,64],[0],[],[(0,.blk 32 (w29 x35.1 x35.2.1 (.osl 3 aC.sz x35.2.2.1.length) (.osl 4 (eInt .i64).sz x35.2.2.2.length)))]⟩] M ?_ (by kernel_rfl) ?_
        ·refine .cons (lop M M fun S hA=>(lC (cs:=q10) M M (lb M) underlying32 ag32 ti32 (by decide) (svaR hA M M) (agi hA M M) (nle M) M)) ?_
         refine .cons (lop M M fun S hA=>(aP M M (lb M) underlying32 M ti30 (by decide) (svaR hA M M) (off':=3) M)) ?_
         refine .cons (lop M M fun S hA=>(aI (d:=.osl _ _ _) M M (lb M) underlying30 ag30 ti30 (by decide) (svaR hA M M) (agi hA M M) (nle M) M)) ?_
         refine .cons (lop M M fun S hA=>(fY (eInt .i64).toEnc0 M M (lb M) underlying30 ti3 (sv (d:=.osl _ _ _) (agr hA M M)) M (sv (d:=.int _ 0) M) hx33)) ?_
         refine .cons (lop M M fun S hA=>(fP (eInt .i64).toEnc0 (d:=.int _ _) M M (lb M) underlying3 ag3 ti3 (by decide) (svaR hA M M) (agi hA M M) hx34 (nle M) M)) ?_
         refine .cons (lop M M fun S hA=>(mI (r':=.agg (w29 x35.1 x35.2.1 (.osl 3 aC.sz x35.2.2.1.length) (.osl 4 (eInt .i64).sz x35.2.2.2.length))) (U:=[(3,.blk 53 (D.flat (x35.2.2.1.map aC.d))),(4,.blk 3 (D.flat (x35.2.2.2.map (eInt .i64).d))),(1000,.none),(1001,.none)]) 3 2 [1000,1001] M M (lb M) cl29 (.cons (svaA q10 hA M M) (.cons (svaI hA M M) .nil)) M M M (List.forall_mem_cons.2 ⟨(agi hA M M),List.forall_mem_cons.2 ⟨(agi hA M M),List.forall_mem_nil _⟩⟩) ⟨by decide,M,List.forall_mem_cons.2 ⟨⟨M,M,(iF aC (agi hA M M)),(bP aC)⟩,List.forall_mem_cons.2 ⟨⟨M,M,(iF (eInt .i64) (agi hA M M)),(bP (eInt .i64))⟩,List.forall_mem_nil _⟩⟩⟩ (nN _ _ _ _ _ _ hx35) M M (List.forall_mem_cons.2 ⟨⟨M,(bP aC)⟩,List.forall_mem_cons.2 ⟨⟨M,(bP (eInt .i64))⟩,List.forall_mem_nil _⟩⟩) (by simp only [List.map_cons,List.map_nil,Ent.ren,bT,cE]; rfl))) ?_
         refine .cons (lop M M fun S hA=>(dZ (ds':=q10) M M ti32 (svaR hA M M) (agi hA M M) (svaA q10 hA M M) M M M (nle M) M)) ?_
         exact .nil
        refine aM ⟨(x35.1,x35.2.1,x35.2.2.1,x35.2.2.2),(fun i=>i),⟨(.sames M M),(.cons (.blk M M M) (.cons (.blk M M M) (.cons (.blk M M M) (.cons (EntW.lst M) (.cons (EntW.lst M) .nil))))),bE [0,1,2,3,4] M (by decide),fun _ _=>M⟩,?_⟩
        exact h
      ·
       replace h:=cB h hc30
       refine aS ?_
       refine aM ⟨(a0,a1,a3,a4),(fun i=>if i=3 then 1000 else if i=4 then 1001 else i),⟨(.sames M M),(.cons (.blk M M M) (.cons (.blk M M M) (.cons (.blk M M M) (.cons (EntW.lst M) (.cons (EntW.lst M) .nil))))),bE [0,1,2,1000,1001] M (by decide),(fun i hi=>by first | rfl | (show (if _ then _ else _)=_; (repeat' split) <;> omega))⟩,?_⟩
       exact h
     ·
      rintro ⟨v22,v23,v24,v25⟩ h
      unfold fJ at h
      obtain ⟨x26,hx26,h⟩:=aX h
      refine aF (aA M (lra q10 la32 M M M M M (nle M) M)<|aA M (faR 1 M M M underlying37 M ti3 (lb M) M M)<|aA M (aI (d:=.int _ _) M M (lb M) underlying3 ag3 ti3 (by decide) (svR M) M (nle M) M)<|aA M (kF (r:=.tuple [.int .i64 x26.1,.bool x26.2]) M M (lb M) cl28 (.cons (svA q10 M) (.cons (svI M) .nil)) (.cons (.agg (.k (.k (.cons (FDT aC M M) (.cons (FDT (eInt .i64) M M) .nil))))) (.all _)) M M (fC _ _ _ hx26))<|aA M (aO M M (lb M) (sv (d:=.tuple q21) M))<|aA M (bQ (d:=.int _ _) M M (lb M) (sv (d:=.tuple q21) M) M)<|aA M (bQ (d:=.bool _) M M (lb M) (sv (d:=.tuple q21) M) M)<|aA M (asI M M M M)<|aA M (asB M M M M)<|aD ?_)
      obtain ⟨x27,hx27,h⟩:=aX h
      refine aF (aA M (faR 2 M M M underlying32 M ti29 (lb M) M M)<|aA M (aI (d:=.osl _ _ _) M M (lb M) underlying29 ag29 ti29 (by decide) (svR M) M (nle M) M)<|aA M (mvI M M M M)<|aA M (faR 1 M M M underlying37 M ti3 (lb M) M M)<|aA M (aI (d:=.int _ _) M M (lb M) underlying3 ag3 ti3 (by decide) (svR M) M (nle M) M)<|aA M (faR 1 M M M underlying37 M ti3 (lb M) M M)<|aA M (aI (d:=.int _ _) M M (lb M) underlying3 ag3 ti3 (by decide) (svR M) M (nle M) M)<|aA M (cJ (cs:=q11) M M (lb M) underlying53 ti53 pl53 M (.cons (svI M) (.cons (svI M) (.cons (sv (d:=.int _ 16) M) .nil))) M)<|aA M (aAp aC ([(⟨a2.ID,a2.ID,16,false⟩:aH)]:(List aH)) 5 M M (lb M) underlying29 ti53 M (.cons (svA q11 M) .nil) M M (by decide))<|aA M (cQ (r':=.osl 6 aC.sz x27.length) (H1':=[(6,.blk 53 (D.flat (x27.map aC.d)))]) 6 [3] M M (lb M) cl55 (.cons (sv (d:=.osl _ _ _) M) (.cons (svI M) (.cons (svg M) .nil))) M M ⟨M,M,by decide,M,List.forall_mem_cons.2 ⟨⟨M,M,(iF aC M),(bP aC)⟩,List.forall_mem_nil _⟩⟩ (mC _ _ _ _ hx27) M M (List.forall_mem_cons.2 ⟨⟨M,(bP aC)⟩,List.forall_mem_nil _⟩) (by simp only [List.map_cons,List.map_nil,Ent.ren,bT,cE]; rfl))<|aA M (faR 2 M M M underlying32 M ti29 (lb M) M M)<|aA M (dZ (ds':=q10) M M ti29 (svR M) M (sv (d:=.osl _ _ _) M) M M M (nle M) M)<|aD ?_)
      obtain ⟨x28,hx28,h⟩:=aX h
      refine aF (aA M (lra q10 la32 M M M M M (nle M) M)<|aA M (lra q8 la37 M M M M M (nle M) M)<|aA M (cQ (r':=.agg (w29 x28.1 x28.2.1 (.osl 7 aC.sz x28.2.2.1.length) (.osl 8 (eInt .i64).sz x28.2.2.2.length))) (H1':=[(7,.blk 53 (D.flat (x28.2.2.1.map aC.d))),(8,.blk 3 (D.flat (x28.2.2.2.map (eInt .i64).d)))]) 7 [6,4] M M (lb M) cl54 (.cons (svA q10 M) (.cons (svA q8 M) .nil)) M M ⟨M,M,by decide,M,List.forall_mem_cons.2 ⟨⟨M,M,(iF aC M),(bP aC)⟩,List.forall_mem_cons.2 ⟨⟨M,M,(iF (eInt .i64) M),(bP (eInt .i64))⟩,List.forall_mem_nil _⟩⟩⟩ (oP _ _ _ _ _ _ hx28) M M (List.forall_mem_cons.2 ⟨⟨M,(bP aC)⟩,List.forall_mem_cons.2 ⟨⟨M,(bP (eInt .i64))⟩,List.forall_mem_nil _⟩⟩) (by simp only [List.map_cons,List.map_nil,Ent.ren,bT,cE]; rfl))<|aA M (stA q10 q10 ti32 M M M M M M M M (nle M) M)<|aA M (aG M M (lb M) (sv (d:=.int _ 0) M))<|aD ?_)
      refine aY ?_
      obtain rfl:=sj_ h
      refine ⟨.inr M,(fun i=>if i=0 then 7 else if i=1 then 8 else i),⟨.nil,(.cons (EntW.lst M) (.cons (EntW.lst M) .nil)),bE [7,8] M (by decide),(fun i hi=>by first | rfl | (show (if _ then _ else _)=_; (repeat' split) <;> omega))⟩,(.cons (rva la32 M M (nle M) M) (.cons (sv M) .nil)),M⟩

theorem rX (a0:Int) (a1:Int) (a2:Int) (a3:(List aH)) (a4:(List Int)) (r:(Int × Int × (List aH) × (List Int) × Int)) (h:gZ a0 a1 a2 a3 a4=some r):FnH prog 27 [.agg (w29 a0 a1 (.osl 1000 aC.sz a3.length) (.osl 1001 (eInt .i64).sz a4.length)),.int .i64 a2] [(1000,.blk 53 (D.flat (a3.map aC.d))),(1001,.blk 3 (D.flat (a4.map (eInt .i64).d)))] (retD [.agg (w29 r.1 r.2.1 (.osl 0 aC.sz r.2.2.1.length) (.osl 1 (eInt .i64).sz r.2.2.2.1.length)),.int .i64 r.2.2.2.2]) [(0,.blk 53 (D.flat (r.2.2.1.map aC.d))),(1,.blk 3 (D.flat (r.2.2.2.1.map (eInt .i64).d)))]:=by
 refine dB (rs:=[.agg (w29 r.1 r.2.1 (.osl 0 aC.sz r.2.2.1.length) (.osl 1 (eInt .i64).sz r.2.2.2.1.length)),.int .i64 r.2.2.2.2]) func27 M ntmps27 (nle M) fun O hO=>?_
 show IWP _ _ _ _ ⟨[(0,.agg (w29 a0 a1 (.osl 1000 aC.sz a3.length) (.osl 1001 (eInt .i64).sz a4.length))),(1,.int .i64 a2)],[(1000,.blk 53 (D.flat (a3.map aC.d))),(1001,.blk 3 (D.flat (a4.map (eInt .i64).d)))]⟩ _
 unfold gZ at h
 refine aF (aA M (cK (cs:=q10) 0 M M (lb M) M (svA q10 M) M M)<|aA M (cT (cs:=q12) (cs':=(w25 0 0 ([]:List aH) ([]:List Int))) 1 M M (lb M) M ti32 M M (.k (.k (.cons (.nils _) (.cons (.nils _) .nil)))))<|aA M (aG M M (lb M) (sv (d:=.int _ 0) M))<|aD ?_)
 obtain ⟨x1,hx1,h⟩:=aX h
 refine aF (aA M (lra q10 la32 M M M M M (nle M) M)<|aA M (mvI M M M M)<|aA M (kF (r:=.tuple [.int .i64 x1.1,.bool x1.2]) M M (lb M) cl28 (.cons (svA q10 M) (.cons (svI M) .nil)) (.cons (.agg (.k (.k (.cons (FDT aC M M) (.cons (FDT (eInt .i64) M M) .nil))))) (.all _)) M M (fC _ _ _ hx1))<|aA M (aO M M (lb M) (sv (d:=.tuple q21) M))<|aA M (bQ (d:=.int _ _) M M (lb M) (sv (d:=.tuple q21) M) M)<|aA M (bQ (d:=.bool _) M M (lb M) (sv (d:=.tuple q21) M) M)<|aA M (asI M M M M)<|aA M (asB M M M M)<|aD ?_)
 refine aT ?_
 refine bB ?_
 refine aF (aA M (mvB M M M M)<|aA M (gD M M (lb M) (svB M))<|aA M (asB M M M M)<|aD ?_)
 refine aR (b:=_) M (fun hc2=>?_) (fun hc2=>?_)
 ·
  replace h:=cA h hc2
  refine aF (aA M (lra q10 la32 M M M M M (nle M) M)<|aA M (stA q10 q10 ti32 M M M M M M M M (nle M) M)<|aA M (aG M M (lb M) (sv (d:=.int _ 6) M))<|aD ?_)
  refine aY ?_
  refine cO ?_
  refine bG ?_
  obtain rfl:=sj_ h
  refine ⟨.inr M,(fun i=>if i=0 then 1000 else if i=1 then 1001 else i),⟨.nil,(.cons (EntW.lst M) (.cons (EntW.lst M) .nil)),bE [1000,1001] M (by decide),(fun i hi=>by first | rfl | (show (if _ then _ else _)=_; (repeat' split) <;> omega))⟩,(.cons (rva la32 M M (nle M) M) (.cons (sv M) .nil)),M⟩
 ·
  replace h:=cB h hc2
  obtain ⟨x3,hx3,h⟩:=aX h
  obtain ⟨x4,hx4,h⟩:=aX h
  refine aF (aA M (faR 2 M M M underlying32 M ti29 (lb M) M M)<|aA M (aI (d:=.osl _ _ _) M M (lb M) underlying29 ag29 ti29 (by decide) (svR M) M (nle M) M)<|aA M (mvI M M M M)<|aA M (fY aC.toEnc0 M M (lb M) underlying29 ti53 (sv (d:=.osl _ _ _) M) M (svI M) hx3)<|aA M (gN M M (lb M) underlying53 M ti4 (by decide) (svR M) (k':=3) M)<|aA M (fP aC.toEnc0 (d:=.bool _) M M (lb M) underlying4 ag4 ti4 (by decide) (svR M) M hx4 (nle M) M)<|aA M (asB M M M M)<|aD ?_)
  refine aR (b:=_) M (fun hc5=>?_) (fun hc5=>?_)
  ·
   replace h:=cA h hc5
   refine aF (aA M (lra q10 la32 M M M M M (nle M) M)<|aA M (stA q10 q10 ti32 M M M M M M M M (nle M) M)<|aA M (aG M M (lb M) (sv (d:=.int _ 9) M))<|aD ?_)
   refine aY ?_
   refine cO ?_
   refine bG ?_
   obtain rfl:=sj_ h
   refine ⟨.inr M,(fun i=>if i=0 then 1000 else if i=1 then 1001 else i),⟨.nil,(.cons (EntW.lst M) (.cons (EntW.lst M) .nil)),bE [1000,1001] M (by decide),(fun i hi=>by first | rfl | (show (if _ then _ else _)=_; (repeat' split) <;> omega))⟩,(.cons (rva la32 M M (nle M) M) (.cons (sv M) .nil)),M⟩
  ·
   replace h:=cB h hc5
   refine aS ?_
   refine bJ ?_
   refine aM ?_
   obtain ⟨x6,hx6,h⟩:=aX h
   obtain ⟨x7,hx7,h⟩:=aX h
   obtain ⟨x8,hx8,h⟩:=bC h
   refine aF (aA M (faR 2 M M M underlying32 M ti29 (lb M) M M)<|aA M (aI (d:=.osl _ _ _) M M (lb M) underlying29 ag29 ti29 (by decide) (svR M) M (nle M) M)<|aA M (mvI M M M M)<|aA M (fY aC.toEnc0 M M (lb M) underlying29 ti53 (sv (d:=.osl _ _ _) M) M (svI M) hx6)<|aA M (gN M M (lb M) underlying53 M ti4 (by decide) (svR M) (k':=3) M)<|aA M (lN aC.toEnc0 (a':=(⟨x7.ID,x7.Parent,x7.Weight,true⟩:aH)) M M ti4 (svR M) M (sv (d:=.bool true) M) M M M hx7 (nle M) M hx8)<|aD ?_)
   obtain ⟨x9,hx9,h⟩:=aX h
   refine aF (aA M (faR 3 M M M underlying32 M ti30 (lb M) M M)<|aA M (aI (d:=.osl _ _ _) M M (lb M) underlying30 ag30 ti30 (by decide) (svR M) M (nle M) M)<|aA M (mvI M M M M)<|aA M (lD (eInt .i64).toEnc0 ([a2]:(List Int)) 2 M M (lb M) underlying30 ti3 M (.cons (svI M) .nil) M M (by decide))<|aA M (iH (eInt .i64).toEnc0 3 M M (lb M) underlying30 ti3 M M M M M (qP (eInt .i64).toEnc0 M M M) hx9)<|aA M (faR 3 M M M underlying32 M ti30 (lb M) M M)<|aA M (dZ (ds':=q10) M M ti30 (svR M) M (sv (d:=.osl _ _ _) M) M M M (nle M) M)<|aD ?_)
   refine aT ?_
   obtain ⟨x10,hx10,h⟩:=bC h
   refine aF (aA M (faR 3 M M M underlying32 M ti30 (lb M) M M)<|aA M (aI (d:=.osl _ _ _) M M (lb M) underlying30 ag30 ti30 (by decide) (svR M) M (nle M) M)<|aA M (kV M M (lb M) underlying30 (sv (d:=.osl _ _ _) M))<|aA M (faR 1 M M M underlying32 M ti3 (lb M) M M)<|aA M (aI (d:=.int _ _) M M (lb M) underlying3 ag3 ti3 (by decide) (svR M) M (nle M) M)<|aA M (aQ M M (lb M) (svI M) (svI M) M hx10)<|aD ?_)
   refine aR (b:=_) M (fun hc11=>?_) (fun hc11=>?_)
   ·
    replace h:=cA h hc11
    obtain ⟨x12,hx12,h⟩:=aX h
    obtain ⟨x13,hx13,h⟩:=aX h
    obtain ⟨x14,hx14,h⟩:=aX h
    refine lH M [⟨[2],[0],[(43,.agg (w29 a0 a1 (.osl 1000 aC.sz a3.length) (.osl 3 (eInt .i64).sz x9.length)))],[]⟩,
     ⟨[2],[],[(44,.ref 0 3)],[]⟩,
     ⟨[44],[0],[(45,.osl 3 (eInt .i64).sz x9.length)],[]⟩,
     ⟨[45],[],[(46,.ref 3 (((0:Int).toNat) * (eInt .i64).sz + 0))],[]⟩,
     ⟨[46],[3],[(47,.int .i64 x13)],[]⟩,
     ⟨[43,47],[3,4,5,1000],[(48,.agg (w29 x14.1 x14.2.1 (.osl 4 aC.sz x14.2.2.1.length) (.osl 5 (eInt .i64).sz x14.2.2.2.length)))],[(4,.blk 53 (D.flat (x14.2.2.1.map aC.d))),(5,.blk 3 (D.flat (x14.2.2.2.map (eInt .i64).d))),(1000,.none),(3,.none)]⟩,
     ⟨[2,48],[0],[],[(0,.blk 32 (w29 x14.1 x14.2.1 (.osl 4 aC.sz x14.2.2.1.length) (.osl 5 (eInt .i64).sz x14.2.2.2.length)))]⟩] M ?_ (by kernel_rfl) ?_
    ·refine .cons (lop M M fun S hA=>(lC (cs:=q10) M M (lb M) underlying32 ag32 ti32 (by decide) (svaR hA M M) (agi hA M M) (nle M) M)) ?_
     refine .cons (lop M M fun S hA=>(aP M M (lb M) underlying32 M ti30 (by decide) (svaR hA M M) (off':=3) M)) ?_
     refine .cons (lop M M fun S hA=>(aI (d:=.osl _ _ _) M M (lb M) underlying30 ag30 ti30 (by decide) (svaR hA M M) (agi hA M M) (nle M) M)) ?_
     refine .cons (lop M M fun S hA=>(fY (eInt .i64).toEnc0 M M (lb M) underlying30 ti3 (sv (d:=.osl _ _ _) (agr hA M M)) M (sv (d:=.int _ 0) M) hx12)) ?_
     refine .cons (lop M M fun S hA=>(fP (eInt .i64).toEnc0 (d:=.int _ _) M M (lb M) underlying3 ag3 ti3 (by decide) (svaR hA M M) (agi hA M M) hx13 (nle M) M)) ?_
     refine .cons (lop M M fun S hA=>(mI (r':=.agg (w29 x14.1 x14.2.1 (.osl 4 aC.sz x14.2.2.1.length) (.osl 5 (eInt .i64).sz x14.2.2.2.length))) (U:=[(4,.blk 53 (D.flat (x14.2.2.1.map aC.d))),(5,.blk 3 (D.flat (x14.2.2.2.map (eInt .i64).d))),(1000,.none),(3,.none)]) 4 2 [1000,3] M M (lb M) cl29 (.cons (sv (d:=.agg (w29 a0 a1 (.osl 1000 aC.sz x8.length) (.osl 3 (eInt .i64).sz x9.length))) ((show _ = .agg (w29 a0 a1 (.osl 1000 aC.sz a3.length) (.osl 3 (eInt .i64).sz x9.length)) from (agr hA M M)).trans (by rw [(iQ hx8 M)]))) (.cons (svaI hA M M) .nil)) M M M (List.forall_mem_cons.2 ⟨(agi hA M M),List.forall_mem_cons.2 ⟨(agi hA M M),List.forall_mem_nil _⟩⟩) ⟨by decide,M,List.forall_mem_cons.2 ⟨⟨M,M,(iF aC (agi hA M M)),(bP aC)⟩,List.forall_mem_cons.2 ⟨⟨M,M,(iF (eInt .i64) (agi hA M M)),(bP (eInt .i64))⟩,List.forall_mem_nil _⟩⟩⟩ (nN _ _ _ _ _ _ hx14) M M (List.forall_mem_cons.2 ⟨⟨M,(bP aC)⟩,List.forall_mem_cons.2 ⟨⟨M,(bP (eInt .i64))⟩,List.forall_mem_nil _⟩⟩) (by simp only [List.map_cons,List.map_nil,Ent.ren,bT,cE]; rfl))) ?_
     refine .cons (lop M M fun S hA=>(dZ (ds':=q10) M M ti32 (svaR hA M M) (agi hA M M) (svaA q10 hA M M) M M M (nle M) M)) ?_
     exact .nil
    refine aM ?_
    refine aF (aA M (lra q10 la32 M M M M M (nle M) M)<|aA M (stA q10 q10 ti32 M M M M M M M M (nle M) M)<|aA M (aG M M (lb M) (sv (d:=.int _ 0) M))<|aD ?_)
    refine aY ?_
    obtain rfl:=sj_ h
    refine ⟨.inr M,(fun i=>if i=0 then 4 else if i=1 then 5 else i),⟨.nil,(.cons (EntW.lst M) (.cons (EntW.lst M) .nil)),bE [4,5] M (by decide),(fun i hi=>by first | rfl | (show (if _ then _ else _)=_; (repeat' split) <;> omega))⟩,(.cons (rva la32 M M (nle M) M) (.cons (sv M) .nil)),M⟩
   ·
    replace h:=cB h hc11
    refine aS ?_
    refine aM ?_
    refine aF (aA M (lra q10 la32 M M M M M (nle M) M)<|aA M (stA q10 q10 ti32 M M M M M M M M (nle M) M)<|aA M (aG M M (lb M) (sv (d:=.int _ 0) M))<|aD ?_)
    refine aY ?_
    obtain rfl:=sj_ h
    refine ⟨.inr M,(fun i=>if i=0 then 1000 else if i=1 then 3 else i),⟨.nil,(.cons (EntW.lst M) (.cons (EntW.lst M) .nil)),bE [1000,3] M (by decide),(fun i hi=>by first | rfl | (show (if _ then _ else _)=_; (repeat' split) <;> omega))⟩,(.cons (rva la32 M M (nle M) (by rw [← (iQ hx8 M)]; rfl)) (.cons (sv M) .nil)),M⟩

theorem zU (a0:aV) (a1:dD) (r:(aV × Int)) (h:tW a0 a1=some r):eK prog 6 [.agg (v0 a0),.agg (v1 a1)] (retD [.agg (v0 r.1),.int .i64 r.2]):=by
 refine mB (rs:=[.agg (v0 r.1),.int .i64 r.2]) func6 M ntmps6 (nle M) M fun O hO=>?_
 show IWP _ _ _ _ ⟨[(0,.agg (v0 a0)),(1,.agg (v1 a1))],[]⟩ _
 unfold tW at h
 refine aF (aA M (cK (cs:=q9) 0 M M (lb M) M (svA q9 M) M M)<|aA M (cK (cs:=q8) 1 M M (lb M) M (svA q8 M) M M)<|aA M (cT (cs:=q12) (cs':=(w25 0 0 ([]:List aH) ([]:List Int))) 2 M M (lb M) M ti32 M M (.k (.k (.cons (.nils _) (.cons (.nils _) .nil)))))<|aA M (aG M M (lb M) (sv (d:=.int _ 0) M))<|aD ?_)
 obtain ⟨x1,hx1,h⟩:=aX h
 refine aF (aA M (lra q9 la32 M M M M M (nle M) M)<|aA M (cQ (r':=.agg (w29 x1.1 x1.2.1 (.osl 3 aC.sz x1.2.2.1.length) (.osl 4 (eInt .i64).sz x1.2.2.2.length))) (H1':=[(3,.blk 53 (D.flat (x1.2.2.1.map aC.d))),(4,.blk 3 (D.flat (x1.2.2.2.map (eInt .i64).d)))]) 3 [] M M (lb M) cl25 (.cons (svA q9 M) .nil) M M ⟨M,M,by decide,M,List.forall_mem_nil _⟩ (sO _ _ hx1) M M (List.forall_mem_cons.2 ⟨⟨M,(bP aC)⟩,List.forall_mem_cons.2 ⟨⟨M,(bP (eInt .i64))⟩,List.forall_mem_nil _⟩⟩) (by simp only [List.map_cons,List.map_nil,Ent.ren,bT,cE]; rfl))<|aA M (cT (cs:=q12) (cs':=(w25 0 0 ([]:List aH) ([]:List Int))) 5 M M (lb M) M ti32 M M (.k (.k (.cons (.nils _) (.cons (.nils _) .nil)))))<|aA M (stA q10 q10 ti32 M M M M M M M M (nle M) M)<|aD ?_)
 refine aT ?_
 obtain ⟨x2,hx2,h⟩:=aX h
 refine aF (aA M (lra q9 la32 M M M M M (nle M) M)<|aA M (bU (r:=.int _ _) M M (lb M) cl11 (.cons (svA q9 M) .nil) M (mF _ _ hx2))<|aA M (asI M M M M)<|aD ?_)
 obtain ⟨x3,hx3,h⟩:=bC h
 refine aF (aA M (mvI M M M M)<|aA M (aQ M M (lb M) (svI M) (sv (d:=.int _ 0) M) M hx3)<|aD ?_)
 refine aR (b:=_) M (fun hc4=>?_) (fun hc4=>?_)
 ·
  replace h:=cA h hc4
  refine aF (aA M (lra q10 la32 M M M M M (nle M) M)<|aA M (mvI M M M M)<|aA M (stA q10 q10 ti32 M M M M M M M M (nle M) M)<|aA M (asI M M M M)<|aD ?_)
  refine aY ?_
  refine bG ?_
  obtain rfl:=sj_ h
  refine ⟨.inr M,_,(.cons (rva la32 M M (nle M) M) (.cons (sv M) .nil)),(.cons (.agg (.k (.k (.cons (FDT aC M M) (.cons (FDT (eInt .i64) M M) .nil))))) (.all _))⟩
 ·
  replace h:=cB h hc4
  refine aS ?_
  refine aM ?_
  refine aT ?_
  refine aF (aA M (faR 0 M M M underlying37 M ti5 (lb M) M M)<|aA M (aI (d:=.int _ _) M M (lb M) underlying5 ag5 ti5 (by decide) (svR M) M (nle M) M)<|aD ?_)
  refine bB ?_
  refine mN (α:=Bool) (fun z=>⟨[(3,.ref 1 0),(4,.ref 2 0),(6,.ref 5 0),(19,.int .u8 a1.Kind),(20,.bool z)],[(1,.blk 37 (v1 a1)),(2,.blk 32 (w25 0 0 ([]:List aH) ([]:List Int))),(5,.blk 32 (w29 x1.1 x1.2.1 (.osl 3 aC.sz x1.2.2.1.length) (.osl 4 (eInt .i64).sz x1.2.2.2.length))),(3,.blk 53 (D.flat (x1.2.2.1.map aC.d))),(4,.blk 3 (D.flat (x1.2.2.2.map (eInt .i64).d)))]⟩) (fun z=>nG a1 x1 z=some r) ?_ ?_
  ·
   obtain ⟨x19,hx19,h⟩:=bC h
   refine aF (aA M (aQ M M (lb M) (svI M) (sv (d:=.int _ 0) M) M hx19)<|aA M (asB M M M M)<|aD ?_)
   refine aR (b:=_) M (fun hc20=>?_) (fun hc20=>?_)
   ·
    replace h:=cA h hc20
    refine aS ?_
    refine aM ⟨x19,(fun i=>i),⟨(.sames M M),(.cons (.blk M M M) (.cons (.blk M M M) (.cons (.blk M M M) (.cons (EntW.lst M) (.cons (EntW.lst M) .nil))))),bE [1,2,5,3,4] M (by decide),fun _ _=>M⟩,?_⟩
    exact h
   ·
    replace h:=cB h hc20
    obtain ⟨x21,hx21,h⟩:=bC h
    refine bA (aA M (aQ M M (lb M) (svI M) (sv (d:=.int _ 1) M) M hx21)<|aA M (asB M M M M)<|bL ?_)
    refine aM ⟨x21,(fun i=>i),⟨(.sames M M),(.cons (.blk M M M) (.cons (.blk M M M) (.cons (.blk M M M) (.cons (EntW.lst M) (.cons (EntW.lst M) .nil))))),bE [1,2,5,3,4] M (by decide),fun _ _=>M⟩,?_⟩
    exact h
  ·
   rintro v8 h
   unfold nG at h
   refine aR (b:=_) M (fun hc9=>?_) (fun hc9=>?_)
   ·
    replace h:=cA h hc9
    obtain ⟨x10,hx10,h⟩:=aX h
    refine aF (aA M (lra q10 la32 M M M M M (nle M) M)<|aA M (lra q8 la37 M M M M M (nle M) M)<|aA M (cQ (r':=.tuple [.agg (w29 x10.1 x10.2.1 (.osl 6 aC.sz x10.2.2.1.length) (.osl 7 (eInt .i64).sz x10.2.2.2.1.length)),.int .i64 x10.2.2.2.2]) (H1':=[(6,.blk 53 (D.flat (x10.2.2.1.map aC.d))),(7,.blk 3 (D.flat (x10.2.2.2.1.map (eInt .i64).d)))]) 6 [3,4] M M (lb M) cl26 (.cons (svA q10 M) (.cons (svA q8 M) .nil)) M M ⟨M,M,by decide,M,List.forall_mem_cons.2 ⟨⟨M,M,(iF aC M),(bP aC)⟩,List.forall_mem_cons.2 ⟨⟨M,M,(iF (eInt .i64) M),(bP (eInt .i64))⟩,List.forall_mem_nil _⟩⟩⟩ (rN _ _ _ _ _ _ hx10) M M (List.forall_mem_cons.2 ⟨⟨M,(bP aC)⟩,List.forall_mem_cons.2 ⟨⟨M,(bP (eInt .i64))⟩,List.forall_mem_nil _⟩⟩) (by simp only [List.map_cons,List.map_nil,Ent.ren,bT,cE]; rfl))<|aA M (bQ (d:=.agg q10) M M (lb M) (sv (d:=.tuple [.agg q10,.int _ _]) M) M)<|aA M (bQ (d:=.int _ _) M M (lb M) (sv (d:=.tuple [.agg q10,.int _ _]) M) M)<|aA M (stA q10 q10 ti32 M M M M M M M M (nle M) M)<|aA M (asI M M M M)<|aD ?_)
    refine aY ?_
    refine cO ?_
    refine bG ?_
    obtain rfl:=sj_ h
    refine ⟨.inr M,_,(.cons (rva la32 M M (nle M) M) (.cons (sv M) .nil)),(.cons (.agg (.k (.k (.cons (FDT aC M M) (.cons (FDT (eInt .i64) M M) .nil))))) (.all _))⟩
   ·
    replace h:=cB h hc9
    obtain ⟨x11,hx11,h⟩:=bC h
    refine aF (aA M (aQ M M (lb M) (svI M) (sv (d:=.int _ 2) M) M hx11)<|aA M (asB M M M M)<|aD ?_)
    refine aR (b:=_) M (fun hc12=>?_) (fun hc12=>?_)
    ·
     replace h:=cA h hc12
     obtain ⟨x13,hx13,h⟩:=aX h
     refine aF (aA M (lra q10 la32 M M M M M (nle M) M)<|aA M (faR 1 M M M underlying37 M ti3 (lb M) M M)<|aA M (aI (d:=.int _ _) M M (lb M) underlying3 ag3 ti3 (by decide) (svR M) M (nle M) M)<|aA M (cQ (r':=.tuple [.agg (w29 x13.1 x13.2.1 (.osl 6 aC.sz x13.2.2.1.length) (.osl 7 (eInt .i64).sz x13.2.2.2.1.length)),.int .i64 x13.2.2.2.2]) (H1':=[(6,.blk 53 (D.flat (x13.2.2.1.map aC.d))),(7,.blk 3 (D.flat (x13.2.2.2.1.map (eInt .i64).d)))]) 6 [3,4] M M (lb M) cl27 (.cons (svA q10 M) (.cons (svI M) .nil)) M M ⟨M,M,by decide,M,List.forall_mem_cons.2 ⟨⟨M,M,(iF aC M),(bP aC)⟩,List.forall_mem_cons.2 ⟨⟨M,M,(iF (eInt .i64) M),(bP (eInt .i64))⟩,List.forall_mem_nil _⟩⟩⟩ (rX _ _ _ _ _ _ hx13) M M (List.forall_mem_cons.2 ⟨⟨M,(bP aC)⟩,List.forall_mem_cons.2 ⟨⟨M,(bP (eInt .i64))⟩,List.forall_mem_nil _⟩⟩) (by simp only [List.map_cons,List.map_nil,Ent.ren,bT,cE]; rfl))<|aA M (bQ (d:=.agg q10) M M (lb M) (sv (d:=.tuple [.agg q10,.int _ _]) M) M)<|aA M (bQ (d:=.int _ _) M M (lb M) (sv (d:=.tuple [.agg q10,.int _ _]) M) M)<|aA M (stA q10 q10 ti32 M M M M M M M M (nle M) M)<|aA M (asI M M M M)<|aD ?_)
     refine aY ?_
     refine cO ?_
     refine bG ?_
     obtain rfl:=sj_ h
     refine ⟨.inr M,_,(.cons (rva la32 M M (nle M) M) (.cons (sv M) .nil)),(.cons (.agg (.k (.k (.cons (FDT aC M M) (.cons (FDT (eInt .i64) M M) .nil))))) (.all _))⟩
    ·
     replace h:=cB h hc12
     obtain ⟨x14,hx14,h⟩:=bC h
     refine aF (aA M (aQ M M (lb M) (svI M) (sv (d:=.int _ 3) M) M hx14)<|aA M (asB M M M M)<|aD ?_)
     refine aR (b:=_) M (fun hc15=>?_) (fun hc15=>?_)
     ·
      replace h:=cA h hc15
      refine aT ?_
      obtain ⟨x16,hx16,h⟩:=aX h
      refine aF (aA M (lra q10 la32 M M M M M (nle M) M)<|aA M (faR 1 M M M underlying37 M ti3 (lb M) M M)<|aA M (aI (d:=.int _ _) M M (lb M) underlying3 ag3 ti3 (by decide) (svR M) M (nle M) M)<|aA M (kF (r:=.tuple [.int .i64 x16.1,.bool x16.2]) M M (lb M) cl28 (.cons (svA q10 M) (.cons (svI M) .nil)) (.cons (.agg (.k (.k (.cons (FDT aC M M) (.cons (FDT (eInt .i64) M M) .nil))))) (.all _)) M M (fC _ _ _ hx16))<|aA M (aO M M (lb M) (sv (d:=.tuple q21) M))<|aA M (bQ (d:=.int _ _) M M (lb M) (sv (d:=.tuple q21) M) M)<|aA M (bQ (d:=.bool _) M M (lb M) (sv (d:=.tuple q21) M) M)<|aA M (asI M M M M)<|aA M (asB M M M M)<|aD ?_)
      refine aF (aA M (mvB M M M M)<|aA M (gD M M (lb M) (svB M))<|aD ?_)
      refine aR (b:=_) M (fun hc17=>?_) (fun hc17=>?_)
      ·
       replace h:=cA h hc17
       refine aF (aA M (lra q10 la32 M M M M M (nle M) M)<|aA M (stA q10 q10 ti32 M M M M M M M M (nle M) M)<|aA M (aG M M (lb M) (sv (d:=.int _ 6) M))<|aD ?_)
       refine aY ?_
       refine bG ?_
       refine cO ?_
       refine bG ?_
       obtain rfl:=sj_ h
       refine ⟨.inr M,_,(.cons (rva la32 M M (nle M) M) (.cons (sv M) .nil)),(.cons (.agg (.k (.k (.cons (FDT aC M M) (.cons (FDT (eInt .i64) M M) .nil))))) (.all _))⟩
      ·
       replace h:=cB h hc17
       refine aS ?_
       refine aM ?_
       obtain ⟨x18,hx18,h⟩:=aX h
       refine aF (aA M (lra q10 la32 M M M M M (nle M) M)<|aA M (faR 1 M M M underlying37 M ti3 (lb M) M M)<|aA M (aI (d:=.int _ _) M M (lb M) underlying3 ag3 ti3 (by decide) (svR M) M (nle M) M)<|aA M (cQ (r':=.agg (w29 x18.1 x18.2.1 (.osl 6 aC.sz x18.2.2.1.length) (.osl 7 (eInt .i64).sz x18.2.2.2.length))) (H1':=[(6,.blk 53 (D.flat (x18.2.2.1.map aC.d))),(7,.blk 3 (D.flat (x18.2.2.2.map (eInt .i64).d)))]) 6 [3,4] M M (lb M) cl29 (.cons (svA q10 M) (.cons (svI M) .nil)) M M ⟨M,M,by decide,M,List.forall_mem_cons.2 ⟨⟨M,M,(iF aC M),(bP aC)⟩,List.forall_mem_cons.2 ⟨⟨M,M,(iF (eInt .i64) M),(bP (eInt .i64))⟩,List.forall_mem_nil _⟩⟩⟩ (nN _ _ _ _ _ _ hx18) M M (List.forall_mem_cons.2 ⟨⟨M,(bP aC)⟩,List.forall_mem_cons.2 ⟨⟨M,(bP (eInt .i64))⟩,List.forall_mem_nil _⟩⟩) (by simp only [List.map_cons,List.map_nil,Ent.ren,bT,cE]; rfl))<|aA M (stA q10 q10 ti32 M M M M M M M M (nle M) M)<|aA M (aG M M (lb M) (sv (d:=.int _ 0) M))<|aD ?_)
       refine aY ?_
       refine cO ?_
       refine bG ?_
       obtain rfl:=sj_ h
       refine ⟨.inr M,_,(.cons (rva la32 M M (nle M) M) (.cons (sv M) .nil)),(.cons (.agg (.k (.k (.cons (FDT aC M M) (.cons (FDT (eInt .i64) M M) .nil))))) (.all _))⟩
     ·
      replace h:=cB h hc15
      refine aS ?_
      refine bJ ?_
      refine aM ?_
      refine aF (aA M (lra q10 la32 M M M M M (nle M) M)<|aA M (stA q10 q10 ti32 M M M M M M M M (nle M) M)<|aA M (aG M M (lb M) (sv (d:=.int _ 12) M))<|aD ?_)
      refine aY ?_
      obtain rfl:=sj_ h
      refine ⟨.inr M,_,(.cons (rva la32 M M (nle M) M) (.cons (sv M) .nil)),(.cons (.agg (.k (.k (.cons (FDT aC M M) (.cons (FDT (eInt .i64) M M) .nil))))) (.all _))⟩

theorem aBX (a0:aV) (a1:(List dD)) (r:(aV × (List Int))) (h:yZ a0 a1=some r):eK prog 17 [.agg (v0 a0),.slice false (a1.map hG.d)] (retD [.agg (v0 r.1),.slice false (r.2.map (eInt .i64).d)]):=by
 refine mB (rs:=[.agg (v0 r.1),.slice false (r.2.map (eInt .i64).d)]) func17 M ntmps17 (nle M) M fun O hO=>?_
 show IWP _ _ _ _ ⟨[(0,.agg (v0 a0)),(1,.slice false (a1.map hG.d))],[]⟩ _
 unfold yZ at h
 refine aF (aA M (cK (cs:=q9) 0 M M (lb M) M (svA q9 M) M M)<|aA M (cT (cs:=q12) (cs':=(w25 0 0 ([]:List aH) ([]:List Int))) 1 M M (lb M) M ti32 M M (.k (.k (.cons (.nils _) (.cons (.nils _) .nil)))))<|aA M (aG M M (lb M) (sv (d:=.nils) M))<|aD ?_)
 refine aF (aA M (aG M M (lb M) (sv (d:=.nils) M))<|aD ?_)
 refine aT ?_
 refine aF (aA M (mvL M M M M)<|aA M (cV hG (l:=a1) M M (lb M) underlying51 (svL M))<|aA M (aO M M (lb M) (sv (d:=.int _ 0) M))<|aD ?_)
 refine bB ?_
 refine cP (α:=Nat × (List Int) × Int × Int × Int × (List aH) × (List Int)) (fun z=>⟨[(2,.ref 0 0),(4,.ref 1 0),(6,.osl 23 (eInt .i64).sz z.2.1.length),(11,.slice false (a1.map hG.d)),(12,.int .i64 (a1.length:Int)),(13,.int .i64 z.2.2.1)],[(0,.blk 32 (w25 z.2.2.2.1 z.2.2.2.2.1 z.2.2.2.2.2.1 z.2.2.2.2.2.2)),(1,.blk 32 (w25 0 0 ([]:List aH) ([]:List Int))),(23,.blk 26 (D.flat (z.2.1.map (eInt .i64).d)))]⟩) (fun z=>oY a1 z.1 z.2.1 z.2.2.1 z.2.2.2.1 z.2.2.2.2.1 z.2.2.2.2.2.1 z.2.2.2.2.2.2=some r) (fun z=>z.1) (fuel,([]:(List Int)),0,a0.Room,a0.Keep,a0.Nodes,a0.Ended) (fun i=>if i=23 then 75 else i) ⟨(.s M M (.s M M (.cons (.nilo M) (.sames M M)))),(.cons (.blk M M M) (.cons (.blk M M M) (.cons (.nilb M) .nil))),bE [0,1,75] M (by decide),(fun i hi=>by first | rfl | (show (if _ then _ else _)=_; (repeat' split) <;> omega))⟩ ?_ ?_
 ·exact h
 ·
  rintro ⟨n0,v7,v8,v9,v10,v11,v12⟩ h
  cases n0 with
  | zero=>exact absurd h (by unfold oY; exact nofun)
  | succ n0 =>
   unfold oY at h
   obtain ⟨x19,hx19,h⟩:=bC h
   refine aF (aA M (aQ M M (lb M) (svI M) (svI M) M hx19)<|aD ?_)
   refine aT ?_
   refine aR (b:=_) M (fun hc20=>?_) (fun hc20=>?_)
   ·
    replace h:=cA h hc20
    refine aS ?_
    refine aM ?_
    refine aT ?_
    refine bB ?_
    obtain ⟨x21,hx21,h⟩:=aX h
    refine aF (aA M (dW hG (cs:=q8) M M (lb M) underlying51 ti37 (svL M) (svI M) hx21 M M)<|aA M (fD (cs:=q8) M M (lb M) underlying37 ag37 ti37 (by decide) (sv (d:=.fptr q8) M) (nle M) M)<|aA M (cT (cs:=q8) (cs':=(w27 0 0 0 0 false)) 24 M M (lb M) M ti37 M M (.all _))<|aA M (stA q8 q8 ti37 M M M M M M M M (nle M) M)<|aD ?_)
    obtain ⟨x22,hx22,h⟩:=aX h
    refine aF (aA M (lra q9 la32 M M M M M (nle M) M)<|aA M (lra q8 la37 M M M M M (nle M) M)<|aA M (bU (r:=.tuple q24) M M (lb M) cl6 (.cons (svA q9 M) (.cons (svA q8 M) .nil)) M (zU _ _ _ hx22))<|aA M (aO M M (lb M) (sv (d:=.tuple q24) M))<|aA M (bQ (d:=.agg q9) M M (lb M) (sv (d:=.tuple q24) M) M)<|aA M (bQ (d:=.int _ _) M M (lb M) (sv (d:=.tuple q24) M) M)<|aA M (cT (cs:=q12) (cs':=(w25 0 0 ([]:List aH) ([]:List Int))) 25 M M (lb M) M ti32 M M (.k (.k (.cons (.nils _) (.cons (.nils _) .nil)))))<|aA M (stA q9 q9 ti32 M M M M M M M M (nle M) M)<|aA M (asI M M M M)<|aD ?_)
    refine aF (aA M (lra q9 la32 M M M M M (nle M) M)<|aA M (stA q9 q9 ti32 M M M M M M M M (nle M) M)<|aD ?_)
    obtain ⟨x23,hx23,h⟩:=aX h
    refine bA (aA M (aO M M (lb M) (sv (d:=.osl _ _ _) M))<|aA M (mvI M M M M)<|aA M (lD (eInt .i64).toEnc0 ([x22.2]:(List Int)) 26 M M (lb M) underlying48 ti26 M (.cons (svI M) .nil) M M (by decide))<|aA M (iH (eInt .i64).toEnc0 27 M M (lb M) underlying48 ti26 M M M M M (qP (eInt .i64).toEnc0 M M M) hx23)<|aA M (aG M M (lb M) (sv (d:=.osl _ _ _) M))<|bL ?_)
    refine bJ ?_
    refine aM ?_
    obtain ⟨x24,hx24,h⟩:=bC h
    refine bA (aA M (bO M M (lb M) (svI M) (sv (d:=.int _ 1) M) M hx24)<|aA M (mvI M M M M)<|bL ?_)
    refine aM ⟨(n0,x23,x24,x22.1.Room,x22.1.Keep,x22.1.Nodes,x22.1.Ended),(fun i=>if i=23 then 27 else i),⟨(.sames M M),(.cons (.blk M M M) (.cons (.blk M M M) (.cons (EntW.lst M) .nil))),bE [0,1,27] M (by decide),(fun i hi=>by first | rfl | (show (if _ then _ else _)=_; (repeat' split) <;> omega))⟩,?_,?_⟩
    exact h
    exact Nat.lt_succ_self _
   ·
    replace h:=cB h hc20
    refine cU ?_
    refine bK ?_
    refine bK ?_
    refine cW ?_
    refine aM ?_
    refine aF (aA M (lra q9 la32 M M M M M (nle M) M)<|aA M (aO M M (lb M) (sv (d:=.osl _ _ _) M))<|aA M (stA q9 q9 ti32 M M M M M M M M (nle M) M)<|aA M (aG M M (lb M) (sv (d:=.osl _ _ _) M))<|aD ?_)
    refine aY ?_
    obtain rfl:=sj_ h
    refine ⟨.inr M,_,(.cons (rva la32 M M (nle M) M) (.cons (sv M) .nil)),(.k (.cons (FDT (eInt .i64) M M) .nil))⟩

theorem kU (a0:aV) (a1:Int) (r:Bool) (h:jF a0 a1=some r):eK prog 44 [.agg (v0 a0),.int .i64 a1] (.bool r):=by
 refine bW (rs:=[.bool r]) func44 M ntmps44 (nle M) M fun O hO=>?_
 show IWP _ _ _ _ ⟨[(0,.agg (v0 a0)),(1,.int .i64 a1)],[]⟩ _
 unfold jF at h
 refine aF (aA M (cK (cs:=q9) 0 M M (lb M) M (svA q9 M) M M)<|aA M (aG M M (lb M) (sv (d:=.bool false) M))<|aD ?_)
 obtain ⟨x1,hx1,h⟩:=aX h
 refine aF (aA M (lra q9 la32 M M M M M (nle M) M)<|aA M (mvI M M M M)<|aA M (bU (r:=.tuple q21) M M (lb M) cl28 (.cons (svA q9 M) (.cons (svI M) .nil)) M (fC _ _ _ hx1))<|aA M (aO M M (lb M) (sv (d:=.tuple q21) M))<|aA M (bQ (d:=.int _ _) M M (lb M) (sv (d:=.tuple q21) M) M)<|aA M (bQ (d:=.bool _) M M (lb M) (sv (d:=.tuple q21) M) M)<|aA M (asI M M M M)<|aA M (asB M M M M)<|aD ?_)
 obtain ⟨x2,hx2,h⟩:=aX h
 obtain ⟨x3,hx3,h⟩:=bC h
 obtain ⟨x4,hx4,h⟩:=bC h
 refine aF (aA M (mvB M M M M)<|aA M (mvB M M M M)<|aN M M (.one M) M (by decide) (fun hb=>(lra q9 la32 M M M M M (nle M) M))<|aN M M (.one M) M (by decide) (fun hb=>(bU (r:=.int _ _) M M (lb M) cl11 (.cons (svcA (v0 a0) M hb) .nil) M (mF _ _ (gd_t hx2 hb))))<|aN M M (.one M) M (by decide) (fun hb=>(aQ M M (lb M) (svcI M hb) (sv (d:=.int _ 0) M) M hx3))<|aA M (fE M M (lb M) (svB M) M M hx4)<|aA M (asB M M M M)<|aD ?_)
 refine aY ?_
 obtain rfl:=sj_ h
 refine ⟨.inr M,(.cons (sv M) .nil)⟩

theorem uD (a0:aV) (a1:Int) (r:Int) (h:rI a0 a1=some r):eK prog 18 [.agg (v0 a0),.int .i64 a1] (.int .i64 r):=by
 refine bW (rs:=[.int .i64 r]) func18 M ntmps18 (nle M) M fun O hO=>?_
 show IWP _ _ _ _ ⟨[(0,.agg (v0 a0)),(1,.int .i64 a1)],[]⟩ _
 unfold rI at h
 refine aF (aA M (cK (cs:=q9) 0 M M (lb M) M (svA q9 M) M M)<|aA M (aG M M (lb M) (sv (d:=.int _ 0) M))<|aD ?_)
 refine aT ?_
 obtain ⟨x1,hx1,h⟩:=aX h
 refine aF (aA M (lra q9 la32 M M M M M (nle M) M)<|aA M (mvI M M M M)<|aA M (bU (r:=.bool _) M M (lb M) cl44 (.cons (svA q9 M) (.cons (svI M) .nil)) M (kU _ _ _ hx1))<|aA M (gD M M (lb M) (svB M))<|aD ?_)
 refine aR (b:=_) M (fun hc2=>?_) (fun hc2=>?_)
 ·
  replace h:=cA h hc2
  refine aF (aA M (aG M M (lb M) (sv (d:=.int _ 0) M))<|aD ?_)
  refine aY ?_
  refine bG ?_
  obtain rfl:=sj_ h
  refine ⟨.inr M,(.cons (sv M) .nil)⟩
 ·
  replace h:=cB h hc2
  refine aS ?_
  refine aM ?_
  obtain ⟨x3,hx3,h⟩:=aX h
  obtain ⟨x4,hx4,h⟩:=bC h
  refine aF (aA M (lra q9 la32 M M M M M (nle M) M)<|aA M (mvI M M M M)<|aA M (cQ (r':=.osl 1 (eInt .i64).sz x3.length) (H1':=[(1,.blk 3 (D.flat (x3.map (eInt .i64).d)))]) 1 [] M M (lb M) cl45 (.cons (svA q9 M) (.cons (svI M) .nil)) M M ⟨M,M,by decide,M,List.forall_mem_nil _⟩ (lR _ _ _ hx3) M M (List.forall_mem_cons.2 ⟨⟨M,(bP (eInt .i64))⟩,List.forall_mem_nil _⟩) (by simp only [List.map_cons,List.map_nil,Ent.ren,bT,cE]; rfl))<|aA M (kV M M (lb M) underlying30 (sv (d:=.osl _ _ _) M))<|aA M (bO M M (lb M) (svI M) (sv (d:=.int _ 1) M) M hx4)<|aA M (asI M M M M)<|aD ?_)
  refine aY ?_
  obtain rfl:=sj_ h
  refine ⟨.inr M,(.cons (sv M) .nil)⟩

theorem vR (a0:aV) (a1:Int) (a2:Int) (r:Int) (h:tC a0 a1 a2=some r):eK prog 19 [.agg (v0 a0),.int .i64 a1,.int .i64 a2] (.int .i64 r):=by
 refine bW (rs:=[.int .i64 r]) func19 M ntmps19 (nle M) M fun O hO=>?_
 show IWP _ _ _ _ ⟨[(0,.agg (v0 a0)),(1,.int .i64 a1),(2,.int .i64 a2)],[]⟩ _
 unfold tC at h
 refine aF (aA M (cK (cs:=q9) 0 M M (lb M) M (svA q9 M) M M)<|aA M (aG M M (lb M) (sv (d:=.int _ 0) M))<|aD ?_)
 refine aT ?_
 obtain ⟨x1,hx1,h⟩:=aX h
 obtain ⟨x2,hx2,h⟩:=aX h
 obtain ⟨x3,hx3,h⟩:=bC h
 refine aF (aA M (lra q9 la32 M M M M M (nle M) M)<|aA M (mvI M M M M)<|aA M (bU (r:=.bool _) M M (lb M) cl44 (.cons (svA q9 M) (.cons (svI M) .nil)) M (kU _ _ _ hx1))<|aA M (gD M M (lb M) (svB M))<|aA M (mvB M M M M)<|aN M M (.one M) M (by decide) (fun hb=>(lra q9 la32 M M M M M (nle M) M))<|aN M M (.one M) M (by decide) (fun hb=>(mvI M M M M))<|aN M M (.one M) M (by decide) (fun hb=>(bU (r:=.bool _) M M (lb M) cl44 (.cons (svcA (v0 a0) M hb) (.cons (svcI M hb) .nil)) M (kU _ _ _ (gd_t hx2 hb))))<|aN M M (.one M) M (by decide) (fun hb=>(gD M M (lb M) (svcB M hb)))<|aA M (kL M M (lb M) (svB M) M M hx3)<|aD ?_)
 refine aR (b:=_) M (fun hc4=>?_) (fun hc4=>?_)
 ·
  replace h:=cA h hc4
  refine aF (aA M (aG M M (lb M) (sv (d:=.int _ 0) M))<|aD ?_)
  refine aY ?_
  refine bG ?_
  obtain rfl:=sj_ h
  refine ⟨.inr M,(.cons (sv M) .nil)⟩
 ·
  replace h:=cB h hc4
  refine aS ?_
  refine aM ?_
  obtain ⟨x5,hx5,h⟩:=aX h
  obtain ⟨x6,hx6,h⟩:=aX h
  refine aF (aA M (lra q9 la32 M M M M M (nle M) M)<|aA M (mvI M M M M)<|aA M (cQ (r':=.osl 1 (eInt .i64).sz x5.length) (H1':=[(1,.blk 3 (D.flat (x5.map (eInt .i64).d)))]) 1 [] M M (lb M) cl45 (.cons (svA q9 M) (.cons (svI M) .nil)) M M ⟨M,M,by decide,M,List.forall_mem_nil _⟩ (lR _ _ _ hx5) M M (List.forall_mem_cons.2 ⟨⟨M,(bP (eInt .i64))⟩,List.forall_mem_nil _⟩) (by simp only [List.map_cons,List.map_nil,Ent.ren,bT,cE]; rfl))<|aA M (mvI M M M M)<|aA M (lD (eInt .i64).toEnc0 ([a2]:(List Int)) 2 M M (lb M) underlying30 ti3 M (.cons (svI M) .nil) M M (by decide))<|aA M (iH (eInt .i64).toEnc0 3 M M (lb M) underlying30 ti3 M M M M M (qP (eInt .i64).toEnc0 M M M) hx6)<|aA M (aG M M (lb M) (sv (d:=.osl _ _ _) M))<|aD ?_)
  refine aT ?_
  obtain ⟨x7,hx7,h⟩:=aX h
  obtain ⟨x8,hx8,h⟩:=aX h
  refine aF (aA M (mvI M M M M)<|aA M (lD (eInt .i64).toEnc0 ([a1]:(List Int)) 4 M M (lb M) underlying30 ti3 M (.cons (svI M) .nil) M M (by decide))<|aA M (lra q9 la32 M M M M M (nle M) M)<|aA M (mvI M M M M)<|aA M (cQ (r':=.osl 5 (eInt .i64).sz x7.length) (H1':=[(5,.blk 3 (D.flat (x7.map (eInt .i64).d)))]) 5 [] M M (lb M) cl45 (.cons (svA q9 M) (.cons (svI M) .nil)) M M ⟨M,M,by decide,M,List.forall_mem_nil _⟩ (lR _ _ _ hx7) M M (List.forall_mem_cons.2 ⟨⟨M,(bP (eInt .i64))⟩,List.forall_mem_nil _⟩) (by simp only [List.map_cons,List.map_nil,Ent.ren,bT,cE]; rfl))<|aA M (iH (eInt .i64).toEnc0 6 M M (lb M) underlying30 ti3 M M M M M (qP (eInt .i64).toEnc0 M M M) hx8)<|aA M (kV M M (lb M) underlying30 (sv (d:=.osl _ _ _) M))<|aA M (aO M M (lb M) (sv (d:=.int _ 0) M))<|aD ?_)
  refine bB ?_
  refine cP (α:=Nat × Int) (fun z=>⟨[(7,.osl 3 (eInt .i64).sz x6.length),(31,.osl 6 (eInt .i64).sz x8.length),(32,.int .i64 (x8.length:Int)),(33,.int .i64 z.2)],[(3,.blk 3 (D.flat (x6.map (eInt .i64).d))),(6,.blk 3 (D.flat (x8.map (eInt .i64).d)))]⟩) (fun z=>oD x6 x8 z.1 z.2=some r) (fun z=>z.1) (fuel,0) (fun i=>i) ⟨(.sames M M),(.cons (EntW.lst M) (.cons (EntW.lst M) .nil)),bE [3,6] M (by decide),fun _ _=>M⟩ ?_ ?_
  ·exact h
  ·
   rintro ⟨n0,v16⟩ h
   cases n0 with
   | zero=>exact absurd h (by unfold oD; exact nofun)
   | succ n0 =>
    unfold oD at h
    obtain ⟨x24,hx24,h⟩:=bC h
    refine aF (aA M (aQ M M (lb M) (svI M) (svI M) M hx24)<|aD ?_)
    refine aT ?_
    refine aR (b:=_) M (fun hc25=>?_) (fun hc25=>?_)
    ·
     replace h:=cA h hc25
     refine aS ?_
     refine aM ?_
     refine aT ?_
     refine bB ?_
     obtain ⟨x26,hx26,h⟩:=aX h
     obtain ⟨x27,hx27,h⟩:=aX h
     refine aF (aA M (fY (eInt .i64).toEnc0 M M (lb M) underlying30 ti3 (sv (d:=.osl _ _ _) M) M (svI M) hx26)<|aA M (fP (eInt .i64).toEnc0 (d:=.int _ _) M M (lb M) underlying3 ag3 ti3 (by decide) (svR M) M hx27 (nle M) M)<|aA M (asI M M M M)<|aD ?_)
     obtain ⟨x28,hx28,h⟩:=aX h
     refine aF (aA M (aO M M (lb M) (sv (d:=.osl _ _ _) M))<|aA M (mvI M M M M)<|aA M (kF (r:=.bool x28) M M (lb M) cl46 (.cons (sv (d:=.osl _ _ _) M) (.cons (svI M) .nil)) (.cons (FDT (eInt .i64) M M) (.all _)) M M (gU _ _ _ hx28))<|aD ?_)
     refine aR (b:=_) M (fun hc29=>?_) (fun hc29=>?_)
     ·
      replace h:=cA h hc29
      refine aF (aA M (mvI M M M M)<|aA M (asI M M M M)<|aD ?_)
      refine aY ?_
      refine cO ?_
      refine bG ?_
      refine bG ?_
      refine cO ?_
      refine bG ?_
      obtain rfl:=sj_ h
      refine ⟨.inr M,(.cons (sv M) .nil)⟩
     ·
      replace h:=cB h hc29
      refine aS ?_
      refine bJ ?_
      refine aM ?_
      obtain ⟨x30,hx30,h⟩:=bC h
      refine bA (aA M (bO M M (lb M) (svI M) (sv (d:=.int _ 1) M) M hx30)<|aA M (mvI M M M M)<|bL ?_)
      refine aM ⟨(n0,x30),(fun i=>i),⟨(.sames M M),(.cons (EntW.lst M) (.cons (EntW.lst M) .nil)),bE [3,6] M (by decide),fun _ _=>M⟩,?_,?_⟩
      exact h
      exact Nat.lt_succ_self _
    ·
     replace h:=cB h hc25
     refine cU ?_
     refine bK ?_
     refine bK ?_
     refine cW ?_
     refine aM ?_
     refine aF (aA M (aG M M (lb M) (sv (d:=.int _ 0) M))<|aD ?_)
     refine aY ?_
     obtain rfl:=sj_ h
     refine ⟨.inr M,(.cons (sv M) .nil)⟩
end Go.Proofs.YtknpfbfkaccgmaaGreat
