/-
  A part of the proof: rules and plain facts. No condition.
-/
import Derived.Test.YtdnjagkihgjpcaaProg
import Derived.KernelRfl
import Derived.Test.YtdnjagkihgjpcaaIlMb
import Derived.Test.YtdnjagkihgjpcaaIlIt19
import Derived.Test.YtdnjagkihgjpcaaIlA19D
set_option linter.all false
set_option maxRecDepth 8000
set_option maxHeartbeats 2000000
open Go Go.IL Go.Fn Go.Proofs
namespace Go.Proofs.Ytdnjagkihgjpcaa
theorem ti3 : TI Try.prog 3 (some (.int .i64 0)) 1 8:=by unfold TI; kernel_rfl
theorem ti4 : TI Try.prog 4 (some (.bool false)) 1 1:=by unfold TI; kernel_rfl
theorem ti53 : TI Try.prog 53 (some (.slice none 0 0)) 1 24:=by unfold TI; kernel_rfl
theorem ti55 : TI Try.prog 55 (some (.agg #[.slice none 0 0,.int .i64 0,.int .i64 0])) 3 40:=by unfold TI; kernel_rfl
theorem ti57 : TI Try.prog 57 (some (.agg #[.int .i64 0,.int .i64 0,.int .i64 0,.int .i64 0,.int .i64 0,.bool false])) 6 48:=by unfold TI; kernel_rfl
theorem ti58 : TI Try.prog 58 (some (.agg #[.int .i64 0,.int .i64 0,.int .i64 0,.int .i64 0,.int .i64 0,.bool false,.int .i64 0,.int .i64 0,.int .i64 0,.int .i64 0,.int .i64 0,.bool false,.int .i64 0,.int .i64 0,.int .i64 0,.int .i64 0,.int .i64 0,.bool false,.int .i64 0,.int .i64 0,.int .i64 0,.int .i64 0,.int .i64 0,.bool false,.int .i64 0,.int .i64 0,.int .i64 0,.int .i64 0,.int .i64 0,.bool false,.int .i64 0,.int .i64 0,.int .i64 0,.int .i64 0,.int .i64 0,.bool false,.int .i64 0,.int .i64 0,.int .i64 0,.int .i64 0,.int .i64 0,.bool false,.int .i64 0,.int .i64 0,.int .i64 0,.int .i64 0,.int .i64 0,.bool false,.int .i64 0,.int .i64 0,.int .i64 0,.int .i64 0,.int .i64 0,.bool false,.int .i64 0,.int .i64 0,.int .i64 0,.int .i64 0,.int .i64 0,.bool false,.int .i64 0,.int .i64 0,.int .i64 0,.int .i64 0,.int .i64 0,.bool false,.int .i64 0,.int .i64 0,.int .i64 0,.int .i64 0,.int .i64 0,.bool false,.int .i64 0,.int .i64 0,.int .i64 0,.int .i64 0,.int .i64 0,.bool false,.int .i64 0,.int .i64 0,.int .i64 0,.int .i64 0,.int .i64 0,.bool false,.int .i64 0,.int .i64 0,.int .i64 0,.int .i64 0,.int .i64 0,.bool false,.int .i64 0,.int .i64 0,.int .i64 0,.int .i64 0,.int .i64 0,.bool false,.int .i64 0,.int .i64 0,.int .i64 0,.int .i64 0,.int .i64 0,.bool false,.int .i64 0,.int .i64 0,.int .i64 0,.int .i64 0,.int .i64 0,.bool false,.int .i64 0,.int .i64 0,.int .i64 0,.int .i64 0,.int .i64 0,.bool false,.int .i64 0,.int .i64 0,.int .i64 0,.int .i64 0,.int .i64 0,.bool false,.int .i64 0,.int .i64 0,.int .i64 0,.int .i64 0,.int .i64 0,.bool false,.int .i64 0,.int .i64 0,.int .i64 0,.int .i64 0,.int .i64 0,.bool false,.int .i64 0,.int .i64 0,.int .i64 0,.int .i64 0,.int .i64 0,.bool false,.int .i64 0,.int .i64 0,.int .i64 0,.int .i64 0,.int .i64 0,.bool false,.int .i64 0,.int .i64 0,.int .i64 0,.int .i64 0,.int .i64 0,.bool false,.int .i64 0,.int .i64 0,.int .i64 0,.int .i64 0,.int .i64 0,.bool false,.int .i64 0,.int .i64 0,.int .i64 0,.int .i64 0,.int .i64 0,.bool false,.int .i64 0,.int .i64 0,.int .i64 0,.int .i64 0,.int .i64 0,.bool false,.int .i64 0,.int .i64 0,.int .i64 0,.int .i64 0,.int .i64 0,.bool false,.int .i64 0,.int .i64 0,.int .i64 0,.int .i64 0,.int .i64 0,.bool false,.int .i64 0,.int .i64 0,.int .i64 0,.int .i64 0,.int .i64 0,.bool false,.int .i64 0,.int .i64 0,.int .i64 0,.int .i64 0,.int .i64 0,.bool false,.int .i64 0,.int .i64 0,.int .i64 0,.int .i64 0,.int .i64 0,.bool false,.int .i64 0,.int .i64 0,.int .i64 0,.int .i64 0,.int .i64 0,.bool false,.int .i64 0,.int .i64 0,.int .i64 0,.int .i64 0,.int .i64 0,.bool false,.int .i64 0,.int .i64 0,.int .i64 0,.int .i64 0,.int .i64 0,.bool false,.int .i64 0,.int .i64 0,.int .i64 0,.int .i64 0,.int .i64 0,.bool false,.int .i64 0,.int .i64 0,.int .i64 0,.int .i64 0,.int .i64 0,.bool false,.int .i64 0,.int .i64 0,.int .i64 0,.int .i64 0,.int .i64 0,.bool false,.int .i64 0,.int .i64 0,.int .i64 0,.int .i64 0,.int .i64 0,.bool false,.int .i64 0,.int .i64 0,.int .i64 0,.int .i64 0,.int .i64 0,.bool false,.int .i64 0,.int .i64 0,.int .i64 0,.int .i64 0,.int .i64 0,.bool false,.int .i64 0,.int .i64 0,.int .i64 0,.int .i64 0,.int .i64 0,.bool false,.int .i64 0,.int .i64 0,.int .i64 0,.int .i64 0,.int .i64 0,.bool false,.int .i64 0,.int .i64 0,.int .i64 0,.int .i64 0,.int .i64 0,.bool false,.int .i64 0,.int .i64 0,.int .i64 0,.int .i64 0,.int .i64 0,.bool false,.int .i64 0,.int .i64 0,.int .i64 0,.int .i64 0,.int .i64 0,.bool false,.int .i64 0,.int .i64 0,.int .i64 0,.int .i64 0,.int .i64 0,.bool false,.int .i64 0,.int .i64 0,.int .i64 0,.int .i64 0,.int .i64 0,.bool false,.int .i64 0,.int .i64 0,.int .i64 0,.int .i64 0,.int .i64 0,.bool false,.int .i64 0,.int .i64 0,.int .i64 0,.int .i64 0,.int .i64 0,.bool false,.int .i64 0,.int .i64 0,.int .i64 0,.int .i64 0,.int .i64 0,.bool false,.int .i64 0,.int .i64 0,.int .i64 0,.int .i64 0,.int .i64 0,.bool false,.int .i64 0,.int .i64 0,.int .i64 0,.int .i64 0,.int .i64 0,.bool false,.int .i64 0,.int .i64 0,.int .i64 0,.int .i64 0,.int .i64 0,.bool false,.int .i64 0,.int .i64 0,.int .i64 0,.int .i64 0,.int .i64 0,.bool false,.int .i64 0,.int .i64 0,.int .i64 0,.int .i64 0,.int .i64 0,.bool false,.int .i64 0,.int .i64 0,.int .i64 0,.int .i64 0,.int .i64 0,.bool false,.int .i64 0,.int .i64 0,.int .i64 0,.int .i64 0,.int .i64 0,.bool false,.int .i64 0,.int .i64 0,.int .i64 0,.int .i64 0,.int .i64 0,.bool false,.int .i64 0,.int .i64 0,.int .i64 0,.int .i64 0,.int .i64 0,.bool false,.int .i64 0,.int .i64 0,.int .i64 0,.int .i64 0,.int .i64 0,.bool false,.int .i64 0,.int .i64 0,.int .i64 0,.int .i64 0,.int .i64 0,.bool false,.int .i64 0,.int .i64 0,.int .i64 0,.int .i64 0,.int .i64 0,.bool false])) 384 3072:=by unfold TI; kernel_rfl
theorem ti78 : TI Try.prog 78 (some (.agg #[.bool false,.int .i64 0,.int .i64 0])) 3 24:=by unfold TI; kernel_rfl
theorem ag3 : iM Try.prog 3 = false:=by kernel_rfl
theorem ag4 : iM Try.prog 4 = false:=by kernel_rfl
theorem ag53 : iM Try.prog 53 = false:=by kernel_rfl
theorem ag55 : iM Try.prog 55 = true:=by kernel_rfl
theorem ag78 : iM Try.prog 78 = true:=by kernel_rfl
theorem pl55 : ∀ w,(Array.mapM (m:=Sem) (fun (f : Field)=>Functor.map (Prod.mk f.offset) (sizeOf f.type)) (fieldsOf Try.prog 55)).run Try.prog w = .ok #[(0,1),(1,1),(2,1)] w:=fun w=>by kernel_rfl
theorem pl78 : ∀ w,(Array.mapM (m:=Sem) (fun (f : Field)=>Functor.map (Prod.mk f.offset) (sizeOf f.type)) (fieldsOf Try.prog 78)).run Try.prog w = .ok #[(0,1),(1,1),(2,1)] w:=fun w=>by kernel_rfl
theorem cl24 : bQ Try.prog 24:=⟨Try.f24,Try.func24,rfl,rfl⟩
theorem cl31 : bQ Try.prog 31:=⟨Try.f31,Try.func31,rfl,rfl⟩
theorem cl37 : bQ Try.prog 37:=⟨Try.f37,Try.func37,rfl,rfl⟩
theorem cl41 : bQ Try.prog 41:=⟨Try.f41,Try.func41,rfl,rfl⟩
theorem cl44 : bQ Try.prog 44:=⟨Try.f44,Try.func44,rfl,rfl⟩
theorem cl48 : bQ Try.prog 48:=⟨Try.f48,Try.func48,rfl,rfl⟩
theorem cl51 : bQ Try.prog 51:=⟨Try.f51,Try.func51,rfl,rfl⟩
theorem cl52 : bQ Try.prog 52:=⟨Try.f52,Try.func52,rfl,rfl⟩
theorem cl53 : bQ Try.prog 53:=⟨Try.f53,Try.func53,rfl,rfl⟩
theorem cl54 : bQ Try.prog 54:=⟨Try.f54,Try.func54,rfl,rfl⟩
theorem cl55 : bQ Try.prog 55:=⟨Try.f55,Try.func55,rfl,rfl⟩
theorem cl56 : bQ Try.prog 56:=⟨Try.f56,Try.func56,rfl,rfl⟩
theorem cl76 : bQ Try.prog 76:=⟨Try.f76,Try.func76,rfl,rfl⟩
theorem cl78 : bQ Try.prog 78:=⟨Try.f78,Try.func78,rfl,rfl⟩
theorem cl79 : bQ Try.prog 79:=⟨Try.f79,Try.func79,rfl,rfl⟩
theorem cl80 : bQ Try.prog 80:=⟨Try.f80,Try.func80,rfl,rfl⟩
theorem cl81 : bQ Try.prog 81:=⟨Try.f81,Try.func81,rfl,rfl⟩
theorem cl91 : bQ Try.prog 91:=⟨Try.f91,Try.func91,rfl,rfl⟩
theorem cl92 : bQ Try.prog 92:=⟨Try.f92,Try.func92,rfl,rfl⟩
def la53:=LA.mk Try.underlying53 ag53 ti53 (by decide)
def la55:=LA.mk Try.underlying55 ag55 ti55 (by decide)
abbrev v0 (x : cE) : List D:=[.int .u8 x.Kind,.int .i64 x.ID,.int .i64 x.Dep,.int .i64 x.Weight,.bool x.Only]
abbrev v1 (x : bE) : List D:=[.slice false (x.Cells.map aP.d),.int .i64 x.Free,.int .i64 x.Used]
abbrev v2 (x : aZ) : List D:=[.int .i64 x.ID,.int .i64 x.Parent,.int .i64 x.Weight,.bool x.Closed]
abbrev v3 (x : aI) : List D:=[.bool x.Live,.int .i64 x.Value,.int .i64 x.Link]
abbrev v4 (x : eW) : List D:=[.int .i64 x.dep,.int .i64 x.weight,.bool x.only]
abbrev q5  : List D:=[.dead,.dead,.dead,.dead,.dead,.dead,.dead,.dead,.dead,.dead,.dead,.dead,.dead,.dead,.dead,.dead,.dead,.dead,.dead,.dead,.dead,.dead,.dead,.dead,.dead,.dead,.dead,.dead,.dead,.dead,.dead,.dead,.dead,.dead,.dead,.dead,.dead,.dead,.dead,.dead,.dead,.dead,.dead,.dead,.dead,.dead,.dead,.dead,.dead,.dead,.dead,.dead,.dead,.dead,.dead,.dead,.dead,.dead,.dead,.dead,.dead,.dead,.dead,.dead,.dead,.dead,.dead,.dead,.dead,.dead,.dead,.dead,.dead,.dead,.dead,.dead,.dead,.dead,.dead,.dead,.dead,.dead,.dead,.dead,.dead,.dead,.dead,.dead,.dead,.dead,.dead,.dead,.dead,.dead,.dead,.dead,.dead,.dead,.dead,.dead,.dead,.dead,.dead,.dead,.dead,.dead,.dead,.dead,.dead,.dead,.dead,.dead,.dead,.dead,.dead,.dead,.dead,.dead,.dead,.dead,.dead,.dead,.dead,.dead,.dead,.dead,.dead,.dead,.dead,.dead,.dead,.dead,.dead,.dead,.dead,.dead,.dead,.dead,.dead,.dead,.dead,.dead,.dead,.dead,.dead,.dead,.dead,.dead]
abbrev q6 {a1 : IntKind} {a2 : Int} {a3 : IntKind} {a4 : Int} {a5 : IntKind} {a6 : Int} {a7 : IntKind} {a8 : Int} {a9 : IntKind} {a10 : Int} {a11 : Bool} : List D:=[.int a1 a2,.int a3 a4,.int a5 a6,.int a7 a8,.int a9 a10,.bool a11]
abbrev q7 {a1 : IntKind} {a2 : Int} {a3 : IntKind} {a4 : Int} {a5 : Bool} {a6 : List D} {a7 : IntKind} {a8 : Int} {a9 : IntKind} {a10 : Int} : List D:=[.int a1 a2,.int a3 a4,.slice a5 a6,.int a7 a8,.int a9 a10]
abbrev q8 {a1 : IntKind} {a2 : Int} {a3 : IntKind} {a4 : Int} {a5 : IntKind} {a6 : Int} {a7 : IntKind} {a8 : Int} {a9 : Bool} : List D:=[.int a1 a2,.int a3 a4,.int a5 a6,.int a7 a8,.bool a9]
abbrev q9 {a1 : IntKind} {a2 : Int} {a3 : IntKind} {a4 : Int} {a5 : IntKind} {a6 : Int} {a7 : Bool} : List D:=[.int a1 a2,.int a3 a4,.int a5 a6,.bool a7]
abbrev q10 {a1 : Bool} {a2 : List D} {a3 : IntKind} {a4 : Int} {a5 : IntKind} {a6 : Int} : List D:=[.slice a1 a2,.int a3 a4,.int a5 a6]
abbrev q11 {a1 : Nat} {a2 : Nat} {a3 : Nat} {a4 : IntKind} {a5 : Int} {a6 : IntKind} {a7 : Int} : List D:=[.osl a1 a2 a3,.int a4 a5,.int a6 a7]
abbrev q12 {a1 : IntKind} {a2 : Int} {a3 : IntKind} {a4 : Int} {a5 : Bool} : List D:=[.int a1 a2,.int a3 a4,.bool a5]
abbrev q13 {a1 : Bool} {a2 : IntKind} {a3 : Int} {a4 : IntKind} {a5 : Int} : List D:=[.bool a1,.int a2 a3,.int a4 a5]
abbrev q14 {a1 : IntKind} {a2 : Int} {a3 : IntKind} {a4 : Int} : List D:=[.nils,.int a1 a2,.int a3 a4]
abbrev q15 {a1 : IntKind} {a2 : Int} {a3 : Nat} {a4 : Nat} {a5 : Nat} : List D:=[.int a1 a2,.osl a3 a4 a5]
abbrev q16 {a1 : Nat} {a2 : Nat} {a3 : Nat} {a4 : Nat} : List D:=[.ref a1 a2,.ref a3 a4]
abbrev q17 {a1 : Nat} {a2 : Nat} {a3 : IntKind} {a4 : Int} : List D:=[.ref a1 a2,.int a3 a4]
abbrev q18 {a1 : Bool} {a2 : List D} {a3 : IntKind} {a4 : Int} {a5 : IntKind} {a6 : Int} {a7 : IntKind} {a8 : Int} {a9 : IntKind} {a10 : Int} : List D:=[.agg [.slice a1 a2,.int a3 a4,.int a5 a6],.int a7 a8,.int a9 a10]
abbrev q19 {a1 : Bool} {a2 : List D} {a3 : IntKind} {a4 : Int} {a5 : IntKind} {a6 : Int} {a7 : IntKind} {a8 : Int} : List D:=[.agg [.slice a1 a2,.int a3 a4,.int a5 a6],.int a7 a8]
abbrev w20 (a0 : Int) (a1 : Int) (a2 : List aI) (a3 : Int) (a4 : Int) : List D:=[.int .i64 a0,.int .i64 a1,.slice false (a2.map aP.d),.int .i64 a3,.int .i64 a4]
abbrev w21 (a0 : Int) (a1 : Int) (a2 : Int) (a3 : Bool) : List D:=[.int .i64 a0,.int .i64 a1,.int .i64 a2,.bool a3]


theorem jL (a0 : Int) (a1 : Int) (a2 : Int) (r : Bool) (h : jJ a0 a1 a2 = some r) : gL Try.prog 31 [.int .i64 a0,.int .i64 a1,.int .i64 a2] (.bool r):=by
 refine dO (rs:=[.bool r]) Try.func31 rfl Try.ntmps31 (nle rfl) rfl fun O hO=>?_
 show IWP _ _ _ _ ⟨[(0,.int .i64 a0),(1,.int .i64 a1),(2,.int .i64 a2)],[]⟩ _
 unfold jJ at h
 refine aF (aA rfl (aH rfl rfl (lb rfl) (sv (d:=.bool false) rfl)) <|aD ?_)
 obtain ⟨x1,hx1,h⟩:=aR h
 obtain ⟨x2,hx2,h⟩:=aR h
 obtain ⟨x3,hx3,h⟩:=aR h
 refine aF (aA rfl (mvI rfl rfl rfl rfl) <|aA rfl (mvI rfl rfl rfl rfl) <|aA rfl (aM rfl rfl (lb rfl) (svI rfl) (svI rfl) rfl hx1) <|aA rfl (mvB rfl rfl rfl rfl) <|aC rfl rfl (.one rfl) rfl (by decide) (fun hb=>(mvI rfl rfl rfl rfl)) <|aC rfl rfl (.one rfl) rfl (by decide) (fun hb=>(mvI rfl rfl rfl rfl)) <|aC rfl rfl (.one rfl) rfl (by decide) (fun hb=>(aM rfl rfl (lb rfl) (svcI rfl hb) (svcI rfl hb) rfl hx2)) <|aA rfl (bO rfl rfl (lb rfl) (svB rfl) rfl rfl hx3) <|aA rfl (asB rfl rfl rfl rfl) <|aD ?_)
 refine bD ?_
 obtain rfl:=Option.some.inj h
 refine ⟨.inr rfl,(.cons (sv rfl) .nil)⟩

theorem nK  (r : bE) (h : mY = some r) : gL Try.prog 32 [] (.agg (v1 r)):=by
 refine dO (rs:=[.agg (v1 r)]) Try.func32 rfl Try.ntmps32 (nle rfl) rfl fun O hO=>?_
 show IWP _ _ _ _ ⟨[],[]⟩ _
 unfold mY at h
 refine aF (aA rfl (gE (cs:=q14) (cs':=[.slice false (([] : List aI).map aP.d),.int .i64 0,.int .i64 0]) 0 rfl rfl (lb rfl) rfl ti55 rfl rfl (.cons (.nils _) (.all _))) <|aD ?_)
 refine aF (aA rfl (iop_sub (d':=.agg [.slice false (([] : List aI).map aP.d),.int .i64 (-1),.int .i64 0]) (cF (cs:=q14) rfl rfl (lb rfl) Try.underlying55 ti55 pl55 rfl (.cons (sv (d:=.int _ (-1)) rfl) .nil) rfl) (.agg (.cons (.nils _) (.all _)))) <|aA rfl (eZ (ds':=[.slice false (([] : List aI).map aP.d),.int _ _,.int _ _]) rfl rfl ti55 (svR rfl) rfl (svA q10 rfl) rfl rfl rfl (nle rfl) rfl) <|aD ?_)
 refine bD ?_
 obtain rfl:=Option.some.inj h
 refine ⟨.inr rfl,(.cons (rva la55 rfl rfl (nle rfl) rfl) .nil)⟩

theorem lZ (a0 : eW) (a1 : Int) (r : Int) (h : iF a0 a1 = some r) : gL Try.prog 33 [.agg (v4 a0),.int .i64 a1] (.int .i64 r):=by
 refine dO (rs:=[.int .i64 r]) Try.func33 rfl Try.ntmps33 (nle rfl) rfl fun O hO=>?_
 show IWP _ _ _ _ ⟨[(0,.agg (v4 a0)),(1,.int .i64 a1)],[]⟩ _
 unfold iF at h
 refine aF (aA rfl (eD (cs:=q12) 0 rfl rfl (lb rfl) rfl (svA q12 rfl) rfl rfl) <|aA rfl (aH rfl rfl (lb rfl) (sv (d:=.int _ 0) rfl)) <|aD ?_)
 refine aT ?_
 refine bA ?_
 refine jM (α:=Bool) (fun z=>⟨[(1,.int .i64 a1),(2,.ref 0 0),(5,.bool z)],[(0,.blk 72 (v4 a0))]⟩) (fun z=>fX a0 a1 z = some r) ?_ ?_
 ·
  obtain ⟨x10,hx10,h⟩:=aS h
  refine aF (aA rfl (mvI rfl rfl rfl rfl) <|aA rfl (cA (r:=.bool _) rfl rfl (lb rfl) cl31 (.cons (svI rfl) (.cons (sv (d:=.int _ 1) rfl) (.cons (sv (d:=.int _ 1048576) rfl) .nil))) rfl (jL _ _ _ _ hx10)) <|aA rfl (eG rfl rfl (lb rfl) (svB rfl)) <|aA rfl (asB rfl rfl rfl rfl) <|aD ?_)
  refine aX (b:=_) rfl (fun hc11=>?_) (fun hc11=>?_)
  ·
   replace h:=bY h hc11
   refine aU ?_
   refine aL ⟨(!x10),(fun i=>i),⟨(.sames rfl rfl),(.cons (.blk rfl rfl rfl) .nil),bB [0] rfl (by decide),fun _ _=>rfl⟩,?_⟩
   exact h
  ·
   replace h:=bZ h hc11
   obtain ⟨x12,hx12,h⟩:=aS h
   refine aF (aA rfl (faR 0 rfl rfl rfl Try.underlying72 rfl ti3 (lb rfl) rfl rfl) <|aA rfl (aK (d:=.int _ _) rfl rfl (lb rfl) Try.underlying3 ag3 ti3 (by decide) (svR rfl) rfl (nle rfl) rfl) <|aA rfl (cA (r:=.bool _) rfl rfl (lb rfl) cl31 (.cons (svI rfl) (.cons (sv (d:=.int _ 0) rfl) (.cons (sv (d:=.int _ 1048576) rfl) .nil))) rfl (jL _ _ _ _ hx12)) <|aA rfl (eG rfl rfl (lb rfl) (svB rfl)) <|aA rfl (asB rfl rfl rfl rfl) <|aD ?_)
   refine aX (b:=_) rfl (fun hc13=>?_) (fun hc13=>?_)
   ·
    replace h:=bY h hc13
    refine aU ?_
    refine aL ⟨(!x12),(fun i=>i),⟨(.sames rfl rfl),(.cons (.blk rfl rfl rfl) .nil),bB [0] rfl (by decide),fun _ _=>rfl⟩,?_⟩
    exact h
   ·
    replace h:=bZ h hc13
    obtain ⟨x14,hx14,h⟩:=aS h
    refine aW (aA rfl (faR 1 rfl rfl rfl Try.underlying72 rfl ti3 (lb rfl) rfl rfl) <|aA rfl (aK (d:=.int _ _) rfl rfl (lb rfl) Try.underlying3 ag3 ti3 (by decide) (svR rfl) rfl (nle rfl) rfl) <|aA rfl (cA (r:=.bool _) rfl rfl (lb rfl) cl31 (.cons (svI rfl) (.cons (sv (d:=.int _ 1) rfl) (.cons (sv (d:=.int _ 256) rfl) .nil))) rfl (jL _ _ _ _ hx14)) <|aA rfl (eG rfl rfl (lb rfl) (svB rfl)) <|aA rfl (asB rfl rfl rfl rfl) <|bL ?_)
    refine aL ⟨(!x14),(fun i=>i),⟨(.sames rfl rfl),(.cons (.blk rfl rfl rfl) .nil),bB [0] rfl (by decide),fun _ _=>rfl⟩,?_⟩
    exact h
 ·
  rintro v6 h
  unfold fX at h
  refine aX (b:=_) rfl (fun hc7=>?_) (fun hc7=>?_)
  ·
   replace h:=bY h hc7
   refine aF (aA rfl (aH rfl rfl (lb rfl) (sv (d:=.int _ 8) rfl)) <|aD ?_)
   refine bD ?_
   refine eH ?_
   refine bS ?_
   obtain rfl:=Option.some.inj h
   refine ⟨.inr rfl,(.cons (sv rfl) .nil)⟩
  ·
   replace h:=bZ h hc7
   obtain ⟨x8,hx8,h⟩:=aR h
   refine aF (aA rfl (mvI rfl rfl rfl rfl) <|aA rfl (faR 0 rfl rfl rfl Try.underlying72 rfl ti3 (lb rfl) rfl rfl) <|aA rfl (aK (d:=.int _ _) rfl rfl (lb rfl) Try.underlying3 ag3 ti3 (by decide) (svR rfl) rfl (nle rfl) rfl) <|aA rfl (aM rfl rfl (lb rfl) (svI rfl) (svI rfl) rfl hx8) <|aA rfl (asB rfl rfl rfl rfl) <|aD ?_)
   refine aX (b:=_) rfl (fun hc9=>?_) (fun hc9=>?_)
   ·
    replace h:=bY h hc9
    refine aF (aA rfl (aH rfl rfl (lb rfl) (sv (d:=.int _ 4) rfl)) <|aD ?_)
    refine bD ?_
    refine eH ?_
    refine bS ?_
    obtain rfl:=Option.some.inj h
    refine ⟨.inr rfl,(.cons (sv rfl) .nil)⟩
   ·
    replace h:=bZ h hc9
    refine aU ?_
    refine bR ?_
    refine aL ?_
    refine aF (aA rfl (aH rfl rfl (lb rfl) (sv (d:=.int _ 0) rfl)) <|aD ?_)
    refine bD ?_
    obtain rfl:=Option.some.inj h
    refine ⟨.inr rfl,(.cons (sv rfl) .nil)⟩

theorem lQ (a0 : bE) (a1 : Int) (r : Bool) (h : gF a0 a1 = some r) : gL Try.prog 52 [.agg (v1 a0),.int .i64 a1] (.bool r):=by
 refine dO (rs:=[.bool r]) Try.func52 rfl Try.ntmps52 (nle rfl) rfl fun O hO=>?_
 show IWP _ _ _ _ ⟨[(0,.agg (v1 a0)),(1,.int .i64 a1)],[]⟩ _
 unfold gF at h
 refine aF (aA rfl (eD (cs:=q10) 0 rfl rfl (lb rfl) rfl (svA q10 rfl) rfl rfl) <|aA rfl (aH rfl rfl (lb rfl) (sv (d:=.bool false) rfl)) <|aD ?_)
 obtain ⟨x1,hx1,h⟩:=aR h
 obtain ⟨x2,hx2,h⟩:=aR h
 obtain ⟨x3,hx3,h⟩:=aR h
 refine aF (aA rfl (mvI rfl rfl rfl rfl) <|aA rfl (aM rfl rfl (lb rfl) (sv (d:=.int _ (-1)) rfl) (svI rfl) rfl hx1) <|aA rfl (mvB rfl rfl rfl rfl) <|aC rfl rfl (.one rfl) rfl (by decide) (fun hb=>(mvI rfl rfl rfl rfl)) <|aC rfl rfl (.one rfl) rfl (by decide) (fun hb=>(faR 0 rfl rfl rfl Try.underlying55 rfl ti53 (lb rfl) rfl rfl)) <|aC rfl rfl (.one rfl) rfl (by decide) (fun hb=>(aK (d:=.slice _ _) rfl rfl (lb rfl) Try.underlying53 ag53 ti53 (by decide) (svcR rfl hb) rfl (nle rfl) rfl)) <|aC rfl rfl (.one rfl) rfl (by decide) (fun hb=>(eQ aP (l:=a0.Cells) rfl rfl (lb rfl) Try.underlying53 (svcL rfl hb))) <|aC rfl rfl (.one rfl) rfl (by decide) (fun hb=>(aM rfl rfl (lb rfl) (svcI rfl hb) (svcI rfl hb) rfl hx2)) <|aA rfl (bO rfl rfl (lb rfl) (svB rfl) rfl rfl hx3) <|aA rfl (asB rfl rfl rfl rfl) <|aD ?_)
 refine bD ?_
 obtain rfl:=Option.some.inj h
 refine ⟨.inr rfl,(.cons (sv rfl) .nil)⟩

theorem nE (a0 : bE) (a1 : aI) (r : Bool) (h : iJ a0 a1 = some r) : gL Try.prog 54 [.agg (v1 a0),.agg (v3 a1)] (.bool r):=by
 refine dO (rs:=[.bool r]) Try.func54 rfl Try.ntmps54 (nle rfl) rfl fun O hO=>?_
 show IWP _ _ _ _ ⟨[(0,.agg (v1 a0)),(1,.agg (v3 a1))],[]⟩ _
 unfold iJ at h
 refine aF (aA rfl (eD (cs:=q10) 0 rfl rfl (lb rfl) rfl (svA q10 rfl) rfl rfl) <|aA rfl (eD (cs:=q13) 1 rfl rfl (lb rfl) rfl (svA q13 rfl) rfl rfl) <|aA rfl (aH rfl rfl (lb rfl) (sv (d:=.bool false) rfl)) <|aD ?_)
 obtain ⟨x1,hx1,h⟩:=aS h
 obtain ⟨x2,hx2,h⟩:=aR h
 refine aF (aA rfl (faR 0 rfl rfl rfl Try.underlying78 rfl ti4 (lb rfl) rfl rfl) <|aA rfl (aK (d:=.bool _) rfl rfl (lb rfl) Try.underlying4 ag4 ti4 (by decide) (svR rfl) rfl (nle rfl) rfl) <|aA rfl (eG rfl rfl (lb rfl) (svB rfl)) <|aA rfl (mvB rfl rfl rfl rfl) <|aC rfl rfl (.one rfl) rfl (by decide) (fun hb=>(lra q10 la55 rfl rfl rfl rfl rfl (nle rfl) rfl)) <|aC rfl rfl (.one rfl) rfl (by decide) (fun hb=>(faR 2 rfl rfl rfl Try.underlying78 rfl ti3 (lb rfl) rfl rfl)) <|aC rfl rfl (.one rfl) rfl (by decide) (fun hb=>(aK (d:=.int _ _) rfl rfl (lb rfl) Try.underlying3 ag3 ti3 (by decide) (svcR rfl hb) rfl (nle rfl) rfl)) <|aC rfl rfl (.one rfl) rfl (by decide) (fun hb=>(cA (r:=.bool _) rfl rfl (lb rfl) cl52 (.cons (svcA (v1 a0) rfl hb) (.cons (svcI rfl hb) .nil)) rfl (lQ _ _ _ (gd_t hx1 hb)))) <|aC rfl rfl (.one rfl) rfl (by decide) (fun hb=>(eG rfl rfl (lb rfl) (svcB rfl hb))) <|aA rfl (bO rfl rfl (lb rfl) (svB rfl) rfl rfl hx2) <|aA rfl (asB rfl rfl rfl rfl) <|aD ?_)
 refine bD ?_
 obtain rfl:=Option.some.inj h
 refine ⟨.inr rfl,(.cons (sv rfl) .nil)⟩

theorem iN (a0 : (List aI)) (a1 : bE) (r : Int) (h : cR a0 a1 = some r) : gL Try.prog 80 [.slice false (a0.map aP.d),.mv 54 [.agg (v1 a1)]] (.int .i64 r):=by
 refine dO (rs:=[.int .i64 r]) Try.func80 rfl Try.ntmps80 (nle rfl) rfl fun O hO=>?_
 show IWP _ _ _ _ ⟨[(0,.slice false (a0.map aP.d)),(1,.mv 54 [.agg (v1 a1)])],[]⟩ _
 unfold cR at h
 refine aF (aA rfl (aH rfl rfl (lb rfl) (sv (d:=.int _ 0) rfl)) <|aD ?_)
 refine aT ?_
 refine aF (aA rfl (mvL rfl rfl rfl rfl) <|aA rfl (eQ aP (l:=a0) rfl rfl (lb rfl) Try.underlying53 (svL rfl)) <|aA rfl (aN rfl rfl (lb rfl) (sv (d:=.int _ 0) rfl)) <|aD ?_)
 refine bA ?_
 refine cV (α:=Nat × Int) (fun z=>⟨[(0,.slice false (a0.map aP.d)),(1,.mv 54 [.agg (v1 a1)]),(7,.int .i64 (a0.length : Int)),(8,.int .i64 z.2)],[]⟩) (fun z=>bI a0 a1 z.1 z.2 = some r) (fun z=>z.1) (fuel,0) (fun i=>i) ⟨(.sames rfl rfl),.nil,bB [] rfl (by decide),fun _ _=>rfl⟩ ?_ ?_
 ·exact h
 ·
  rintro ⟨n0,v7⟩ h
  cases n0 with
  | zero=>exact absurd h (by unfold bI; exact nofun)
  | succ n0 =>
   unfold bI at h
   obtain ⟨x14,hx14,h⟩:=aR h
   refine aF (aA rfl (aM rfl rfl (lb rfl) (svI rfl) (svI rfl) rfl hx14) <|aD ?_)
   refine aT ?_
   refine aX (b:=_) rfl (fun hc15=>?_) (fun hc15=>?_)
   ·
    replace h:=bY h hc15
    refine aU ?_
    refine aL ?_
    refine aT ?_
    refine bA ?_
    refine aF (aA rfl (mvI rfl rfl rfl rfl) <|aA rfl (asI rfl rfl rfl rfl) <|aD ?_)
    obtain ⟨x16,hx16,h⟩:=aS h
    obtain ⟨x17,hx17,h⟩:=aS h
    refine aF (aA rfl (aN rfl rfl (lb rfl) (sv (d:=.mv 54 [.agg q10]) rfl)) <|aA rfl (mvL rfl rfl rfl rfl) <|aA rfl (mvI rfl rfl rfl rfl) <|aA rfl (gO aP (cs:=q13) rfl rfl (lb rfl) Try.underlying53 ti78 (svL rfl) (svI rfl) hx16 rfl rfl) <|aA rfl (jY (cs:=q13) rfl rfl (lb rfl) Try.underlying78 ag78 ti78 (by decide) (sv (d:=.fptr q13) rfl) (nle rfl) rfl) <|aA rfl (yL (r:=.bool _) rfl rfl (lb rfl) cl54 (sv (d:=.mv 54 [.agg q10]) rfl) (.cons (svA q13 rfl) .nil) rfl (nE _ _ _ hx17)) <|aD ?_)
    refine aX (b:=_) rfl (fun hc18=>?_) (fun hc18=>?_)
    ·
     replace h:=bY h hc18
     refine aF (aA rfl (mvI rfl rfl rfl rfl) <|aA rfl (asI rfl rfl rfl rfl) <|aD ?_)
     refine bD ?_
     refine eH ?_
     refine bS ?_
     refine bS ?_
     refine eH ?_
     refine bS ?_
     obtain rfl:=Option.some.inj h
     refine ⟨.inr rfl,(.cons (sv rfl) .nil)⟩
    ·
     replace h:=bZ h hc18
     refine aU ?_
     refine bR ?_
     refine aL ?_
     obtain ⟨x19,hx19,h⟩:=aR h
     refine aW (aA rfl (cQ rfl rfl (lb rfl) (svI rfl) (sv (d:=.int _ 1) rfl) rfl hx19) <|aA rfl (mvI rfl rfl rfl rfl) <|bL ?_)
     refine aL ⟨(n0,x19),(fun i=>i),⟨(.sames rfl rfl),.nil,bB [] rfl (by decide),fun _ _=>rfl⟩,?_,?_⟩
     exact h
     exact Nat.lt_succ_self _
   ·
    replace h:=bZ h hc15
    refine dD ?_
    refine bV ?_
    refine bV ?_
    refine dE ?_
    refine aL ?_
    refine aF (aA rfl (aH rfl rfl (lb rfl) (sv (d:=.int _ (-1)) rfl)) <|aD ?_)
    refine bD ?_
    obtain rfl:=Option.some.inj h
    refine ⟨.inr rfl,(.cons (sv rfl) .nil)⟩

theorem iD (a0 : (List aI)) (a1 : bE) (r : Bool) (h : cJ a0 a1 = some r) : gL Try.prog 53 [.slice false (a0.map aP.d),.mv 54 [.agg (v1 a1)]] (.bool r):=by
 refine dO (rs:=[.bool r]) Try.func53 rfl Try.ntmps53 (nle rfl) rfl fun O hO=>?_
 show IWP _ _ _ _ ⟨[(0,.slice false (a0.map aP.d)),(1,.mv 54 [.agg (v1 a1)])],[]⟩ _
 unfold cJ at h
 refine aF (aA rfl (aH rfl rfl (lb rfl) (sv (d:=.bool false) rfl)) <|aD ?_)
 obtain ⟨x1,hx1,h⟩:=aS h
 obtain ⟨x2,hx2,h⟩:=aR h
 refine aF (aA rfl (mvL rfl rfl rfl rfl) <|aA rfl (aN rfl rfl (lb rfl) (sv (d:=.mv 54 [.agg q10]) rfl)) <|aA rfl (cA (r:=.int _ _) rfl rfl (lb rfl) cl80 (.cons (svL rfl) (.cons (sv (d:=.mv 54 [.agg q10]) rfl) .nil)) rfl (iN _ _ _ hx1)) <|aA rfl (aM rfl rfl (lb rfl) (svI rfl) (sv (d:=.int _ 0) rfl) rfl hx2) <|aA rfl (asB rfl rfl rfl rfl) <|aD ?_)
 refine bD ?_
 obtain rfl:=Option.some.inj h
 refine ⟨.inr rfl,(.cons (sv rfl) .nil)⟩

theorem uK (a0 : aI) (r : Bool) (h : mX a0 = some r) : gL Try.prog 55 [.agg (v3 a0)] (.bool r):=by
 refine dO (rs:=[.bool r]) Try.func55 rfl Try.ntmps55 (nle rfl) rfl fun O hO=>?_
 show IWP _ _ _ _ ⟨[(0,.agg (v3 a0))],[]⟩ _
 unfold mX at h
 refine aF (aA rfl (eD (cs:=q13) 0 rfl rfl (lb rfl) rfl (svA q13 rfl) rfl rfl) <|aA rfl (aH rfl rfl (lb rfl) (sv (d:=.bool false) rfl)) <|aD ?_)
 refine aT ?_
 refine aF (aA rfl (faR 0 rfl rfl rfl Try.underlying78 rfl ti4 (lb rfl) rfl rfl) <|aA rfl (aK (d:=.bool _) rfl rfl (lb rfl) Try.underlying4 ag4 ti4 (by decide) (svR rfl) rfl (nle rfl) rfl) <|aD ?_)
 refine aX (b:=_) rfl (fun hc1=>?_) (fun hc1=>?_)
 ·
  replace h:=bY h hc1
  obtain ⟨x2,hx2,h⟩:=aR h
  refine aF (aA rfl (faR 2 rfl rfl rfl Try.underlying78 rfl ti3 (lb rfl) rfl rfl) <|aA rfl (aK (d:=.int _ _) rfl rfl (lb rfl) Try.underlying3 ag3 ti3 (by decide) (svR rfl) rfl (nle rfl) rfl) <|aA rfl (aM rfl rfl (lb rfl) (svI rfl) (sv (d:=.int _ 0) rfl) rfl hx2) <|aA rfl (asB rfl rfl rfl rfl) <|aD ?_)
  refine bD ?_
  refine bS ?_
  obtain rfl:=Option.some.inj h
  refine ⟨.inr rfl,(.cons (sv rfl) .nil)⟩
 ·
  replace h:=bZ h hc1
  refine aU ?_
  refine aL ?_
  obtain ⟨x3,hx3,h⟩:=aR h
  refine aF (aA rfl (faR 1 rfl rfl rfl Try.underlying78 rfl ti3 (lb rfl) rfl rfl) <|aA rfl (aK (d:=.int _ _) rfl rfl (lb rfl) Try.underlying3 ag3 ti3 (by decide) (svR rfl) rfl (nle rfl) rfl) <|aA rfl (aM rfl rfl (lb rfl) (svI rfl) (sv (d:=.int _ 0) rfl) rfl hx3) <|aA rfl (asB rfl rfl rfl rfl) <|aD ?_)
  refine bD ?_
  obtain rfl:=Option.some.inj h
  refine ⟨.inr rfl,(.cons (sv rfl) .nil)⟩

theorem iV (a0 : (List aI)) (r : Int) (h : dC a0 = some r) : gL Try.prog 80 [.slice false (a0.map aP.d),.fn 55 []] (.int .i64 r):=by
 refine dO (rs:=[.int .i64 r]) Try.func80 rfl Try.ntmps80 (nle rfl) rfl fun O hO=>?_
 show IWP _ _ _ _ ⟨[(0,.slice false (a0.map aP.d)),(1,.fn 55 [])],[]⟩ _
 unfold dC at h
 refine aF (aA rfl (aH rfl rfl (lb rfl) (sv (d:=.int _ 0) rfl)) <|aD ?_)
 refine aT ?_
 refine aF (aA rfl (mvL rfl rfl rfl rfl) <|aA rfl (eQ aP (l:=a0) rfl rfl (lb rfl) Try.underlying53 (svL rfl)) <|aA rfl (aN rfl rfl (lb rfl) (sv (d:=.int _ 0) rfl)) <|aD ?_)
 refine bA ?_
 refine cV (α:=Nat × Int) (fun z=>⟨[(0,.slice false (a0.map aP.d)),(1,.fn 55 []),(7,.int .i64 (a0.length : Int)),(8,.int .i64 z.2)],[]⟩) (fun z=>bM a0 z.1 z.2 = some r) (fun z=>z.1) (fuel,0) (fun i=>i) ⟨(.sames rfl rfl),.nil,bB [] rfl (by decide),fun _ _=>rfl⟩ ?_ ?_
 ·exact h
 ·
  rintro ⟨n0,v7⟩ h
  cases n0 with
  | zero=>exact absurd h (by unfold bM; exact nofun)
  | succ n0 =>
   unfold bM at h
   obtain ⟨x14,hx14,h⟩:=aR h
   refine aF (aA rfl (aM rfl rfl (lb rfl) (svI rfl) (svI rfl) rfl hx14) <|aD ?_)
   refine aT ?_
   refine aX (b:=_) rfl (fun hc15=>?_) (fun hc15=>?_)
   ·
    replace h:=bY h hc15
    refine aU ?_
    refine aL ?_
    refine aT ?_
    refine bA ?_
    refine aF (aA rfl (mvI rfl rfl rfl rfl) <|aA rfl (asI rfl rfl rfl rfl) <|aD ?_)
    obtain ⟨x16,hx16,h⟩:=aS h
    obtain ⟨x17,hx17,h⟩:=aS h
    refine aF (aA rfl (aN rfl rfl (lb rfl) (sv (d:=.fn 55 []) rfl)) <|aA rfl (mvL rfl rfl rfl rfl) <|aA rfl (mvI rfl rfl rfl rfl) <|aA rfl (gO aP (cs:=q13) rfl rfl (lb rfl) Try.underlying53 ti78 (svL rfl) (svI rfl) hx16 rfl rfl) <|aA rfl (jY (cs:=q13) rfl rfl (lb rfl) Try.underlying78 ag78 ti78 (by decide) (sv (d:=.fptr q13) rfl) (nle rfl) rfl) <|aA rfl (tR (r:=.bool _) rfl rfl (lb rfl) cl55 (sv (d:=.fn 55 []) rfl) (.cons (svA q13 rfl) .nil) rfl (uK _ _ hx17)) <|aD ?_)
    refine aX (b:=_) rfl (fun hc18=>?_) (fun hc18=>?_)
    ·
     replace h:=bY h hc18
     refine aF (aA rfl (mvI rfl rfl rfl rfl) <|aA rfl (asI rfl rfl rfl rfl) <|aD ?_)
     refine bD ?_
     refine eH ?_
     refine bS ?_
     refine bS ?_
     refine eH ?_
     refine bS ?_
     obtain rfl:=Option.some.inj h
     refine ⟨.inr rfl,(.cons (sv rfl) .nil)⟩
    ·
     replace h:=bZ h hc18
     refine aU ?_
     refine bR ?_
     refine aL ?_
     obtain ⟨x19,hx19,h⟩:=aR h
     refine aW (aA rfl (cQ rfl rfl (lb rfl) (svI rfl) (sv (d:=.int _ 1) rfl) rfl hx19) <|aA rfl (mvI rfl rfl rfl rfl) <|bL ?_)
     refine aL ⟨(n0,x19),(fun i=>i),⟨(.sames rfl rfl),.nil,bB [] rfl (by decide),fun _ _=>rfl⟩,?_,?_⟩
     exact h
     exact Nat.lt_succ_self _
   ·
    replace h:=bZ h hc15
    refine dD ?_
    refine bV ?_
    refine bV ?_
    refine dE ?_
    refine aL ?_
    refine aF (aA rfl (aH rfl rfl (lb rfl) (sv (d:=.int _ (-1)) rfl)) <|aD ?_)
    refine bD ?_
    obtain rfl:=Option.some.inj h
    refine ⟨.inr rfl,(.cons (sv rfl) .nil)⟩

theorem iO (a0 : (List aI)) (r : Bool) (h : cS a0 = some r) : gL Try.prog 53 [.slice false (a0.map aP.d),.fn 55 []] (.bool r):=by
 refine dO (rs:=[.bool r]) Try.func53 rfl Try.ntmps53 (nle rfl) rfl fun O hO=>?_
 show IWP _ _ _ _ ⟨[(0,.slice false (a0.map aP.d)),(1,.fn 55 [])],[]⟩ _
 unfold cS at h
 refine aF (aA rfl (aH rfl rfl (lb rfl) (sv (d:=.bool false) rfl)) <|aD ?_)
 obtain ⟨x1,hx1,h⟩:=aS h
 obtain ⟨x2,hx2,h⟩:=aR h
 refine aF (aA rfl (mvL rfl rfl rfl rfl) <|aA rfl (aN rfl rfl (lb rfl) (sv (d:=.fn 55 []) rfl)) <|aA rfl (cA (r:=.int _ _) rfl rfl (lb rfl) cl80 (.cons (svL rfl) (.cons (sv (d:=.fn 55 []) rfl) .nil)) rfl (iV _ _ hx1)) <|aA rfl (aM rfl rfl (lb rfl) (svI rfl) (sv (d:=.int _ 0) rfl) rfl hx2) <|aA rfl (asB rfl rfl rfl rfl) <|aD ?_)
 refine bD ?_
 obtain rfl:=Option.some.inj h
 refine ⟨.inr rfl,(.cons (sv rfl) .nil)⟩

theorem mR (a0 : (List Int)) (a1 : Int) (r : Int) (h : iQ a0 a1 = some r) : gL Try.prog 92 [.slice false (a0.map (eInt .i64).d),.int .i64 a1] (.int .i64 r):=by
 refine dO (rs:=[.int .i64 r]) Try.func92 rfl Try.ntmps92 (nle rfl) rfl fun O hO=>?_
 show IWP _ _ _ _ ⟨[(0,.slice false (a0.map (eInt .i64).d)),(1,.int .i64 a1)],[]⟩ _
 unfold iQ at h
 refine aF (aA rfl (aH rfl rfl (lb rfl) (sv (d:=.int _ 0) rfl)) <|aD ?_)
 refine aT ?_
 refine aF (aA rfl (mvL rfl rfl rfl rfl) <|aA rfl (eQ (eInt .i64) (l:=a0) rfl rfl (lb rfl) Try.underlying24 (svL rfl)) <|aA rfl (aN rfl rfl (lb rfl) (sv (d:=.int _ 0) rfl)) <|aD ?_)
 refine bA ?_
 refine cV (α:=Nat × Int) (fun z=>⟨[(0,.slice false (a0.map (eInt .i64).d)),(1,.int .i64 a1),(7,.int .i64 (a0.length : Int)),(8,.int .i64 z.2)],[]⟩) (fun z=>cW a0 a1 z.1 z.2 = some r) (fun z=>z.1) (fuel,0) (fun i=>i) ⟨(.sames rfl rfl),.nil,bB [] rfl (by decide),fun _ _=>rfl⟩ ?_ ?_
 ·exact h
 ·
  rintro ⟨n0,v7⟩ h
  cases n0 with
  | zero=>exact absurd h (by unfold cW; exact nofun)
  | succ n0 =>
   unfold cW at h
   obtain ⟨x14,hx14,h⟩:=aR h
   refine aF (aA rfl (aM rfl rfl (lb rfl) (svI rfl) (svI rfl) rfl hx14) <|aD ?_)
   refine aT ?_
   refine aX (b:=_) rfl (fun hc15=>?_) (fun hc15=>?_)
   ·
    replace h:=bY h hc15
    refine aU ?_
    refine aL ?_
    refine aT ?_
    refine bA ?_
    refine aF (aA rfl (mvI rfl rfl rfl rfl) <|aA rfl (asI rfl rfl rfl rfl) <|aD ?_)
    obtain ⟨x16,hx16,h⟩:=aS h
    obtain ⟨x17,hx17,h⟩:=aR h
    refine aF (aA rfl (mvI rfl rfl rfl rfl) <|aA rfl (mvL rfl rfl rfl rfl) <|aA rfl (mvI rfl rfl rfl rfl) <|aA rfl (gO (eInt .i64) (cs:=[.int _ _]) rfl rfl (lb rfl) Try.underlying24 ti3 (svL rfl) (svI rfl) hx16 rfl rfl) <|aA rfl (fT rfl rfl (lb rfl) Try.underlying3 ag3 ti3 (by decide) (sv (d:=.fptr [.int _ _]) rfl) (nle rfl)) <|aA rfl (aM rfl rfl (lb rfl) (svI rfl) (svI rfl) rfl hx17) <|aD ?_)
    refine aX (b:=_) rfl (fun hc18=>?_) (fun hc18=>?_)
    ·
     replace h:=bY h hc18
     refine aF (aA rfl (mvI rfl rfl rfl rfl) <|aA rfl (asI rfl rfl rfl rfl) <|aD ?_)
     refine bD ?_
     refine eH ?_
     refine bS ?_
     refine bS ?_
     refine eH ?_
     refine bS ?_
     obtain rfl:=Option.some.inj h
     refine ⟨.inr rfl,(.cons (sv rfl) .nil)⟩
    ·
     replace h:=bZ h hc18
     refine aU ?_
     refine bR ?_
     refine aL ?_
     obtain ⟨x19,hx19,h⟩:=aR h
     refine aW (aA rfl (cQ rfl rfl (lb rfl) (svI rfl) (sv (d:=.int _ 1) rfl) rfl hx19) <|aA rfl (mvI rfl rfl rfl rfl) <|bL ?_)
     refine aL ⟨(n0,x19),(fun i=>i),⟨(.sames rfl rfl),.nil,bB [] rfl (by decide),fun _ _=>rfl⟩,?_,?_⟩
     exact h
     exact Nat.lt_succ_self _
   ·
    replace h:=bZ h hc15
    refine dD ?_
    refine bV ?_
    refine bV ?_
    refine dE ?_
    refine aL ?_
    refine aF (aA rfl (aH rfl rfl (lb rfl) (sv (d:=.int _ (-1)) rfl)) <|aD ?_)
    refine bD ?_
    obtain rfl:=Option.some.inj h
    refine ⟨.inr rfl,(.cons (sv rfl) .nil)⟩

theorem mB (a0 : (List Int)) (a1 : Int) (r : Bool) (h : fQ a0 a1 = some r) : gL Try.prog 81 [.slice false (a0.map (eInt .i64).d),.int .i64 a1] (.bool r):=by
 refine dO (rs:=[.bool r]) Try.func81 rfl Try.ntmps81 (nle rfl) rfl fun O hO=>?_
 show IWP _ _ _ _ ⟨[(0,.slice false (a0.map (eInt .i64).d)),(1,.int .i64 a1)],[]⟩ _
 unfold fQ at h
 refine aF (aA rfl (aH rfl rfl (lb rfl) (sv (d:=.bool false) rfl)) <|aD ?_)
 obtain ⟨x1,hx1,h⟩:=aS h
 obtain ⟨x2,hx2,h⟩:=aR h
 refine aF (aA rfl (mvL rfl rfl rfl rfl) <|aA rfl (mvI rfl rfl rfl rfl) <|aA rfl (cA (r:=.int _ _) rfl rfl (lb rfl) cl92 (.cons (svL rfl) (.cons (svI rfl) .nil)) rfl (mR _ _ _ hx1)) <|aA rfl (aM rfl rfl (lb rfl) (svI rfl) (sv (d:=.int _ 0) rfl) rfl hx2) <|aA rfl (asB rfl rfl rfl rfl) <|aD ?_)
 refine bD ?_
 obtain rfl:=Option.some.inj h
 refine ⟨.inr rfl,(.cons (sv rfl) .nil)⟩

theorem nJ (a0 : bE) (r : ((List Int) × Bool)) (h : jO a0 = some r) : gL Try.prog 56 [.agg (v1 a0)] (retD [.slice false (r.1.map (eInt .i64).d),.bool r.2]):=by
 refine lY (rs:=[.slice false (r.1.map (eInt .i64).d),.bool r.2]) Try.func56 rfl Try.ntmps56 (nle rfl) rfl fun O hO=>?_
 show IWP _ _ _ _ ⟨[(0,.agg (v1 a0))],[]⟩ _
 unfold jO at h
 refine aF (aA rfl (eD (cs:=q10) 0 rfl rfl (lb rfl) rfl (svA q10 rfl) rfl rfl) <|aA rfl (aH rfl rfl (lb rfl) (sv (d:=.nils) rfl)) <|aA rfl (aH rfl rfl (lb rfl) (sv (d:=.bool false) rfl)) <|aD ?_)
 refine qX (α:=Nat × (List Int) × Int) 0 (fun z=>⟨[(1,.ref 0 0),(4,.osl 22 (eInt .i64).sz z.2.1.length),(5,.int .i64 z.2.2)],[(0,.blk 55 (v1 a0)),(22,.blk 3 (D.flat (z.2.1.map (eInt .i64).d)))]⟩) (fun z=>eN a0 z.1 z.2.1 z.2.2 = some r) (fun z=>z.1) rfl ?_ ?_
 ·
  rintro ⟨n0,v9,v10⟩ h
  cases n0 with
  | zero=>exact absurd h (by unfold eN; exact nofun)
  | succ n0 =>
   unfold eN at h
   refine aT ?_
   obtain ⟨x19,hx19,h⟩:=aR h
   refine aF (aA rfl (mvI rfl rfl rfl rfl) <|aA rfl (aM rfl rfl (lb rfl) (svI rfl) (sv (d:=.int _ (-1)) rfl) rfl hx19) <|aD ?_)
   refine aX (b:=_) rfl (fun hc20=>?_) (fun hc20=>?_)
   ·
    replace h:=bY h hc20
    refine aF (aA rfl (aN rfl rfl (lb rfl) (sv (d:=.osl _ _ _) rfl)) <|aA rfl (aH rfl rfl (lb rfl) (sv (d:=.osl _ _ _) rfl)) <|aA rfl (aH rfl rfl (lb rfl) (sv (d:=.bool true) rfl)) <|aD ?_)
    refine bD ?_
    refine bS ?_
    refine yU ?_
    obtain rfl:=Option.some.inj h
    refine ⟨.inr rfl,_,(.cons (sv rfl) (.cons (sv rfl) .nil)),(.cons (FDT (eInt .i64) rfl rfl) (.all _))⟩
   ·
    replace h:=bZ h hc20
    refine aU ?_
    refine aL ?_
    refine aT ?_
    obtain ⟨x21,hx21,h⟩:=aS h
    obtain ⟨x22,hx22,h⟩:=aS h
    obtain ⟨x23,hx23,h⟩:=aR h
    refine aF (aA rfl (faR 0 rfl rfl rfl Try.underlying55 rfl ti53 (lb rfl) rfl rfl) <|aA rfl (lrL la53 rfl rfl rfl rfl rfl (nle rfl) rfl) <|aA rfl (mvI rfl rfl rfl rfl) <|aA rfl (gO aP (cs:=q13) rfl rfl (lb rfl) Try.underlying53 ti78 (svL rfl) (svI rfl) hx21 rfl rfl) <|aA rfl (kJ (cs':=[.bool _]) rfl rfl (lb rfl) Try.underlying78 rfl ti4 (by decide) (sv (d:=.fptr q13) rfl) rfl) <|aA rfl (fT rfl rfl (lb rfl) Try.underlying4 ag4 ti4 (by decide) (sv (d:=.fptr [.bool _]) rfl) (nle rfl)) <|aA rfl (mvB rfl rfl rfl rfl) <|aC rfl rfl (.one rfl) rfl (by decide) (fun hb=>(aN rfl rfl (lb rfl) (sv (d:=.osl _ _ _) rfl))) <|aC rfl rfl (.one rfl) rfl (by decide) (fun hb=>(mvI rfl rfl rfl rfl)) <|aC rfl rfl (.one rfl) rfl (by decide) (fun hb=>(gS (r:=.bool x22) rfl rfl (lb rfl) cl81 (.cons (svc (d:=.osl _ _ _) rfl hb) (.cons (svcI rfl hb) .nil)) (.cons (FDT (eInt .i64) rfl rfl) (.all _)) rfl rfl (mB _ _ _ (gd_t hx22 hb)))) <|aA rfl (gD rfl rfl (lb rfl) (svB rfl) rfl rfl hx23) <|aD ?_)
    refine aX (b:=_) rfl (fun hc24=>?_) (fun hc24=>?_)
    ·
     replace h:=bY h hc24
     refine aF (aA rfl (aN rfl rfl (lb rfl) (sv (d:=.osl _ _ _) rfl)) <|aA rfl (aH rfl rfl (lb rfl) (sv (d:=.osl _ _ _) rfl)) <|aA rfl (aH rfl rfl (lb rfl) (sv (d:=.bool false) rfl)) <|aD ?_)
     refine bD ?_
     refine bS ?_
     refine yU ?_
     obtain rfl:=Option.some.inj h
     refine ⟨.inr rfl,_,(.cons (sv rfl) (.cons (sv rfl) .nil)),(.cons (FDT (eInt .i64) rfl rfl) (.all _))⟩
    ·
     replace h:=bZ h hc24
     refine aU ?_
     refine aL ?_
     obtain ⟨x25,hx25,h⟩:=aS h
     refine aF (aA rfl (aN rfl rfl (lb rfl) (sv (d:=.osl _ _ _) rfl)) <|aA rfl (mvI rfl rfl rfl rfl) <|aA rfl (jZ (eInt .i64).toEnc0 ([v10] : (List Int)) 23 rfl rfl (lb rfl) Try.underlying24 ti3 rfl (.cons (svI rfl) .nil) rfl rfl (by decide)) <|aA rfl (iX (eInt .i64).toEnc0 24 rfl rfl (lb rfl) Try.underlying24 ti3 rfl rfl rfl rfl rfl (nS (eInt .i64).toEnc0 rfl rfl rfl) hx25) <|aA rfl (aH rfl rfl (lb rfl) (sv (d:=.osl _ _ _) rfl)) <|aD ?_)
     obtain ⟨x26,hx26,h⟩:=aS h
     refine aF (aA rfl (faR 0 rfl rfl rfl Try.underlying55 rfl ti53 (lb rfl) rfl rfl) <|aA rfl (lrL la53 rfl rfl rfl rfl rfl (nle rfl) rfl) <|aA rfl (mvI rfl rfl rfl rfl) <|aA rfl (gO aP (cs:=q13) rfl rfl (lb rfl) Try.underlying53 ti78 (svL rfl) (svI rfl) hx26 rfl rfl) <|aA rfl (kJ (cs':=[.int _ _]) rfl rfl (lb rfl) Try.underlying78 rfl ti3 (by decide) (sv (d:=.fptr q13) rfl) rfl) <|aA rfl (fT rfl rfl (lb rfl) Try.underlying3 ag3 ti3 (by decide) (sv (d:=.fptr [.int _ _]) rfl) (nle rfl)) <|aA rfl (asI rfl rfl rfl rfl) <|aD ?_)
     refine aAE ?_
     refine ⟨rfl,(n0,x25,x26.Link),(fun i=>if i = 22 then 24 else i),⟨(.sames rfl rfl),(.cons (.blk rfl rfl rfl) (.cons (EntW.lst rfl) .nil)),bB [0,24] rfl (by decide),(fun i hi=>by first | rfl | (show (if _ then _ else _) = _; (repeat' split) <;> omega))⟩,?_,?_⟩
     exact h
     exact Nat.lt_succ_self _
 ·
  intro hgo
  refine aF (aA rfl (aH rfl rfl (lb rfl) (sv (d:=.nils) rfl)) <|aD ?_)
  refine aF (aA rfl (faR 1 rfl rfl rfl Try.underlying55 rfl ti3 (lb rfl) rfl rfl) <|aA rfl (aK (d:=.int _ _) rfl rfl (lb rfl) Try.underlying3 ag3 ti3 (by decide) (svR rfl) rfl (nle rfl) rfl) <|aA rfl (asI rfl rfl rfl rfl) <|aD ?_)
  refine aT (yI ?_)
  exact hgo _ ⟨(fuel,([] : (List Int)),a0.Free),(fun i=>if i = 22 then 73 else i),⟨(.s rfl rfl (.cons (.nilo rfl) (.sames rfl rfl))),(.cons (.blk rfl rfl rfl) (.cons (.nilb rfl) .nil)),bB [0,73] rfl (by decide),(fun i hi=>by first | rfl | (show (if _ then _ else _) = _; (repeat' split) <;> omega))⟩,h⟩

theorem mL (a0 : bE) (r : Int) (h : kC a0 = some r) : gL Try.prog 37 [.agg (v1 a0)] (.int .i64 r) := by
 refine dO (rs:=[.int .i64 r]) Try.func37 rfl Try.ntmps37 (nle rfl) rfl fun O hO=>?_
 show IWP _ _ _ _ ⟨[(0,.agg (v1 a0))],[]⟩ _
 unfold kC at h
 refine aF (aA rfl (eD (cs:=q10) 0 rfl rfl (lb rfl) rfl (svA q10 rfl) rfl rfl) <|aA rfl (aH rfl rfl (lb rfl) (sv (d:=.int _ 0) rfl)) <|aD ?_)
 refine aT ?_
 refine bA ?_
 obtain ⟨x1,hx1,h⟩:=aR h
 refine aF (aA rfl (faR 0 rfl rfl rfl Try.underlying55 rfl ti53 (lb rfl) rfl rfl) <|aA rfl (lrL la53 rfl rfl rfl rfl rfl (nle rfl) rfl) <|aA rfl (eQ aP (l:=a0.Cells) rfl rfl (lb rfl) Try.underlying53 (svL rfl)) <|aA rfl (aM rfl rfl (lb rfl) (svI rfl) (sv (d:=.int _ 64) rfl) rfl hx1) <|aA rfl (asB rfl rfl rfl rfl) <|aD ?_)
 refine aX (b:=_) rfl (fun hc2=>?_) (fun hc2=>?_)
 ·
  replace h:=bY h hc2
  refine aF (aA rfl (aH rfl rfl (lb rfl) (sv (d:=.int _ 5) rfl)) <|aD ?_)
  refine bD ?_
  refine eH ?_
  refine bS ?_
  obtain rfl:=Option.some.inj h
  refine ⟨.inr rfl,(.cons (sv rfl) .nil)⟩
 ·
  replace h:=bZ h hc2
  refine jM (α:=Bool) (fun z=>⟨[(1,.ref 0 0),(13,.bool z)],[(0,.blk 55 (v1 a0))]⟩) (fun z=>jT a0 z = some r) ?_ ?_
  ·
   obtain ⟨x40,hx40,h⟩:=aS h
   refine aF (aA rfl (lra q10 la55 rfl rfl rfl rfl rfl (nle rfl) rfl) <|aA rfl (faR 1 rfl rfl rfl Try.underlying55 rfl ti3 (lb rfl) rfl rfl) <|aA rfl (aK (d:=.int _ _) rfl rfl (lb rfl) Try.underlying3 ag3 ti3 (by decide) (svR rfl) rfl (nle rfl) rfl) <|aA rfl (cA (r:=.bool _) rfl rfl (lb rfl) cl52 (.cons (svA q10 rfl) (.cons (svI rfl) .nil)) rfl (lQ _ _ _ hx40)) <|aA rfl (eG rfl rfl (lb rfl) (svB rfl)) <|aA rfl (asB rfl rfl rfl rfl) <|aD ?_)
   refine aX (b:=_) rfl (fun hc41=>?_) (fun hc41=>?_)
   ·
    replace h:=bY h hc41
    refine aU ?_
    refine aL ⟨(!x40),(fun i=>i),⟨(.sames rfl rfl),(.cons (.blk rfl rfl rfl) .nil),bB [0] rfl (by decide),fun _ _=>rfl⟩,?_⟩
    exact h
   ·
    replace h:=bZ h hc41
    obtain ⟨x42,hx42,h⟩:=aS h
    refine aW (aA rfl (faR 0 rfl rfl rfl Try.underlying55 rfl ti53 (lb rfl) rfl rfl) <|aA rfl (lrL la53 rfl rfl rfl rfl rfl (nle rfl) rfl) <|aA rfl (lra q10 la55 rfl rfl rfl rfl rfl (nle rfl) rfl) <|aA rfl (wH rfl rfl (lb rfl) (.cons (svA q10 rfl) .nil)) <|aA rfl (cA (r:=.bool _) rfl rfl (lb rfl) cl53 (.cons (svL rfl) (.cons (sv (d:=.mv 54 [.agg q10]) rfl) .nil)) rfl (iD _ _ _ hx42)) <|aA rfl (asB rfl rfl rfl rfl) <|bL ?_)
    refine aL ⟨x42,(fun i=>i),⟨(.sames rfl rfl),(.cons (.blk rfl rfl rfl) .nil),bB [0] rfl (by decide),fun _ _=>rfl⟩,?_⟩
    exact h
  ·
   rintro v6 h
   unfold jT at h
   refine aX (b:=_) rfl (fun hc7=>?_) (fun hc7=>?_)
   ·
    replace h:=bY h hc7
    refine aF (aA rfl (aH rfl rfl (lb rfl) (sv (d:=.int _ 8) rfl)) <|aD ?_)
    refine bD ?_
    refine eH ?_
    refine bS ?_
    obtain rfl:=Option.some.inj h
    refine ⟨.inr rfl,(.cons (sv rfl) .nil)⟩
   ·
    replace h:=bZ h hc7
    obtain ⟨x8,hx8,h⟩:=aS h
    refine aF (aA rfl (faR 0 rfl rfl rfl Try.underlying55 rfl ti53 (lb rfl) rfl rfl) <|aA rfl (lrL la53 rfl rfl rfl rfl rfl (nle rfl) rfl) <|aA rfl (cA (r:=.bool _) rfl rfl (lb rfl) cl53 (.cons (svL rfl) (.cons (sv (d:=.fn 55 []) rfl) .nil)) rfl (iO _ _ hx8)) <|aA rfl (asB rfl rfl rfl rfl) <|aD ?_)
    refine aX (b:=_) rfl (fun hc9=>?_) (fun hc9=>?_)
    ·
     replace h:=bY h hc9
     refine aF (aA rfl (aH rfl rfl (lb rfl) (sv (d:=.int _ 4) rfl)) <|aD ?_)
     refine bD ?_
     refine eH ?_
     refine bS ?_
     obtain rfl:=Option.some.inj h
     refine ⟨.inr rfl,(.cons (sv rfl) .nil)⟩
    ·
     replace h:=bZ h hc9
     refine aU ?_
     refine bR ?_
     refine aL ?_
     refine aF (aA rfl (aH rfl rfl (lb rfl) (sv (d:=.int _ 0) rfl)) <|aD ?_)
     refine aT ?_
     refine aF (aA rfl (faR 0 rfl rfl rfl Try.underlying55 rfl ti53 (lb rfl) rfl rfl) <|aA rfl (lrL la53 rfl rfl rfl rfl rfl (nle rfl) rfl) <|aA rfl (eQ aP (l:=a0.Cells) rfl rfl (lb rfl) Try.underlying53 (svL rfl)) <|aA rfl (aN rfl rfl (lb rfl) (sv (d:=.int _ 0) rfl)) <|aD ?_)
     refine bA ?_
     refine cV (α:=Nat × Int × Int) (fun z=>⟨[(1,.ref 0 0),(3,.int .i64 z.2.1),(29,.slice false (a0.Cells.map aP.d)),(30,.int .i64 (a0.Cells.length : Int)),(31,.int .i64 z.2.2)],[(0,.blk 55 (v1 a0))]⟩) (fun z=>gH a0 z.1 z.2.1 z.2.2 = some r) (fun z=>z.1) (fuel,0,0) (fun i=>i) ⟨(.sames rfl rfl),(.cons (.blk rfl rfl rfl) .nil),bB [0] rfl (by decide),fun _ _=>rfl⟩ ?_ ?_
     ·exact h
     ·
      rintro ⟨n1,v17,v18⟩ h
      cases n1 with
      | zero=>exact absurd h (by unfold gH; exact nofun)
      | succ n1 =>
       unfold gH at h
       obtain ⟨x26,hx26,h⟩:=aR h
       refine aF (aA rfl (aM rfl rfl (lb rfl) (svI rfl) (svI rfl) rfl hx26) <|aD ?_)
       refine aT ?_
       refine aX (b:=_) rfl (fun hc27=>?_) (fun hc27=>?_)
       ·
        replace h:=bY h hc27
        refine aU ?_
        refine aL ?_
        refine aT ?_
        refine bA ?_
        obtain ⟨x28,hx28,h⟩:=aS h
        refine aF (aA rfl (gO aP (cs:=q13) rfl rfl (lb rfl) Try.underlying53 ti78 (svL rfl) (svI rfl) hx28 rfl rfl) <|aA rfl (jY (cs:=q13) rfl rfl (lb rfl) Try.underlying78 ag78 ti78 (by decide) (sv (d:=.fptr q13) rfl) (nle rfl) rfl) <|aA rfl (gE (cs:=q13) (cs':=[.bool false,.int .i64 0,.int .i64 0]) 1 rfl rfl (lb rfl) rfl ti78 rfl rfl (.all _)) <|aA rfl (stA q13 q13 ti78 rfl rfl rfl rfl rfl rfl rfl rfl (nle rfl) rfl) <|aD ?_)
        refine aF (aA rfl (faR 0 rfl rfl rfl Try.underlying78 rfl ti4 (lb rfl) rfl rfl) <|aA rfl (aK (d:=.bool _) rfl rfl (lb rfl) Try.underlying4 ag4 ti4 (by decide) (svR rfl) rfl (nle rfl) rfl) <|aD ?_)
        refine aX (b:=_) rfl (fun hc29=>?_) (fun hc29=>?_)
        ·
         replace h:=bY h hc29
         obtain ⟨x30,hx30,h⟩:=aR h
         refine aW (aA rfl (mvI rfl rfl rfl rfl) <|aA rfl (cQ rfl rfl (lb rfl) (svI rfl) (sv (d:=.int _ 1) rfl) rfl hx30) <|aA rfl (asI rfl rfl rfl rfl) <|bL ?_)
         refine bR ?_
         refine aL ?_
         obtain ⟨x31,hx31,h⟩:=aR h
         refine aW (aA rfl (cQ rfl rfl (lb rfl) (svI rfl) (sv (d:=.int _ 1) rfl) rfl hx31) <|aA rfl (mvI rfl rfl rfl rfl) <|bL ?_)
         refine aL ⟨(n1,x30,x31),(fun i=>i),⟨(.sames rfl rfl),(.cons (.blk rfl rfl rfl) .nil),bB [0] rfl (by decide),fun _ _=>rfl⟩,?_,?_⟩
         exact h
         exact Nat.lt_succ_self _
        ·
         replace h:=bZ h hc29
         refine aU ?_
         refine bR ?_
         refine aL ?_
         obtain ⟨x32,hx32,h⟩:=aR h
         refine aW (aA rfl (cQ rfl rfl (lb rfl) (svI rfl) (sv (d:=.int _ 1) rfl) rfl hx32) <|aA rfl (mvI rfl rfl rfl rfl) <|bL ?_)
         refine aL ⟨(n1,v17,x32),(fun i=>i),⟨(.sames rfl rfl),(.cons (.blk rfl rfl rfl) .nil),bB [0] rfl (by decide),fun _ _=>rfl⟩,?_,?_⟩
         exact h
         exact Nat.lt_succ_self _
       ·
        replace h:=bZ h hc27
        refine dD ?_
        refine bV ?_
        refine bV ?_
        refine dE ?_
        refine aL ?_
        obtain ⟨x33,hx33,h⟩:=aS h
        refine aF (aA rfl (lra q10 la55 rfl rfl rfl rfl rfl (nle rfl) rfl) <|aA rfl (cA (r:=.tuple [.slice _ _,.bool _]) rfl rfl (lb rfl) cl56 (.cons (svA q10 rfl) .nil) rfl (nJ _ _ hx33)) <|aA rfl (aN rfl rfl (lb rfl) (sv (d:=.tuple [.slice _ _,.bool _]) rfl)) <|aA rfl (dR (d:=.slice _ _) rfl rfl (lb rfl) (sv (d:=.tuple [.slice _ _,.bool _]) rfl) rfl) <|aA rfl (dR (d:=.bool _) rfl rfl (lb rfl) (sv (d:=.tuple [.slice _ _,.bool _]) rfl) rfl) <|aA rfl (aH rfl rfl (lb rfl) (svL rfl)) <|aA rfl (asB rfl rfl rfl rfl) <|aD ?_)
        refine aT ?_
        obtain ⟨x34,hx34,h⟩:=aR h
        obtain ⟨x35,hx35,h⟩:=aR h
        obtain ⟨x36,hx36,h⟩:=aR h
        obtain ⟨x37,hx37,h⟩:=aR h
        obtain ⟨x38,hx38,h⟩:=aR h
        refine aF (aA rfl (mvB rfl rfl rfl rfl) <|aA rfl (eG rfl rfl (lb rfl) (svB rfl)) <|aA rfl (mvB rfl rfl rfl rfl) <|aC rfl rfl (.one rfl) rfl (by decide) (fun hb=>(mvI rfl rfl rfl rfl)) <|aC rfl rfl (.one rfl) rfl (by decide) (fun hb=>(faR 2 rfl rfl rfl Try.underlying55 rfl ti3 (lb rfl) rfl rfl)) <|aC rfl rfl (.one rfl) rfl (by decide) (fun hb=>(aK (d:=.int _ _) rfl rfl (lb rfl) Try.underlying3 ag3 ti3 (by decide) (svcR rfl hb) rfl (nle rfl) rfl)) <|aC rfl rfl (.one rfl) rfl (by decide) (fun hb=>(aM rfl rfl (lb rfl) (svcI rfl hb) (svcI rfl hb) rfl hx34)) <|aA rfl (gD rfl rfl (lb rfl) (svB rfl) rfl rfl hx35) <|aA rfl (mvB rfl rfl rfl rfl) <|aC rfl rfl (.one rfl) rfl (by decide) (fun hb=>(mvI rfl rfl rfl rfl)) <|aC rfl rfl (.one rfl) rfl (by decide) (fun hb=>(mvL rfl rfl rfl rfl)) <|aC rfl rfl (.one rfl) rfl (by decide) (fun hb=>(eQ (eInt .i64) (l:=x33.1) rfl rfl (lb rfl) Try.underlying24 (svcL rfl hb))) <|aC rfl rfl (.one rfl) rfl (by decide) (fun hb=>(cQ rfl rfl (lb rfl) (svcI rfl hb) (svcI rfl hb) rfl hx36)) <|aC rfl rfl (.one rfl) rfl (by decide) (fun hb=>(faR 0 rfl rfl rfl Try.underlying55 rfl ti53 (lb rfl) rfl rfl)) <|aC rfl rfl (.one rfl) rfl (by decide) (fun hb=>(aK (d:=.slice _ _) rfl rfl (lb rfl) Try.underlying53 ag53 ti53 (by decide) (svcR rfl hb) rfl (nle rfl) rfl)) <|aC rfl rfl (.one rfl) rfl (by decide) (fun hb=>(eQ aP (l:=a0.Cells) rfl rfl (lb rfl) Try.underlying53 (svcL rfl hb))) <|aC rfl rfl (.one rfl) rfl (by decide) (fun hb=>(aM rfl rfl (lb rfl) (svcI rfl hb) (svcI rfl hb) rfl hx37)) <|aA rfl (gD rfl rfl (lb rfl) (svB rfl) rfl rfl hx38) <|aD ?_)
        refine aX (b:=_) rfl (fun hc39=>?_) (fun hc39=>?_)
        ·
         replace h:=bY h hc39
         refine aF (aA rfl (aH rfl rfl (lb rfl) (sv (d:=.int _ 10) rfl)) <|aD ?_)
         refine bD ?_
         refine bS ?_
         obtain rfl:=Option.some.inj h
         refine ⟨.inr rfl,(.cons (sv rfl) .nil)⟩
        ·
         replace h:=bZ h hc39
         refine aU ?_
         refine aL ?_
         refine aF (aA rfl (aH rfl rfl (lb rfl) (sv (d:=.int _ 0) rfl)) <|aD ?_)
         refine bD ?_
         obtain rfl:=Option.some.inj h
         refine ⟨.inr rfl,(.cons (sv rfl) .nil)⟩

theorem oX (a0 : bE) (r : (List Int)) (h : lN a0 = some r) : gL Try.prog 24 [.agg (v1 a0)] (.slice false (r.map (eInt .i64).d)):=by
 refine lY (rs:=[.slice false (r.map (eInt .i64).d)]) Try.func24 rfl Try.ntmps24 (nle rfl) rfl fun O hO=>?_
 show IWP _ _ _ _ ⟨[(0,.agg (v1 a0))],[]⟩ _
 unfold lN at h
 refine aF (aA rfl (eD (cs:=q10) 0 rfl rfl (lb rfl) rfl (svA q10 rfl) rfl rfl) <|aA rfl (aH rfl rfl (lb rfl) (sv (d:=.nils) rfl)) <|aD ?_)
 refine aT ?_
 obtain ⟨x1,hx1,h⟩:=aS h
 obtain ⟨x2,hx2,h⟩:=aR h
 refine aF (aA rfl (lra q10 la55 rfl rfl rfl rfl rfl (nle rfl) rfl) <|aA rfl (cA (r:=.int _ _) rfl rfl (lb rfl) cl37 (.cons (svA q10 rfl) .nil) rfl (mL _ _ hx1)) <|aA rfl (aM rfl rfl (lb rfl) (svI rfl) (sv (d:=.int _ 0) rfl) rfl hx2) <|aD ?_)
 refine aX (b:=_) rfl (fun hc3=>?_) (fun hc3=>?_)
 ·
  replace h:=bY h hc3
  refine aF (aA rfl (aH rfl rfl (lb rfl) (sv (d:=.nils) rfl)) <|aD ?_)
  refine bD ?_
  refine bS ?_
  obtain rfl:=Option.some.inj h
  refine ⟨.inr rfl,_,(.cons (sv rfl) .nil),(.cons (.nils _) .nil)⟩
 ·
  replace h:=bZ h hc3
  refine aU ?_
  refine aL ?_
  refine aF (aA rfl (aH rfl rfl (lb rfl) (sv (d:=.nils) rfl)) <|aD ?_)
  refine aT ?_
  refine aF (aA rfl (faR 0 rfl rfl rfl Try.underlying55 rfl ti53 (lb rfl) rfl rfl) <|aA rfl (lrL la53 rfl rfl rfl rfl rfl (nle rfl) rfl) <|aA rfl (eQ aP (l:=a0.Cells) rfl rfl (lb rfl) Try.underlying53 (svL rfl)) <|aA rfl (aN rfl rfl (lb rfl) (sv (d:=.int _ 0) rfl)) <|aD ?_)
  refine bA ?_
  refine cV (α:=Nat × (List Int) × Int) (fun z=>⟨[(3,.osl 21 (eInt .i64).sz z.2.1.length),(10,.slice false (a0.Cells.map aP.d)),(11,.int .i64 (a0.Cells.length : Int)),(12,.int .i64 z.2.2)],[(21,.blk 3 (D.flat (z.2.1.map (eInt .i64).d)))]⟩) (fun z=>gW a0 z.1 z.2.1 z.2.2 = some r) (fun z=>z.1) (fuel,([] : (List Int)),0) (fun i=>if i = 21 then 72 else i) ⟨(.cons (.nilo rfl) (.sames rfl rfl)),(.cons (.nilb rfl) .nil),bB [72] rfl (by decide),(fun i hi=>by first | rfl | (show (if _ then _ else _) = _; (repeat' split) <;> omega))⟩ ?_ ?_
  ·exact h
  ·
   rintro ⟨n0,v11,v12⟩ h
   cases n0 with
   | zero=>exact absurd h (by unfold gW; exact nofun)
   | succ n0 =>
    unfold gW at h
    obtain ⟨x20,hx20,h⟩:=aR h
    refine aF (aA rfl (aM rfl rfl (lb rfl) (svI rfl) (svI rfl) rfl hx20) <|aD ?_)
    refine aT ?_
    refine aX (b:=_) rfl (fun hc21=>?_) (fun hc21=>?_)
    ·
     replace h:=bY h hc21
     refine aU ?_
     refine aL ?_
     refine aT ?_
     refine bA ?_
     obtain ⟨x22,hx22,h⟩:=aS h
     refine aF (aA rfl (mvI rfl rfl rfl rfl) <|aA rfl (gO aP (cs:=q13) rfl rfl (lb rfl) Try.underlying53 ti78 (svL rfl) (svI rfl) hx22 rfl rfl) <|aA rfl (jY (cs:=q13) rfl rfl (lb rfl) Try.underlying78 ag78 ti78 (by decide) (sv (d:=.fptr q13) rfl) (nle rfl) rfl) <|aA rfl (gE (cs:=q13) (cs':=[.bool false,.int .i64 0,.int .i64 0]) 22 rfl rfl (lb rfl) rfl ti78 rfl rfl (.all _)) <|aA rfl (asI rfl rfl rfl rfl) <|aA rfl (stA q13 q13 ti78 rfl rfl rfl rfl rfl rfl rfl rfl (nle rfl) rfl) <|aD ?_)
     refine aF (aA rfl (faR 0 rfl rfl rfl Try.underlying78 rfl ti4 (lb rfl) rfl rfl) <|aA rfl (aK (d:=.bool _) rfl rfl (lb rfl) Try.underlying4 ag4 ti4 (by decide) (svR rfl) rfl (nle rfl) rfl) <|aD ?_)
     refine aX (b:=_) rfl (fun hc23=>?_) (fun hc23=>?_)
     ·
      replace h:=bY h hc23
      obtain ⟨x24,hx24,h⟩:=aS h
      refine aW (aA rfl (aN rfl rfl (lb rfl) (sv (d:=.osl _ _ _) rfl)) <|aA rfl (mvI rfl rfl rfl rfl) <|aA rfl (jZ (eInt .i64).toEnc0 ([v12] : (List Int)) 23 rfl rfl (lb rfl) Try.underlying24 ti3 rfl (.cons (svI rfl) .nil) rfl rfl (by decide)) <|aA rfl (iX (eInt .i64).toEnc0 24 rfl rfl (lb rfl) Try.underlying24 ti3 rfl rfl rfl rfl rfl (nS (eInt .i64).toEnc0 rfl rfl rfl) hx24) <|aA rfl (aH rfl rfl (lb rfl) (sv (d:=.osl _ _ _) rfl)) <|bL ?_)
      refine bR ?_
      refine aL ?_
      obtain ⟨x25,hx25,h⟩:=aR h
      refine aW (aA rfl (cQ rfl rfl (lb rfl) (svI rfl) (sv (d:=.int _ 1) rfl) rfl hx25) <|aA rfl (mvI rfl rfl rfl rfl) <|bL ?_)
      refine aL ⟨(n0,x24,x25),(fun i=>if i = 21 then 24 else i),⟨(.sames rfl rfl),(.cons (EntW.lst rfl) .nil),bB [24] rfl (by decide),(fun i hi=>by first | rfl | (show (if _ then _ else _) = _; (repeat' split) <;> omega))⟩,?_,?_⟩
      exact h
      exact Nat.lt_succ_self _
     ·
      replace h:=bZ h hc23
      refine aU ?_
      refine bR ?_
      refine aL ?_
      obtain ⟨x26,hx26,h⟩:=aR h
      refine aW (aA rfl (cQ rfl rfl (lb rfl) (svI rfl) (sv (d:=.int _ 1) rfl) rfl hx26) <|aA rfl (mvI rfl rfl rfl rfl) <|bL ?_)
      refine aL ⟨(n0,v11,x26),(fun i=>i),⟨(.sames rfl rfl),(.cons (EntW.lst rfl) .nil),bB [21] rfl (by decide),fun _ _=>rfl⟩,?_,?_⟩
      exact h
      exact Nat.lt_succ_self _
    ·
     replace h:=bZ h hc21
     refine dD ?_
     refine bV ?_
     refine bV ?_
     refine dE ?_
     refine aL ?_
     refine aF (aA rfl (aN rfl rfl (lb rfl) (sv (d:=.osl _ _ _) rfl)) <|aA rfl (aH rfl rfl (lb rfl) (sv (d:=.osl _ _ _) rfl)) <|aD ?_)
     refine bD ?_
     obtain rfl:=Option.some.inj h
     refine ⟨.inr rfl,_,(.cons (sv rfl) .nil),(.cons (FDT (eInt .i64) rfl rfl) .nil)⟩

theorem eU (a0 : Int) (a1 : Int) (a2 : Int) (a3 : (List aI)) (a4 : Int) (a5 : Int) (a6 : (List aG)) (a7 : Int) (a8 : (List Int)) (r : Int) (h : cD a0 a1 a2 a3 a4 a5 a6 a7 a8 = some r) : FnH Try.prog 28 [.ref 1000 0,.int .i64 a0] [(1000,.blk 60 (mixD aB.toEnc0 (w20 a1 a2 a3 a4 a5) a6 [.int .i64 a7,.osl 1001 (eInt .i64).sz a8.length])),(1001,.blk 3 (D.flat (a8.map (eInt .i64).d)))] (.int .i64 r) [(1000,.blk 60 (mixD aB.toEnc0 (w20 a1 a2 a3 a4 a5) a6 [.int .i64 a7,.osl 1001 (eInt .i64).sz a8.length])),(1001,.blk 3 (D.flat (a8.map (eInt .i64).d)))]:=by
 refine dS (rs:=[.int .i64 r]) Try.func28 rfl Try.ntmps28 (nle rfl) fun O hO=>?_
 show IWP _ _ _ _ ⟨[(0,.ref 1000 0),(1,.int .i64 a0)],[(1000,.blk 60 (mixD aB.toEnc0 (w20 a1 a2 a3 a4 a5) a6 [.int .i64 a7,.osl 1001 (eInt .i64).sz a8.length])),(1001,.blk 3 (D.flat (a8.map (eInt .i64).d)))]⟩ _
 unfold cD at h
 refine aF (aA rfl (aH rfl rfl (lb rfl) (sv (d:=.int _ 0) rfl)) <|aD ?_)
 refine aT ?_
 obtain ⟨x1,hx1,h⟩:=aS h
 refine aF (aA rfl (mvR rfl rfl rfl rfl) <|aA rfl (aJ rfl rfl (lb rfl) (svR rfl)) <|aA rfl (faR 2 rfl rfl rfl Try.underlying60 rfl ti55 (lb rfl) rfl rfl) <|aA rfl (lT aB.toEnc0 (cs:=q10) rfl rfl (lb rfl) Try.underlying55 ag55 ti55 (by decide) (svR rfl) rfl (nle rfl) (by rfl)) <|aA rfl (cA (r:=.slice _ _) rfl rfl (lb rfl) cl24 (.cons (svA q10 rfl) .nil) rfl (oX _ _ hx1)) <|aA rfl (eQ (eInt .i64) (l:=x1) rfl rfl (lb rfl) Try.underlying24 (svL rfl)) <|aA rfl (aN rfl rfl (lb rfl) (sv (d:=.int _ 0) rfl)) <|aD ?_)
 refine bA ?_
 refine cV (α:=Nat × Int) (fun z=>⟨[(0,.ref 1000 0),(1,.int .i64 a0),(11,.slice false (x1.map (eInt .i64).d)),(12,.int .i64 (x1.length : Int)),(13,.int .i64 z.2)],[(1000,.blk 60 (mixD aB.toEnc0 (w20 a1 a2 a3 a4 a5) a6 [.int .i64 a7,.osl 1001 (eInt .i64).sz a8.length])),(1001,.blk 3 (D.flat (a8.map (eInt .i64).d)))]⟩) (fun z=>eI a0 a6 x1 z.1 z.2 = some r) (fun z=>z.1) (fuel,0) (fun i=>i) ⟨(.sames rfl rfl),(.cons (EntW.mix aB rfl (SubC.of_eq rfl) (SubC.of_eq rfl) rfl rfl) (.cons (EntW.lst rfl) .nil)),bB [1000,1001] rfl (by decide),fun _ _=>rfl⟩ ?_ ?_
 ·exact h
 ·
  rintro ⟨n0,v11⟩ h
  cases n0 with
  | zero=>exact absurd h (by unfold eI; exact nofun)
  | succ n0 =>
   unfold eI at h
   obtain ⟨x21,hx21,h⟩:=aR h
   refine aF (aA rfl (aM rfl rfl (lb rfl) (svI rfl) (svI rfl) rfl hx21) <|aD ?_)
   refine aT ?_
   refine aX (b:=_) rfl (fun hc22=>?_) (fun hc22=>?_)
   ·
    replace h:=bY h hc22
    refine aU ?_
    refine aL ?_
    refine aT ?_
    refine bA ?_
    obtain ⟨x23,hx23,h⟩:=aS h
    refine aF (aA rfl (gO (eInt .i64) (cs:=[.int _ _]) rfl rfl (lb rfl) Try.underlying24 ti3 (svL rfl) (svI rfl) hx23 rfl rfl) <|aA rfl (fT rfl rfl (lb rfl) Try.underlying3 ag3 ti3 (by decide) (sv (d:=.fptr [.int _ _]) rfl) (nle rfl)) <|aA rfl (asI rfl rfl rfl rfl) <|aD ?_)
    obtain ⟨x24,hx24,h⟩:=aS h
    obtain ⟨hk25,h⟩:=jN h
    obtain ⟨x26,hx26,h⟩:=aS h
    obtain ⟨x27,hx27,h⟩:=aR h
    refine aF (aA rfl (mvR rfl rfl rfl rfl) <|aA rfl (mvI rfl rfl rfl rfl) <|aA rfl (aJ rfl rfl (lb rfl) (svR rfl)) <|aA rfl (faR 5 rfl rfl rfl Try.underlying60 rfl ti58 (lb rfl) rfl rfl) <|aA rfl (bX aB.toEnc0 rfl rfl (lb rfl) Try.underlying58 ti57 (svR rfl) hk25 (svI rfl) hx24) <|aA rfl (bJ rfl rfl (lb rfl) Try.underlying57 rfl ti3 (by decide) (svR rfl) (k':=0) rfl) <|aA rfl (bP aB.toEnc0 (b:=5) (k:=0) (d:=.int _ _) rfl rfl (lb rfl) Try.underlying3 ag3 ti3 (by decide) (svR rfl) rfl rfl hx26 (nle rfl) rfl) <|aA rfl (mvI rfl rfl rfl rfl) <|aA rfl (aM rfl rfl (lb rfl) (svI rfl) (svI rfl) rfl hx27) <|aD ?_)
    refine aX (b:=_) rfl (fun hc28=>?_) (fun hc28=>?_)
    ·
     replace h:=bY h hc28
     refine aF (aA rfl (mvI rfl rfl rfl rfl) <|aA rfl (asI rfl rfl rfl rfl) <|aD ?_)
     refine bD ?_
     refine eH ?_
     refine bS ?_
     refine bS ?_
     refine eH ?_
     refine bS ?_
     obtain rfl:=Option.some.inj h
     refine ⟨.inr rfl,(fun i=>i),⟨.nil,(.cons (EntW.mix aB rfl (SubC.of_eq rfl) (SubC.of_eq rfl) rfl rfl) (.cons (EntW.lst rfl) .nil)),bB [1000,1001] rfl (by decide),fun _ _=>rfl⟩,(.cons (sv rfl) .nil),rfl⟩
    ·
     replace h:=bZ h hc28
     refine aU ?_
     refine bR ?_
     refine aL ?_
     obtain ⟨x29,hx29,h⟩:=aR h
     refine aW (aA rfl (cQ rfl rfl (lb rfl) (svI rfl) (sv (d:=.int _ 1) rfl) rfl hx29) <|aA rfl (mvI rfl rfl rfl rfl) <|bL ?_)
     refine aL ⟨(n0,x29),(fun i=>i),⟨(.sames rfl rfl),(.cons (EntW.mix aB rfl (SubC.of_eq rfl) (SubC.of_eq rfl) rfl rfl) (.cons (EntW.lst rfl) .nil)),bB [1000,1001] rfl (by decide),fun _ _=>rfl⟩,?_,?_⟩
     exact h
     exact Nat.lt_succ_self _
   ·
    replace h:=bZ h hc22
    refine dD ?_
    refine bV ?_
    refine bV ?_
    refine dE ?_
    refine aL ?_
    refine aF (aA rfl (aH rfl rfl (lb rfl) (sv (d:=.int _ (-1)) rfl)) <|aD ?_)
    refine bD ?_
    obtain rfl:=Option.some.inj h
    refine ⟨.inr rfl,(fun i=>i),⟨.nil,(.cons (EntW.mix aB rfl (SubC.of_eq rfl) (SubC.of_eq rfl) rfl rfl) (.cons (EntW.lst rfl) .nil)),bB [1000,1001] rfl (by decide),fun _ _=>rfl⟩,(.cons (sv rfl) .nil),rfl⟩

theorem gN (a0 : Int) (a1 : Int) (a2 : (List aI)) (a3 : Int) (a4 : Int) (a5 : (List aG)) (a6 : Int) (a7 : (List Int)) (r : Int) (h : dI a0 a1 a2 a3 a4 a5 a6 a7 = some r) : FnH Try.prog 14 [.ref 1000 0] [(1000,.blk 60 (mixD aB.toEnc0 (w20 a0 a1 a2 a3 a4) a5 [.int .i64 a6,.osl 1001 (eInt .i64).sz a7.length])),(1001,.blk 3 (D.flat (a7.map (eInt .i64).d)))] (.int .i64 r) [(1000,.blk 60 (mixD aB.toEnc0 (w20 a0 a1 a2 a3 a4) a5 [.int .i64 a6,.osl 1001 (eInt .i64).sz a7.length])),(1001,.blk 3 (D.flat (a7.map (eInt .i64).d)))]:=by
 refine dS (rs:=[.int .i64 r]) Try.func14 rfl Try.ntmps14 (nle rfl) fun O hO=>?_
 show IWP _ _ _ _ ⟨[(0,.ref 1000 0)],[(1000,.blk 60 (mixD aB.toEnc0 (w20 a0 a1 a2 a3 a4) a5 [.int .i64 a6,.osl 1001 (eInt .i64).sz a7.length])),(1001,.blk 3 (D.flat (a7.map (eInt .i64).d)))]⟩ _
 unfold dI at h
 refine aF (aA rfl (aH rfl rfl (lb rfl) (sv (d:=.int _ 0) rfl)) <|aD ?_)
 refine aT ?_
 refine aF (aA rfl (mvR rfl rfl rfl rfl) <|aA rfl (lG rfl rfl (lb rfl) Try.underlying26 (svR rfl) (sv (d:=.nilp) rfl)) <|aD ?_)
 refine fD rfl rfl ?_
 refine aU ?_
 refine aL ?_
 refine aF (aA rfl (mvR rfl rfl rfl rfl) <|aA rfl (aJ rfl rfl (lb rfl) (svR rfl)) <|aA rfl (faR 2 rfl rfl rfl Try.underlying60 rfl ti55 (lb rfl) rfl rfl) <|aA rfl (faR 4 rfl rfl rfl Try.underlying55 rfl ti3 (lb rfl) rfl rfl) <|aA rfl (nO aB.toEnc0 (d:=.int _ _) rfl rfl (lb rfl) Try.underlying3 ag3 ti3 (by decide) (svR rfl) rfl (nle rfl) (by rfl)) <|aA rfl (asI rfl rfl rfl rfl) <|aD ?_)
 refine bD ?_
 obtain rfl:=Option.some.inj h
 refine ⟨.inr rfl,(fun i=>i),⟨.nil,(.cons (EntW.mix aB rfl (SubC.of_eq rfl) (SubC.of_eq rfl) rfl rfl) (.cons (EntW.lst rfl) .nil)),bB [1000,1001] rfl (by decide),fun _ _=>rfl⟩,(.cons (sv rfl) .nil),rfl⟩

theorem jG (a0 : Int) (a1 : Int) (a2 : Int) (a3 : (List aI)) (a4 : Int) (a5 : Int) (a6 : (List aG)) (a7 : Int) (a8 : (List Int)) (r : (Int × Int × (List aI) × Int × Int × (List aG) × Int × (List Int))) (h : fF a0 a1 a2 a3 a4 a5 a6 a7 a8 = some r) : FnH Try.prog 48 [.ref 1000 0,.int .i64 a0] [(1000,.blk 60 (mixD aB.toEnc0 (w20 a1 a2 a3 a4 a5) a6 [.int .i64 a7,.osl 1001 (eInt .i64).sz a8.length])),(1001,.blk 3 (D.flat (a8.map (eInt .i64).d)))] (retD []) [(1000,.blk 60 (mixD aB.toEnc0 (w20 r.1 r.2.1 r.2.2.1 r.2.2.2.1 r.2.2.2.2.1) r.2.2.2.2.2.1 [.int .i64 r.2.2.2.2.2.2.1,.osl 0 (eInt .i64).sz r.2.2.2.2.2.2.2.length])),(0,.blk 3 (D.flat (r.2.2.2.2.2.2.2.map (eInt .i64).d)))]:=by
 refine dS (rs:=[]) Try.func48 rfl Try.ntmps48 (nle rfl) fun O hO=>?_
 show IWP _ _ _ _ ⟨[(0,.ref 1000 0),(1,.int .i64 a0)],[(1000,.blk 60 (mixD aB.toEnc0 (w20 a1 a2 a3 a4 a5) a6 [.int .i64 a7,.osl 1001 (eInt .i64).sz a8.length])),(1001,.blk 3 (D.flat (a8.map (eInt .i64).d)))]⟩ _
 unfold fF at h
 obtain ⟨x1,hx1,h⟩:=aS h
 obtain ⟨hk2,h⟩:=jN h
 obtain ⟨x3,hx3,h⟩:=aS h
 refine aF (aA rfl (mvR rfl rfl rfl rfl) <|aA rfl (mvR rfl rfl rfl rfl) <|aA rfl (mvI rfl rfl rfl rfl) <|aA rfl (aJ rfl rfl (lb rfl) (svR rfl)) <|aA rfl (faR 5 rfl rfl rfl Try.underlying60 rfl ti58 (lb rfl) rfl rfl) <|aA rfl (bX aB.toEnc0 rfl rfl (lb rfl) Try.underlying58 ti57 (svR rfl) hk2 (svI rfl) hx1) <|aA rfl (bJ rfl rfl (lb rfl) Try.underlying57 rfl ti3 (by decide) (svR rfl) (k':=1) rfl) <|aA rfl (bP aB.toEnc0 (b:=5) (k:=1) (d:=.int _ _) rfl rfl (lb rfl) Try.underlying3 ag3 ti3 (by decide) (svR rfl) rfl rfl hx3 (nle rfl) rfl) <|?_)
 refine eR (S':=⟨[(0,.ref 1000 0),(1,.int .i64 a0),(5,.ref 1000 0),(12,.int .i64 x3.up)],[(1000,.blk 60 (mixD aB.toEnc0 (w20 a1 a2 a3 a4 a5) a6 [.int .i64 a7,.osl 1001 (eInt .i64).sz a8.length])),(1001,.blk 3 (D.flat (a8.map (eInt .i64).d)))]⟩) (fun i=>i) ⟨(.sames rfl rfl),(.cons (EntW.mix aB rfl (SubC.of_eq rfl) (SubC.of_eq rfl) rfl rfl) (.cons (EntW.lst rfl) .nil)),bB [1000,1001] rfl (by decide),fun _ _=>rfl⟩ ?_
 refine iI 1 0 rfl rfl rfl (by decide) cl41 Try.func41 rfl (.cons (svR rfl) (.cons (svI rfl) .nil)) Try.ntmps41 (nle rfl) rfl hO.semiL fun O1 hO1=>?_
 show IWP _ _ _ _ ⟨[(0,.ref 1000 0),(1,.int .i64 x3.up)],[(0,.kept 1 [.ref 1000 0,.int .i64 a0,.dead,.dead,.dead,.ref 1000 0,.dead,.dead,.dead,.dead,.dead,.dead,.int .i64 x3.up,.dead,.dead,.dead,.dead,.dead,.dead,.dead,.dead,.dead,.dead,.dead,.dead,.dead,.dead,.dead,.dead,.dead,.dead,.dead,.dead,.dead,.dead,.dead]),(1000,.blk 60 (mixD aB.toEnc0 (w20 a1 a2 a3 a4 a5) a6 [.int .i64 a7,.osl 1001 (eInt .i64).sz a8.length])),(1001,.blk 3 (D.flat (a8.map (eInt .i64).d)))]⟩ _
 refine aF (aA rfl (aH rfl rfl (lb rfl) (sv (d:=.nilp) rfl)) <|aD ?_)
 refine aT ?_
 obtain ⟨x4,hx4,h⟩:=aR h
 refine aF (aA rfl (mvI rfl rfl rfl rfl) <|aA rfl (aM rfl rfl (lb rfl) (svI rfl) (sv (d:=.int _ (-1)) rfl) rfl hx4) <|aD ?_)
 refine aX (b:=_) rfl (fun hc5=>?_) (fun hc5=>?_)
 ·
  replace h:=bY h hc5
  refine aF (aA rfl (mvR rfl rfl rfl rfl) <|aA rfl (aJ rfl rfl (lb rfl) (svR rfl)) <|aA rfl (faR 389 rfl rfl rfl Try.underlying60 rfl ti3 (lb rfl) rfl rfl) <|aA rfl (aH rfl rfl (lb rfl) (svR rfl)) <|aD ?_)
  refine bD ?_
  refine bS ?_
  refine ⟨.inr rfl,0,_,[.ref 1000 389],(.cons (sv rfl) .nil),rfl,rfl,⟨[(0,.ref 1000 0),(1,.int .i64 a0),(13,.ref 1000 389)],[(1000,.blk 60 (mixD aB.toEnc0 (w20 a1 a2 a3 a4 a5) a6 [.int .i64 a7,.osl 1001 (eInt .i64).sz a8.length])),(1001,.blk 3 (D.flat (a8.map (eInt .i64).d)))]⟩,(fun i=>i),⟨(.sames rfl rfl),(.cons (EntW.mix aB rfl (SubC.of_eq rfl) (SubC.of_eq rfl) rfl rfl) (.cons (EntW.lst rfl) .nil)),bB [1000,1001] rfl (by decide),fun _ _=>rfl⟩,?_⟩
  refine aA rfl (aH rfl rfl (lb rfl) (svR rfl)) <|aD ?_
  refine aT ?_
  refine bA ?_
  refine qO (vJ ?_)
  refine aT ?_
  obtain ⟨x6,hx6,h⟩:=aR h
  refine aF (aA rfl (mvR rfl rfl rfl rfl) <|aA rfl (aJ rfl rfl (lb rfl) (svR rfl)) <|aA rfl (fG aB.toEnc0 (d:=.int _ _) (n:=64) (k:=0) rfl rfl (lb rfl) Try.underlying3 ag3 ti3 (by decide) (svR rfl) rfl hk2 (by rfl) (nle rfl) (by rfl)) <|aA rfl (mvI rfl rfl rfl rfl) <|aA rfl (aM rfl rfl (lb rfl) (svI rfl) (svI rfl) rfl hx6) <|aD ?_)
  refine aX (b:=_) rfl (fun hc7=>?_) (fun hc7=>?_)
  ·
   replace h:=bY h hc7
   refine aU ?_
   refine aL ?_
   refine bA ?_
   obtain ⟨x8,hx8,h⟩:=aS h
   refine jF rfl [⟨[0],[],[(19,.ref 1000 0)],[]⟩,
    ⟨[4],[],[(20,.ref 1000 389)],[]⟩,
    ⟨[20],[],[(21,.ref 1000 389)],[]⟩,
    ⟨[21],[1000],[(22,.int .i64 a7)],[]⟩,
    ⟨[19],[],[(23,.ref 1000 0)],[]⟩,
    ⟨[23],[],[(24,.ref 1000 5)],[]⟩,
    ⟨[22,24],[],[(25,.ref 1000 (5 + (((a7 : Int).toNat) * aB.sz + 0)))],[]⟩,
    ⟨[25],[],[(26,.ref 1000 (5 + (((a7 : Int).toNat) * aB.sz + 3)))],[]⟩,
    ⟨[26],[],[(4,.ref 1000 (5 + (((a7 : Int).toNat) * aB.sz + 3)))],[]⟩] rfl ?_ (by kernel_rfl) ?_
   ·refine .cons (lop rfl rfl fun S hA=>(aN rfl rfl (lb rfl) (svaR hA rfl rfl))) ?_
    refine .cons (lop rfl rfl fun S hA=>(aN rfl rfl (lb rfl) (svaR hA rfl rfl))) ?_
    refine .cons (lop rfl rfl fun S hA=>(aJ rfl rfl (lb rfl) (svaR hA rfl rfl))) ?_
    refine .cons (lop rfl rfl fun S hA=>(fG aB.toEnc0 (d:=.int _ _) (n:=64) (k:=0) rfl rfl (lb rfl) Try.underlying3 ag3 ti3 (by decide) (svaR hA rfl rfl) (agi hA rfl rfl) hk2 (by rfl) (nle rfl) (by rfl))) ?_
    refine .cons (lop rfl rfl fun S hA=>(aJ rfl rfl (lb rfl) (svaR hA rfl rfl))) ?_
    refine .cons (lop rfl rfl fun S hA=>(aV rfl rfl (lb rfl) Try.underlying60 rfl ti58 (by decide) (svaR hA rfl rfl) (off':=5) rfl)) ?_
    refine .cons (lop rfl rfl fun S hA=>(bX aB.toEnc0 rfl rfl (lb rfl) Try.underlying58 ti57 (svaR hA rfl rfl) hk2 (svaI hA rfl rfl) hx8)) ?_
    refine .cons (lop rfl rfl fun S hA=>(bJ rfl rfl (lb rfl) Try.underlying57 rfl ti3 (by decide) (svaR hA rfl rfl) (k':=3) rfl)) ?_
    refine .cons (lop rfl rfl fun S hA=>(aH rfl rfl (lb rfl) (svaR hA rfl rfl))) ?_
    exact .nil
   refine bR ?_
   refine aL ?_
   refine vK (α:=Nat × Nat) (fun z=>⟨[(0,.ref 1000 0),(1,.int .i64 a0),(4,.ref 1000 (5 + (z.2 * aB.sz + 3)))],[(1000,.blk 60 (mixD aB.toEnc0 (w20 a1 a2 a3 a4 a5) a6 [.int .i64 a7,.osl 1001 (eInt .i64).sz a8.length])),(1001,.blk 3 (D.flat (a8.map (eInt .i64).d)))]⟩) (fun z=>dV a0 a1 a2 a3 a4 a5 a6 a7 a8 z.1 z.2 = some r) (fun z=>z.1) (fuel,(a7 : Int).toNat) (fun i=>i) ⟨(.sames rfl rfl),(.cons (EntW.mix aB rfl (SubC.of_eq rfl) (SubC.of_eq rfl) rfl rfl) (.cons (EntW.lst rfl) .nil)),bB [1000,1001] rfl (by decide),fun _ _=>rfl⟩ ?_ ?_
   ·exact h
   ·
    rintro ⟨n0,v14⟩ h
    cases n0 with
    | zero=>exact absurd h (by unfold dV; exact nofun)
    | succ n0 =>
     unfold dV at h
     refine aT ?_
     obtain ⟨x20,hx20,h⟩:=aS h
     obtain ⟨x21,hx21,h⟩:=aR h
     refine aF (aA rfl (mvR rfl rfl rfl rfl) <|aA rfl (aJ rfl rfl (lb rfl) (svR rfl)) <|aA rfl (bP aB.toEnc0 (b:=5) (k:=3) (d:=.int _ _) rfl rfl (lb rfl) Try.underlying3 ag3 ti3 (by decide) (svR rfl) rfl rfl hx20 (nle rfl) rfl) <|aA rfl (mvI rfl rfl rfl rfl) <|aA rfl (aM rfl rfl (lb rfl) (svI rfl) (svI rfl) rfl hx21) <|aD ?_)
     refine aX (b:=_) rfl (fun hc22=>?_) (fun hc22=>?_)
     ·
      replace h:=bY h hc22
      refine aU ?_
      refine aL ?_
      refine bA ?_
      obtain ⟨x23,hx23,h⟩:=aS h
      obtain ⟨x24,hx24,h⟩:=aS h
      refine jF rfl [⟨[0],[],[(19,.ref 1000 0)],[]⟩,
       ⟨[4],[],[(20,.ref 1000 (5 + (v14 * aB.sz + 3)))],[]⟩,
       ⟨[20],[],[(21,.ref 1000 (5 + (v14 * aB.sz + 3)))],[]⟩,
       ⟨[21],[1000],[(22,.int .i64 x23.next)],[]⟩,
       ⟨[19],[],[(23,.ref 1000 0)],[]⟩,
       ⟨[23],[],[(24,.ref 1000 5)],[]⟩,
       ⟨[22,24],[],[(25,.ref 1000 (5 + (((x23.next : Int).toNat) * aB.sz + 0)))],[]⟩,
       ⟨[25],[],[(26,.ref 1000 (5 + (((x23.next : Int).toNat) * aB.sz + 3)))],[]⟩,
       ⟨[26],[],[(4,.ref 1000 (5 + (((x23.next : Int).toNat) * aB.sz + 3)))],[]⟩] rfl ?_ (by kernel_rfl) ?_
      ·refine .cons (lop rfl rfl fun S hA=>(aN rfl rfl (lb rfl) (svaR hA rfl rfl))) ?_
       refine .cons (lop rfl rfl fun S hA=>(aN rfl rfl (lb rfl) (svaR hA rfl rfl))) ?_
       refine .cons (lop rfl rfl fun S hA=>(aJ rfl rfl (lb rfl) (svaR hA rfl rfl))) ?_
       refine .cons (lop rfl rfl fun S hA=>(bP aB.toEnc0 (b:=5) (k:=3) (d:=.int _ _) rfl rfl (lb rfl) Try.underlying3 ag3 ti3 (by decide) (svaR hA rfl rfl) (agi hA rfl rfl) rfl hx23 (nle rfl) rfl)) ?_
       refine .cons (lop rfl rfl fun S hA=>(aJ rfl rfl (lb rfl) (svaR hA rfl rfl))) ?_
       refine .cons (lop rfl rfl fun S hA=>(aV rfl rfl (lb rfl) Try.underlying60 rfl ti58 (by decide) (svaR hA rfl rfl) (off':=5) rfl)) ?_
       refine .cons (lop rfl rfl fun S hA=>(bX aB.toEnc0 rfl rfl (lb rfl) Try.underlying58 ti57 (svaR hA rfl rfl) hk2 (svaI hA rfl rfl) hx24)) ?_
       refine .cons (lop rfl rfl fun S hA=>(bJ rfl rfl (lb rfl) Try.underlying57 rfl ti3 (by decide) (svaR hA rfl rfl) (k':=3) rfl)) ?_
       refine .cons (lop rfl rfl fun S hA=>(aH rfl rfl (lb rfl) (svaR hA rfl rfl))) ?_
       exact .nil
      refine bR ?_
      refine aL ⟨(n0,(x23.next : Int).toNat),(fun i=>i),⟨(.sames rfl rfl),(.cons (EntW.mix aB rfl (SubC.of_eq rfl) (SubC.of_eq rfl) rfl rfl) (.cons (EntW.lst rfl) .nil)),bB [1000,1001] rfl (by decide),fun _ _=>rfl⟩,?_,?_⟩
      exact h
      exact Nat.lt_succ_self _
     ·
      replace h:=bZ h hc22
      refine dD ?_
      refine bV ?_
      refine bV ?_
      refine dE ?_
      refine aL ?_
      obtain ⟨x25,hx25,h⟩:=aS h
      obtain ⟨x26,hx26,h⟩:=aS h
      obtain ⟨x27,hx27,h⟩:=aS h
      obtain ⟨x28,hx28,h⟩:=aR h
      refine aW (aA rfl (mvR rfl rfl rfl rfl) <|aA rfl (mvR rfl rfl rfl rfl) <|aA rfl (mvI rfl rfl rfl rfl) <|aA rfl (aJ rfl rfl (lb rfl) (svR rfl)) <|aA rfl (faR 5 rfl rfl rfl Try.underlying60 rfl ti58 (lb rfl) rfl rfl) <|aA rfl (bX aB.toEnc0 rfl rfl (lb rfl) Try.underlying58 ti57 (svR rfl) hk2 (svI rfl) hx25) <|aA rfl (bJ rfl rfl (lb rfl) Try.underlying57 rfl ti3 (by decide) (svR rfl) (k':=3) rfl) <|aA rfl (bP aB.toEnc0 (b:=5) (k:=3) (d:=.int _ _) rfl rfl (lb rfl) Try.underlying3 ag3 ti3 (by decide) (svR rfl) rfl rfl hx26 (nle rfl) rfl) <|aA rfl (aJ rfl rfl (lb rfl) (svR rfl)) <|aA rfl (hB aB.toEnc0 (b:=5) (k:=3) (a':=(⟨x27.id,x27.up,x27.first,x26.next,x27.weight,x27.closed⟩ : aG)) rfl rfl ti3 (svR rfl) rfl (svI rfl) rfl rfl rfl rfl hx27 (nle rfl) rfl hx28) <|bL ?_)
      obtain rfl:=Option.some.inj h
      refine ⟨.inl rfl,(fun i=>if i = 0 then 1001 else i),⟨.nil,(.cons (EntW.mix aB rfl (SubC.of_eq rfl) (SubC.of_eq rfl) rfl rfl) (.cons (EntW.lst rfl) .nil)),bB [1000,1001] rfl (by decide),(fun i hi=>by first | rfl | (show (if _ then _ else _) = _; (repeat' split) <;> omega))⟩,.nil,rfl⟩
  ·
   replace h:=bZ h hc7
   refine dD ?_
   refine bV ?_
   refine bV ?_
   refine dE ?_
   refine aL ?_
   obtain ⟨x29,hx29,h⟩:=aS h
   obtain ⟨x30,hx30,h⟩:=aS h
   refine aW (aA rfl (mvR rfl rfl rfl rfl) <|aA rfl (mvR rfl rfl rfl rfl) <|aA rfl (mvI rfl rfl rfl rfl) <|aA rfl (aJ rfl rfl (lb rfl) (svR rfl)) <|aA rfl (faR 5 rfl rfl rfl Try.underlying60 rfl ti58 (lb rfl) rfl rfl) <|aA rfl (bX aB.toEnc0 rfl rfl (lb rfl) Try.underlying58 ti57 (svR rfl) hk2 (svI rfl) hx29) <|aA rfl (bJ rfl rfl (lb rfl) Try.underlying57 rfl ti3 (by decide) (svR rfl) (k':=3) rfl) <|aA rfl (bP aB.toEnc0 (b:=5) (k:=3) (d:=.int _ _) rfl rfl (lb rfl) Try.underlying3 ag3 ti3 (by decide) (svR rfl) rfl rfl hx30 (nle rfl) rfl) <|aA rfl (aJ rfl rfl (lb rfl) (svR rfl)) <|aA rfl (mH aB.toEnc0 (post:=q15) (post':=q15) (n:=64) (k:=0) rfl rfl ti3 (svR rfl) rfl (svI rfl) rfl rfl rfl hk2 (by rfl) (nle rfl) (by rfl)) <|bL ?_)
   obtain rfl:=Option.some.inj h
   refine ⟨.inl rfl,(fun i=>if i = 0 then 1001 else i),⟨.nil,(.cons (EntW.mix aB rfl (SubC.of_eq rfl) (SubC.of_eq rfl) rfl rfl) (.cons (EntW.lst rfl) .nil)),bB [1000,1001] rfl (by decide),(fun i hi=>by first | rfl | (show (if _ then _ else _) = _; (repeat' split) <;> omega))⟩,.nil,rfl⟩
 ·
  replace h:=bZ h hc5
  refine aU ?_
  refine aL ?_
  obtain ⟨x31,hx31,h⟩:=aS h
  refine aF (aA rfl (mvR rfl rfl rfl rfl) <|aA rfl (mvI rfl rfl rfl rfl) <|aA rfl (aJ rfl rfl (lb rfl) (svR rfl)) <|aA rfl (faR 5 rfl rfl rfl Try.underlying60 rfl ti58 (lb rfl) rfl rfl) <|aA rfl (bX aB.toEnc0 rfl rfl (lb rfl) Try.underlying58 ti57 (svR rfl) hk2 (svI rfl) hx31) <|aA rfl (bJ rfl rfl (lb rfl) Try.underlying57 rfl ti3 (by decide) (svR rfl) (k':=2) rfl) <|aA rfl (aH rfl rfl (lb rfl) (svR rfl)) <|aD ?_)
  refine bD ?_
  refine ⟨.inr rfl,0,_,[.ref 1000 (5 + (((x3.up : Int).toNat) * aB.sz + 2))],(.cons (sv rfl) .nil),rfl,rfl,⟨[(0,.ref 1000 0),(1,.int .i64 a0),(13,.ref 1000 (5 + (((x3.up : Int).toNat) * aB.sz + 2)))],[(1000,.blk 60 (mixD aB.toEnc0 (w20 a1 a2 a3 a4 a5) a6 [.int .i64 a7,.osl 1001 (eInt .i64).sz a8.length])),(1001,.blk 3 (D.flat (a8.map (eInt .i64).d)))]⟩,(fun i=>i),⟨(.sames rfl rfl),(.cons (EntW.mix aB rfl (SubC.of_eq rfl) (SubC.of_eq rfl) rfl rfl) (.cons (EntW.lst rfl) .nil)),bB [1000,1001] rfl (by decide),fun _ _=>rfl⟩,?_⟩
  refine aA rfl (aH rfl rfl (lb rfl) (svR rfl)) <|aD ?_
  refine aT ?_
  refine bA ?_
  refine qO (vJ ?_)
  refine aT ?_
  obtain ⟨x32,hx32,h⟩:=aS h
  obtain ⟨x33,hx33,h⟩:=aR h
  refine aF (aA rfl (mvR rfl rfl rfl rfl) <|aA rfl (aJ rfl rfl (lb rfl) (svR rfl)) <|aA rfl (bP aB.toEnc0 (b:=5) (k:=2) (d:=.int _ _) rfl rfl (lb rfl) Try.underlying3 ag3 ti3 (by decide) (svR rfl) rfl rfl hx32 (nle rfl) rfl) <|aA rfl (mvI rfl rfl rfl rfl) <|aA rfl (aM rfl rfl (lb rfl) (svI rfl) (svI rfl) rfl hx33) <|aD ?_)
  refine aX (b:=_) rfl (fun hc34=>?_) (fun hc34=>?_)
  ·
   replace h:=bY h hc34
   refine aU ?_
   refine aL ?_
   refine bA ?_
   obtain ⟨x35,hx35,h⟩:=aS h
   obtain ⟨x36,hx36,h⟩:=aS h
   refine jF rfl [⟨[0],[],[(19,.ref 1000 0)],[]⟩,
    ⟨[4],[],[(20,.ref 1000 (5 + (((x3.up : Int).toNat) * aB.sz + 2)))],[]⟩,
    ⟨[20],[],[(21,.ref 1000 (5 + (((x3.up : Int).toNat) * aB.sz + 2)))],[]⟩,
    ⟨[21],[1000],[(22,.int .i64 x35.first)],[]⟩,
    ⟨[19],[],[(23,.ref 1000 0)],[]⟩,
    ⟨[23],[],[(24,.ref 1000 5)],[]⟩,
    ⟨[22,24],[],[(25,.ref 1000 (5 + (((x35.first : Int).toNat) * aB.sz + 0)))],[]⟩,
    ⟨[25],[],[(26,.ref 1000 (5 + (((x35.first : Int).toNat) * aB.sz + 3)))],[]⟩,
    ⟨[26],[],[(4,.ref 1000 (5 + (((x35.first : Int).toNat) * aB.sz + 3)))],[]⟩] rfl ?_ (by kernel_rfl) ?_
   ·refine .cons (lop rfl rfl fun S hA=>(aN rfl rfl (lb rfl) (svaR hA rfl rfl))) ?_
    refine .cons (lop rfl rfl fun S hA=>(aN rfl rfl (lb rfl) (svaR hA rfl rfl))) ?_
    refine .cons (lop rfl rfl fun S hA=>(aJ rfl rfl (lb rfl) (svaR hA rfl rfl))) ?_
    refine .cons (lop rfl rfl fun S hA=>(bP aB.toEnc0 (b:=5) (k:=2) (d:=.int _ _) rfl rfl (lb rfl) Try.underlying3 ag3 ti3 (by decide) (svaR hA rfl rfl) (agi hA rfl rfl) rfl hx35 (nle rfl) rfl)) ?_
    refine .cons (lop rfl rfl fun S hA=>(aJ rfl rfl (lb rfl) (svaR hA rfl rfl))) ?_
    refine .cons (lop rfl rfl fun S hA=>(aV rfl rfl (lb rfl) Try.underlying60 rfl ti58 (by decide) (svaR hA rfl rfl) (off':=5) rfl)) ?_
    refine .cons (lop rfl rfl fun S hA=>(bX aB.toEnc0 rfl rfl (lb rfl) Try.underlying58 ti57 (svaR hA rfl rfl) hk2 (svaI hA rfl rfl) hx36)) ?_
    refine .cons (lop rfl rfl fun S hA=>(bJ rfl rfl (lb rfl) Try.underlying57 rfl ti3 (by decide) (svaR hA rfl rfl) (k':=3) rfl)) ?_
    refine .cons (lop rfl rfl fun S hA=>(aH rfl rfl (lb rfl) (svaR hA rfl rfl))) ?_
    exact .nil
   refine bR ?_
   refine aL ?_
   refine vK (α:=Nat × Nat) (fun z=>⟨[(0,.ref 1000 0),(1,.int .i64 a0),(4,.ref 1000 (5 + (z.2 * aB.sz + 3)))],[(1000,.blk 60 (mixD aB.toEnc0 (w20 a1 a2 a3 a4 a5) a6 [.int .i64 a7,.osl 1001 (eInt .i64).sz a8.length])),(1001,.blk 3 (D.flat (a8.map (eInt .i64).d)))]⟩) (fun z=>dU a0 a1 a2 a3 a4 a5 a6 a7 a8 z.1 z.2 = some r) (fun z=>z.1) (fuel,(x35.first : Int).toNat) (fun i=>i) ⟨(.sames rfl rfl),(.cons (EntW.mix aB rfl (SubC.of_eq rfl) (SubC.of_eq rfl) rfl rfl) (.cons (EntW.lst rfl) .nil)),bB [1000,1001] rfl (by decide),fun _ _=>rfl⟩ ?_ ?_
   ·exact h
   ·
    rintro ⟨n1,v42⟩ h
    cases n1 with
    | zero=>exact absurd h (by unfold dU; exact nofun)
    | succ n1 =>
     unfold dU at h
     refine aT ?_
     obtain ⟨x48,hx48,h⟩:=aS h
     obtain ⟨x49,hx49,h⟩:=aR h
     refine aF (aA rfl (mvR rfl rfl rfl rfl) <|aA rfl (aJ rfl rfl (lb rfl) (svR rfl)) <|aA rfl (bP aB.toEnc0 (b:=5) (k:=3) (d:=.int _ _) rfl rfl (lb rfl) Try.underlying3 ag3 ti3 (by decide) (svR rfl) rfl rfl hx48 (nle rfl) rfl) <|aA rfl (mvI rfl rfl rfl rfl) <|aA rfl (aM rfl rfl (lb rfl) (svI rfl) (svI rfl) rfl hx49) <|aD ?_)
     refine aX (b:=_) rfl (fun hc50=>?_) (fun hc50=>?_)
     ·
      replace h:=bY h hc50
      refine aU ?_
      refine aL ?_
      refine bA ?_
      obtain ⟨x51,hx51,h⟩:=aS h
      obtain ⟨x52,hx52,h⟩:=aS h
      refine jF rfl [⟨[0],[],[(19,.ref 1000 0)],[]⟩,
       ⟨[4],[],[(20,.ref 1000 (5 + (v42 * aB.sz + 3)))],[]⟩,
       ⟨[20],[],[(21,.ref 1000 (5 + (v42 * aB.sz + 3)))],[]⟩,
       ⟨[21],[1000],[(22,.int .i64 x51.next)],[]⟩,
       ⟨[19],[],[(23,.ref 1000 0)],[]⟩,
       ⟨[23],[],[(24,.ref 1000 5)],[]⟩,
       ⟨[22,24],[],[(25,.ref 1000 (5 + (((x51.next : Int).toNat) * aB.sz + 0)))],[]⟩,
       ⟨[25],[],[(26,.ref 1000 (5 + (((x51.next : Int).toNat) * aB.sz + 3)))],[]⟩,
       ⟨[26],[],[(4,.ref 1000 (5 + (((x51.next : Int).toNat) * aB.sz + 3)))],[]⟩] rfl ?_ (by kernel_rfl) ?_
      ·refine .cons (lop rfl rfl fun S hA=>(aN rfl rfl (lb rfl) (svaR hA rfl rfl))) ?_
       refine .cons (lop rfl rfl fun S hA=>(aN rfl rfl (lb rfl) (svaR hA rfl rfl))) ?_
       refine .cons (lop rfl rfl fun S hA=>(aJ rfl rfl (lb rfl) (svaR hA rfl rfl))) ?_
       refine .cons (lop rfl rfl fun S hA=>(bP aB.toEnc0 (b:=5) (k:=3) (d:=.int _ _) rfl rfl (lb rfl) Try.underlying3 ag3 ti3 (by decide) (svaR hA rfl rfl) (agi hA rfl rfl) rfl hx51 (nle rfl) rfl)) ?_
       refine .cons (lop rfl rfl fun S hA=>(aJ rfl rfl (lb rfl) (svaR hA rfl rfl))) ?_
       refine .cons (lop rfl rfl fun S hA=>(aV rfl rfl (lb rfl) Try.underlying60 rfl ti58 (by decide) (svaR hA rfl rfl) (off':=5) rfl)) ?_
       refine .cons (lop rfl rfl fun S hA=>(bX aB.toEnc0 rfl rfl (lb rfl) Try.underlying58 ti57 (svaR hA rfl rfl) hk2 (svaI hA rfl rfl) hx52)) ?_
       refine .cons (lop rfl rfl fun S hA=>(bJ rfl rfl (lb rfl) Try.underlying57 rfl ti3 (by decide) (svaR hA rfl rfl) (k':=3) rfl)) ?_
       refine .cons (lop rfl rfl fun S hA=>(aH rfl rfl (lb rfl) (svaR hA rfl rfl))) ?_
       exact .nil
      refine bR ?_
      refine aL ⟨(n1,(x51.next : Int).toNat),(fun i=>i),⟨(.sames rfl rfl),(.cons (EntW.mix aB rfl (SubC.of_eq rfl) (SubC.of_eq rfl) rfl rfl) (.cons (EntW.lst rfl) .nil)),bB [1000,1001] rfl (by decide),fun _ _=>rfl⟩,?_,?_⟩
      exact h
      exact Nat.lt_succ_self _
     ·
      replace h:=bZ h hc50
      refine dD ?_
      refine bV ?_
      refine bV ?_
      refine dE ?_
      refine aL ?_
      obtain ⟨x53,hx53,h⟩:=aS h
      obtain ⟨x54,hx54,h⟩:=aS h
      obtain ⟨x55,hx55,h⟩:=aS h
      obtain ⟨x56,hx56,h⟩:=aR h
      refine aW (aA rfl (mvR rfl rfl rfl rfl) <|aA rfl (mvR rfl rfl rfl rfl) <|aA rfl (mvI rfl rfl rfl rfl) <|aA rfl (aJ rfl rfl (lb rfl) (svR rfl)) <|aA rfl (faR 5 rfl rfl rfl Try.underlying60 rfl ti58 (lb rfl) rfl rfl) <|aA rfl (bX aB.toEnc0 rfl rfl (lb rfl) Try.underlying58 ti57 (svR rfl) hk2 (svI rfl) hx53) <|aA rfl (bJ rfl rfl (lb rfl) Try.underlying57 rfl ti3 (by decide) (svR rfl) (k':=3) rfl) <|aA rfl (bP aB.toEnc0 (b:=5) (k:=3) (d:=.int _ _) rfl rfl (lb rfl) Try.underlying3 ag3 ti3 (by decide) (svR rfl) rfl rfl hx54 (nle rfl) rfl) <|aA rfl (aJ rfl rfl (lb rfl) (svR rfl)) <|aA rfl (hB aB.toEnc0 (b:=5) (k:=3) (a':=(⟨x55.id,x55.up,x55.first,x54.next,x55.weight,x55.closed⟩ : aG)) rfl rfl ti3 (svR rfl) rfl (svI rfl) rfl rfl rfl rfl hx55 (nle rfl) rfl hx56) <|bL ?_)
      obtain rfl:=Option.some.inj h
      refine ⟨.inl rfl,(fun i=>if i = 0 then 1001 else i),⟨.nil,(.cons (EntW.mix aB rfl (SubC.of_eq rfl) (SubC.of_eq rfl) rfl rfl) (.cons (EntW.lst rfl) .nil)),bB [1000,1001] rfl (by decide),(fun i hi=>by first | rfl | (show (if _ then _ else _) = _; (repeat' split) <;> omega))⟩,.nil,rfl⟩
  ·
   replace h:=bZ h hc34
   refine dD ?_
   refine bV ?_
   refine bV ?_
   refine dE ?_
   refine aL ?_
   obtain ⟨x57,hx57,h⟩:=aS h
   obtain ⟨x58,hx58,h⟩:=aS h
   obtain ⟨x59,hx59,h⟩:=aS h
   obtain ⟨x60,hx60,h⟩:=aR h
   refine aW (aA rfl (mvR rfl rfl rfl rfl) <|aA rfl (mvR rfl rfl rfl rfl) <|aA rfl (mvI rfl rfl rfl rfl) <|aA rfl (aJ rfl rfl (lb rfl) (svR rfl)) <|aA rfl (faR 5 rfl rfl rfl Try.underlying60 rfl ti58 (lb rfl) rfl rfl) <|aA rfl (bX aB.toEnc0 rfl rfl (lb rfl) Try.underlying58 ti57 (svR rfl) hk2 (svI rfl) hx57) <|aA rfl (bJ rfl rfl (lb rfl) Try.underlying57 rfl ti3 (by decide) (svR rfl) (k':=3) rfl) <|aA rfl (bP aB.toEnc0 (b:=5) (k:=3) (d:=.int _ _) rfl rfl (lb rfl) Try.underlying3 ag3 ti3 (by decide) (svR rfl) rfl rfl hx58 (nle rfl) rfl) <|aA rfl (aJ rfl rfl (lb rfl) (svR rfl)) <|aA rfl (hB aB.toEnc0 (b:=5) (k:=2) (a':=(⟨x59.id,x59.up,x58.next,x59.next,x59.weight,x59.closed⟩ : aG)) rfl rfl ti3 (svR rfl) rfl (svI rfl) rfl rfl rfl rfl hx59 (nle rfl) rfl hx60) <|bL ?_)
   obtain rfl:=Option.some.inj h
   refine ⟨.inl rfl,(fun i=>if i = 0 then 1001 else i),⟨.nil,(.cons (EntW.mix aB rfl (SubC.of_eq rfl) (SubC.of_eq rfl) rfl rfl) (.cons (EntW.lst rfl) .nil)),bB [1000,1001] rfl (by decide),(fun i hi=>by first | rfl | (show (if _ then _ else _) = _; (repeat' split) <;> omega))⟩,.nil,rfl⟩

theorem lP (a0 : Int) (a1 : Int) (a2 : Int) (a3 : Int) (a4 : (List aI)) (a5 : Int) (a6 : Int) (a7 : (List aG)) (a8 : Int) (a9 : (List Int)) (r : (Int × Int × (List aI) × Int × Int × (List aG) × Int × (List Int))) (h : eY a0 a1 a2 a3 a4 a5 a6 a7 a8 a9 = some r) : FnH Try.prog 44 [.ref 1000 0,.int .i64 a0,.int .i64 a1] [(1000,.blk 60 (mixD aB.toEnc0 (w20 a2 a3 a4 a5 a6) a7 [.int .i64 a8,.osl 1001 (eInt .i64).sz a9.length])),(1001,.blk 3 (D.flat (a9.map (eInt .i64).d)))] (retD []) [(1000,.blk 60 (mixD aB.toEnc0 (w20 r.1 r.2.1 r.2.2.1 r.2.2.2.1 r.2.2.2.2.1) r.2.2.2.2.2.1 [.int .i64 r.2.2.2.2.2.2.1,.osl 0 (eInt .i64).sz r.2.2.2.2.2.2.2.length])),(0,.blk 3 (D.flat (r.2.2.2.2.2.2.2.map (eInt .i64).d)))]:=by
 refine dS (rs:=[]) Try.func44 rfl Try.ntmps44 (nle rfl) fun O hO=>?_
 show IWP _ _ _ _ ⟨[(0,.ref 1000 0),(1,.int .i64 a0),(2,.int .i64 a1)],[(1000,.blk 60 (mixD aB.toEnc0 (w20 a2 a3 a4 a5 a6) a7 [.int .i64 a8,.osl 1001 (eInt .i64).sz a9.length])),(1001,.blk 3 (D.flat (a9.map (eInt .i64).d)))]⟩ _
 unfold eY at h
 refine aF (aA rfl (mvR rfl rfl rfl rfl) <|aA rfl (mvI rfl rfl rfl rfl) <|?_)
 refine eR (S':=⟨[(0,.ref 1000 0),(1,.int .i64 a0),(2,.int .i64 a1),(7,.ref 1000 0),(8,.int .i64 a1)],[(1000,.blk 60 (mixD aB.toEnc0 (w20 a2 a3 a4 a5 a6) a7 [.int .i64 a8,.osl 1001 (eInt .i64).sz a9.length])),(1001,.blk 3 (D.flat (a9.map (eInt .i64).d)))]⟩) (fun i=>i) ⟨(.sames rfl rfl),(.cons (EntW.mix aB rfl (SubC.of_eq rfl) (SubC.of_eq rfl) rfl rfl) (.cons (EntW.lst rfl) .nil)),bB [1000,1001] rfl (by decide),fun _ _=>rfl⟩ ?_
 refine iI 1 0 rfl rfl rfl (by decide) cl41 Try.func41 rfl (.cons (svR rfl) (.cons (svI rfl) .nil)) Try.ntmps41 (nle rfl) rfl hO.semiL fun O1 hO1=>?_
 show IWP _ _ _ _ ⟨[(0,.ref 1000 0),(1,.int .i64 a1)],[(0,.kept 1 [.ref 1000 0,.int .i64 a0,.int .i64 a1,.dead,.dead,.dead,.dead,.ref 1000 0,.int .i64 a1,.dead,.dead,.dead,.dead,.dead,.dead,.dead,.dead,.dead,.dead,.dead,.dead,.dead,.dead,.dead,.dead,.dead,.dead,.dead,.dead]),(1000,.blk 60 (mixD aB.toEnc0 (w20 a2 a3 a4 a5 a6) a7 [.int .i64 a8,.osl 1001 (eInt .i64).sz a9.length])),(1001,.blk 3 (D.flat (a9.map (eInt .i64).d)))]⟩ _
 refine aF (aA rfl (aH rfl rfl (lb rfl) (sv (d:=.nilp) rfl)) <|aD ?_)
 refine aT ?_
 obtain ⟨x1,hx1,h⟩:=aR h
 refine aF (aA rfl (mvI rfl rfl rfl rfl) <|aA rfl (aM rfl rfl (lb rfl) (svI rfl) (sv (d:=.int _ (-1)) rfl) rfl hx1) <|aD ?_)
 refine aX (b:=_) rfl (fun hc2=>?_) (fun hc2=>?_)
 ·
  replace h:=bY h hc2
  refine aF (aA rfl (mvR rfl rfl rfl rfl) <|aA rfl (aJ rfl rfl (lb rfl) (svR rfl)) <|aA rfl (faR 389 rfl rfl rfl Try.underlying60 rfl ti3 (lb rfl) rfl rfl) <|aA rfl (aH rfl rfl (lb rfl) (svR rfl)) <|aD ?_)
  refine bD ?_
  refine bS ?_
  refine ⟨.inr rfl,0,_,[.ref 1000 389],(.cons (sv rfl) .nil),rfl,rfl,⟨[(0,.ref 1000 0),(1,.int .i64 a0),(2,.int .i64 a1),(9,.ref 1000 389)],[(1000,.blk 60 (mixD aB.toEnc0 (w20 a2 a3 a4 a5 a6) a7 [.int .i64 a8,.osl 1001 (eInt .i64).sz a9.length])),(1001,.blk 3 (D.flat (a9.map (eInt .i64).d)))]⟩,(fun i=>i),⟨(.sames rfl rfl),(.cons (EntW.mix aB rfl (SubC.of_eq rfl) (SubC.of_eq rfl) rfl rfl) (.cons (EntW.lst rfl) .nil)),bB [1000,1001] rfl (by decide),fun _ _=>rfl⟩,?_⟩
  refine aA rfl (aH rfl rfl (lb rfl) (svR rfl)) <|aD ?_
  obtain ⟨hk3,h⟩:=jN h
  obtain ⟨x4,hx4,h⟩:=aS h
  obtain ⟨x5,hx5,h⟩:=aS h
  obtain ⟨x6,hx6,h⟩:=aR h
  obtain ⟨x7,hx7,h⟩:=aS h
  obtain ⟨x8,hx8,h⟩:=aS h
  obtain ⟨x9,hx9,h⟩:=aR h
  refine lF rfl [⟨[0],[],[(10,.ref 1000 0)],[]⟩,
   ⟨[1],[],[(11,.int .i64 a0)],[]⟩,
   ⟨[0],[],[(12,.ref 1000 0)],[]⟩,
   ⟨[1],[],[(13,.int .i64 a0)],[]⟩,
   ⟨[2],[],[(14,.int .i64 a1)],[]⟩,
   ⟨[6],[],[(15,.ref 1000 389)],[]⟩,
   ⟨[15],[],[(16,.ref 1000 389)],[]⟩,
   ⟨[16],[1000],[(17,.int .i64 a8)],[]⟩,
   ⟨[10],[],[(18,.ref 1000 0)],[]⟩,
   ⟨[18],[],[(19,.ref 1000 5)],[]⟩,
   ⟨[11,19],[],[(20,.ref 1000 (5 + (((a0 : Int).toNat) * aB.sz + 0)))],[]⟩,
   ⟨[20],[],[(21,.ref 1000 (5 + (((a0 : Int).toNat) * aB.sz + 1)))],[]⟩,
   ⟨[14,21],[1000],[],[(1000,.blk 60 (mixD aB.toEnc0 (w20 a2 a3 a4 a5 a6) x6 [.int .i64 a8,.osl 1001 (eInt .i64).sz a9.length]))]⟩,
   ⟨[12],[],[(22,.ref 1000 0)],[]⟩,
   ⟨[22],[],[(23,.ref 1000 5)],[]⟩,
   ⟨[13,23],[],[(24,.ref 1000 (5 + (((a0 : Int).toNat) * aB.sz + 0)))],[]⟩,
   ⟨[24],[],[(25,.ref 1000 (5 + (((a0 : Int).toNat) * aB.sz + 3)))],[]⟩,
   ⟨[17,25],[1000],[],[(1000,.blk 60 (mixD aB.toEnc0 (w20 a2 a3 a4 a5 a6) x9 [.int .i64 a8,.osl 1001 (eInt .i64).sz a9.length]))]⟩] rfl ?_ (by kernel_rfl) ?_
  ·refine .cons (lop rfl rfl fun S hA=>(aN rfl rfl (lb rfl) (svaR hA rfl rfl))) ?_
   refine .cons (lop rfl rfl fun S hA=>(aN rfl rfl (lb rfl) (svaI hA rfl rfl))) ?_
   refine .cons (lop rfl rfl fun S hA=>(aN rfl rfl (lb rfl) (svaR hA rfl rfl))) ?_
   refine .cons (lop rfl rfl fun S hA=>(aN rfl rfl (lb rfl) (svaI hA rfl rfl))) ?_
   refine .cons (lop rfl rfl fun S hA=>(aN rfl rfl (lb rfl) (svaI hA rfl rfl))) ?_
   refine .cons (lop rfl rfl fun S hA=>(aN rfl rfl (lb rfl) (svaR hA rfl rfl))) ?_
   refine .cons (lop rfl rfl fun S hA=>(aJ rfl rfl (lb rfl) (svaR hA rfl rfl))) ?_
   refine .cons (lop rfl rfl fun S hA=>(fG aB.toEnc0 (d:=.int _ _) (n:=64) (k:=0) rfl rfl (lb rfl) Try.underlying3 ag3 ti3 (by decide) (svaR hA rfl rfl) (agi hA rfl rfl) hk3 (by rfl) (nle rfl) (by rfl))) ?_
   refine .cons (lop rfl rfl fun S hA=>(aJ rfl rfl (lb rfl) (svaR hA rfl rfl))) ?_
   refine .cons (lop rfl rfl fun S hA=>(aV rfl rfl (lb rfl) Try.underlying60 rfl ti58 (by decide) (svaR hA rfl rfl) (off':=5) rfl)) ?_
   refine .cons (lop rfl rfl fun S hA=>(bX aB.toEnc0 rfl rfl (lb rfl) Try.underlying58 ti57 (svaR hA rfl rfl) hk3 (svaI hA rfl rfl) hx4)) ?_
   refine .cons (lop rfl rfl fun S hA=>(bJ rfl rfl (lb rfl) Try.underlying57 rfl ti3 (by decide) (svaR hA rfl rfl) (k':=1) rfl)) ?_
   refine .cons (lop rfl rfl fun S hA=>(hB aB.toEnc0 (b:=5) (k:=1) (a':=(⟨x5.id,a1,x5.first,x5.next,x5.weight,x5.closed⟩ : aG)) rfl rfl ti3 (svaR hA rfl rfl) (agi hA rfl rfl) (svaI hA rfl rfl) rfl rfl rfl rfl hx5 (nle rfl) rfl hx6)) ?_
   refine .cons (lop rfl rfl fun S hA=>(aJ rfl rfl (lb rfl) (svaR hA rfl rfl))) ?_
   refine .cons (lop rfl rfl fun S hA=>(aV rfl rfl (lb rfl) Try.underlying60 rfl ti58 (by decide) (svaR hA rfl rfl) (off':=5) rfl)) ?_
   refine .cons (lop rfl rfl fun S hA=>(bX aB.toEnc0 rfl rfl (lb rfl) Try.underlying58 ti57 (svaR hA rfl rfl) (jH hx6 hk3) (svaI hA rfl rfl) hx7)) ?_
   refine .cons (lop rfl rfl fun S hA=>(bJ rfl rfl (lb rfl) Try.underlying57 rfl ti3 (by decide) (svaR hA rfl rfl) (k':=3) rfl)) ?_
   refine .cons (lop rfl rfl fun S hA=>(hB aB.toEnc0 (b:=5) (k:=3) (a':=(⟨x8.id,x8.up,x8.first,a8,x8.weight,x8.closed⟩ : aG)) rfl rfl ti3 (svaR hA rfl rfl) (agi hA rfl rfl) (svaI hA rfl rfl) rfl rfl rfl rfl hx8 (nle rfl) rfl hx9)) ?_
   exact .nil
  refine aW (aA rfl (mvR rfl rfl rfl rfl) <|aA rfl (mvI rfl rfl rfl rfl) <|aA rfl (aJ rfl rfl (lb rfl) (svR rfl)) <|aA rfl (mH aB.toEnc0 (post:=q15) (post':=q15) (n:=64) (k:=0) rfl rfl ti3 (svR rfl) rfl (svI rfl) rfl rfl rfl (jH hx9 (jH hx6 hk3)) (by rfl) (nle rfl) (by rfl)) <|bL ?_)
  obtain rfl:=Option.some.inj h
  refine ⟨.inl rfl,(fun i=>if i = 0 then 1001 else i),⟨.nil,(.cons (EntW.mix aB rfl (SubC.of_eq rfl) (SubC.of_eq rfl) rfl rfl) (.cons (EntW.lst rfl) .nil)),bB [1000,1001] rfl (by decide),(fun i hi=>by first | rfl | (show (if _ then _ else _) = _; (repeat' split) <;> omega))⟩,.nil,rfl⟩
 ·
  replace h:=bZ h hc2
  refine aU ?_
  refine aL ?_
  obtain ⟨x10,hx10,h⟩:=aS h
  obtain ⟨hk11,h⟩:=jN h
  refine aF (aA rfl (mvR rfl rfl rfl rfl) <|aA rfl (mvI rfl rfl rfl rfl) <|aA rfl (aJ rfl rfl (lb rfl) (svR rfl)) <|aA rfl (faR 5 rfl rfl rfl Try.underlying60 rfl ti58 (lb rfl) rfl rfl) <|aA rfl (bX aB.toEnc0 rfl rfl (lb rfl) Try.underlying58 ti57 (svR rfl) hk11 (svI rfl) hx10) <|aA rfl (bJ rfl rfl (lb rfl) Try.underlying57 rfl ti3 (by decide) (svR rfl) (k':=2) rfl) <|aA rfl (aH rfl rfl (lb rfl) (svR rfl)) <|aD ?_)
  refine bD ?_
  refine ⟨.inr rfl,0,_,[.ref 1000 (5 + (((a1 : Int).toNat) * aB.sz + 2))],(.cons (sv rfl) .nil),rfl,rfl,⟨[(0,.ref 1000 0),(1,.int .i64 a0),(2,.int .i64 a1),(9,.ref 1000 (5 + (((a1 : Int).toNat) * aB.sz + 2)))],[(1000,.blk 60 (mixD aB.toEnc0 (w20 a2 a3 a4 a5 a6) a7 [.int .i64 a8,.osl 1001 (eInt .i64).sz a9.length])),(1001,.blk 3 (D.flat (a9.map (eInt .i64).d)))]⟩,(fun i=>i),⟨(.sames rfl rfl),(.cons (EntW.mix aB rfl (SubC.of_eq rfl) (SubC.of_eq rfl) rfl rfl) (.cons (EntW.lst rfl) .nil)),bB [1000,1001] rfl (by decide),fun _ _=>rfl⟩,?_⟩
  refine aA rfl (aH rfl rfl (lb rfl) (svR rfl)) <|aD ?_
  obtain ⟨x12,hx12,h⟩:=aS h
  obtain ⟨x13,hx13,h⟩:=aS h
  obtain ⟨x14,hx14,h⟩:=aS h
  obtain ⟨x15,hx15,h⟩:=aR h
  obtain ⟨x16,hx16,h⟩:=aS h
  obtain ⟨x17,hx17,h⟩:=aS h
  obtain ⟨x18,hx18,h⟩:=aR h
  refine lF rfl [⟨[0],[],[(10,.ref 1000 0)],[]⟩,
   ⟨[1],[],[(11,.int .i64 a0)],[]⟩,
   ⟨[0],[],[(12,.ref 1000 0)],[]⟩,
   ⟨[1],[],[(13,.int .i64 a0)],[]⟩,
   ⟨[2],[],[(14,.int .i64 a1)],[]⟩,
   ⟨[6],[],[(15,.ref 1000 (5 + (((a1 : Int).toNat) * aB.sz + 2)))],[]⟩,
   ⟨[15],[],[(16,.ref 1000 (5 + (((a1 : Int).toNat) * aB.sz + 2)))],[]⟩,
   ⟨[16],[1000],[(17,.int .i64 x12.first)],[]⟩,
   ⟨[10],[],[(18,.ref 1000 0)],[]⟩,
   ⟨[18],[],[(19,.ref 1000 5)],[]⟩,
   ⟨[11,19],[],[(20,.ref 1000 (5 + (((a0 : Int).toNat) * aB.sz + 0)))],[]⟩,
   ⟨[20],[],[(21,.ref 1000 (5 + (((a0 : Int).toNat) * aB.sz + 1)))],[]⟩,
   ⟨[14,21],[1000],[],[(1000,.blk 60 (mixD aB.toEnc0 (w20 a2 a3 a4 a5 a6) x15 [.int .i64 a8,.osl 1001 (eInt .i64).sz a9.length]))]⟩,
   ⟨[12],[],[(22,.ref 1000 0)],[]⟩,
   ⟨[22],[],[(23,.ref 1000 5)],[]⟩,
   ⟨[13,23],[],[(24,.ref 1000 (5 + (((a0 : Int).toNat) * aB.sz + 0)))],[]⟩,
   ⟨[24],[],[(25,.ref 1000 (5 + (((a0 : Int).toNat) * aB.sz + 3)))],[]⟩,
   ⟨[17,25],[1000],[],[(1000,.blk 60 (mixD aB.toEnc0 (w20 a2 a3 a4 a5 a6) x18 [.int .i64 a8,.osl 1001 (eInt .i64).sz a9.length]))]⟩] rfl ?_ (by kernel_rfl) ?_
  ·refine .cons (lop rfl rfl fun S hA=>(aN rfl rfl (lb rfl) (svaR hA rfl rfl))) ?_
   refine .cons (lop rfl rfl fun S hA=>(aN rfl rfl (lb rfl) (svaI hA rfl rfl))) ?_
   refine .cons (lop rfl rfl fun S hA=>(aN rfl rfl (lb rfl) (svaR hA rfl rfl))) ?_
   refine .cons (lop rfl rfl fun S hA=>(aN rfl rfl (lb rfl) (svaI hA rfl rfl))) ?_
   refine .cons (lop rfl rfl fun S hA=>(aN rfl rfl (lb rfl) (svaI hA rfl rfl))) ?_
   refine .cons (lop rfl rfl fun S hA=>(aN rfl rfl (lb rfl) (svaR hA rfl rfl))) ?_
   refine .cons (lop rfl rfl fun S hA=>(aJ rfl rfl (lb rfl) (svaR hA rfl rfl))) ?_
   refine .cons (lop rfl rfl fun S hA=>(bP aB.toEnc0 (b:=5) (k:=2) (d:=.int _ _) rfl rfl (lb rfl) Try.underlying3 ag3 ti3 (by decide) (svaR hA rfl rfl) (agi hA rfl rfl) rfl hx12 (nle rfl) rfl)) ?_
   refine .cons (lop rfl rfl fun S hA=>(aJ rfl rfl (lb rfl) (svaR hA rfl rfl))) ?_
   refine .cons (lop rfl rfl fun S hA=>(aV rfl rfl (lb rfl) Try.underlying60 rfl ti58 (by decide) (svaR hA rfl rfl) (off':=5) rfl)) ?_
   refine .cons (lop rfl rfl fun S hA=>(bX aB.toEnc0 rfl rfl (lb rfl) Try.underlying58 ti57 (svaR hA rfl rfl) hk11 (svaI hA rfl rfl) hx13)) ?_
   refine .cons (lop rfl rfl fun S hA=>(bJ rfl rfl (lb rfl) Try.underlying57 rfl ti3 (by decide) (svaR hA rfl rfl) (k':=1) rfl)) ?_
   refine .cons (lop rfl rfl fun S hA=>(hB aB.toEnc0 (b:=5) (k:=1) (a':=(⟨x14.id,a1,x14.first,x14.next,x14.weight,x14.closed⟩ : aG)) rfl rfl ti3 (svaR hA rfl rfl) (agi hA rfl rfl) (svaI hA rfl rfl) rfl rfl rfl rfl hx14 (nle rfl) rfl hx15)) ?_
   refine .cons (lop rfl rfl fun S hA=>(aJ rfl rfl (lb rfl) (svaR hA rfl rfl))) ?_
   refine .cons (lop rfl rfl fun S hA=>(aV rfl rfl (lb rfl) Try.underlying60 rfl ti58 (by decide) (svaR hA rfl rfl) (off':=5) rfl)) ?_
   refine .cons (lop rfl rfl fun S hA=>(bX aB.toEnc0 rfl rfl (lb rfl) Try.underlying58 ti57 (svaR hA rfl rfl) (jH hx15 hk11) (svaI hA rfl rfl) hx16)) ?_
   refine .cons (lop rfl rfl fun S hA=>(bJ rfl rfl (lb rfl) Try.underlying57 rfl ti3 (by decide) (svaR hA rfl rfl) (k':=3) rfl)) ?_
   refine .cons (lop rfl rfl fun S hA=>(hB aB.toEnc0 (b:=5) (k:=3) (a':=(⟨x17.id,x17.up,x17.first,x12.first,x17.weight,x17.closed⟩ : aG)) rfl rfl ti3 (svaR hA rfl rfl) (agi hA rfl rfl) (svaI hA rfl rfl) rfl rfl rfl rfl hx17 (nle rfl) rfl hx18)) ?_
   exact .nil
  obtain ⟨x19,hx19,h⟩:=aS h
  obtain ⟨x20,hx20,h⟩:=aR h
  refine aW (aA rfl (mvR rfl rfl rfl rfl) <|aA rfl (mvI rfl rfl rfl rfl) <|aA rfl (aJ rfl rfl (lb rfl) (svR rfl)) <|aA rfl (hB aB.toEnc0 (b:=5) (k:=2) (a':=(⟨x19.id,x19.up,a0,x19.next,x19.weight,x19.closed⟩ : aG)) rfl rfl ti3 (svR rfl) rfl (svI rfl) rfl rfl rfl rfl hx19 (nle rfl) rfl hx20) <|bL ?_)
  obtain rfl:=Option.some.inj h
  refine ⟨.inl rfl,(fun i=>if i = 0 then 1001 else i),⟨.nil,(.cons (EntW.mix aB rfl (SubC.of_eq rfl) (SubC.of_eq rfl) rfl rfl) (.cons (EntW.lst rfl) .nil)),bB [1000,1001] rfl (by decide),(fun i hi=>by first | rfl | (show (if _ then _ else _) = _; (repeat' split) <;> omega))⟩,.nil,rfl⟩

theorem gB (a0 : Int) (a1 : Int) (a2 : Int) (a3 : Int) (a4 : (List aI)) (a5 : Int) (a6 : Int) (a7 : (List aG)) (a8 : Int) (a9 : (List Int)) (r : (Int × Int × (List aI) × Int × Int × (List aG) × Int × (List Int))) (h : dH a0 a1 a2 a3 a4 a5 a6 a7 a8 a9 = some r) : FnH Try.prog 46 [.ref 1000 0,.int .i64 a0,.int .i64 a1] [(1000,.blk 60 (mixD aB.toEnc0 (w20 a2 a3 a4 a5 a6) a7 [.int .i64 a8,.osl 1001 (eInt .i64).sz a9.length])),(1001,.blk 3 (D.flat (a9.map (eInt .i64).d)))] (retD []) [(1000,.blk 60 (mixD aB.toEnc0 (w20 r.1 r.2.1 r.2.2.1 r.2.2.2.1 r.2.2.2.2.1) r.2.2.2.2.2.1 [.int .i64 r.2.2.2.2.2.2.1,.osl 0 (eInt .i64).sz r.2.2.2.2.2.2.2.length])),(0,.blk 3 (D.flat (r.2.2.2.2.2.2.2.map (eInt .i64).d)))]:=by
 refine dS (rs:=[]) Try.func46 rfl Try.ntmps46 (nle rfl) fun O hO=>?_
 show IWP _ _ _ _ ⟨[(0,.ref 1000 0),(1,.int .i64 a0),(2,.int .i64 a1)],[(1000,.blk 60 (mixD aB.toEnc0 (w20 a2 a3 a4 a5 a6) a7 [.int .i64 a8,.osl 1001 (eInt .i64).sz a9.length])),(1001,.blk 3 (D.flat (a9.map (eInt .i64).d)))]⟩ _
 unfold dH at h
 obtain ⟨x1,hx1,h⟩:=aS h
 refine aF (aA rfl (mvR rfl rfl rfl rfl) <|aA rfl (mvI rfl rfl rfl rfl) <|aA rfl (bH (r':=.tuple []) (H1':=[(1000,.blk 60 (mixD aB.toEnc0 (w20 x1.1 x1.2.1 x1.2.2.1 x1.2.2.2.1 x1.2.2.2.2.1) x1.2.2.2.2.2.1 [.int .i64 x1.2.2.2.2.2.2.1,.osl 0 (eInt .i64).sz x1.2.2.2.2.2.2.2.length])),(0,.blk 3 (D.flat (x1.2.2.2.2.2.2.2.map (eInt .i64).d)))]) 0 [1000,1001] rfl rfl (lb rfl) cl48 (.cons (svR rfl) (.cons (svI rfl) .nil)) rfl rfl ⟨rfl,rfl,by decide,rfl,List.forall_mem_cons.2 ⟨⟨rfl,rfl,(eP aB rfl rfl rfl),(bF aB rfl rfl)⟩,List.forall_mem_cons.2 ⟨⟨rfl,rfl,(dY (eInt .i64) rfl),(aY (eInt .i64))⟩,List.forall_mem_nil _⟩⟩⟩ (jG _ _ _ _ _ _ _ _ _ _ hx1) rfl rfl (List.forall_mem_cons.2 ⟨⟨rfl,(bF aB rfl rfl)⟩,List.forall_mem_cons.2 ⟨⟨rfl,(aY (eInt .i64))⟩,List.forall_mem_nil _⟩⟩) (by simp only [List.map_cons,List.map_nil,Ent.ren,bC,bG,bK]; rfl)) <|aD ?_)
 obtain ⟨x2,hx2,h⟩:=aS h
 refine aW (aA rfl (mvR rfl rfl rfl rfl) <|aA rfl (mvI rfl rfl rfl rfl) <|aA rfl (mvI rfl rfl rfl rfl) <|aA rfl (bH (r':=.tuple []) (H1':=[(1000,.blk 60 (mixD aB.toEnc0 (w20 x2.1 x2.2.1 x2.2.2.1 x2.2.2.2.1 x2.2.2.2.2.1) x2.2.2.2.2.2.1 [.int .i64 x2.2.2.2.2.2.2.1,.osl 1 (eInt .i64).sz x2.2.2.2.2.2.2.2.length])),(1,.blk 3 (D.flat (x2.2.2.2.2.2.2.2.map (eInt .i64).d)))]) 1 [1000,0] rfl rfl (lb rfl) cl44 (.cons (svR rfl) (.cons (svI rfl) (.cons (svI rfl) .nil))) rfl rfl ⟨rfl,rfl,by decide,rfl,List.forall_mem_cons.2 ⟨⟨rfl,rfl,(eP aB rfl rfl rfl),(bF aB rfl rfl)⟩,List.forall_mem_cons.2 ⟨⟨rfl,rfl,(dY (eInt .i64) rfl),(aY (eInt .i64))⟩,List.forall_mem_nil _⟩⟩⟩ (lP _ _ _ _ _ _ _ _ _ _ _ hx2) rfl rfl (List.forall_mem_cons.2 ⟨⟨rfl,(bF aB rfl rfl)⟩,List.forall_mem_cons.2 ⟨⟨rfl,(aY (eInt .i64))⟩,List.forall_mem_nil _⟩⟩) (by simp only [List.map_cons,List.map_nil,Ent.ren,bC,bG,bK]; rfl)) <|bL ?_)
 obtain rfl:=Option.some.inj h
 refine ⟨.inl rfl,(fun i=>if i = 0 then 1 else i),⟨.nil,(.cons (EntW.mix aB rfl (SubC.of_eq rfl) (SubC.of_eq rfl) rfl rfl) (.cons (EntW.lst rfl) .nil)),bB [1000,1] rfl (by decide),(fun i hi=>by first | rfl | (show (if _ then _ else _) = _; (repeat' split) <;> omega))⟩,.nil,rfl⟩

theorem jK (a0 : (List aI)) (r : (List aI)) (h : cX a0 = some r) : FnH Try.prog 91 [.slice false (a0.map aP.d)] [] (.osl 0 aP.sz r.length) [(0,.blk 78 (D.flat (r.map aP.d)))]:=by
 refine dS (rs:=[.osl 0 aP.sz r.length]) Try.func91 rfl Try.ntmps91 (nle rfl) fun O hO=>?_
 show IWP _ _ _ _ ⟨[(0,.slice false (a0.map aP.d))],[]⟩ _
 unfold cX at h
 refine aF (aA rfl (aH rfl rfl (lb rfl) (sv (d:=.nils) rfl)) <|aD ?_)
 refine aT ?_
 refine aF (aA rfl (mvL rfl rfl rfl rfl) <|yQ rfl rfl rfl (by decide) Try.underlying53 (svL rfl) rfl <| fun bn1 hbn1 =>
  aD ?_)
 refine aX (b:=_) rfl (fun hc2=>?_) (fun hc2=>?_)
 ·
  replace h:=bothE_t h (mapE (hbn1 hc2))
  refine aF (aA rfl (aH rfl rfl (lb rfl) (sv (d:=.nils) rfl)) <|aD ?_)
  refine bD ?_
  refine bS ?_
  obtain rfl:=Option.some.inj h
  refine ⟨.inr rfl,(fun i=>if i = 0 then 50 else i),⟨.nil,(.cons (.nilb rfl) .nil),bB [50] rfl (by decide),(fun i hi=>by first | rfl | (show (if _ then _ else _) = _; (repeat' split) <;> omega))⟩,(.cons (svno rfl) .nil),rfl⟩
 ·
  replace h:=bothE_f h
  refine aU ?_
  refine aL ?_
  obtain ⟨x3,hx3,h⟩:=aS h
  refine aF (aA rfl (jZ aP.toEnc0 ([] : (List aI)) 0 rfl rfl (lb rfl) Try.underlying53 ti78 rfl .nil rfl rfl (by decide)) <|aA rfl (mvL rfl rfl rfl rfl) <|aA rfl (iX aP.toEnc0 1 rfl rfl (lb rfl) Try.underlying53 ti78 rfl rfl rfl rfl rfl (src_T aP (ys:=a0) (svL rfl)) hx3) <|aA rfl (aH rfl rfl (lb rfl) (sv (d:=.osl _ _ _) rfl)) <|aD ?_)
  refine bD ?_
  obtain rfl:=Option.some.inj h
  refine ⟨.inr rfl,(fun i=>if i = 0 then 1 else i),⟨.nil,(.cons (EntW.lst rfl) .nil),bB [1] rfl (by decide),(fun i hi=>by first | rfl | (show (if _ then _ else _) = _; (repeat' split) <;> omega))⟩,(.cons (sv rfl) .nil),rfl⟩

theorem lR (a0 : bE) (r : ((List aI) × Int × Int)) (h : hD a0 = some r) : FnH Try.prog 76 [.agg (v1 a0)] [] (.agg [.osl 0 aP.sz r.1.length,.int .i64 r.2.1,.int .i64 r.2.2]) [(0,.blk 78 (D.flat (r.1.map aP.d)))]:=by
 refine dS (rs:=[.agg [.osl 0 aP.sz r.1.length,.int .i64 r.2.1,.int .i64 r.2.2]]) Try.func76 rfl Try.ntmps76 (nle rfl) fun O hO=>?_
 show IWP _ _ _ _ ⟨[(0,.agg (v1 a0))],[]⟩ _
 unfold hD at h
 refine aF (aA rfl (eD (cs:=q10) 0 rfl rfl (lb rfl) rfl (svA q10 rfl) rfl rfl) <|aA rfl (gE (cs:=q14) (cs':=[.slice false (([] : List aI).map aP.d),.int .i64 0,.int .i64 0]) 1 rfl rfl (lb rfl) rfl ti55 rfl rfl (.cons (.nils _) (.all _))) <|aD ?_)
 obtain ⟨x1,hx1,h⟩:=aS h
 refine aF (aA rfl (faR 0 rfl rfl rfl Try.underlying55 rfl ti53 (lb rfl) rfl rfl) <|aA rfl (lrL la53 rfl rfl rfl rfl rfl (nle rfl) rfl) <|aA rfl (bH (r':=.osl 2 aP.sz x1.length) (H1':=[(2,.blk 78 (D.flat (x1.map aP.d)))]) 2 [] rfl rfl (lb rfl) cl91 (.cons (svL rfl) .nil) rfl rfl ⟨rfl,rfl,by decide,rfl,List.forall_mem_nil _⟩ (jK _ _ hx1) rfl rfl (List.forall_mem_cons.2 ⟨⟨rfl,(aY aP)⟩,List.forall_mem_nil _⟩) (by simp only [List.map_cons,List.map_nil,Ent.ren,bC,bG]; rfl)) <|aA rfl (faR 0 rfl rfl rfl Try.underlying55 rfl ti53 (lb rfl) rfl rfl) <|aA rfl (eZ (ds':=q11) rfl rfl ti53 (svR rfl) rfl (sv (d:=.osl _ _ _) rfl) rfl rfl rfl (nle rfl) rfl) <|aD ?_)
 refine aF (aA rfl (lra q11 la55 rfl rfl rfl rfl rfl (nle rfl) rfl) <|aA rfl (stA q11 q11 ti55 rfl rfl rfl rfl rfl rfl rfl rfl (nle rfl) rfl) <|aD ?_)
 refine bD ?_
 obtain rfl:=Option.some.inj h
 refine ⟨.inr rfl,(fun i=>if i = 0 then 2 else i),⟨.nil,(.cons (EntW.lst rfl) .nil),bB [2] rfl (by decide),(fun i hi=>by first | rfl | (show (if _ then _ else _) = _; (repeat' split) <;> omega))⟩,(.cons (rva la55 rfl rfl (nle rfl) rfl) .nil),rfl⟩

theorem nX (a0 : bE) (a1 : Int) (r : Bool) (h : jC a0 a1 = some r) : gL Try.prog 78 [.agg (v1 a0),.int .i64 a1] (.bool r):=by
 refine dO (rs:=[.bool r]) Try.func78 rfl Try.ntmps78 (nle rfl) rfl fun O hO=>?_
 show IWP _ _ _ _ ⟨[(0,.agg (v1 a0)),(1,.int .i64 a1)],[]⟩ _
 unfold jC at h
 refine aF (aA rfl (eD (cs:=q10) 0 rfl rfl (lb rfl) rfl (svA q10 rfl) rfl rfl) <|aA rfl (aH rfl rfl (lb rfl) (sv (d:=.bool false) rfl)) <|aD ?_)
 obtain ⟨x1,hx1,h⟩:=aR h
 obtain ⟨x2,hx2,h⟩:=aR h
 obtain ⟨x3,hx3,h⟩:=aR h
 obtain ⟨x4,hx4,h⟩:=aS h
 obtain ⟨x5,hx5,h⟩:=aR h
 refine aF (aA rfl (mvI rfl rfl rfl rfl) <|aA rfl (aM rfl rfl (lb rfl) (svI rfl) (sv (d:=.int _ 0) rfl) rfl hx1) <|aA rfl (mvB rfl rfl rfl rfl) <|aC rfl rfl (.one rfl) rfl (by decide) (fun hb=>(mvI rfl rfl rfl rfl)) <|aC rfl rfl (.one rfl) rfl (by decide) (fun hb=>(faR 0 rfl rfl rfl Try.underlying55 rfl ti53 (lb rfl) rfl rfl)) <|aC rfl rfl (.one rfl) rfl (by decide) (fun hb=>(aK (d:=.slice _ _) rfl rfl (lb rfl) Try.underlying53 ag53 ti53 (by decide) (svcR rfl hb) rfl (nle rfl) rfl)) <|aC rfl rfl (.one rfl) rfl (by decide) (fun hb=>(eQ aP (l:=a0.Cells) rfl rfl (lb rfl) Try.underlying53 (svcL rfl hb))) <|aC rfl rfl (.one rfl) rfl (by decide) (fun hb=>(aM rfl rfl (lb rfl) (svcI rfl hb) (svcI rfl hb) rfl hx2)) <|aA rfl (bO rfl rfl (lb rfl) (svB rfl) rfl rfl hx3) <|aA rfl (mvB rfl rfl rfl rfl) <|aC rfl rfl (.one rfl) rfl (by decide) (fun hb=>(faR 0 rfl rfl rfl Try.underlying55 rfl ti53 (lb rfl) rfl rfl)) <|aC rfl rfl (.one rfl) rfl (by decide) (fun hb=>(aK (d:=.slice _ _) rfl rfl (lb rfl) Try.underlying53 ag53 ti53 (by decide) (svcR rfl hb) rfl (nle rfl) rfl)) <|aC rfl rfl (.one rfl) rfl (by decide) (fun hb=>(mvI rfl rfl rfl rfl)) <|aC rfl rfl (.one rfl) rfl (by decide) (fun hb=>(gO aP (cs:=q13) rfl rfl (lb rfl) Try.underlying53 ti78 (svcL rfl hb) (svcI rfl hb) (gd_t hx4 hb) rfl rfl)) <|aC rfl rfl (.one rfl) rfl (by decide) (fun hb=>(kJ (cs':=[.bool _]) rfl rfl (lb rfl) Try.underlying78 rfl ti4 (by decide) (svc (d:=.fptr q13) rfl hb) rfl)) <|aC rfl rfl (.one rfl) rfl (by decide) (fun hb=>(fT rfl rfl (lb rfl) Try.underlying4 ag4 ti4 (by decide) (svc (d:=.fptr [.bool _]) rfl hb) (nle rfl))) <|aA rfl (bO rfl rfl (lb rfl) (svB rfl) rfl rfl hx5) <|aA rfl (asB rfl rfl rfl rfl) <|aD ?_)
 refine bD ?_
 obtain rfl:=Option.some.inj h
 refine ⟨.inr rfl,(.cons (sv rfl) .nil)⟩

theorem oY (a0 : bE) (a1 : Int) (r : (bE × Int)) (h : kT a0 a1 = some r) : gL Try.prog 49 [.agg (v1 a0),.int .i64 a1] (retD [.agg (v1 r.1),.int .i64 r.2]):=by
 refine lY (rs:=[.agg (v1 r.1),.int .i64 r.2]) Try.func49 rfl Try.ntmps49 (nle rfl) rfl fun O hO=>?_
 show IWP _ _ _ _ ⟨[(0,.agg (v1 a0)),(1,.int .i64 a1)],[]⟩ _
 unfold kT at h
 refine aF (aA rfl (eD (cs:=q10) 0 rfl rfl (lb rfl) rfl (svA q10 rfl) rfl rfl) <|aA rfl (gE (cs:=q14) (cs':=[.slice false (([] : List aI).map aP.d),.int .i64 0,.int .i64 0]) 1 rfl rfl (lb rfl) rfl ti55 rfl rfl (.cons (.nils _) (.all _))) <|aA rfl (aH rfl rfl (lb rfl) (sv (d:=.int _ 0) rfl)) <|aD ?_)
 obtain ⟨x1,hx1,h⟩:=aS h
 refine aF (aA rfl (lra q10 la55 rfl rfl rfl rfl rfl (nle rfl) rfl) <|aA rfl (bH (r':=.agg [.osl 2 aP.sz x1.1.length,.int .i64 x1.2.1,.int .i64 x1.2.2]) (H1':=[(2,.blk 78 (D.flat (x1.1.map aP.d)))]) 2 [] rfl rfl (lb rfl) cl76 (.cons (svA q10 rfl) .nil) rfl rfl ⟨rfl,rfl,by decide,rfl,List.forall_mem_nil _⟩ (lR _ _ hx1) rfl rfl (List.forall_mem_cons.2 ⟨⟨rfl,(aY aP)⟩,List.forall_mem_nil _⟩) (by simp only [List.map_cons,List.map_nil,Ent.ren,bC,bG]; rfl)) <|aA rfl (gE (cs:=q14) (cs':=[.slice false (([] : List aI).map aP.d),.int .i64 0,.int .i64 0]) 3 rfl rfl (lb rfl) rfl ti55 rfl rfl (.cons (.nils _) (.all _))) <|aA rfl (stA q11 q11 ti55 rfl rfl rfl rfl rfl rfl rfl rfl (nle rfl) rfl) <|aD ?_)
 refine aT ?_
 obtain ⟨x2,hx2,h⟩:=aS h
 refine aF (aA rfl (lra q10 la55 rfl rfl rfl rfl rfl (nle rfl) rfl) <|aA rfl (cA (r:=.int _ _) rfl rfl (lb rfl) cl37 (.cons (svA q10 rfl) .nil) rfl (mL _ _ hx2)) <|aA rfl (asI rfl rfl rfl rfl) <|aD ?_)
 obtain ⟨x3,hx3,h⟩:=aR h
 refine aF (aA rfl (mvI rfl rfl rfl rfl) <|aA rfl (aM rfl rfl (lb rfl) (svI rfl) (sv (d:=.int _ 0) rfl) rfl hx3) <|aD ?_)
 refine aX (b:=_) rfl (fun hc4=>?_) (fun hc4=>?_)
 ·
  replace h:=bY h hc4
  refine aF (aA rfl (lra q11 la55 rfl rfl rfl rfl rfl (nle rfl) rfl) <|aA rfl (mvI rfl rfl rfl rfl) <|aA rfl (stA q11 q11 ti55 rfl rfl rfl rfl rfl rfl rfl rfl (nle rfl) rfl) <|aA rfl (asI rfl rfl rfl rfl) <|aD ?_)
  refine bD ?_
  refine bS ?_
  obtain rfl:=Option.some.inj h
  refine ⟨.inr rfl,_,(.cons (rva la55 rfl rfl (nle rfl) rfl) (.cons (sv rfl) .nil)),(.cons (.agg (.cons (FDT aP rfl rfl) (.all _))) (.all _))⟩
 ·
  replace h:=bZ h hc4
  refine aU ?_
  refine aL ?_
  refine aT ?_
  obtain ⟨x5,hx5,h⟩:=aS h
  refine aF (aA rfl (lra q10 la55 rfl rfl rfl rfl rfl (nle rfl) rfl) <|aA rfl (mvI rfl rfl rfl rfl) <|aA rfl (cA (r:=.bool _) rfl rfl (lb rfl) cl78 (.cons (svA q10 rfl) (.cons (svI rfl) .nil)) rfl (nX _ _ _ hx5)) <|aA rfl (eG rfl rfl (lb rfl) (svB rfl)) <|aD ?_)
  refine aX (b:=_) rfl (fun hc6=>?_) (fun hc6=>?_)
  ·
   replace h:=bY h hc6
   refine aF (aA rfl (lra q11 la55 rfl rfl rfl rfl rfl (nle rfl) rfl) <|aA rfl (stA q11 q11 ti55 rfl rfl rfl rfl rfl rfl rfl rfl (nle rfl) rfl) <|aA rfl (aH rfl rfl (lb rfl) (sv (d:=.int _ 6) rfl)) <|aD ?_)
   refine bD ?_
   refine bS ?_
   obtain rfl:=Option.some.inj h
   refine ⟨.inr rfl,_,(.cons (rva la55 rfl rfl (nle rfl) rfl) (.cons (sv rfl) .nil)),(.cons (.agg (.cons (FDT aP rfl rfl) (.all _))) (.all _))⟩
  ·
   replace h:=bZ h hc6
   refine aU ?_
   refine aL ?_
   obtain ⟨x7,hx7,h⟩:=aS h
   obtain ⟨x8,hx8,h⟩:=aS h
   obtain ⟨x9,hx9,h⟩:=aR h
   refine aF (aA rfl (faR 0 rfl rfl rfl Try.underlying55 rfl ti53 (lb rfl) rfl rfl) <|aA rfl (aK (d:=.osl _ _ _) rfl rfl (lb rfl) Try.underlying53 ag53 ti53 (by decide) (svR rfl) rfl (nle rfl) rfl) <|aA rfl (mvI rfl rfl rfl rfl) <|aA rfl (faR 1 rfl rfl rfl Try.underlying55 rfl ti3 (lb rfl) rfl rfl) <|aA rfl (aK (d:=.int _ _) rfl rfl (lb rfl) Try.underlying3 ag3 ti3 (by decide) (svR rfl) rfl (nle rfl) rfl) <|aA rfl (cF (cs:=q13) rfl rfl (lb rfl) Try.underlying78 ti78 pl78 rfl (.cons (svI rfl) .nil) rfl) <|aA rfl (gP aP.toEnc0 rfl rfl (lb rfl) Try.underlying53 ti78 (sv (d:=.osl _ _ _) rfl) rfl (svI rfl) hx7) <|aA rfl (nB aP.toEnc0 (a':=(⟨false,0,x1.2.1⟩ : aI)) rfl rfl ti78 (svR rfl) rfl (svA q13 rfl) rfl rfl rfl hx8 (nle rfl) rfl hx9) <|aD ?_)
   refine aF (aA rfl (mvI rfl rfl rfl rfl) <|aA rfl (faR 1 rfl rfl rfl Try.underlying55 rfl ti3 (lb rfl) rfl rfl) <|aA rfl (eZ (ds':=q11) rfl rfl ti3 (svR rfl) rfl (svI rfl) rfl rfl rfl (nle rfl) rfl) <|aD ?_)
   obtain ⟨x10,hx10,h⟩:=aR h
   refine aF (aA rfl (faR 2 rfl rfl rfl Try.underlying55 rfl ti3 (lb rfl) rfl rfl) <|aA rfl (aK (d:=.int _ _) rfl rfl (lb rfl) Try.underlying3 ag3 ti3 (by decide) (svR rfl) rfl (nle rfl) rfl) <|aA rfl (cQ rfl rfl (lb rfl) (svI rfl) (sv (d:=.int _ 1) rfl) rfl hx10) <|aA rfl (faR 2 rfl rfl rfl Try.underlying55 rfl ti3 (lb rfl) rfl rfl) <|aA rfl (eZ (ds':=q11) rfl rfl ti3 (svR rfl) rfl (svI rfl) rfl rfl rfl (nle rfl) rfl) <|aD ?_)
   refine aF (aA rfl (lra q11 la55 rfl rfl rfl rfl rfl (nle rfl) rfl) <|aA rfl (stA q11 q11 ti55 rfl rfl rfl rfl rfl rfl rfl rfl (nle rfl) rfl) <|aA rfl (aH rfl rfl (lb rfl) (sv (d:=.int _ 0) rfl)) <|aD ?_)
   refine bD ?_
   obtain rfl:=Option.some.inj h
   refine ⟨.inr rfl,_,(.cons (rva la55 rfl rfl (nle rfl) rfl) (.cons (sv rfl) .nil)),(.cons (.agg (.cons (FDT aP rfl (jH hx9 rfl)) (.all _))) (.all _))⟩

theorem mA (a0 : Int) (a1 : Int) (r : Bool) (h : jA a0 a1 = some r) : gL Try.prog 51 [.int .i64 a0,.fptr [.int .i64 a1]] (.bool r):=by
 refine dO (rs:=[.bool r]) Try.func51 rfl Try.ntmps51 (nle rfl) rfl fun O hO=>?_
 show IWP _ _ _ _ ⟨[(0,.int .i64 a0),(1,.fptr [.int .i64 a1])],[]⟩ _
 unfold jA at h
 refine aF (aA rfl (aH rfl rfl (lb rfl) (sv (d:=.bool false) rfl)) <|aD ?_)
 obtain ⟨x1,hx1,h⟩:=aR h
 refine aF (aA rfl (mvI rfl rfl rfl rfl) <|aA rfl (fT rfl rfl (lb rfl) Try.underlying3 ag3 ti3 (by decide) (sv (d:=.fptr [.int _ _]) rfl) (nle rfl)) <|aA rfl (aM rfl rfl (lb rfl) (svI rfl) (svI rfl) rfl hx1) <|aA rfl (asB rfl rfl rfl rfl) <|aD ?_)
 refine bD ?_
 obtain rfl:=Option.some.inj h
 refine ⟨.inr rfl,(.cons (sv rfl) .nil)⟩

theorem kG (a0 : (List Int)) (a1 : Int) (r : Int) (h : fU a0 a1 = some r) : gL Try.prog 79 [.slice false (a0.map (eInt .i64).d),.fn 51 [.fptr [.int .i64 a1]]] (.int .i64 r):=by
 refine dO (rs:=[.int .i64 r]) Try.func79 rfl Try.ntmps79 (nle rfl) rfl fun O hO=>?_
 show IWP _ _ _ _ ⟨[(0,.slice false (a0.map (eInt .i64).d)),(1,.fn 51 [.fptr [.int .i64 a1]])],[]⟩ _
 unfold fU at h
 refine aF (aA rfl (aH rfl rfl (lb rfl) (sv (d:=.int _ 0) rfl)) <|aD ?_)
 refine aT ?_
 refine aF (aA rfl (mvL rfl rfl rfl rfl) <|aA rfl (eQ (eInt .i64) (l:=a0) rfl rfl (lb rfl) Try.underlying24 (svL rfl)) <|aA rfl (aN rfl rfl (lb rfl) (sv (d:=.int _ 0) rfl)) <|aD ?_)
 refine bA ?_
 refine cV (α:=Nat × Int) (fun z=>⟨[(0,.slice false (a0.map (eInt .i64).d)),(1,.fn 51 [.fptr [.int .i64 a1]]),(7,.int .i64 (a0.length : Int)),(8,.int .i64 z.2)],[]⟩) (fun z=>cK a0 a1 z.1 z.2 = some r) (fun z=>z.1) (fuel,0) (fun i=>i) ⟨(.sames rfl rfl),.nil,bB [] rfl (by decide),fun _ _=>rfl⟩ ?_ ?_
 ·exact h
 ·
  rintro ⟨n0,v7⟩ h
  cases n0 with
  | zero=>exact absurd h (by unfold cK; exact nofun)
  | succ n0 =>
   unfold cK at h
   obtain ⟨x14,hx14,h⟩:=aR h
   refine aF (aA rfl (aM rfl rfl (lb rfl) (svI rfl) (svI rfl) rfl hx14) <|aD ?_)
   refine aT ?_
   refine aX (b:=_) rfl (fun hc15=>?_) (fun hc15=>?_)
   ·
    replace h:=bY h hc15
    refine aU ?_
    refine aL ?_
    refine aT ?_
    refine bA ?_
    refine aF (aA rfl (mvI rfl rfl rfl rfl) <|aA rfl (asI rfl rfl rfl rfl) <|aD ?_)
    obtain ⟨x16,hx16,h⟩:=aS h
    obtain ⟨x17,hx17,h⟩:=aS h
    refine aF (aA rfl (aN rfl rfl (lb rfl) (sv (d:=.fn 51 [.fptr [.int _ _]]) rfl)) <|aA rfl (mvL rfl rfl rfl rfl) <|aA rfl (mvI rfl rfl rfl rfl) <|aA rfl (gO (eInt .i64) (cs:=[.int _ _]) rfl rfl (lb rfl) Try.underlying24 ti3 (svL rfl) (svI rfl) hx16 rfl rfl) <|aA rfl (fT rfl rfl (lb rfl) Try.underlying3 ag3 ti3 (by decide) (sv (d:=.fptr [.int _ _]) rfl) (nle rfl)) <|aA rfl (tR (r:=.bool _) rfl rfl (lb rfl) cl51 (sv (d:=.fn 51 [.fptr [.int _ _]]) rfl) (.cons (svI rfl) .nil) rfl (mA _ _ _ hx17)) <|aD ?_)
    refine aX (b:=_) rfl (fun hc18=>?_) (fun hc18=>?_)
    ·
     replace h:=bY h hc18
     refine aF (aA rfl (mvI rfl rfl rfl rfl) <|aA rfl (asI rfl rfl rfl rfl) <|aD ?_)
     refine bD ?_
     refine eH ?_
     refine bS ?_
     refine bS ?_
     refine eH ?_
     refine bS ?_
     obtain rfl:=Option.some.inj h
     refine ⟨.inr rfl,(.cons (sv rfl) .nil)⟩
    ·
     replace h:=bZ h hc18
     refine aU ?_
     refine bR ?_
     refine aL ?_
     obtain ⟨x19,hx19,h⟩:=aR h
     refine aW (aA rfl (cQ rfl rfl (lb rfl) (svI rfl) (sv (d:=.int _ 1) rfl) rfl hx19) <|aA rfl (mvI rfl rfl rfl rfl) <|bL ?_)
     refine aL ⟨(n0,x19),(fun i=>i),⟨(.sames rfl rfl),.nil,bB [] rfl (by decide),fun _ _=>rfl⟩,?_,?_⟩
     exact h
     exact Nat.lt_succ_self _
   ·
    replace h:=bZ h hc15
    refine dD ?_
    refine bV ?_
    refine bV ?_
    refine dE ?_
    refine aL ?_
    refine aF (aA rfl (aH rfl rfl (lb rfl) (sv (d:=.int _ (-1)) rfl)) <|aD ?_)
    refine bD ?_
    obtain rfl:=Option.some.inj h
    refine ⟨.inr rfl,(.cons (sv rfl) .nil)⟩

theorem gR (a0 : (List Int)) (a1 : Int) (r : (List Int)) (h : cL a0 a1 = some r) : FnH Try.prog 50 [.osl 1000 (eInt .i64).sz a0.length,.fn 51 [.ref 1001 0]] [(1000,.blk 3 (D.flat (a0.map (eInt .i64).d))),(1001,.blk 3 [.int .i64 a1])] (.osl 0 (eInt .i64).sz r.length) [(1001,.blk 3 [.int .i64 a1]),(0,.blk 3 (D.flat (r.map (eInt .i64).d)))]:=by
 refine dS (rs:=[.osl 0 (eInt .i64).sz r.length]) Try.func50 rfl Try.ntmps50 (nle rfl) fun O hO=>?_
 show IWP _ _ _ _ ⟨[(0,.osl 1000 (eInt .i64).sz a0.length),(1,.fn 51 [.ref 1001 0])],[(1000,.blk 3 (D.flat (a0.map (eInt .i64).d))),(1001,.blk 3 [.int .i64 a1])]⟩ _
 unfold cL at h
 refine aF (aA rfl (aH rfl rfl (lb rfl) (sv (d:=.nils) rfl)) <|aD ?_)
 obtain ⟨x1,hx1,h⟩:=aS h
 refine aF (aA rfl (aN rfl rfl (lb rfl) (sv (d:=.osl _ _ _) rfl)) <|aA rfl (aN rfl rfl (lb rfl) (sv (d:=.fn 51 [.ref _ _]) rfl)) <|aA rfl (gS (r:=.int .i64 x1) rfl rfl (lb rfl) cl79 (.cons (sv (d:=.osl _ _ _) rfl) (.cons (sv (d:=.fn 51 [.ref _ _]) rfl) .nil)) (.cons (FDT (eInt .i64) rfl rfl) (.cons (.fn (.cons (.ref rfl rfl (pV _) rfl) .nil)) .nil)) rfl rfl (kG _ _ _ hx1)) <|aA rfl (asI rfl rfl rfl rfl) <|aD ?_)
 refine aT ?_
 obtain ⟨x2,hx2,h⟩:=aR h
 refine aF (aA rfl (mvI rfl rfl rfl rfl) <|aA rfl (aM rfl rfl (lb rfl) (svI rfl) (sv (d:=.int _ (-1)) rfl) rfl hx2) <|aD ?_)
 refine aX (b:=_) rfl (fun hc3=>?_) (fun hc3=>?_)
 ·
  replace h:=bY h hc3
  refine aF (aA rfl (aN rfl rfl (lb rfl) (sv (d:=.osl _ _ _) rfl)) <|aA rfl (aH rfl rfl (lb rfl) (sv (d:=.osl _ _ _) rfl)) <|aD ?_)
  refine bD ?_
  refine bS ?_
  obtain rfl:=Option.some.inj h
  refine ⟨.inr rfl,(fun i=>if i = 0 then 1000 else i),⟨.nil,(.cons (.blk rfl rfl rfl) (.cons (EntW.lst rfl) .nil)),bB [1001,1000] rfl (by decide),(fun i hi=>by first | rfl | (show (if _ then _ else _) = _; (repeat' split) <;> omega))⟩,(.cons (sv rfl) .nil),rfl⟩
 ·
  replace h:=bZ h hc3
  refine aU ?_
  refine aL ?_
  refine aT ?_
  obtain ⟨x4,hx4,h⟩:=aR h
  refine aF (aA rfl (mvI rfl rfl rfl rfl) <|aA rfl (cQ rfl rfl (lb rfl) (svI rfl) (sv (d:=.int _ 1) rfl) rfl hx4) <|aA rfl (asI rfl rfl rfl rfl) <|aD ?_)
  refine bA ?_
  refine cV (α:=Nat × (List Int) × Int × Int) (fun z=>⟨[(0,.osl 1000 (eInt .i64).sz z.2.1.length),(1,.fn 51 [.ref 1001 0]),(5,.int .i64 z.2.2.1),(6,.int .i64 z.2.2.2)],[(1000,.blk 3 (D.flat (z.2.1.map (eInt .i64).d))),(1001,.blk 3 [.int .i64 a1])]⟩) (fun z=>bW a1 z.1 z.2.1 z.2.2.1 z.2.2.2 = some r) (fun z=>z.1) (fuel,a0,x1,x4) (fun i=>i) ⟨(.sames rfl rfl),(.cons (EntW.lst rfl) (.cons (.blk rfl rfl rfl) .nil)),bB [1000,1001] rfl (by decide),fun _ _=>rfl⟩ ?_ ?_
  ·exact h
  ·
   rintro ⟨n0,v17,v18,v19⟩ h
   cases n0 with
   | zero=>exact absurd h (by unfold bW; exact nofun)
   | succ n0 =>
    unfold bW at h
    refine aT ?_
    obtain ⟨x32,hx32,h⟩:=aR h
    refine aF (aA rfl (mvI rfl rfl rfl rfl) <|aA rfl (aN rfl rfl (lb rfl) (sv (d:=.osl _ _ _) rfl)) <|aA rfl (fE rfl rfl (lb rfl) Try.underlying24 (sv (d:=.osl _ _ _) rfl)) <|aA rfl (aM rfl rfl (lb rfl) (svI rfl) (svI rfl) rfl hx32) <|aD ?_)
    refine aX (b:=_) rfl (fun hc33=>?_) (fun hc33=>?_)
    ·
     replace h:=bY h hc33
     refine aU ?_
     refine aL ?_
     refine aT ?_
     refine bA ?_
     obtain ⟨x34,hx34,h⟩:=aS h
     obtain ⟨x35,hx35,h⟩:=aS h
     refine aF (aA rfl (aN rfl rfl (lb rfl) (sv (d:=.osl _ _ _) rfl)) <|aA rfl (mvI rfl rfl rfl rfl) <|aA rfl (gP (eInt .i64).toEnc0 rfl rfl (lb rfl) Try.underlying24 ti3 (sv (d:=.osl _ _ _) rfl) rfl (svI rfl) hx34) <|aA rfl (fO (eInt .i64).toEnc0 (d:=.int _ _) rfl rfl (lb rfl) Try.underlying3 ag3 ti3 (by decide) (svR rfl) rfl hx35 (nle rfl) rfl) <|aA rfl (asI rfl rfl rfl rfl) <|aD ?_)
     obtain ⟨x36,hx36,h⟩:=aS h
     refine aF (aA rfl (aN rfl rfl (lb rfl) (sv (d:=.fn 51 [.ref _ _]) rfl)) <|aA rfl (mvI rfl rfl rfl rfl) <|aA rfl (wM (r:=.bool x36) rfl rfl (lb rfl) cl51 (sv (d:=.fn 51 [.ref _ _]) rfl) (.cons (svI rfl) .nil) (.k (.cons (.ref rfl rfl (pV _) rfl) .nil)) rfl rfl (mA _ _ _ hx36)) <|aA rfl (eG rfl rfl (lb rfl) (svB rfl)) <|aD ?_)
     refine aX (b:=_) rfl (fun hc37=>?_) (fun hc37=>?_)
     ·
      replace h:=bY h hc37
      obtain ⟨x38,hx38,h⟩:=aS h
      obtain ⟨x39,hx39,h⟩:=aS h
      obtain ⟨x40,hx40,h⟩:=aR h
      refine aF (aA rfl (aN rfl rfl (lb rfl) (sv (d:=.osl _ _ _) rfl)) <|aA rfl (mvI rfl rfl rfl rfl) <|aA rfl (mvI rfl rfl rfl rfl) <|aA rfl (gP (eInt .i64).toEnc0 rfl rfl (lb rfl) Try.underlying24 ti3 (sv (d:=.osl _ _ _) rfl) rfl (svI rfl) hx38) <|aA rfl (nB (eInt .i64).toEnc0 (a':=x35) rfl rfl ti3 (svR rfl) rfl (svI rfl) rfl rfl rfl hx39 (nle rfl) rfl hx40) <|aD ?_)
      obtain ⟨x41,hx41,h⟩:=aR h
      refine aW (aA rfl (mvI rfl rfl rfl rfl) <|aA rfl (cQ rfl rfl (lb rfl) (svI rfl) (sv (d:=.int _ 1) rfl) rfl hx41) <|aA rfl (asI rfl rfl rfl rfl) <|bL ?_)
      refine bR ?_
      refine aL ?_
      obtain ⟨x42,hx42,h⟩:=aR h
      refine aW (aA rfl (mvI rfl rfl rfl rfl) <|aA rfl (cQ rfl rfl (lb rfl) (svI rfl) (sv (d:=.int _ 1) rfl) rfl hx42) <|aA rfl (asI rfl rfl rfl rfl) <|bL ?_)
      refine aL ⟨(n0,x40,x41,x42),(fun i=>i),⟨(.cons (.same (congrArg (D.osl _ _) (jH hx40 rfl).symm) rfl) (.sames rfl rfl)),(.cons (EntW.lst rfl) (.cons (.blk rfl rfl rfl) .nil)),bB [1000,1001] rfl (by decide),fun _ _=>rfl⟩,?_,?_⟩
      exact h
      exact Nat.lt_succ_self _
     ·
      replace h:=bZ h hc37
      refine aU ?_
      refine bR ?_
      refine aL ?_
      obtain ⟨x43,hx43,h⟩:=aR h
      refine aW (aA rfl (mvI rfl rfl rfl rfl) <|aA rfl (cQ rfl rfl (lb rfl) (svI rfl) (sv (d:=.int _ 1) rfl) rfl hx43) <|aA rfl (asI rfl rfl rfl rfl) <|bL ?_)
      refine aL ⟨(n0,v17,v18,x43),(fun i=>i),⟨(.sames rfl rfl),(.cons (EntW.lst rfl) (.cons (.blk rfl rfl rfl) .nil)),bB [1000,1001] rfl (by decide),fun _ _=>rfl⟩,?_,?_⟩
      exact h
      exact Nat.lt_succ_self _
    ·
     replace h:=bZ h hc33
     refine dD ?_
     refine bV ?_
     refine bV ?_
     refine dE ?_
     refine aL ?_
     obtain ⟨x44,hx44,h⟩:=aS h
     refine aF (aA rfl (aN rfl rfl (lb rfl) (sv (d:=.osl _ _ _) rfl)) <|aA rfl (mvI rfl rfl rfl rfl) <|uS (eInt .i64).toEnc0 rfl rfl rfl rfl (by decide) rfl rfl Try.underlying24 ti3 rfl rfl rfl rfl rfl (fun S1 h9=>sv ((h9 37 (by decide)).trans rfl)) hx44 <|aD ?_)
     obtain ⟨x45,hx45,h⟩:=aS h
     refine aF (aA rfl (aN rfl rfl (lb rfl) (sv (d:=.osl _ _ _) rfl)) <|aA rfl (mvI rfl rfl rfl rfl) <|aA rfl (wE (eInt .i64).toEnc0 rfl rfl (lb rfl) Try.underlying24 ti3 (sv (d:=.osl _ _ _) rfl) rfl (Nat.le_trans (cut_le hx44) (Nat.le_of_eq rfl)) (svI rfl) hx45) <|aA rfl (aH rfl rfl (lb rfl) (sv (d:=.osl _ _ _) rfl)) <|aD ?_)
     refine bD ?_
     obtain rfl:=Option.some.inj h
     refine ⟨.inr rfl,(fun i=>if i = 0 then 1000 else i),⟨.nil,(.cons (.blk rfl rfl rfl) (.cons (EntW.lst rfl) .nil)),bB [1001,1000] rfl (by decide),(fun i hi=>by first | rfl | (show (if _ then _ else _) = _; (repeat' split) <;> omega))⟩,(.cons (sv rfl) .nil),rfl⟩
end Go.Proofs.Ytdnjagkihgjpcaa
