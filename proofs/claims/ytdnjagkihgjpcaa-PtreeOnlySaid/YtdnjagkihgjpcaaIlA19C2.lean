/-
  A part of the proof: rules and plain facts. No condition.
-/
import Derived.Test.YtdnjagkihgjpcaaProg
import Derived.KernelRfl
import Derived.Test.YtdnjagkihgjpcaaIlMb
import Derived.Test.YtdnjagkihgjpcaaIlIt19
import Derived.Test.YtdnjagkihgjpcaaIlA19C1
set_option linter.all false
set_option maxRecDepth 8000
set_option maxHeartbeats 2000000
open Go Go.IL Go.Fn Go.Proofs
namespace Go.Proofs.Ytdnjagkihgjpcaa
theorem ti24 : TI Try.prog 24 (some (.slice none 0 0)) 1 24:=by unfold TI; kernel_rfl
theorem ti26 : TI Try.prog 26 (some (.pointer none)) 1 8:=by unfold TI; kernel_rfl
theorem ti72 : TI Try.prog 72 (some (.agg #[.int .i64 0,.int .i64 0,.bool false])) 3 24:=by unfold TI; kernel_rfl
theorem ag24 : iM Try.prog 24 = false:=by kernel_rfl
theorem ag26 : iM Try.prog 26 = false:=by kernel_rfl
theorem pl72 : ∀ w,(Array.mapM (m:=Sem) (fun (f : Field)=>Functor.map (Prod.mk f.offset) (sizeOf f.type)) (fieldsOf Try.prog 72)).run Try.prog w = .ok #[(0,1),(1,1),(2,1)] w:=fun w=>by kernel_rfl
theorem cl28 : bQ Try.prog 28:=⟨Try.f28,Try.func28,rfl,rfl⟩
theorem cl29 : bQ Try.prog 29:=⟨Try.f29,Try.func29,rfl,rfl⟩
theorem cl40 : bQ Try.prog 40:=⟨Try.f40,Try.func40,rfl,rfl⟩
theorem cl45 : bQ Try.prog 45:=⟨Try.f45,Try.func45,rfl,rfl⟩
theorem cl46 : bQ Try.prog 46:=⟨Try.f46,Try.func46,rfl,rfl⟩
theorem cl47 : bQ Try.prog 47:=⟨Try.f47,Try.func47,rfl,rfl⟩
theorem cl49 : bQ Try.prog 49:=⟨Try.f49,Try.func49,rfl,rfl⟩
theorem cl50 : bQ Try.prog 50:=⟨Try.f50,Try.func50,rfl,rfl⟩
theorem cl77 : bQ Try.prog 77:=⟨Try.f77,Try.func77,rfl,rfl⟩
def la78:=LA.mk Try.underlying78 ag78 ti78 (by decide)


theorem kI (a0 : Int) (a1 : Int) (a2 : Int) (a3 : (List aI)) (a4 : Int) (a5 : Int) (a6 : (List aG)) (a7 : Int) (a8 : (List Int)) (r : (Int × Int × (List aI) × Int × Int × (List aG) × Int × (List Int))) (h : eE a0 a1 a2 a3 a4 a5 a6 a7 a8 = some r) : FnH Try.prog 36 [.ref 1000 0, .int .i64 a0] [(1000, .blk 60 (mixD aB.toEnc0 (w20 a1 a2 a3 a4 a5) a6 [.int .i64 a7, .osl 1001 (eInt .i64).sz a8.length])), (1001, .blk 3 (D.flat (a8.map (eInt .i64).d)))] (retD []) [(1000, .blk 60 (mixD aB.toEnc0 (w20 r.1 r.2.1 r.2.2.1 r.2.2.2.1 r.2.2.2.2.1) r.2.2.2.2.2.1 [.int .i64 r.2.2.2.2.2.2.1, .osl 0 (eInt .i64).sz r.2.2.2.2.2.2.2.length])), (0, .blk 3 (D.flat (r.2.2.2.2.2.2.2.map (eInt .i64).d)))] := by
 refine dS (rs:=[]) Try.func36 rfl Try.ntmps36 (nle rfl) fun O hO=>?_
 show IWP _ _ _ _ ⟨[(0,.ref 1000 0),(1,.int .i64 a0)],[(1000,.blk 60 (mixD aB.toEnc0 (w20 a1 a2 a3 a4 a5) a6 [.int .i64 a7,.osl 1001 (eInt .i64).sz a8.length])),(1001,.blk 3 (D.flat (a8.map (eInt .i64).d)))]⟩ _
 unfold eE at h
 refine aF (aA rfl (eD (cs:=[.ref _ _]) 0 rfl rfl (lb rfl) rfl (svR rfl) rfl rfl) <|aA rfl (eD (cs:=[.int _ _]) 1 rfl rfl (lb rfl) rfl (svI rfl) rfl rfl) <|aD ?_)
 refine aF (aA rfl (gE (cs:=[.int _ _]) (cs':=[.int .i64 0]) 2 rfl rfl (lb rfl) rfl ti3 rfl rfl (.all _)) <|aA rfl (eZ (ds':=[.int _ _]) rfl rfl ti3 (svR rfl) rfl (sv (d:=.int _ 0) rfl) rfl rfl rfl (nle rfl) rfl) <|aD ?_)
 refine jM (α:=Int) (fun z=>⟨[(2,.ref 0 0),(3,.ref 1 0),(4,.ref 2 0)],[(0,.blk 26 [.ref 1000 0]),(1,.blk 3 [.int .i64 a0]),(2,.blk 3 [.int .i64 z]),(1000,.blk 60 (mixD aB.toEnc0 (w20 a1 a2 a3 a4 a5) a6 [.int .i64 a7,.osl 1001 (eInt .i64).sz a8.length])),(1001,.blk 3 (D.flat (a8.map (eInt .i64).d)))]⟩) (fun z=>fY a0 a1 a2 a3 a4 a5 a6 a7 a8 z = some r) ?_ ?_
 ·
  refine aF (aA rfl (aK (d:=.ref _ _) rfl rfl (lb rfl) Try.underlying26 ag26 ti26 (by decide) (svR rfl) rfl (nle rfl) rfl) <|aA rfl (aK (d:=.int _ _) rfl rfl (lb rfl) Try.underlying3 ag3 ti3 (by decide) (svR rfl) rfl (nle rfl) rfl) <|?_)
  refine eR (S':=⟨[(2,.ref 0 0),(3,.ref 1 0),(4,.ref 2 0),(9,.ref 1000 0),(10,.int .i64 a0)],[(0,.blk 26 [.ref 1000 0]),(1,.blk 3 [.int .i64 a0]),(2,.blk 3 [.int .i64 0]),(1000,.blk 60 (mixD aB.toEnc0 (w20 a1 a2 a3 a4 a5) a6 [.int .i64 a7,.osl 1001 (eInt .i64).sz a8.length])),(1001,.blk 3 (D.flat (a8.map (eInt .i64).d)))]⟩) (fun i=>i) ⟨(.sames rfl rfl),(.cons (.blk rfl rfl rfl) (.cons (.blk rfl rfl rfl) (.cons (.blk rfl rfl rfl) (.cons (EntW.mix aB rfl (SubC.of_eq rfl) (SubC.of_eq rfl) rfl rfl) (.cons (EntW.lst rfl) .nil))))),bB [0,1,2,1000,1001] rfl (by decide),fun _ _=>rfl⟩ ?_
  refine iI 1 3 rfl rfl rfl (by decide) cl29 Try.func29 rfl (.cons (svR rfl) (.cons (svI rfl) .nil)) Try.ntmps29 (nle rfl) rfl hO.semiL fun O1 hO1=>?_
  show IWP _ _ _ _ ⟨[(0,.ref 1000 0),(1,.int .i64 a0)],[(3,.kept 1 [.dead,.dead,.ref 0 0,.ref 1 0,.ref 2 0,.dead,.dead,.dead,.dead,.ref 1000 0,.int .i64 a0,.dead,.dead,.dead,.dead,.dead,.dead,.dead,.dead,.dead,.dead,.dead,.dead,.dead,.dead,.dead,.dead,.dead,.dead,.dead,.dead,.dead,.dead,.dead,.dead,.dead,.dead,.dead,.dead,.dead,.dead,.dead,.dead,.dead,.dead,.dead,.dead,.dead,.dead,.dead,.dead,.dead,.dead,.dead,.dead,.dead,.dead,.dead,.dead,.dead,.dead,.dead,.dead,.dead,.dead,.dead,.dead,.dead,.dead,.dead,.dead,.dead,.dead,.dead,.dead,.dead,.dead,.dead,.dead,.dead,.dead,.dead,.dead,.dead,.dead,.dead,.dead,.dead,.dead,.dead,.dead]),(0,.blk 26 [.ref 1000 0]),(1,.blk 3 [.int .i64 a0]),(2,.blk 3 [.int .i64 0]),(1000,.blk 60 (mixD aB.toEnc0 (w20 a1 a2 a3 a4 a5) a6 [.int .i64 a7,.osl 1001 (eInt .i64).sz a8.length])),(1001,.blk 3 (D.flat (a8.map (eInt .i64).d)))]⟩ _
  refine aF (aA rfl (eD (cs:=[.ref _ _]) 4 rfl rfl (lb rfl) rfl (svR rfl) rfl rfl) <|aA rfl (eD (cs:=[.int _ _]) 5 rfl rfl (lb rfl) rfl (svI rfl) rfl rfl) <|aA rfl (aH rfl rfl (lb rfl) (sv (d:=.nilf) rfl)) <|aD ?_)
  refine aF (aA rfl (kD rfl rfl (lb rfl) (.cons (svR rfl) (.cons (svR rfl) .nil))) <|aA rfl (aH rfl rfl (lb rfl) (sv (d:=.fn 40 q16) rfl)) <|aD ?_)
  refine bD ?_
  refine ⟨.inr rfl,3,_,[.fn 40 [.ref 4 0,.ref 5 0]],(.cons (sv rfl) .nil),rfl,rfl,⟨[(2,.ref 0 0),(3,.ref 1 0),(4,.ref 2 0),(11,.fn 40 [.ref 4 0,.ref 5 0])],[(0,.blk 26 [.ref 1000 0]),(1,.blk 3 [.int .i64 a0]),(2,.blk 3 [.int .i64 0]),(4,.blk 26 [.ref 1000 0]),(5,.blk 3 [.int .i64 a0]),(1000,.blk 60 (mixD aB.toEnc0 (w20 a1 a2 a3 a4 a5) a6 [.int .i64 a7,.osl 1001 (eInt .i64).sz a8.length])),(1001,.blk 3 (D.flat (a8.map (eInt .i64).d)))]⟩,(fun i=>i),⟨(.sames rfl rfl),(.cons (.blk rfl rfl rfl) (.cons (.blk rfl rfl rfl) (.cons (.blk rfl rfl rfl) (.cons (.blk rfl rfl rfl) (.cons (.blk rfl rfl rfl) (.cons (EntW.mix aB rfl (SubC.of_eq rfl) (SubC.of_eq rfl) rfl rfl) (.cons (EntW.lst rfl) .nil))))))),bB [0,1,2,4,5,1000,1001] rfl (by decide),fun _ _=>rfl⟩,?_⟩
  refine aD ?_
  refine bA ?_
  refine mM (S':=⟨[(2,.ref 0 0),(3,.ref 1 0),(4,.ref 2 0),(11,.fn 40 [.ref 4 0,.ref 5 0])],[(0,.blk 26 [.ref 1000 0]),(1,.blk 3 [.int .i64 a0]),(2,.blk 3 [.int .i64 0]),(4,.blk 26 [.ref 1000 0]),(5,.blk 3 [.int .i64 a0]),(1000,.blk 60 (mixD aB.toEnc0 (w20 a1 a2 a3 a4 a5) a6 [.int .i64 a7,.osl 1001 (eInt .i64).sz a8.length])),(1001,.blk 3 (D.flat (a8.map (eInt .i64).d)))]⟩) (fun i=>i) ⟨(.sames rfl rfl),(.cons (.blk rfl rfl rfl) (.cons (.blk rfl rfl rfl) (.cons (.blk rfl rfl rfl) (.cons (.blk rfl rfl rfl) (.cons (.blk rfl rfl rfl) (.cons (EntW.mix aB rfl (SubC.of_eq rfl) (SubC.of_eq rfl) rfl rfl) (.cons (EntW.lst rfl) .nil))))))),bB [0,1,2,4,5,1000,1001] rfl (by decide),fun _ _=>rfl⟩ ?_
  refine nA 1 6 7 (sv (d:=.fn 40 q16) rfl) cl40 Try.func40 rfl rfl Try.ntmps40 (nle rfl) rfl rfl hO.semiL (List.forall_mem_nil _) fun O1 hO1 hlc1=>?_
  show IWP _ _ _ _ ⟨[(0,.yld 6),(1,.ref 4 0),(2,.ref 5 0)],[(7,.kept 1 [.dead,.dead,.ref 0 0,.ref 1 0,.ref 2 0,.dead,.dead,.dead,.dead,.dead,.dead,.fn 40 [.ref 4 0,.ref 5 0],.dead,.dead,.dead,.dead,.dead,.dead,.dead,.dead,.dead,.dead,.dead,.dead,.dead,.dead,.dead,.dead,.dead,.dead,.dead,.dead,.dead,.dead,.dead,.dead,.dead,.dead,.dead,.dead,.dead,.dead,.dead,.dead,.dead,.dead,.dead,.dead,.dead,.dead,.dead,.dead,.dead,.dead,.dead,.dead,.dead,.dead,.dead,.dead,.dead,.dead,.dead,.dead,.dead,.dead,.dead,.dead,.dead,.dead,.dead,.dead,.dead,.dead,.dead,.dead,.dead,.dead,.dead,.dead,.dead,.dead,.dead,.dead,.dead,.dead,.dead,.dead,.dead,.dead,.dead]),(6,.loop 1 [.dead,.dead,.ref 0 0,.ref 1 0,.ref 2 0,.dead,.dead,.dead,.dead,.dead,.dead,.fn 40 [.ref 4 0,.ref 5 0],.dead,.dead,.dead,.dead,.dead,.dead,.dead,.dead,.dead,.dead,.dead,.dead,.dead,.dead,.dead,.dead,.dead,.dead,.dead,.dead,.dead,.dead,.dead,.dead,.dead,.dead,.dead,.dead,.dead,.dead,.dead,.dead,.dead,.dead,.dead,.dead,.dead,.dead,.dead,.dead,.dead,.dead,.dead,.dead,.dead,.dead,.dead,.dead,.dead,.dead,.dead,.dead,.dead,.dead,.dead,.dead,.dead,.dead,.dead,.dead,.dead,.dead,.dead,.dead,.dead,.dead,.dead,.dead,.dead,.dead,.dead,.dead,.dead,.dead,.dead,.dead,.dead,.dead,.dead] .ready none),(0,.blk 26 [.ref 1000 0]),(1,.blk 3 [.int .i64 a0]),(2,.blk 3 [.int .i64 0]),(4,.blk 26 [.ref 1000 0]),(5,.blk 3 [.int .i64 a0]),(1000,.blk 60 (mixD aB.toEnc0 (w20 a1 a2 a3 a4 a5) a6 [.int .i64 a7,.osl 1001 (eInt .i64).sz a8.length])),(1001,.blk 3 (D.flat (a8.map (eInt .i64).d)))]⟩ _
  refine aF (aA rfl (aK (d:=.ref _ _) rfl rfl (lb rfl) Try.underlying26 ag26 ti26 (by decide) (svR rfl) rfl (nle rfl) rfl) <|aA rfl (aK (d:=.int _ _) rfl rfl (lb rfl) Try.underlying3 ag3 ti3 (by decide) (svR rfl) rfl (nle rfl) rfl) <|?_)
  refine eR (S':=⟨[(0,.yld 6),(1,.ref 4 0),(6,.ref 1000 0),(7,.int .i64 a0)],[(0,.blk 26 [.ref 1000 0]),(1,.blk 3 [.int .i64 a0]),(2,.blk 3 [.int .i64 0]),(4,.blk 26 [.ref 1000 0]),(5,.blk 3 [.int .i64 a0]),(6,.loop 1 [.dead,.dead,.ref 0 0,.ref 1 0,.ref 2 0,.dead,.dead,.dead,.dead,.dead,.dead,.fn 40 [.ref 4 0,.ref 5 0],.dead,.dead,.dead,.dead,.dead,.dead,.dead,.dead,.dead,.dead,.dead,.dead,.dead,.dead,.dead,.dead,.dead,.dead,.dead,.dead,.dead,.dead,.dead,.dead,.dead,.dead,.dead,.dead,.dead,.dead,.dead,.dead,.dead,.dead,.dead,.dead,.dead,.dead,.dead,.dead,.dead,.dead,.dead,.dead,.dead,.dead,.dead,.dead,.dead,.dead,.dead,.dead,.dead,.dead,.dead,.dead,.dead,.dead,.dead,.dead,.dead,.dead,.dead,.dead,.dead,.dead,.dead,.dead,.dead,.dead,.dead,.dead,.dead,.dead,.dead,.dead,.dead,.dead,.dead] .ready none),(7,.kept 1 [.dead,.dead,.ref 0 0,.ref 1 0,.ref 2 0,.dead,.dead,.dead,.dead,.dead,.dead,.fn 40 [.ref 4 0,.ref 5 0],.dead,.dead,.dead,.dead,.dead,.dead,.dead,.dead,.dead,.dead,.dead,.dead,.dead,.dead,.dead,.dead,.dead,.dead,.dead,.dead,.dead,.dead,.dead,.dead,.dead,.dead,.dead,.dead,.dead,.dead,.dead,.dead,.dead,.dead,.dead,.dead,.dead,.dead,.dead,.dead,.dead,.dead,.dead,.dead,.dead,.dead,.dead,.dead,.dead,.dead,.dead,.dead,.dead,.dead,.dead,.dead,.dead,.dead,.dead,.dead,.dead,.dead,.dead,.dead,.dead,.dead,.dead,.dead,.dead,.dead,.dead,.dead,.dead,.dead,.dead,.dead,.dead,.dead,.dead]),(1000,.blk 60 (mixD aB.toEnc0 (w20 a1 a2 a3 a4 a5) a6 [.int .i64 a7,.osl 1001 (eInt .i64).sz a8.length])),(1001,.blk 3 (D.flat (a8.map (eInt .i64).d)))]⟩) (fun i=>i) ⟨(.sames rfl rfl),(.cons (.blk rfl rfl rfl) (.cons (.blk rfl rfl rfl) (.cons (.blk rfl rfl rfl) (.cons (.blk rfl rfl rfl) (.cons (.blk rfl rfl rfl) (.cons (.loop rfl rfl rfl) (.cons (.kept rfl rfl rfl) (.cons (EntW.mix aB rfl (SubC.of_eq rfl) (SubC.of_eq rfl) rfl rfl) (.cons (EntW.lst rfl) .nil))))))))),bB [0,1,2,4,5,6,7,1000,1001] rfl (by decide),fun _ _=>rfl⟩ ?_
  refine iI 2 8 rfl rfl rfl (by decide) cl41 Try.func41 rfl (.cons (svR rfl) (.cons (svI rfl) .nil)) Try.ntmps41 (nle rfl) rfl hO1 fun O2 hO2=>?_
  show IWP _ _ _ _ ⟨[(0,.ref 1000 0),(1,.int .i64 a0)],[(8,.kept 2 [.yld 6,.ref 4 0,.dead,.dead,.dead,.dead,.ref 1000 0,.int .i64 a0,.dead,.dead,.dead,.dead,.dead,.dead,.dead,.dead,.dead,.dead,.dead,.dead,.dead,.dead,.dead,.dead,.dead]),(0,.blk 26 [.ref 1000 0]),(1,.blk 3 [.int .i64 a0]),(2,.blk 3 [.int .i64 0]),(4,.blk 26 [.ref 1000 0]),(5,.blk 3 [.int .i64 a0]),(6,.loop 1 [.dead,.dead,.ref 0 0,.ref 1 0,.ref 2 0,.dead,.dead,.dead,.dead,.dead,.dead,.fn 40 [.ref 4 0,.ref 5 0],.dead,.dead,.dead,.dead,.dead,.dead,.dead,.dead,.dead,.dead,.dead,.dead,.dead,.dead,.dead,.dead,.dead,.dead,.dead,.dead,.dead,.dead,.dead,.dead,.dead,.dead,.dead,.dead,.dead,.dead,.dead,.dead,.dead,.dead,.dead,.dead,.dead,.dead,.dead,.dead,.dead,.dead,.dead,.dead,.dead,.dead,.dead,.dead,.dead,.dead,.dead,.dead,.dead,.dead,.dead,.dead,.dead,.dead,.dead,.dead,.dead,.dead,.dead,.dead,.dead,.dead,.dead,.dead,.dead,.dead,.dead,.dead,.dead,.dead,.dead,.dead,.dead,.dead,.dead] .ready none),(7,.kept 1 [.dead,.dead,.ref 0 0,.ref 1 0,.ref 2 0,.dead,.dead,.dead,.dead,.dead,.dead,.fn 40 [.ref 4 0,.ref 5 0],.dead,.dead,.dead,.dead,.dead,.dead,.dead,.dead,.dead,.dead,.dead,.dead,.dead,.dead,.dead,.dead,.dead,.dead,.dead,.dead,.dead,.dead,.dead,.dead,.dead,.dead,.dead,.dead,.dead,.dead,.dead,.dead,.dead,.dead,.dead,.dead,.dead,.dead,.dead,.dead,.dead,.dead,.dead,.dead,.dead,.dead,.dead,.dead,.dead,.dead,.dead,.dead,.dead,.dead,.dead,.dead,.dead,.dead,.dead,.dead,.dead,.dead,.dead,.dead,.dead,.dead,.dead,.dead,.dead,.dead,.dead,.dead,.dead,.dead,.dead,.dead,.dead,.dead,.dead]),(1000,.blk 60 (mixD aB.toEnc0 (w20 a1 a2 a3 a4 a5) a6 [.int .i64 a7,.osl 1001 (eInt .i64).sz a8.length])),(1001,.blk 3 (D.flat (a8.map (eInt .i64).d)))]⟩ _
  refine aF (aA rfl (aH rfl rfl (lb rfl) (sv (d:=.nilp) rfl)) <|aD ?_)
  refine aT ?_
  obtain ⟨x232,hx232,h⟩:=aR h
  refine aF (aA rfl (mvI rfl rfl rfl rfl) <|aA rfl (aM rfl rfl (lb rfl) (svI rfl) (sv (d:=.int _ (-1)) rfl) rfl hx232) <|aD ?_)
  refine aX (b:=_) rfl (fun hc233=>?_) (fun hc233=>?_)
  ·
   replace h:=bY h hc233
   refine aF (aA rfl (mvR rfl rfl rfl rfl) <|aA rfl (aJ rfl rfl (lb rfl) (svR rfl)) <|aA rfl (faR 389 rfl rfl rfl Try.underlying60 rfl ti3 (lb rfl) rfl rfl) <|aA rfl (aH rfl rfl (lb rfl) (svR rfl)) <|aD ?_)
   refine bD ?_
   refine bS ?_
   refine ⟨.inr rfl,8,_,[.ref 1000 389],(.cons (sv rfl) .nil),rfl,rfl,⟨[(0,.yld 6),(1,.ref 4 0),(8,.ref 1000 389)],[(0,.blk 26 [.ref 1000 0]),(1,.blk 3 [.int .i64 a0]),(2,.blk 3 [.int .i64 0]),(4,.blk 26 [.ref 1000 0]),(5,.blk 3 [.int .i64 a0]),(6,.loop 1 [.dead,.dead,.ref 0 0,.ref 1 0,.ref 2 0,.dead,.dead,.dead,.dead,.dead,.dead,.fn 40 [.ref 4 0,.ref 5 0],.dead,.dead,.dead,.dead,.dead,.dead,.dead,.dead,.dead,.dead,.dead,.dead,.dead,.dead,.dead,.dead,.dead,.dead,.dead,.dead,.dead,.dead,.dead,.dead,.dead,.dead,.dead,.dead,.dead,.dead,.dead,.dead,.dead,.dead,.dead,.dead,.dead,.dead,.dead,.dead,.dead,.dead,.dead,.dead,.dead,.dead,.dead,.dead,.dead,.dead,.dead,.dead,.dead,.dead,.dead,.dead,.dead,.dead,.dead,.dead,.dead,.dead,.dead,.dead,.dead,.dead,.dead,.dead,.dead,.dead,.dead,.dead,.dead,.dead,.dead,.dead,.dead,.dead,.dead] .ready none),(7,.kept 1 [.dead,.dead,.ref 0 0,.ref 1 0,.ref 2 0,.dead,.dead,.dead,.dead,.dead,.dead,.fn 40 [.ref 4 0,.ref 5 0],.dead,.dead,.dead,.dead,.dead,.dead,.dead,.dead,.dead,.dead,.dead,.dead,.dead,.dead,.dead,.dead,.dead,.dead,.dead,.dead,.dead,.dead,.dead,.dead,.dead,.dead,.dead,.dead,.dead,.dead,.dead,.dead,.dead,.dead,.dead,.dead,.dead,.dead,.dead,.dead,.dead,.dead,.dead,.dead,.dead,.dead,.dead,.dead,.dead,.dead,.dead,.dead,.dead,.dead,.dead,.dead,.dead,.dead,.dead,.dead,.dead,.dead,.dead,.dead,.dead,.dead,.dead,.dead,.dead,.dead,.dead,.dead,.dead,.dead,.dead,.dead,.dead,.dead,.dead]),(1000,.blk 60 (mixD aB.toEnc0 (w20 a1 a2 a3 a4 a5) a6 [.int .i64 a7,.osl 1001 (eInt .i64).sz a8.length])),(1001,.blk 3 (D.flat (a8.map (eInt .i64).d)))]⟩,(fun i=>i),⟨(.sames rfl rfl),(.cons (.blk rfl rfl rfl) (.cons (.blk rfl rfl rfl) (.cons (.blk rfl rfl rfl) (.cons (.blk rfl rfl rfl) (.cons (.blk rfl rfl rfl) (.cons (.loop rfl rfl rfl) (.cons (.kept rfl rfl rfl) (.cons (EntW.mix aB rfl (SubC.of_eq rfl) (SubC.of_eq rfl) rfl rfl) (.cons (EntW.lst rfl) .nil))))))))),bB [0,1,2,4,5,6,7,1000,1001] rfl (by decide),fun _ _=>rfl⟩,?_⟩
   obtain ⟨hk234,h⟩:=jN h
   refine aA rfl (aJ rfl rfl (lb rfl) (svR rfl)) <|aA rfl (fG aB.toEnc0 (d:=.int _ _) (n:=64) (k:=0) rfl rfl (lb rfl) Try.underlying3 ag3 ti3 (by decide) (svR rfl) rfl hk234 (by rfl) (nle rfl) (by rfl)) <|aA rfl (asI rfl rfl rfl rfl) <|aD ?_
   refine bA ?_
   refine cV (α:=Nat × Int × Int) (fun z=>⟨[(0,.yld 6),(1,.ref 4 0),(4,.int .i64 z.2.1)],[(6,.loop 1 [.dead,.dead,.ref 0 0,.ref 1 0,.ref 2 0,.dead,.dead,.dead,.dead,.dead,.dead,.fn 40 [.ref 4 0,.ref 5 0],.dead,.dead,.dead,.dead,.dead,.dead,.dead,.dead,.dead,.dead,.dead,.dead,.dead,.dead,.dead,.dead,.dead,.dead,.dead,.dead,.dead,.dead,.dead,.dead,.dead,.dead,.dead,.dead,.dead,.dead,.dead,.dead,.dead,.dead,.dead,.dead,.dead,.dead,.dead,.dead,.dead,.dead,.dead,.dead,.dead,.dead,.dead,.dead,.dead,.dead,.dead,.dead,.dead,.dead,.dead,.dead,.dead,.dead,.dead,.dead,.dead,.dead,.dead,.dead,.dead,.dead,.dead,.dead,.dead,.dead,.dead,.dead,.dead,.dead,.dead,.dead,.dead,.dead,.dead] .ready none),(4,.blk 26 [.ref 1000 0]),(7,.kept 1 [.dead,.dead,.ref 0 0,.ref 1 0,.ref 2 0,.dead,.dead,.dead,.dead,.dead,.dead,.fn 40 [.ref 4 0,.ref 5 0],.dead,.dead,.dead,.dead,.dead,.dead,.dead,.dead,.dead,.dead,.dead,.dead,.dead,.dead,.dead,.dead,.dead,.dead,.dead,.dead,.dead,.dead,.dead,.dead,.dead,.dead,.dead,.dead,.dead,.dead,.dead,.dead,.dead,.dead,.dead,.dead,.dead,.dead,.dead,.dead,.dead,.dead,.dead,.dead,.dead,.dead,.dead,.dead,.dead,.dead,.dead,.dead,.dead,.dead,.dead,.dead,.dead,.dead,.dead,.dead,.dead,.dead,.dead,.dead,.dead,.dead,.dead,.dead,.dead,.dead,.dead,.dead,.dead,.dead,.dead,.dead,.dead,.dead,.dead]),(1000,.blk 60 (mixD aB.toEnc0 (w20 a1 a2 a3 a4 a5) a6 [.int .i64 a7,.osl 1001 (eInt .i64).sz a8.length])),(1001,.blk 3 (D.flat (a8.map (eInt .i64).d))),(0,.blk 26 [.ref 1000 0]),(1,.blk 3 [.int .i64 a0]),(2,.blk 3 [.int .i64 z.2.2]),(5,.blk 3 [.int .i64 a0])]⟩) (fun z=>iA a0 a1 a2 a3 a4 a5 a6 a7 a8 z.1 z.2.1 z.2.2 = some r) (fun z=>z.1) (fuel,a7,0) (fun i=>i) ⟨(.sames rfl rfl),(.cons (.loop rfl rfl rfl) (.cons (.blk rfl rfl rfl) (.cons (.kept rfl rfl rfl) (.cons (EntW.mix aB rfl (SubC.of_eq rfl) (SubC.of_eq rfl) rfl rfl) (.cons (EntW.lst rfl) (.cons (.blk rfl rfl rfl) (.cons (.blk rfl rfl rfl) (.cons (.blk rfl rfl rfl) (.cons (.blk rfl rfl rfl) .nil))))))))),bB [6,4,7,1000,1001,0,1,2,5] rfl (by decide),fun _ _=>rfl⟩ ?_ ?_
   ·exact h
   ·
    rintro ⟨n7,v242,v243⟩ h
    cases n7 with
    | zero=>exact absurd h (by unfold iA; exact nofun)
    | succ n7 =>
     unfold iA at h
     refine aT ?_
     obtain ⟨x251,hx251,h⟩:=aR h
     refine aF (aA rfl (mvI rfl rfl rfl rfl) <|aA rfl (aM rfl rfl (lb rfl) (svI rfl) (sv (d:=.int _ (-1)) rfl) rfl hx251) <|aD ?_)
     refine aX (b:=_) rfl (fun hc252=>?_) (fun hc252=>?_)
     ·
      replace h:=bY h hc252
      refine aU ?_
      refine aL ?_
      refine bA ?_
      obtain ⟨x253,hx253,h⟩:=aS h
      obtain ⟨x254,hx254,h⟩:=aS h
      refine aF (aA rfl (aK (d:=.ref _ _) rfl rfl (lb rfl) Try.underlying26 ag26 ti26 (by decide) (svR rfl) rfl (nle rfl) rfl) <|aA rfl (mvI rfl rfl rfl rfl) <|aA rfl (aJ rfl rfl (lb rfl) (svR rfl)) <|aA rfl (faR 5 rfl rfl rfl Try.underlying60 rfl ti58 (lb rfl) rfl rfl) <|aA rfl (bX aB.toEnc0 rfl rfl (lb rfl) Try.underlying58 ti57 (svR rfl) hk234 (svI rfl) hx253) <|aA rfl (bJ rfl rfl (lb rfl) Try.underlying57 rfl ti3 (by decide) (svR rfl) (k':=3) rfl) <|aA rfl (bP aB.toEnc0 (b:=5) (k:=3) (d:=.int _ _) rfl rfl (lb rfl) Try.underlying3 ag3 ti3 (by decide) (svR rfl) rfl rfl hx254 (nle rfl) rfl) <|aA rfl (asI rfl rfl rfl rfl) <|aD ?_)
      refine aT ?_
      refine aF (aA rfl (aN rfl rfl (lb rfl) (sv (d:=.yld _) rfl)) <|aA rfl (mvI rfl rfl rfl rfl) <|?_)
      refine eR (S':=⟨[(0,.yld 6),(1,.ref 4 0),(5,.int .i64 x254.next),(20,.yld 6),(21,.int .i64 v242)],[(0,.blk 26 [.ref 1000 0]),(1,.blk 3 [.int .i64 a0]),(2,.blk 3 [.int .i64 v243]),(4,.blk 26 [.ref 1000 0]),(5,.blk 3 [.int .i64 a0]),(6,.loop 1 [.dead,.dead,.ref 0 0,.ref 1 0,.ref 2 0,.dead,.dead,.dead,.dead,.dead,.dead,.fn 40 [.ref 4 0,.ref 5 0],.dead,.dead,.dead,.dead,.dead,.dead,.dead,.dead,.dead,.dead,.dead,.dead,.dead,.dead,.dead,.dead,.dead,.dead,.dead,.dead,.dead,.dead,.dead,.dead,.dead,.dead,.dead,.dead,.dead,.dead,.dead,.dead,.dead,.dead,.dead,.dead,.dead,.dead,.dead,.dead,.dead,.dead,.dead,.dead,.dead,.dead,.dead,.dead,.dead,.dead,.dead,.dead,.dead,.dead,.dead,.dead,.dead,.dead,.dead,.dead,.dead,.dead,.dead,.dead,.dead,.dead,.dead,.dead,.dead,.dead,.dead,.dead,.dead,.dead,.dead,.dead,.dead,.dead,.dead] .ready none),(7,.kept 1 [.dead,.dead,.ref 0 0,.ref 1 0,.ref 2 0,.dead,.dead,.dead,.dead,.dead,.dead,.fn 40 [.ref 4 0,.ref 5 0],.dead,.dead,.dead,.dead,.dead,.dead,.dead,.dead,.dead,.dead,.dead,.dead,.dead,.dead,.dead,.dead,.dead,.dead,.dead,.dead,.dead,.dead,.dead,.dead,.dead,.dead,.dead,.dead,.dead,.dead,.dead,.dead,.dead,.dead,.dead,.dead,.dead,.dead,.dead,.dead,.dead,.dead,.dead,.dead,.dead,.dead,.dead,.dead,.dead,.dead,.dead,.dead,.dead,.dead,.dead,.dead,.dead,.dead,.dead,.dead,.dead,.dead,.dead,.dead,.dead,.dead,.dead,.dead,.dead,.dead,.dead,.dead,.dead,.dead,.dead,.dead,.dead,.dead,.dead]),(1000,.blk 60 (mixD aB.toEnc0 (w20 a1 a2 a3 a4 a5) a6 [.int .i64 a7,.osl 1001 (eInt .i64).sz a8.length])),(1001,.blk 3 (D.flat (a8.map (eInt .i64).d)))]⟩) (fun i=>i) ⟨(.sames rfl rfl),(.cons (.blk rfl rfl rfl) (.cons (.blk rfl rfl rfl) (.cons (.blk rfl rfl rfl) (.cons (.blk rfl rfl rfl) (.cons (.blk rfl rfl rfl) (.cons (.loop rfl rfl rfl) (.cons (.kept rfl rfl rfl) (.cons (EntW.mix aB rfl (SubC.of_eq rfl) (SubC.of_eq rfl) rfl rfl) (.cons (EntW.lst rfl) .nil))))))))),bB [0,1,2,4,5,6,7,1000,1001] rfl (by decide),fun _ _=>rfl⟩ ?_
      refine lC 2 6 8 rfl rfl rfl (by decide) rfl (.cons (svI rfl) .nil) rfl rfl rfl rfl rfl rfl hO1.round hlc1 ⟨[(12,.int .i64 v242),(2,.ref 0 0),(4,.ref 2 0)],[(0,.blk 26 [.ref 1000 0]),(1,.blk 3 [.int .i64 a0]),(2,.blk 3 [.int .i64 v243]),(4,.blk 26 [.ref 1000 0]),(5,.blk 3 [.int .i64 a0]),(6,.loop 1 [.dead,.dead,.ref 0 0,.ref 1 0,.ref 2 0,.dead,.dead,.dead,.dead,.dead,.dead,.fn 40 [.ref 4 0,.ref 5 0],.dead,.dead,.dead,.dead,.dead,.dead,.dead,.dead,.dead,.dead,.dead,.dead,.dead,.dead,.dead,.dead,.dead,.dead,.dead,.dead,.dead,.dead,.dead,.dead,.dead,.dead,.dead,.dead,.dead,.dead,.dead,.dead,.dead,.dead,.dead,.dead,.dead,.dead,.dead,.dead,.dead,.dead,.dead,.dead,.dead,.dead,.dead,.dead,.dead,.dead,.dead,.dead,.dead,.dead,.dead,.dead,.dead,.dead,.dead,.dead,.dead,.dead,.dead,.dead,.dead,.dead,.dead,.dead,.dead,.dead,.dead,.dead,.dead,.dead,.dead,.dead,.dead,.dead,.dead] .ready none),(7,.kept 1 [.dead,.dead,.ref 0 0,.ref 1 0,.ref 2 0,.dead,.dead,.dead,.dead,.dead,.dead,.fn 40 [.ref 4 0,.ref 5 0],.dead,.dead,.dead,.dead,.dead,.dead,.dead,.dead,.dead,.dead,.dead,.dead,.dead,.dead,.dead,.dead,.dead,.dead,.dead,.dead,.dead,.dead,.dead,.dead,.dead,.dead,.dead,.dead,.dead,.dead,.dead,.dead,.dead,.dead,.dead,.dead,.dead,.dead,.dead,.dead,.dead,.dead,.dead,.dead,.dead,.dead,.dead,.dead,.dead,.dead,.dead,.dead,.dead,.dead,.dead,.dead,.dead,.dead,.dead,.dead,.dead,.dead,.dead,.dead,.dead,.dead,.dead,.dead,.dead,.dead,.dead,.dead,.dead,.dead,.dead,.dead,.dead,.dead,.dead]),(8,.kept 2 [.yld 6,.ref 4 0,.dead,.dead,.dead,.int .i64 x254.next,.dead,.dead,.dead,.dead,.dead,.dead,.dead,.dead,.dead,.dead,.dead,.dead,.dead,.dead,.yld 6,.int .i64 v242,.dead,.dead,.dead]),(1000,.blk 60 (mixD aB.toEnc0 (w20 a1 a2 a3 a4 a5) a6 [.int .i64 a7,.osl 1001 (eInt .i64).sz a8.length])),(1001,.blk 3 (D.flat (a8.map (eInt .i64).d)))]⟩ (fun i=>i) ⟨(.sames rfl rfl),(.cons (.blk rfl rfl rfl) (.cons (.blk rfl rfl rfl) (.cons (.blk rfl rfl rfl) (.cons (.blk rfl rfl rfl) (.cons (.blk rfl rfl rfl) (.cons (.loop rfl rfl rfl) (.cons (.kept rfl rfl rfl) (.cons (.kept rfl rfl rfl) (.cons (EntW.mix aB rfl (SubC.of_eq rfl) (SubC.of_eq rfl) rfl rfl) (.cons (EntW.lst rfl) .nil)))))))))),bB [0,1,2,4,5,6,7,8,1000,1001] rfl (by decide),fun _ _=>rfl⟩ fun O2=>?_
      refine aW (aA rfl (asI rfl rfl rfl rfl) <|bL ?_)
      refine ⟨rfl,6,_,rfl,⟨[(2,.ref 0 0),(4,.ref 2 0),(5,.int .i64 v242)],[(0,.blk 26 [.ref 1000 0]),(1,.blk 3 [.int .i64 a0]),(2,.blk 3 [.int .i64 v243]),(4,.blk 26 [.ref 1000 0]),(5,.blk 3 [.int .i64 a0]),(6,.loop 1 [.dead,.dead,.ref 0 0,.ref 1 0,.ref 2 0,.dead,.dead,.dead,.dead,.dead,.dead,.fn 40 [.ref 4 0,.ref 5 0],.dead,.dead,.dead,.dead,.dead,.dead,.dead,.dead,.dead,.dead,.dead,.dead,.dead,.dead,.dead,.dead,.dead,.dead,.dead,.dead,.dead,.dead,.dead,.dead,.dead,.dead,.dead,.dead,.dead,.dead,.dead,.dead,.dead,.dead,.dead,.dead,.dead,.dead,.dead,.dead,.dead,.dead,.dead,.dead,.dead,.dead,.dead,.dead,.dead,.dead,.dead,.dead,.dead,.dead,.dead,.dead,.dead,.dead,.dead,.dead,.dead,.dead,.dead,.dead,.dead,.dead,.dead,.dead,.dead,.dead,.dead,.dead,.dead,.dead,.dead,.dead,.dead,.dead,.dead] .busy none),(7,.kept 1 [.dead,.dead,.ref 0 0,.ref 1 0,.ref 2 0,.dead,.dead,.dead,.dead,.dead,.dead,.fn 40 [.ref 4 0,.ref 5 0],.dead,.dead,.dead,.dead,.dead,.dead,.dead,.dead,.dead,.dead,.dead,.dead,.dead,.dead,.dead,.dead,.dead,.dead,.dead,.dead,.dead,.dead,.dead,.dead,.dead,.dead,.dead,.dead,.dead,.dead,.dead,.dead,.dead,.dead,.dead,.dead,.dead,.dead,.dead,.dead,.dead,.dead,.dead,.dead,.dead,.dead,.dead,.dead,.dead,.dead,.dead,.dead,.dead,.dead,.dead,.dead,.dead,.dead,.dead,.dead,.dead,.dead,.dead,.dead,.dead,.dead,.dead,.dead,.dead,.dead,.dead,.dead,.dead,.dead,.dead,.dead,.dead,.dead,.dead]),(8,.kept 2 [.yld 6,.ref 4 0,.dead,.dead,.dead,.int .i64 x254.next,.dead,.dead,.dead,.dead,.dead,.dead,.dead,.dead,.dead,.dead,.dead,.dead,.dead,.dead,.yld 6,.int .i64 v242,.dead,.dead,.dead]),(1000,.blk 60 (mixD aB.toEnc0 (w20 a1 a2 a3 a4 a5) a6 [.int .i64 a7,.osl 1001 (eInt .i64).sz a8.length])),(1001,.blk 3 (D.flat (a8.map (eInt .i64).d)))]⟩,(fun i=>i),⟨(.sames rfl rfl),(.cons (.blk rfl rfl rfl) (.cons (.blk rfl rfl rfl) (.cons (.blk rfl rfl rfl) (.cons (.blk rfl rfl rfl) (.cons (.blk rfl rfl rfl) (.cons (.loop rfl rfl rfl) (.cons (.kept rfl rfl rfl) (.cons (.kept rfl rfl rfl) (.cons (EntW.mix aB rfl (SubC.of_eq rfl) (SubC.of_eq rfl) rfl rfl) (.cons (EntW.lst rfl) .nil)))))))))),bB [0,1,2,4,5,6,7,8,1000,1001] rfl (by decide),fun _ _=>rfl⟩,?_⟩
      refine bA ?_
      obtain ⟨x255,hx255,h⟩:=aS h
      obtain ⟨x256,hx256,h⟩:=aS h
      obtain ⟨x257,hx257,h⟩:=aR h
      refine jF rfl [⟨[4],[2],[(13,.int .i64 v243)],[]⟩,
       ⟨[2],[0],[(14,.ref 1000 0)],[]⟩,
       ⟨[5],[],[(15,.int .i64 v242)],[]⟩,
       ⟨[14],[],[(16,.ref 1000 0)],[]⟩,
       ⟨[16],[],[(17,.ref 1000 5)],[]⟩,
       ⟨[15,17],[],[(18,.ref 1000 (5 + (((v242 : Int).toNat) * aB.sz + 0)))],[]⟩,
       ⟨[18],[],[(19,.ref 1000 (5 + (((v242 : Int).toNat) * aB.sz + 4)))],[]⟩,
       ⟨[19],[1000],[(20,.int .i64 x256.weight)],[]⟩,
       ⟨[13,20],[],[(21,.int .i64 x257)],[]⟩,
       ⟨[4,21],[2],[],[(2,.blk 3 [.int .i64 x257])]⟩] rfl ?_ (by kernel_rfl) ?_
      ·refine .cons (lop rfl rfl fun S hA=>(aK (d:=.int _ _) rfl rfl (lb rfl) Try.underlying3 ag3 ti3 (by decide) (svaR hA rfl rfl) (agi hA rfl rfl) (nle rfl) rfl)) ?_
       refine .cons (lop rfl rfl fun S hA=>(aK (d:=.ref _ _) rfl rfl (lb rfl) Try.underlying26 ag26 ti26 (by decide) (svaR hA rfl rfl) (agi hA rfl rfl) (nle rfl) rfl)) ?_
       refine .cons (lop rfl rfl fun S hA=>(aN rfl rfl (lb rfl) (svaI hA rfl rfl))) ?_
       refine .cons (lop rfl rfl fun S hA=>(aJ rfl rfl (lb rfl) (svaR hA rfl rfl))) ?_
       refine .cons (lop rfl rfl fun S hA=>(aV rfl rfl (lb rfl) Try.underlying60 rfl ti58 (by decide) (svaR hA rfl rfl) (off':=5) rfl)) ?_
       refine .cons (lop rfl rfl fun S hA=>(bX aB.toEnc0 rfl rfl (lb rfl) Try.underlying58 ti57 (svaR hA rfl rfl) hk234 (svaI hA rfl rfl) hx255)) ?_
       refine .cons (lop rfl rfl fun S hA=>(bJ rfl rfl (lb rfl) Try.underlying57 rfl ti3 (by decide) (svaR hA rfl rfl) (k':=4) rfl)) ?_
       refine .cons (lop rfl rfl fun S hA=>(bP aB.toEnc0 (b:=5) (k:=4) (d:=.int _ _) rfl rfl (lb rfl) Try.underlying3 ag3 ti3 (by decide) (svaR hA rfl rfl) (agi hA rfl rfl) rfl hx256 (nle rfl) rfl)) ?_
       refine .cons (lop rfl rfl fun S hA=>(cQ rfl rfl (lb rfl) (svaI hA rfl rfl) (svaI hA rfl rfl) rfl hx257)) ?_
       refine .cons (lop rfl rfl fun S hA=>(eZ (ds':=[.int _ _]) rfl rfl ti3 (svaR hA rfl rfl) (agi hA rfl rfl) (svaI hA rfl rfl) rfl rfl rfl (nle rfl) rfl)) ?_
       exact .nil
      refine bR ?_
      refine ⟨6,8,_,_,none,rfl,rfl,rfl,rfl,(by decide),⟨[(0,.yld 6),(1,.ref 4 0),(5,.int .i64 x254.next),(22,.bool true)],[(0,.blk 26 [.ref 1000 0]),(1,.blk 3 [.int .i64 a0]),(2,.blk 3 [.int .i64 x257]),(4,.blk 26 [.ref 1000 0]),(5,.blk 3 [.int .i64 a0]),(6,.loop 1 [.dead,.dead,.ref 0 0,.ref 1 0,.ref 2 0,.dead,.dead,.dead,.dead,.dead,.dead,.fn 40 [.ref 4 0,.ref 5 0],.dead,.dead,.dead,.dead,.dead,.dead,.dead,.dead,.dead,.dead,.dead,.dead,.dead,.dead,.dead,.dead,.dead,.dead,.dead,.dead,.dead,.dead,.dead,.dead,.dead,.dead,.dead,.dead,.dead,.dead,.dead,.dead,.dead,.dead,.dead,.dead,.dead,.dead,.dead,.dead,.dead,.dead,.dead,.dead,.dead,.dead,.dead,.dead,.dead,.dead,.dead,.dead,.dead,.dead,.dead,.dead,.dead,.dead,.dead,.dead,.dead,.dead,.dead,.dead,.dead,.dead,.dead,.dead,.dead,.dead,.dead,.dead,.dead,.dead,.dead,.dead,.dead,.dead,.dead] .ready none),(7,.kept 1 [.dead,.dead,.ref 0 0,.ref 1 0,.ref 2 0,.dead,.dead,.dead,.dead,.dead,.dead,.fn 40 [.ref 4 0,.ref 5 0],.dead,.dead,.dead,.dead,.dead,.dead,.dead,.dead,.dead,.dead,.dead,.dead,.dead,.dead,.dead,.dead,.dead,.dead,.dead,.dead,.dead,.dead,.dead,.dead,.dead,.dead,.dead,.dead,.dead,.dead,.dead,.dead,.dead,.dead,.dead,.dead,.dead,.dead,.dead,.dead,.dead,.dead,.dead,.dead,.dead,.dead,.dead,.dead,.dead,.dead,.dead,.dead,.dead,.dead,.dead,.dead,.dead,.dead,.dead,.dead,.dead,.dead,.dead,.dead,.dead,.dead,.dead,.dead,.dead,.dead,.dead,.dead,.dead,.dead,.dead,.dead,.dead,.dead,.dead]),(1000,.blk 60 (mixD aB.toEnc0 (w20 a1 a2 a3 a4 a5) a6 [.int .i64 a7,.osl 1001 (eInt .i64).sz a8.length])),(1001,.blk 3 (D.flat (a8.map (eInt .i64).d)))]⟩,(fun i=>i),⟨(.sames rfl rfl),(.cons (.blk rfl rfl rfl) (.cons (.blk rfl rfl rfl) (.cons (.blk rfl rfl rfl) (.cons (.blk rfl rfl rfl) (.cons (.blk rfl rfl rfl) (.cons (.loop rfl rfl rfl) (.cons (.kept rfl rfl rfl) (.cons (EntW.mix aB rfl (SubC.of_eq rfl) (SubC.of_eq rfl) rfl rfl) (.cons (EntW.lst rfl) .nil))))))))),bB [0,1,2,4,5,6,7,1000,1001] rfl (by decide),fun _ _=>rfl⟩,?_⟩
      refine aA rfl (eG rfl rfl (lb rfl) (svB rfl)) <|aD ?_
      refine fD rfl rfl ?_
      refine aU ?_
      refine aL ?_
      refine aW (aA rfl (mvI rfl rfl rfl rfl) <|aA rfl (asI rfl rfl rfl rfl) <|bL ?_)
      refine bR ?_
      refine aL ⟨(n7,x254.next,x257),(fun i=>i),⟨(.sames rfl rfl),(.cons (.loop rfl rfl rfl) (.cons (.blk rfl rfl rfl) (.cons (.kept rfl rfl rfl) (.cons (EntW.mix aB rfl (SubC.of_eq rfl) (SubC.of_eq rfl) rfl rfl) (.cons (EntW.lst rfl) (.cons (.blk rfl rfl rfl) (.cons (.blk rfl rfl rfl) (.cons (.blk rfl rfl rfl) (.cons (.blk rfl rfl rfl) .nil))))))))),bB [6,4,7,1000,1001,0,1,2,5] rfl (by decide),fun _ _=>rfl⟩,?_,?_⟩
      exact h
      exact Nat.lt_succ_self _
     ·
      replace h:=bZ h hc252
      refine dD ?_
      refine bV ?_
      refine bV ?_
      refine dE ?_
      refine ⟨.inl rfl,6,7,_,_,_,_,rfl,(by simp),rfl,rfl,⟨[(2,.ref 0 0),(3,.ref 1 0),(4,.ref 2 0)],[(0,.blk 26 [.ref 1000 0]),(1,.blk 3 [.int .i64 a0]),(2,.blk 3 [.int .i64 v243]),(1000,.blk 60 (mixD aB.toEnc0 (w20 a1 a2 a3 a4 a5) a6 [.int .i64 a7,.osl 1001 (eInt .i64).sz a8.length])),(1001,.blk 3 (D.flat (a8.map (eInt .i64).d)))]⟩,(fun i=>i),⟨(.sames rfl rfl),(.cons (.blk rfl rfl rfl) (.cons (.blk rfl rfl rfl) (.cons (.blk rfl rfl rfl) (.cons (EntW.mix aB rfl (SubC.of_eq rfl) (SubC.of_eq rfl) rfl rfl) (.cons (EntW.lst rfl) .nil))))),bB [0,1,2,1000,1001] rfl (by decide),fun _ _=>rfl⟩,?_⟩
      refine bR ?_
      refine aL ⟨v243,(fun i=>i),⟨(.sames rfl rfl),(.cons (.blk rfl rfl rfl) (.cons (.blk rfl rfl rfl) (.cons (.blk rfl rfl rfl) (.cons (EntW.mix aB rfl (SubC.of_eq rfl) (SubC.of_eq rfl) rfl rfl) (.cons (EntW.lst rfl) .nil))))),bB [0,1,2,1000,1001] rfl (by decide),fun _ _=>rfl⟩,?_⟩
      exact h
  ·
   replace h:=bZ h hc233
   refine aU ?_
   refine aL ?_
   obtain ⟨x258,hx258,h⟩:=aS h
   obtain ⟨hk259,h⟩:=jN h
   refine aF (aA rfl (mvR rfl rfl rfl rfl) <|aA rfl (mvI rfl rfl rfl rfl) <|aA rfl (aJ rfl rfl (lb rfl) (svR rfl)) <|aA rfl (faR 5 rfl rfl rfl Try.underlying60 rfl ti58 (lb rfl) rfl rfl) <|aA rfl (bX aB.toEnc0 rfl rfl (lb rfl) Try.underlying58 ti57 (svR rfl) hk259 (svI rfl) hx258) <|aA rfl (bJ rfl rfl (lb rfl) Try.underlying57 rfl ti3 (by decide) (svR rfl) (k':=2) rfl) <|aA rfl (aH rfl rfl (lb rfl) (svR rfl)) <|aD ?_)
   refine bD ?_
   refine ⟨.inr rfl,8,_,[.ref 1000 (5 + (((a0 : Int).toNat) * aB.sz + 2))],(.cons (sv rfl) .nil),rfl,rfl,⟨[(0,.yld 6),(1,.ref 4 0),(8,.ref 1000 (5 + (((a0 : Int).toNat) * aB.sz + 2)))],[(0,.blk 26 [.ref 1000 0]),(1,.blk 3 [.int .i64 a0]),(2,.blk 3 [.int .i64 0]),(4,.blk 26 [.ref 1000 0]),(5,.blk 3 [.int .i64 a0]),(6,.loop 1 [.dead,.dead,.ref 0 0,.ref 1 0,.ref 2 0,.dead,.dead,.dead,.dead,.dead,.dead,.fn 40 [.ref 4 0,.ref 5 0],.dead,.dead,.dead,.dead,.dead,.dead,.dead,.dead,.dead,.dead,.dead,.dead,.dead,.dead,.dead,.dead,.dead,.dead,.dead,.dead,.dead,.dead,.dead,.dead,.dead,.dead,.dead,.dead,.dead,.dead,.dead,.dead,.dead,.dead,.dead,.dead,.dead,.dead,.dead,.dead,.dead,.dead,.dead,.dead,.dead,.dead,.dead,.dead,.dead,.dead,.dead,.dead,.dead,.dead,.dead,.dead,.dead,.dead,.dead,.dead,.dead,.dead,.dead,.dead,.dead,.dead,.dead,.dead,.dead,.dead,.dead,.dead,.dead,.dead,.dead,.dead,.dead,.dead,.dead] .ready none),(7,.kept 1 [.dead,.dead,.ref 0 0,.ref 1 0,.ref 2 0,.dead,.dead,.dead,.dead,.dead,.dead,.fn 40 [.ref 4 0,.ref 5 0],.dead,.dead,.dead,.dead,.dead,.dead,.dead,.dead,.dead,.dead,.dead,.dead,.dead,.dead,.dead,.dead,.dead,.dead,.dead,.dead,.dead,.dead,.dead,.dead,.dead,.dead,.dead,.dead,.dead,.dead,.dead,.dead,.dead,.dead,.dead,.dead,.dead,.dead,.dead,.dead,.dead,.dead,.dead,.dead,.dead,.dead,.dead,.dead,.dead,.dead,.dead,.dead,.dead,.dead,.dead,.dead,.dead,.dead,.dead,.dead,.dead,.dead,.dead,.dead,.dead,.dead,.dead,.dead,.dead,.dead,.dead,.dead,.dead,.dead,.dead,.dead,.dead,.dead,.dead]),(1000,.blk 60 (mixD aB.toEnc0 (w20 a1 a2 a3 a4 a5) a6 [.int .i64 a7,.osl 1001 (eInt .i64).sz a8.length])),(1001,.blk 3 (D.flat (a8.map (eInt .i64).d)))]⟩,(fun i=>i),⟨(.sames rfl rfl),(.cons (.blk rfl rfl rfl) (.cons (.blk rfl rfl rfl) (.cons (.blk rfl rfl rfl) (.cons (.blk rfl rfl rfl) (.cons (.blk rfl rfl rfl) (.cons (.loop rfl rfl rfl) (.cons (.kept rfl rfl rfl) (.cons (EntW.mix aB rfl (SubC.of_eq rfl) (SubC.of_eq rfl) rfl rfl) (.cons (EntW.lst rfl) .nil))))))))),bB [0,1,2,4,5,6,7,1000,1001] rfl (by decide),fun _ _=>rfl⟩,?_⟩
   obtain ⟨x260,hx260,h⟩:=aS h
   refine aA rfl (aJ rfl rfl (lb rfl) (svR rfl)) <|aA rfl (bP aB.toEnc0 (b:=5) (k:=2) (d:=.int _ _) rfl rfl (lb rfl) Try.underlying3 ag3 ti3 (by decide) (svR rfl) rfl rfl hx260 (nle rfl) rfl) <|aA rfl (asI rfl rfl rfl rfl) <|aD ?_
   refine bA ?_
   refine cV (α:=Nat × Int × Int) (fun z=>⟨[(0,.yld 6),(1,.ref 4 0),(4,.int .i64 z.2.1)],[(6,.loop 1 [.dead,.dead,.ref 0 0,.ref 1 0,.ref 2 0,.dead,.dead,.dead,.dead,.dead,.dead,.fn 40 [.ref 4 0,.ref 5 0],.dead,.dead,.dead,.dead,.dead,.dead,.dead,.dead,.dead,.dead,.dead,.dead,.dead,.dead,.dead,.dead,.dead,.dead,.dead,.dead,.dead,.dead,.dead,.dead,.dead,.dead,.dead,.dead,.dead,.dead,.dead,.dead,.dead,.dead,.dead,.dead,.dead,.dead,.dead,.dead,.dead,.dead,.dead,.dead,.dead,.dead,.dead,.dead,.dead,.dead,.dead,.dead,.dead,.dead,.dead,.dead,.dead,.dead,.dead,.dead,.dead,.dead,.dead,.dead,.dead,.dead,.dead,.dead,.dead,.dead,.dead,.dead,.dead,.dead,.dead,.dead,.dead,.dead,.dead] .ready none),(4,.blk 26 [.ref 1000 0]),(7,.kept 1 [.dead,.dead,.ref 0 0,.ref 1 0,.ref 2 0,.dead,.dead,.dead,.dead,.dead,.dead,.fn 40 [.ref 4 0,.ref 5 0],.dead,.dead,.dead,.dead,.dead,.dead,.dead,.dead,.dead,.dead,.dead,.dead,.dead,.dead,.dead,.dead,.dead,.dead,.dead,.dead,.dead,.dead,.dead,.dead,.dead,.dead,.dead,.dead,.dead,.dead,.dead,.dead,.dead,.dead,.dead,.dead,.dead,.dead,.dead,.dead,.dead,.dead,.dead,.dead,.dead,.dead,.dead,.dead,.dead,.dead,.dead,.dead,.dead,.dead,.dead,.dead,.dead,.dead,.dead,.dead,.dead,.dead,.dead,.dead,.dead,.dead,.dead,.dead,.dead,.dead,.dead,.dead,.dead,.dead,.dead,.dead,.dead,.dead,.dead]),(1000,.blk 60 (mixD aB.toEnc0 (w20 a1 a2 a3 a4 a5) a6 [.int .i64 a7,.osl 1001 (eInt .i64).sz a8.length])),(1001,.blk 3 (D.flat (a8.map (eInt .i64).d))),(0,.blk 26 [.ref 1000 0]),(1,.blk 3 [.int .i64 a0]),(2,.blk 3 [.int .i64 z.2.2]),(5,.blk 3 [.int .i64 a0])]⟩) (fun z=>eS a0 a1 a2 a3 a4 a5 a6 a7 a8 z.1 z.2.1 z.2.2 = some r) (fun z=>z.1) (fuel,x260.first,0) (fun i=>i) ⟨(.sames rfl rfl),(.cons (.loop rfl rfl rfl) (.cons (.blk rfl rfl rfl) (.cons (.kept rfl rfl rfl) (.cons (EntW.mix aB rfl (SubC.of_eq rfl) (SubC.of_eq rfl) rfl rfl) (.cons (EntW.lst rfl) (.cons (.blk rfl rfl rfl) (.cons (.blk rfl rfl rfl) (.cons (.blk rfl rfl rfl) (.cons (.blk rfl rfl rfl) .nil))))))))),bB [6,4,7,1000,1001,0,1,2,5] rfl (by decide),fun _ _=>rfl⟩ ?_ ?_
   ·exact h
   ·
    rintro ⟨n8,v268,v269⟩ h
    cases n8 with
    | zero=>exact absurd h (by unfold eS; exact nofun)
    | succ n8 =>
     unfold eS at h
     refine aT ?_
     obtain ⟨x277,hx277,h⟩:=aR h
     refine aF (aA rfl (mvI rfl rfl rfl rfl) <|aA rfl (aM rfl rfl (lb rfl) (svI rfl) (sv (d:=.int _ (-1)) rfl) rfl hx277) <|aD ?_)
     refine aX (b:=_) rfl (fun hc278=>?_) (fun hc278=>?_)
     ·
      replace h:=bY h hc278
      refine aU ?_
      refine aL ?_
      refine bA ?_
      obtain ⟨x279,hx279,h⟩:=aS h
      obtain ⟨x280,hx280,h⟩:=aS h
      refine aF (aA rfl (aK (d:=.ref _ _) rfl rfl (lb rfl) Try.underlying26 ag26 ti26 (by decide) (svR rfl) rfl (nle rfl) rfl) <|aA rfl (mvI rfl rfl rfl rfl) <|aA rfl (aJ rfl rfl (lb rfl) (svR rfl)) <|aA rfl (faR 5 rfl rfl rfl Try.underlying60 rfl ti58 (lb rfl) rfl rfl) <|aA rfl (bX aB.toEnc0 rfl rfl (lb rfl) Try.underlying58 ti57 (svR rfl) hk259 (svI rfl) hx279) <|aA rfl (bJ rfl rfl (lb rfl) Try.underlying57 rfl ti3 (by decide) (svR rfl) (k':=3) rfl) <|aA rfl (bP aB.toEnc0 (b:=5) (k:=3) (d:=.int _ _) rfl rfl (lb rfl) Try.underlying3 ag3 ti3 (by decide) (svR rfl) rfl rfl hx280 (nle rfl) rfl) <|aA rfl (asI rfl rfl rfl rfl) <|aD ?_)
      refine aT ?_
      refine aF (aA rfl (aN rfl rfl (lb rfl) (sv (d:=.yld _) rfl)) <|aA rfl (mvI rfl rfl rfl rfl) <|?_)
      refine eR (S':=⟨[(0,.yld 6),(1,.ref 4 0),(5,.int .i64 x280.next),(20,.yld 6),(21,.int .i64 v268)],[(0,.blk 26 [.ref 1000 0]),(1,.blk 3 [.int .i64 a0]),(2,.blk 3 [.int .i64 v269]),(4,.blk 26 [.ref 1000 0]),(5,.blk 3 [.int .i64 a0]),(6,.loop 1 [.dead,.dead,.ref 0 0,.ref 1 0,.ref 2 0,.dead,.dead,.dead,.dead,.dead,.dead,.fn 40 [.ref 4 0,.ref 5 0],.dead,.dead,.dead,.dead,.dead,.dead,.dead,.dead,.dead,.dead,.dead,.dead,.dead,.dead,.dead,.dead,.dead,.dead,.dead,.dead,.dead,.dead,.dead,.dead,.dead,.dead,.dead,.dead,.dead,.dead,.dead,.dead,.dead,.dead,.dead,.dead,.dead,.dead,.dead,.dead,.dead,.dead,.dead,.dead,.dead,.dead,.dead,.dead,.dead,.dead,.dead,.dead,.dead,.dead,.dead,.dead,.dead,.dead,.dead,.dead,.dead,.dead,.dead,.dead,.dead,.dead,.dead,.dead,.dead,.dead,.dead,.dead,.dead,.dead,.dead,.dead,.dead,.dead,.dead] .ready none),(7,.kept 1 [.dead,.dead,.ref 0 0,.ref 1 0,.ref 2 0,.dead,.dead,.dead,.dead,.dead,.dead,.fn 40 [.ref 4 0,.ref 5 0],.dead,.dead,.dead,.dead,.dead,.dead,.dead,.dead,.dead,.dead,.dead,.dead,.dead,.dead,.dead,.dead,.dead,.dead,.dead,.dead,.dead,.dead,.dead,.dead,.dead,.dead,.dead,.dead,.dead,.dead,.dead,.dead,.dead,.dead,.dead,.dead,.dead,.dead,.dead,.dead,.dead,.dead,.dead,.dead,.dead,.dead,.dead,.dead,.dead,.dead,.dead,.dead,.dead,.dead,.dead,.dead,.dead,.dead,.dead,.dead,.dead,.dead,.dead,.dead,.dead,.dead,.dead,.dead,.dead,.dead,.dead,.dead,.dead,.dead,.dead,.dead,.dead,.dead,.dead]),(1000,.blk 60 (mixD aB.toEnc0 (w20 a1 a2 a3 a4 a5) a6 [.int .i64 a7,.osl 1001 (eInt .i64).sz a8.length])),(1001,.blk 3 (D.flat (a8.map (eInt .i64).d)))]⟩) (fun i=>i) ⟨(.sames rfl rfl),(.cons (.blk rfl rfl rfl) (.cons (.blk rfl rfl rfl) (.cons (.blk rfl rfl rfl) (.cons (.blk rfl rfl rfl) (.cons (.blk rfl rfl rfl) (.cons (.loop rfl rfl rfl) (.cons (.kept rfl rfl rfl) (.cons (EntW.mix aB rfl (SubC.of_eq rfl) (SubC.of_eq rfl) rfl rfl) (.cons (EntW.lst rfl) .nil))))))))),bB [0,1,2,4,5,6,7,1000,1001] rfl (by decide),fun _ _=>rfl⟩ ?_
      refine lC 2 6 8 rfl rfl rfl (by decide) rfl (.cons (svI rfl) .nil) rfl rfl rfl rfl rfl rfl hO1.round hlc1 ⟨[(12,.int .i64 v268),(2,.ref 0 0),(4,.ref 2 0)],[(0,.blk 26 [.ref 1000 0]),(1,.blk 3 [.int .i64 a0]),(2,.blk 3 [.int .i64 v269]),(4,.blk 26 [.ref 1000 0]),(5,.blk 3 [.int .i64 a0]),(6,.loop 1 [.dead,.dead,.ref 0 0,.ref 1 0,.ref 2 0,.dead,.dead,.dead,.dead,.dead,.dead,.fn 40 [.ref 4 0,.ref 5 0],.dead,.dead,.dead,.dead,.dead,.dead,.dead,.dead,.dead,.dead,.dead,.dead,.dead,.dead,.dead,.dead,.dead,.dead,.dead,.dead,.dead,.dead,.dead,.dead,.dead,.dead,.dead,.dead,.dead,.dead,.dead,.dead,.dead,.dead,.dead,.dead,.dead,.dead,.dead,.dead,.dead,.dead,.dead,.dead,.dead,.dead,.dead,.dead,.dead,.dead,.dead,.dead,.dead,.dead,.dead,.dead,.dead,.dead,.dead,.dead,.dead,.dead,.dead,.dead,.dead,.dead,.dead,.dead,.dead,.dead,.dead,.dead,.dead,.dead,.dead,.dead,.dead,.dead,.dead] .ready none),(7,.kept 1 [.dead,.dead,.ref 0 0,.ref 1 0,.ref 2 0,.dead,.dead,.dead,.dead,.dead,.dead,.fn 40 [.ref 4 0,.ref 5 0],.dead,.dead,.dead,.dead,.dead,.dead,.dead,.dead,.dead,.dead,.dead,.dead,.dead,.dead,.dead,.dead,.dead,.dead,.dead,.dead,.dead,.dead,.dead,.dead,.dead,.dead,.dead,.dead,.dead,.dead,.dead,.dead,.dead,.dead,.dead,.dead,.dead,.dead,.dead,.dead,.dead,.dead,.dead,.dead,.dead,.dead,.dead,.dead,.dead,.dead,.dead,.dead,.dead,.dead,.dead,.dead,.dead,.dead,.dead,.dead,.dead,.dead,.dead,.dead,.dead,.dead,.dead,.dead,.dead,.dead,.dead,.dead,.dead,.dead,.dead,.dead,.dead,.dead,.dead]),(8,.kept 2 [.yld 6,.ref 4 0,.dead,.dead,.dead,.int .i64 x280.next,.dead,.dead,.dead,.dead,.dead,.dead,.dead,.dead,.dead,.dead,.dead,.dead,.dead,.dead,.yld 6,.int .i64 v268,.dead,.dead,.dead]),(1000,.blk 60 (mixD aB.toEnc0 (w20 a1 a2 a3 a4 a5) a6 [.int .i64 a7,.osl 1001 (eInt .i64).sz a8.length])),(1001,.blk 3 (D.flat (a8.map (eInt .i64).d)))]⟩ (fun i=>i) ⟨(.sames rfl rfl),(.cons (.blk rfl rfl rfl) (.cons (.blk rfl rfl rfl) (.cons (.blk rfl rfl rfl) (.cons (.blk rfl rfl rfl) (.cons (.blk rfl rfl rfl) (.cons (.loop rfl rfl rfl) (.cons (.kept rfl rfl rfl) (.cons (.kept rfl rfl rfl) (.cons (EntW.mix aB rfl (SubC.of_eq rfl) (SubC.of_eq rfl) rfl rfl) (.cons (EntW.lst rfl) .nil)))))))))),bB [0,1,2,4,5,6,7,8,1000,1001] rfl (by decide),fun _ _=>rfl⟩ fun O2=>?_
      refine aW (aA rfl (asI rfl rfl rfl rfl) <|bL ?_)
      refine ⟨rfl,6,_,rfl,⟨[(2,.ref 0 0),(4,.ref 2 0),(5,.int .i64 v268)],[(0,.blk 26 [.ref 1000 0]),(1,.blk 3 [.int .i64 a0]),(2,.blk 3 [.int .i64 v269]),(4,.blk 26 [.ref 1000 0]),(5,.blk 3 [.int .i64 a0]),(6,.loop 1 [.dead,.dead,.ref 0 0,.ref 1 0,.ref 2 0,.dead,.dead,.dead,.dead,.dead,.dead,.fn 40 [.ref 4 0,.ref 5 0],.dead,.dead,.dead,.dead,.dead,.dead,.dead,.dead,.dead,.dead,.dead,.dead,.dead,.dead,.dead,.dead,.dead,.dead,.dead,.dead,.dead,.dead,.dead,.dead,.dead,.dead,.dead,.dead,.dead,.dead,.dead,.dead,.dead,.dead,.dead,.dead,.dead,.dead,.dead,.dead,.dead,.dead,.dead,.dead,.dead,.dead,.dead,.dead,.dead,.dead,.dead,.dead,.dead,.dead,.dead,.dead,.dead,.dead,.dead,.dead,.dead,.dead,.dead,.dead,.dead,.dead,.dead,.dead,.dead,.dead,.dead,.dead,.dead,.dead,.dead,.dead,.dead,.dead,.dead] .busy none),(7,.kept 1 [.dead,.dead,.ref 0 0,.ref 1 0,.ref 2 0,.dead,.dead,.dead,.dead,.dead,.dead,.fn 40 [.ref 4 0,.ref 5 0],.dead,.dead,.dead,.dead,.dead,.dead,.dead,.dead,.dead,.dead,.dead,.dead,.dead,.dead,.dead,.dead,.dead,.dead,.dead,.dead,.dead,.dead,.dead,.dead,.dead,.dead,.dead,.dead,.dead,.dead,.dead,.dead,.dead,.dead,.dead,.dead,.dead,.dead,.dead,.dead,.dead,.dead,.dead,.dead,.dead,.dead,.dead,.dead,.dead,.dead,.dead,.dead,.dead,.dead,.dead,.dead,.dead,.dead,.dead,.dead,.dead,.dead,.dead,.dead,.dead,.dead,.dead,.dead,.dead,.dead,.dead,.dead,.dead,.dead,.dead,.dead,.dead,.dead,.dead]),(8,.kept 2 [.yld 6,.ref 4 0,.dead,.dead,.dead,.int .i64 x280.next,.dead,.dead,.dead,.dead,.dead,.dead,.dead,.dead,.dead,.dead,.dead,.dead,.dead,.dead,.yld 6,.int .i64 v268,.dead,.dead,.dead]),(1000,.blk 60 (mixD aB.toEnc0 (w20 a1 a2 a3 a4 a5) a6 [.int .i64 a7,.osl 1001 (eInt .i64).sz a8.length])),(1001,.blk 3 (D.flat (a8.map (eInt .i64).d)))]⟩,(fun i=>i),⟨(.sames rfl rfl),(.cons (.blk rfl rfl rfl) (.cons (.blk rfl rfl rfl) (.cons (.blk rfl rfl rfl) (.cons (.blk rfl rfl rfl) (.cons (.blk rfl rfl rfl) (.cons (.loop rfl rfl rfl) (.cons (.kept rfl rfl rfl) (.cons (.kept rfl rfl rfl) (.cons (EntW.mix aB rfl (SubC.of_eq rfl) (SubC.of_eq rfl) rfl rfl) (.cons (EntW.lst rfl) .nil)))))))))),bB [0,1,2,4,5,6,7,8,1000,1001] rfl (by decide),fun _ _=>rfl⟩,?_⟩
      refine bA ?_
      obtain ⟨x281,hx281,h⟩:=aS h
      obtain ⟨x282,hx282,h⟩:=aS h
      obtain ⟨x283,hx283,h⟩:=aR h
      refine jF rfl [⟨[4],[2],[(13,.int .i64 v269)],[]⟩,
       ⟨[2],[0],[(14,.ref 1000 0)],[]⟩,
       ⟨[5],[],[(15,.int .i64 v268)],[]⟩,
       ⟨[14],[],[(16,.ref 1000 0)],[]⟩,
       ⟨[16],[],[(17,.ref 1000 5)],[]⟩,
       ⟨[15,17],[],[(18,.ref 1000 (5 + (((v268 : Int).toNat) * aB.sz + 0)))],[]⟩,
       ⟨[18],[],[(19,.ref 1000 (5 + (((v268 : Int).toNat) * aB.sz + 4)))],[]⟩,
       ⟨[19],[1000],[(20,.int .i64 x282.weight)],[]⟩,
       ⟨[13,20],[],[(21,.int .i64 x283)],[]⟩,
       ⟨[4,21],[2],[],[(2,.blk 3 [.int .i64 x283])]⟩] rfl ?_ (by kernel_rfl) ?_
      ·refine .cons (lop rfl rfl fun S hA=>(aK (d:=.int _ _) rfl rfl (lb rfl) Try.underlying3 ag3 ti3 (by decide) (svaR hA rfl rfl) (agi hA rfl rfl) (nle rfl) rfl)) ?_
       refine .cons (lop rfl rfl fun S hA=>(aK (d:=.ref _ _) rfl rfl (lb rfl) Try.underlying26 ag26 ti26 (by decide) (svaR hA rfl rfl) (agi hA rfl rfl) (nle rfl) rfl)) ?_
       refine .cons (lop rfl rfl fun S hA=>(aN rfl rfl (lb rfl) (svaI hA rfl rfl))) ?_
       refine .cons (lop rfl rfl fun S hA=>(aJ rfl rfl (lb rfl) (svaR hA rfl rfl))) ?_
       refine .cons (lop rfl rfl fun S hA=>(aV rfl rfl (lb rfl) Try.underlying60 rfl ti58 (by decide) (svaR hA rfl rfl) (off':=5) rfl)) ?_
       refine .cons (lop rfl rfl fun S hA=>(bX aB.toEnc0 rfl rfl (lb rfl) Try.underlying58 ti57 (svaR hA rfl rfl) hk259 (svaI hA rfl rfl) hx281)) ?_
       refine .cons (lop rfl rfl fun S hA=>(bJ rfl rfl (lb rfl) Try.underlying57 rfl ti3 (by decide) (svaR hA rfl rfl) (k':=4) rfl)) ?_
       refine .cons (lop rfl rfl fun S hA=>(bP aB.toEnc0 (b:=5) (k:=4) (d:=.int _ _) rfl rfl (lb rfl) Try.underlying3 ag3 ti3 (by decide) (svaR hA rfl rfl) (agi hA rfl rfl) rfl hx282 (nle rfl) rfl)) ?_
       refine .cons (lop rfl rfl fun S hA=>(cQ rfl rfl (lb rfl) (svaI hA rfl rfl) (svaI hA rfl rfl) rfl hx283)) ?_
       refine .cons (lop rfl rfl fun S hA=>(eZ (ds':=[.int _ _]) rfl rfl ti3 (svaR hA rfl rfl) (agi hA rfl rfl) (svaI hA rfl rfl) rfl rfl rfl (nle rfl) rfl)) ?_
       exact .nil
      refine bR ?_
      refine ⟨6,8,_,_,none,rfl,rfl,rfl,rfl,(by decide),⟨[(0,.yld 6),(1,.ref 4 0),(5,.int .i64 x280.next),(22,.bool true)],[(0,.blk 26 [.ref 1000 0]),(1,.blk 3 [.int .i64 a0]),(2,.blk 3 [.int .i64 x283]),(4,.blk 26 [.ref 1000 0]),(5,.blk 3 [.int .i64 a0]),(6,.loop 1 [.dead,.dead,.ref 0 0,.ref 1 0,.ref 2 0,.dead,.dead,.dead,.dead,.dead,.dead,.fn 40 [.ref 4 0,.ref 5 0],.dead,.dead,.dead,.dead,.dead,.dead,.dead,.dead,.dead,.dead,.dead,.dead,.dead,.dead,.dead,.dead,.dead,.dead,.dead,.dead,.dead,.dead,.dead,.dead,.dead,.dead,.dead,.dead,.dead,.dead,.dead,.dead,.dead,.dead,.dead,.dead,.dead,.dead,.dead,.dead,.dead,.dead,.dead,.dead,.dead,.dead,.dead,.dead,.dead,.dead,.dead,.dead,.dead,.dead,.dead,.dead,.dead,.dead,.dead,.dead,.dead,.dead,.dead,.dead,.dead,.dead,.dead,.dead,.dead,.dead,.dead,.dead,.dead,.dead,.dead,.dead,.dead,.dead,.dead] .ready none),(7,.kept 1 [.dead,.dead,.ref 0 0,.ref 1 0,.ref 2 0,.dead,.dead,.dead,.dead,.dead,.dead,.fn 40 [.ref 4 0,.ref 5 0],.dead,.dead,.dead,.dead,.dead,.dead,.dead,.dead,.dead,.dead,.dead,.dead,.dead,.dead,.dead,.dead,.dead,.dead,.dead,.dead,.dead,.dead,.dead,.dead,.dead,.dead,.dead,.dead,.dead,.dead,.dead,.dead,.dead,.dead,.dead,.dead,.dead,.dead,.dead,.dead,.dead,.dead,.dead,.dead,.dead,.dead,.dead,.dead,.dead,.dead,.dead,.dead,.dead,.dead,.dead,.dead,.dead,.dead,.dead,.dead,.dead,.dead,.dead,.dead,.dead,.dead,.dead,.dead,.dead,.dead,.dead,.dead,.dead,.dead,.dead,.dead,.dead,.dead,.dead]),(1000,.blk 60 (mixD aB.toEnc0 (w20 a1 a2 a3 a4 a5) a6 [.int .i64 a7,.osl 1001 (eInt .i64).sz a8.length])),(1001,.blk 3 (D.flat (a8.map (eInt .i64).d)))]⟩,(fun i=>i),⟨(.sames rfl rfl),(.cons (.blk rfl rfl rfl) (.cons (.blk rfl rfl rfl) (.cons (.blk rfl rfl rfl) (.cons (.blk rfl rfl rfl) (.cons (.blk rfl rfl rfl) (.cons (.loop rfl rfl rfl) (.cons (.kept rfl rfl rfl) (.cons (EntW.mix aB rfl (SubC.of_eq rfl) (SubC.of_eq rfl) rfl rfl) (.cons (EntW.lst rfl) .nil))))))))),bB [0,1,2,4,5,6,7,1000,1001] rfl (by decide),fun _ _=>rfl⟩,?_⟩
      refine aA rfl (eG rfl rfl (lb rfl) (svB rfl)) <|aD ?_
      refine fD rfl rfl ?_
      refine aU ?_
      refine aL ?_
      refine aW (aA rfl (mvI rfl rfl rfl rfl) <|aA rfl (asI rfl rfl rfl rfl) <|bL ?_)
      refine bR ?_
      refine aL ⟨(n8,x280.next,x283),(fun i=>i),⟨(.sames rfl rfl),(.cons (.loop rfl rfl rfl) (.cons (.blk rfl rfl rfl) (.cons (.kept rfl rfl rfl) (.cons (EntW.mix aB rfl (SubC.of_eq rfl) (SubC.of_eq rfl) rfl rfl) (.cons (EntW.lst rfl) (.cons (.blk rfl rfl rfl) (.cons (.blk rfl rfl rfl) (.cons (.blk rfl rfl rfl) (.cons (.blk rfl rfl rfl) .nil))))))))),bB [6,4,7,1000,1001,0,1,2,5] rfl (by decide),fun _ _=>rfl⟩,?_,?_⟩
      exact h
      exact Nat.lt_succ_self _
     ·
      replace h:=bZ h hc278
      refine dD ?_
      refine bV ?_
      refine bV ?_
      refine dE ?_
      refine ⟨.inl rfl,6,7,_,_,_,_,rfl,(by simp),rfl,rfl,⟨[(2,.ref 0 0),(3,.ref 1 0),(4,.ref 2 0)],[(0,.blk 26 [.ref 1000 0]),(1,.blk 3 [.int .i64 a0]),(2,.blk 3 [.int .i64 v269]),(1000,.blk 60 (mixD aB.toEnc0 (w20 a1 a2 a3 a4 a5) a6 [.int .i64 a7,.osl 1001 (eInt .i64).sz a8.length])),(1001,.blk 3 (D.flat (a8.map (eInt .i64).d)))]⟩,(fun i=>i),⟨(.sames rfl rfl),(.cons (.blk rfl rfl rfl) (.cons (.blk rfl rfl rfl) (.cons (.blk rfl rfl rfl) (.cons (EntW.mix aB rfl (SubC.of_eq rfl) (SubC.of_eq rfl) rfl rfl) (.cons (EntW.lst rfl) .nil))))),bB [0,1,2,1000,1001] rfl (by decide),fun _ _=>rfl⟩,?_⟩
      refine bR ?_
      refine aL ⟨v269,(fun i=>i),⟨(.sames rfl rfl),(.cons (.blk rfl rfl rfl) (.cons (.blk rfl rfl rfl) (.cons (.blk rfl rfl rfl) (.cons (EntW.mix aB rfl (SubC.of_eq rfl) (SubC.of_eq rfl) rfl rfl) (.cons (EntW.lst rfl) .nil))))),bB [0,1,2,1000,1001] rfl (by decide),fun _ _=>rfl⟩,?_⟩
      exact h
 ·
  rintro v53 h
  unfold fY at h
  refine aF (aA rfl (aK (d:=.ref _ _) rfl rfl (lb rfl) Try.underlying26 ag26 ti26 (by decide) (svR rfl) rfl (nle rfl) rfl) <|aA rfl (aK (d:=.int _ _) rfl rfl (lb rfl) Try.underlying3 ag3 ti3 (by decide) (svR rfl) rfl (nle rfl) rfl) <|?_)
  refine eR (S':=⟨[(2,.ref 0 0),(3,.ref 1 0),(4,.ref 2 0),(22,.ref 1000 0),(23,.int .i64 a0)],[(0,.blk 26 [.ref 1000 0]),(1,.blk 3 [.int .i64 a0]),(2,.blk 3 [.int .i64 v53]),(1000,.blk 60 (mixD aB.toEnc0 (w20 a1 a2 a3 a4 a5) a6 [.int .i64 a7,.osl 1001 (eInt .i64).sz a8.length])),(1001,.blk 3 (D.flat (a8.map (eInt .i64).d)))]⟩) (fun i=>i) ⟨(.sames rfl rfl),(.cons (.blk rfl rfl rfl) (.cons (.blk rfl rfl rfl) (.cons (.blk rfl rfl rfl) (.cons (EntW.mix aB rfl (SubC.of_eq rfl) (SubC.of_eq rfl) rfl rfl) (.cons (EntW.lst rfl) .nil))))),bB [0,1,2,1000,1001] rfl (by decide),fun _ _=>rfl⟩ ?_
  refine iI 1 3 rfl rfl rfl (by decide) cl29 Try.func29 rfl (.cons (svR rfl) (.cons (svI rfl) .nil)) Try.ntmps29 (nle rfl) rfl hO.semiL fun O1 hO1=>?_
  show IWP _ _ _ _ ⟨[(0,.ref 1000 0),(1,.int .i64 a0)],[(3,.kept 1 [.dead,.dead,.ref 0 0,.ref 1 0,.ref 2 0,.dead,.dead,.dead,.dead,.dead,.dead,.dead,.dead,.dead,.dead,.dead,.dead,.dead,.dead,.dead,.dead,.dead,.ref 1000 0,.int .i64 a0,.dead,.dead,.dead,.dead,.dead,.dead,.dead,.dead,.dead,.dead,.dead,.dead,.dead,.dead,.dead,.dead,.dead,.dead,.dead,.dead,.dead,.dead,.dead,.dead,.dead,.dead,.dead,.dead,.dead,.dead,.dead,.dead,.dead,.dead,.dead,.dead,.dead,.dead,.dead,.dead,.dead,.dead,.dead,.dead,.dead,.dead,.dead,.dead,.dead,.dead,.dead,.dead,.dead,.dead,.dead,.dead,.dead,.dead,.dead,.dead,.dead,.dead,.dead,.dead,.dead,.dead,.dead]),(0,.blk 26 [.ref 1000 0]),(1,.blk 3 [.int .i64 a0]),(2,.blk 3 [.int .i64 v53]),(1000,.blk 60 (mixD aB.toEnc0 (w20 a1 a2 a3 a4 a5) a6 [.int .i64 a7,.osl 1001 (eInt .i64).sz a8.length])),(1001,.blk 3 (D.flat (a8.map (eInt .i64).d)))]⟩ _
  refine aF (aA rfl (eD (cs:=[.ref _ _]) 4 rfl rfl (lb rfl) rfl (svR rfl) rfl rfl) <|aA rfl (eD (cs:=[.int _ _]) 5 rfl rfl (lb rfl) rfl (svI rfl) rfl rfl) <|aA rfl (aH rfl rfl (lb rfl) (sv (d:=.nilf) rfl)) <|aD ?_)
  refine aF (aA rfl (kD rfl rfl (lb rfl) (.cons (svR rfl) (.cons (svR rfl) .nil))) <|aA rfl (aH rfl rfl (lb rfl) (sv (d:=.fn 40 q16) rfl)) <|aD ?_)
  refine bD ?_
  refine ⟨.inr rfl,3,_,[.fn 40 [.ref 4 0,.ref 5 0]],(.cons (sv rfl) .nil),rfl,rfl,⟨[(2,.ref 0 0),(3,.ref 1 0),(4,.ref 2 0),(24,.fn 40 [.ref 4 0,.ref 5 0])],[(0,.blk 26 [.ref 1000 0]),(1,.blk 3 [.int .i64 a0]),(2,.blk 3 [.int .i64 v53]),(4,.blk 26 [.ref 1000 0]),(5,.blk 3 [.int .i64 a0]),(1000,.blk 60 (mixD aB.toEnc0 (w20 a1 a2 a3 a4 a5) a6 [.int .i64 a7,.osl 1001 (eInt .i64).sz a8.length])),(1001,.blk 3 (D.flat (a8.map (eInt .i64).d)))]⟩,(fun i=>i),⟨(.sames rfl rfl),(.cons (.blk rfl rfl rfl) (.cons (.blk rfl rfl rfl) (.cons (.blk rfl rfl rfl) (.cons (.blk rfl rfl rfl) (.cons (.blk rfl rfl rfl) (.cons (EntW.mix aB rfl (SubC.of_eq rfl) (SubC.of_eq rfl) rfl rfl) (.cons (EntW.lst rfl) .nil))))))),bB [0,1,2,4,5,1000,1001] rfl (by decide),fun _ _=>rfl⟩,?_⟩
  refine eR (S':=⟨[(2,.ref 0 0),(3,.ref 1 0),(4,.ref 2 0),(24,.fn 40 [.ref 4 0,.ref 5 0])],[(0,.blk 26 [.ref 1000 0]),(1,.blk 3 [.int .i64 a0]),(2,.blk 3 [.int .i64 v53]),(4,.blk 26 [.ref 1000 0]),(5,.blk 3 [.int .i64 a0]),(1000,.blk 60 (mixD aB.toEnc0 (w20 a1 a2 a3 a4 a5) a6 [.int .i64 a7,.osl 1001 (eInt .i64).sz a8.length])),(1001,.blk 3 (D.flat (a8.map (eInt .i64).d)))]⟩) (fun i=>i) ⟨(.sames rfl rfl),(.cons (.blk rfl rfl rfl) (.cons (.blk rfl rfl rfl) (.cons (.blk rfl rfl rfl) (.cons (.blk rfl rfl rfl) (.cons (.blk rfl rfl rfl) (.cons (EntW.mix aB rfl (SubC.of_eq rfl) (SubC.of_eq rfl) rfl rfl) (.cons (EntW.lst rfl) .nil))))))),bB [0,1,2,4,5,1000,1001] rfl (by decide),fun _ _=>rfl⟩ ?_
  refine iI 1 6 rfl rfl rfl (by decide) cl47 Try.func47 rfl (.cons (sv (d:=.fn 40 q16) rfl) .nil) Try.ntmps47 (nle rfl) rfl hO.semiL fun O1 hO1=>?_
  show IWP _ _ _ _ ⟨[(0,.fn 40 [.ref 4 0,.ref 5 0])],[(6,.kept 1 [.dead,.dead,.ref 0 0,.ref 1 0,.ref 2 0,.dead,.dead,.dead,.dead,.dead,.dead,.dead,.dead,.dead,.dead,.dead,.dead,.dead,.dead,.dead,.dead,.dead,.dead,.dead,.fn 40 [.ref 4 0,.ref 5 0],.dead,.dead,.dead,.dead,.dead,.dead,.dead,.dead,.dead,.dead,.dead,.dead,.dead,.dead,.dead,.dead,.dead,.dead,.dead,.dead,.dead,.dead,.dead,.dead,.dead,.dead,.dead,.dead,.dead,.dead,.dead,.dead,.dead,.dead,.dead,.dead,.dead,.dead,.dead,.dead,.dead,.dead,.dead,.dead,.dead,.dead,.dead,.dead,.dead,.dead,.dead,.dead,.dead,.dead,.dead,.dead,.dead,.dead,.dead,.dead,.dead,.dead,.dead,.dead,.dead,.dead]),(0,.blk 26 [.ref 1000 0]),(1,.blk 3 [.int .i64 a0]),(2,.blk 3 [.int .i64 v53]),(4,.blk 26 [.ref 1000 0]),(5,.blk 3 [.int .i64 a0]),(1000,.blk 60 (mixD aB.toEnc0 (w20 a1 a2 a3 a4 a5) a6 [.int .i64 a7,.osl 1001 (eInt .i64).sz a8.length])),(1001,.blk 3 (D.flat (a8.map (eInt .i64).d)))]⟩ _
  refine aF (aA rfl (aH rfl rfl (lb rfl) (sv (d:=.nils) rfl)) <|aD ?_)
  refine aF (aA rfl (aN rfl rfl (lb rfl) (sv (d:=.fn 40 q16) rfl)) <|?_)
  refine eR (S':=⟨[(3,.fn 40 [.ref 4 0,.ref 5 0])],[(0,.blk 26 [.ref 1000 0]),(1,.blk 3 [.int .i64 a0]),(2,.blk 3 [.int .i64 v53]),(4,.blk 26 [.ref 1000 0]),(5,.blk 3 [.int .i64 a0]),(6,.kept 1 [.dead,.dead,.ref 0 0,.ref 1 0,.ref 2 0,.dead,.dead,.dead,.dead,.dead,.dead,.dead,.dead,.dead,.dead,.dead,.dead,.dead,.dead,.dead,.dead,.dead,.dead,.dead,.fn 40 [.ref 4 0,.ref 5 0],.dead,.dead,.dead,.dead,.dead,.dead,.dead,.dead,.dead,.dead,.dead,.dead,.dead,.dead,.dead,.dead,.dead,.dead,.dead,.dead,.dead,.dead,.dead,.dead,.dead,.dead,.dead,.dead,.dead,.dead,.dead,.dead,.dead,.dead,.dead,.dead,.dead,.dead,.dead,.dead,.dead,.dead,.dead,.dead,.dead,.dead,.dead,.dead,.dead,.dead,.dead,.dead,.dead,.dead,.dead,.dead,.dead,.dead,.dead,.dead,.dead,.dead,.dead,.dead,.dead,.dead]),(1000,.blk 60 (mixD aB.toEnc0 (w20 a1 a2 a3 a4 a5) a6 [.int .i64 a7,.osl 1001 (eInt .i64).sz a8.length])),(1001,.blk 3 (D.flat (a8.map (eInt .i64).d)))]⟩) (fun i=>i) ⟨(.sames rfl rfl),(.cons (.blk rfl rfl rfl) (.cons (.blk rfl rfl rfl) (.cons (.blk rfl rfl rfl) (.cons (.blk rfl rfl rfl) (.cons (.blk rfl rfl rfl) (.cons (.kept rfl rfl rfl) (.cons (EntW.mix aB rfl (SubC.of_eq rfl) (SubC.of_eq rfl) rfl rfl) (.cons (EntW.lst rfl) .nil)))))))),bB [0,1,2,4,5,6,1000,1001] rfl (by decide),fun _ _=>rfl⟩ ?_
  refine iI 2 7 rfl rfl rfl (by decide) cl77 Try.func77 rfl (.cons (sv (d:=.nils) rfl) (.cons (sv (d:=.fn 40 q16) rfl) .nil)) Try.ntmps77 (nle rfl) rfl hO1 fun O2 hO2=>?_
  show IWP _ _ _ _ ⟨[(0,.nils),(1,.fn 40 [.ref 4 0,.ref 5 0])],[(7,.kept 2 [.dead,.dead,.dead,.fn 40 [.ref 4 0,.ref 5 0],.dead]),(0,.blk 26 [.ref 1000 0]),(1,.blk 3 [.int .i64 a0]),(2,.blk 3 [.int .i64 v53]),(4,.blk 26 [.ref 1000 0]),(5,.blk 3 [.int .i64 a0]),(6,.kept 1 [.dead,.dead,.ref 0 0,.ref 1 0,.ref 2 0,.dead,.dead,.dead,.dead,.dead,.dead,.dead,.dead,.dead,.dead,.dead,.dead,.dead,.dead,.dead,.dead,.dead,.dead,.dead,.fn 40 [.ref 4 0,.ref 5 0],.dead,.dead,.dead,.dead,.dead,.dead,.dead,.dead,.dead,.dead,.dead,.dead,.dead,.dead,.dead,.dead,.dead,.dead,.dead,.dead,.dead,.dead,.dead,.dead,.dead,.dead,.dead,.dead,.dead,.dead,.dead,.dead,.dead,.dead,.dead,.dead,.dead,.dead,.dead,.dead,.dead,.dead,.dead,.dead,.dead,.dead,.dead,.dead,.dead,.dead,.dead,.dead,.dead,.dead,.dead,.dead,.dead,.dead,.dead,.dead,.dead,.dead,.dead,.dead,.dead,.dead]),(1000,.blk 60 (mixD aB.toEnc0 (w20 a1 a2 a3 a4 a5) a6 [.int .i64 a7,.osl 1001 (eInt .i64).sz a8.length])),(1001,.blk 3 (D.flat (a8.map (eInt .i64).d)))]⟩ _
  refine aF (aA rfl (eD (cs:=[.nils]) 8 rfl rfl (lb rfl) rfl (sv (d:=.nils) rfl) rfl rfl) <|aA rfl (aH rfl rfl (lb rfl) (sv (d:=.nils) rfl)) <|aD ?_)
  refine aT ?_
  refine aF (aA rfl (aN rfl rfl (lb rfl) (sv (d:=.fn 40 q16) rfl)) <|aD ?_)
  refine bA ?_
  refine mM (S':=⟨[(2,.ref 8 0),(6,.fn 40 [.ref 4 0,.ref 5 0])],[(0,.blk 26 [.ref 1000 0]),(1,.blk 3 [.int .i64 a0]),(2,.blk 3 [.int .i64 v53]),(4,.blk 26 [.ref 1000 0]),(5,.blk 3 [.int .i64 a0]),(6,.kept 1 [.dead,.dead,.ref 0 0,.ref 1 0,.ref 2 0,.dead,.dead,.dead,.dead,.dead,.dead,.dead,.dead,.dead,.dead,.dead,.dead,.dead,.dead,.dead,.dead,.dead,.dead,.dead,.fn 40 [.ref 4 0,.ref 5 0],.dead,.dead,.dead,.dead,.dead,.dead,.dead,.dead,.dead,.dead,.dead,.dead,.dead,.dead,.dead,.dead,.dead,.dead,.dead,.dead,.dead,.dead,.dead,.dead,.dead,.dead,.dead,.dead,.dead,.dead,.dead,.dead,.dead,.dead,.dead,.dead,.dead,.dead,.dead,.dead,.dead,.dead,.dead,.dead,.dead,.dead,.dead,.dead,.dead,.dead,.dead,.dead,.dead,.dead,.dead,.dead,.dead,.dead,.dead,.dead,.dead,.dead,.dead,.dead,.dead,.dead]),(7,.kept 2 [.dead,.dead,.dead,.fn 40 [.ref 4 0,.ref 5 0],.dead]),(8,.blk 24 [.nils]),(1000,.blk 60 (mixD aB.toEnc0 (w20 a1 a2 a3 a4 a5) a6 [.int .i64 a7,.osl 1001 (eInt .i64).sz a8.length])),(1001,.blk 3 (D.flat (a8.map (eInt .i64).d)))]⟩) (fun i=>i) ⟨(.sames rfl rfl),(.cons (.blk rfl rfl rfl) (.cons (.blk rfl rfl rfl) (.cons (.blk rfl rfl rfl) (.cons (.blk rfl rfl rfl) (.cons (.blk rfl rfl rfl) (.cons (.kept rfl rfl rfl) (.cons (.kept rfl rfl rfl) (.cons (.blk rfl rfl rfl) (.cons (EntW.mix aB rfl (SubC.of_eq rfl) (SubC.of_eq rfl) rfl rfl) (.cons (EntW.lst rfl) .nil)))))))))),bB [0,1,2,4,5,6,7,8,1000,1001] rfl (by decide),fun _ _=>rfl⟩ ?_
  refine nA 3 9 10 (sv (d:=.fn 40 q16) rfl) cl40 Try.func40 rfl rfl Try.ntmps40 (nle rfl) rfl rfl hO2 (List.forall_mem_cons.2 ⟨⟨7,_,rfl⟩,List.forall_mem_cons.2 ⟨⟨6,_,rfl⟩,List.forall_mem_nil _⟩⟩) fun O3 hO3 hlc3=>?_
  show IWP _ _ _ _ ⟨[(0,.yld 9),(1,.ref 4 0),(2,.ref 5 0)],[(10,.kept 3 [.dead,.dead,.ref 8 0,.dead,.dead,.dead,.fn 40 [.ref 4 0,.ref 5 0],.dead,.dead,.dead,.dead,.dead,.dead]),(9,.loop 3 [.dead,.dead,.ref 8 0,.dead,.dead,.dead,.fn 40 [.ref 4 0,.ref 5 0],.dead,.dead,.dead,.dead,.dead,.dead] .ready none),(0,.blk 26 [.ref 1000 0]),(1,.blk 3 [.int .i64 a0]),(2,.blk 3 [.int .i64 v53]),(4,.blk 26 [.ref 1000 0]),(5,.blk 3 [.int .i64 a0]),(6,.kept 1 [.dead,.dead,.ref 0 0,.ref 1 0,.ref 2 0,.dead,.dead,.dead,.dead,.dead,.dead,.dead,.dead,.dead,.dead,.dead,.dead,.dead,.dead,.dead,.dead,.dead,.dead,.dead,.fn 40 [.ref 4 0,.ref 5 0],.dead,.dead,.dead,.dead,.dead,.dead,.dead,.dead,.dead,.dead,.dead,.dead,.dead,.dead,.dead,.dead,.dead,.dead,.dead,.dead,.dead,.dead,.dead,.dead,.dead,.dead,.dead,.dead,.dead,.dead,.dead,.dead,.dead,.dead,.dead,.dead,.dead,.dead,.dead,.dead,.dead,.dead,.dead,.dead,.dead,.dead,.dead,.dead,.dead,.dead,.dead,.dead,.dead,.dead,.dead,.dead,.dead,.dead,.dead,.dead,.dead,.dead,.dead,.dead,.dead,.dead]),(7,.kept 2 [.dead,.dead,.dead,.fn 40 [.ref 4 0,.ref 5 0],.dead]),(8,.blk 24 [.nils]),(1000,.blk 60 (mixD aB.toEnc0 (w20 a1 a2 a3 a4 a5) a6 [.int .i64 a7,.osl 1001 (eInt .i64).sz a8.length])),(1001,.blk 3 (D.flat (a8.map (eInt .i64).d)))]⟩ _
  refine aF (aA rfl (aK (d:=.ref _ _) rfl rfl (lb rfl) Try.underlying26 ag26 ti26 (by decide) (svR rfl) rfl (nle rfl) rfl) <|aA rfl (aK (d:=.int _ _) rfl rfl (lb rfl) Try.underlying3 ag3 ti3 (by decide) (svR rfl) rfl (nle rfl) rfl) <|?_)
  refine eR (S':=⟨[(0,.yld 9),(1,.ref 4 0),(6,.ref 1000 0),(7,.int .i64 a0)],[(0,.blk 26 [.ref 1000 0]),(1,.blk 3 [.int .i64 a0]),(2,.blk 3 [.int .i64 v53]),(4,.blk 26 [.ref 1000 0]),(5,.blk 3 [.int .i64 a0]),(6,.kept 1 [.dead,.dead,.ref 0 0,.ref 1 0,.ref 2 0,.dead,.dead,.dead,.dead,.dead,.dead,.dead,.dead,.dead,.dead,.dead,.dead,.dead,.dead,.dead,.dead,.dead,.dead,.dead,.fn 40 [.ref 4 0,.ref 5 0],.dead,.dead,.dead,.dead,.dead,.dead,.dead,.dead,.dead,.dead,.dead,.dead,.dead,.dead,.dead,.dead,.dead,.dead,.dead,.dead,.dead,.dead,.dead,.dead,.dead,.dead,.dead,.dead,.dead,.dead,.dead,.dead,.dead,.dead,.dead,.dead,.dead,.dead,.dead,.dead,.dead,.dead,.dead,.dead,.dead,.dead,.dead,.dead,.dead,.dead,.dead,.dead,.dead,.dead,.dead,.dead,.dead,.dead,.dead,.dead,.dead,.dead,.dead,.dead,.dead,.dead]),(7,.kept 2 [.dead,.dead,.dead,.fn 40 [.ref 4 0,.ref 5 0],.dead]),(8,.blk 24 [.nils]),(9,.loop 3 [.dead,.dead,.ref 8 0,.dead,.dead,.dead,.fn 40 [.ref 4 0,.ref 5 0],.dead,.dead,.dead,.dead,.dead,.dead] .ready none),(10,.kept 3 [.dead,.dead,.ref 8 0,.dead,.dead,.dead,.fn 40 [.ref 4 0,.ref 5 0],.dead,.dead,.dead,.dead,.dead,.dead]),(1000,.blk 60 (mixD aB.toEnc0 (w20 a1 a2 a3 a4 a5) a6 [.int .i64 a7,.osl 1001 (eInt .i64).sz a8.length])),(1001,.blk 3 (D.flat (a8.map (eInt .i64).d)))]⟩) (fun i=>i) ⟨(.sames rfl rfl),(.cons (.blk rfl rfl rfl) (.cons (.blk rfl rfl rfl) (.cons (.blk rfl rfl rfl) (.cons (.blk rfl rfl rfl) (.cons (.blk rfl rfl rfl) (.cons (.kept rfl rfl rfl) (.cons (.kept rfl rfl rfl) (.cons (.blk rfl rfl rfl) (.cons (.loop rfl rfl rfl) (.cons (.kept rfl rfl rfl) (.cons (EntW.mix aB rfl (SubC.of_eq rfl) (SubC.of_eq rfl) rfl rfl) (.cons (EntW.lst rfl) .nil)))))))))))),bB [0,1,2,4,5,6,7,8,9,10,1000,1001] rfl (by decide),fun _ _=>rfl⟩ ?_
  refine iI 4 11 rfl rfl rfl (by decide) cl41 Try.func41 rfl (.cons (svR rfl) (.cons (svI rfl) .nil)) Try.ntmps41 (nle rfl) rfl hO3 fun O4 hO4=>?_
  show IWP _ _ _ _ ⟨[(0,.ref 1000 0),(1,.int .i64 a0)],[(11,.kept 4 [.yld 9,.ref 4 0,.dead,.dead,.dead,.dead,.ref 1000 0,.int .i64 a0,.dead,.dead,.dead,.dead,.dead,.dead,.dead,.dead,.dead,.dead,.dead,.dead,.dead,.dead,.dead,.dead,.dead]),(0,.blk 26 [.ref 1000 0]),(1,.blk 3 [.int .i64 a0]),(2,.blk 3 [.int .i64 v53]),(4,.blk 26 [.ref 1000 0]),(5,.blk 3 [.int .i64 a0]),(6,.kept 1 [.dead,.dead,.ref 0 0,.ref 1 0,.ref 2 0,.dead,.dead,.dead,.dead,.dead,.dead,.dead,.dead,.dead,.dead,.dead,.dead,.dead,.dead,.dead,.dead,.dead,.dead,.dead,.fn 40 [.ref 4 0,.ref 5 0],.dead,.dead,.dead,.dead,.dead,.dead,.dead,.dead,.dead,.dead,.dead,.dead,.dead,.dead,.dead,.dead,.dead,.dead,.dead,.dead,.dead,.dead,.dead,.dead,.dead,.dead,.dead,.dead,.dead,.dead,.dead,.dead,.dead,.dead,.dead,.dead,.dead,.dead,.dead,.dead,.dead,.dead,.dead,.dead,.dead,.dead,.dead,.dead,.dead,.dead,.dead,.dead,.dead,.dead,.dead,.dead,.dead,.dead,.dead,.dead,.dead,.dead,.dead,.dead,.dead,.dead]),(7,.kept 2 [.dead,.dead,.dead,.fn 40 [.ref 4 0,.ref 5 0],.dead]),(8,.blk 24 [.nils]),(9,.loop 3 [.dead,.dead,.ref 8 0,.dead,.dead,.dead,.fn 40 [.ref 4 0,.ref 5 0],.dead,.dead,.dead,.dead,.dead,.dead] .ready none),(10,.kept 3 [.dead,.dead,.ref 8 0,.dead,.dead,.dead,.fn 40 [.ref 4 0,.ref 5 0],.dead,.dead,.dead,.dead,.dead,.dead]),(1000,.blk 60 (mixD aB.toEnc0 (w20 a1 a2 a3 a4 a5) a6 [.int .i64 a7,.osl 1001 (eInt .i64).sz a8.length])),(1001,.blk 3 (D.flat (a8.map (eInt .i64).d)))]⟩ _
  refine aF (aA rfl (aH rfl rfl (lb rfl) (sv (d:=.nilp) rfl)) <|aD ?_)
  refine aT ?_
  obtain ⟨x54,hx54,h⟩:=aR h
  refine aF (aA rfl (mvI rfl rfl rfl rfl) <|aA rfl (aM rfl rfl (lb rfl) (svI rfl) (sv (d:=.int _ (-1)) rfl) rfl hx54) <|aD ?_)
  refine aX (b:=_) rfl (fun hc55=>?_) (fun hc55=>?_)
  ·
   replace h:=bY h hc55
   refine aF (aA rfl (mvR rfl rfl rfl rfl) <|aA rfl (aJ rfl rfl (lb rfl) (svR rfl)) <|aA rfl (faR 389 rfl rfl rfl Try.underlying60 rfl ti3 (lb rfl) rfl rfl) <|aA rfl (aH rfl rfl (lb rfl) (svR rfl)) <|aD ?_)
   refine bD ?_
   refine bS ?_
   refine ⟨.inr rfl,11,_,[.ref 1000 389],(.cons (sv rfl) .nil),rfl,rfl,⟨[(0,.yld 9),(1,.ref 4 0),(8,.ref 1000 389)],[(0,.blk 26 [.ref 1000 0]),(1,.blk 3 [.int .i64 a0]),(2,.blk 3 [.int .i64 v53]),(4,.blk 26 [.ref 1000 0]),(5,.blk 3 [.int .i64 a0]),(6,.kept 1 [.dead,.dead,.ref 0 0,.ref 1 0,.ref 2 0,.dead,.dead,.dead,.dead,.dead,.dead,.dead,.dead,.dead,.dead,.dead,.dead,.dead,.dead,.dead,.dead,.dead,.dead,.dead,.fn 40 [.ref 4 0,.ref 5 0],.dead,.dead,.dead,.dead,.dead,.dead,.dead,.dead,.dead,.dead,.dead,.dead,.dead,.dead,.dead,.dead,.dead,.dead,.dead,.dead,.dead,.dead,.dead,.dead,.dead,.dead,.dead,.dead,.dead,.dead,.dead,.dead,.dead,.dead,.dead,.dead,.dead,.dead,.dead,.dead,.dead,.dead,.dead,.dead,.dead,.dead,.dead,.dead,.dead,.dead,.dead,.dead,.dead,.dead,.dead,.dead,.dead,.dead,.dead,.dead,.dead,.dead,.dead,.dead,.dead,.dead]),(7,.kept 2 [.dead,.dead,.dead,.fn 40 [.ref 4 0,.ref 5 0],.dead]),(8,.blk 24 [.nils]),(9,.loop 3 [.dead,.dead,.ref 8 0,.dead,.dead,.dead,.fn 40 [.ref 4 0,.ref 5 0],.dead,.dead,.dead,.dead,.dead,.dead] .ready none),(10,.kept 3 [.dead,.dead,.ref 8 0,.dead,.dead,.dead,.fn 40 [.ref 4 0,.ref 5 0],.dead,.dead,.dead,.dead,.dead,.dead]),(1000,.blk 60 (mixD aB.toEnc0 (w20 a1 a2 a3 a4 a5) a6 [.int .i64 a7,.osl 1001 (eInt .i64).sz a8.length])),(1001,.blk 3 (D.flat (a8.map (eInt .i64).d)))]⟩,(fun i=>i),⟨(.sames rfl rfl),(.cons (.blk rfl rfl rfl) (.cons (.blk rfl rfl rfl) (.cons (.blk rfl rfl rfl) (.cons (.blk rfl rfl rfl) (.cons (.blk rfl rfl rfl) (.cons (.kept rfl rfl rfl) (.cons (.kept rfl rfl rfl) (.cons (.blk rfl rfl rfl) (.cons (.loop rfl rfl rfl) (.cons (.kept rfl rfl rfl) (.cons (EntW.mix aB rfl (SubC.of_eq rfl) (SubC.of_eq rfl) rfl rfl) (.cons (EntW.lst rfl) .nil)))))))))))),bB [0,1,2,4,5,6,7,8,9,10,1000,1001] rfl (by decide),fun _ _=>rfl⟩,?_⟩
   obtain ⟨hk56,h⟩:=jN h
   refine aA rfl (aJ rfl rfl (lb rfl) (svR rfl)) <|aA rfl (fG aB.toEnc0 (d:=.int _ _) (n:=64) (k:=0) rfl rfl (lb rfl) Try.underlying3 ag3 ti3 (by decide) (svR rfl) rfl hk56 (by rfl) (nle rfl) (by rfl)) <|aA rfl (asI rfl rfl rfl rfl) <|aD ?_
   refine bA ?_
   refine cV (α:=Nat × Int × (List Int)) (fun z=>⟨[(0,.yld 9),(1,.ref 4 0),(4,.int .i64 z.2.1)],[(9,.loop 3 [.dead,.dead,.ref 8 0,.dead,.dead,.dead,.fn 40 [.ref 4 0,.ref 5 0],.dead,.dead,.dead,.dead,.dead,.dead] .ready none),(4,.blk 26 [.ref 1000 0]),(6,.kept 1 [.dead,.dead,.ref 0 0,.ref 1 0,.ref 2 0,.dead,.dead,.dead,.dead,.dead,.dead,.dead,.dead,.dead,.dead,.dead,.dead,.dead,.dead,.dead,.dead,.dead,.dead,.dead,.fn 40 [.ref 4 0,.ref 5 0],.dead,.dead,.dead,.dead,.dead,.dead,.dead,.dead,.dead,.dead,.dead,.dead,.dead,.dead,.dead,.dead,.dead,.dead,.dead,.dead,.dead,.dead,.dead,.dead,.dead,.dead,.dead,.dead,.dead,.dead,.dead,.dead,.dead,.dead,.dead,.dead,.dead,.dead,.dead,.dead,.dead,.dead,.dead,.dead,.dead,.dead,.dead,.dead,.dead,.dead,.dead,.dead,.dead,.dead,.dead,.dead,.dead,.dead,.dead,.dead,.dead,.dead,.dead,.dead,.dead,.dead]),(7,.kept 2 [.dead,.dead,.dead,.fn 40 [.ref 4 0,.ref 5 0],.dead]),(10,.kept 3 [.dead,.dead,.ref 8 0,.dead,.dead,.dead,.fn 40 [.ref 4 0,.ref 5 0],.dead,.dead,.dead,.dead,.dead,.dead]),(1000,.blk 60 (mixD aB.toEnc0 (w20 a1 a2 a3 a4 a5) a6 [.int .i64 a7,.osl 1001 (eInt .i64).sz a8.length])),(1001,.blk 3 (D.flat (a8.map (eInt .i64).d))),(8,.blk 24 [.osl 32 (eInt .i64).sz z.2.2.length]),(5,.blk 3 [.int .i64 a0]),(0,.blk 26 [.ref 1000 0]),(1,.blk 3 [.int .i64 a0]),(2,.blk 3 [.int .i64 v53]),(32,.blk 3 (D.flat (z.2.2.map (eInt .i64).d)))]⟩) (fun z=>iC a0 a1 a2 a3 a4 a5 a6 a7 a8 v53 z.1 z.2.1 z.2.2 = some r) (fun z=>z.1) (fuel,a7,([] : (List Int))) (fun i=>if i = 32 then 94 else i) ⟨(.sames rfl rfl),(.cons (.loop rfl rfl rfl) (.cons (.blk rfl rfl rfl) (.cons (.kept rfl rfl rfl) (.cons (.kept rfl rfl rfl) (.cons (.kept rfl rfl rfl) (.cons (EntW.mix aB rfl (SubC.of_eq rfl) (SubC.of_eq rfl) rfl rfl) (.cons (EntW.lst rfl) (.cons (.sub rfl (.nilo .nil) rfl) (.cons (.blk rfl rfl rfl) (.cons (.blk rfl rfl rfl) (.cons (.blk rfl rfl rfl) (.cons (.blk rfl rfl rfl) (.cons (.nilb rfl) .nil))))))))))))),bB [9,4,6,7,10,1000,1001,8,5,0,1,2,94] rfl (by decide),(fun i hi=>by first | rfl | (show (if _ then _ else _) = _; (repeat' split) <;> omega))⟩ ?_ ?_
   ·exact h
   ·
    rintro ⟨n3,v62,v63⟩ h
    cases n3 with
    | zero=>exact absurd h (by unfold iC; exact nofun)
    | succ n3 =>
     unfold iC at h
     refine aT ?_
     obtain ⟨x69,hx69,h⟩:=aR h
     refine aF (aA rfl (mvI rfl rfl rfl rfl) <|aA rfl (aM rfl rfl (lb rfl) (svI rfl) (sv (d:=.int _ (-1)) rfl) rfl hx69) <|aD ?_)
     refine aX (b:=_) rfl (fun hc70=>?_) (fun hc70=>?_)
     ·
      replace h:=bY h hc70
      refine aU ?_
      refine aL ?_
      refine bA ?_
      obtain ⟨x71,hx71,h⟩:=aS h
      obtain ⟨x72,hx72,h⟩:=aS h
      refine aF (aA rfl (aK (d:=.ref _ _) rfl rfl (lb rfl) Try.underlying26 ag26 ti26 (by decide) (svR rfl) rfl (nle rfl) rfl) <|aA rfl (mvI rfl rfl rfl rfl) <|aA rfl (aJ rfl rfl (lb rfl) (svR rfl)) <|aA rfl (faR 5 rfl rfl rfl Try.underlying60 rfl ti58 (lb rfl) rfl rfl) <|aA rfl (bX aB.toEnc0 rfl rfl (lb rfl) Try.underlying58 ti57 (svR rfl) hk56 (svI rfl) hx71) <|aA rfl (bJ rfl rfl (lb rfl) Try.underlying57 rfl ti3 (by decide) (svR rfl) (k':=3) rfl) <|aA rfl (bP aB.toEnc0 (b:=5) (k:=3) (d:=.int _ _) rfl rfl (lb rfl) Try.underlying3 ag3 ti3 (by decide) (svR rfl) rfl rfl hx72 (nle rfl) rfl) <|aA rfl (asI rfl rfl rfl rfl) <|aD ?_)
      refine aT ?_
      refine aF (aA rfl (aN rfl rfl (lb rfl) (sv (d:=.yld _) rfl)) <|aA rfl (mvI rfl rfl rfl rfl) <|?_)
      refine eR (S':=⟨[(0,.yld 9),(1,.ref 4 0),(5,.int .i64 x72.next),(20,.yld 9),(21,.int .i64 v62)],[(0,.blk 26 [.ref 1000 0]),(1,.blk 3 [.int .i64 a0]),(2,.blk 3 [.int .i64 v53]),(4,.blk 26 [.ref 1000 0]),(5,.blk 3 [.int .i64 a0]),(6,.kept 1 [.dead,.dead,.ref 0 0,.ref 1 0,.ref 2 0,.dead,.dead,.dead,.dead,.dead,.dead,.dead,.dead,.dead,.dead,.dead,.dead,.dead,.dead,.dead,.dead,.dead,.dead,.dead,.fn 40 [.ref 4 0,.ref 5 0],.dead,.dead,.dead,.dead,.dead,.dead,.dead,.dead,.dead,.dead,.dead,.dead,.dead,.dead,.dead,.dead,.dead,.dead,.dead,.dead,.dead,.dead,.dead,.dead,.dead,.dead,.dead,.dead,.dead,.dead,.dead,.dead,.dead,.dead,.dead,.dead,.dead,.dead,.dead,.dead,.dead,.dead,.dead,.dead,.dead,.dead,.dead,.dead,.dead,.dead,.dead,.dead,.dead,.dead,.dead,.dead,.dead,.dead,.dead,.dead,.dead,.dead,.dead,.dead,.dead,.dead]),(7,.kept 2 [.dead,.dead,.dead,.fn 40 [.ref 4 0,.ref 5 0],.dead]),(8,.blk 24 [.osl 32 (eInt .i64).sz v63.length]),(9,.loop 3 [.dead,.dead,.ref 8 0,.dead,.dead,.dead,.fn 40 [.ref 4 0,.ref 5 0],.dead,.dead,.dead,.dead,.dead,.dead] .ready none),(10,.kept 3 [.dead,.dead,.ref 8 0,.dead,.dead,.dead,.fn 40 [.ref 4 0,.ref 5 0],.dead,.dead,.dead,.dead,.dead,.dead]),(32,.blk 3 (D.flat (v63.map (eInt .i64).d))),(1000,.blk 60 (mixD aB.toEnc0 (w20 a1 a2 a3 a4 a5) a6 [.int .i64 a7,.osl 1001 (eInt .i64).sz a8.length])),(1001,.blk 3 (D.flat (a8.map (eInt .i64).d)))]⟩) (fun i=>i) ⟨(.sames rfl rfl),(.cons (.blk rfl rfl rfl) (.cons (.blk rfl rfl rfl) (.cons (.blk rfl rfl rfl) (.cons (.blk rfl rfl rfl) (.cons (.blk rfl rfl rfl) (.cons (.kept rfl rfl rfl) (.cons (.kept rfl rfl rfl) (.cons (.blk rfl rfl rfl) (.cons (.loop rfl rfl rfl) (.cons (.kept rfl rfl rfl) (.cons (EntW.lst rfl) (.cons (EntW.mix aB rfl (SubC.of_eq rfl) (SubC.of_eq rfl) rfl rfl) (.cons (EntW.lst rfl) .nil))))))))))))),bB [0,1,2,4,5,6,7,8,9,10,32,1000,1001] rfl (by decide),fun _ _=>rfl⟩ ?_
      refine lC 4 9 33 rfl rfl rfl (by decide) rfl (.cons (svI rfl) .nil) rfl rfl rfl rfl rfl rfl hO3.round hlc3 ⟨[(7,.int .i64 v62),(2,.ref 8 0)],[(0,.blk 26 [.ref 1000 0]),(1,.blk 3 [.int .i64 a0]),(2,.blk 3 [.int .i64 v53]),(4,.blk 26 [.ref 1000 0]),(5,.blk 3 [.int .i64 a0]),(6,.kept 1 [.dead,.dead,.ref 0 0,.ref 1 0,.ref 2 0,.dead,.dead,.dead,.dead,.dead,.dead,.dead,.dead,.dead,.dead,.dead,.dead,.dead,.dead,.dead,.dead,.dead,.dead,.dead,.fn 40 [.ref 4 0,.ref 5 0],.dead,.dead,.dead,.dead,.dead,.dead,.dead,.dead,.dead,.dead,.dead,.dead,.dead,.dead,.dead,.dead,.dead,.dead,.dead,.dead,.dead,.dead,.dead,.dead,.dead,.dead,.dead,.dead,.dead,.dead,.dead,.dead,.dead,.dead,.dead,.dead,.dead,.dead,.dead,.dead,.dead,.dead,.dead,.dead,.dead,.dead,.dead,.dead,.dead,.dead,.dead,.dead,.dead,.dead,.dead,.dead,.dead,.dead,.dead,.dead,.dead,.dead,.dead,.dead,.dead,.dead]),(7,.kept 2 [.dead,.dead,.dead,.fn 40 [.ref 4 0,.ref 5 0],.dead]),(8,.blk 24 [.osl 32 (eInt .i64).sz v63.length]),(9,.loop 3 [.dead,.dead,.ref 8 0,.dead,.dead,.dead,.fn 40 [.ref 4 0,.ref 5 0],.dead,.dead,.dead,.dead,.dead,.dead] .ready none),(10,.kept 3 [.dead,.dead,.ref 8 0,.dead,.dead,.dead,.fn 40 [.ref 4 0,.ref 5 0],.dead,.dead,.dead,.dead,.dead,.dead]),(32,.blk 3 (D.flat (v63.map (eInt .i64).d))),(33,.kept 4 [.yld 9,.ref 4 0,.dead,.dead,.dead,.int .i64 x72.next,.dead,.dead,.dead,.dead,.dead,.dead,.dead,.dead,.dead,.dead,.dead,.dead,.dead,.dead,.yld 9,.int .i64 v62,.dead,.dead,.dead]),(1000,.blk 60 (mixD aB.toEnc0 (w20 a1 a2 a3 a4 a5) a6 [.int .i64 a7,.osl 1001 (eInt .i64).sz a8.length])),(1001,.blk 3 (D.flat (a8.map (eInt .i64).d)))]⟩ (fun i=>i) ⟨(.sames rfl rfl),(.cons (.blk rfl rfl rfl) (.cons (.blk rfl rfl rfl) (.cons (.blk rfl rfl rfl) (.cons (.blk rfl rfl rfl) (.cons (.blk rfl rfl rfl) (.cons (.kept rfl rfl rfl) (.cons (.kept rfl rfl rfl) (.cons (.blk rfl rfl rfl) (.cons (.loop rfl rfl rfl) (.cons (.kept rfl rfl rfl) (.cons (EntW.lst rfl) (.cons (.kept rfl rfl rfl) (.cons (EntW.mix aB rfl (SubC.of_eq rfl) (SubC.of_eq rfl) rfl rfl) (.cons (EntW.lst rfl) .nil)))))))))))))),bB [0,1,2,4,5,6,7,8,9,10,32,33,1000,1001] rfl (by decide),fun _ _=>rfl⟩ fun O4=>?_
      refine aW (aA rfl (asI rfl rfl rfl rfl) <|bL ?_)
      refine ⟨rfl,9,_,rfl,⟨[(2,.ref 8 0),(5,.int .i64 v62)],[(0,.blk 26 [.ref 1000 0]),(1,.blk 3 [.int .i64 a0]),(2,.blk 3 [.int .i64 v53]),(4,.blk 26 [.ref 1000 0]),(5,.blk 3 [.int .i64 a0]),(6,.kept 1 [.dead,.dead,.ref 0 0,.ref 1 0,.ref 2 0,.dead,.dead,.dead,.dead,.dead,.dead,.dead,.dead,.dead,.dead,.dead,.dead,.dead,.dead,.dead,.dead,.dead,.dead,.dead,.fn 40 [.ref 4 0,.ref 5 0],.dead,.dead,.dead,.dead,.dead,.dead,.dead,.dead,.dead,.dead,.dead,.dead,.dead,.dead,.dead,.dead,.dead,.dead,.dead,.dead,.dead,.dead,.dead,.dead,.dead,.dead,.dead,.dead,.dead,.dead,.dead,.dead,.dead,.dead,.dead,.dead,.dead,.dead,.dead,.dead,.dead,.dead,.dead,.dead,.dead,.dead,.dead,.dead,.dead,.dead,.dead,.dead,.dead,.dead,.dead,.dead,.dead,.dead,.dead,.dead,.dead,.dead,.dead,.dead,.dead,.dead]),(7,.kept 2 [.dead,.dead,.dead,.fn 40 [.ref 4 0,.ref 5 0],.dead]),(8,.blk 24 [.osl 32 (eInt .i64).sz v63.length]),(9,.loop 3 [.dead,.dead,.ref 8 0,.dead,.dead,.dead,.fn 40 [.ref 4 0,.ref 5 0],.dead,.dead,.dead,.dead,.dead,.dead] .busy none),(10,.kept 3 [.dead,.dead,.ref 8 0,.dead,.dead,.dead,.fn 40 [.ref 4 0,.ref 5 0],.dead,.dead,.dead,.dead,.dead,.dead]),(32,.blk 3 (D.flat (v63.map (eInt .i64).d))),(33,.kept 4 [.yld 9,.ref 4 0,.dead,.dead,.dead,.int .i64 x72.next,.dead,.dead,.dead,.dead,.dead,.dead,.dead,.dead,.dead,.dead,.dead,.dead,.dead,.dead,.yld 9,.int .i64 v62,.dead,.dead,.dead]),(1000,.blk 60 (mixD aB.toEnc0 (w20 a1 a2 a3 a4 a5) a6 [.int .i64 a7,.osl 1001 (eInt .i64).sz a8.length])),(1001,.blk 3 (D.flat (a8.map (eInt .i64).d)))]⟩,(fun i=>i),⟨(.sames rfl rfl),(.cons (.blk rfl rfl rfl) (.cons (.blk rfl rfl rfl) (.cons (.blk rfl rfl rfl) (.cons (.blk rfl rfl rfl) (.cons (.blk rfl rfl rfl) (.cons (.kept rfl rfl rfl) (.cons (.kept rfl rfl rfl) (.cons (.blk rfl rfl rfl) (.cons (.loop rfl rfl rfl) (.cons (.kept rfl rfl rfl) (.cons (EntW.lst rfl) (.cons (.kept rfl rfl rfl) (.cons (EntW.mix aB rfl (SubC.of_eq rfl) (SubC.of_eq rfl) rfl rfl) (.cons (EntW.lst rfl) .nil)))))))))))))),bB [0,1,2,4,5,6,7,8,9,10,32,33,1000,1001] rfl (by decide),fun _ _=>rfl⟩,?_⟩
      refine bA ?_
      obtain ⟨x73,hx73,h⟩:=aS h
      refine aW (aA rfl (aK (d:=.osl _ _ _) rfl rfl (lb rfl) Try.underlying24 ag24 ti24 (by decide) (svR rfl) rfl (nle rfl) rfl) <|aA rfl (mvI rfl rfl rfl rfl) <|aA rfl (jZ (eInt .i64).toEnc0 ([v62] : (List Int)) 34 rfl rfl (lb rfl) Try.underlying24 ti3 rfl (.cons (svI rfl) .nil) rfl rfl (by decide)) <|aA rfl (iX (eInt .i64).toEnc0 35 rfl rfl (lb rfl) Try.underlying24 ti3 rfl rfl rfl rfl rfl (nS (eInt .i64).toEnc0 rfl rfl rfl) hx73) <|aA rfl (eZ (ds':=[.osl _ _ _]) rfl rfl ti24 (svR rfl) rfl (sv (d:=.osl _ _ _) rfl) rfl rfl rfl (nle rfl) rfl) <|bL ?_)
      refine bR ?_
      refine ⟨9,33,_,_,none,rfl,rfl,rfl,rfl,(by decide),⟨[(0,.yld 9),(1,.ref 4 0),(5,.int .i64 x72.next),(22,.bool true)],[(0,.blk 26 [.ref 1000 0]),(1,.blk 3 [.int .i64 a0]),(2,.blk 3 [.int .i64 v53]),(4,.blk 26 [.ref 1000 0]),(5,.blk 3 [.int .i64 a0]),(6,.kept 1 [.dead,.dead,.ref 0 0,.ref 1 0,.ref 2 0,.dead,.dead,.dead,.dead,.dead,.dead,.dead,.dead,.dead,.dead,.dead,.dead,.dead,.dead,.dead,.dead,.dead,.dead,.dead,.fn 40 [.ref 4 0,.ref 5 0],.dead,.dead,.dead,.dead,.dead,.dead,.dead,.dead,.dead,.dead,.dead,.dead,.dead,.dead,.dead,.dead,.dead,.dead,.dead,.dead,.dead,.dead,.dead,.dead,.dead,.dead,.dead,.dead,.dead,.dead,.dead,.dead,.dead,.dead,.dead,.dead,.dead,.dead,.dead,.dead,.dead,.dead,.dead,.dead,.dead,.dead,.dead,.dead,.dead,.dead,.dead,.dead,.dead,.dead,.dead,.dead,.dead,.dead,.dead,.dead,.dead,.dead,.dead,.dead,.dead,.dead]),(7,.kept 2 [.dead,.dead,.dead,.fn 40 [.ref 4 0,.ref 5 0],.dead]),(8,.blk 24 [.osl 35 (eInt .i64).sz x73.length]),(9,.loop 3 [.dead,.dead,.ref 8 0,.dead,.dead,.dead,.fn 40 [.ref 4 0,.ref 5 0],.dead,.dead,.dead,.dead,.dead,.dead] .ready none),(10,.kept 3 [.dead,.dead,.ref 8 0,.dead,.dead,.dead,.fn 40 [.ref 4 0,.ref 5 0],.dead,.dead,.dead,.dead,.dead,.dead]),(35,.blk 3 (D.flat (x73.map (eInt .i64).d))),(1000,.blk 60 (mixD aB.toEnc0 (w20 a1 a2 a3 a4 a5) a6 [.int .i64 a7,.osl 1001 (eInt .i64).sz a8.length])),(1001,.blk 3 (D.flat (a8.map (eInt .i64).d)))]⟩,(fun i=>i),⟨(.sames rfl rfl),(.cons (.blk rfl rfl rfl) (.cons (.blk rfl rfl rfl) (.cons (.blk rfl rfl rfl) (.cons (.blk rfl rfl rfl) (.cons (.blk rfl rfl rfl) (.cons (.kept rfl rfl rfl) (.cons (.kept rfl rfl rfl) (.cons (.blk rfl rfl rfl) (.cons (.loop rfl rfl rfl) (.cons (.kept rfl rfl rfl) (.cons (EntW.lst rfl) (.cons (EntW.mix aB rfl (SubC.of_eq rfl) (SubC.of_eq rfl) rfl rfl) (.cons (EntW.lst rfl) .nil))))))))))))),bB [0,1,2,4,5,6,7,8,9,10,35,1000,1001] rfl (by decide),fun _ _=>rfl⟩,?_⟩
      refine aA rfl (eG rfl rfl (lb rfl) (svB rfl)) <|aD ?_
      refine fD rfl rfl ?_
      refine aU ?_
      refine aL ?_
      refine aW (aA rfl (mvI rfl rfl rfl rfl) <|aA rfl (asI rfl rfl rfl rfl) <|bL ?_)
      refine bR ?_
      refine aL ⟨(n3,x72.next,x73),(fun i=>if i = 32 then 35 else i),⟨(.sames rfl rfl),(.cons (.loop rfl rfl rfl) (.cons (.blk rfl rfl rfl) (.cons (.kept rfl rfl rfl) (.cons (.kept rfl rfl rfl) (.cons (.kept rfl rfl rfl) (.cons (EntW.mix aB rfl (SubC.of_eq rfl) (SubC.of_eq rfl) rfl rfl) (.cons (EntW.lst rfl) (.cons (.blk rfl rfl rfl) (.cons (.blk rfl rfl rfl) (.cons (.blk rfl rfl rfl) (.cons (.blk rfl rfl rfl) (.cons (.blk rfl rfl rfl) (.cons (EntW.lst rfl) .nil))))))))))))),bB [9,4,6,7,10,1000,1001,8,5,0,1,2,35] rfl (by decide),(fun i hi=>by first | rfl | (show (if _ then _ else _) = _; (repeat' split) <;> omega))⟩,?_,?_⟩
      exact h
      exact Nat.lt_succ_self _
     ·
      replace h:=bZ h hc70
      refine dD ?_
      refine bV ?_
      refine bV ?_
      refine dE ?_
      refine ⟨.inl rfl,9,10,_,_,_,_,rfl,(by simp),rfl,rfl,⟨[(2,.ref 8 0)],[(0,.blk 26 [.ref 1000 0]),(1,.blk 3 [.int .i64 a0]),(2,.blk 3 [.int .i64 v53]),(4,.blk 26 [.ref 1000 0]),(5,.blk 3 [.int .i64 a0]),(6,.kept 1 [.dead,.dead,.ref 0 0,.ref 1 0,.ref 2 0,.dead,.dead,.dead,.dead,.dead,.dead,.dead,.dead,.dead,.dead,.dead,.dead,.dead,.dead,.dead,.dead,.dead,.dead,.dead,.fn 40 [.ref 4 0,.ref 5 0],.dead,.dead,.dead,.dead,.dead,.dead,.dead,.dead,.dead,.dead,.dead,.dead,.dead,.dead,.dead,.dead,.dead,.dead,.dead,.dead,.dead,.dead,.dead,.dead,.dead,.dead,.dead,.dead,.dead,.dead,.dead,.dead,.dead,.dead,.dead,.dead,.dead,.dead,.dead,.dead,.dead,.dead,.dead,.dead,.dead,.dead,.dead,.dead,.dead,.dead,.dead,.dead,.dead,.dead,.dead,.dead,.dead,.dead,.dead,.dead,.dead,.dead,.dead,.dead,.dead,.dead]),(7,.kept 2 [.dead,.dead,.dead,.fn 40 [.ref 4 0,.ref 5 0],.dead]),(8,.blk 24 [.osl 32 (eInt .i64).sz v63.length]),(32,.blk 3 (D.flat (v63.map (eInt .i64).d))),(1000,.blk 60 (mixD aB.toEnc0 (w20 a1 a2 a3 a4 a5) a6 [.int .i64 a7,.osl 1001 (eInt .i64).sz a8.length])),(1001,.blk 3 (D.flat (a8.map (eInt .i64).d)))]⟩,(fun i=>i),⟨(.sames rfl rfl),(.cons (.blk rfl rfl rfl) (.cons (.blk rfl rfl rfl) (.cons (.blk rfl rfl rfl) (.cons (.blk rfl rfl rfl) (.cons (.blk rfl rfl rfl) (.cons (.kept rfl rfl rfl) (.cons (.kept rfl rfl rfl) (.cons (.blk rfl rfl rfl) (.cons (EntW.lst rfl) (.cons (EntW.mix aB rfl (SubC.of_eq rfl) (SubC.of_eq rfl) rfl rfl) (.cons (EntW.lst rfl) .nil))))))))))),bB [0,1,2,4,5,6,7,8,32,1000,1001] rfl (by decide),fun _ _=>rfl⟩,?_⟩
      refine bR ?_
      refine aL ?_
      refine aF (aA rfl (aK (d:=.osl _ _ _) rfl rfl (lb rfl) Try.underlying24 ag24 ti24 (by decide) (svR rfl) rfl (nle rfl) rfl) <|aA rfl (aH rfl rfl (lb rfl) (sv (d:=.osl _ _ _) rfl)) <|aD ?_)
      refine bD ?_
      refine ⟨.inr rfl,7,_,[.osl 32 (eInt .i64).sz v63.length],(.cons (sv rfl) .nil),rfl,rfl,⟨[(4,.osl 32 (eInt .i64).sz v63.length)],[(0,.blk 26 [.ref 1000 0]),(1,.blk 3 [.int .i64 a0]),(2,.blk 3 [.int .i64 v53]),(4,.blk 26 [.ref 1000 0]),(5,.blk 3 [.int .i64 a0]),(6,.kept 1 [.dead,.dead,.ref 0 0,.ref 1 0,.ref 2 0,.dead,.dead,.dead,.dead,.dead,.dead,.dead,.dead,.dead,.dead,.dead,.dead,.dead,.dead,.dead,.dead,.dead,.dead,.dead,.fn 40 [.ref 4 0,.ref 5 0],.dead,.dead,.dead,.dead,.dead,.dead,.dead,.dead,.dead,.dead,.dead,.dead,.dead,.dead,.dead,.dead,.dead,.dead,.dead,.dead,.dead,.dead,.dead,.dead,.dead,.dead,.dead,.dead,.dead,.dead,.dead,.dead,.dead,.dead,.dead,.dead,.dead,.dead,.dead,.dead,.dead,.dead,.dead,.dead,.dead,.dead,.dead,.dead,.dead,.dead,.dead,.dead,.dead,.dead,.dead,.dead,.dead,.dead,.dead,.dead,.dead,.dead,.dead,.dead,.dead,.dead]),(32,.blk 3 (D.flat (v63.map (eInt .i64).d))),(1000,.blk 60 (mixD aB.toEnc0 (w20 a1 a2 a3 a4 a5) a6 [.int .i64 a7,.osl 1001 (eInt .i64).sz a8.length])),(1001,.blk 3 (D.flat (a8.map (eInt .i64).d)))]⟩,(fun i=>i),⟨(.sames rfl rfl),(.cons (.blk rfl rfl rfl) (.cons (.blk rfl rfl rfl) (.cons (.blk rfl rfl rfl) (.cons (.blk rfl rfl rfl) (.cons (.blk rfl rfl rfl) (.cons (.kept rfl rfl rfl) (.cons (EntW.lst rfl) (.cons (EntW.mix aB rfl (SubC.of_eq rfl) (SubC.of_eq rfl) rfl rfl) (.cons (EntW.lst rfl) .nil))))))))),bB [0,1,2,4,5,6,32,1000,1001] rfl (by decide),fun _ _=>rfl⟩,?_⟩
      refine aA rfl (aH rfl rfl (lb rfl) (sv (d:=.osl _ _ _) rfl)) <|aD ?_
      refine bD ?_
      refine ⟨.inr rfl,6,_,[.osl 32 (eInt .i64).sz v63.length],(.cons (sv rfl) .nil),rfl,rfl,⟨[(2,.ref 0 0),(3,.ref 1 0),(4,.ref 2 0),(25,.osl 32 (eInt .i64).sz v63.length)],[(0,.blk 26 [.ref 1000 0]),(1,.blk 3 [.int .i64 a0]),(2,.blk 3 [.int .i64 v53]),(32,.blk 3 (D.flat (v63.map (eInt .i64).d))),(1000,.blk 60 (mixD aB.toEnc0 (w20 a1 a2 a3 a4 a5) a6 [.int .i64 a7,.osl 1001 (eInt .i64).sz a8.length])),(1001,.blk 3 (D.flat (a8.map (eInt .i64).d)))]⟩,(fun i=>i),⟨(.sames rfl rfl),(.cons (.blk rfl rfl rfl) (.cons (.blk rfl rfl rfl) (.cons (.blk rfl rfl rfl) (.cons (EntW.lst rfl) (.cons (EntW.mix aB rfl (SubC.of_eq rfl) (SubC.of_eq rfl) rfl rfl) (.cons (EntW.lst rfl) .nil)))))),bB [0,1,2,32,1000,1001] rfl (by decide),fun _ _=>rfl⟩,?_⟩
      refine aA rfl (aH rfl rfl (lb rfl) (sv (d:=.osl _ _ _) rfl)) <|aD ?_
      refine aT ?_
      refine aF (aA rfl (aN rfl rfl (lb rfl) (sv (d:=.osl _ _ _) rfl)) <|aA rfl (fE rfl rfl (lb rfl) Try.underlying24 (sv (d:=.osl _ _ _) rfl)) <|aA rfl (aN rfl rfl (lb rfl) (sv (d:=.int _ 0) rfl)) <|aD ?_)
      refine bA ?_
      refine cV (α:=Nat × Int × Int × Int × (List aI) × Int × Int × (List aG) × Int × (List Int)) (fun z=>⟨[(2,.ref 0 0),(3,.ref 1 0),(4,.ref 2 0),(26,.osl 32 (eInt .i64).sz v63.length),(27,.int .i64 (v63.length : Int)),(28,.int .i64 z.2.1)],[(0,.blk 26 [.ref 1000 0]),(1,.blk 3 [.int .i64 a0]),(2,.blk 3 [.int .i64 v53]),(32,.blk 3 (D.flat (v63.map (eInt .i64).d))),(1000,.blk 60 (mixD aB.toEnc0 (w20 z.2.2.1 z.2.2.2.1 z.2.2.2.2.1 z.2.2.2.2.2.1 z.2.2.2.2.2.2.1) z.2.2.2.2.2.2.2.1 [.int .i64 z.2.2.2.2.2.2.2.2.1,.osl 54 (eInt .i64).sz z.2.2.2.2.2.2.2.2.2.length])),(54,.blk 3 (D.flat (z.2.2.2.2.2.2.2.2.2.map (eInt .i64).d)))]⟩) (fun z=>iB a0 v53 v63 z.1 z.2.1 z.2.2.1 z.2.2.2.1 z.2.2.2.2.1 z.2.2.2.2.2.1 z.2.2.2.2.2.2.1 z.2.2.2.2.2.2.2.1 z.2.2.2.2.2.2.2.2.1 z.2.2.2.2.2.2.2.2.2 = some r) (fun z=>z.1) (fuel,0,a1,a2,a3,a4,a5,a6,a7,a8) (fun i=>if i = 54 then 1001 else i) ⟨(.sames rfl rfl),(.cons (.blk rfl rfl rfl) (.cons (.blk rfl rfl rfl) (.cons (.blk rfl rfl rfl) (.cons (EntW.lst rfl) (.cons (EntW.mix aB rfl (SubC.of_eq rfl) (SubC.of_eq rfl) rfl rfl) (.cons (EntW.lst rfl) .nil)))))),bB [0,1,2,32,1000,1001] rfl (by decide),(fun i hi=>by first | rfl | (show (if _ then _ else _) = _; (repeat' split) <;> omega))⟩ ?_ ?_
      ·exact h
      ·
       rintro ⟨n4,v92,v93,v94,v95,v96,v97,v98,v99,v100⟩ h
       cases n4 with
       | zero=>exact absurd h (by unfold iB; exact nofun)
       | succ n4 =>
        unfold iB at h
        obtain ⟨x120,hx120,h⟩:=aR h
        refine aF (aA rfl (aM rfl rfl (lb rfl) (svI rfl) (svI rfl) rfl hx120) <|aD ?_)
        refine aT ?_
        refine aX (b:=_) rfl (fun hc121=>?_) (fun hc121=>?_)
        ·
         replace h:=bY h hc121
         refine aU ?_
         refine aL ?_
         refine aT ?_
         refine bA ?_
         obtain ⟨x122,hx122,h⟩:=aS h
         obtain ⟨x123,hx123,h⟩:=aS h
         refine aF (aA rfl (gP (eInt .i64).toEnc0 rfl rfl (lb rfl) Try.underlying24 ti3 (sv (d:=.osl _ _ _) rfl) rfl (svI rfl) hx122) <|aA rfl (fO (eInt .i64).toEnc0 (d:=.int _ _) rfl rfl (lb rfl) Try.underlying3 ag3 ti3 (by decide) (svR rfl) rfl hx123 (nle rfl) rfl) <|aA rfl (asI rfl rfl rfl rfl) <|aD ?_)
         obtain ⟨x124,hx124,h⟩:=aS h
         obtain ⟨hk125,h⟩:=jN h
         obtain ⟨x126,hx126,h⟩:=aS h
         obtain ⟨x127,hx127,h⟩:=aS h
         obtain ⟨x128,hx128,h⟩:=aS h
         obtain ⟨x129,hx129,h⟩:=aR h
         obtain ⟨x130,hx130,h⟩:=aS h
         obtain ⟨x131,hx131,h⟩:=aR h
         obtain ⟨x132,hx132,h⟩:=aS h
         obtain ⟨x133,hx133,h⟩:=aS h
         obtain ⟨x134,hx134,h⟩:=aR h
         refine lF rfl [⟨[2],[0],[(32,.ref 1000 0)],[]⟩,
          ⟨[8],[],[(33,.int .i64 x123)],[]⟩,
          ⟨[2],[0],[(34,.ref 1000 0)],[]⟩,
          ⟨[3],[1],[(35,.int .i64 a0)],[]⟩,
          ⟨[34],[],[(36,.ref 1000 0)],[]⟩,
          ⟨[36],[],[(37,.ref 1000 5)],[]⟩,
          ⟨[35,37],[],[(38,.ref 1000 (5 + (((a0 : Int).toNat) * aB.sz + 0)))],[]⟩,
          ⟨[38],[],[(39,.ref 1000 (5 + (((a0 : Int).toNat) * aB.sz + 4)))],[]⟩,
          ⟨[39],[1000],[(40,.int .i64 x126.weight)],[]⟩,
          ⟨[2],[0],[(41,.ref 1000 0)],[]⟩,
          ⟨[8],[],[(42,.int .i64 x123)],[]⟩,
          ⟨[41],[],[(43,.ref 1000 0)],[]⟩,
          ⟨[43],[],[(44,.ref 1000 5)],[]⟩,
          ⟨[42,44],[],[(45,.ref 1000 (5 + (((x123 : Int).toNat) * aB.sz + 0)))],[]⟩,
          ⟨[45],[],[(46,.ref 1000 (5 + (((x123 : Int).toNat) * aB.sz + 4)))],[]⟩,
          ⟨[46],[1000],[(47,.int .i64 x128.weight)],[]⟩,
          ⟨[40,47],[],[(48,.int .i64 x129)],[]⟩,
          ⟨[4],[2],[(49,.int .i64 v53)],[]⟩,
          ⟨[48,49],[],[(50,.int .i64 x130)],[]⟩,
          ⟨[50],[],[(51,.int .i64 x131)],[]⟩,
          ⟨[32],[],[(52,.ref 1000 0)],[]⟩,
          ⟨[52],[],[(53,.ref 1000 5)],[]⟩,
          ⟨[33,53],[],[(54,.ref 1000 (5 + (((x123 : Int).toNat) * aB.sz + 0)))],[]⟩,
          ⟨[54],[],[(55,.ref 1000 (5 + (((x123 : Int).toNat) * aB.sz + 4)))],[]⟩,
          ⟨[51,55],[1000],[],[(1000,.blk 60 (mixD aB.toEnc0 (w20 v93 v94 v95 v96 v97) x134 [.int .i64 v99,.osl 54 (eInt .i64).sz v100.length]))]⟩] rfl ?_ (by kernel_rfl) ?_
         ·refine .cons (lop rfl rfl fun S hA=>(aK (d:=.ref _ _) rfl rfl (lb rfl) Try.underlying26 ag26 ti26 (by decide) (svaR hA rfl rfl) (agi hA rfl rfl) (nle rfl) rfl)) ?_
          refine .cons (lop rfl rfl fun S hA=>(aN rfl rfl (lb rfl) (svaI hA rfl rfl))) ?_
          refine .cons (lop rfl rfl fun S hA=>(aK (d:=.ref _ _) rfl rfl (lb rfl) Try.underlying26 ag26 ti26 (by decide) (svaR hA rfl rfl) (agi hA rfl rfl) (nle rfl) rfl)) ?_
          refine .cons (lop rfl rfl fun S hA=>(aK (d:=.int _ _) rfl rfl (lb rfl) Try.underlying3 ag3 ti3 (by decide) (svaR hA rfl rfl) (agi hA rfl rfl) (nle rfl) rfl)) ?_
          refine .cons (lop rfl rfl fun S hA=>(aJ rfl rfl (lb rfl) (svaR hA rfl rfl))) ?_
          refine .cons (lop rfl rfl fun S hA=>(aV rfl rfl (lb rfl) Try.underlying60 rfl ti58 (by decide) (svaR hA rfl rfl) (off':=5) rfl)) ?_
          refine .cons (lop rfl rfl fun S hA=>(bX aB.toEnc0 rfl rfl (lb rfl) Try.underlying58 ti57 (svaR hA rfl rfl) hk125 (svaI hA rfl rfl) hx124)) ?_
          refine .cons (lop rfl rfl fun S hA=>(bJ rfl rfl (lb rfl) Try.underlying57 rfl ti3 (by decide) (svaR hA rfl rfl) (k':=4) rfl)) ?_
          refine .cons (lop rfl rfl fun S hA=>(bP aB.toEnc0 (b:=5) (k:=4) (d:=.int _ _) rfl rfl (lb rfl) Try.underlying3 ag3 ti3 (by decide) (svaR hA rfl rfl) (agi hA rfl rfl) rfl hx126 (nle rfl) rfl)) ?_
          refine .cons (lop rfl rfl fun S hA=>(aK (d:=.ref _ _) rfl rfl (lb rfl) Try.underlying26 ag26 ti26 (by decide) (svaR hA rfl rfl) (agi hA rfl rfl) (nle rfl) rfl)) ?_
          refine .cons (lop rfl rfl fun S hA=>(aN rfl rfl (lb rfl) (svaI hA rfl rfl))) ?_
          refine .cons (lop rfl rfl fun S hA=>(aJ rfl rfl (lb rfl) (svaR hA rfl rfl))) ?_
          refine .cons (lop rfl rfl fun S hA=>(aV rfl rfl (lb rfl) Try.underlying60 rfl ti58 (by decide) (svaR hA rfl rfl) (off':=5) rfl)) ?_
          refine .cons (lop rfl rfl fun S hA=>(bX aB.toEnc0 rfl rfl (lb rfl) Try.underlying58 ti57 (svaR hA rfl rfl) hk125 (svaI hA rfl rfl) hx127)) ?_
          refine .cons (lop rfl rfl fun S hA=>(bJ rfl rfl (lb rfl) Try.underlying57 rfl ti3 (by decide) (svaR hA rfl rfl) (k':=4) rfl)) ?_
          refine .cons (lop rfl rfl fun S hA=>(bP aB.toEnc0 (b:=5) (k:=4) (d:=.int _ _) rfl rfl (lb rfl) Try.underlying3 ag3 ti3 (by decide) (svaR hA rfl rfl) (agi hA rfl rfl) rfl hx128 (nle rfl) rfl)) ?_
          refine .cons (lop rfl rfl fun S hA=>(cQ rfl rfl (lb rfl) (svaI hA rfl rfl) (svaI hA rfl rfl) rfl hx129)) ?_
          refine .cons (lop rfl rfl fun S hA=>(aK (d:=.int _ _) rfl rfl (lb rfl) Try.underlying3 ag3 ti3 (by decide) (svaR hA rfl rfl) (agi hA rfl rfl) (nle rfl) rfl)) ?_
          refine .cons (lop rfl rfl fun S hA=>(vL rfl rfl (lb rfl) (svaI hA rfl rfl) (svaI hA rfl rfl) hx130)) ?_
          refine .cons (lop rfl rfl fun S hA=>(vM rfl rfl (lb rfl) (svaI hA rfl rfl) (sv (d:=.int _ 1) rfl) hx131)) ?_
          refine .cons (lop rfl rfl fun S hA=>(aJ rfl rfl (lb rfl) (svaR hA rfl rfl))) ?_
          refine .cons (lop rfl rfl fun S hA=>(aV rfl rfl (lb rfl) Try.underlying60 rfl ti58 (by decide) (svaR hA rfl rfl) (off':=5) rfl)) ?_
          refine .cons (lop rfl rfl fun S hA=>(bX aB.toEnc0 rfl rfl (lb rfl) Try.underlying58 ti57 (svaR hA rfl rfl) hk125 (svaI hA rfl rfl) hx132)) ?_
          refine .cons (lop rfl rfl fun S hA=>(bJ rfl rfl (lb rfl) Try.underlying57 rfl ti3 (by decide) (svaR hA rfl rfl) (k':=4) rfl)) ?_
          refine .cons (lop rfl rfl fun S hA=>(hB aB.toEnc0 (b:=5) (k:=4) (a':=(⟨x133.id,x133.up,x133.first,x133.next,x131,x133.closed⟩ : aG)) rfl rfl ti3 (svaR hA rfl rfl) (agi hA rfl rfl) (svaI hA rfl rfl) rfl rfl rfl rfl hx133 (nle rfl) rfl hx134)) ?_
          exact .nil
         obtain ⟨x135,hx135,h⟩:=aS h
         obtain ⟨x136,hx136,h⟩:=aS h
         obtain ⟨x137,hx137,h⟩:=aS h
         refine jF rfl [⟨[2],[0],[(56,.ref 1000 0)],[]⟩,
          ⟨[8],[],[(57,.int .i64 x123)],[]⟩,
          ⟨[2],[0],[(58,.ref 1000 0)],[]⟩,
          ⟨[3],[1],[(59,.int .i64 a0)],[]⟩,
          ⟨[58],[],[(60,.ref 1000 0)],[]⟩,
          ⟨[60],[],[(61,.ref 1000 5)],[]⟩,
          ⟨[59,61],[],[(62,.ref 1000 (5 + (((a0 : Int).toNat) * aB.sz + 0)))],[]⟩,
          ⟨[62],[],[(63,.ref 1000 (5 + (((a0 : Int).toNat) * aB.sz + 1)))],[]⟩,
          ⟨[63],[1000],[(64,.int .i64 x136.up)],[]⟩,
          ⟨[56,57,64],[54,55,1000],[(65,.tuple [])],[(1000,.blk 60 (mixD aB.toEnc0 (w20 x137.1 x137.2.1 x137.2.2.1 x137.2.2.2.1 x137.2.2.2.2.1) x137.2.2.2.2.2.1 [.int .i64 x137.2.2.2.2.2.2.1,.osl 55 (eInt .i64).sz x137.2.2.2.2.2.2.2.length])),(55,.blk 3 (D.flat (x137.2.2.2.2.2.2.2.map (eInt .i64).d))),(1000,.none),(54,.none)]⟩] rfl ?_ (by kernel_rfl) ?_
         ·refine .cons (lop rfl rfl fun S hA=>(aK (d:=.ref _ _) rfl rfl (lb rfl) Try.underlying26 ag26 ti26 (by decide) (svaR hA rfl rfl) (agi hA rfl rfl) (nle rfl) rfl)) ?_
          refine .cons (lop rfl rfl fun S hA=>(aN rfl rfl (lb rfl) (svaI hA rfl rfl))) ?_
          refine .cons (lop rfl rfl fun S hA=>(aK (d:=.ref _ _) rfl rfl (lb rfl) Try.underlying26 ag26 ti26 (by decide) (svaR hA rfl rfl) (agi hA rfl rfl) (nle rfl) rfl)) ?_
          refine .cons (lop rfl rfl fun S hA=>(aK (d:=.int _ _) rfl rfl (lb rfl) Try.underlying3 ag3 ti3 (by decide) (svaR hA rfl rfl) (agi hA rfl rfl) (nle rfl) rfl)) ?_
          refine .cons (lop rfl rfl fun S hA=>(aJ rfl rfl (lb rfl) (svaR hA rfl rfl))) ?_
          refine .cons (lop rfl rfl fun S hA=>(aV rfl rfl (lb rfl) Try.underlying60 rfl ti58 (by decide) (svaR hA rfl rfl) (off':=5) rfl)) ?_
          refine .cons (lop rfl rfl fun S hA=>(bX aB.toEnc0 rfl rfl (lb rfl) Try.underlying58 ti57 (svaR hA rfl rfl) (jH hx134 hk125) (svaI hA rfl rfl) hx135)) ?_
          refine .cons (lop rfl rfl fun S hA=>(bJ rfl rfl (lb rfl) Try.underlying57 rfl ti3 (by decide) (svaR hA rfl rfl) (k':=1) rfl)) ?_
          refine .cons (lop rfl rfl fun S hA=>(bP aB.toEnc0 (b:=5) (k:=1) (d:=.int _ _) rfl rfl (lb rfl) Try.underlying3 ag3 ti3 (by decide) (svaR hA rfl rfl) (agi hA rfl rfl) rfl hx136 (nle rfl) rfl)) ?_
          refine .cons (lop rfl rfl fun S hA=>(mW (r':=.tuple []) (U:=[(1000,.blk 60 (mixD aB.toEnc0 (w20 x137.1 x137.2.1 x137.2.2.1 x137.2.2.2.1 x137.2.2.2.2.1) x137.2.2.2.2.2.1 [.int .i64 x137.2.2.2.2.2.2.1,.osl 55 (eInt .i64).sz x137.2.2.2.2.2.2.2.length])),(55,.blk 3 (D.flat (x137.2.2.2.2.2.2.2.map (eInt .i64).d))),(1000,.none),(54,.none)]) 55 1 [1000,54] rfl rfl (lb rfl) cl46 (.cons (svaR hA rfl rfl) (.cons (svaI hA rfl rfl) (.cons (svaI hA rfl rfl) .nil))) rfl rfl rfl (List.forall_mem_cons.2 ⟨(agi hA rfl rfl),List.forall_mem_nil _⟩) ⟨by decide,rfl,List.forall_mem_cons.2 ⟨⟨rfl,rfl,(eP aB (agi hA rfl rfl) rfl rfl),(bF aB rfl rfl)⟩,List.forall_mem_cons.2 ⟨⟨rfl,rfl,(dY (eInt .i64) (agi hA rfl rfl)),(aY (eInt .i64))⟩,List.forall_mem_nil _⟩⟩⟩ (gB _ _ _ _ _ _ _ _ _ _ _ hx137) rfl rfl (List.forall_mem_cons.2 ⟨⟨rfl,(bF aB rfl rfl)⟩,List.forall_mem_cons.2 ⟨⟨rfl,(aY (eInt .i64))⟩,List.forall_mem_nil _⟩⟩) (by simp only [List.map_cons,List.map_nil,Ent.ren,bC,bG,bK]; rfl))) ?_
          exact .nil
         refine bR ?_
         refine aL ?_
         obtain ⟨x138,hx138,h⟩:=aR h
         refine aW (aA rfl (cQ rfl rfl (lb rfl) (svI rfl) (sv (d:=.int _ 1) rfl) rfl hx138) <|aA rfl (mvI rfl rfl rfl rfl) <|bL ?_)
         refine aL ⟨(n4,x138,x137.1,x137.2.1,x137.2.2.1,x137.2.2.2.1,x137.2.2.2.2.1,x137.2.2.2.2.2.1,x137.2.2.2.2.2.2.1,x137.2.2.2.2.2.2.2),(fun i=>if i = 54 then 55 else i),⟨(.sames rfl rfl),(.cons (.blk rfl rfl rfl) (.cons (.blk rfl rfl rfl) (.cons (.blk rfl rfl rfl) (.cons (EntW.lst rfl) (.cons (EntW.mix aB rfl (SubC.of_eq rfl) (SubC.of_eq rfl) rfl rfl) (.cons (EntW.lst rfl) .nil)))))),bB [0,1,2,32,1000,55] rfl (by decide),(fun i hi=>by first | rfl | (show (if _ then _ else _) = _; (repeat' split) <;> omega))⟩,?_,?_⟩
         exact h
         exact Nat.lt_succ_self _
        ·
         replace h:=bZ h hc121
         refine dD ?_
         refine bV ?_
         refine bV ?_
         refine dE ?_
         refine aL ?_
         obtain ⟨x139,hx139,h⟩:=aS h
         refine aF (aA rfl (aK (d:=.ref _ _) rfl rfl (lb rfl) Try.underlying26 ag26 ti26 (by decide) (svR rfl) rfl (nle rfl) rfl) <|aA rfl (aK (d:=.int _ _) rfl rfl (lb rfl) Try.underlying3 ag3 ti3 (by decide) (svR rfl) rfl (nle rfl) rfl) <|aA rfl (bH (r':=.tuple []) (H1':=[(1000,.blk 60 (mixD aB.toEnc0 (w20 x139.1 x139.2.1 x139.2.2.1 x139.2.2.2.1 x139.2.2.2.2.1) x139.2.2.2.2.2.1 [.int .i64 x139.2.2.2.2.2.2.1,.osl 55 (eInt .i64).sz x139.2.2.2.2.2.2.2.length])),(55,.blk 3 (D.flat (x139.2.2.2.2.2.2.2.map (eInt .i64).d)))]) 55 [1000,54] rfl rfl (lb rfl) cl48 (.cons (svR rfl) (.cons (svI rfl) .nil)) rfl rfl ⟨rfl,rfl,by decide,rfl,List.forall_mem_cons.2 ⟨⟨rfl,rfl,(eP aB rfl rfl rfl),(bF aB rfl rfl)⟩,List.forall_mem_cons.2 ⟨⟨rfl,rfl,(dY (eInt .i64) rfl),(aY (eInt .i64))⟩,List.forall_mem_nil _⟩⟩⟩ (jG _ _ _ _ _ _ _ _ _ _ hx139) rfl rfl (List.forall_mem_cons.2 ⟨⟨rfl,(bF aB rfl rfl)⟩,List.forall_mem_cons.2 ⟨⟨rfl,(aY (eInt .i64))⟩,List.forall_mem_nil _⟩⟩) (by simp only [List.map_cons,List.map_nil,Ent.ren,bC,bG,bK]; rfl)) <|aD ?_)
         obtain ⟨x140,hx140,h⟩:=aS h
         refine lF rfl [⟨[2],[0],[(71,.ref 1000 0)],[]⟩,
          ⟨[2],[0],[(72,.ref 1000 0)],[]⟩,
          ⟨[72],[],[(73,.ref 1000 0)],[]⟩,
          ⟨[73],[],[(74,.ref 1000 2)],[]⟩,
          ⟨[74],[1000],[(75,.agg [.slice false (x139.2.2.1.map aP.d),.int .i64 x139.2.2.2.1,.int .i64 x139.2.2.2.2.1])],[]⟩,
          ⟨[3],[1],[(76,.int .i64 a0)],[]⟩,
          ⟨[75,76],[],[(77,.tuple [.agg (v1 x140.1),.int .i64 x140.2])],[]⟩,
          ⟨[77],[],[(70,.tuple [.agg (v1 x140.1),.int .i64 x140.2])],[]⟩,
          ⟨[70],[],[(78,.agg (v1 x140.1))],[]⟩,
          ⟨[70],[],[(79,.int .i64 x140.2)],[]⟩,
          ⟨[71],[],[(80,.ref 1000 0)],[]⟩,
          ⟨[80],[],[(81,.ref 1000 2)],[]⟩,
          ⟨[78,81],[1000],[],[(1000,.blk 60 (mixD aB.toEnc0 (w20 x139.1 x139.2.1 x140.1.Cells x140.1.Free x140.1.Used) x139.2.2.2.2.2.1 [.int .i64 x139.2.2.2.2.2.2.1,.osl 55 (eInt .i64).sz x139.2.2.2.2.2.2.2.length]))]⟩] rfl ?_ (by kernel_rfl) ?_
         ·refine .cons (lop rfl rfl fun S hA=>(aK (d:=.ref _ _) rfl rfl (lb rfl) Try.underlying26 ag26 ti26 (by decide) (svaR hA rfl rfl) (agi hA rfl rfl) (nle rfl) rfl)) ?_
          refine .cons (lop rfl rfl fun S hA=>(aK (d:=.ref _ _) rfl rfl (lb rfl) Try.underlying26 ag26 ti26 (by decide) (svaR hA rfl rfl) (agi hA rfl rfl) (nle rfl) rfl)) ?_
          refine .cons (lop rfl rfl fun S hA=>(aJ rfl rfl (lb rfl) (svaR hA rfl rfl))) ?_
          refine .cons (lop rfl rfl fun S hA=>(aV rfl rfl (lb rfl) Try.underlying60 rfl ti55 (by decide) (svaR hA rfl rfl) (off':=2) rfl)) ?_
          refine .cons (lop rfl rfl fun S hA=>(lT aB.toEnc0 (cs:=q10) rfl rfl (lb rfl) Try.underlying55 ag55 ti55 (by decide) (svaR hA rfl rfl) (agi hA rfl rfl) (nle rfl) (by rfl))) ?_
          refine .cons (lop rfl rfl fun S hA=>(aK (d:=.int _ _) rfl rfl (lb rfl) Try.underlying3 ag3 ti3 (by decide) (svaR hA rfl rfl) (agi hA rfl rfl) (nle rfl) rfl)) ?_
          refine .cons (lop rfl rfl fun S hA=>(cA (r:=.tuple q19) rfl rfl (lb rfl) cl49 (.cons (svaA q10 hA rfl rfl) (.cons (svaI hA rfl rfl) .nil)) rfl (oY _ _ _ hx140))) ?_
          refine .cons (lop rfl rfl fun S hA=>(aN rfl rfl (lb rfl) (sv (d:=.tuple q19) (agr hA rfl rfl)))) ?_
          refine .cons (lop rfl rfl fun S hA=>(dR (d:=.agg q10) rfl rfl (lb rfl) (sv (d:=.tuple q19) (agr hA rfl rfl)) rfl)) ?_
          refine .cons (lop rfl rfl fun S hA=>(dR (d:=.int _ _) rfl rfl (lb rfl) (sv (d:=.tuple q19) (agr hA rfl rfl)) rfl)) ?_
          refine .cons (lop rfl rfl fun S hA=>(aJ rfl rfl (lb rfl) (svaR hA rfl rfl))) ?_
          refine .cons (lop rfl rfl fun S hA=>(aV rfl rfl (lb rfl) Try.underlying60 rfl ti55 (by decide) (svaR hA rfl rfl) (off':=2) rfl)) ?_
          refine .cons (lop rfl rfl fun S hA=>(oO aB.toEnc0 (pre:=q7) (pre':=q7) rfl rfl ti55 (svaR hA rfl rfl) (agi hA rfl rfl) (svaA q10 hA rfl rfl) rfl rfl rfl (nle rfl) rfl)) ?_
          exact .nil
         obtain ⟨hk141,h⟩:=jN h
         obtain ⟨x142,hx142,h⟩:=aS h
         refine jF rfl [⟨[2],[0],[(82,.ref 1000 0)],[]⟩,
          ⟨[2],[0],[(83,.ref 1000 0)],[]⟩,
          ⟨[83],[],[(84,.ref 1000 0)],[]⟩,
          ⟨[84],[],[(85,.ref 1000 390)],[]⟩,
          ⟨[85],[1000],[(86,.osl 55 (eInt .i64).sz x139.2.2.2.2.2.2.2.length)],[]⟩,
          ⟨[3],[],[(87,.fn 51 [.ref 1 0])],[]⟩,
          ⟨[86,87],[1,55,56],[(88,.osl 56 (eInt .i64).sz x142.length)],[(1,.blk 3 [.int .i64 a0]),(56,.blk 3 (D.flat (x142.map (eInt .i64).d))),(55,.none),(1,.none)]⟩,
          ⟨[82],[],[(89,.ref 1000 0)],[]⟩,
          ⟨[89],[],[(90,.ref 1000 390)],[]⟩,
          ⟨[88,90],[1000],[],[(1000,.blk 60 (mixD aB.toEnc0 (w20 x139.1 x139.2.1 x140.1.Cells x140.1.Free x140.1.Used) x139.2.2.2.2.2.1 [.int .i64 x139.2.2.2.2.2.2.1,.osl 56 (eInt .i64).sz x142.length]))]⟩] rfl ?_ (by kernel_rfl) ?_
         ·refine .cons (lop rfl rfl fun S hA=>(aK (d:=.ref _ _) rfl rfl (lb rfl) Try.underlying26 ag26 ti26 (by decide) (svaR hA rfl rfl) (agi hA rfl rfl) (nle rfl) rfl)) ?_
          refine .cons (lop rfl rfl fun S hA=>(aK (d:=.ref _ _) rfl rfl (lb rfl) Try.underlying26 ag26 ti26 (by decide) (svaR hA rfl rfl) (agi hA rfl rfl) (nle rfl) rfl)) ?_
          refine .cons (lop rfl rfl fun S hA=>(aJ rfl rfl (lb rfl) (svaR hA rfl rfl))) ?_
          refine .cons (lop rfl rfl fun S hA=>(aV rfl rfl (lb rfl) Try.underlying60 rfl ti24 (by decide) (svaR hA rfl rfl) (off':=390) rfl)) ?_
          refine .cons (lop rfl rfl fun S hA=>(fG aB.toEnc0 (d:=.osl _ _ _) (n:=64) (k:=1) rfl rfl (lb rfl) Try.underlying24 ag24 ti24 (by decide) (svaR hA rfl rfl) (agi hA rfl rfl) hk141 (by rfl) (nle rfl) (by rfl))) ?_
          refine .cons (lop rfl rfl fun S hA=>(kD rfl rfl (lb rfl) (.cons (svaR hA rfl rfl) .nil))) ?_
          refine .cons (lop rfl rfl fun S hA=>(mW (r':=.osl 56 (eInt .i64).sz x142.length) (U:=[(1,.blk 3 [.int .i64 a0]),(56,.blk 3 (D.flat (x142.map (eInt .i64).d))),(55,.none),(1,.none)]) 56 1 [55,1] rfl rfl (lb rfl) cl50 (.cons (sv (d:=.osl _ _ _) (agr hA rfl rfl)) (.cons (sv (d:=.fn 51 [.ref _ _]) (agr hA rfl rfl)) .nil)) rfl rfl rfl (List.forall_mem_cons.2 ⟨(agi hA rfl rfl),List.forall_mem_nil _⟩) ⟨by decide,rfl,List.forall_mem_cons.2 ⟨⟨rfl,rfl,(dY (eInt .i64) (agi hA rfl rfl)),(aY (eInt .i64))⟩,List.forall_mem_cons.2 ⟨⟨rfl,rfl,(agi hA rfl rfl),rfl⟩,List.forall_mem_nil _⟩⟩⟩ (gR _ _ _ hx142) rfl rfl (List.forall_mem_cons.2 ⟨⟨rfl,rfl⟩,List.forall_mem_cons.2 ⟨⟨rfl,(aY (eInt .i64))⟩,List.forall_mem_nil _⟩⟩) (by simp only [List.map_cons,List.map_nil,Ent.ren,bC,bG]; rfl))) ?_
          refine .cons (lop rfl rfl fun S hA=>(aJ rfl rfl (lb rfl) (svaR hA rfl rfl))) ?_
          refine .cons (lop rfl rfl fun S hA=>(aV rfl rfl (lb rfl) Try.underlying60 rfl ti24 (by decide) (svaR hA rfl rfl) (off':=390) rfl)) ?_
          refine .cons (lop rfl rfl fun S hA=>(mH aB.toEnc0 (post:=q15) (post':=q15) (n:=64) (k:=1) rfl rfl ti24 (svaR hA rfl rfl) (agi hA rfl rfl) (sv (d:=.osl _ _ _) (agr hA rfl rfl)) rfl rfl rfl hk141 (by rfl) (nle rfl) (by rfl))) ?_
          exact .nil
         obtain rfl:=Option.some.inj h
         refine ⟨.inl rfl,(fun i=>if i = 0 then 56 else i),⟨.nil,(.cons (EntW.mix aB rfl (SubC.of_eq rfl) (SubC.of_eq rfl) rfl rfl) (.cons (EntW.lst rfl) .nil)),bB [1000,56] rfl (by decide),(fun i hi=>by first | rfl | (show (if _ then _ else _) = _; (repeat' split) <;> omega))⟩,.nil,rfl⟩
  ·
   replace h:=bZ h hc55
   refine aU ?_
   refine aL ?_
   obtain ⟨x143,hx143,h⟩:=aS h
   obtain ⟨hk144,h⟩:=jN h
   refine aF (aA rfl (mvR rfl rfl rfl rfl) <|aA rfl (mvI rfl rfl rfl rfl) <|aA rfl (aJ rfl rfl (lb rfl) (svR rfl)) <|aA rfl (faR 5 rfl rfl rfl Try.underlying60 rfl ti58 (lb rfl) rfl rfl) <|aA rfl (bX aB.toEnc0 rfl rfl (lb rfl) Try.underlying58 ti57 (svR rfl) hk144 (svI rfl) hx143) <|aA rfl (bJ rfl rfl (lb rfl) Try.underlying57 rfl ti3 (by decide) (svR rfl) (k':=2) rfl) <|aA rfl (aH rfl rfl (lb rfl) (svR rfl)) <|aD ?_)
   refine bD ?_
   refine ⟨.inr rfl,11,_,[.ref 1000 (5 + (((a0 : Int).toNat) * aB.sz + 2))],(.cons (sv rfl) .nil),rfl,rfl,⟨[(0,.yld 9),(1,.ref 4 0),(8,.ref 1000 (5 + (((a0 : Int).toNat) * aB.sz + 2)))],[(0,.blk 26 [.ref 1000 0]),(1,.blk 3 [.int .i64 a0]),(2,.blk 3 [.int .i64 v53]),(4,.blk 26 [.ref 1000 0]),(5,.blk 3 [.int .i64 a0]),(6,.kept 1 [.dead,.dead,.ref 0 0,.ref 1 0,.ref 2 0,.dead,.dead,.dead,.dead,.dead,.dead,.dead,.dead,.dead,.dead,.dead,.dead,.dead,.dead,.dead,.dead,.dead,.dead,.dead,.fn 40 [.ref 4 0,.ref 5 0],.dead,.dead,.dead,.dead,.dead,.dead,.dead,.dead,.dead,.dead,.dead,.dead,.dead,.dead,.dead,.dead,.dead,.dead,.dead,.dead,.dead,.dead,.dead,.dead,.dead,.dead,.dead,.dead,.dead,.dead,.dead,.dead,.dead,.dead,.dead,.dead,.dead,.dead,.dead,.dead,.dead,.dead,.dead,.dead,.dead,.dead,.dead,.dead,.dead,.dead,.dead,.dead,.dead,.dead,.dead,.dead,.dead,.dead,.dead,.dead,.dead,.dead,.dead,.dead,.dead,.dead]),(7,.kept 2 [.dead,.dead,.dead,.fn 40 [.ref 4 0,.ref 5 0],.dead]),(8,.blk 24 [.nils]),(9,.loop 3 [.dead,.dead,.ref 8 0,.dead,.dead,.dead,.fn 40 [.ref 4 0,.ref 5 0],.dead,.dead,.dead,.dead,.dead,.dead] .ready none),(10,.kept 3 [.dead,.dead,.ref 8 0,.dead,.dead,.dead,.fn 40 [.ref 4 0,.ref 5 0],.dead,.dead,.dead,.dead,.dead,.dead]),(1000,.blk 60 (mixD aB.toEnc0 (w20 a1 a2 a3 a4 a5) a6 [.int .i64 a7,.osl 1001 (eInt .i64).sz a8.length])),(1001,.blk 3 (D.flat (a8.map (eInt .i64).d)))]⟩,(fun i=>i),⟨(.sames rfl rfl),(.cons (.blk rfl rfl rfl) (.cons (.blk rfl rfl rfl) (.cons (.blk rfl rfl rfl) (.cons (.blk rfl rfl rfl) (.cons (.blk rfl rfl rfl) (.cons (.kept rfl rfl rfl) (.cons (.kept rfl rfl rfl) (.cons (.blk rfl rfl rfl) (.cons (.loop rfl rfl rfl) (.cons (.kept rfl rfl rfl) (.cons (EntW.mix aB rfl (SubC.of_eq rfl) (SubC.of_eq rfl) rfl rfl) (.cons (EntW.lst rfl) .nil)))))))))))),bB [0,1,2,4,5,6,7,8,9,10,1000,1001] rfl (by decide),fun _ _=>rfl⟩,?_⟩
   obtain ⟨x145,hx145,h⟩:=aS h
   refine aA rfl (aJ rfl rfl (lb rfl) (svR rfl)) <|aA rfl (bP aB.toEnc0 (b:=5) (k:=2) (d:=.int _ _) rfl rfl (lb rfl) Try.underlying3 ag3 ti3 (by decide) (svR rfl) rfl rfl hx145 (nle rfl) rfl) <|aA rfl (asI rfl rfl rfl rfl) <|aD ?_
   refine bA ?_
   refine cV (α:=Nat × Int × (List Int)) (fun z=>⟨[(0,.yld 9),(1,.ref 4 0),(4,.int .i64 z.2.1)],[(9,.loop 3 [.dead,.dead,.ref 8 0,.dead,.dead,.dead,.fn 40 [.ref 4 0,.ref 5 0],.dead,.dead,.dead,.dead,.dead,.dead] .ready none),(4,.blk 26 [.ref 1000 0]),(6,.kept 1 [.dead,.dead,.ref 0 0,.ref 1 0,.ref 2 0,.dead,.dead,.dead,.dead,.dead,.dead,.dead,.dead,.dead,.dead,.dead,.dead,.dead,.dead,.dead,.dead,.dead,.dead,.dead,.fn 40 [.ref 4 0,.ref 5 0],.dead,.dead,.dead,.dead,.dead,.dead,.dead,.dead,.dead,.dead,.dead,.dead,.dead,.dead,.dead,.dead,.dead,.dead,.dead,.dead,.dead,.dead,.dead,.dead,.dead,.dead,.dead,.dead,.dead,.dead,.dead,.dead,.dead,.dead,.dead,.dead,.dead,.dead,.dead,.dead,.dead,.dead,.dead,.dead,.dead,.dead,.dead,.dead,.dead,.dead,.dead,.dead,.dead,.dead,.dead,.dead,.dead,.dead,.dead,.dead,.dead,.dead,.dead,.dead,.dead,.dead]),(7,.kept 2 [.dead,.dead,.dead,.fn 40 [.ref 4 0,.ref 5 0],.dead]),(10,.kept 3 [.dead,.dead,.ref 8 0,.dead,.dead,.dead,.fn 40 [.ref 4 0,.ref 5 0],.dead,.dead,.dead,.dead,.dead,.dead]),(1000,.blk 60 (mixD aB.toEnc0 (w20 a1 a2 a3 a4 a5) a6 [.int .i64 a7,.osl 1001 (eInt .i64).sz a8.length])),(1001,.blk 3 (D.flat (a8.map (eInt .i64).d))),(8,.blk 24 [.osl 32 (eInt .i64).sz z.2.2.length]),(5,.blk 3 [.int .i64 a0]),(0,.blk 26 [.ref 1000 0]),(1,.blk 3 [.int .i64 a0]),(2,.blk 3 [.int .i64 v53]),(32,.blk 3 (D.flat (z.2.2.map (eInt .i64).d)))]⟩) (fun z=>eT a0 a1 a2 a3 a4 a5 a6 a7 a8 v53 z.1 z.2.1 z.2.2 = some r) (fun z=>z.1) (fuel,x145.first,([] : (List Int))) (fun i=>if i = 32 then 94 else i) ⟨(.sames rfl rfl),(.cons (.loop rfl rfl rfl) (.cons (.blk rfl rfl rfl) (.cons (.kept rfl rfl rfl) (.cons (.kept rfl rfl rfl) (.cons (.kept rfl rfl rfl) (.cons (EntW.mix aB rfl (SubC.of_eq rfl) (SubC.of_eq rfl) rfl rfl) (.cons (EntW.lst rfl) (.cons (.sub rfl (.nilo .nil) rfl) (.cons (.blk rfl rfl rfl) (.cons (.blk rfl rfl rfl) (.cons (.blk rfl rfl rfl) (.cons (.blk rfl rfl rfl) (.cons (.nilb rfl) .nil))))))))))))),bB [9,4,6,7,10,1000,1001,8,5,0,1,2,94] rfl (by decide),(fun i hi=>by first | rfl | (show (if _ then _ else _) = _; (repeat' split) <;> omega))⟩ ?_ ?_
   ·exact h
   ·
    rintro ⟨n5,v151,v152⟩ h
    cases n5 with
    | zero=>exact absurd h (by unfold eT; exact nofun)
    | succ n5 =>
     unfold eT at h
     refine aT ?_
     obtain ⟨x158,hx158,h⟩:=aR h
     refine aF (aA rfl (mvI rfl rfl rfl rfl) <|aA rfl (aM rfl rfl (lb rfl) (svI rfl) (sv (d:=.int _ (-1)) rfl) rfl hx158) <|aD ?_)
     refine aX (b:=_) rfl (fun hc159=>?_) (fun hc159=>?_)
     ·
      replace h:=bY h hc159
      refine aU ?_
      refine aL ?_
      refine bA ?_
      obtain ⟨x160,hx160,h⟩:=aS h
      obtain ⟨x161,hx161,h⟩:=aS h
      refine aF (aA rfl (aK (d:=.ref _ _) rfl rfl (lb rfl) Try.underlying26 ag26 ti26 (by decide) (svR rfl) rfl (nle rfl) rfl) <|aA rfl (mvI rfl rfl rfl rfl) <|aA rfl (aJ rfl rfl (lb rfl) (svR rfl)) <|aA rfl (faR 5 rfl rfl rfl Try.underlying60 rfl ti58 (lb rfl) rfl rfl) <|aA rfl (bX aB.toEnc0 rfl rfl (lb rfl) Try.underlying58 ti57 (svR rfl) hk144 (svI rfl) hx160) <|aA rfl (bJ rfl rfl (lb rfl) Try.underlying57 rfl ti3 (by decide) (svR rfl) (k':=3) rfl) <|aA rfl (bP aB.toEnc0 (b:=5) (k:=3) (d:=.int _ _) rfl rfl (lb rfl) Try.underlying3 ag3 ti3 (by decide) (svR rfl) rfl rfl hx161 (nle rfl) rfl) <|aA rfl (asI rfl rfl rfl rfl) <|aD ?_)
      refine aT ?_
      refine aF (aA rfl (aN rfl rfl (lb rfl) (sv (d:=.yld _) rfl)) <|aA rfl (mvI rfl rfl rfl rfl) <|?_)
      refine eR (S':=⟨[(0,.yld 9),(1,.ref 4 0),(5,.int .i64 x161.next),(20,.yld 9),(21,.int .i64 v151)],[(0,.blk 26 [.ref 1000 0]),(1,.blk 3 [.int .i64 a0]),(2,.blk 3 [.int .i64 v53]),(4,.blk 26 [.ref 1000 0]),(5,.blk 3 [.int .i64 a0]),(6,.kept 1 [.dead,.dead,.ref 0 0,.ref 1 0,.ref 2 0,.dead,.dead,.dead,.dead,.dead,.dead,.dead,.dead,.dead,.dead,.dead,.dead,.dead,.dead,.dead,.dead,.dead,.dead,.dead,.fn 40 [.ref 4 0,.ref 5 0],.dead,.dead,.dead,.dead,.dead,.dead,.dead,.dead,.dead,.dead,.dead,.dead,.dead,.dead,.dead,.dead,.dead,.dead,.dead,.dead,.dead,.dead,.dead,.dead,.dead,.dead,.dead,.dead,.dead,.dead,.dead,.dead,.dead,.dead,.dead,.dead,.dead,.dead,.dead,.dead,.dead,.dead,.dead,.dead,.dead,.dead,.dead,.dead,.dead,.dead,.dead,.dead,.dead,.dead,.dead,.dead,.dead,.dead,.dead,.dead,.dead,.dead,.dead,.dead,.dead,.dead]),(7,.kept 2 [.dead,.dead,.dead,.fn 40 [.ref 4 0,.ref 5 0],.dead]),(8,.blk 24 [.osl 32 (eInt .i64).sz v152.length]),(9,.loop 3 [.dead,.dead,.ref 8 0,.dead,.dead,.dead,.fn 40 [.ref 4 0,.ref 5 0],.dead,.dead,.dead,.dead,.dead,.dead] .ready none),(10,.kept 3 [.dead,.dead,.ref 8 0,.dead,.dead,.dead,.fn 40 [.ref 4 0,.ref 5 0],.dead,.dead,.dead,.dead,.dead,.dead]),(32,.blk 3 (D.flat (v152.map (eInt .i64).d))),(1000,.blk 60 (mixD aB.toEnc0 (w20 a1 a2 a3 a4 a5) a6 [.int .i64 a7,.osl 1001 (eInt .i64).sz a8.length])),(1001,.blk 3 (D.flat (a8.map (eInt .i64).d)))]⟩) (fun i=>i) ⟨(.sames rfl rfl),(.cons (.blk rfl rfl rfl) (.cons (.blk rfl rfl rfl) (.cons (.blk rfl rfl rfl) (.cons (.blk rfl rfl rfl) (.cons (.blk rfl rfl rfl) (.cons (.kept rfl rfl rfl) (.cons (.kept rfl rfl rfl) (.cons (.blk rfl rfl rfl) (.cons (.loop rfl rfl rfl) (.cons (.kept rfl rfl rfl) (.cons (EntW.lst rfl) (.cons (EntW.mix aB rfl (SubC.of_eq rfl) (SubC.of_eq rfl) rfl rfl) (.cons (EntW.lst rfl) .nil))))))))))))),bB [0,1,2,4,5,6,7,8,9,10,32,1000,1001] rfl (by decide),fun _ _=>rfl⟩ ?_
      refine lC 4 9 33 rfl rfl rfl (by decide) rfl (.cons (svI rfl) .nil) rfl rfl rfl rfl rfl rfl hO3.round hlc3 ⟨[(7,.int .i64 v151),(2,.ref 8 0)],[(0,.blk 26 [.ref 1000 0]),(1,.blk 3 [.int .i64 a0]),(2,.blk 3 [.int .i64 v53]),(4,.blk 26 [.ref 1000 0]),(5,.blk 3 [.int .i64 a0]),(6,.kept 1 [.dead,.dead,.ref 0 0,.ref 1 0,.ref 2 0,.dead,.dead,.dead,.dead,.dead,.dead,.dead,.dead,.dead,.dead,.dead,.dead,.dead,.dead,.dead,.dead,.dead,.dead,.dead,.fn 40 [.ref 4 0,.ref 5 0],.dead,.dead,.dead,.dead,.dead,.dead,.dead,.dead,.dead,.dead,.dead,.dead,.dead,.dead,.dead,.dead,.dead,.dead,.dead,.dead,.dead,.dead,.dead,.dead,.dead,.dead,.dead,.dead,.dead,.dead,.dead,.dead,.dead,.dead,.dead,.dead,.dead,.dead,.dead,.dead,.dead,.dead,.dead,.dead,.dead,.dead,.dead,.dead,.dead,.dead,.dead,.dead,.dead,.dead,.dead,.dead,.dead,.dead,.dead,.dead,.dead,.dead,.dead,.dead,.dead,.dead]),(7,.kept 2 [.dead,.dead,.dead,.fn 40 [.ref 4 0,.ref 5 0],.dead]),(8,.blk 24 [.osl 32 (eInt .i64).sz v152.length]),(9,.loop 3 [.dead,.dead,.ref 8 0,.dead,.dead,.dead,.fn 40 [.ref 4 0,.ref 5 0],.dead,.dead,.dead,.dead,.dead,.dead] .ready none),(10,.kept 3 [.dead,.dead,.ref 8 0,.dead,.dead,.dead,.fn 40 [.ref 4 0,.ref 5 0],.dead,.dead,.dead,.dead,.dead,.dead]),(32,.blk 3 (D.flat (v152.map (eInt .i64).d))),(33,.kept 4 [.yld 9,.ref 4 0,.dead,.dead,.dead,.int .i64 x161.next,.dead,.dead,.dead,.dead,.dead,.dead,.dead,.dead,.dead,.dead,.dead,.dead,.dead,.dead,.yld 9,.int .i64 v151,.dead,.dead,.dead]),(1000,.blk 60 (mixD aB.toEnc0 (w20 a1 a2 a3 a4 a5) a6 [.int .i64 a7,.osl 1001 (eInt .i64).sz a8.length])),(1001,.blk 3 (D.flat (a8.map (eInt .i64).d)))]⟩ (fun i=>i) ⟨(.sames rfl rfl),(.cons (.blk rfl rfl rfl) (.cons (.blk rfl rfl rfl) (.cons (.blk rfl rfl rfl) (.cons (.blk rfl rfl rfl) (.cons (.blk rfl rfl rfl) (.cons (.kept rfl rfl rfl) (.cons (.kept rfl rfl rfl) (.cons (.blk rfl rfl rfl) (.cons (.loop rfl rfl rfl) (.cons (.kept rfl rfl rfl) (.cons (EntW.lst rfl) (.cons (.kept rfl rfl rfl) (.cons (EntW.mix aB rfl (SubC.of_eq rfl) (SubC.of_eq rfl) rfl rfl) (.cons (EntW.lst rfl) .nil)))))))))))))),bB [0,1,2,4,5,6,7,8,9,10,32,33,1000,1001] rfl (by decide),fun _ _=>rfl⟩ fun O4=>?_
      refine aW (aA rfl (asI rfl rfl rfl rfl) <|bL ?_)
      refine ⟨rfl,9,_,rfl,⟨[(2,.ref 8 0),(5,.int .i64 v151)],[(0,.blk 26 [.ref 1000 0]),(1,.blk 3 [.int .i64 a0]),(2,.blk 3 [.int .i64 v53]),(4,.blk 26 [.ref 1000 0]),(5,.blk 3 [.int .i64 a0]),(6,.kept 1 [.dead,.dead,.ref 0 0,.ref 1 0,.ref 2 0,.dead,.dead,.dead,.dead,.dead,.dead,.dead,.dead,.dead,.dead,.dead,.dead,.dead,.dead,.dead,.dead,.dead,.dead,.dead,.fn 40 [.ref 4 0,.ref 5 0],.dead,.dead,.dead,.dead,.dead,.dead,.dead,.dead,.dead,.dead,.dead,.dead,.dead,.dead,.dead,.dead,.dead,.dead,.dead,.dead,.dead,.dead,.dead,.dead,.dead,.dead,.dead,.dead,.dead,.dead,.dead,.dead,.dead,.dead,.dead,.dead,.dead,.dead,.dead,.dead,.dead,.dead,.dead,.dead,.dead,.dead,.dead,.dead,.dead,.dead,.dead,.dead,.dead,.dead,.dead,.dead,.dead,.dead,.dead,.dead,.dead,.dead,.dead,.dead,.dead,.dead]),(7,.kept 2 [.dead,.dead,.dead,.fn 40 [.ref 4 0,.ref 5 0],.dead]),(8,.blk 24 [.osl 32 (eInt .i64).sz v152.length]),(9,.loop 3 [.dead,.dead,.ref 8 0,.dead,.dead,.dead,.fn 40 [.ref 4 0,.ref 5 0],.dead,.dead,.dead,.dead,.dead,.dead] .busy none),(10,.kept 3 [.dead,.dead,.ref 8 0,.dead,.dead,.dead,.fn 40 [.ref 4 0,.ref 5 0],.dead,.dead,.dead,.dead,.dead,.dead]),(32,.blk 3 (D.flat (v152.map (eInt .i64).d))),(33,.kept 4 [.yld 9,.ref 4 0,.dead,.dead,.dead,.int .i64 x161.next,.dead,.dead,.dead,.dead,.dead,.dead,.dead,.dead,.dead,.dead,.dead,.dead,.dead,.dead,.yld 9,.int .i64 v151,.dead,.dead,.dead]),(1000,.blk 60 (mixD aB.toEnc0 (w20 a1 a2 a3 a4 a5) a6 [.int .i64 a7,.osl 1001 (eInt .i64).sz a8.length])),(1001,.blk 3 (D.flat (a8.map (eInt .i64).d)))]⟩,(fun i=>i),⟨(.sames rfl rfl),(.cons (.blk rfl rfl rfl) (.cons (.blk rfl rfl rfl) (.cons (.blk rfl rfl rfl) (.cons (.blk rfl rfl rfl) (.cons (.blk rfl rfl rfl) (.cons (.kept rfl rfl rfl) (.cons (.kept rfl rfl rfl) (.cons (.blk rfl rfl rfl) (.cons (.loop rfl rfl rfl) (.cons (.kept rfl rfl rfl) (.cons (EntW.lst rfl) (.cons (.kept rfl rfl rfl) (.cons (EntW.mix aB rfl (SubC.of_eq rfl) (SubC.of_eq rfl) rfl rfl) (.cons (EntW.lst rfl) .nil)))))))))))))),bB [0,1,2,4,5,6,7,8,9,10,32,33,1000,1001] rfl (by decide),fun _ _=>rfl⟩,?_⟩
      refine bA ?_
      obtain ⟨x162,hx162,h⟩:=aS h
      refine aW (aA rfl (aK (d:=.osl _ _ _) rfl rfl (lb rfl) Try.underlying24 ag24 ti24 (by decide) (svR rfl) rfl (nle rfl) rfl) <|aA rfl (mvI rfl rfl rfl rfl) <|aA rfl (jZ (eInt .i64).toEnc0 ([v151] : (List Int)) 34 rfl rfl (lb rfl) Try.underlying24 ti3 rfl (.cons (svI rfl) .nil) rfl rfl (by decide)) <|aA rfl (iX (eInt .i64).toEnc0 35 rfl rfl (lb rfl) Try.underlying24 ti3 rfl rfl rfl rfl rfl (nS (eInt .i64).toEnc0 rfl rfl rfl) hx162) <|aA rfl (eZ (ds':=[.osl _ _ _]) rfl rfl ti24 (svR rfl) rfl (sv (d:=.osl _ _ _) rfl) rfl rfl rfl (nle rfl) rfl) <|bL ?_)
      refine bR ?_
      refine ⟨9,33,_,_,none,rfl,rfl,rfl,rfl,(by decide),⟨[(0,.yld 9),(1,.ref 4 0),(5,.int .i64 x161.next),(22,.bool true)],[(0,.blk 26 [.ref 1000 0]),(1,.blk 3 [.int .i64 a0]),(2,.blk 3 [.int .i64 v53]),(4,.blk 26 [.ref 1000 0]),(5,.blk 3 [.int .i64 a0]),(6,.kept 1 [.dead,.dead,.ref 0 0,.ref 1 0,.ref 2 0,.dead,.dead,.dead,.dead,.dead,.dead,.dead,.dead,.dead,.dead,.dead,.dead,.dead,.dead,.dead,.dead,.dead,.dead,.dead,.fn 40 [.ref 4 0,.ref 5 0],.dead,.dead,.dead,.dead,.dead,.dead,.dead,.dead,.dead,.dead,.dead,.dead,.dead,.dead,.dead,.dead,.dead,.dead,.dead,.dead,.dead,.dead,.dead,.dead,.dead,.dead,.dead,.dead,.dead,.dead,.dead,.dead,.dead,.dead,.dead,.dead,.dead,.dead,.dead,.dead,.dead,.dead,.dead,.dead,.dead,.dead,.dead,.dead,.dead,.dead,.dead,.dead,.dead,.dead,.dead,.dead,.dead,.dead,.dead,.dead,.dead,.dead,.dead,.dead,.dead,.dead]),(7,.kept 2 [.dead,.dead,.dead,.fn 40 [.ref 4 0,.ref 5 0],.dead]),(8,.blk 24 [.osl 35 (eInt .i64).sz x162.length]),(9,.loop 3 [.dead,.dead,.ref 8 0,.dead,.dead,.dead,.fn 40 [.ref 4 0,.ref 5 0],.dead,.dead,.dead,.dead,.dead,.dead] .ready none),(10,.kept 3 [.dead,.dead,.ref 8 0,.dead,.dead,.dead,.fn 40 [.ref 4 0,.ref 5 0],.dead,.dead,.dead,.dead,.dead,.dead]),(35,.blk 3 (D.flat (x162.map (eInt .i64).d))),(1000,.blk 60 (mixD aB.toEnc0 (w20 a1 a2 a3 a4 a5) a6 [.int .i64 a7,.osl 1001 (eInt .i64).sz a8.length])),(1001,.blk 3 (D.flat (a8.map (eInt .i64).d)))]⟩,(fun i=>i),⟨(.sames rfl rfl),(.cons (.blk rfl rfl rfl) (.cons (.blk rfl rfl rfl) (.cons (.blk rfl rfl rfl) (.cons (.blk rfl rfl rfl) (.cons (.blk rfl rfl rfl) (.cons (.kept rfl rfl rfl) (.cons (.kept rfl rfl rfl) (.cons (.blk rfl rfl rfl) (.cons (.loop rfl rfl rfl) (.cons (.kept rfl rfl rfl) (.cons (EntW.lst rfl) (.cons (EntW.mix aB rfl (SubC.of_eq rfl) (SubC.of_eq rfl) rfl rfl) (.cons (EntW.lst rfl) .nil))))))))))))),bB [0,1,2,4,5,6,7,8,9,10,35,1000,1001] rfl (by decide),fun _ _=>rfl⟩,?_⟩
      refine aA rfl (eG rfl rfl (lb rfl) (svB rfl)) <|aD ?_
      refine fD rfl rfl ?_
      refine aU ?_
      refine aL ?_
      refine aW (aA rfl (mvI rfl rfl rfl rfl) <|aA rfl (asI rfl rfl rfl rfl) <|bL ?_)
      refine bR ?_
      refine aL ⟨(n5,x161.next,x162),(fun i=>if i = 32 then 35 else i),⟨(.sames rfl rfl),(.cons (.loop rfl rfl rfl) (.cons (.blk rfl rfl rfl) (.cons (.kept rfl rfl rfl) (.cons (.kept rfl rfl rfl) (.cons (.kept rfl rfl rfl) (.cons (EntW.mix aB rfl (SubC.of_eq rfl) (SubC.of_eq rfl) rfl rfl) (.cons (EntW.lst rfl) (.cons (.blk rfl rfl rfl) (.cons (.blk rfl rfl rfl) (.cons (.blk rfl rfl rfl) (.cons (.blk rfl rfl rfl) (.cons (.blk rfl rfl rfl) (.cons (EntW.lst rfl) .nil))))))))))))),bB [9,4,6,7,10,1000,1001,8,5,0,1,2,35] rfl (by decide),(fun i hi=>by first | rfl | (show (if _ then _ else _) = _; (repeat' split) <;> omega))⟩,?_,?_⟩
      exact h
      exact Nat.lt_succ_self _
     ·
      replace h:=bZ h hc159
      refine dD ?_
      refine bV ?_
      refine bV ?_
      refine dE ?_
      refine ⟨.inl rfl,9,10,_,_,_,_,rfl,(by simp),rfl,rfl,⟨[(2,.ref 8 0)],[(0,.blk 26 [.ref 1000 0]),(1,.blk 3 [.int .i64 a0]),(2,.blk 3 [.int .i64 v53]),(4,.blk 26 [.ref 1000 0]),(5,.blk 3 [.int .i64 a0]),(6,.kept 1 [.dead,.dead,.ref 0 0,.ref 1 0,.ref 2 0,.dead,.dead,.dead,.dead,.dead,.dead,.dead,.dead,.dead,.dead,.dead,.dead,.dead,.dead,.dead,.dead,.dead,.dead,.dead,.fn 40 [.ref 4 0,.ref 5 0],.dead,.dead,.dead,.dead,.dead,.dead,.dead,.dead,.dead,.dead,.dead,.dead,.dead,.dead,.dead,.dead,.dead,.dead,.dead,.dead,.dead,.dead,.dead,.dead,.dead,.dead,.dead,.dead,.dead,.dead,.dead,.dead,.dead,.dead,.dead,.dead,.dead,.dead,.dead,.dead,.dead,.dead,.dead,.dead,.dead,.dead,.dead,.dead,.dead,.dead,.dead,.dead,.dead,.dead,.dead,.dead,.dead,.dead,.dead,.dead,.dead,.dead,.dead,.dead,.dead,.dead]),(7,.kept 2 [.dead,.dead,.dead,.fn 40 [.ref 4 0,.ref 5 0],.dead]),(8,.blk 24 [.osl 32 (eInt .i64).sz v152.length]),(32,.blk 3 (D.flat (v152.map (eInt .i64).d))),(1000,.blk 60 (mixD aB.toEnc0 (w20 a1 a2 a3 a4 a5) a6 [.int .i64 a7,.osl 1001 (eInt .i64).sz a8.length])),(1001,.blk 3 (D.flat (a8.map (eInt .i64).d)))]⟩,(fun i=>i),⟨(.sames rfl rfl),(.cons (.blk rfl rfl rfl) (.cons (.blk rfl rfl rfl) (.cons (.blk rfl rfl rfl) (.cons (.blk rfl rfl rfl) (.cons (.blk rfl rfl rfl) (.cons (.kept rfl rfl rfl) (.cons (.kept rfl rfl rfl) (.cons (.blk rfl rfl rfl) (.cons (EntW.lst rfl) (.cons (EntW.mix aB rfl (SubC.of_eq rfl) (SubC.of_eq rfl) rfl rfl) (.cons (EntW.lst rfl) .nil))))))))))),bB [0,1,2,4,5,6,7,8,32,1000,1001] rfl (by decide),fun _ _=>rfl⟩,?_⟩
      refine bR ?_
      refine aL ?_
      refine aF (aA rfl (aK (d:=.osl _ _ _) rfl rfl (lb rfl) Try.underlying24 ag24 ti24 (by decide) (svR rfl) rfl (nle rfl) rfl) <|aA rfl (aH rfl rfl (lb rfl) (sv (d:=.osl _ _ _) rfl)) <|aD ?_)
      refine bD ?_
      refine ⟨.inr rfl,7,_,[.osl 32 (eInt .i64).sz v152.length],(.cons (sv rfl) .nil),rfl,rfl,⟨[(4,.osl 32 (eInt .i64).sz v152.length)],[(0,.blk 26 [.ref 1000 0]),(1,.blk 3 [.int .i64 a0]),(2,.blk 3 [.int .i64 v53]),(4,.blk 26 [.ref 1000 0]),(5,.blk 3 [.int .i64 a0]),(6,.kept 1 [.dead,.dead,.ref 0 0,.ref 1 0,.ref 2 0,.dead,.dead,.dead,.dead,.dead,.dead,.dead,.dead,.dead,.dead,.dead,.dead,.dead,.dead,.dead,.dead,.dead,.dead,.dead,.fn 40 [.ref 4 0,.ref 5 0],.dead,.dead,.dead,.dead,.dead,.dead,.dead,.dead,.dead,.dead,.dead,.dead,.dead,.dead,.dead,.dead,.dead,.dead,.dead,.dead,.dead,.dead,.dead,.dead,.dead,.dead,.dead,.dead,.dead,.dead,.dead,.dead,.dead,.dead,.dead,.dead,.dead,.dead,.dead,.dead,.dead,.dead,.dead,.dead,.dead,.dead,.dead,.dead,.dead,.dead,.dead,.dead,.dead,.dead,.dead,.dead,.dead,.dead,.dead,.dead,.dead,.dead,.dead,.dead,.dead,.dead]),(32,.blk 3 (D.flat (v152.map (eInt .i64).d))),(1000,.blk 60 (mixD aB.toEnc0 (w20 a1 a2 a3 a4 a5) a6 [.int .i64 a7,.osl 1001 (eInt .i64).sz a8.length])),(1001,.blk 3 (D.flat (a8.map (eInt .i64).d)))]⟩,(fun i=>i),⟨(.sames rfl rfl),(.cons (.blk rfl rfl rfl) (.cons (.blk rfl rfl rfl) (.cons (.blk rfl rfl rfl) (.cons (.blk rfl rfl rfl) (.cons (.blk rfl rfl rfl) (.cons (.kept rfl rfl rfl) (.cons (EntW.lst rfl) (.cons (EntW.mix aB rfl (SubC.of_eq rfl) (SubC.of_eq rfl) rfl rfl) (.cons (EntW.lst rfl) .nil))))))))),bB [0,1,2,4,5,6,32,1000,1001] rfl (by decide),fun _ _=>rfl⟩,?_⟩
      refine aA rfl (aH rfl rfl (lb rfl) (sv (d:=.osl _ _ _) rfl)) <|aD ?_
      refine bD ?_
      refine ⟨.inr rfl,6,_,[.osl 32 (eInt .i64).sz v152.length],(.cons (sv rfl) .nil),rfl,rfl,⟨[(2,.ref 0 0),(3,.ref 1 0),(4,.ref 2 0),(25,.osl 32 (eInt .i64).sz v152.length)],[(0,.blk 26 [.ref 1000 0]),(1,.blk 3 [.int .i64 a0]),(2,.blk 3 [.int .i64 v53]),(32,.blk 3 (D.flat (v152.map (eInt .i64).d))),(1000,.blk 60 (mixD aB.toEnc0 (w20 a1 a2 a3 a4 a5) a6 [.int .i64 a7,.osl 1001 (eInt .i64).sz a8.length])),(1001,.blk 3 (D.flat (a8.map (eInt .i64).d)))]⟩,(fun i=>i),⟨(.sames rfl rfl),(.cons (.blk rfl rfl rfl) (.cons (.blk rfl rfl rfl) (.cons (.blk rfl rfl rfl) (.cons (EntW.lst rfl) (.cons (EntW.mix aB rfl (SubC.of_eq rfl) (SubC.of_eq rfl) rfl rfl) (.cons (EntW.lst rfl) .nil)))))),bB [0,1,2,32,1000,1001] rfl (by decide),fun _ _=>rfl⟩,?_⟩
      refine aA rfl (aH rfl rfl (lb rfl) (sv (d:=.osl _ _ _) rfl)) <|aD ?_
      refine aT ?_
      refine aF (aA rfl (aN rfl rfl (lb rfl) (sv (d:=.osl _ _ _) rfl)) <|aA rfl (fE rfl rfl (lb rfl) Try.underlying24 (sv (d:=.osl _ _ _) rfl)) <|aA rfl (aN rfl rfl (lb rfl) (sv (d:=.int _ 0) rfl)) <|aD ?_)
      refine bA ?_
      refine cV (α:=Nat × Int × Int × Int × (List aI) × Int × Int × (List aG) × Int × (List Int)) (fun z=>⟨[(2,.ref 0 0),(3,.ref 1 0),(4,.ref 2 0),(26,.osl 32 (eInt .i64).sz v152.length),(27,.int .i64 (v152.length : Int)),(28,.int .i64 z.2.1)],[(0,.blk 26 [.ref 1000 0]),(1,.blk 3 [.int .i64 a0]),(2,.blk 3 [.int .i64 v53]),(32,.blk 3 (D.flat (v152.map (eInt .i64).d))),(1000,.blk 60 (mixD aB.toEnc0 (w20 z.2.2.1 z.2.2.2.1 z.2.2.2.2.1 z.2.2.2.2.2.1 z.2.2.2.2.2.2.1) z.2.2.2.2.2.2.2.1 [.int .i64 z.2.2.2.2.2.2.2.2.1,.osl 54 (eInt .i64).sz z.2.2.2.2.2.2.2.2.2.length])),(54,.blk 3 (D.flat (z.2.2.2.2.2.2.2.2.2.map (eInt .i64).d)))]⟩) (fun z=>cC a0 v53 v152 z.1 z.2.1 z.2.2.1 z.2.2.2.1 z.2.2.2.2.1 z.2.2.2.2.2.1 z.2.2.2.2.2.2.1 z.2.2.2.2.2.2.2.1 z.2.2.2.2.2.2.2.2.1 z.2.2.2.2.2.2.2.2.2 = some r) (fun z=>z.1) (fuel,0,a1,a2,a3,a4,a5,a6,a7,a8) (fun i=>if i = 54 then 1001 else i) ⟨(.sames rfl rfl),(.cons (.blk rfl rfl rfl) (.cons (.blk rfl rfl rfl) (.cons (.blk rfl rfl rfl) (.cons (EntW.lst rfl) (.cons (EntW.mix aB rfl (SubC.of_eq rfl) (SubC.of_eq rfl) rfl rfl) (.cons (EntW.lst rfl) .nil)))))),bB [0,1,2,32,1000,1001] rfl (by decide),(fun i hi=>by first | rfl | (show (if _ then _ else _) = _; (repeat' split) <;> omega))⟩ ?_ ?_
      ·exact h
      ·
       rintro ⟨n6,v181,v182,v183,v184,v185,v186,v187,v188,v189⟩ h
       cases n6 with
       | zero=>exact absurd h (by unfold cC; exact nofun)
       | succ n6 =>
        unfold cC at h
        obtain ⟨x209,hx209,h⟩:=aR h
        refine aF (aA rfl (aM rfl rfl (lb rfl) (svI rfl) (svI rfl) rfl hx209) <|aD ?_)
        refine aT ?_
        refine aX (b:=_) rfl (fun hc210=>?_) (fun hc210=>?_)
        ·
         replace h:=bY h hc210
         refine aU ?_
         refine aL ?_
         refine aT ?_
         refine bA ?_
         obtain ⟨x211,hx211,h⟩:=aS h
         obtain ⟨x212,hx212,h⟩:=aS h
         refine aF (aA rfl (gP (eInt .i64).toEnc0 rfl rfl (lb rfl) Try.underlying24 ti3 (sv (d:=.osl _ _ _) rfl) rfl (svI rfl) hx211) <|aA rfl (fO (eInt .i64).toEnc0 (d:=.int _ _) rfl rfl (lb rfl) Try.underlying3 ag3 ti3 (by decide) (svR rfl) rfl hx212 (nle rfl) rfl) <|aA rfl (asI rfl rfl rfl rfl) <|aD ?_)
         obtain ⟨x213,hx213,h⟩:=aS h
         obtain ⟨hk214,h⟩:=jN h
         obtain ⟨x215,hx215,h⟩:=aS h
         obtain ⟨x216,hx216,h⟩:=aS h
         obtain ⟨x217,hx217,h⟩:=aS h
         obtain ⟨x218,hx218,h⟩:=aR h
         obtain ⟨x219,hx219,h⟩:=aS h
         obtain ⟨x220,hx220,h⟩:=aR h
         obtain ⟨x221,hx221,h⟩:=aS h
         obtain ⟨x222,hx222,h⟩:=aS h
         obtain ⟨x223,hx223,h⟩:=aR h
         refine lF rfl [⟨[2],[0],[(32,.ref 1000 0)],[]⟩,
          ⟨[8],[],[(33,.int .i64 x212)],[]⟩,
          ⟨[2],[0],[(34,.ref 1000 0)],[]⟩,
          ⟨[3],[1],[(35,.int .i64 a0)],[]⟩,
          ⟨[34],[],[(36,.ref 1000 0)],[]⟩,
          ⟨[36],[],[(37,.ref 1000 5)],[]⟩,
          ⟨[35,37],[],[(38,.ref 1000 (5 + (((a0 : Int).toNat) * aB.sz + 0)))],[]⟩,
          ⟨[38],[],[(39,.ref 1000 (5 + (((a0 : Int).toNat) * aB.sz + 4)))],[]⟩,
          ⟨[39],[1000],[(40,.int .i64 x215.weight)],[]⟩,
          ⟨[2],[0],[(41,.ref 1000 0)],[]⟩,
          ⟨[8],[],[(42,.int .i64 x212)],[]⟩,
          ⟨[41],[],[(43,.ref 1000 0)],[]⟩,
          ⟨[43],[],[(44,.ref 1000 5)],[]⟩,
          ⟨[42,44],[],[(45,.ref 1000 (5 + (((x212 : Int).toNat) * aB.sz + 0)))],[]⟩,
          ⟨[45],[],[(46,.ref 1000 (5 + (((x212 : Int).toNat) * aB.sz + 4)))],[]⟩,
          ⟨[46],[1000],[(47,.int .i64 x217.weight)],[]⟩,
          ⟨[40,47],[],[(48,.int .i64 x218)],[]⟩,
          ⟨[4],[2],[(49,.int .i64 v53)],[]⟩,
          ⟨[48,49],[],[(50,.int .i64 x219)],[]⟩,
          ⟨[50],[],[(51,.int .i64 x220)],[]⟩,
          ⟨[32],[],[(52,.ref 1000 0)],[]⟩,
          ⟨[52],[],[(53,.ref 1000 5)],[]⟩,
          ⟨[33,53],[],[(54,.ref 1000 (5 + (((x212 : Int).toNat) * aB.sz + 0)))],[]⟩,
          ⟨[54],[],[(55,.ref 1000 (5 + (((x212 : Int).toNat) * aB.sz + 4)))],[]⟩,
          ⟨[51,55],[1000],[],[(1000,.blk 60 (mixD aB.toEnc0 (w20 v182 v183 v184 v185 v186) x223 [.int .i64 v188,.osl 54 (eInt .i64).sz v189.length]))]⟩] rfl ?_ (by kernel_rfl) ?_
         ·refine .cons (lop rfl rfl fun S hA=>(aK (d:=.ref _ _) rfl rfl (lb rfl) Try.underlying26 ag26 ti26 (by decide) (svaR hA rfl rfl) (agi hA rfl rfl) (nle rfl) rfl)) ?_
          refine .cons (lop rfl rfl fun S hA=>(aN rfl rfl (lb rfl) (svaI hA rfl rfl))) ?_
          refine .cons (lop rfl rfl fun S hA=>(aK (d:=.ref _ _) rfl rfl (lb rfl) Try.underlying26 ag26 ti26 (by decide) (svaR hA rfl rfl) (agi hA rfl rfl) (nle rfl) rfl)) ?_
          refine .cons (lop rfl rfl fun S hA=>(aK (d:=.int _ _) rfl rfl (lb rfl) Try.underlying3 ag3 ti3 (by decide) (svaR hA rfl rfl) (agi hA rfl rfl) (nle rfl) rfl)) ?_
          refine .cons (lop rfl rfl fun S hA=>(aJ rfl rfl (lb rfl) (svaR hA rfl rfl))) ?_
          refine .cons (lop rfl rfl fun S hA=>(aV rfl rfl (lb rfl) Try.underlying60 rfl ti58 (by decide) (svaR hA rfl rfl) (off':=5) rfl)) ?_
          refine .cons (lop rfl rfl fun S hA=>(bX aB.toEnc0 rfl rfl (lb rfl) Try.underlying58 ti57 (svaR hA rfl rfl) hk214 (svaI hA rfl rfl) hx213)) ?_
          refine .cons (lop rfl rfl fun S hA=>(bJ rfl rfl (lb rfl) Try.underlying57 rfl ti3 (by decide) (svaR hA rfl rfl) (k':=4) rfl)) ?_
          refine .cons (lop rfl rfl fun S hA=>(bP aB.toEnc0 (b:=5) (k:=4) (d:=.int _ _) rfl rfl (lb rfl) Try.underlying3 ag3 ti3 (by decide) (svaR hA rfl rfl) (agi hA rfl rfl) rfl hx215 (nle rfl) rfl)) ?_
          refine .cons (lop rfl rfl fun S hA=>(aK (d:=.ref _ _) rfl rfl (lb rfl) Try.underlying26 ag26 ti26 (by decide) (svaR hA rfl rfl) (agi hA rfl rfl) (nle rfl) rfl)) ?_
          refine .cons (lop rfl rfl fun S hA=>(aN rfl rfl (lb rfl) (svaI hA rfl rfl))) ?_
          refine .cons (lop rfl rfl fun S hA=>(aJ rfl rfl (lb rfl) (svaR hA rfl rfl))) ?_
          refine .cons (lop rfl rfl fun S hA=>(aV rfl rfl (lb rfl) Try.underlying60 rfl ti58 (by decide) (svaR hA rfl rfl) (off':=5) rfl)) ?_
          refine .cons (lop rfl rfl fun S hA=>(bX aB.toEnc0 rfl rfl (lb rfl) Try.underlying58 ti57 (svaR hA rfl rfl) hk214 (svaI hA rfl rfl) hx216)) ?_
          refine .cons (lop rfl rfl fun S hA=>(bJ rfl rfl (lb rfl) Try.underlying57 rfl ti3 (by decide) (svaR hA rfl rfl) (k':=4) rfl)) ?_
          refine .cons (lop rfl rfl fun S hA=>(bP aB.toEnc0 (b:=5) (k:=4) (d:=.int _ _) rfl rfl (lb rfl) Try.underlying3 ag3 ti3 (by decide) (svaR hA rfl rfl) (agi hA rfl rfl) rfl hx217 (nle rfl) rfl)) ?_
          refine .cons (lop rfl rfl fun S hA=>(cQ rfl rfl (lb rfl) (svaI hA rfl rfl) (svaI hA rfl rfl) rfl hx218)) ?_
          refine .cons (lop rfl rfl fun S hA=>(aK (d:=.int _ _) rfl rfl (lb rfl) Try.underlying3 ag3 ti3 (by decide) (svaR hA rfl rfl) (agi hA rfl rfl) (nle rfl) rfl)) ?_
          refine .cons (lop rfl rfl fun S hA=>(vL rfl rfl (lb rfl) (svaI hA rfl rfl) (svaI hA rfl rfl) hx219)) ?_
          refine .cons (lop rfl rfl fun S hA=>(vM rfl rfl (lb rfl) (svaI hA rfl rfl) (sv (d:=.int _ 1) rfl) hx220)) ?_
          refine .cons (lop rfl rfl fun S hA=>(aJ rfl rfl (lb rfl) (svaR hA rfl rfl))) ?_
          refine .cons (lop rfl rfl fun S hA=>(aV rfl rfl (lb rfl) Try.underlying60 rfl ti58 (by decide) (svaR hA rfl rfl) (off':=5) rfl)) ?_
          refine .cons (lop rfl rfl fun S hA=>(bX aB.toEnc0 rfl rfl (lb rfl) Try.underlying58 ti57 (svaR hA rfl rfl) hk214 (svaI hA rfl rfl) hx221)) ?_
          refine .cons (lop rfl rfl fun S hA=>(bJ rfl rfl (lb rfl) Try.underlying57 rfl ti3 (by decide) (svaR hA rfl rfl) (k':=4) rfl)) ?_
          refine .cons (lop rfl rfl fun S hA=>(hB aB.toEnc0 (b:=5) (k:=4) (a':=(⟨x222.id,x222.up,x222.first,x222.next,x220,x222.closed⟩ : aG)) rfl rfl ti3 (svaR hA rfl rfl) (agi hA rfl rfl) (svaI hA rfl rfl) rfl rfl rfl rfl hx222 (nle rfl) rfl hx223)) ?_
          exact .nil
         obtain ⟨x224,hx224,h⟩:=aS h
         obtain ⟨x225,hx225,h⟩:=aS h
         obtain ⟨x226,hx226,h⟩:=aS h
         refine jF rfl [⟨[2],[0],[(56,.ref 1000 0)],[]⟩,
          ⟨[8],[],[(57,.int .i64 x212)],[]⟩,
          ⟨[2],[0],[(58,.ref 1000 0)],[]⟩,
          ⟨[3],[1],[(59,.int .i64 a0)],[]⟩,
          ⟨[58],[],[(60,.ref 1000 0)],[]⟩,
          ⟨[60],[],[(61,.ref 1000 5)],[]⟩,
          ⟨[59,61],[],[(62,.ref 1000 (5 + (((a0 : Int).toNat) * aB.sz + 0)))],[]⟩,
          ⟨[62],[],[(63,.ref 1000 (5 + (((a0 : Int).toNat) * aB.sz + 1)))],[]⟩,
          ⟨[63],[1000],[(64,.int .i64 x225.up)],[]⟩,
          ⟨[56,57,64],[54,55,1000],[(65,.tuple [])],[(1000,.blk 60 (mixD aB.toEnc0 (w20 x226.1 x226.2.1 x226.2.2.1 x226.2.2.2.1 x226.2.2.2.2.1) x226.2.2.2.2.2.1 [.int .i64 x226.2.2.2.2.2.2.1,.osl 55 (eInt .i64).sz x226.2.2.2.2.2.2.2.length])),(55,.blk 3 (D.flat (x226.2.2.2.2.2.2.2.map (eInt .i64).d))),(1000,.none),(54,.none)]⟩] rfl ?_ (by kernel_rfl) ?_
         ·refine .cons (lop rfl rfl fun S hA=>(aK (d:=.ref _ _) rfl rfl (lb rfl) Try.underlying26 ag26 ti26 (by decide) (svaR hA rfl rfl) (agi hA rfl rfl) (nle rfl) rfl)) ?_
          refine .cons (lop rfl rfl fun S hA=>(aN rfl rfl (lb rfl) (svaI hA rfl rfl))) ?_
          refine .cons (lop rfl rfl fun S hA=>(aK (d:=.ref _ _) rfl rfl (lb rfl) Try.underlying26 ag26 ti26 (by decide) (svaR hA rfl rfl) (agi hA rfl rfl) (nle rfl) rfl)) ?_
          refine .cons (lop rfl rfl fun S hA=>(aK (d:=.int _ _) rfl rfl (lb rfl) Try.underlying3 ag3 ti3 (by decide) (svaR hA rfl rfl) (agi hA rfl rfl) (nle rfl) rfl)) ?_
          refine .cons (lop rfl rfl fun S hA=>(aJ rfl rfl (lb rfl) (svaR hA rfl rfl))) ?_
          refine .cons (lop rfl rfl fun S hA=>(aV rfl rfl (lb rfl) Try.underlying60 rfl ti58 (by decide) (svaR hA rfl rfl) (off':=5) rfl)) ?_
          refine .cons (lop rfl rfl fun S hA=>(bX aB.toEnc0 rfl rfl (lb rfl) Try.underlying58 ti57 (svaR hA rfl rfl) (jH hx223 hk214) (svaI hA rfl rfl) hx224)) ?_
          refine .cons (lop rfl rfl fun S hA=>(bJ rfl rfl (lb rfl) Try.underlying57 rfl ti3 (by decide) (svaR hA rfl rfl) (k':=1) rfl)) ?_
          refine .cons (lop rfl rfl fun S hA=>(bP aB.toEnc0 (b:=5) (k:=1) (d:=.int _ _) rfl rfl (lb rfl) Try.underlying3 ag3 ti3 (by decide) (svaR hA rfl rfl) (agi hA rfl rfl) rfl hx225 (nle rfl) rfl)) ?_
          refine .cons (lop rfl rfl fun S hA=>(mW (r':=.tuple []) (U:=[(1000,.blk 60 (mixD aB.toEnc0 (w20 x226.1 x226.2.1 x226.2.2.1 x226.2.2.2.1 x226.2.2.2.2.1) x226.2.2.2.2.2.1 [.int .i64 x226.2.2.2.2.2.2.1,.osl 55 (eInt .i64).sz x226.2.2.2.2.2.2.2.length])),(55,.blk 3 (D.flat (x226.2.2.2.2.2.2.2.map (eInt .i64).d))),(1000,.none),(54,.none)]) 55 1 [1000,54] rfl rfl (lb rfl) cl46 (.cons (svaR hA rfl rfl) (.cons (svaI hA rfl rfl) (.cons (svaI hA rfl rfl) .nil))) rfl rfl rfl (List.forall_mem_cons.2 ⟨(agi hA rfl rfl),List.forall_mem_nil _⟩) ⟨by decide,rfl,List.forall_mem_cons.2 ⟨⟨rfl,rfl,(eP aB (agi hA rfl rfl) rfl rfl),(bF aB rfl rfl)⟩,List.forall_mem_cons.2 ⟨⟨rfl,rfl,(dY (eInt .i64) (agi hA rfl rfl)),(aY (eInt .i64))⟩,List.forall_mem_nil _⟩⟩⟩ (gB _ _ _ _ _ _ _ _ _ _ _ hx226) rfl rfl (List.forall_mem_cons.2 ⟨⟨rfl,(bF aB rfl rfl)⟩,List.forall_mem_cons.2 ⟨⟨rfl,(aY (eInt .i64))⟩,List.forall_mem_nil _⟩⟩) (by simp only [List.map_cons,List.map_nil,Ent.ren,bC,bG,bK]; rfl))) ?_
          exact .nil
         refine bR ?_
         refine aL ?_
         obtain ⟨x227,hx227,h⟩:=aR h
         refine aW (aA rfl (cQ rfl rfl (lb rfl) (svI rfl) (sv (d:=.int _ 1) rfl) rfl hx227) <|aA rfl (mvI rfl rfl rfl rfl) <|bL ?_)
         refine aL ⟨(n6,x227,x226.1,x226.2.1,x226.2.2.1,x226.2.2.2.1,x226.2.2.2.2.1,x226.2.2.2.2.2.1,x226.2.2.2.2.2.2.1,x226.2.2.2.2.2.2.2),(fun i=>if i = 54 then 55 else i),⟨(.sames rfl rfl),(.cons (.blk rfl rfl rfl) (.cons (.blk rfl rfl rfl) (.cons (.blk rfl rfl rfl) (.cons (EntW.lst rfl) (.cons (EntW.mix aB rfl (SubC.of_eq rfl) (SubC.of_eq rfl) rfl rfl) (.cons (EntW.lst rfl) .nil)))))),bB [0,1,2,32,1000,55] rfl (by decide),(fun i hi=>by first | rfl | (show (if _ then _ else _) = _; (repeat' split) <;> omega))⟩,?_,?_⟩
         exact h
         exact Nat.lt_succ_self _
        ·
         replace h:=bZ h hc210
         refine dD ?_
         refine bV ?_
         refine bV ?_
         refine dE ?_
         refine aL ?_
         obtain ⟨x228,hx228,h⟩:=aS h
         refine aF (aA rfl (aK (d:=.ref _ _) rfl rfl (lb rfl) Try.underlying26 ag26 ti26 (by decide) (svR rfl) rfl (nle rfl) rfl) <|aA rfl (aK (d:=.int _ _) rfl rfl (lb rfl) Try.underlying3 ag3 ti3 (by decide) (svR rfl) rfl (nle rfl) rfl) <|aA rfl (bH (r':=.tuple []) (H1':=[(1000,.blk 60 (mixD aB.toEnc0 (w20 x228.1 x228.2.1 x228.2.2.1 x228.2.2.2.1 x228.2.2.2.2.1) x228.2.2.2.2.2.1 [.int .i64 x228.2.2.2.2.2.2.1,.osl 55 (eInt .i64).sz x228.2.2.2.2.2.2.2.length])),(55,.blk 3 (D.flat (x228.2.2.2.2.2.2.2.map (eInt .i64).d)))]) 55 [1000,54] rfl rfl (lb rfl) cl48 (.cons (svR rfl) (.cons (svI rfl) .nil)) rfl rfl ⟨rfl,rfl,by decide,rfl,List.forall_mem_cons.2 ⟨⟨rfl,rfl,(eP aB rfl rfl rfl),(bF aB rfl rfl)⟩,List.forall_mem_cons.2 ⟨⟨rfl,rfl,(dY (eInt .i64) rfl),(aY (eInt .i64))⟩,List.forall_mem_nil _⟩⟩⟩ (jG _ _ _ _ _ _ _ _ _ _ hx228) rfl rfl (List.forall_mem_cons.2 ⟨⟨rfl,(bF aB rfl rfl)⟩,List.forall_mem_cons.2 ⟨⟨rfl,(aY (eInt .i64))⟩,List.forall_mem_nil _⟩⟩) (by simp only [List.map_cons,List.map_nil,Ent.ren,bC,bG,bK]; rfl)) <|aD ?_)
         obtain ⟨x229,hx229,h⟩:=aS h
         refine lF rfl [⟨[2],[0],[(71,.ref 1000 0)],[]⟩,
          ⟨[2],[0],[(72,.ref 1000 0)],[]⟩,
          ⟨[72],[],[(73,.ref 1000 0)],[]⟩,
          ⟨[73],[],[(74,.ref 1000 2)],[]⟩,
          ⟨[74],[1000],[(75,.agg [.slice false (x228.2.2.1.map aP.d),.int .i64 x228.2.2.2.1,.int .i64 x228.2.2.2.2.1])],[]⟩,
          ⟨[3],[1],[(76,.int .i64 a0)],[]⟩,
          ⟨[75,76],[],[(77,.tuple [.agg (v1 x229.1),.int .i64 x229.2])],[]⟩,
          ⟨[77],[],[(70,.tuple [.agg (v1 x229.1),.int .i64 x229.2])],[]⟩,
          ⟨[70],[],[(78,.agg (v1 x229.1))],[]⟩,
          ⟨[70],[],[(79,.int .i64 x229.2)],[]⟩,
          ⟨[71],[],[(80,.ref 1000 0)],[]⟩,
          ⟨[80],[],[(81,.ref 1000 2)],[]⟩,
          ⟨[78,81],[1000],[],[(1000,.blk 60 (mixD aB.toEnc0 (w20 x228.1 x228.2.1 x229.1.Cells x229.1.Free x229.1.Used) x228.2.2.2.2.2.1 [.int .i64 x228.2.2.2.2.2.2.1,.osl 55 (eInt .i64).sz x228.2.2.2.2.2.2.2.length]))]⟩] rfl ?_ (by kernel_rfl) ?_
         ·refine .cons (lop rfl rfl fun S hA=>(aK (d:=.ref _ _) rfl rfl (lb rfl) Try.underlying26 ag26 ti26 (by decide) (svaR hA rfl rfl) (agi hA rfl rfl) (nle rfl) rfl)) ?_
          refine .cons (lop rfl rfl fun S hA=>(aK (d:=.ref _ _) rfl rfl (lb rfl) Try.underlying26 ag26 ti26 (by decide) (svaR hA rfl rfl) (agi hA rfl rfl) (nle rfl) rfl)) ?_
          refine .cons (lop rfl rfl fun S hA=>(aJ rfl rfl (lb rfl) (svaR hA rfl rfl))) ?_
          refine .cons (lop rfl rfl fun S hA=>(aV rfl rfl (lb rfl) Try.underlying60 rfl ti55 (by decide) (svaR hA rfl rfl) (off':=2) rfl)) ?_
          refine .cons (lop rfl rfl fun S hA=>(lT aB.toEnc0 (cs:=q10) rfl rfl (lb rfl) Try.underlying55 ag55 ti55 (by decide) (svaR hA rfl rfl) (agi hA rfl rfl) (nle rfl) (by rfl))) ?_
          refine .cons (lop rfl rfl fun S hA=>(aK (d:=.int _ _) rfl rfl (lb rfl) Try.underlying3 ag3 ti3 (by decide) (svaR hA rfl rfl) (agi hA rfl rfl) (nle rfl) rfl)) ?_
          refine .cons (lop rfl rfl fun S hA=>(cA (r:=.tuple q19) rfl rfl (lb rfl) cl49 (.cons (svaA q10 hA rfl rfl) (.cons (svaI hA rfl rfl) .nil)) rfl (oY _ _ _ hx229))) ?_
          refine .cons (lop rfl rfl fun S hA=>(aN rfl rfl (lb rfl) (sv (d:=.tuple q19) (agr hA rfl rfl)))) ?_
          refine .cons (lop rfl rfl fun S hA=>(dR (d:=.agg q10) rfl rfl (lb rfl) (sv (d:=.tuple q19) (agr hA rfl rfl)) rfl)) ?_
          refine .cons (lop rfl rfl fun S hA=>(dR (d:=.int _ _) rfl rfl (lb rfl) (sv (d:=.tuple q19) (agr hA rfl rfl)) rfl)) ?_
          refine .cons (lop rfl rfl fun S hA=>(aJ rfl rfl (lb rfl) (svaR hA rfl rfl))) ?_
          refine .cons (lop rfl rfl fun S hA=>(aV rfl rfl (lb rfl) Try.underlying60 rfl ti55 (by decide) (svaR hA rfl rfl) (off':=2) rfl)) ?_
          refine .cons (lop rfl rfl fun S hA=>(oO aB.toEnc0 (pre:=q7) (pre':=q7) rfl rfl ti55 (svaR hA rfl rfl) (agi hA rfl rfl) (svaA q10 hA rfl rfl) rfl rfl rfl (nle rfl) rfl)) ?_
          exact .nil
         obtain ⟨hk230,h⟩:=jN h
         obtain ⟨x231,hx231,h⟩:=aS h
         refine jF rfl [⟨[2],[0],[(82,.ref 1000 0)],[]⟩,
          ⟨[2],[0],[(83,.ref 1000 0)],[]⟩,
          ⟨[83],[],[(84,.ref 1000 0)],[]⟩,
          ⟨[84],[],[(85,.ref 1000 390)],[]⟩,
          ⟨[85],[1000],[(86,.osl 55 (eInt .i64).sz x228.2.2.2.2.2.2.2.length)],[]⟩,
          ⟨[3],[],[(87,.fn 51 [.ref 1 0])],[]⟩,
          ⟨[86,87],[1,55,56],[(88,.osl 56 (eInt .i64).sz x231.length)],[(1,.blk 3 [.int .i64 a0]),(56,.blk 3 (D.flat (x231.map (eInt .i64).d))),(55,.none),(1,.none)]⟩,
          ⟨[82],[],[(89,.ref 1000 0)],[]⟩,
          ⟨[89],[],[(90,.ref 1000 390)],[]⟩,
          ⟨[88,90],[1000],[],[(1000,.blk 60 (mixD aB.toEnc0 (w20 x228.1 x228.2.1 x229.1.Cells x229.1.Free x229.1.Used) x228.2.2.2.2.2.1 [.int .i64 x228.2.2.2.2.2.2.1,.osl 56 (eInt .i64).sz x231.length]))]⟩] rfl ?_ (by kernel_rfl) ?_
         ·refine .cons (lop rfl rfl fun S hA=>(aK (d:=.ref _ _) rfl rfl (lb rfl) Try.underlying26 ag26 ti26 (by decide) (svaR hA rfl rfl) (agi hA rfl rfl) (nle rfl) rfl)) ?_
          refine .cons (lop rfl rfl fun S hA=>(aK (d:=.ref _ _) rfl rfl (lb rfl) Try.underlying26 ag26 ti26 (by decide) (svaR hA rfl rfl) (agi hA rfl rfl) (nle rfl) rfl)) ?_
          refine .cons (lop rfl rfl fun S hA=>(aJ rfl rfl (lb rfl) (svaR hA rfl rfl))) ?_
          refine .cons (lop rfl rfl fun S hA=>(aV rfl rfl (lb rfl) Try.underlying60 rfl ti24 (by decide) (svaR hA rfl rfl) (off':=390) rfl)) ?_
          refine .cons (lop rfl rfl fun S hA=>(fG aB.toEnc0 (d:=.osl _ _ _) (n:=64) (k:=1) rfl rfl (lb rfl) Try.underlying24 ag24 ti24 (by decide) (svaR hA rfl rfl) (agi hA rfl rfl) hk230 (by rfl) (nle rfl) (by rfl))) ?_
          refine .cons (lop rfl rfl fun S hA=>(kD rfl rfl (lb rfl) (.cons (svaR hA rfl rfl) .nil))) ?_
          refine .cons (lop rfl rfl fun S hA=>(mW (r':=.osl 56 (eInt .i64).sz x231.length) (U:=[(1,.blk 3 [.int .i64 a0]),(56,.blk 3 (D.flat (x231.map (eInt .i64).d))),(55,.none),(1,.none)]) 56 1 [55,1] rfl rfl (lb rfl) cl50 (.cons (sv (d:=.osl _ _ _) (agr hA rfl rfl)) (.cons (sv (d:=.fn 51 [.ref _ _]) (agr hA rfl rfl)) .nil)) rfl rfl rfl (List.forall_mem_cons.2 ⟨(agi hA rfl rfl),List.forall_mem_nil _⟩) ⟨by decide,rfl,List.forall_mem_cons.2 ⟨⟨rfl,rfl,(dY (eInt .i64) (agi hA rfl rfl)),(aY (eInt .i64))⟩,List.forall_mem_cons.2 ⟨⟨rfl,rfl,(agi hA rfl rfl),rfl⟩,List.forall_mem_nil _⟩⟩⟩ (gR _ _ _ hx231) rfl rfl (List.forall_mem_cons.2 ⟨⟨rfl,rfl⟩,List.forall_mem_cons.2 ⟨⟨rfl,(aY (eInt .i64))⟩,List.forall_mem_nil _⟩⟩) (by simp only [List.map_cons,List.map_nil,Ent.ren,bC,bG]; rfl))) ?_
          refine .cons (lop rfl rfl fun S hA=>(aJ rfl rfl (lb rfl) (svaR hA rfl rfl))) ?_
          refine .cons (lop rfl rfl fun S hA=>(aV rfl rfl (lb rfl) Try.underlying60 rfl ti24 (by decide) (svaR hA rfl rfl) (off':=390) rfl)) ?_
          refine .cons (lop rfl rfl fun S hA=>(mH aB.toEnc0 (post:=q15) (post':=q15) (n:=64) (k:=1) rfl rfl ti24 (svaR hA rfl rfl) (agi hA rfl rfl) (sv (d:=.osl _ _ _) (agr hA rfl rfl)) rfl rfl rfl hk230 (by rfl) (nle rfl) (by rfl))) ?_
          exact .nil
         obtain rfl:=Option.some.inj h
         refine ⟨.inl rfl,(fun i=>if i = 0 then 56 else i),⟨.nil,(.cons (EntW.mix aB rfl (SubC.of_eq rfl) (SubC.of_eq rfl) rfl rfl) (.cons (EntW.lst rfl) .nil)),bB [1000,56] rfl (by decide),(fun i hi=>by first | rfl | (show (if _ then _ else _) = _; (repeat' split) <;> omega))⟩,.nil,rfl⟩

theorem tK (a0 : bE) (a1 : Int) (r : (bE × Int × Int)) (h : kS a0 a1 = some r) : gL Try.prog 43 [.agg (v1 a0),.int .i64 a1] (retD [.agg (v1 r.1),.int .i64 r.2.1,.int .i64 r.2.2]):=by
 refine lY (rs:=[.agg (v1 r.1),.int .i64 r.2.1,.int .i64 r.2.2]) Try.func43 rfl Try.ntmps43 (nle rfl) rfl fun O hO=>?_
 show IWP _ _ _ _ ⟨[(0,.agg (v1 a0)),(1,.int .i64 a1)],[]⟩ _
 unfold kS at h
 refine aF (aA rfl (eD (cs:=q10) 0 rfl rfl (lb rfl) rfl (svA q10 rfl) rfl rfl) <|aA rfl (gE (cs:=q14) (cs':=[.slice false (([] : List aI).map aP.d),.int .i64 0,.int .i64 0]) 1 rfl rfl (lb rfl) rfl ti55 rfl rfl (.cons (.nils _) (.all _))) <|aA rfl (aH rfl rfl (lb rfl) (sv (d:=.int _ 0) rfl)) <|aA rfl (aH rfl rfl (lb rfl) (sv (d:=.int _ 0) rfl)) <|aD ?_)
 obtain ⟨x1,hx1,h⟩:=aS h
 refine aF (aA rfl (lra q10 la55 rfl rfl rfl rfl rfl (nle rfl) rfl) <|aA rfl (bH (r':=.agg [.osl 2 aP.sz x1.1.length,.int .i64 x1.2.1,.int .i64 x1.2.2]) (H1':=[(2,.blk 78 (D.flat (x1.1.map aP.d)))]) 2 [] rfl rfl (lb rfl) cl76 (.cons (svA q10 rfl) .nil) rfl rfl ⟨rfl,rfl,by decide,rfl,List.forall_mem_nil _⟩ (lR _ _ hx1) rfl rfl (List.forall_mem_cons.2 ⟨⟨rfl,(aY aP)⟩,List.forall_mem_nil _⟩) (by simp only [List.map_cons,List.map_nil,Ent.ren,bC,bG]; rfl)) <|aA rfl (gE (cs:=q14) (cs':=[.slice false (([] : List aI).map aP.d),.int .i64 0,.int .i64 0]) 3 rfl rfl (lb rfl) rfl ti55 rfl rfl (.cons (.nils _) (.all _))) <|aA rfl (stA q11 q11 ti55 rfl rfl rfl rfl rfl rfl rfl rfl (nle rfl) rfl) <|aD ?_)
 refine aT ?_
 obtain ⟨x2,hx2,h⟩:=aS h
 refine aF (aA rfl (lra q10 la55 rfl rfl rfl rfl rfl (nle rfl) rfl) <|aA rfl (cA (r:=.int _ _) rfl rfl (lb rfl) cl37 (.cons (svA q10 rfl) .nil) rfl (mL _ _ hx2)) <|aA rfl (asI rfl rfl rfl rfl) <|aD ?_)
 obtain ⟨x3,hx3,h⟩:=aR h
 refine aF (aA rfl (mvI rfl rfl rfl rfl) <|aA rfl (aM rfl rfl (lb rfl) (svI rfl) (sv (d:=.int _ 0) rfl) rfl hx3) <|aD ?_)
 refine aX (b:=_) rfl (fun hc4=>?_) (fun hc4=>?_)
 ·
  replace h:=bY h hc4
  refine aF (aA rfl (lra q11 la55 rfl rfl rfl rfl rfl (nle rfl) rfl) <|aA rfl (mvI rfl rfl rfl rfl) <|aA rfl (stA q11 q11 ti55 rfl rfl rfl rfl rfl rfl rfl rfl (nle rfl) rfl) <|aA rfl (aH rfl rfl (lb rfl) (sv (d:=.int _ 0) rfl)) <|aA rfl (asI rfl rfl rfl rfl) <|aD ?_)
  refine bD ?_
  refine bS ?_
  obtain rfl:=Option.some.inj h
  refine ⟨.inr rfl,_,(.cons (rva la55 rfl rfl (nle rfl) rfl) (.cons (sv rfl) (.cons (sv rfl) .nil))),(.cons (.agg (.cons (FDT aP rfl rfl) (.all _))) (.all _))⟩
 ·
  replace h:=bZ h hc4
  refine aU ?_
  refine aL ?_
  refine aT ?_
  obtain ⟨x5,hx5,h⟩:=aR h
  refine aF (aA rfl (faR 2 rfl rfl rfl Try.underlying55 rfl ti3 (lb rfl) rfl rfl) <|aA rfl (aK (d:=.int _ _) rfl rfl (lb rfl) Try.underlying3 ag3 ti3 (by decide) (svR rfl) rfl (nle rfl) rfl) <|aA rfl (aM rfl rfl (lb rfl) (svI rfl) (sv (d:=.int _ 64) rfl) rfl hx5) <|aD ?_)
  refine aX (b:=_) rfl (fun hc6=>?_) (fun hc6=>?_)
  ·
   replace h:=bY h hc6
   refine aF (aA rfl (lra q11 la55 rfl rfl rfl rfl rfl (nle rfl) rfl) <|aA rfl (stA q11 q11 ti55 rfl rfl rfl rfl rfl rfl rfl rfl (nle rfl) rfl) <|aA rfl (aH rfl rfl (lb rfl) (sv (d:=.int _ 0) rfl)) <|aA rfl (aH rfl rfl (lb rfl) (sv (d:=.int _ 7) rfl)) <|aD ?_)
   refine bD ?_
   refine bS ?_
   obtain rfl:=Option.some.inj h
   refine ⟨.inr rfl,_,(.cons (rva la55 rfl rfl (nle rfl) rfl) (.cons (sv rfl) (.cons (sv rfl) .nil))),(.cons (.agg (.cons (FDT aP rfl rfl) (.all _))) (.all _))⟩
  ·
   replace h:=bZ h hc6
   refine aU ?_
   refine aL ?_
   obtain ⟨x7,hx7,h⟩:=aR h
   refine aF (aA rfl (faR 2 rfl rfl rfl Try.underlying55 rfl ti3 (lb rfl) rfl rfl) <|aA rfl (aK (d:=.int _ _) rfl rfl (lb rfl) Try.underlying3 ag3 ti3 (by decide) (svR rfl) rfl (nle rfl) rfl) <|aA rfl (cQ rfl rfl (lb rfl) (svI rfl) (sv (d:=.int _ 1) rfl) rfl hx7) <|aA rfl (faR 2 rfl rfl rfl Try.underlying55 rfl ti3 (lb rfl) rfl rfl) <|aA rfl (eZ (ds':=q11) rfl rfl ti3 (svR rfl) rfl (svI rfl) rfl rfl rfl (nle rfl) rfl) <|aD ?_)
   refine aF (aA rfl (mvI rfl rfl rfl rfl) <|aA rfl (cF (cs:=q13) rfl rfl (lb rfl) Try.underlying78 ti78 pl78 rfl (.cons (sv (d:=.bool true) rfl) (.cons (svI rfl) .nil)) rfl) <|aA rfl (gE (cs:=q13) (cs':=[.bool false,.int .i64 0,.int .i64 0]) 4 rfl rfl (lb rfl) rfl ti78 rfl rfl (.all _)) <|aA rfl (stA q13 q13 ti78 rfl rfl rfl rfl rfl rfl rfl rfl (nle rfl) rfl) <|aD ?_)
   refine aF (aA rfl (faR 1 rfl rfl rfl Try.underlying55 rfl ti3 (lb rfl) rfl rfl) <|aA rfl (aK (d:=.int _ _) rfl rfl (lb rfl) Try.underlying3 ag3 ti3 (by decide) (svR rfl) rfl (nle rfl) rfl) <|aA rfl (asI rfl rfl rfl rfl) <|aD ?_)
   refine aT ?_
   obtain ⟨x8,hx8,h⟩:=aR h
   refine aF (aA rfl (mvI rfl rfl rfl rfl) <|aA rfl (aM rfl rfl (lb rfl) (svI rfl) (sv (d:=.int _ (-1)) rfl) rfl hx8) <|aD ?_)
   refine aX (b:=_) rfl (fun hc9=>?_) (fun hc9=>?_)
   ·
    replace h:=bY h hc9
    obtain ⟨x10,hx10,h⟩:=aS h
    refine aF (aA rfl (faR 0 rfl rfl rfl Try.underlying55 rfl ti53 (lb rfl) rfl rfl) <|aA rfl (aK (d:=.osl _ _ _) rfl rfl (lb rfl) Try.underlying53 ag53 ti53 (by decide) (svR rfl) rfl (nle rfl) rfl) <|aA rfl (lra q13 la78 rfl rfl rfl rfl rfl (nle rfl) rfl) <|aA rfl (jZ aP.toEnc0 ([(⟨true,a1,0⟩ : aI)] : (List aI)) 5 rfl rfl (lb rfl) Try.underlying53 ti78 rfl (.cons (svA q13 rfl) .nil) rfl rfl (by decide)) <|aA rfl (iX aP.toEnc0 6 rfl rfl (lb rfl) Try.underlying53 ti78 rfl rfl rfl rfl rfl (nS aP.toEnc0 rfl rfl rfl) hx10) <|aA rfl (faR 0 rfl rfl rfl Try.underlying55 rfl ti53 (lb rfl) rfl rfl) <|aA rfl (eZ (ds':=q11) rfl rfl ti53 (svR rfl) rfl (sv (d:=.osl _ _ _) rfl) rfl rfl rfl (nle rfl) rfl) <|aD ?_)
    refine lF rfl [⟨[7],[3],[(39,.agg [.osl 6 aP.sz x10.length,.int .i64 x1.2.1,.int .i64 x7])],[]⟩,
     ⟨[2],[],[(40,.ref 0 0)],[]⟩,
     ⟨[40],[0],[(41,.slice false (a0.Cells.map aP.d))],[]⟩,
     ⟨[41],[],[(42,.int .i64 (a0.Cells.length : Int))],[]⟩,
     ⟨[4,39],[1],[],[(1,.blk 55 [.osl 6 aP.sz x10.length,.int .i64 x1.2.1,.int .i64 x7])]⟩,
     ⟨[42],[],[(5,.int .i64 (a0.Cells.length : Int))],[]⟩,
     ⟨[],[],[(6,.int .i64 0)],[]⟩] rfl ?_ (by kernel_rfl) ?_
    ·refine .cons (lop rfl rfl fun S hA=>(kR (cs:=q11) rfl rfl (lb rfl) Try.underlying55 ag55 ti55 (by decide) (svaR hA rfl rfl) (agi hA rfl rfl) (nle rfl) rfl)) ?_
     refine .cons (lop rfl rfl fun S hA=>(aV rfl rfl (lb rfl) Try.underlying55 rfl ti53 (by decide) (svaR hA rfl rfl) (off':=0) rfl)) ?_
     refine .cons (lop rfl rfl fun S hA=>(aK (d:=.slice _ _) rfl rfl (lb rfl) Try.underlying53 ag53 ti53 (by decide) (svaR hA rfl rfl) (agi hA rfl rfl) (nle rfl) rfl)) ?_
     refine .cons (lop rfl rfl fun S hA=>(eQ aP (l:=a0.Cells) rfl rfl (lb rfl) Try.underlying53 (svaL hA rfl rfl))) ?_
     refine .cons (lop rfl rfl fun S hA=>(eZ (ds':=q11) rfl rfl ti55 (svaR hA rfl rfl) (agi hA rfl rfl) (svaA q11 hA rfl rfl) rfl rfl rfl (nle rfl) rfl)) ?_
     refine .cons (lop rfl rfl fun S hA=>(aH rfl rfl (lb rfl) (svaI hA rfl rfl))) ?_
     refine .cons (lop rfl rfl fun S hA=>(aH rfl rfl (lb rfl) (sv (d:=.int _ 0) rfl))) ?_
     exact .nil
    refine bD ?_
    refine bS ?_
    obtain rfl:=Option.some.inj h
    refine ⟨.inr rfl,_,(.cons (rva la55 rfl rfl (nle rfl) rfl) (.cons (sv rfl) (.cons (sv rfl) .nil))),(.cons (.agg (.cons (FDT aP rfl rfl) (.all _))) (.all _))⟩
   ·
    replace h:=bZ h hc9
    refine aU ?_
    refine aL ?_
    obtain ⟨x11,hx11,h⟩:=aS h
    obtain ⟨x12,hx12,h⟩:=aS h
    refine aF (aA rfl (faR 0 rfl rfl rfl Try.underlying55 rfl ti53 (lb rfl) rfl rfl) <|aA rfl (aK (d:=.osl _ _ _) rfl rfl (lb rfl) Try.underlying53 ag53 ti53 (by decide) (svR rfl) rfl (nle rfl) rfl) <|aA rfl (mvI rfl rfl rfl rfl) <|aA rfl (gP aP.toEnc0 rfl rfl (lb rfl) Try.underlying53 ti78 (sv (d:=.osl _ _ _) rfl) rfl (svI rfl) hx11) <|aA rfl (nP rfl rfl (lb rfl) Try.underlying78 rfl ti3 (by decide) (svR rfl) (k':=2) rfl) <|aA rfl (fO aP.toEnc0 (d:=.int _ _) rfl rfl (lb rfl) Try.underlying3 ag3 ti3 (by decide) (svR rfl) rfl hx12 (nle rfl) rfl) <|aA rfl (faR 1 rfl rfl rfl Try.underlying55 rfl ti3 (lb rfl) rfl rfl) <|aA rfl (eZ (ds':=q11) rfl rfl ti3 (svR rfl) rfl (svI rfl) rfl rfl rfl (nle rfl) rfl) <|aD ?_)
    obtain ⟨x13,hx13,h⟩:=aS h
    obtain ⟨x14,hx14,h⟩:=aS h
    obtain ⟨x15,hx15,h⟩:=aR h
    refine aF (aA rfl (faR 0 rfl rfl rfl Try.underlying55 rfl ti53 (lb rfl) rfl rfl) <|aA rfl (aK (d:=.osl _ _ _) rfl rfl (lb rfl) Try.underlying53 ag53 ti53 (by decide) (svR rfl) rfl (nle rfl) rfl) <|aA rfl (mvI rfl rfl rfl rfl) <|aA rfl (lra q13 la78 rfl rfl rfl rfl rfl (nle rfl) rfl) <|aA rfl (gP aP.toEnc0 rfl rfl (lb rfl) Try.underlying53 ti78 (sv (d:=.osl _ _ _) rfl) rfl (svI rfl) hx13) <|aA rfl (nB aP.toEnc0 (a':=(⟨true,a1,0⟩ : aI)) rfl rfl ti78 (svR rfl) rfl (svA q13 rfl) rfl rfl rfl hx14 (nle rfl) rfl hx15) <|aD ?_)
    refine aF (aA rfl (lra q11 la55 rfl rfl rfl rfl rfl (nle rfl) rfl) <|aA rfl (mvI rfl rfl rfl rfl) <|aA rfl (stA q11 q11 ti55 rfl rfl rfl rfl rfl rfl rfl rfl (nle rfl) rfl) <|aA rfl (asI rfl rfl rfl rfl) <|aA rfl (aH rfl rfl (lb rfl) (sv (d:=.int _ 0) rfl)) <|aD ?_)
    refine bD ?_
    obtain rfl:=Option.some.inj h
    refine ⟨.inr rfl,_,(.cons (rva la55 rfl rfl (nle rfl) rfl) (.cons (sv rfl) (.cons (sv rfl) .nil))),(.cons (.agg (.cons (FDT aP rfl (jH hx15 rfl)) (.all _))) (.all _))⟩

theorem nD (a0 : Int) (a1 : Int) (a2 : Int) (a3 : Int) (a4 : (List aI)) (a5 : Int) (a6 : Int) (a7 : (List aG)) (a8 : Int) (a9 : (List Int)) (r : Bool) (h : iH a0 a1 a2 a3 a4 a5 a6 a7 a8 a9 = some r) : FnH Try.prog 45 [.ref 1000 0,.int .i64 a0,.int .i64 a1] [(1000,.blk 60 (mixD aB.toEnc0 (w20 a2 a3 a4 a5 a6) a7 [.int .i64 a8,.osl 1001 (eInt .i64).sz a9.length])),(1001,.blk 3 (D.flat (a9.map (eInt .i64).d)))] (.bool r) [(1000,.blk 60 (mixD aB.toEnc0 (w20 a2 a3 a4 a5 a6) a7 [.int .i64 a8,.osl 1001 (eInt .i64).sz a9.length])),(1001,.blk 3 (D.flat (a9.map (eInt .i64).d)))]:=by
 refine dS (rs:=[.bool r]) Try.func45 rfl Try.ntmps45 (nle rfl) fun O hO=>?_
 show IWP _ _ _ _ ⟨[(0,.ref 1000 0),(1,.int .i64 a0),(2,.int .i64 a1)],[(1000,.blk 60 (mixD aB.toEnc0 (w20 a2 a3 a4 a5 a6) a7 [.int .i64 a8,.osl 1001 (eInt .i64).sz a9.length])),(1001,.blk 3 (D.flat (a9.map (eInt .i64).d)))]⟩ _
 unfold iH at h
 refine aF (aA rfl (aH rfl rfl (lb rfl) (sv (d:=.bool false) rfl)) <|aD ?_)
 refine aT ?_
 refine bA ?_
 refine cV (α:=Nat × Int) (fun z=>⟨[(0,.ref 1000 0),(1,.int .i64 z.2),(2,.int .i64 a1)],[(1000,.blk 60 (mixD aB.toEnc0 (w20 a2 a3 a4 a5 a6) a7 [.int .i64 a8,.osl 1001 (eInt .i64).sz a9.length])),(1001,.blk 3 (D.flat (a9.map (eInt .i64).d)))]⟩) (fun z=>dK a1 a7 z.1 z.2 = some r) (fun z=>z.1) (fuel,a0) (fun i=>i) ⟨(.sames rfl rfl),(.cons (EntW.mix aB rfl (SubC.of_eq rfl) (SubC.of_eq rfl) rfl rfl) (.cons (EntW.lst rfl) .nil)),bB [1000,1001] rfl (by decide),fun _ _=>rfl⟩ ?_ ?_
 ·exact h
 ·
  rintro ⟨n0,v8⟩ h
  cases n0 with
  | zero=>exact absurd h (by unfold dK; exact nofun)
  | succ n0 =>
   unfold dK at h
   refine aT ?_
   obtain ⟨x16,hx16,h⟩:=aR h
   refine aF (aA rfl (mvI rfl rfl rfl rfl) <|aA rfl (aM rfl rfl (lb rfl) (svI rfl) (sv (d:=.int _ (-1)) rfl) rfl hx16) <|aD ?_)
   refine aX (b:=_) rfl (fun hc17=>?_) (fun hc17=>?_)
   ·
    replace h:=bY h hc17
    refine aU ?_
    refine aL ?_
    refine bA ?_
    obtain ⟨x18,hx18,h⟩:=aS h
    obtain ⟨hk19,h⟩:=jN h
    obtain ⟨x20,hx20,h⟩:=aS h
    refine aF (aA rfl (mvR rfl rfl rfl rfl) <|aA rfl (mvI rfl rfl rfl rfl) <|aA rfl (aJ rfl rfl (lb rfl) (svR rfl)) <|aA rfl (faR 5 rfl rfl rfl Try.underlying60 rfl ti58 (lb rfl) rfl rfl) <|aA rfl (bX aB.toEnc0 rfl rfl (lb rfl) Try.underlying58 ti57 (svR rfl) hk19 (svI rfl) hx18) <|aA rfl (bJ rfl rfl (lb rfl) Try.underlying57 rfl ti3 (by decide) (svR rfl) (k':=1) rfl) <|aA rfl (bP aB.toEnc0 (b:=5) (k:=1) (d:=.int _ _) rfl rfl (lb rfl) Try.underlying3 ag3 ti3 (by decide) (svR rfl) rfl rfl hx20 (nle rfl) rfl) <|aA rfl (asI rfl rfl rfl rfl) <|aD ?_)
    obtain ⟨x21,hx21,h⟩:=aR h
    refine aF (aA rfl (mvI rfl rfl rfl rfl) <|aA rfl (mvI rfl rfl rfl rfl) <|aA rfl (aM rfl rfl (lb rfl) (svI rfl) (svI rfl) rfl hx21) <|aD ?_)
    refine aX (b:=_) rfl (fun hc22=>?_) (fun hc22=>?_)
    ·
     replace h:=bY h hc22
     refine aF (aA rfl (aH rfl rfl (lb rfl) (sv (d:=.bool true) rfl)) <|aD ?_)
     refine bD ?_
     refine eH ?_
     refine bS ?_
     refine eH ?_
     refine bS ?_
     obtain rfl:=Option.some.inj h
     refine ⟨.inr rfl,(fun i=>i),⟨.nil,(.cons (EntW.mix aB rfl (SubC.of_eq rfl) (SubC.of_eq rfl) rfl rfl) (.cons (EntW.lst rfl) .nil)),bB [1000,1001] rfl (by decide),fun _ _=>rfl⟩,(.cons (sv rfl) .nil),rfl⟩
    ·
     replace h:=bZ h hc22
     refine aU ?_
     refine bR ?_
     refine aL ⟨(n0,x20.up),(fun i=>i),⟨(.sames rfl rfl),(.cons (EntW.mix aB rfl (SubC.of_eq rfl) (SubC.of_eq rfl) rfl rfl) (.cons (EntW.lst rfl) .nil)),bB [1000,1001] rfl (by decide),fun _ _=>rfl⟩,?_,?_⟩
     exact h
     exact Nat.lt_succ_self _
   ·
    replace h:=bZ h hc17
    refine dD ?_
    refine bV ?_
    refine bV ?_
    refine dE ?_
    refine aL ?_
    refine aF (aA rfl (aH rfl rfl (lb rfl) (sv (d:=.bool false) rfl)) <|aD ?_)
    refine bD ?_
    obtain rfl:=Option.some.inj h
    refine ⟨.inr rfl,(fun i=>i),⟨.nil,(.cons (EntW.mix aB rfl (SubC.of_eq rfl) (SubC.of_eq rfl) rfl rfl) (.cons (EntW.lst rfl) .nil)),bB [1000,1001] rfl (by decide),fun _ _=>rfl⟩,(.cons (sv rfl) .nil),rfl⟩

theorem lH (a0 : Int) (a1 : eW) (a2 : Int) (a3 : Int) (a4 : (List aI)) (a5 : Int) (a6 : Int) (a7 : (List aG)) (a8 : Int) (a9 : (List Int)) (r : (Int × Int × (List aI) × Int × Int × (List aG) × Int × (List Int))) (h : fC a0 a1 a2 a3 a4 a5 a6 a7 a8 a9 = some r) : FnH Try.prog 35 [.ref 1000 0, .int .i64 a0, .agg (v4 a1)] [(1000, .blk 60 (mixD aB.toEnc0 (w20 a2 a3 a4 a5 a6) a7 [.int .i64 a8, .osl 1001 (eInt .i64).sz a9.length])), (1001, .blk 3 (D.flat (a9.map (eInt .i64).d)))] (retD []) [(1000, .blk 60 (mixD aB.toEnc0 (w20 r.1 r.2.1 r.2.2.1 r.2.2.2.1 r.2.2.2.2.1) r.2.2.2.2.2.1 [.int .i64 r.2.2.2.2.2.2.1, .osl 0 (eInt .i64).sz r.2.2.2.2.2.2.2.length])), (0, .blk 3 (D.flat (r.2.2.2.2.2.2.2.map (eInt .i64).d)))] := by
 refine dS (rs:=[]) Try.func35 rfl Try.ntmps35 (nle rfl) fun O hO=>?_
 show IWP _ _ _ _ ⟨[(0,.ref 1000 0),(1,.int .i64 a0),(2,.agg (v4 a1))],[(1000,.blk 60 (mixD aB.toEnc0 (w20 a2 a3 a4 a5 a6) a7 [.int .i64 a8,.osl 1001 (eInt .i64).sz a9.length])),(1001,.blk 3 (D.flat (a9.map (eInt .i64).d)))]⟩ _
 unfold fC at h
 refine aF (aA rfl (eD (cs:=q12) 0 rfl rfl (lb rfl) rfl (svA q12 rfl) rfl rfl) <|aD ?_)
 obtain ⟨x1,hx1,h⟩:=aS h
 refine aF (aA rfl (mvR rfl rfl rfl rfl) <|aA rfl (faR 0 rfl rfl rfl Try.underlying72 rfl ti3 (lb rfl) rfl rfl) <|aA rfl (aK (d:=.int _ _) rfl rfl (lb rfl) Try.underlying3 ag3 ti3 (by decide) (svR rfl) rfl (nle rfl) rfl) <|aA rfl (fA (r':=.int .i64 x1) (V:=[(1000,.blk 60 (mixD aB.toEnc0 (w20 a2 a3 a4 a5 a6) a7 [.int .i64 a8,.osl 1001 (eInt .i64).sz a9.length])),(1001,.blk 3 (D.flat (a9.map (eInt .i64).d)))]) 1 [1000,1001] rfl rfl (lb rfl) cl28 (.cons (svR rfl) (.cons (svI rfl) .nil)) rfl rfl rfl ⟨by decide,rfl,List.forall_mem_cons.2 ⟨⟨rfl,rfl,(eP aB rfl rfl rfl),(bF aB rfl rfl)⟩,List.forall_mem_cons.2 ⟨⟨rfl,rfl,(dY (eInt .i64) rfl),(aY (eInt .i64))⟩,List.forall_mem_nil _⟩⟩⟩ (eU _ _ _ _ _ _ _ _ _ _ hx1) rfl rfl (List.forall_mem_cons.2 ⟨⟨rfl,(bF aB rfl rfl)⟩,List.forall_mem_cons.2 ⟨⟨rfl,(aY (eInt .i64))⟩,List.forall_mem_nil _⟩⟩) (by simp only [List.map_cons,List.map_nil,Ent.ren,bC,bG,bK]; rfl) (List.forall_mem_cons.2 ⟨rfl,List.forall_mem_cons.2 ⟨rfl,List.forall_mem_nil _⟩⟩) rfl) <|aA rfl (asI rfl rfl rfl rfl) <|aD ?_)
 refine jM (α:=Int × Int × Bool) (fun z=>⟨[(0,.ref 1000 0),(1,.int .i64 a0),(5,.ref 0 0),(6,.int .i64 x1)],[(1000,.blk 60 (mixD aB.toEnc0 (w20 a2 a3 a4 a5 a6) a7 [.int .i64 a8,.osl 1001 (eInt .i64).sz a9.length])),(0,.blk 72 [.int .i64 z.1,.int .i64 z.2.1,.bool z.2.2]),(1001,.blk 3 (D.flat (a9.map (eInt .i64).d)))]⟩) (fun z=>fK a0 a2 a3 a4 a5 a6 a7 a8 a9 x1 z.1 z.2.1 z.2.2 = some r) ?_ ?_
 ·
  obtain ⟨x149,hx149,h⟩:=aR h
  obtain ⟨x150,hx150,h⟩:=aR h
  obtain ⟨x151,hx151,h⟩:=aR h
  refine aF (aA rfl (mvI rfl rfl rfl rfl) <|aA rfl (aM rfl rfl (lb rfl) (svI rfl) (sv (d:=.int _ (-1)) rfl) rfl hx149) <|aA rfl (mvB rfl rfl rfl rfl) <|aC rfl rfl (.one rfl) rfl (by decide) (fun hb=>(faR 0 rfl rfl rfl Try.underlying72 rfl ti3 (lb rfl) rfl rfl)) <|aC rfl rfl (.one rfl) rfl (by decide) (fun hb=>(aK (d:=.int _ _) rfl rfl (lb rfl) Try.underlying3 ag3 ti3 (by decide) (svcR rfl hb) rfl (nle rfl) rfl)) <|aC rfl rfl (.one rfl) rfl (by decide) (fun hb=>(aM rfl rfl (lb rfl) (svcI rfl hb) (sv (d:=.int _ 0) rfl) rfl hx150)) <|aA rfl (bO rfl rfl (lb rfl) (svB rfl) rfl rfl hx151) <|aD ?_)
  refine aX (b:=_) rfl (fun hc152=>?_) (fun hc152=>?_)
  ·
   replace h:=bY h hc152
   refine aW (aA rfl (cF (cs:=q12) rfl rfl (lb rfl) Try.underlying72 ti72 pl72 rfl (.cons (sv (d:=.int _ 16) rfl) .nil) rfl) <|aA rfl (stA q12 q12 ti72 rfl rfl rfl rfl rfl rfl rfl rfl (nle rfl) rfl) <|bL ?_)
   refine aL ⟨(0,16,false),(fun i=>i),⟨(.sames rfl rfl),(.cons (EntW.mix aB rfl (SubC.of_eq rfl) (SubC.of_eq rfl) rfl rfl) (.cons (.blk rfl rfl rfl) (.cons (EntW.lst rfl) .nil))),bB [1000,0,1001] rfl (by decide),fun _ _=>rfl⟩,?_⟩
   exact h
  ·
   replace h:=bZ h hc152
   refine aU ?_
   refine aL ⟨(a1.dep,a1.weight,a1.only),(fun i=>i),⟨(.sames rfl rfl),(.cons (EntW.mix aB rfl (SubC.of_eq rfl) (SubC.of_eq rfl) rfl rfl) (.cons (.blk rfl rfl rfl) (.cons (EntW.lst rfl) .nil))),bB [1000,0,1001] rfl (by decide),fun _ _=>rfl⟩,?_⟩
   exact h
 ·
  rintro ⟨v6,v7,v8⟩ h
  unfold fK at h
  refine jM (α:=Int × Int × (List aI) × Int × Int × (List aG) × Int × (List Int)) (fun z=>⟨[(0,.ref 1000 0),(1,.int .i64 a0),(5,.ref 0 0),(6,.int .i64 x1)],[(1000,.blk 60 (mixD aB.toEnc0 (w20 z.1 z.2.1 z.2.2.1 z.2.2.2.1 z.2.2.2.2.1) z.2.2.2.2.2.1 [.int .i64 z.2.2.2.2.2.2.1,.osl 1 (eInt .i64).sz z.2.2.2.2.2.2.2.length])),(0,.blk 72 [.int .i64 v6,.int .i64 v7,.bool v8]),(1,.blk 3 (D.flat (z.2.2.2.2.2.2.2.map (eInt .i64).d)))]⟩) (fun z=>fJ a0 x1 v7 v8 z.1 z.2.1 z.2.2.1 z.2.2.2.1 z.2.2.2.2.1 z.2.2.2.2.2.1 z.2.2.2.2.2.2.1 z.2.2.2.2.2.2.2 = some r) ?_ ?_
  ·
   obtain ⟨x141,hx141,h⟩:=aR h
   obtain ⟨x142,hx142,h⟩:=aS h
   obtain ⟨x143,hx143,h⟩:=aR h
   refine aF (aA rfl (mvI rfl rfl rfl rfl) <|aA rfl (aM rfl rfl (lb rfl) (svI rfl) (sv (d:=.int _ (-1)) rfl) rfl hx141) <|aA rfl (mvB rfl rfl rfl rfl) <|aC rfl rfl (.one rfl) rfl (by decide) (fun hb=>(mvR rfl rfl rfl rfl)) <|aC rfl rfl (.one rfl) rfl (by decide) (fun hb=>(mvI rfl rfl rfl rfl)) <|aC rfl rfl (.one rfl) rfl (by decide) (fun hb=>(mvI rfl rfl rfl rfl)) <|aC rfl rfl (.one rfl) rfl (by decide) (fun hb=>(fA (r':=.bool x142) (V:=[(1000,.blk 60 (mixD aB.toEnc0 (w20 a2 a3 a4 a5 a6) a7 [.int .i64 a8,.osl 1001 (eInt .i64).sz a9.length])),(1001,.blk 3 (D.flat (a9.map (eInt .i64).d)))]) 1 [1000,1001] rfl rfl (lb rfl) cl45 (.cons (svcR rfl hb) (.cons (svcI rfl hb) (.cons (svcI rfl hb) .nil))) rfl rfl rfl ⟨by decide,rfl,List.forall_mem_cons.2 ⟨⟨rfl,rfl,(eP aB rfl rfl rfl),(bF aB rfl rfl)⟩,List.forall_mem_cons.2 ⟨⟨rfl,rfl,(dY (eInt .i64) rfl),(aY (eInt .i64))⟩,List.forall_mem_nil _⟩⟩⟩ (nD _ _ _ _ _ _ _ _ _ _ _ (gd_t hx142 hb)) rfl rfl (List.forall_mem_cons.2 ⟨⟨rfl,(bF aB rfl rfl)⟩,List.forall_mem_cons.2 ⟨⟨rfl,(aY (eInt .i64))⟩,List.forall_mem_nil _⟩⟩) (by simp only [List.map_cons,List.map_nil,Ent.ren,bC,bG,bK]; rfl) (List.forall_mem_cons.2 ⟨rfl,List.forall_mem_cons.2 ⟨rfl,List.forall_mem_nil _⟩⟩) rfl)) <|aA rfl (bO rfl rfl (lb rfl) (svB rfl) rfl rfl hx143) <|aD ?_)
   refine aX (b:=_) rfl (fun hc144=>?_) (fun hc144=>?_)
   ·
    replace h:=bY h hc144
    obtain ⟨x145,hx145,h⟩:=aS h
    obtain ⟨hk146,h⟩:=jN h
    obtain ⟨x147,hx147,h⟩:=aS h
    obtain ⟨x148,hx148,h⟩:=aS h
    refine aW (aA rfl (mvR rfl rfl rfl rfl) <|aA rfl (mvI rfl rfl rfl rfl) <|aA rfl (mvR rfl rfl rfl rfl) <|aA rfl (mvI rfl rfl rfl rfl) <|aA rfl (aJ rfl rfl (lb rfl) (svR rfl)) <|aA rfl (faR 5 rfl rfl rfl Try.underlying60 rfl ti58 (lb rfl) rfl rfl) <|aA rfl (bX aB.toEnc0 rfl rfl (lb rfl) Try.underlying58 ti57 (svR rfl) hk146 (svI rfl) hx145) <|aA rfl (bJ rfl rfl (lb rfl) Try.underlying57 rfl ti3 (by decide) (svR rfl) (k':=1) rfl) <|aA rfl (bP aB.toEnc0 (b:=5) (k:=1) (d:=.int _ _) rfl rfl (lb rfl) Try.underlying3 ag3 ti3 (by decide) (svR rfl) rfl rfl hx147 (nle rfl) rfl) <|aA rfl (bH (r':=.tuple []) (H1':=[(1000,.blk 60 (mixD aB.toEnc0 (w20 x148.1 x148.2.1 x148.2.2.1 x148.2.2.2.1 x148.2.2.2.2.1) x148.2.2.2.2.2.1 [.int .i64 x148.2.2.2.2.2.2.1,.osl 1 (eInt .i64).sz x148.2.2.2.2.2.2.2.length])),(1,.blk 3 (D.flat (x148.2.2.2.2.2.2.2.map (eInt .i64).d)))]) 1 [1000,1001] rfl rfl (lb rfl) cl46 (.cons (svR rfl) (.cons (svI rfl) (.cons (svI rfl) .nil))) rfl rfl ⟨rfl,rfl,by decide,rfl,List.forall_mem_cons.2 ⟨⟨rfl,rfl,(eP aB rfl rfl rfl),(bF aB rfl rfl)⟩,List.forall_mem_cons.2 ⟨⟨rfl,rfl,(dY (eInt .i64) rfl),(aY (eInt .i64))⟩,List.forall_mem_nil _⟩⟩⟩ (gB _ _ _ _ _ _ _ _ _ _ _ hx148) rfl rfl (List.forall_mem_cons.2 ⟨⟨rfl,(bF aB rfl rfl)⟩,List.forall_mem_cons.2 ⟨⟨rfl,(aY (eInt .i64))⟩,List.forall_mem_nil _⟩⟩) (by simp only [List.map_cons,List.map_nil,Ent.ren,bC,bG,bK]; rfl)) <|bL ?_)
    refine aL ⟨(x148.1,x148.2.1,x148.2.2.1,x148.2.2.2.1,x148.2.2.2.2.1,x148.2.2.2.2.2.1,x148.2.2.2.2.2.2.1,x148.2.2.2.2.2.2.2),(fun i=>i),⟨(.sames rfl rfl),(.cons (EntW.mix aB rfl (SubC.of_eq rfl) (SubC.of_eq rfl) rfl rfl) (.cons (.blk rfl rfl rfl) (.cons (EntW.lst rfl) .nil))),bB [1000,0,1] rfl (by decide),fun _ _=>rfl⟩,?_⟩
    exact h
   ·
    replace h:=bZ h hc144
    refine aU ?_
    refine aL ⟨(a2,a3,a4,a5,a6,a7,a8,a9),(fun i=>if i = 1 then 1001 else i),⟨(.sames rfl rfl),(.cons (EntW.mix aB rfl (SubC.of_eq rfl) (SubC.of_eq rfl) rfl rfl) (.cons (.blk rfl rfl rfl) (.cons (EntW.lst rfl) .nil))),bB [1000,0,1001] rfl (by decide),(fun i hi=>by first | rfl | (show (if _ then _ else _) = _; (repeat' split) <;> omega))⟩,?_⟩
    exact h
  ·
   rintro ⟨v17,v18,v19,v20,v21,v22,v23,v24⟩ h
   unfold fJ at h
   obtain ⟨x25,hx25,h⟩:=aS h
   refine aF (aA rfl (mvR rfl rfl rfl rfl) <|aA rfl (mvI rfl rfl rfl rfl) <|aA rfl (mvI rfl rfl rfl rfl) <|aA rfl (bH (r':=.tuple []) (H1':=[(1000,.blk 60 (mixD aB.toEnc0 (w20 x25.1 x25.2.1 x25.2.2.1 x25.2.2.2.1 x25.2.2.2.2.1) x25.2.2.2.2.2.1 [.int .i64 x25.2.2.2.2.2.2.1,.osl 2 (eInt .i64).sz x25.2.2.2.2.2.2.2.length])),(2,.blk 3 (D.flat (x25.2.2.2.2.2.2.2.map (eInt .i64).d)))]) 2 [1000,1] rfl rfl (lb rfl) cl46 (.cons (svR rfl) (.cons (svI rfl) (.cons (svI rfl) .nil))) rfl rfl ⟨rfl,rfl,by decide,rfl,List.forall_mem_cons.2 ⟨⟨rfl,rfl,(eP aB rfl rfl rfl),(bF aB rfl rfl)⟩,List.forall_mem_cons.2 ⟨⟨rfl,rfl,(dY (eInt .i64) rfl),(aY (eInt .i64))⟩,List.forall_mem_nil _⟩⟩⟩ (gB _ _ _ _ _ _ _ _ _ _ _ hx25) rfl rfl (List.forall_mem_cons.2 ⟨⟨rfl,(bF aB rfl rfl)⟩,List.forall_mem_cons.2 ⟨⟨rfl,(aY (eInt .i64))⟩,List.forall_mem_nil _⟩⟩) (by simp only [List.map_cons,List.map_nil,Ent.ren,bC,bG,bK]; rfl)) <|aD ?_)
   obtain ⟨x26,hx26,h⟩:=aS h
   obtain ⟨hk27,h⟩:=jN h
   obtain ⟨x28,hx28,h⟩:=aS h
   obtain ⟨x29,hx29,h⟩:=aR h
   refine lF rfl [⟨[0],[],[(43,.ref 1000 0)],[]⟩,
    ⟨[1],[],[(44,.int .i64 a0)],[]⟩,
    ⟨[5],[],[(45,.ref 0 1)],[]⟩,
    ⟨[45],[0],[(46,.int .i64 v7)],[]⟩,
    ⟨[43],[],[(47,.ref 1000 0)],[]⟩,
    ⟨[47],[],[(48,.ref 1000 5)],[]⟩,
    ⟨[44,48],[],[(49,.ref 1000 (5 + (((a0 : Int).toNat) * aB.sz + 0)))],[]⟩,
    ⟨[49],[],[(50,.ref 1000 (5 + (((a0 : Int).toNat) * aB.sz + 4)))],[]⟩,
    ⟨[46,50],[1000],[],[(1000,.blk 60 (mixD aB.toEnc0 (w20 x25.1 x25.2.1 x25.2.2.1 x25.2.2.2.1 x25.2.2.2.2.1) x29 [.int .i64 x25.2.2.2.2.2.2.1,.osl 2 (eInt .i64).sz x25.2.2.2.2.2.2.2.length]))]⟩] rfl ?_ (by kernel_rfl) ?_
   ·refine .cons (lop rfl rfl fun S hA=>(aN rfl rfl (lb rfl) (svaR hA rfl rfl))) ?_
    refine .cons (lop rfl rfl fun S hA=>(aN rfl rfl (lb rfl) (svaI hA rfl rfl))) ?_
    refine .cons (lop rfl rfl fun S hA=>(aV rfl rfl (lb rfl) Try.underlying72 rfl ti3 (by decide) (svaR hA rfl rfl) (off':=1) rfl)) ?_
    refine .cons (lop rfl rfl fun S hA=>(aK (d:=.int _ _) rfl rfl (lb rfl) Try.underlying3 ag3 ti3 (by decide) (svaR hA rfl rfl) (agi hA rfl rfl) (nle rfl) rfl)) ?_
    refine .cons (lop rfl rfl fun S hA=>(aJ rfl rfl (lb rfl) (svaR hA rfl rfl))) ?_
    refine .cons (lop rfl rfl fun S hA=>(aV rfl rfl (lb rfl) Try.underlying60 rfl ti58 (by decide) (svaR hA rfl rfl) (off':=5) rfl)) ?_
    refine .cons (lop rfl rfl fun S hA=>(bX aB.toEnc0 rfl rfl (lb rfl) Try.underlying58 ti57 (svaR hA rfl rfl) hk27 (svaI hA rfl rfl) hx26)) ?_
    refine .cons (lop rfl rfl fun S hA=>(bJ rfl rfl (lb rfl) Try.underlying57 rfl ti3 (by decide) (svaR hA rfl rfl) (k':=4) rfl)) ?_
    refine .cons (lop rfl rfl fun S hA=>(hB aB.toEnc0 (b:=5) (k:=4) (a':=(⟨x28.id,x28.up,x28.first,x28.next,v7,x28.closed⟩ : aG)) rfl rfl ti3 (svaR hA rfl rfl) (agi hA rfl rfl) (svaI hA rfl rfl) rfl rfl rfl rfl hx28 (nle rfl) rfl hx29)) ?_
    exact .nil
   refine aT ?_
   refine aF (aA rfl (faR 2 rfl rfl rfl Try.underlying72 rfl ti4 (lb rfl) rfl rfl) <|aA rfl (aK (d:=.bool _) rfl rfl (lb rfl) Try.underlying4 ag4 ti4 (by decide) (svR rfl) rfl (nle rfl) rfl) <|aA rfl (eG rfl rfl (lb rfl) (svB rfl)) <|aD ?_)
   refine aX (b:=_) rfl (fun hc30=>?_) (fun hc30=>?_)
   ·
    replace h:=bY h hc30
    refine bD ?_
    refine bS ?_
    obtain rfl:=Option.some.inj h
    refine ⟨.inr rfl,(fun i=>if i = 0 then 2 else i),⟨.nil,(.cons (EntW.mix aB rfl (SubC.of_eq rfl) (SubC.of_eq rfl) rfl rfl) (.cons (EntW.lst rfl) .nil)),bB [1000,2] rfl (by decide),(fun i hi=>by first | rfl | (show (if _ then _ else _) = _; (repeat' split) <;> omega))⟩,.nil,rfl⟩
   ·
    replace h:=bZ h hc30
    refine aU ?_
    refine aL ?_
    refine aF (aA rfl (mvR rfl rfl rfl rfl) <|aA rfl (mvI rfl rfl rfl rfl) <|?_)
    refine eR (S':=⟨[(0,.ref 1000 0),(1,.int .i64 a0),(54,.ref 1000 0),(55,.int .i64 x1)],[(2,.blk 3 (D.flat (x25.2.2.2.2.2.2.2.map (eInt .i64).d))),(1000,.blk 60 (mixD aB.toEnc0 (w20 x25.1 x25.2.1 x25.2.2.1 x25.2.2.2.1 x25.2.2.2.2.1) x29 [.int .i64 x25.2.2.2.2.2.2.1,.osl 2 (eInt .i64).sz x25.2.2.2.2.2.2.2.length]))]⟩) (fun i=>i) ⟨(.sames rfl rfl),(.cons (EntW.lst rfl) (.cons (EntW.mix aB rfl (SubC.of_eq rfl) (SubC.of_eq rfl) rfl rfl) .nil)),bB [2,1000] rfl (by decide),fun _ _=>rfl⟩ ?_
    refine iI 1 3 rfl rfl rfl (by decide) cl29 Try.func29 rfl (.cons (svR rfl) (.cons (svI rfl) .nil)) Try.ntmps29 (nle rfl) rfl hO.semiL fun O1 hO1=>?_
    show IWP _ _ _ _ ⟨[(0,.ref 1000 0),(1,.int .i64 x1)],[(3,.kept 1 [.ref 1000 0,.int .i64 a0,.dead,.dead,.dead,.dead,.dead,.dead,.dead,.dead,.dead,.dead,.dead,.dead,.dead,.dead,.dead,.dead,.dead,.dead,.dead,.dead,.dead,.dead,.dead,.dead,.dead,.dead,.dead,.dead,.dead,.dead,.dead,.dead,.dead,.dead,.dead,.dead,.dead,.dead,.dead,.dead,.dead,.dead,.dead,.dead,.dead,.dead,.dead,.dead,.dead,.dead,.dead,.dead,.ref 1000 0,.int .i64 x1,.dead,.dead,.dead,.dead,.dead,.dead,.dead,.dead,.dead,.dead,.dead,.dead,.dead,.dead,.dead]),(2,.blk 3 (D.flat (x25.2.2.2.2.2.2.2.map (eInt .i64).d))),(1000,.blk 60 (mixD aB.toEnc0 (w20 x25.1 x25.2.1 x25.2.2.1 x25.2.2.2.1 x25.2.2.2.2.1) x29 [.int .i64 x25.2.2.2.2.2.2.1,.osl 2 (eInt .i64).sz x25.2.2.2.2.2.2.2.length]))]⟩ _
    refine aF (aA rfl (eD (cs:=[.ref _ _]) 4 rfl rfl (lb rfl) rfl (svR rfl) rfl rfl) <|aA rfl (eD (cs:=[.int _ _]) 5 rfl rfl (lb rfl) rfl (svI rfl) rfl rfl) <|aA rfl (aH rfl rfl (lb rfl) (sv (d:=.nilf) rfl)) <|aD ?_)
    refine aF (aA rfl (kD rfl rfl (lb rfl) (.cons (svR rfl) (.cons (svR rfl) .nil))) <|aA rfl (aH rfl rfl (lb rfl) (sv (d:=.fn 40 q16) rfl)) <|aD ?_)
    refine bD ?_
    refine ⟨.inr rfl,3,_,[.fn 40 [.ref 4 0,.ref 5 0]],(.cons (sv rfl) .nil),rfl,rfl,⟨[(0,.ref 1000 0),(1,.int .i64 a0),(56,.fn 40 [.ref 4 0,.ref 5 0])],[(2,.blk 3 (D.flat (x25.2.2.2.2.2.2.2.map (eInt .i64).d))),(4,.blk 26 [.ref 1000 0]),(5,.blk 3 [.int .i64 x1]),(1000,.blk 60 (mixD aB.toEnc0 (w20 x25.1 x25.2.1 x25.2.2.1 x25.2.2.2.1 x25.2.2.2.2.1) x29 [.int .i64 x25.2.2.2.2.2.2.1,.osl 2 (eInt .i64).sz x25.2.2.2.2.2.2.2.length]))]⟩,(fun i=>i),⟨(.sames rfl rfl),(.cons (EntW.lst rfl) (.cons (.blk rfl rfl rfl) (.cons (.blk rfl rfl rfl) (.cons (EntW.mix aB rfl (SubC.of_eq rfl) (SubC.of_eq rfl) rfl rfl) .nil)))),bB [2,4,5,1000] rfl (by decide),fun _ _=>rfl⟩,?_⟩
    refine eR (S':=⟨[(0,.ref 1000 0),(1,.int .i64 a0),(56,.fn 40 [.ref 4 0,.ref 5 0])],[(2,.blk 3 (D.flat (x25.2.2.2.2.2.2.2.map (eInt .i64).d))),(4,.blk 26 [.ref 1000 0]),(5,.blk 3 [.int .i64 x1]),(1000,.blk 60 (mixD aB.toEnc0 (w20 x25.1 x25.2.1 x25.2.2.1 x25.2.2.2.1 x25.2.2.2.2.1) x29 [.int .i64 x25.2.2.2.2.2.2.1,.osl 2 (eInt .i64).sz x25.2.2.2.2.2.2.2.length]))]⟩) (fun i=>i) ⟨(.sames rfl rfl),(.cons (EntW.lst rfl) (.cons (.blk rfl rfl rfl) (.cons (.blk rfl rfl rfl) (.cons (EntW.mix aB rfl (SubC.of_eq rfl) (SubC.of_eq rfl) rfl rfl) .nil)))),bB [2,4,5,1000] rfl (by decide),fun _ _=>rfl⟩ ?_
    refine iI 1 6 rfl rfl rfl (by decide) cl47 Try.func47 rfl (.cons (sv (d:=.fn 40 q16) rfl) .nil) Try.ntmps47 (nle rfl) rfl hO.semiL fun O1 hO1=>?_
    show IWP _ _ _ _ ⟨[(0,.fn 40 [.ref 4 0,.ref 5 0])],[(6,.kept 1 [.ref 1000 0,.int .i64 a0,.dead,.dead,.dead,.dead,.dead,.dead,.dead,.dead,.dead,.dead,.dead,.dead,.dead,.dead,.dead,.dead,.dead,.dead,.dead,.dead,.dead,.dead,.dead,.dead,.dead,.dead,.dead,.dead,.dead,.dead,.dead,.dead,.dead,.dead,.dead,.dead,.dead,.dead,.dead,.dead,.dead,.dead,.dead,.dead,.dead,.dead,.dead,.dead,.dead,.dead,.dead,.dead,.dead,.dead,.fn 40 [.ref 4 0,.ref 5 0],.dead,.dead,.dead,.dead,.dead,.dead,.dead,.dead,.dead,.dead,.dead,.dead,.dead,.dead]),(2,.blk 3 (D.flat (x25.2.2.2.2.2.2.2.map (eInt .i64).d))),(4,.blk 26 [.ref 1000 0]),(5,.blk 3 [.int .i64 x1]),(1000,.blk 60 (mixD aB.toEnc0 (w20 x25.1 x25.2.1 x25.2.2.1 x25.2.2.2.1 x25.2.2.2.2.1) x29 [.int .i64 x25.2.2.2.2.2.2.1,.osl 2 (eInt .i64).sz x25.2.2.2.2.2.2.2.length]))]⟩ _
    refine aF (aA rfl (aH rfl rfl (lb rfl) (sv (d:=.nils) rfl)) <|aD ?_)
    refine aF (aA rfl (aN rfl rfl (lb rfl) (sv (d:=.fn 40 q16) rfl)) <|?_)
    refine eR (S':=⟨[(3,.fn 40 [.ref 4 0,.ref 5 0])],[(2,.blk 3 (D.flat (x25.2.2.2.2.2.2.2.map (eInt .i64).d))),(4,.blk 26 [.ref 1000 0]),(5,.blk 3 [.int .i64 x1]),(6,.kept 1 [.ref 1000 0,.int .i64 a0,.dead,.dead,.dead,.dead,.dead,.dead,.dead,.dead,.dead,.dead,.dead,.dead,.dead,.dead,.dead,.dead,.dead,.dead,.dead,.dead,.dead,.dead,.dead,.dead,.dead,.dead,.dead,.dead,.dead,.dead,.dead,.dead,.dead,.dead,.dead,.dead,.dead,.dead,.dead,.dead,.dead,.dead,.dead,.dead,.dead,.dead,.dead,.dead,.dead,.dead,.dead,.dead,.dead,.dead,.fn 40 [.ref 4 0,.ref 5 0],.dead,.dead,.dead,.dead,.dead,.dead,.dead,.dead,.dead,.dead,.dead,.dead,.dead,.dead]),(1000,.blk 60 (mixD aB.toEnc0 (w20 x25.1 x25.2.1 x25.2.2.1 x25.2.2.2.1 x25.2.2.2.2.1) x29 [.int .i64 x25.2.2.2.2.2.2.1,.osl 2 (eInt .i64).sz x25.2.2.2.2.2.2.2.length]))]⟩) (fun i=>i) ⟨(.sames rfl rfl),(.cons (EntW.lst rfl) (.cons (.blk rfl rfl rfl) (.cons (.blk rfl rfl rfl) (.cons (.kept rfl rfl rfl) (.cons (EntW.mix aB rfl (SubC.of_eq rfl) (SubC.of_eq rfl) rfl rfl) .nil))))),bB [2,4,5,6,1000] rfl (by decide),fun _ _=>rfl⟩ ?_
    refine iI 2 7 rfl rfl rfl (by decide) cl77 Try.func77 rfl (.cons (sv (d:=.nils) rfl) (.cons (sv (d:=.fn 40 q16) rfl) .nil)) Try.ntmps77 (nle rfl) rfl hO1 fun O2 hO2=>?_
    show IWP _ _ _ _ ⟨[(0,.nils),(1,.fn 40 [.ref 4 0,.ref 5 0])],[(7,.kept 2 [.dead,.dead,.dead,.fn 40 [.ref 4 0,.ref 5 0],.dead]),(2,.blk 3 (D.flat (x25.2.2.2.2.2.2.2.map (eInt .i64).d))),(4,.blk 26 [.ref 1000 0]),(5,.blk 3 [.int .i64 x1]),(6,.kept 1 [.ref 1000 0,.int .i64 a0,.dead,.dead,.dead,.dead,.dead,.dead,.dead,.dead,.dead,.dead,.dead,.dead,.dead,.dead,.dead,.dead,.dead,.dead,.dead,.dead,.dead,.dead,.dead,.dead,.dead,.dead,.dead,.dead,.dead,.dead,.dead,.dead,.dead,.dead,.dead,.dead,.dead,.dead,.dead,.dead,.dead,.dead,.dead,.dead,.dead,.dead,.dead,.dead,.dead,.dead,.dead,.dead,.dead,.dead,.fn 40 [.ref 4 0,.ref 5 0],.dead,.dead,.dead,.dead,.dead,.dead,.dead,.dead,.dead,.dead,.dead,.dead,.dead,.dead]),(1000,.blk 60 (mixD aB.toEnc0 (w20 x25.1 x25.2.1 x25.2.2.1 x25.2.2.2.1 x25.2.2.2.2.1) x29 [.int .i64 x25.2.2.2.2.2.2.1,.osl 2 (eInt .i64).sz x25.2.2.2.2.2.2.2.length]))]⟩ _
    refine aF (aA rfl (eD (cs:=[.nils]) 8 rfl rfl (lb rfl) rfl (sv (d:=.nils) rfl) rfl rfl) <|aA rfl (aH rfl rfl (lb rfl) (sv (d:=.nils) rfl)) <|aD ?_)
    refine aT ?_
    refine aF (aA rfl (aN rfl rfl (lb rfl) (sv (d:=.fn 40 q16) rfl)) <|aD ?_)
    refine bA ?_
    refine mM (S':=⟨[(2,.ref 8 0),(6,.fn 40 [.ref 4 0,.ref 5 0])],[(2,.blk 3 (D.flat (x25.2.2.2.2.2.2.2.map (eInt .i64).d))),(4,.blk 26 [.ref 1000 0]),(5,.blk 3 [.int .i64 x1]),(6,.kept 1 [.ref 1000 0,.int .i64 a0,.dead,.dead,.dead,.dead,.dead,.dead,.dead,.dead,.dead,.dead,.dead,.dead,.dead,.dead,.dead,.dead,.dead,.dead,.dead,.dead,.dead,.dead,.dead,.dead,.dead,.dead,.dead,.dead,.dead,.dead,.dead,.dead,.dead,.dead,.dead,.dead,.dead,.dead,.dead,.dead,.dead,.dead,.dead,.dead,.dead,.dead,.dead,.dead,.dead,.dead,.dead,.dead,.dead,.dead,.fn 40 [.ref 4 0,.ref 5 0],.dead,.dead,.dead,.dead,.dead,.dead,.dead,.dead,.dead,.dead,.dead,.dead,.dead,.dead]),(7,.kept 2 [.dead,.dead,.dead,.fn 40 [.ref 4 0,.ref 5 0],.dead]),(8,.blk 24 [.nils]),(1000,.blk 60 (mixD aB.toEnc0 (w20 x25.1 x25.2.1 x25.2.2.1 x25.2.2.2.1 x25.2.2.2.2.1) x29 [.int .i64 x25.2.2.2.2.2.2.1,.osl 2 (eInt .i64).sz x25.2.2.2.2.2.2.2.length]))]⟩) (fun i=>i) ⟨(.sames rfl rfl),(.cons (EntW.lst rfl) (.cons (.blk rfl rfl rfl) (.cons (.blk rfl rfl rfl) (.cons (.kept rfl rfl rfl) (.cons (.kept rfl rfl rfl) (.cons (.blk rfl rfl rfl) (.cons (EntW.mix aB rfl (SubC.of_eq rfl) (SubC.of_eq rfl) rfl rfl) .nil))))))),bB [2,4,5,6,7,8,1000] rfl (by decide),fun _ _=>rfl⟩ ?_
    refine nA 3 9 10 (sv (d:=.fn 40 q16) rfl) cl40 Try.func40 rfl rfl Try.ntmps40 (nle rfl) rfl rfl hO2 (List.forall_mem_cons.2 ⟨⟨7,_,rfl⟩,List.forall_mem_cons.2 ⟨⟨6,_,rfl⟩,List.forall_mem_nil _⟩⟩) fun O3 hO3 hlc3=>?_
    show IWP _ _ _ _ ⟨[(0,.yld 9),(1,.ref 4 0),(2,.ref 5 0)],[(10,.kept 3 [.dead,.dead,.ref 8 0,.dead,.dead,.dead,.fn 40 [.ref 4 0,.ref 5 0],.dead,.dead,.dead,.dead,.dead,.dead]),(9,.loop 3 [.dead,.dead,.ref 8 0,.dead,.dead,.dead,.fn 40 [.ref 4 0,.ref 5 0],.dead,.dead,.dead,.dead,.dead,.dead] .ready none),(2,.blk 3 (D.flat (x25.2.2.2.2.2.2.2.map (eInt .i64).d))),(4,.blk 26 [.ref 1000 0]),(5,.blk 3 [.int .i64 x1]),(6,.kept 1 [.ref 1000 0,.int .i64 a0,.dead,.dead,.dead,.dead,.dead,.dead,.dead,.dead,.dead,.dead,.dead,.dead,.dead,.dead,.dead,.dead,.dead,.dead,.dead,.dead,.dead,.dead,.dead,.dead,.dead,.dead,.dead,.dead,.dead,.dead,.dead,.dead,.dead,.dead,.dead,.dead,.dead,.dead,.dead,.dead,.dead,.dead,.dead,.dead,.dead,.dead,.dead,.dead,.dead,.dead,.dead,.dead,.dead,.dead,.fn 40 [.ref 4 0,.ref 5 0],.dead,.dead,.dead,.dead,.dead,.dead,.dead,.dead,.dead,.dead,.dead,.dead,.dead,.dead]),(7,.kept 2 [.dead,.dead,.dead,.fn 40 [.ref 4 0,.ref 5 0],.dead]),(8,.blk 24 [.nils]),(1000,.blk 60 (mixD aB.toEnc0 (w20 x25.1 x25.2.1 x25.2.2.1 x25.2.2.2.1 x25.2.2.2.2.1) x29 [.int .i64 x25.2.2.2.2.2.2.1,.osl 2 (eInt .i64).sz x25.2.2.2.2.2.2.2.length]))]⟩ _
    refine aF (aA rfl (aK (d:=.ref _ _) rfl rfl (lb rfl) Try.underlying26 ag26 ti26 (by decide) (svR rfl) rfl (nle rfl) rfl) <|aA rfl (aK (d:=.int _ _) rfl rfl (lb rfl) Try.underlying3 ag3 ti3 (by decide) (svR rfl) rfl (nle rfl) rfl) <|?_)
    refine eR (S':=⟨[(0,.yld 9),(1,.ref 4 0),(6,.ref 1000 0),(7,.int .i64 x1)],[(2,.blk 3 (D.flat (x25.2.2.2.2.2.2.2.map (eInt .i64).d))),(4,.blk 26 [.ref 1000 0]),(5,.blk 3 [.int .i64 x1]),(6,.kept 1 [.ref 1000 0,.int .i64 a0,.dead,.dead,.dead,.dead,.dead,.dead,.dead,.dead,.dead,.dead,.dead,.dead,.dead,.dead,.dead,.dead,.dead,.dead,.dead,.dead,.dead,.dead,.dead,.dead,.dead,.dead,.dead,.dead,.dead,.dead,.dead,.dead,.dead,.dead,.dead,.dead,.dead,.dead,.dead,.dead,.dead,.dead,.dead,.dead,.dead,.dead,.dead,.dead,.dead,.dead,.dead,.dead,.dead,.dead,.fn 40 [.ref 4 0,.ref 5 0],.dead,.dead,.dead,.dead,.dead,.dead,.dead,.dead,.dead,.dead,.dead,.dead,.dead,.dead]),(7,.kept 2 [.dead,.dead,.dead,.fn 40 [.ref 4 0,.ref 5 0],.dead]),(8,.blk 24 [.nils]),(9,.loop 3 [.dead,.dead,.ref 8 0,.dead,.dead,.dead,.fn 40 [.ref 4 0,.ref 5 0],.dead,.dead,.dead,.dead,.dead,.dead] .ready none),(10,.kept 3 [.dead,.dead,.ref 8 0,.dead,.dead,.dead,.fn 40 [.ref 4 0,.ref 5 0],.dead,.dead,.dead,.dead,.dead,.dead]),(1000,.blk 60 (mixD aB.toEnc0 (w20 x25.1 x25.2.1 x25.2.2.1 x25.2.2.2.1 x25.2.2.2.2.1) x29 [.int .i64 x25.2.2.2.2.2.2.1,.osl 2 (eInt .i64).sz x25.2.2.2.2.2.2.2.length]))]⟩) (fun i=>i) ⟨(.sames rfl rfl),(.cons (EntW.lst rfl) (.cons (.blk rfl rfl rfl) (.cons (.blk rfl rfl rfl) (.cons (.kept rfl rfl rfl) (.cons (.kept rfl rfl rfl) (.cons (.blk rfl rfl rfl) (.cons (.loop rfl rfl rfl) (.cons (.kept rfl rfl rfl) (.cons (EntW.mix aB rfl (SubC.of_eq rfl) (SubC.of_eq rfl) rfl rfl) .nil))))))))),bB [2,4,5,6,7,8,9,10,1000] rfl (by decide),fun _ _=>rfl⟩ ?_
    refine iI 4 11 rfl rfl rfl (by decide) cl41 Try.func41 rfl (.cons (svR rfl) (.cons (svI rfl) .nil)) Try.ntmps41 (nle rfl) rfl hO3 fun O4 hO4=>?_
    show IWP _ _ _ _ ⟨[(0,.ref 1000 0),(1,.int .i64 x1)],[(11,.kept 4 [.yld 9,.ref 4 0,.dead,.dead,.dead,.dead,.ref 1000 0,.int .i64 x1,.dead,.dead,.dead,.dead,.dead,.dead,.dead,.dead,.dead,.dead,.dead,.dead,.dead,.dead,.dead,.dead,.dead]),(2,.blk 3 (D.flat (x25.2.2.2.2.2.2.2.map (eInt .i64).d))),(4,.blk 26 [.ref 1000 0]),(5,.blk 3 [.int .i64 x1]),(6,.kept 1 [.ref 1000 0,.int .i64 a0,.dead,.dead,.dead,.dead,.dead,.dead,.dead,.dead,.dead,.dead,.dead,.dead,.dead,.dead,.dead,.dead,.dead,.dead,.dead,.dead,.dead,.dead,.dead,.dead,.dead,.dead,.dead,.dead,.dead,.dead,.dead,.dead,.dead,.dead,.dead,.dead,.dead,.dead,.dead,.dead,.dead,.dead,.dead,.dead,.dead,.dead,.dead,.dead,.dead,.dead,.dead,.dead,.dead,.dead,.fn 40 [.ref 4 0,.ref 5 0],.dead,.dead,.dead,.dead,.dead,.dead,.dead,.dead,.dead,.dead,.dead,.dead,.dead,.dead]),(7,.kept 2 [.dead,.dead,.dead,.fn 40 [.ref 4 0,.ref 5 0],.dead]),(8,.blk 24 [.nils]),(9,.loop 3 [.dead,.dead,.ref 8 0,.dead,.dead,.dead,.fn 40 [.ref 4 0,.ref 5 0],.dead,.dead,.dead,.dead,.dead,.dead] .ready none),(10,.kept 3 [.dead,.dead,.ref 8 0,.dead,.dead,.dead,.fn 40 [.ref 4 0,.ref 5 0],.dead,.dead,.dead,.dead,.dead,.dead]),(1000,.blk 60 (mixD aB.toEnc0 (w20 x25.1 x25.2.1 x25.2.2.1 x25.2.2.2.1 x25.2.2.2.2.1) x29 [.int .i64 x25.2.2.2.2.2.2.1,.osl 2 (eInt .i64).sz x25.2.2.2.2.2.2.2.length]))]⟩ _
    refine aF (aA rfl (aH rfl rfl (lb rfl) (sv (d:=.nilp) rfl)) <|aD ?_)
    refine aT ?_
    obtain ⟨x31,hx31,h⟩:=aR h
    refine aF (aA rfl (mvI rfl rfl rfl rfl) <|aA rfl (aM rfl rfl (lb rfl) (svI rfl) (sv (d:=.int _ (-1)) rfl) rfl hx31) <|aD ?_)
    refine aX (b:=_) rfl (fun hc32=>?_) (fun hc32=>?_)
    ·
     replace h:=bY h hc32
     refine aF (aA rfl (mvR rfl rfl rfl rfl) <|aA rfl (aJ rfl rfl (lb rfl) (svR rfl)) <|aA rfl (faR 389 rfl rfl rfl Try.underlying60 rfl ti3 (lb rfl) rfl rfl) <|aA rfl (aH rfl rfl (lb rfl) (svR rfl)) <|aD ?_)
     refine bD ?_
     refine bS ?_
     refine ⟨.inr rfl,11,_,[.ref 1000 389],(.cons (sv rfl) .nil),rfl,rfl,⟨[(0,.yld 9),(1,.ref 4 0),(8,.ref 1000 389)],[(2,.blk 3 (D.flat (x25.2.2.2.2.2.2.2.map (eInt .i64).d))),(4,.blk 26 [.ref 1000 0]),(5,.blk 3 [.int .i64 x1]),(6,.kept 1 [.ref 1000 0,.int .i64 a0,.dead,.dead,.dead,.dead,.dead,.dead,.dead,.dead,.dead,.dead,.dead,.dead,.dead,.dead,.dead,.dead,.dead,.dead,.dead,.dead,.dead,.dead,.dead,.dead,.dead,.dead,.dead,.dead,.dead,.dead,.dead,.dead,.dead,.dead,.dead,.dead,.dead,.dead,.dead,.dead,.dead,.dead,.dead,.dead,.dead,.dead,.dead,.dead,.dead,.dead,.dead,.dead,.dead,.dead,.fn 40 [.ref 4 0,.ref 5 0],.dead,.dead,.dead,.dead,.dead,.dead,.dead,.dead,.dead,.dead,.dead,.dead,.dead,.dead]),(7,.kept 2 [.dead,.dead,.dead,.fn 40 [.ref 4 0,.ref 5 0],.dead]),(8,.blk 24 [.nils]),(9,.loop 3 [.dead,.dead,.ref 8 0,.dead,.dead,.dead,.fn 40 [.ref 4 0,.ref 5 0],.dead,.dead,.dead,.dead,.dead,.dead] .ready none),(10,.kept 3 [.dead,.dead,.ref 8 0,.dead,.dead,.dead,.fn 40 [.ref 4 0,.ref 5 0],.dead,.dead,.dead,.dead,.dead,.dead]),(1000,.blk 60 (mixD aB.toEnc0 (w20 x25.1 x25.2.1 x25.2.2.1 x25.2.2.2.1 x25.2.2.2.2.1) x29 [.int .i64 x25.2.2.2.2.2.2.1,.osl 2 (eInt .i64).sz x25.2.2.2.2.2.2.2.length]))]⟩,(fun i=>i),⟨(.sames rfl rfl),(.cons (EntW.lst rfl) (.cons (.blk rfl rfl rfl) (.cons (.blk rfl rfl rfl) (.cons (.kept rfl rfl rfl) (.cons (.kept rfl rfl rfl) (.cons (.blk rfl rfl rfl) (.cons (.loop rfl rfl rfl) (.cons (.kept rfl rfl rfl) (.cons (EntW.mix aB rfl (SubC.of_eq rfl) (SubC.of_eq rfl) rfl rfl) .nil))))))))),bB [2,4,5,6,7,8,9,10,1000] rfl (by decide),fun _ _=>rfl⟩,?_⟩
     refine aA rfl (aJ rfl rfl (lb rfl) (svR rfl)) <|aA rfl (fG aB.toEnc0 (d:=.int _ _) (n:=64) (k:=0) rfl rfl (lb rfl) Try.underlying3 ag3 ti3 (by decide) (svR rfl) rfl (jH hx29 hk27) (by rfl) (nle rfl) (by rfl)) <|aA rfl (asI rfl rfl rfl rfl) <|aD ?_
     refine bA ?_
     refine cV (α:=Nat × Int × (List Int)) (fun z=>⟨[(0,.yld 9),(1,.ref 4 0),(4,.int .i64 z.2.1)],[(9,.loop 3 [.dead,.dead,.ref 8 0,.dead,.dead,.dead,.fn 40 [.ref 4 0,.ref 5 0],.dead,.dead,.dead,.dead,.dead,.dead] .ready none),(4,.blk 26 [.ref 1000 0]),(6,.kept 1 [.ref 1000 0,.int .i64 a0,.dead,.dead,.dead,.dead,.dead,.dead,.dead,.dead,.dead,.dead,.dead,.dead,.dead,.dead,.dead,.dead,.dead,.dead,.dead,.dead,.dead,.dead,.dead,.dead,.dead,.dead,.dead,.dead,.dead,.dead,.dead,.dead,.dead,.dead,.dead,.dead,.dead,.dead,.dead,.dead,.dead,.dead,.dead,.dead,.dead,.dead,.dead,.dead,.dead,.dead,.dead,.dead,.dead,.dead,.fn 40 [.ref 4 0,.ref 5 0],.dead,.dead,.dead,.dead,.dead,.dead,.dead,.dead,.dead,.dead,.dead,.dead,.dead,.dead]),(7,.kept 2 [.dead,.dead,.dead,.fn 40 [.ref 4 0,.ref 5 0],.dead]),(10,.kept 3 [.dead,.dead,.ref 8 0,.dead,.dead,.dead,.fn 40 [.ref 4 0,.ref 5 0],.dead,.dead,.dead,.dead,.dead,.dead]),(1000,.blk 60 (mixD aB.toEnc0 (w20 x25.1 x25.2.1 x25.2.2.1 x25.2.2.2.1 x25.2.2.2.2.1) x29 [.int .i64 x25.2.2.2.2.2.2.1,.osl 2 (eInt .i64).sz x25.2.2.2.2.2.2.2.length])),(8,.blk 24 [.osl 32 (eInt .i64).sz z.2.2.length]),(5,.blk 3 [.int .i64 x1]),(2,.blk 3 (D.flat (x25.2.2.2.2.2.2.2.map (eInt .i64).d))),(32,.blk 3 (D.flat (z.2.2.map (eInt .i64).d)))]⟩) (fun z=>eA a0 x25 x29 z.1 z.2.1 z.2.2 = some r) (fun z=>z.1) (fuel,x25.2.2.2.2.2.2.1,([] : (List Int))) (fun i=>if i = 32 then 94 else i) ⟨(.sames rfl rfl),(.cons (.loop rfl rfl rfl) (.cons (.blk rfl rfl rfl) (.cons (.kept rfl rfl rfl) (.cons (.kept rfl rfl rfl) (.cons (.kept rfl rfl rfl) (.cons (EntW.mix aB rfl (SubC.of_eq rfl) (SubC.of_eq rfl) rfl rfl) (.cons (.sub rfl (.nilo .nil) rfl) (.cons (.blk rfl rfl rfl) (.cons (EntW.lst rfl) (.cons (.nilb rfl) .nil)))))))))),bB [9,4,6,7,10,1000,8,5,2,94] rfl (by decide),(fun i hi=>by first | rfl | (show (if _ then _ else _) = _; (repeat' split) <;> omega))⟩ ?_ ?_
     ·exact h
     ·
      rintro ⟨n2,v38,v39⟩ h
      cases n2 with
      | zero=>exact absurd h (by unfold eA; exact nofun)
      | succ n2 =>
       unfold eA at h
       refine aT ?_
       obtain ⟨x45,hx45,h⟩:=aR h
       refine aF (aA rfl (mvI rfl rfl rfl rfl) <|aA rfl (aM rfl rfl (lb rfl) (svI rfl) (sv (d:=.int _ (-1)) rfl) rfl hx45) <|aD ?_)
       refine aX (b:=_) rfl (fun hc46=>?_) (fun hc46=>?_)
       ·
        replace h:=bY h hc46
        refine aU ?_
        refine aL ?_
        refine bA ?_
        obtain ⟨x47,hx47,h⟩:=aS h
        obtain ⟨x48,hx48,h⟩:=aS h
        refine aF (aA rfl (aK (d:=.ref _ _) rfl rfl (lb rfl) Try.underlying26 ag26 ti26 (by decide) (svR rfl) rfl (nle rfl) rfl) <|aA rfl (mvI rfl rfl rfl rfl) <|aA rfl (aJ rfl rfl (lb rfl) (svR rfl)) <|aA rfl (faR 5 rfl rfl rfl Try.underlying60 rfl ti58 (lb rfl) rfl rfl) <|aA rfl (bX aB.toEnc0 rfl rfl (lb rfl) Try.underlying58 ti57 (svR rfl) (jH hx29 hk27) (svI rfl) hx47) <|aA rfl (bJ rfl rfl (lb rfl) Try.underlying57 rfl ti3 (by decide) (svR rfl) (k':=3) rfl) <|aA rfl (bP aB.toEnc0 (b:=5) (k:=3) (d:=.int _ _) rfl rfl (lb rfl) Try.underlying3 ag3 ti3 (by decide) (svR rfl) rfl rfl hx48 (nle rfl) rfl) <|aA rfl (asI rfl rfl rfl rfl) <|aD ?_)
        refine aT ?_
        refine aF (aA rfl (aN rfl rfl (lb rfl) (sv (d:=.yld _) rfl)) <|aA rfl (mvI rfl rfl rfl rfl) <|?_)
        refine eR (S':=⟨[(0,.yld 9),(1,.ref 4 0),(5,.int .i64 x48.next),(20,.yld 9),(21,.int .i64 v38)],[(2,.blk 3 (D.flat (x25.2.2.2.2.2.2.2.map (eInt .i64).d))),(4,.blk 26 [.ref 1000 0]),(5,.blk 3 [.int .i64 x1]),(6,.kept 1 [.ref 1000 0,.int .i64 a0,.dead,.dead,.dead,.dead,.dead,.dead,.dead,.dead,.dead,.dead,.dead,.dead,.dead,.dead,.dead,.dead,.dead,.dead,.dead,.dead,.dead,.dead,.dead,.dead,.dead,.dead,.dead,.dead,.dead,.dead,.dead,.dead,.dead,.dead,.dead,.dead,.dead,.dead,.dead,.dead,.dead,.dead,.dead,.dead,.dead,.dead,.dead,.dead,.dead,.dead,.dead,.dead,.dead,.dead,.fn 40 [.ref 4 0,.ref 5 0],.dead,.dead,.dead,.dead,.dead,.dead,.dead,.dead,.dead,.dead,.dead,.dead,.dead,.dead]),(7,.kept 2 [.dead,.dead,.dead,.fn 40 [.ref 4 0,.ref 5 0],.dead]),(8,.blk 24 [.osl 32 (eInt .i64).sz v39.length]),(9,.loop 3 [.dead,.dead,.ref 8 0,.dead,.dead,.dead,.fn 40 [.ref 4 0,.ref 5 0],.dead,.dead,.dead,.dead,.dead,.dead] .ready none),(10,.kept 3 [.dead,.dead,.ref 8 0,.dead,.dead,.dead,.fn 40 [.ref 4 0,.ref 5 0],.dead,.dead,.dead,.dead,.dead,.dead]),(32,.blk 3 (D.flat (v39.map (eInt .i64).d))),(1000,.blk 60 (mixD aB.toEnc0 (w20 x25.1 x25.2.1 x25.2.2.1 x25.2.2.2.1 x25.2.2.2.2.1) x29 [.int .i64 x25.2.2.2.2.2.2.1,.osl 2 (eInt .i64).sz x25.2.2.2.2.2.2.2.length]))]⟩) (fun i=>i) ⟨(.sames rfl rfl),(.cons (EntW.lst rfl) (.cons (.blk rfl rfl rfl) (.cons (.blk rfl rfl rfl) (.cons (.kept rfl rfl rfl) (.cons (.kept rfl rfl rfl) (.cons (.blk rfl rfl rfl) (.cons (.loop rfl rfl rfl) (.cons (.kept rfl rfl rfl) (.cons (EntW.lst rfl) (.cons (EntW.mix aB rfl (SubC.of_eq rfl) (SubC.of_eq rfl) rfl rfl) .nil)))))))))),bB [2,4,5,6,7,8,9,10,32,1000] rfl (by decide),fun _ _=>rfl⟩ ?_
        refine lC 4 9 33 rfl rfl rfl (by decide) rfl (.cons (svI rfl) .nil) rfl rfl rfl rfl rfl rfl hO3.round hlc3 ⟨[(7,.int .i64 v38),(2,.ref 8 0)],[(2,.blk 3 (D.flat (x25.2.2.2.2.2.2.2.map (eInt .i64).d))),(4,.blk 26 [.ref 1000 0]),(5,.blk 3 [.int .i64 x1]),(6,.kept 1 [.ref 1000 0,.int .i64 a0,.dead,.dead,.dead,.dead,.dead,.dead,.dead,.dead,.dead,.dead,.dead,.dead,.dead,.dead,.dead,.dead,.dead,.dead,.dead,.dead,.dead,.dead,.dead,.dead,.dead,.dead,.dead,.dead,.dead,.dead,.dead,.dead,.dead,.dead,.dead,.dead,.dead,.dead,.dead,.dead,.dead,.dead,.dead,.dead,.dead,.dead,.dead,.dead,.dead,.dead,.dead,.dead,.dead,.dead,.fn 40 [.ref 4 0,.ref 5 0],.dead,.dead,.dead,.dead,.dead,.dead,.dead,.dead,.dead,.dead,.dead,.dead,.dead,.dead]),(7,.kept 2 [.dead,.dead,.dead,.fn 40 [.ref 4 0,.ref 5 0],.dead]),(8,.blk 24 [.osl 32 (eInt .i64).sz v39.length]),(9,.loop 3 [.dead,.dead,.ref 8 0,.dead,.dead,.dead,.fn 40 [.ref 4 0,.ref 5 0],.dead,.dead,.dead,.dead,.dead,.dead] .ready none),(10,.kept 3 [.dead,.dead,.ref 8 0,.dead,.dead,.dead,.fn 40 [.ref 4 0,.ref 5 0],.dead,.dead,.dead,.dead,.dead,.dead]),(32,.blk 3 (D.flat (v39.map (eInt .i64).d))),(33,.kept 4 [.yld 9,.ref 4 0,.dead,.dead,.dead,.int .i64 x48.next,.dead,.dead,.dead,.dead,.dead,.dead,.dead,.dead,.dead,.dead,.dead,.dead,.dead,.dead,.yld 9,.int .i64 v38,.dead,.dead,.dead]),(1000,.blk 60 (mixD aB.toEnc0 (w20 x25.1 x25.2.1 x25.2.2.1 x25.2.2.2.1 x25.2.2.2.2.1) x29 [.int .i64 x25.2.2.2.2.2.2.1,.osl 2 (eInt .i64).sz x25.2.2.2.2.2.2.2.length]))]⟩ (fun i=>i) ⟨(.sames rfl rfl),(.cons (EntW.lst rfl) (.cons (.blk rfl rfl rfl) (.cons (.blk rfl rfl rfl) (.cons (.kept rfl rfl rfl) (.cons (.kept rfl rfl rfl) (.cons (.blk rfl rfl rfl) (.cons (.loop rfl rfl rfl) (.cons (.kept rfl rfl rfl) (.cons (EntW.lst rfl) (.cons (.kept rfl rfl rfl) (.cons (EntW.mix aB rfl (SubC.of_eq rfl) (SubC.of_eq rfl) rfl rfl) .nil))))))))))),bB [2,4,5,6,7,8,9,10,32,33,1000] rfl (by decide),fun _ _=>rfl⟩ fun O4=>?_
        refine aW (aA rfl (asI rfl rfl rfl rfl) <|bL ?_)
        refine ⟨rfl,9,_,rfl,⟨[(2,.ref 8 0),(5,.int .i64 v38)],[(2,.blk 3 (D.flat (x25.2.2.2.2.2.2.2.map (eInt .i64).d))),(4,.blk 26 [.ref 1000 0]),(5,.blk 3 [.int .i64 x1]),(6,.kept 1 [.ref 1000 0,.int .i64 a0,.dead,.dead,.dead,.dead,.dead,.dead,.dead,.dead,.dead,.dead,.dead,.dead,.dead,.dead,.dead,.dead,.dead,.dead,.dead,.dead,.dead,.dead,.dead,.dead,.dead,.dead,.dead,.dead,.dead,.dead,.dead,.dead,.dead,.dead,.dead,.dead,.dead,.dead,.dead,.dead,.dead,.dead,.dead,.dead,.dead,.dead,.dead,.dead,.dead,.dead,.dead,.dead,.dead,.dead,.fn 40 [.ref 4 0,.ref 5 0],.dead,.dead,.dead,.dead,.dead,.dead,.dead,.dead,.dead,.dead,.dead,.dead,.dead,.dead]),(7,.kept 2 [.dead,.dead,.dead,.fn 40 [.ref 4 0,.ref 5 0],.dead]),(8,.blk 24 [.osl 32 (eInt .i64).sz v39.length]),(9,.loop 3 [.dead,.dead,.ref 8 0,.dead,.dead,.dead,.fn 40 [.ref 4 0,.ref 5 0],.dead,.dead,.dead,.dead,.dead,.dead] .busy none),(10,.kept 3 [.dead,.dead,.ref 8 0,.dead,.dead,.dead,.fn 40 [.ref 4 0,.ref 5 0],.dead,.dead,.dead,.dead,.dead,.dead]),(32,.blk 3 (D.flat (v39.map (eInt .i64).d))),(33,.kept 4 [.yld 9,.ref 4 0,.dead,.dead,.dead,.int .i64 x48.next,.dead,.dead,.dead,.dead,.dead,.dead,.dead,.dead,.dead,.dead,.dead,.dead,.dead,.dead,.yld 9,.int .i64 v38,.dead,.dead,.dead]),(1000,.blk 60 (mixD aB.toEnc0 (w20 x25.1 x25.2.1 x25.2.2.1 x25.2.2.2.1 x25.2.2.2.2.1) x29 [.int .i64 x25.2.2.2.2.2.2.1,.osl 2 (eInt .i64).sz x25.2.2.2.2.2.2.2.length]))]⟩,(fun i=>i),⟨(.sames rfl rfl),(.cons (EntW.lst rfl) (.cons (.blk rfl rfl rfl) (.cons (.blk rfl rfl rfl) (.cons (.kept rfl rfl rfl) (.cons (.kept rfl rfl rfl) (.cons (.blk rfl rfl rfl) (.cons (.loop rfl rfl rfl) (.cons (.kept rfl rfl rfl) (.cons (EntW.lst rfl) (.cons (.kept rfl rfl rfl) (.cons (EntW.mix aB rfl (SubC.of_eq rfl) (SubC.of_eq rfl) rfl rfl) .nil))))))))))),bB [2,4,5,6,7,8,9,10,32,33,1000] rfl (by decide),fun _ _=>rfl⟩,?_⟩
        refine bA ?_
        obtain ⟨x49,hx49,h⟩:=aS h
        refine aW (aA rfl (aK (d:=.osl _ _ _) rfl rfl (lb rfl) Try.underlying24 ag24 ti24 (by decide) (svR rfl) rfl (nle rfl) rfl) <|aA rfl (mvI rfl rfl rfl rfl) <|aA rfl (jZ (eInt .i64).toEnc0 ([v38] : (List Int)) 34 rfl rfl (lb rfl) Try.underlying24 ti3 rfl (.cons (svI rfl) .nil) rfl rfl (by decide)) <|aA rfl (iX (eInt .i64).toEnc0 35 rfl rfl (lb rfl) Try.underlying24 ti3 rfl rfl rfl rfl rfl (nS (eInt .i64).toEnc0 rfl rfl rfl) hx49) <|aA rfl (eZ (ds':=[.osl _ _ _]) rfl rfl ti24 (svR rfl) rfl (sv (d:=.osl _ _ _) rfl) rfl rfl rfl (nle rfl) rfl) <|bL ?_)
        refine bR ?_
        refine ⟨9,33,_,_,none,rfl,rfl,rfl,rfl,(by decide),⟨[(0,.yld 9),(1,.ref 4 0),(5,.int .i64 x48.next),(22,.bool true)],[(2,.blk 3 (D.flat (x25.2.2.2.2.2.2.2.map (eInt .i64).d))),(4,.blk 26 [.ref 1000 0]),(5,.blk 3 [.int .i64 x1]),(6,.kept 1 [.ref 1000 0,.int .i64 a0,.dead,.dead,.dead,.dead,.dead,.dead,.dead,.dead,.dead,.dead,.dead,.dead,.dead,.dead,.dead,.dead,.dead,.dead,.dead,.dead,.dead,.dead,.dead,.dead,.dead,.dead,.dead,.dead,.dead,.dead,.dead,.dead,.dead,.dead,.dead,.dead,.dead,.dead,.dead,.dead,.dead,.dead,.dead,.dead,.dead,.dead,.dead,.dead,.dead,.dead,.dead,.dead,.dead,.dead,.fn 40 [.ref 4 0,.ref 5 0],.dead,.dead,.dead,.dead,.dead,.dead,.dead,.dead,.dead,.dead,.dead,.dead,.dead,.dead]),(7,.kept 2 [.dead,.dead,.dead,.fn 40 [.ref 4 0,.ref 5 0],.dead]),(8,.blk 24 [.osl 35 (eInt .i64).sz x49.length]),(9,.loop 3 [.dead,.dead,.ref 8 0,.dead,.dead,.dead,.fn 40 [.ref 4 0,.ref 5 0],.dead,.dead,.dead,.dead,.dead,.dead] .ready none),(10,.kept 3 [.dead,.dead,.ref 8 0,.dead,.dead,.dead,.fn 40 [.ref 4 0,.ref 5 0],.dead,.dead,.dead,.dead,.dead,.dead]),(35,.blk 3 (D.flat (x49.map (eInt .i64).d))),(1000,.blk 60 (mixD aB.toEnc0 (w20 x25.1 x25.2.1 x25.2.2.1 x25.2.2.2.1 x25.2.2.2.2.1) x29 [.int .i64 x25.2.2.2.2.2.2.1,.osl 2 (eInt .i64).sz x25.2.2.2.2.2.2.2.length]))]⟩,(fun i=>i),⟨(.sames rfl rfl),(.cons (EntW.lst rfl) (.cons (.blk rfl rfl rfl) (.cons (.blk rfl rfl rfl) (.cons (.kept rfl rfl rfl) (.cons (.kept rfl rfl rfl) (.cons (.blk rfl rfl rfl) (.cons (.loop rfl rfl rfl) (.cons (.kept rfl rfl rfl) (.cons (EntW.lst rfl) (.cons (EntW.mix aB rfl (SubC.of_eq rfl) (SubC.of_eq rfl) rfl rfl) .nil)))))))))),bB [2,4,5,6,7,8,9,10,35,1000] rfl (by decide),fun _ _=>rfl⟩,?_⟩
        refine aA rfl (eG rfl rfl (lb rfl) (svB rfl)) <|aD ?_
        refine fD rfl rfl ?_
        refine aU ?_
        refine aL ?_
        refine aW (aA rfl (mvI rfl rfl rfl rfl) <|aA rfl (asI rfl rfl rfl rfl) <|bL ?_)
        refine bR ?_
        refine aL ⟨(n2,x48.next,x49),(fun i=>if i = 32 then 35 else i),⟨(.sames rfl rfl),(.cons (.loop rfl rfl rfl) (.cons (.blk rfl rfl rfl) (.cons (.kept rfl rfl rfl) (.cons (.kept rfl rfl rfl) (.cons (.kept rfl rfl rfl) (.cons (EntW.mix aB rfl (SubC.of_eq rfl) (SubC.of_eq rfl) rfl rfl) (.cons (.blk rfl rfl rfl) (.cons (.blk rfl rfl rfl) (.cons (EntW.lst rfl) (.cons (EntW.lst rfl) .nil)))))))))),bB [9,4,6,7,10,1000,8,5,2,35] rfl (by decide),(fun i hi=>by first | rfl | (show (if _ then _ else _) = _; (repeat' split) <;> omega))⟩,?_,?_⟩
        exact h
        exact Nat.lt_succ_self _
       ·
        replace h:=bZ h hc46
        refine dD ?_
        refine bV ?_
        refine bV ?_
        refine dE ?_
        refine ⟨.inl rfl,9,10,_,_,_,_,rfl,(by simp),rfl,rfl,⟨[(2,.ref 8 0)],[(2,.blk 3 (D.flat (x25.2.2.2.2.2.2.2.map (eInt .i64).d))),(4,.blk 26 [.ref 1000 0]),(5,.blk 3 [.int .i64 x1]),(6,.kept 1 [.ref 1000 0,.int .i64 a0,.dead,.dead,.dead,.dead,.dead,.dead,.dead,.dead,.dead,.dead,.dead,.dead,.dead,.dead,.dead,.dead,.dead,.dead,.dead,.dead,.dead,.dead,.dead,.dead,.dead,.dead,.dead,.dead,.dead,.dead,.dead,.dead,.dead,.dead,.dead,.dead,.dead,.dead,.dead,.dead,.dead,.dead,.dead,.dead,.dead,.dead,.dead,.dead,.dead,.dead,.dead,.dead,.dead,.dead,.fn 40 [.ref 4 0,.ref 5 0],.dead,.dead,.dead,.dead,.dead,.dead,.dead,.dead,.dead,.dead,.dead,.dead,.dead,.dead]),(7,.kept 2 [.dead,.dead,.dead,.fn 40 [.ref 4 0,.ref 5 0],.dead]),(8,.blk 24 [.osl 32 (eInt .i64).sz v39.length]),(32,.blk 3 (D.flat (v39.map (eInt .i64).d))),(1000,.blk 60 (mixD aB.toEnc0 (w20 x25.1 x25.2.1 x25.2.2.1 x25.2.2.2.1 x25.2.2.2.2.1) x29 [.int .i64 x25.2.2.2.2.2.2.1,.osl 2 (eInt .i64).sz x25.2.2.2.2.2.2.2.length]))]⟩,(fun i=>i),⟨(.sames rfl rfl),(.cons (EntW.lst rfl) (.cons (.blk rfl rfl rfl) (.cons (.blk rfl rfl rfl) (.cons (.kept rfl rfl rfl) (.cons (.kept rfl rfl rfl) (.cons (.blk rfl rfl rfl) (.cons (EntW.lst rfl) (.cons (EntW.mix aB rfl (SubC.of_eq rfl) (SubC.of_eq rfl) rfl rfl) .nil)))))))),bB [2,4,5,6,7,8,32,1000] rfl (by decide),fun _ _=>rfl⟩,?_⟩
        refine bR ?_
        refine aL ?_
        refine aF (aA rfl (aK (d:=.osl _ _ _) rfl rfl (lb rfl) Try.underlying24 ag24 ti24 (by decide) (svR rfl) rfl (nle rfl) rfl) <|aA rfl (aH rfl rfl (lb rfl) (sv (d:=.osl _ _ _) rfl)) <|aD ?_)
        refine bD ?_
        refine ⟨.inr rfl,7,_,[.osl 32 (eInt .i64).sz v39.length],(.cons (sv rfl) .nil),rfl,rfl,⟨[(4,.osl 32 (eInt .i64).sz v39.length)],[(2,.blk 3 (D.flat (x25.2.2.2.2.2.2.2.map (eInt .i64).d))),(4,.blk 26 [.ref 1000 0]),(5,.blk 3 [.int .i64 x1]),(6,.kept 1 [.ref 1000 0,.int .i64 a0,.dead,.dead,.dead,.dead,.dead,.dead,.dead,.dead,.dead,.dead,.dead,.dead,.dead,.dead,.dead,.dead,.dead,.dead,.dead,.dead,.dead,.dead,.dead,.dead,.dead,.dead,.dead,.dead,.dead,.dead,.dead,.dead,.dead,.dead,.dead,.dead,.dead,.dead,.dead,.dead,.dead,.dead,.dead,.dead,.dead,.dead,.dead,.dead,.dead,.dead,.dead,.dead,.dead,.dead,.fn 40 [.ref 4 0,.ref 5 0],.dead,.dead,.dead,.dead,.dead,.dead,.dead,.dead,.dead,.dead,.dead,.dead,.dead,.dead]),(32,.blk 3 (D.flat (v39.map (eInt .i64).d))),(1000,.blk 60 (mixD aB.toEnc0 (w20 x25.1 x25.2.1 x25.2.2.1 x25.2.2.2.1 x25.2.2.2.2.1) x29 [.int .i64 x25.2.2.2.2.2.2.1,.osl 2 (eInt .i64).sz x25.2.2.2.2.2.2.2.length]))]⟩,(fun i=>i),⟨(.sames rfl rfl),(.cons (EntW.lst rfl) (.cons (.blk rfl rfl rfl) (.cons (.blk rfl rfl rfl) (.cons (.kept rfl rfl rfl) (.cons (EntW.lst rfl) (.cons (EntW.mix aB rfl (SubC.of_eq rfl) (SubC.of_eq rfl) rfl rfl) .nil)))))),bB [2,4,5,6,32,1000] rfl (by decide),fun _ _=>rfl⟩,?_⟩
        refine aA rfl (aH rfl rfl (lb rfl) (sv (d:=.osl _ _ _) rfl)) <|aD ?_
        refine bD ?_
        refine ⟨.inr rfl,6,_,[.osl 32 (eInt .i64).sz v39.length],(.cons (sv rfl) .nil),rfl,rfl,⟨[(0,.ref 1000 0),(1,.int .i64 a0),(57,.osl 32 (eInt .i64).sz v39.length)],[(2,.blk 3 (D.flat (x25.2.2.2.2.2.2.2.map (eInt .i64).d))),(32,.blk 3 (D.flat (v39.map (eInt .i64).d))),(1000,.blk 60 (mixD aB.toEnc0 (w20 x25.1 x25.2.1 x25.2.2.1 x25.2.2.2.1 x25.2.2.2.2.1) x29 [.int .i64 x25.2.2.2.2.2.2.1,.osl 2 (eInt .i64).sz x25.2.2.2.2.2.2.2.length]))]⟩,(fun i=>i),⟨(.sames rfl rfl),(.cons (EntW.lst rfl) (.cons (EntW.lst rfl) (.cons (EntW.mix aB rfl (SubC.of_eq rfl) (SubC.of_eq rfl) rfl rfl) .nil))),bB [2,32,1000] rfl (by decide),fun _ _=>rfl⟩,?_⟩
        refine aA rfl (fE rfl rfl (lb rfl) Try.underlying24 (sv (d:=.osl _ _ _) rfl)) <|aA rfl (aN rfl rfl (lb rfl) (sv (d:=.int _ 0) rfl)) <|aD ?_
        refine bA ?_
        refine cV (α:=Nat × Int × Int × Int × (List aI) × Int × Int × (List aG) × Int × (List Int)) (fun z=>⟨[(0,.ref 1000 0),(1,.int .i64 a0),(57,.osl 32 (eInt .i64).sz v39.length),(58,.int .i64 (v39.length : Int)),(59,.int .i64 z.2.1)],[(1000,.blk 60 (mixD aB.toEnc0 (w20 z.2.2.1 z.2.2.2.1 z.2.2.2.2.1 z.2.2.2.2.2.1 z.2.2.2.2.2.2.1) z.2.2.2.2.2.2.2.1 [.int .i64 z.2.2.2.2.2.2.2.2.1,.osl 2 (eInt .i64).sz z.2.2.2.2.2.2.2.2.2.length])),(32,.blk 3 (D.flat (v39.map (eInt .i64).d))),(2,.blk 3 (D.flat (z.2.2.2.2.2.2.2.2.2.map (eInt .i64).d)))]⟩) (fun z=>cZ a0 v39 z.1 z.2.1 z.2.2.1 z.2.2.2.1 z.2.2.2.2.1 z.2.2.2.2.2.1 z.2.2.2.2.2.2.1 z.2.2.2.2.2.2.2.1 z.2.2.2.2.2.2.2.2.1 z.2.2.2.2.2.2.2.2.2 = some r) (fun z=>z.1) (fuel,0,x25.1,x25.2.1,x25.2.2.1,x25.2.2.2.1,x25.2.2.2.2.1,x29,x25.2.2.2.2.2.2.1,x25.2.2.2.2.2.2.2) (fun i=>i) ⟨(.sames rfl rfl),(.cons (EntW.mix aB rfl (SubC.of_eq rfl) (SubC.of_eq rfl) rfl rfl) (.cons (EntW.lst rfl) (.cons (EntW.lst rfl) .nil))),bB [1000,32,2] rfl (by decide),fun _ _=>rfl⟩ ?_ ?_
        ·exact h
        ·
         rintro ⟨n3,v59,v60,v61,v62,v63,v64,v65,v66,v67⟩ h
         cases n3 with
         | zero=>exact absurd h (by unfold cZ; exact nofun)
         | succ n3 =>
          unfold cZ at h
          obtain ⟨x77,hx77,h⟩:=aR h
          refine aF (aA rfl (aM rfl rfl (lb rfl) (svI rfl) (svI rfl) rfl hx77) <|aD ?_)
          refine aT ?_
          refine aX (b:=_) rfl (fun hc78=>?_) (fun hc78=>?_)
          ·
           replace h:=bY h hc78
           refine aU ?_
           refine aL ?_
           refine aT ?_
           refine bA ?_
           obtain ⟨x79,hx79,h⟩:=aS h
           obtain ⟨x80,hx80,h⟩:=aS h
           refine aF (aA rfl (gP (eInt .i64).toEnc0 rfl rfl (lb rfl) Try.underlying24 ti3 (sv (d:=.osl _ _ _) rfl) rfl (svI rfl) hx79) <|aA rfl (fO (eInt .i64).toEnc0 (d:=.int _ _) rfl rfl (lb rfl) Try.underlying3 ag3 ti3 (by decide) (svR rfl) rfl hx80 (nle rfl) rfl) <|aA rfl (asI rfl rfl rfl rfl) <|aD ?_)
           obtain ⟨x81,hx81,h⟩:=aR h
           refine aF (aA rfl (mvI rfl rfl rfl rfl) <|aA rfl (mvI rfl rfl rfl rfl) <|aA rfl (aM rfl rfl (lb rfl) (svI rfl) (svI rfl) rfl hx81) <|aD ?_)
           refine aX (b:=_) rfl (fun hc82=>?_) (fun hc82=>?_)
           ·
            replace h:=bY h hc82
            obtain ⟨x83,hx83,h⟩:=aS h
            refine aW (aA rfl (mvR rfl rfl rfl rfl) <|aA rfl (mvI rfl rfl rfl rfl) <|aA rfl (mvI rfl rfl rfl rfl) <|aA rfl (bH (r':=.tuple []) (H1':=[(1000,.blk 60 (mixD aB.toEnc0 (w20 x83.1 x83.2.1 x83.2.2.1 x83.2.2.2.1 x83.2.2.2.2.1) x83.2.2.2.2.2.1 [.int .i64 x83.2.2.2.2.2.2.1,.osl 33 (eInt .i64).sz x83.2.2.2.2.2.2.2.length])),(33,.blk 3 (D.flat (x83.2.2.2.2.2.2.2.map (eInt .i64).d)))]) 33 [1000,2] rfl rfl (lb rfl) cl46 (.cons (svR rfl) (.cons (svI rfl) (.cons (svI rfl) .nil))) rfl rfl ⟨rfl,rfl,by decide,rfl,List.forall_mem_cons.2 ⟨⟨rfl,rfl,(eP aB rfl rfl rfl),(bF aB rfl rfl)⟩,List.forall_mem_cons.2 ⟨⟨rfl,rfl,(dY (eInt .i64) rfl),(aY (eInt .i64))⟩,List.forall_mem_nil _⟩⟩⟩ (gB _ _ _ _ _ _ _ _ _ _ _ hx83) rfl rfl (List.forall_mem_cons.2 ⟨⟨rfl,(bF aB rfl rfl)⟩,List.forall_mem_cons.2 ⟨⟨rfl,(aY (eInt .i64))⟩,List.forall_mem_nil _⟩⟩) (by simp only [List.map_cons,List.map_nil,Ent.ren,bC,bG,bK]; rfl)) <|bL ?_)
            refine bR ?_
            refine aL ?_
            obtain ⟨x84,hx84,h⟩:=aR h
            refine aW (aA rfl (cQ rfl rfl (lb rfl) (svI rfl) (sv (d:=.int _ 1) rfl) rfl hx84) <|aA rfl (mvI rfl rfl rfl rfl) <|bL ?_)
            refine aL ⟨(n3,x84,x83.1,x83.2.1,x83.2.2.1,x83.2.2.2.1,x83.2.2.2.2.1,x83.2.2.2.2.2.1,x83.2.2.2.2.2.2.1,x83.2.2.2.2.2.2.2),(fun i=>if i = 2 then 33 else i),⟨(.sames rfl rfl),(.cons (EntW.mix aB rfl (SubC.of_eq rfl) (SubC.of_eq rfl) rfl rfl) (.cons (EntW.lst rfl) (.cons (EntW.lst rfl) .nil))),bB [1000,32,33] rfl (by decide),(fun i hi=>by first | rfl | (show (if _ then _ else _) = _; (repeat' split) <;> omega))⟩,?_,?_⟩
            exact h
            exact Nat.lt_succ_self _
           ·
            replace h:=bZ h hc82
            refine aU ?_
            refine bR ?_
            refine aL ?_
            obtain ⟨x85,hx85,h⟩:=aR h
            refine aW (aA rfl (cQ rfl rfl (lb rfl) (svI rfl) (sv (d:=.int _ 1) rfl) rfl hx85) <|aA rfl (mvI rfl rfl rfl rfl) <|bL ?_)
            refine aL ⟨(n3,x85,v60,v61,v62,v63,v64,v65,v66,v67),(fun i=>i),⟨(.sames rfl rfl),(.cons (EntW.mix aB rfl (SubC.of_eq rfl) (SubC.of_eq rfl) rfl rfl) (.cons (EntW.lst rfl) (.cons (EntW.lst rfl) .nil))),bB [1000,32,2] rfl (by decide),fun _ _=>rfl⟩,?_,?_⟩
            exact h
            exact Nat.lt_succ_self _
          ·
           replace h:=bZ h hc78
           refine dD ?_
           refine bV ?_
           refine bV ?_
           refine dE ?_
           obtain rfl:=Option.some.inj h
           refine ⟨.inl rfl,(fun i=>if i = 0 then 2 else i),⟨.nil,(.cons (EntW.mix aB rfl (SubC.of_eq rfl) (SubC.of_eq rfl) rfl rfl) (.cons (EntW.lst rfl) .nil)),bB [1000,2] rfl (by decide),(fun i hi=>by first | rfl | (show (if _ then _ else _) = _; (repeat' split) <;> omega))⟩,.nil,rfl⟩
    ·
     replace h:=bZ h hc32
     refine aU ?_
     refine aL ?_
     obtain ⟨x86,hx86,h⟩:=aS h
     refine aF (aA rfl (mvR rfl rfl rfl rfl) <|aA rfl (mvI rfl rfl rfl rfl) <|aA rfl (aJ rfl rfl (lb rfl) (svR rfl)) <|aA rfl (faR 5 rfl rfl rfl Try.underlying60 rfl ti58 (lb rfl) rfl rfl) <|aA rfl (bX aB.toEnc0 rfl rfl (lb rfl) Try.underlying58 ti57 (svR rfl) (jH hx29 hk27) (svI rfl) hx86) <|aA rfl (bJ rfl rfl (lb rfl) Try.underlying57 rfl ti3 (by decide) (svR rfl) (k':=2) rfl) <|aA rfl (aH rfl rfl (lb rfl) (svR rfl)) <|aD ?_)
     refine bD ?_
     refine ⟨.inr rfl,11,_,[.ref 1000 (5 + (((x1 : Int).toNat) * aB.sz + 2))],(.cons (sv rfl) .nil),rfl,rfl,⟨[(0,.yld 9),(1,.ref 4 0),(8,.ref 1000 (5 + (((x1 : Int).toNat) * aB.sz + 2)))],[(2,.blk 3 (D.flat (x25.2.2.2.2.2.2.2.map (eInt .i64).d))),(4,.blk 26 [.ref 1000 0]),(5,.blk 3 [.int .i64 x1]),(6,.kept 1 [.ref 1000 0,.int .i64 a0,.dead,.dead,.dead,.dead,.dead,.dead,.dead,.dead,.dead,.dead,.dead,.dead,.dead,.dead,.dead,.dead,.dead,.dead,.dead,.dead,.dead,.dead,.dead,.dead,.dead,.dead,.dead,.dead,.dead,.dead,.dead,.dead,.dead,.dead,.dead,.dead,.dead,.dead,.dead,.dead,.dead,.dead,.dead,.dead,.dead,.dead,.dead,.dead,.dead,.dead,.dead,.dead,.dead,.dead,.fn 40 [.ref 4 0,.ref 5 0],.dead,.dead,.dead,.dead,.dead,.dead,.dead,.dead,.dead,.dead,.dead,.dead,.dead,.dead]),(7,.kept 2 [.dead,.dead,.dead,.fn 40 [.ref 4 0,.ref 5 0],.dead]),(8,.blk 24 [.nils]),(9,.loop 3 [.dead,.dead,.ref 8 0,.dead,.dead,.dead,.fn 40 [.ref 4 0,.ref 5 0],.dead,.dead,.dead,.dead,.dead,.dead] .ready none),(10,.kept 3 [.dead,.dead,.ref 8 0,.dead,.dead,.dead,.fn 40 [.ref 4 0,.ref 5 0],.dead,.dead,.dead,.dead,.dead,.dead]),(1000,.blk 60 (mixD aB.toEnc0 (w20 x25.1 x25.2.1 x25.2.2.1 x25.2.2.2.1 x25.2.2.2.2.1) x29 [.int .i64 x25.2.2.2.2.2.2.1,.osl 2 (eInt .i64).sz x25.2.2.2.2.2.2.2.length]))]⟩,(fun i=>i),⟨(.sames rfl rfl),(.cons (EntW.lst rfl) (.cons (.blk rfl rfl rfl) (.cons (.blk rfl rfl rfl) (.cons (.kept rfl rfl rfl) (.cons (.kept rfl rfl rfl) (.cons (.blk rfl rfl rfl) (.cons (.loop rfl rfl rfl) (.cons (.kept rfl rfl rfl) (.cons (EntW.mix aB rfl (SubC.of_eq rfl) (SubC.of_eq rfl) rfl rfl) .nil))))))))),bB [2,4,5,6,7,8,9,10,1000] rfl (by decide),fun _ _=>rfl⟩,?_⟩
     obtain ⟨x87,hx87,h⟩:=aS h
     refine aA rfl (aJ rfl rfl (lb rfl) (svR rfl)) <|aA rfl (bP aB.toEnc0 (b:=5) (k:=2) (d:=.int _ _) rfl rfl (lb rfl) Try.underlying3 ag3 ti3 (by decide) (svR rfl) rfl rfl hx87 (nle rfl) rfl) <|aA rfl (asI rfl rfl rfl rfl) <|aD ?_
     refine bA ?_
     refine cV (α:=Nat × Int × (List Int)) (fun z=>⟨[(0,.yld 9),(1,.ref 4 0),(4,.int .i64 z.2.1)],[(9,.loop 3 [.dead,.dead,.ref 8 0,.dead,.dead,.dead,.fn 40 [.ref 4 0,.ref 5 0],.dead,.dead,.dead,.dead,.dead,.dead] .ready none),(4,.blk 26 [.ref 1000 0]),(6,.kept 1 [.ref 1000 0,.int .i64 a0,.dead,.dead,.dead,.dead,.dead,.dead,.dead,.dead,.dead,.dead,.dead,.dead,.dead,.dead,.dead,.dead,.dead,.dead,.dead,.dead,.dead,.dead,.dead,.dead,.dead,.dead,.dead,.dead,.dead,.dead,.dead,.dead,.dead,.dead,.dead,.dead,.dead,.dead,.dead,.dead,.dead,.dead,.dead,.dead,.dead,.dead,.dead,.dead,.dead,.dead,.dead,.dead,.dead,.dead,.fn 40 [.ref 4 0,.ref 5 0],.dead,.dead,.dead,.dead,.dead,.dead,.dead,.dead,.dead,.dead,.dead,.dead,.dead,.dead]),(7,.kept 2 [.dead,.dead,.dead,.fn 40 [.ref 4 0,.ref 5 0],.dead]),(10,.kept 3 [.dead,.dead,.ref 8 0,.dead,.dead,.dead,.fn 40 [.ref 4 0,.ref 5 0],.dead,.dead,.dead,.dead,.dead,.dead]),(1000,.blk 60 (mixD aB.toEnc0 (w20 x25.1 x25.2.1 x25.2.2.1 x25.2.2.2.1 x25.2.2.2.2.1) x29 [.int .i64 x25.2.2.2.2.2.2.1,.osl 2 (eInt .i64).sz x25.2.2.2.2.2.2.2.length])),(8,.blk 24 [.osl 32 (eInt .i64).sz z.2.2.length]),(5,.blk 3 [.int .i64 x1]),(2,.blk 3 (D.flat (x25.2.2.2.2.2.2.2.map (eInt .i64).d))),(32,.blk 3 (D.flat (z.2.2.map (eInt .i64).d)))]⟩) (fun z=>dZ a0 x25 x29 z.1 z.2.1 z.2.2 = some r) (fun z=>z.1) (fuel,x87.first,([] : (List Int))) (fun i=>if i = 32 then 94 else i) ⟨(.sames rfl rfl),(.cons (.loop rfl rfl rfl) (.cons (.blk rfl rfl rfl) (.cons (.kept rfl rfl rfl) (.cons (.kept rfl rfl rfl) (.cons (.kept rfl rfl rfl) (.cons (EntW.mix aB rfl (SubC.of_eq rfl) (SubC.of_eq rfl) rfl rfl) (.cons (.sub rfl (.nilo .nil) rfl) (.cons (.blk rfl rfl rfl) (.cons (EntW.lst rfl) (.cons (.nilb rfl) .nil)))))))))),bB [9,4,6,7,10,1000,8,5,2,94] rfl (by decide),(fun i hi=>by first | rfl | (show (if _ then _ else _) = _; (repeat' split) <;> omega))⟩ ?_ ?_
     ·exact h
     ·
      rintro ⟨n4,v93,v94⟩ h
      cases n4 with
      | zero=>exact absurd h (by unfold dZ; exact nofun)
      | succ n4 =>
       unfold dZ at h
       refine aT ?_
       obtain ⟨x100,hx100,h⟩:=aR h
       refine aF (aA rfl (mvI rfl rfl rfl rfl) <|aA rfl (aM rfl rfl (lb rfl) (svI rfl) (sv (d:=.int _ (-1)) rfl) rfl hx100) <|aD ?_)
       refine aX (b:=_) rfl (fun hc101=>?_) (fun hc101=>?_)
       ·
        replace h:=bY h hc101
        refine aU ?_
        refine aL ?_
        refine bA ?_
        obtain ⟨x102,hx102,h⟩:=aS h
        obtain ⟨x103,hx103,h⟩:=aS h
        refine aF (aA rfl (aK (d:=.ref _ _) rfl rfl (lb rfl) Try.underlying26 ag26 ti26 (by decide) (svR rfl) rfl (nle rfl) rfl) <|aA rfl (mvI rfl rfl rfl rfl) <|aA rfl (aJ rfl rfl (lb rfl) (svR rfl)) <|aA rfl (faR 5 rfl rfl rfl Try.underlying60 rfl ti58 (lb rfl) rfl rfl) <|aA rfl (bX aB.toEnc0 rfl rfl (lb rfl) Try.underlying58 ti57 (svR rfl) (jH hx29 hk27) (svI rfl) hx102) <|aA rfl (bJ rfl rfl (lb rfl) Try.underlying57 rfl ti3 (by decide) (svR rfl) (k':=3) rfl) <|aA rfl (bP aB.toEnc0 (b:=5) (k:=3) (d:=.int _ _) rfl rfl (lb rfl) Try.underlying3 ag3 ti3 (by decide) (svR rfl) rfl rfl hx103 (nle rfl) rfl) <|aA rfl (asI rfl rfl rfl rfl) <|aD ?_)
        refine aT ?_
        refine aF (aA rfl (aN rfl rfl (lb rfl) (sv (d:=.yld _) rfl)) <|aA rfl (mvI rfl rfl rfl rfl) <|?_)
        refine eR (S':=⟨[(0,.yld 9),(1,.ref 4 0),(5,.int .i64 x103.next),(20,.yld 9),(21,.int .i64 v93)],[(2,.blk 3 (D.flat (x25.2.2.2.2.2.2.2.map (eInt .i64).d))),(4,.blk 26 [.ref 1000 0]),(5,.blk 3 [.int .i64 x1]),(6,.kept 1 [.ref 1000 0,.int .i64 a0,.dead,.dead,.dead,.dead,.dead,.dead,.dead,.dead,.dead,.dead,.dead,.dead,.dead,.dead,.dead,.dead,.dead,.dead,.dead,.dead,.dead,.dead,.dead,.dead,.dead,.dead,.dead,.dead,.dead,.dead,.dead,.dead,.dead,.dead,.dead,.dead,.dead,.dead,.dead,.dead,.dead,.dead,.dead,.dead,.dead,.dead,.dead,.dead,.dead,.dead,.dead,.dead,.dead,.dead,.fn 40 [.ref 4 0,.ref 5 0],.dead,.dead,.dead,.dead,.dead,.dead,.dead,.dead,.dead,.dead,.dead,.dead,.dead,.dead]),(7,.kept 2 [.dead,.dead,.dead,.fn 40 [.ref 4 0,.ref 5 0],.dead]),(8,.blk 24 [.osl 32 (eInt .i64).sz v94.length]),(9,.loop 3 [.dead,.dead,.ref 8 0,.dead,.dead,.dead,.fn 40 [.ref 4 0,.ref 5 0],.dead,.dead,.dead,.dead,.dead,.dead] .ready none),(10,.kept 3 [.dead,.dead,.ref 8 0,.dead,.dead,.dead,.fn 40 [.ref 4 0,.ref 5 0],.dead,.dead,.dead,.dead,.dead,.dead]),(32,.blk 3 (D.flat (v94.map (eInt .i64).d))),(1000,.blk 60 (mixD aB.toEnc0 (w20 x25.1 x25.2.1 x25.2.2.1 x25.2.2.2.1 x25.2.2.2.2.1) x29 [.int .i64 x25.2.2.2.2.2.2.1,.osl 2 (eInt .i64).sz x25.2.2.2.2.2.2.2.length]))]⟩) (fun i=>i) ⟨(.sames rfl rfl),(.cons (EntW.lst rfl) (.cons (.blk rfl rfl rfl) (.cons (.blk rfl rfl rfl) (.cons (.kept rfl rfl rfl) (.cons (.kept rfl rfl rfl) (.cons (.blk rfl rfl rfl) (.cons (.loop rfl rfl rfl) (.cons (.kept rfl rfl rfl) (.cons (EntW.lst rfl) (.cons (EntW.mix aB rfl (SubC.of_eq rfl) (SubC.of_eq rfl) rfl rfl) .nil)))))))))),bB [2,4,5,6,7,8,9,10,32,1000] rfl (by decide),fun _ _=>rfl⟩ ?_
        refine lC 4 9 33 rfl rfl rfl (by decide) rfl (.cons (svI rfl) .nil) rfl rfl rfl rfl rfl rfl hO3.round hlc3 ⟨[(7,.int .i64 v93),(2,.ref 8 0)],[(2,.blk 3 (D.flat (x25.2.2.2.2.2.2.2.map (eInt .i64).d))),(4,.blk 26 [.ref 1000 0]),(5,.blk 3 [.int .i64 x1]),(6,.kept 1 [.ref 1000 0,.int .i64 a0,.dead,.dead,.dead,.dead,.dead,.dead,.dead,.dead,.dead,.dead,.dead,.dead,.dead,.dead,.dead,.dead,.dead,.dead,.dead,.dead,.dead,.dead,.dead,.dead,.dead,.dead,.dead,.dead,.dead,.dead,.dead,.dead,.dead,.dead,.dead,.dead,.dead,.dead,.dead,.dead,.dead,.dead,.dead,.dead,.dead,.dead,.dead,.dead,.dead,.dead,.dead,.dead,.dead,.dead,.fn 40 [.ref 4 0,.ref 5 0],.dead,.dead,.dead,.dead,.dead,.dead,.dead,.dead,.dead,.dead,.dead,.dead,.dead,.dead]),(7,.kept 2 [.dead,.dead,.dead,.fn 40 [.ref 4 0,.ref 5 0],.dead]),(8,.blk 24 [.osl 32 (eInt .i64).sz v94.length]),(9,.loop 3 [.dead,.dead,.ref 8 0,.dead,.dead,.dead,.fn 40 [.ref 4 0,.ref 5 0],.dead,.dead,.dead,.dead,.dead,.dead] .ready none),(10,.kept 3 [.dead,.dead,.ref 8 0,.dead,.dead,.dead,.fn 40 [.ref 4 0,.ref 5 0],.dead,.dead,.dead,.dead,.dead,.dead]),(32,.blk 3 (D.flat (v94.map (eInt .i64).d))),(33,.kept 4 [.yld 9,.ref 4 0,.dead,.dead,.dead,.int .i64 x103.next,.dead,.dead,.dead,.dead,.dead,.dead,.dead,.dead,.dead,.dead,.dead,.dead,.dead,.dead,.yld 9,.int .i64 v93,.dead,.dead,.dead]),(1000,.blk 60 (mixD aB.toEnc0 (w20 x25.1 x25.2.1 x25.2.2.1 x25.2.2.2.1 x25.2.2.2.2.1) x29 [.int .i64 x25.2.2.2.2.2.2.1,.osl 2 (eInt .i64).sz x25.2.2.2.2.2.2.2.length]))]⟩ (fun i=>i) ⟨(.sames rfl rfl),(.cons (EntW.lst rfl) (.cons (.blk rfl rfl rfl) (.cons (.blk rfl rfl rfl) (.cons (.kept rfl rfl rfl) (.cons (.kept rfl rfl rfl) (.cons (.blk rfl rfl rfl) (.cons (.loop rfl rfl rfl) (.cons (.kept rfl rfl rfl) (.cons (EntW.lst rfl) (.cons (.kept rfl rfl rfl) (.cons (EntW.mix aB rfl (SubC.of_eq rfl) (SubC.of_eq rfl) rfl rfl) .nil))))))))))),bB [2,4,5,6,7,8,9,10,32,33,1000] rfl (by decide),fun _ _=>rfl⟩ fun O4=>?_
        refine aW (aA rfl (asI rfl rfl rfl rfl) <|bL ?_)
        refine ⟨rfl,9,_,rfl,⟨[(2,.ref 8 0),(5,.int .i64 v93)],[(2,.blk 3 (D.flat (x25.2.2.2.2.2.2.2.map (eInt .i64).d))),(4,.blk 26 [.ref 1000 0]),(5,.blk 3 [.int .i64 x1]),(6,.kept 1 [.ref 1000 0,.int .i64 a0,.dead,.dead,.dead,.dead,.dead,.dead,.dead,.dead,.dead,.dead,.dead,.dead,.dead,.dead,.dead,.dead,.dead,.dead,.dead,.dead,.dead,.dead,.dead,.dead,.dead,.dead,.dead,.dead,.dead,.dead,.dead,.dead,.dead,.dead,.dead,.dead,.dead,.dead,.dead,.dead,.dead,.dead,.dead,.dead,.dead,.dead,.dead,.dead,.dead,.dead,.dead,.dead,.dead,.dead,.fn 40 [.ref 4 0,.ref 5 0],.dead,.dead,.dead,.dead,.dead,.dead,.dead,.dead,.dead,.dead,.dead,.dead,.dead,.dead]),(7,.kept 2 [.dead,.dead,.dead,.fn 40 [.ref 4 0,.ref 5 0],.dead]),(8,.blk 24 [.osl 32 (eInt .i64).sz v94.length]),(9,.loop 3 [.dead,.dead,.ref 8 0,.dead,.dead,.dead,.fn 40 [.ref 4 0,.ref 5 0],.dead,.dead,.dead,.dead,.dead,.dead] .busy none),(10,.kept 3 [.dead,.dead,.ref 8 0,.dead,.dead,.dead,.fn 40 [.ref 4 0,.ref 5 0],.dead,.dead,.dead,.dead,.dead,.dead]),(32,.blk 3 (D.flat (v94.map (eInt .i64).d))),(33,.kept 4 [.yld 9,.ref 4 0,.dead,.dead,.dead,.int .i64 x103.next,.dead,.dead,.dead,.dead,.dead,.dead,.dead,.dead,.dead,.dead,.dead,.dead,.dead,.dead,.yld 9,.int .i64 v93,.dead,.dead,.dead]),(1000,.blk 60 (mixD aB.toEnc0 (w20 x25.1 x25.2.1 x25.2.2.1 x25.2.2.2.1 x25.2.2.2.2.1) x29 [.int .i64 x25.2.2.2.2.2.2.1,.osl 2 (eInt .i64).sz x25.2.2.2.2.2.2.2.length]))]⟩,(fun i=>i),⟨(.sames rfl rfl),(.cons (EntW.lst rfl) (.cons (.blk rfl rfl rfl) (.cons (.blk rfl rfl rfl) (.cons (.kept rfl rfl rfl) (.cons (.kept rfl rfl rfl) (.cons (.blk rfl rfl rfl) (.cons (.loop rfl rfl rfl) (.cons (.kept rfl rfl rfl) (.cons (EntW.lst rfl) (.cons (.kept rfl rfl rfl) (.cons (EntW.mix aB rfl (SubC.of_eq rfl) (SubC.of_eq rfl) rfl rfl) .nil))))))))))),bB [2,4,5,6,7,8,9,10,32,33,1000] rfl (by decide),fun _ _=>rfl⟩,?_⟩
        refine bA ?_
        obtain ⟨x104,hx104,h⟩:=aS h
        refine aW (aA rfl (aK (d:=.osl _ _ _) rfl rfl (lb rfl) Try.underlying24 ag24 ti24 (by decide) (svR rfl) rfl (nle rfl) rfl) <|aA rfl (mvI rfl rfl rfl rfl) <|aA rfl (jZ (eInt .i64).toEnc0 ([v93] : (List Int)) 34 rfl rfl (lb rfl) Try.underlying24 ti3 rfl (.cons (svI rfl) .nil) rfl rfl (by decide)) <|aA rfl (iX (eInt .i64).toEnc0 35 rfl rfl (lb rfl) Try.underlying24 ti3 rfl rfl rfl rfl rfl (nS (eInt .i64).toEnc0 rfl rfl rfl) hx104) <|aA rfl (eZ (ds':=[.osl _ _ _]) rfl rfl ti24 (svR rfl) rfl (sv (d:=.osl _ _ _) rfl) rfl rfl rfl (nle rfl) rfl) <|bL ?_)
        refine bR ?_
        refine ⟨9,33,_,_,none,rfl,rfl,rfl,rfl,(by decide),⟨[(0,.yld 9),(1,.ref 4 0),(5,.int .i64 x103.next),(22,.bool true)],[(2,.blk 3 (D.flat (x25.2.2.2.2.2.2.2.map (eInt .i64).d))),(4,.blk 26 [.ref 1000 0]),(5,.blk 3 [.int .i64 x1]),(6,.kept 1 [.ref 1000 0,.int .i64 a0,.dead,.dead,.dead,.dead,.dead,.dead,.dead,.dead,.dead,.dead,.dead,.dead,.dead,.dead,.dead,.dead,.dead,.dead,.dead,.dead,.dead,.dead,.dead,.dead,.dead,.dead,.dead,.dead,.dead,.dead,.dead,.dead,.dead,.dead,.dead,.dead,.dead,.dead,.dead,.dead,.dead,.dead,.dead,.dead,.dead,.dead,.dead,.dead,.dead,.dead,.dead,.dead,.dead,.dead,.fn 40 [.ref 4 0,.ref 5 0],.dead,.dead,.dead,.dead,.dead,.dead,.dead,.dead,.dead,.dead,.dead,.dead,.dead,.dead]),(7,.kept 2 [.dead,.dead,.dead,.fn 40 [.ref 4 0,.ref 5 0],.dead]),(8,.blk 24 [.osl 35 (eInt .i64).sz x104.length]),(9,.loop 3 [.dead,.dead,.ref 8 0,.dead,.dead,.dead,.fn 40 [.ref 4 0,.ref 5 0],.dead,.dead,.dead,.dead,.dead,.dead] .ready none),(10,.kept 3 [.dead,.dead,.ref 8 0,.dead,.dead,.dead,.fn 40 [.ref 4 0,.ref 5 0],.dead,.dead,.dead,.dead,.dead,.dead]),(35,.blk 3 (D.flat (x104.map (eInt .i64).d))),(1000,.blk 60 (mixD aB.toEnc0 (w20 x25.1 x25.2.1 x25.2.2.1 x25.2.2.2.1 x25.2.2.2.2.1) x29 [.int .i64 x25.2.2.2.2.2.2.1,.osl 2 (eInt .i64).sz x25.2.2.2.2.2.2.2.length]))]⟩,(fun i=>i),⟨(.sames rfl rfl),(.cons (EntW.lst rfl) (.cons (.blk rfl rfl rfl) (.cons (.blk rfl rfl rfl) (.cons (.kept rfl rfl rfl) (.cons (.kept rfl rfl rfl) (.cons (.blk rfl rfl rfl) (.cons (.loop rfl rfl rfl) (.cons (.kept rfl rfl rfl) (.cons (EntW.lst rfl) (.cons (EntW.mix aB rfl (SubC.of_eq rfl) (SubC.of_eq rfl) rfl rfl) .nil)))))))))),bB [2,4,5,6,7,8,9,10,35,1000] rfl (by decide),fun _ _=>rfl⟩,?_⟩
        refine aA rfl (eG rfl rfl (lb rfl) (svB rfl)) <|aD ?_
        refine fD rfl rfl ?_
        refine aU ?_
        refine aL ?_
        refine aW (aA rfl (mvI rfl rfl rfl rfl) <|aA rfl (asI rfl rfl rfl rfl) <|bL ?_)
        refine bR ?_
        refine aL ⟨(n4,x103.next,x104),(fun i=>if i = 32 then 35 else i),⟨(.sames rfl rfl),(.cons (.loop rfl rfl rfl) (.cons (.blk rfl rfl rfl) (.cons (.kept rfl rfl rfl) (.cons (.kept rfl rfl rfl) (.cons (.kept rfl rfl rfl) (.cons (EntW.mix aB rfl (SubC.of_eq rfl) (SubC.of_eq rfl) rfl rfl) (.cons (.blk rfl rfl rfl) (.cons (.blk rfl rfl rfl) (.cons (EntW.lst rfl) (.cons (EntW.lst rfl) .nil)))))))))),bB [9,4,6,7,10,1000,8,5,2,35] rfl (by decide),(fun i hi=>by first | rfl | (show (if _ then _ else _) = _; (repeat' split) <;> omega))⟩,?_,?_⟩
        exact h
        exact Nat.lt_succ_self _
       ·
        replace h:=bZ h hc101
        refine dD ?_
        refine bV ?_
        refine bV ?_
        refine dE ?_
        refine ⟨.inl rfl,9,10,_,_,_,_,rfl,(by simp),rfl,rfl,⟨[(2,.ref 8 0)],[(2,.blk 3 (D.flat (x25.2.2.2.2.2.2.2.map (eInt .i64).d))),(4,.blk 26 [.ref 1000 0]),(5,.blk 3 [.int .i64 x1]),(6,.kept 1 [.ref 1000 0,.int .i64 a0,.dead,.dead,.dead,.dead,.dead,.dead,.dead,.dead,.dead,.dead,.dead,.dead,.dead,.dead,.dead,.dead,.dead,.dead,.dead,.dead,.dead,.dead,.dead,.dead,.dead,.dead,.dead,.dead,.dead,.dead,.dead,.dead,.dead,.dead,.dead,.dead,.dead,.dead,.dead,.dead,.dead,.dead,.dead,.dead,.dead,.dead,.dead,.dead,.dead,.dead,.dead,.dead,.dead,.dead,.fn 40 [.ref 4 0,.ref 5 0],.dead,.dead,.dead,.dead,.dead,.dead,.dead,.dead,.dead,.dead,.dead,.dead,.dead,.dead]),(7,.kept 2 [.dead,.dead,.dead,.fn 40 [.ref 4 0,.ref 5 0],.dead]),(8,.blk 24 [.osl 32 (eInt .i64).sz v94.length]),(32,.blk 3 (D.flat (v94.map (eInt .i64).d))),(1000,.blk 60 (mixD aB.toEnc0 (w20 x25.1 x25.2.1 x25.2.2.1 x25.2.2.2.1 x25.2.2.2.2.1) x29 [.int .i64 x25.2.2.2.2.2.2.1,.osl 2 (eInt .i64).sz x25.2.2.2.2.2.2.2.length]))]⟩,(fun i=>i),⟨(.sames rfl rfl),(.cons (EntW.lst rfl) (.cons (.blk rfl rfl rfl) (.cons (.blk rfl rfl rfl) (.cons (.kept rfl rfl rfl) (.cons (.kept rfl rfl rfl) (.cons (.blk rfl rfl rfl) (.cons (EntW.lst rfl) (.cons (EntW.mix aB rfl (SubC.of_eq rfl) (SubC.of_eq rfl) rfl rfl) .nil)))))))),bB [2,4,5,6,7,8,32,1000] rfl (by decide),fun _ _=>rfl⟩,?_⟩
        refine bR ?_
        refine aL ?_
        refine aF (aA rfl (aK (d:=.osl _ _ _) rfl rfl (lb rfl) Try.underlying24 ag24 ti24 (by decide) (svR rfl) rfl (nle rfl) rfl) <|aA rfl (aH rfl rfl (lb rfl) (sv (d:=.osl _ _ _) rfl)) <|aD ?_)
        refine bD ?_
        refine ⟨.inr rfl,7,_,[.osl 32 (eInt .i64).sz v94.length],(.cons (sv rfl) .nil),rfl,rfl,⟨[(4,.osl 32 (eInt .i64).sz v94.length)],[(2,.blk 3 (D.flat (x25.2.2.2.2.2.2.2.map (eInt .i64).d))),(4,.blk 26 [.ref 1000 0]),(5,.blk 3 [.int .i64 x1]),(6,.kept 1 [.ref 1000 0,.int .i64 a0,.dead,.dead,.dead,.dead,.dead,.dead,.dead,.dead,.dead,.dead,.dead,.dead,.dead,.dead,.dead,.dead,.dead,.dead,.dead,.dead,.dead,.dead,.dead,.dead,.dead,.dead,.dead,.dead,.dead,.dead,.dead,.dead,.dead,.dead,.dead,.dead,.dead,.dead,.dead,.dead,.dead,.dead,.dead,.dead,.dead,.dead,.dead,.dead,.dead,.dead,.dead,.dead,.dead,.dead,.fn 40 [.ref 4 0,.ref 5 0],.dead,.dead,.dead,.dead,.dead,.dead,.dead,.dead,.dead,.dead,.dead,.dead,.dead,.dead]),(32,.blk 3 (D.flat (v94.map (eInt .i64).d))),(1000,.blk 60 (mixD aB.toEnc0 (w20 x25.1 x25.2.1 x25.2.2.1 x25.2.2.2.1 x25.2.2.2.2.1) x29 [.int .i64 x25.2.2.2.2.2.2.1,.osl 2 (eInt .i64).sz x25.2.2.2.2.2.2.2.length]))]⟩,(fun i=>i),⟨(.sames rfl rfl),(.cons (EntW.lst rfl) (.cons (.blk rfl rfl rfl) (.cons (.blk rfl rfl rfl) (.cons (.kept rfl rfl rfl) (.cons (EntW.lst rfl) (.cons (EntW.mix aB rfl (SubC.of_eq rfl) (SubC.of_eq rfl) rfl rfl) .nil)))))),bB [2,4,5,6,32,1000] rfl (by decide),fun _ _=>rfl⟩,?_⟩
        refine aA rfl (aH rfl rfl (lb rfl) (sv (d:=.osl _ _ _) rfl)) <|aD ?_
        refine bD ?_
        refine ⟨.inr rfl,6,_,[.osl 32 (eInt .i64).sz v94.length],(.cons (sv rfl) .nil),rfl,rfl,⟨[(0,.ref 1000 0),(1,.int .i64 a0),(57,.osl 32 (eInt .i64).sz v94.length)],[(2,.blk 3 (D.flat (x25.2.2.2.2.2.2.2.map (eInt .i64).d))),(32,.blk 3 (D.flat (v94.map (eInt .i64).d))),(1000,.blk 60 (mixD aB.toEnc0 (w20 x25.1 x25.2.1 x25.2.2.1 x25.2.2.2.1 x25.2.2.2.2.1) x29 [.int .i64 x25.2.2.2.2.2.2.1,.osl 2 (eInt .i64).sz x25.2.2.2.2.2.2.2.length]))]⟩,(fun i=>i),⟨(.sames rfl rfl),(.cons (EntW.lst rfl) (.cons (EntW.lst rfl) (.cons (EntW.mix aB rfl (SubC.of_eq rfl) (SubC.of_eq rfl) rfl rfl) .nil))),bB [2,32,1000] rfl (by decide),fun _ _=>rfl⟩,?_⟩
        refine aA rfl (fE rfl rfl (lb rfl) Try.underlying24 (sv (d:=.osl _ _ _) rfl)) <|aA rfl (aN rfl rfl (lb rfl) (sv (d:=.int _ 0) rfl)) <|aD ?_
        refine bA ?_
        refine cV (α:=Nat × Int × Int × Int × (List aI) × Int × Int × (List aG) × Int × (List Int)) (fun z=>⟨[(0,.ref 1000 0),(1,.int .i64 a0),(57,.osl 32 (eInt .i64).sz v94.length),(58,.int .i64 (v94.length : Int)),(59,.int .i64 z.2.1)],[(1000,.blk 60 (mixD aB.toEnc0 (w20 z.2.2.1 z.2.2.2.1 z.2.2.2.2.1 z.2.2.2.2.2.1 z.2.2.2.2.2.2.1) z.2.2.2.2.2.2.2.1 [.int .i64 z.2.2.2.2.2.2.2.2.1,.osl 2 (eInt .i64).sz z.2.2.2.2.2.2.2.2.2.length])),(32,.blk 3 (D.flat (v94.map (eInt .i64).d))),(2,.blk 3 (D.flat (z.2.2.2.2.2.2.2.2.2.map (eInt .i64).d)))]⟩) (fun z=>cY a0 v94 z.1 z.2.1 z.2.2.1 z.2.2.2.1 z.2.2.2.2.1 z.2.2.2.2.2.1 z.2.2.2.2.2.2.1 z.2.2.2.2.2.2.2.1 z.2.2.2.2.2.2.2.2.1 z.2.2.2.2.2.2.2.2.2 = some r) (fun z=>z.1) (fuel,0,x25.1,x25.2.1,x25.2.2.1,x25.2.2.2.1,x25.2.2.2.2.1,x29,x25.2.2.2.2.2.2.1,x25.2.2.2.2.2.2.2) (fun i=>i) ⟨(.sames rfl rfl),(.cons (EntW.mix aB rfl (SubC.of_eq rfl) (SubC.of_eq rfl) rfl rfl) (.cons (EntW.lst rfl) (.cons (EntW.lst rfl) .nil))),bB [1000,32,2] rfl (by decide),fun _ _=>rfl⟩ ?_ ?_
        ·exact h
        ·
         rintro ⟨n5,v114,v115,v116,v117,v118,v119,v120,v121,v122⟩ h
         cases n5 with
         | zero=>exact absurd h (by unfold cY; exact nofun)
         | succ n5 =>
          unfold cY at h
          obtain ⟨x132,hx132,h⟩:=aR h
          refine aF (aA rfl (aM rfl rfl (lb rfl) (svI rfl) (svI rfl) rfl hx132) <|aD ?_)
          refine aT ?_
          refine aX (b:=_) rfl (fun hc133=>?_) (fun hc133=>?_)
          ·
           replace h:=bY h hc133
           refine aU ?_
           refine aL ?_
           refine aT ?_
           refine bA ?_
           obtain ⟨x134,hx134,h⟩:=aS h
           obtain ⟨x135,hx135,h⟩:=aS h
           refine aF (aA rfl (gP (eInt .i64).toEnc0 rfl rfl (lb rfl) Try.underlying24 ti3 (sv (d:=.osl _ _ _) rfl) rfl (svI rfl) hx134) <|aA rfl (fO (eInt .i64).toEnc0 (d:=.int _ _) rfl rfl (lb rfl) Try.underlying3 ag3 ti3 (by decide) (svR rfl) rfl hx135 (nle rfl) rfl) <|aA rfl (asI rfl rfl rfl rfl) <|aD ?_)
           obtain ⟨x136,hx136,h⟩:=aR h
           refine aF (aA rfl (mvI rfl rfl rfl rfl) <|aA rfl (mvI rfl rfl rfl rfl) <|aA rfl (aM rfl rfl (lb rfl) (svI rfl) (svI rfl) rfl hx136) <|aD ?_)
           refine aX (b:=_) rfl (fun hc137=>?_) (fun hc137=>?_)
           ·
            replace h:=bY h hc137
            obtain ⟨x138,hx138,h⟩:=aS h
            refine aW (aA rfl (mvR rfl rfl rfl rfl) <|aA rfl (mvI rfl rfl rfl rfl) <|aA rfl (mvI rfl rfl rfl rfl) <|aA rfl (bH (r':=.tuple []) (H1':=[(1000,.blk 60 (mixD aB.toEnc0 (w20 x138.1 x138.2.1 x138.2.2.1 x138.2.2.2.1 x138.2.2.2.2.1) x138.2.2.2.2.2.1 [.int .i64 x138.2.2.2.2.2.2.1,.osl 33 (eInt .i64).sz x138.2.2.2.2.2.2.2.length])),(33,.blk 3 (D.flat (x138.2.2.2.2.2.2.2.map (eInt .i64).d)))]) 33 [1000,2] rfl rfl (lb rfl) cl46 (.cons (svR rfl) (.cons (svI rfl) (.cons (svI rfl) .nil))) rfl rfl ⟨rfl,rfl,by decide,rfl,List.forall_mem_cons.2 ⟨⟨rfl,rfl,(eP aB rfl rfl rfl),(bF aB rfl rfl)⟩,List.forall_mem_cons.2 ⟨⟨rfl,rfl,(dY (eInt .i64) rfl),(aY (eInt .i64))⟩,List.forall_mem_nil _⟩⟩⟩ (gB _ _ _ _ _ _ _ _ _ _ _ hx138) rfl rfl (List.forall_mem_cons.2 ⟨⟨rfl,(bF aB rfl rfl)⟩,List.forall_mem_cons.2 ⟨⟨rfl,(aY (eInt .i64))⟩,List.forall_mem_nil _⟩⟩) (by simp only [List.map_cons,List.map_nil,Ent.ren,bC,bG,bK]; rfl)) <|bL ?_)
            refine bR ?_
            refine aL ?_
            obtain ⟨x139,hx139,h⟩:=aR h
            refine aW (aA rfl (cQ rfl rfl (lb rfl) (svI rfl) (sv (d:=.int _ 1) rfl) rfl hx139) <|aA rfl (mvI rfl rfl rfl rfl) <|bL ?_)
            refine aL ⟨(n5,x139,x138.1,x138.2.1,x138.2.2.1,x138.2.2.2.1,x138.2.2.2.2.1,x138.2.2.2.2.2.1,x138.2.2.2.2.2.2.1,x138.2.2.2.2.2.2.2),(fun i=>if i = 2 then 33 else i),⟨(.sames rfl rfl),(.cons (EntW.mix aB rfl (SubC.of_eq rfl) (SubC.of_eq rfl) rfl rfl) (.cons (EntW.lst rfl) (.cons (EntW.lst rfl) .nil))),bB [1000,32,33] rfl (by decide),(fun i hi=>by first | rfl | (show (if _ then _ else _) = _; (repeat' split) <;> omega))⟩,?_,?_⟩
            exact h
            exact Nat.lt_succ_self _
           ·
            replace h:=bZ h hc137
            refine aU ?_
            refine bR ?_
            refine aL ?_
            obtain ⟨x140,hx140,h⟩:=aR h
            refine aW (aA rfl (cQ rfl rfl (lb rfl) (svI rfl) (sv (d:=.int _ 1) rfl) rfl hx140) <|aA rfl (mvI rfl rfl rfl rfl) <|bL ?_)
            refine aL ⟨(n5,x140,v115,v116,v117,v118,v119,v120,v121,v122),(fun i=>i),⟨(.sames rfl rfl),(.cons (EntW.mix aB rfl (SubC.of_eq rfl) (SubC.of_eq rfl) rfl rfl) (.cons (EntW.lst rfl) (.cons (EntW.lst rfl) .nil))),bB [1000,32,2] rfl (by decide),fun _ _=>rfl⟩,?_,?_⟩
            exact h
            exact Nat.lt_succ_self _
          ·
           replace h:=bZ h hc133
           refine dD ?_
           refine bV ?_
           refine bV ?_
           refine dE ?_
           obtain rfl:=Option.some.inj h
           refine ⟨.inl rfl,(fun i=>if i = 0 then 2 else i),⟨.nil,(.cons (EntW.mix aB rfl (SubC.of_eq rfl) (SubC.of_eq rfl) rfl rfl) (.cons (EntW.lst rfl) .nil)),bB [1000,2] rfl (by decide),(fun i hi=>by first | rfl | (show (if _ then _ else _) = _; (repeat' split) <;> omega))⟩,.nil,rfl⟩
end Go.Proofs.Ytdnjagkihgjpcaa
