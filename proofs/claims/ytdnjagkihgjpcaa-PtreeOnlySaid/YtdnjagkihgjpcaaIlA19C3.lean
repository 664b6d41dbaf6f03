/-
  A part of the proof: rules and plain facts. No condition.
-/
import Derived.Test.YtdnjagkihgjpcaaProg
import Derived.KernelRfl
import Derived.Test.YtdnjagkihgjpcaaIlMb
import Derived.Test.YtdnjagkihgjpcaaIlIt19
import Derived.Test.YtdnjagkihgjpcaaIlA19C2
set_option linter.all false
set_option maxRecDepth 8000
set_option maxHeartbeats 2000000
open Go Go.IL Go.Fn Go.Proofs
namespace Go.Proofs.Ytdnjagkihgjpcaa
theorem ti5 : TI Try.prog 5 (some (.int .u8 0)) 1 1:=by unfold TI; kernel_rfl
theorem ti40 : TI Try.prog 40 (some (.agg #[.int .i64 0,.int .i64 0,.int .i64 0,.bool false])) 4 32:=by unfold TI; kernel_rfl
theorem ti50 : TI Try.prog 50 (some (.agg #[.int .i64 0,.int .i64 0,.int .i64 0,.bool false])) 4 32:=by unfold TI; kernel_rfl
theorem ti60 : TI Try.prog 60 (some (.agg #[.int .i64 0,.int .i64 0,.slice none 0 0,.int .i64 0,.int .i64 0,.int .i64 0,.int .i64 0,.int .i64 0,.int .i64 0,.int .i64 0,.bool false,.int .i64 0,.int .i64 0,.int .i64 0,.int .i64 0,.int .i64 0,.bool false,.int .i64 0,.int .i64 0,.int .i64 0,.int .i64 0,.int .i64 0,.bool false,.int .i64 0,.int .i64 0,.int .i64 0,.int .i64 0,.int .i64 0,.bool false,.int .i64 0,.int .i64 0,.int .i64 0,.int .i64 0,.int .i64 0,.bool false,.int .i64 0,.int .i64 0,.int .i64 0,.int .i64 0,.int .i64 0,.bool false,.int .i64 0,.int .i64 0,.int .i64 0,.int .i64 0,.int .i64 0,.bool false,.int .i64 0,.int .i64 0,.int .i64 0,.int .i64 0,.int .i64 0,.bool false,.int .i64 0,.int .i64 0,.int .i64 0,.int .i64 0,.int .i64 0,.bool false,.int .i64 0,.int .i64 0,.int .i64 0,.int .i64 0,.int .i64 0,.bool false,.int .i64 0,.int .i64 0,.int .i64 0,.int .i64 0,.int .i64 0,.bool false,.int .i64 0,.int .i64 0,.int .i64 0,.int .i64 0,.int .i64 0,.bool false,.int .i64 0,.int .i64 0,.int .i64 0,.int .i64 0,.int .i64 0,.bool false,.int .i64 0,.int .i64 0,.int .i64 0,.int .i64 0,.int .i64 0,.bool false,.int .i64 0,.int .i64 0,.int .i64 0,.int .i64 0,.int .i64 0,.bool false,.int .i64 0,.int .i64 0,.int .i64 0,.int .i64 0,.int .i64 0,.bool false,.int .i64 0,.int .i64 0,.int .i64 0,.int .i64 0,.int .i64 0,.bool false,.int .i64 0,.int .i64 0,.int .i64 0,.int .i64 0,.int .i64 0,.bool false,.int .i64 0,.int .i64 0,.int .i64 0,.int .i64 0,.int .i64 0,.bool false,.int .i64 0,.int .i64 0,.int .i64 0,.int .i64 0,.int .i64 0,.bool false,.int .i64 0,.int .i64 0,.int .i64 0,.int .i64 0,.int .i64 0,.bool false,.int .i64 0,.int .i64 0,.int .i64 0,.int .i64 0,.int .i64 0,.bool false,.int .i64 0,.int .i64 0,.int .i64 0,.int .i64 0,.int .i64 0,.bool false,.int .i64 0,.int .i64 0,.int .i64 0,.int .i64 0,.int .i64 0,.bool false,.int .i64 0,.int .i64 0,.int .i64 0,.int .i64 0,.int .i64 0,.bool false,.int .i64 0,.int .i64 0,.int .i64 0,.int .i64 0,.int .i64 0,.bool false,.int .i64 0,.int .i64 0,.int .i64 0,.int .i64 0,.int .i64 0,.bool false,.int .i64 0,.int .i64 0,.int .i64 0,.int .i64 0,.int .i64 0,.bool false,.int .i64 0,.int .i64 0,.int .i64 0,.int .i64 0,.int .i64 0,.bool false,.int .i64 0,.int .i64 0,.int .i64 0,.int .i64 0,.int .i64 0,.bool false,.int .i64 0,.int .i64 0,.int .i64 0,.int .i64 0,.int .i64 0,.bool false,.int .i64 0,.int .i64 0,.int .i64 0,.int .i64 0,.int .i64 0,.bool false,.int .i64 0,.int .i64 0,.int .i64 0,.int .i64 0,.int .i64 0,.bool false,.int .i64 0,.int .i64 0,.int .i64 0,.int .i64 0,.int .i64 0,.bool false,.int .i64 0,.int .i64 0,.int .i64 0,.int .i64 0,.int .i64 0,.bool false,.int .i64 0,.int .i64 0,.int .i64 0,.int .i64 0,.int .i64 0,.bool false,.int .i64 0,.int .i64 0,.int .i64 0,.int .i64 0,.int .i64 0,.bool false,.int .i64 0,.int .i64 0,.int .i64 0,.int .i64 0,.int .i64 0,.bool false,.int .i64 0,.int .i64 0,.int .i64 0,.int .i64 0,.int .i64 0,.bool false,.int .i64 0,.int .i64 0,.int .i64 0,.int .i64 0,.int .i64 0,.bool false,.int .i64 0,.int .i64 0,.int .i64 0,.int .i64 0,.int .i64 0,.bool false,.int .i64 0,.int .i64 0,.int .i64 0,.int .i64 0,.int .i64 0,.bool false,.int .i64 0,.int .i64 0,.int .i64 0,.int .i64 0,.int .i64 0,.bool false,.int .i64 0,.int .i64 0,.int .i64 0,.int .i64 0,.int .i64 0,.bool false,.int .i64 0,.int .i64 0,.int .i64 0,.int .i64 0,.int .i64 0,.bool false,.int .i64 0,.int .i64 0,.int .i64 0,.int .i64 0,.int .i64 0,.bool false,.int .i64 0,.int .i64 0,.int .i64 0,.int .i64 0,.int .i64 0,.bool false,.int .i64 0,.int .i64 0,.int .i64 0,.int .i64 0,.int .i64 0,.bool false,.int .i64 0,.int .i64 0,.int .i64 0,.int .i64 0,.int .i64 0,.bool false,.int .i64 0,.int .i64 0,.int .i64 0,.int .i64 0,.int .i64 0,.bool false,.int .i64 0,.int .i64 0,.int .i64 0,.int .i64 0,.int .i64 0,.bool false,.int .i64 0,.int .i64 0,.int .i64 0,.int .i64 0,.int .i64 0,.bool false,.int .i64 0,.int .i64 0,.int .i64 0,.int .i64 0,.int .i64 0,.bool false,.int .i64 0,.int .i64 0,.int .i64 0,.int .i64 0,.int .i64 0,.bool false,.int .i64 0,.int .i64 0,.int .i64 0,.int .i64 0,.int .i64 0,.bool false,.int .i64 0,.int .i64 0,.int .i64 0,.int .i64 0,.int .i64 0,.bool false,.int .i64 0,.int .i64 0,.int .i64 0,.int .i64 0,.int .i64 0,.bool false,.int .i64 0,.int .i64 0,.int .i64 0,.int .i64 0,.int .i64 0,.bool false,.int .i64 0,.int .i64 0,.int .i64 0,.int .i64 0,.int .i64 0,.bool false,.int .i64 0,.int .i64 0,.int .i64 0,.int .i64 0,.int .i64 0,.bool false,.int .i64 0,.int .i64 0,.int .i64 0,.int .i64 0,.int .i64 0,.bool false,.int .i64 0,.int .i64 0,.int .i64 0,.int .i64 0,.int .i64 0,.bool false,.int .i64 0,.int .i64 0,.int .i64 0,.int .i64 0,.int .i64 0,.bool false,.int .i64 0,.int .i64 0,.int .i64 0,.int .i64 0,.int .i64 0,.bool false,.int .i64 0,.slice none 0 0])) 391 3160:=by unfold TI; kernel_rfl
theorem ti68 : TI Try.prog 68 (some (.agg #[.bool false,.bool false,.bool false,.bool false,.bool false,.bool false,.bool false,.bool false,.bool false,.bool false,.bool false,.bool false,.bool false,.bool false,.bool false,.bool false,.bool false,.bool false,.bool false,.bool false,.bool false,.bool false,.bool false,.bool false,.bool false,.bool false,.bool false,.bool false,.bool false,.bool false,.bool false,.bool false,.bool false,.bool false,.bool false,.bool false,.bool false,.bool false,.bool false,.bool false,.bool false,.bool false,.bool false,.bool false,.bool false,.bool false,.bool false,.bool false,.bool false,.bool false,.bool false,.bool false,.bool false,.bool false,.bool false,.bool false,.bool false,.bool false,.bool false,.bool false,.bool false,.bool false,.bool false,.bool false])) 64 64:=by unfold TI; kernel_rfl
theorem ag5 : iM Try.prog 5 = false:=by kernel_rfl
theorem ag40 : iM Try.prog 40 = true:=by kernel_rfl
theorem ag50 : iM Try.prog 50 = true:=by kernel_rfl
theorem ag57 : iM Try.prog 57 = true:=by kernel_rfl
theorem ag68 : iM Try.prog 68 = true:=by kernel_rfl
theorem ag72 : iM Try.prog 72 = true:=by kernel_rfl
theorem pl40 : ∀ w,(Array.mapM (m:=Sem) (fun (f : Field)=>Functor.map (Prod.mk f.offset) (sizeOf f.type)) (fieldsOf Try.prog 40)).run Try.prog w = .ok #[(0,1),(1,1),(2,1),(3,1)] w:=fun w=>by kernel_rfl
theorem pl50 : ∀ w,(Array.mapM (m:=Sem) (fun (f : Field)=>Functor.map (Prod.mk f.offset) (sizeOf f.type)) (fieldsOf Try.prog 50)).run Try.prog w = .ok #[(0,1),(1,1),(2,1),(3,1)] w:=fun w=>by kernel_rfl
theorem pl57 : ∀ w,(Array.mapM (m:=Sem) (fun (f : Field)=>Functor.map (Prod.mk f.offset) (sizeOf f.type)) (fieldsOf Try.prog 57)).run Try.prog w = .ok #[(0,1),(1,1),(2,1),(3,1),(4,1),(5,1)] w:=fun w=>by kernel_rfl
theorem pl60 : ∀ w,(Array.mapM (m:=Sem) (fun (f : Field)=>Functor.map (Prod.mk f.offset) (sizeOf f.type)) (fieldsOf Try.prog 60)).run Try.prog w = .ok #[(0,1),(1,1),(2,3),(5,384),(389,1),(390,1)] w:=fun w=>by kernel_rfl
theorem st50 : Try.prog.stoodInHeld 50 = false ∧ Try.prog.eqGuardType Try.prog.depth 50 = false:=⟨by kernel_rfl,by kernel_rfl⟩
theorem cl9 : bQ Try.prog 9:=⟨Try.f9,Try.func9,rfl,rfl⟩
theorem cl10 : bQ Try.prog 10:=⟨Try.f10,Try.func10,rfl,rfl⟩
theorem cl11 : bQ Try.prog 11:=⟨Try.f11,Try.func11,rfl,rfl⟩
theorem cl12 : bQ Try.prog 12:=⟨Try.f12,Try.func12,rfl,rfl⟩
theorem cl13 : bQ Try.prog 13:=⟨Try.f13,Try.func13,rfl,rfl⟩
theorem cl14 : bQ Try.prog 14:=⟨Try.f14,Try.func14,rfl,rfl⟩
theorem cl15 : bQ Try.prog 15:=⟨Try.f15,Try.func15,rfl,rfl⟩
theorem cl17 : bQ Try.prog 17:=⟨Try.f17,Try.func17,rfl,rfl⟩
theorem cl18 : bQ Try.prog 18:=⟨Try.f18,Try.func18,rfl,rfl⟩
theorem cl19 : bQ Try.prog 19:=⟨Try.f19,Try.func19,rfl,rfl⟩
theorem cl20 : bQ Try.prog 20:=⟨Try.f20,Try.func20,rfl,rfl⟩
theorem cl21 : bQ Try.prog 21:=⟨Try.f21,Try.func21,rfl,rfl⟩
theorem cl22 : bQ Try.prog 22:=⟨Try.f22,Try.func22,rfl,rfl⟩
theorem cl23 : bQ Try.prog 23:=⟨Try.f23,Try.func23,rfl,rfl⟩
theorem cl25 : bQ Try.prog 25:=⟨Try.f25,Try.func25,rfl,rfl⟩
theorem cl26 : bQ Try.prog 26:=⟨Try.f26,Try.func26,rfl,rfl⟩
theorem cl30 : bQ Try.prog 30:=⟨Try.f30,Try.func30,rfl,rfl⟩
theorem cl32 : bQ Try.prog 32:=⟨Try.f32,Try.func32,rfl,rfl⟩
theorem cl33 : bQ Try.prog 33:=⟨Try.f33,Try.func33,rfl,rfl⟩
theorem cl34 : bQ Try.prog 34:=⟨Try.f34,Try.func34,rfl,rfl⟩
theorem cl35 : bQ Try.prog 35:=⟨Try.f35,Try.func35,rfl,rfl⟩
theorem cl36 : bQ Try.prog 36:=⟨Try.f36,Try.func36,rfl,rfl⟩
theorem cl43 : bQ Try.prog 43:=⟨Try.f43,Try.func43,rfl,rfl⟩
def la72:=LA.mk Try.underlying72 ag72 ti72 (by decide)


theorem kZ (a0 : Int) (a1 : eW) (a2 : Int) (a3 : Int) (a4 : (List aI)) (a5 : Int) (a6 : Int) (a7 : (List aG)) (a8 : Int) (a9 : (List Int)) (r : (Int × Int × Int × (List aI) × Int × Int × (List aG) × Int × (List Int))) (h : fZ a0 a1 a2 a3 a4 a5 a6 a7 a8 a9 = some r) : FnH Try.prog 34 [.ref 1000 0,.int .i64 a0,.agg (v4 a1)] [(1000,.blk 60 (mixD aB.toEnc0 (w20 a2 a3 a4 a5 a6) a7 [.int .i64 a8,.osl 1001 (eInt .i64).sz a9.length])),(1001,.blk 3 (D.flat (a9.map (eInt .i64).d)))] (.int .i64 r.1) [(1000,.blk 60 (mixD aB.toEnc0 (w20 r.2.1 r.2.2.1 r.2.2.2.1 r.2.2.2.2.1 r.2.2.2.2.2.1) r.2.2.2.2.2.2.1 [.int .i64 r.2.2.2.2.2.2.2.1,.osl 0 (eInt .i64).sz r.2.2.2.2.2.2.2.2.length])),(0,.blk 3 (D.flat (r.2.2.2.2.2.2.2.2.map (eInt .i64).d)))]:=by
 refine dS (rs:=[.int .i64 r.1]) Try.func34 rfl Try.ntmps34 (nle rfl) fun O hO=>?_
 show IWP _ _ _ _ ⟨[(0,.ref 1000 0),(1,.int .i64 a0),(2,.agg (v4 a1))],[(1000,.blk 60 (mixD aB.toEnc0 (w20 a2 a3 a4 a5 a6) a7 [.int .i64 a8,.osl 1001 (eInt .i64).sz a9.length])),(1001,.blk 3 (D.flat (a9.map (eInt .i64).d)))]⟩ _
 unfold fZ at h
 refine aF (aA rfl (eD (cs:=q12) 0 rfl rfl (lb rfl) rfl (svA q12 rfl) rfl rfl) <|aA rfl (aH rfl rfl (lb rfl) (sv (d:=.int _ 0) rfl)) <|aD ?_)
 refine jM (α:=Int × Int × (List aI) × Int × Int × (List aG) × Int × (List Int)) (fun z=>⟨[(0,.ref 1000 0),(1,.int .i64 a0),(5,.ref 0 0)],[(1000,.blk 60 (mixD aB.toEnc0 (w20 z.1 z.2.1 z.2.2.1 z.2.2.2.1 z.2.2.2.2.1) z.2.2.2.2.2.1 [.int .i64 z.2.2.2.2.2.2.1,.osl 1 (eInt .i64).sz z.2.2.2.2.2.2.2.length])),(0,.blk 72 (v4 a1)),(1,.blk 3 (D.flat (z.2.2.2.2.2.2.2.map (eInt .i64).d)))]⟩) (fun z=>eO a0 a1 z.1 z.2.1 z.2.2.1 z.2.2.2.1 z.2.2.2.2.1 z.2.2.2.2.2.1 z.2.2.2.2.2.2.1 z.2.2.2.2.2.2.2 = some r) ?_ ?_
 ·
  obtain ⟨x27,hx27,h⟩:=aS h
  obtain ⟨x28,hx28,h⟩:=aR h
  refine lF rfl [⟨[0],[],[(10,.ref 1000 0)],[]⟩,
   ⟨[10],[1000,1001],[(11,.int .i64 x27)],[]⟩,
   ⟨[0],[],[(12,.ref 1000 0)],[]⟩,
   ⟨[12],[],[(13,.ref 1000 0)],[]⟩,
   ⟨[13],[],[(14,.ref 1000 0)],[]⟩,
   ⟨[14],[1000],[(15,.int .i64 a2)],[]⟩,
   ⟨[11,15],[],[(16,.bool x28)],[]⟩] rfl ?_ (by kernel_rfl) ?_
  ·refine .cons (lop rfl rfl fun S hA=>(aN rfl rfl (lb rfl) (svaR hA rfl rfl))) ?_
   refine .cons (lop rfl rfl fun S hA=>(fA (r':=.int .i64 x27) (V:=[(1000,.blk 60 (mixD aB.toEnc0 (w20 a2 a3 a4 a5 a6) a7 [.int .i64 a8,.osl 1001 (eInt .i64).sz a9.length])),(1001,.blk 3 (D.flat (a9.map (eInt .i64).d)))]) 1 [1000,1001] rfl rfl (lb rfl) cl14 (.cons (svaR hA rfl rfl) .nil) rfl rfl rfl ⟨by decide,rfl,List.forall_mem_cons.2 ⟨⟨rfl,rfl,(eP aB (agi hA rfl rfl) rfl rfl),(bF aB rfl rfl)⟩,List.forall_mem_cons.2 ⟨⟨rfl,rfl,(dY (eInt .i64) (agi hA rfl rfl)),(aY (eInt .i64))⟩,List.forall_mem_nil _⟩⟩⟩ (gN _ _ _ _ _ _ _ _ _ hx27) rfl rfl (List.forall_mem_cons.2 ⟨⟨rfl,(bF aB rfl rfl)⟩,List.forall_mem_cons.2 ⟨⟨rfl,(aY (eInt .i64))⟩,List.forall_mem_nil _⟩⟩) (by simp only [List.map_cons,List.map_nil,Ent.ren,bC,bG,bK]; rfl) (List.forall_mem_cons.2 ⟨(agi hA rfl rfl),List.forall_mem_cons.2 ⟨(agi hA rfl rfl),List.forall_mem_nil _⟩⟩) rfl)) ?_
   refine .cons (lop rfl rfl fun S hA=>(aN rfl rfl (lb rfl) (svaR hA rfl rfl))) ?_
   refine .cons (lop rfl rfl fun S hA=>(aJ rfl rfl (lb rfl) (svaR hA rfl rfl))) ?_
   refine .cons (lop rfl rfl fun S hA=>(aV rfl rfl (lb rfl) Try.underlying60 rfl ti3 (by decide) (svaR hA rfl rfl) (off':=0) rfl)) ?_
   refine .cons (lop rfl rfl fun S hA=>(nO aB.toEnc0 (d:=.int _ _) rfl rfl (lb rfl) Try.underlying3 ag3 ti3 (by decide) (svaR hA rfl rfl) (agi hA rfl rfl) (nle rfl) (by rfl))) ?_
   refine .cons (lop rfl rfl fun S hA=>(aM rfl rfl (lb rfl) (svaI hA rfl rfl) (svaI hA rfl rfl) rfl hx28)) ?_
   exact .nil
  refine aX (b:=_) rfl (fun hc29=>?_) (fun hc29=>?_)
  ·
   replace h:=bY h hc29
   refine aT ?_
   obtain ⟨hk30,h⟩:=jN h
   obtain ⟨x31,hx31,h⟩:=aR h
   refine aF (aA rfl (mvR rfl rfl rfl rfl) <|aA rfl (aJ rfl rfl (lb rfl) (svR rfl)) <|aA rfl (faR 390 rfl rfl rfl Try.underlying60 rfl ti24 (lb rfl) rfl rfl) <|aA rfl (fG aB.toEnc0 (d:=.osl _ _ _) (n:=64) (k:=1) rfl rfl (lb rfl) Try.underlying24 ag24 ti24 (by decide) (svR rfl) rfl hk30 (by rfl) (nle rfl) (by rfl)) <|aA rfl (fE rfl rfl (lb rfl) Try.underlying24 (sv (d:=.osl _ _ _) rfl)) <|aA rfl (aM rfl rfl (lb rfl) (svI rfl) (sv (d:=.int _ 0) rfl) rfl hx31) <|aD ?_)
   refine aX (b:=_) rfl (fun hc32=>?_) (fun hc32=>?_)
   ·
    replace h:=bY h hc32
    refine aF (aA rfl (aH rfl rfl (lb rfl) (sv (d:=.int _ 7) rfl)) <|aD ?_)
    refine bD ?_
    refine bS ?_
    refine bS ?_
    obtain rfl:=Option.some.inj h
    refine ⟨.inr rfl,(fun i=>if i = 0 then 1001 else i),⟨.nil,(.cons (EntW.mix aB rfl (SubC.of_eq rfl) (SubC.of_eq rfl) rfl rfl) (.cons (EntW.lst rfl) .nil)),bB [1000,1001] rfl (by decide),(fun i hi=>by first | rfl | (show (if _ then _ else _) = _; (repeat' split) <;> omega))⟩,(.cons (sv rfl) .nil),rfl⟩
   ·
    replace h:=bZ h hc32
    refine aU ?_
    refine aL ?_
    obtain ⟨x33,hx33,h⟩:=aS h
    obtain ⟨x34,hx34,h⟩:=aS h
    obtain ⟨x35,hx35,h⟩:=aS h
    refine aW (aA rfl (mvR rfl rfl rfl rfl) <|aA rfl (mvR rfl rfl rfl rfl) <|aA rfl (aJ rfl rfl (lb rfl) (svR rfl)) <|aA rfl (faR 390 rfl rfl rfl Try.underlying60 rfl ti24 (lb rfl) rfl rfl) <|aA rfl (fG aB.toEnc0 (d:=.osl _ _ _) (n:=64) (k:=1) rfl rfl (lb rfl) Try.underlying24 ag24 ti24 (by decide) (svR rfl) rfl hk30 (by rfl) (nle rfl) (by rfl)) <|aA rfl (gP (eInt .i64).toEnc0 rfl rfl (lb rfl) Try.underlying24 ti3 (sv (d:=.osl _ _ _) rfl) rfl (sv (d:=.int _ 0) rfl) hx33) <|aA rfl (fO (eInt .i64).toEnc0 (d:=.int _ _) rfl rfl (lb rfl) Try.underlying3 ag3 ti3 (by decide) (svR rfl) rfl hx34 (nle rfl) rfl) <|aA rfl (bH (r':=.tuple []) (H1':=[(1000,.blk 60 (mixD aB.toEnc0 (w20 x35.1 x35.2.1 x35.2.2.1 x35.2.2.2.1 x35.2.2.2.2.1) x35.2.2.2.2.2.1 [.int .i64 x35.2.2.2.2.2.2.1,.osl 1 (eInt .i64).sz x35.2.2.2.2.2.2.2.length])),(1,.blk 3 (D.flat (x35.2.2.2.2.2.2.2.map (eInt .i64).d)))]) 1 [1000,1001] rfl rfl (lb rfl) cl36 (.cons (svR rfl) (.cons (svI rfl) .nil)) rfl rfl ⟨rfl,rfl,by decide,rfl,List.forall_mem_cons.2 ⟨⟨rfl,rfl,(eP aB rfl rfl rfl),(bF aB rfl rfl)⟩,List.forall_mem_cons.2 ⟨⟨rfl,rfl,(dY (eInt .i64) rfl),(aY (eInt .i64))⟩,List.forall_mem_nil _⟩⟩⟩ (kI _ _ _ _ _ _ _ _ _ _ hx35) rfl rfl (List.forall_mem_cons.2 ⟨⟨rfl,(bF aB rfl rfl)⟩,List.forall_mem_cons.2 ⟨⟨rfl,(aY (eInt .i64))⟩,List.forall_mem_nil _⟩⟩) (by simp only [List.map_cons,List.map_nil,Ent.ren,bC,bG,bK]; rfl)) <|bL ?_)
    refine aL ⟨(x35.1,x35.2.1,x35.2.2.1,x35.2.2.2.1,x35.2.2.2.2.1,x35.2.2.2.2.2.1,x35.2.2.2.2.2.2.1,x35.2.2.2.2.2.2.2),(fun i=>i),⟨(.sames rfl rfl),(.cons (EntW.mix aB rfl (SubC.of_eq rfl) (SubC.of_eq rfl) rfl rfl) (.cons (.blk rfl rfl rfl) (.cons (EntW.lst rfl) .nil))),bB [1000,0,1] rfl (by decide),fun _ _=>rfl⟩,?_⟩
    exact h
  ·
   replace h:=bZ h hc29
   refine aU ?_
   refine aL ⟨(a2,a3,a4,a5,a6,a7,a8,a9),(fun i=>if i = 1 then 1001 else i),⟨(.sames rfl rfl),(.cons (EntW.mix aB rfl (SubC.of_eq rfl) (SubC.of_eq rfl) rfl rfl) (.cons (.blk rfl rfl rfl) (.cons (EntW.lst rfl) .nil))),bB [1000,0,1001] rfl (by decide),(fun i hi=>by first | rfl | (show (if _ then _ else _) = _; (repeat' split) <;> omega))⟩,?_⟩
   exact h
 ·
  rintro ⟨v10,v11,v12,v13,v14,v15,v16,v17⟩ h
  unfold eO at h
  obtain ⟨x18,hx18,h⟩:=aS h
  refine aF (aA rfl (mvR rfl rfl rfl rfl) <|aA rfl (aJ rfl rfl (lb rfl) (svR rfl)) <|aA rfl (faR 2 rfl rfl rfl Try.underlying60 rfl ti55 (lb rfl) rfl rfl) <|aA rfl (lT aB.toEnc0 (cs:=q10) rfl rfl (lb rfl) Try.underlying55 ag55 ti55 (by decide) (svR rfl) rfl (nle rfl) (by rfl)) <|aA rfl (mvI rfl rfl rfl rfl) <|aA rfl (cA (r:=.tuple q18) rfl rfl (lb rfl) cl43 (.cons (svA q10 rfl) (.cons (svI rfl) .nil)) rfl (tK _ _ _ hx18)) <|aA rfl (aN rfl rfl (lb rfl) (sv (d:=.tuple q18) rfl)) <|aA rfl (dR (d:=.agg q10) rfl rfl (lb rfl) (sv (d:=.tuple q18) rfl) rfl) <|aA rfl (dR (d:=.int _ _) rfl rfl (lb rfl) (sv (d:=.tuple q18) rfl) rfl) <|aA rfl (dR (d:=.int _ _) rfl rfl (lb rfl) (sv (d:=.tuple q18) rfl) rfl) <|aA rfl (gE (cs:=q14) (cs':=[.slice false (([] : List aI).map aP.d),.int .i64 0,.int .i64 0]) 2 rfl rfl (lb rfl) rfl ti55 rfl rfl (.cons (.nils _) (.all _))) <|aA rfl (stA q10 q10 ti55 rfl rfl rfl rfl rfl rfl rfl rfl (nle rfl) rfl) <|aA rfl (asI rfl rfl rfl rfl) <|aA rfl (asI rfl rfl rfl rfl) <|aD ?_)
  refine aT ?_
  obtain ⟨x19,hx19,h⟩:=aR h
  refine aF (aA rfl (mvI rfl rfl rfl rfl) <|aA rfl (aM rfl rfl (lb rfl) (svI rfl) (sv (d:=.int _ 0) rfl) rfl hx19) <|aD ?_)
  refine aX (b:=_) rfl (fun hc20=>?_) (fun hc20=>?_)
  ·
   replace h:=bY h hc20
   refine aF (aA rfl (mvI rfl rfl rfl rfl) <|aA rfl (asI rfl rfl rfl rfl) <|aD ?_)
   refine bD ?_
   refine bS ?_
   obtain rfl:=Option.some.inj h
   refine ⟨.inr rfl,(fun i=>if i = 0 then 1 else i),⟨.nil,(.cons (EntW.mix aB rfl (SubC.of_eq rfl) (SubC.of_eq rfl) rfl rfl) (.cons (EntW.lst rfl) .nil)),bB [1000,1] rfl (by decide),(fun i hi=>by first | rfl | (show (if _ then _ else _) = _; (repeat' split) <;> omega))⟩,(.cons (sv rfl) .nil),rfl⟩
  ·
   replace h:=bZ h hc20
   refine aU ?_
   refine aL ?_
   refine aF (aA rfl (mvR rfl rfl rfl rfl) <|aA rfl (lra q10 la55 rfl rfl rfl rfl rfl (nle rfl) rfl) <|aA rfl (aJ rfl rfl (lb rfl) (svR rfl)) <|aA rfl (faR 2 rfl rfl rfl Try.underlying60 rfl ti55 (lb rfl) rfl rfl) <|aA rfl (oO aB.toEnc0 (pre:=q7) (pre':=q7) rfl rfl ti55 (svR rfl) rfl (svA q10 rfl) rfl rfl rfl (nle rfl) rfl) <|aD ?_)
   obtain ⟨x21,hx21,h⟩:=aS h
   obtain ⟨hk22,h⟩:=jN h
   obtain ⟨x23,hx23,h⟩:=aS h
   obtain ⟨x24,hx24,h⟩:=aR h
   refine aF (aA rfl (mvR rfl rfl rfl rfl) <|aA rfl (mvI rfl rfl rfl rfl) <|aA rfl (mvI rfl rfl rfl rfl) <|aA rfl (cF (cs:=q6) rfl rfl (lb rfl) Try.underlying57 ti57 pl57 rfl (.cons (svI rfl) (.cons (sv (d:=.int _ (-1)) rfl) (.cons (sv (d:=.int _ (-1)) rfl) (.cons (sv (d:=.int _ 16) rfl) .nil)))) rfl) <|aA rfl (aJ rfl rfl (lb rfl) (svR rfl)) <|aA rfl (faR 5 rfl rfl rfl Try.underlying60 rfl ti58 (lb rfl) rfl rfl) <|aA rfl (bX aB.toEnc0 rfl rfl (lb rfl) Try.underlying58 ti57 (svR rfl) hk22 (svI rfl) hx21) <|aA rfl (hB aB.toEnc0 (b:=5) (k:=0) (a':=(⟨a0,0,(-1),(-1),16,false⟩ : aG)) rfl rfl ti57 (svR rfl) rfl (svA q6 rfl) rfl rfl rfl rfl hx23 (nle rfl) rfl hx24) <|aD ?_)
   obtain ⟨x25,hx25,h⟩:=aS h
   refine aF (aA rfl (mvR rfl rfl rfl rfl) <|aA rfl (mvI rfl rfl rfl rfl) <|aA rfl (bH (r':=.tuple []) (H1':=[(1000,.blk 60 (mixD aB.toEnc0 (w20 x25.1 x25.2.1 x25.2.2.1 x25.2.2.2.1 x25.2.2.2.2.1) x25.2.2.2.2.2.1 [.int .i64 x25.2.2.2.2.2.2.1,.osl 3 (eInt .i64).sz x25.2.2.2.2.2.2.2.length])),(3,.blk 3 (D.flat (x25.2.2.2.2.2.2.2.map (eInt .i64).d)))]) 3 [1000,1] rfl rfl (lb rfl) cl44 (.cons (svR rfl) (.cons (svI rfl) (.cons (sv (d:=.int _ (-1)) rfl) .nil))) rfl rfl ⟨rfl,rfl,by decide,rfl,List.forall_mem_cons.2 ⟨⟨rfl,rfl,(eP aB rfl rfl rfl),(bF aB rfl rfl)⟩,List.forall_mem_cons.2 ⟨⟨rfl,rfl,(dY (eInt .i64) rfl),(aY (eInt .i64))⟩,List.forall_mem_nil _⟩⟩⟩ (lP _ _ _ _ _ _ _ _ _ _ _ hx25) rfl rfl (List.forall_mem_cons.2 ⟨⟨rfl,(bF aB rfl rfl)⟩,List.forall_mem_cons.2 ⟨⟨rfl,(aY (eInt .i64))⟩,List.forall_mem_nil _⟩⟩) (by simp only [List.map_cons,List.map_nil,Ent.ren,bC,bG,bK]; rfl)) <|aD ?_)
   obtain ⟨x26,hx26,h⟩:=aS h
   refine aF (aA rfl (mvR rfl rfl rfl rfl) <|aA rfl (mvI rfl rfl rfl rfl) <|aA rfl (lra q12 la72 rfl rfl rfl rfl rfl (nle rfl) rfl) <|aA rfl (bH (r':=.tuple []) (H1':=[(1000,.blk 60 (mixD aB.toEnc0 (w20 x26.1 x26.2.1 x26.2.2.1 x26.2.2.2.1 x26.2.2.2.2.1) x26.2.2.2.2.2.1 [.int .i64 x26.2.2.2.2.2.2.1,.osl 4 (eInt .i64).sz x26.2.2.2.2.2.2.2.length])),(4,.blk 3 (D.flat (x26.2.2.2.2.2.2.2.map (eInt .i64).d)))]) 4 [1000,3] rfl rfl (lb rfl) cl35 (.cons (svR rfl) (.cons (svI rfl) (.cons (svA q12 rfl) .nil))) rfl rfl ⟨rfl,rfl,by decide,rfl,List.forall_mem_cons.2 ⟨⟨rfl,rfl,(eP aB rfl rfl rfl),(bF aB rfl rfl)⟩,List.forall_mem_cons.2 ⟨⟨rfl,rfl,(dY (eInt .i64) rfl),(aY (eInt .i64))⟩,List.forall_mem_nil _⟩⟩⟩ (lH _ _ _ _ _ _ _ _ _ _ _ hx26) rfl rfl (List.forall_mem_cons.2 ⟨⟨rfl,(bF aB rfl rfl)⟩,List.forall_mem_cons.2 ⟨⟨rfl,(aY (eInt .i64))⟩,List.forall_mem_nil _⟩⟩) (by simp only [List.map_cons,List.map_nil,Ent.ren,bC,bG,bK]; rfl)) <|aD ?_)
   refine aF (aA rfl (aH rfl rfl (lb rfl) (sv (d:=.int _ 0) rfl)) <|aD ?_)
   refine bD ?_
   obtain rfl:=Option.some.inj h
   refine ⟨.inr rfl,(fun i=>if i = 0 then 4 else i),⟨.nil,(.cons (EntW.mix aB rfl (SubC.of_eq rfl) (SubC.of_eq rfl) rfl rfl) (.cons (EntW.lst rfl) .nil)),bB [1000,4] rfl (by decide),(fun i hi=>by first | rfl | (show (if _ then _ else _) = _; (repeat' split) <;> omega))⟩,(.cons (sv rfl) .nil),rfl⟩

theorem gK (a0 : Int) (a1 : Int) (a2 : Int) (a3 : Bool) (a4 : Int) (a5 : Int) (a6 : (List aI)) (a7 : Int) (a8 : Int) (a9 : (List aG)) (a10 : Int) (a11 : (List Int)) (r : (Int × Int × Int × (List aI) × Int × Int × (List aG) × Int × (List Int))) (h : eC a0 a1 a2 a3 a4 a5 a6 a7 a8 a9 a10 a11 = some r) : FnH Try.prog 18 [.ref 1000 0,.int .i64 a0,.int .i64 a1,.int .i64 a2,.bool a3] [(1000,.blk 60 (mixD aB.toEnc0 (w20 a4 a5 a6 a7 a8) a9 [.int .i64 a10,.osl 1001 (eInt .i64).sz a11.length])),(1001,.blk 3 (D.flat (a11.map (eInt .i64).d)))] (.int .i64 r.1) [(1000,.blk 60 (mixD aB.toEnc0 (w20 r.2.1 r.2.2.1 r.2.2.2.1 r.2.2.2.2.1 r.2.2.2.2.2.1) r.2.2.2.2.2.2.1 [.int .i64 r.2.2.2.2.2.2.2.1,.osl 0 (eInt .i64).sz r.2.2.2.2.2.2.2.2.length])),(0,.blk 3 (D.flat (r.2.2.2.2.2.2.2.2.map (eInt .i64).d)))]:=by
 refine dS (rs:=[.int .i64 r.1]) Try.func18 rfl Try.ntmps18 (nle rfl) fun O hO=>?_
 show IWP _ _ _ _ ⟨[(0,.ref 1000 0),(1,.int .i64 a0),(2,.int .i64 a1),(3,.int .i64 a2),(4,.bool a3)],[(1000,.blk 60 (mixD aB.toEnc0 (w20 a4 a5 a6 a7 a8) a9 [.int .i64 a10,.osl 1001 (eInt .i64).sz a11.length])),(1001,.blk 3 (D.flat (a11.map (eInt .i64).d)))]⟩ _
 unfold eC at h
 refine aF (aA rfl (aH rfl rfl (lb rfl) (sv (d:=.int _ 0) rfl)) <|aD ?_)
 refine aT ?_
 refine aF (aA rfl (mvR rfl rfl rfl rfl) <|aA rfl (lG rfl rfl (lb rfl) Try.underlying26 (svR rfl) (sv (d:=.nilp) rfl)) <|aD ?_)
 refine fD rfl rfl ?_
 refine aU ?_
 refine aL ?_
 refine aF (aA rfl (mvI rfl rfl rfl rfl) <|aA rfl (mvI rfl rfl rfl rfl) <|aA rfl (mvB rfl rfl rfl rfl) <|aA rfl (cF (cs:=q12) rfl rfl (lb rfl) Try.underlying72 ti72 pl72 rfl (.cons (svI rfl) (.cons (svI rfl) (.cons (svB rfl) .nil))) rfl) <|aA rfl (gE (cs:=q12) (cs':=[.int .i64 0,.int .i64 0,.bool false]) 0 rfl rfl (lb rfl) rfl ti72 rfl rfl (.all _)) <|aA rfl (stA q12 q12 ti72 rfl rfl rfl rfl rfl rfl rfl rfl (nle rfl) rfl) <|aD ?_)
 refine aT ?_
 obtain ⟨x1,hx1,h⟩:=aS h
 refine aF (aA rfl (lra q12 la72 rfl rfl rfl rfl rfl (nle rfl) rfl) <|aA rfl (mvI rfl rfl rfl rfl) <|aA rfl (cA (r:=.int _ _) rfl rfl (lb rfl) cl33 (.cons (svA q12 rfl) (.cons (svI rfl) .nil)) rfl (lZ _ _ _ hx1)) <|aA rfl (asI rfl rfl rfl rfl) <|aD ?_)
 obtain ⟨x2,hx2,h⟩:=aR h
 refine aF (aA rfl (mvI rfl rfl rfl rfl) <|aA rfl (aM rfl rfl (lb rfl) (svI rfl) (sv (d:=.int _ 0) rfl) rfl hx2) <|aD ?_)
 refine aX (b:=_) rfl (fun hc3=>?_) (fun hc3=>?_)
 ·
  replace h:=bY h hc3
  refine aF (aA rfl (mvI rfl rfl rfl rfl) <|aA rfl (asI rfl rfl rfl rfl) <|aD ?_)
  refine bD ?_
  refine bS ?_
  obtain rfl:=Option.some.inj h
  refine ⟨.inr rfl,(fun i=>if i = 0 then 1001 else i),⟨.nil,(.cons (EntW.mix aB rfl (SubC.of_eq rfl) (SubC.of_eq rfl) rfl rfl) (.cons (EntW.lst rfl) .nil)),bB [1000,1001] rfl (by decide),(fun i hi=>by first | rfl | (show (if _ then _ else _) = _; (repeat' split) <;> omega))⟩,(.cons (sv rfl) .nil),rfl⟩
 ·
  replace h:=bZ h hc3
  refine aU ?_
  refine aL ?_
  refine aT ?_
  obtain ⟨x4,hx4,h⟩:=aS h
  obtain ⟨x5,hx5,h⟩:=aR h
  refine aF (aA rfl (mvR rfl rfl rfl rfl) <|aA rfl (mvI rfl rfl rfl rfl) <|aA rfl (fA (r':=.int .i64 x4) (V:=[(1000,.blk 60 (mixD aB.toEnc0 (w20 a4 a5 a6 a7 a8) a9 [.int .i64 a10,.osl 1001 (eInt .i64).sz a11.length])),(1001,.blk 3 (D.flat (a11.map (eInt .i64).d)))]) 1 [1000,1001] rfl rfl (lb rfl) cl28 (.cons (svR rfl) (.cons (svI rfl) .nil)) rfl rfl rfl ⟨by decide,rfl,List.forall_mem_cons.2 ⟨⟨rfl,rfl,(eP aB rfl rfl rfl),(bF aB rfl rfl)⟩,List.forall_mem_cons.2 ⟨⟨rfl,rfl,(dY (eInt .i64) rfl),(aY (eInt .i64))⟩,List.forall_mem_nil _⟩⟩⟩ (eU _ _ _ _ _ _ _ _ _ _ hx4) rfl rfl (List.forall_mem_cons.2 ⟨⟨rfl,(bF aB rfl rfl)⟩,List.forall_mem_cons.2 ⟨⟨rfl,(aY (eInt .i64))⟩,List.forall_mem_nil _⟩⟩) (by simp only [List.map_cons,List.map_nil,Ent.ren,bC,bG,bK]; rfl) (List.forall_mem_cons.2 ⟨rfl,List.forall_mem_cons.2 ⟨rfl,List.forall_mem_nil _⟩⟩) rfl) <|aA rfl (aM rfl rfl (lb rfl) (svI rfl) (sv (d:=.int _ (-1)) rfl) rfl hx5) <|aD ?_)
  refine aX (b:=_) rfl (fun hc6=>?_) (fun hc6=>?_)
  ·
   replace h:=bY h hc6
   refine aF (aA rfl (aH rfl rfl (lb rfl) (sv (d:=.int _ 13) rfl)) <|aD ?_)
   refine bD ?_
   refine bS ?_
   obtain rfl:=Option.some.inj h
   refine ⟨.inr rfl,(fun i=>if i = 0 then 1001 else i),⟨.nil,(.cons (EntW.mix aB rfl (SubC.of_eq rfl) (SubC.of_eq rfl) rfl rfl) (.cons (EntW.lst rfl) .nil)),bB [1000,1001] rfl (by decide),(fun i hi=>by first | rfl | (show (if _ then _ else _) = _; (repeat' split) <;> omega))⟩,(.cons (sv rfl) .nil),rfl⟩
  ·
   replace h:=bZ h hc6
   refine aU ?_
   refine aL ?_
   obtain ⟨x7,hx7,h⟩:=aS h
   refine aF (aA rfl (mvR rfl rfl rfl rfl) <|aA rfl (mvI rfl rfl rfl rfl) <|aA rfl (lra q12 la72 rfl rfl rfl rfl rfl (nle rfl) rfl) <|aA rfl (bH (r':=.int .i64 x7.1) (H1':=[(1000,.blk 60 (mixD aB.toEnc0 (w20 x7.2.1 x7.2.2.1 x7.2.2.2.1 x7.2.2.2.2.1 x7.2.2.2.2.2.1) x7.2.2.2.2.2.2.1 [.int .i64 x7.2.2.2.2.2.2.2.1,.osl 1 (eInt .i64).sz x7.2.2.2.2.2.2.2.2.length])),(1,.blk 3 (D.flat (x7.2.2.2.2.2.2.2.2.map (eInt .i64).d)))]) 1 [1000,1001] rfl rfl (lb rfl) cl34 (.cons (svR rfl) (.cons (svI rfl) (.cons (svA q12 rfl) .nil))) rfl rfl ⟨rfl,rfl,by decide,rfl,List.forall_mem_cons.2 ⟨⟨rfl,rfl,(eP aB rfl rfl rfl),(bF aB rfl rfl)⟩,List.forall_mem_cons.2 ⟨⟨rfl,rfl,(dY (eInt .i64) rfl),(aY (eInt .i64))⟩,List.forall_mem_nil _⟩⟩⟩ (kZ _ _ _ _ _ _ _ _ _ _ _ hx7) rfl rfl (List.forall_mem_cons.2 ⟨⟨rfl,(bF aB rfl rfl)⟩,List.forall_mem_cons.2 ⟨⟨rfl,(aY (eInt .i64))⟩,List.forall_mem_nil _⟩⟩) (by simp only [List.map_cons,List.map_nil,Ent.ren,bC,bG,bK]; rfl)) <|aA rfl (asI rfl rfl rfl rfl) <|aD ?_)
   refine bD ?_
   obtain rfl:=Option.some.inj h
   refine ⟨.inr rfl,(fun i=>if i = 0 then 1 else i),⟨.nil,(.cons (EntW.mix aB rfl (SubC.of_eq rfl) (SubC.of_eq rfl) rfl rfl) (.cons (EntW.lst rfl) .nil)),bB [1000,1] rfl (by decide),(fun i hi=>by first | rfl | (show (if _ then _ else _) = _; (repeat' split) <;> omega))⟩,(.cons (sv rfl) .nil),rfl⟩

theorem jW (a0 : Int) (a1 : Int) (a2 : Int) (a3 : Bool) (a4 : Int) (a5 : Int) (a6 : (List aI)) (a7 : Int) (a8 : Int) (a9 : (List aG)) (a10 : Int) (a11 : (List Int)) (r : (Int × Int × Int × (List aI) × Int × Int × (List aG) × Int × (List Int))) (h : fN a0 a1 a2 a3 a4 a5 a6 a7 a8 a9 a10 a11 = some r) : FnH Try.prog 17 [.ref 1000 0,.int .i64 a0,.int .i64 a1,.int .i64 a2,.bool a3] [(1000,.blk 60 (mixD aB.toEnc0 (w20 a4 a5 a6 a7 a8) a9 [.int .i64 a10,.osl 1001 (eInt .i64).sz a11.length])),(1001,.blk 3 (D.flat (a11.map (eInt .i64).d)))] (.int .i64 r.1) [(1000,.blk 60 (mixD aB.toEnc0 (w20 r.2.1 r.2.2.1 r.2.2.2.1 r.2.2.2.2.1 r.2.2.2.2.2.1) r.2.2.2.2.2.2.1 [.int .i64 r.2.2.2.2.2.2.2.1,.osl 0 (eInt .i64).sz r.2.2.2.2.2.2.2.2.length])),(0,.blk 3 (D.flat (r.2.2.2.2.2.2.2.2.map (eInt .i64).d)))]:=by
 refine dS (rs:=[.int .i64 r.1]) Try.func17 rfl Try.ntmps17 (nle rfl) fun O hO=>?_
 show IWP _ _ _ _ ⟨[(0,.ref 1000 0),(1,.int .i64 a0),(2,.int .i64 a1),(3,.int .i64 a2),(4,.bool a3)],[(1000,.blk 60 (mixD aB.toEnc0 (w20 a4 a5 a6 a7 a8) a9 [.int .i64 a10,.osl 1001 (eInt .i64).sz a11.length])),(1001,.blk 3 (D.flat (a11.map (eInt .i64).d)))]⟩ _
 unfold fN at h
 refine aF (aA rfl (aH rfl rfl (lb rfl) (sv (d:=.int _ 0) rfl)) <|aD ?_)
 refine aT ?_
 refine aF (aA rfl (mvR rfl rfl rfl rfl) <|aA rfl (lG rfl rfl (lb rfl) Try.underlying26 (svR rfl) (sv (d:=.nilp) rfl)) <|aD ?_)
 refine fD rfl rfl ?_
 refine aU ?_
 refine aL ?_
 refine aF (aA rfl (mvI rfl rfl rfl rfl) <|aA rfl (mvI rfl rfl rfl rfl) <|aA rfl (mvB rfl rfl rfl rfl) <|aA rfl (cF (cs:=q12) rfl rfl (lb rfl) Try.underlying72 ti72 pl72 rfl (.cons (svI rfl) (.cons (svI rfl) (.cons (svB rfl) .nil))) rfl) <|aA rfl (gE (cs:=q12) (cs':=[.int .i64 0,.int .i64 0,.bool false]) 0 rfl rfl (lb rfl) rfl ti72 rfl rfl (.all _)) <|aA rfl (stA q12 q12 ti72 rfl rfl rfl rfl rfl rfl rfl rfl (nle rfl) rfl) <|aD ?_)
 refine aT ?_
 obtain ⟨x1,hx1,h⟩:=aS h
 refine aF (aA rfl (lra q12 la72 rfl rfl rfl rfl rfl (nle rfl) rfl) <|aA rfl (mvI rfl rfl rfl rfl) <|aA rfl (cA (r:=.int _ _) rfl rfl (lb rfl) cl33 (.cons (svA q12 rfl) (.cons (svI rfl) .nil)) rfl (lZ _ _ _ hx1)) <|aA rfl (asI rfl rfl rfl rfl) <|aD ?_)
 obtain ⟨x2,hx2,h⟩:=aR h
 refine aF (aA rfl (mvI rfl rfl rfl rfl) <|aA rfl (aM rfl rfl (lb rfl) (svI rfl) (sv (d:=.int _ 0) rfl) rfl hx2) <|aD ?_)
 refine aX (b:=_) rfl (fun hc3=>?_) (fun hc3=>?_)
 ·
  replace h:=bY h hc3
  refine aF (aA rfl (mvI rfl rfl rfl rfl) <|aA rfl (asI rfl rfl rfl rfl) <|aD ?_)
  refine bD ?_
  refine bS ?_
  obtain rfl:=Option.some.inj h
  refine ⟨.inr rfl,(fun i=>if i = 0 then 1001 else i),⟨.nil,(.cons (EntW.mix aB rfl (SubC.of_eq rfl) (SubC.of_eq rfl) rfl rfl) (.cons (EntW.lst rfl) .nil)),bB [1000,1001] rfl (by decide),(fun i hi=>by first | rfl | (show (if _ then _ else _) = _; (repeat' split) <;> omega))⟩,(.cons (sv rfl) .nil),rfl⟩
 ·
  replace h:=bZ h hc3
  refine aU ?_
  refine aL ?_
  obtain ⟨x4,hx4,h⟩:=aS h
  refine aF (aA rfl (mvR rfl rfl rfl rfl) <|aA rfl (mvI rfl rfl rfl rfl) <|aA rfl (fA (r':=.int .i64 x4) (V:=[(1000,.blk 60 (mixD aB.toEnc0 (w20 a4 a5 a6 a7 a8) a9 [.int .i64 a10,.osl 1001 (eInt .i64).sz a11.length])),(1001,.blk 3 (D.flat (a11.map (eInt .i64).d)))]) 1 [1000,1001] rfl rfl (lb rfl) cl28 (.cons (svR rfl) (.cons (svI rfl) .nil)) rfl rfl rfl ⟨by decide,rfl,List.forall_mem_cons.2 ⟨⟨rfl,rfl,(eP aB rfl rfl rfl),(bF aB rfl rfl)⟩,List.forall_mem_cons.2 ⟨⟨rfl,rfl,(dY (eInt .i64) rfl),(aY (eInt .i64))⟩,List.forall_mem_nil _⟩⟩⟩ (eU _ _ _ _ _ _ _ _ _ _ hx4) rfl rfl (List.forall_mem_cons.2 ⟨⟨rfl,(bF aB rfl rfl)⟩,List.forall_mem_cons.2 ⟨⟨rfl,(aY (eInt .i64))⟩,List.forall_mem_nil _⟩⟩) (by simp only [List.map_cons,List.map_nil,Ent.ren,bC,bG,bK]; rfl) (List.forall_mem_cons.2 ⟨rfl,List.forall_mem_cons.2 ⟨rfl,List.forall_mem_nil _⟩⟩) rfl) <|aA rfl (asI rfl rfl rfl rfl) <|aD ?_)
  refine aT ?_
  obtain ⟨x5,hx5,h⟩:=aR h
  refine aF (aA rfl (mvI rfl rfl rfl rfl) <|aA rfl (aM rfl rfl (lb rfl) (svI rfl) (sv (d:=.int _ (-1)) rfl) rfl hx5) <|aD ?_)
  refine aX (b:=_) rfl (fun hc6=>?_) (fun hc6=>?_)
  ·
   replace h:=bY h hc6
   obtain ⟨x7,hx7,h⟩:=aS h
   refine aF (aA rfl (mvR rfl rfl rfl rfl) <|aA rfl (mvI rfl rfl rfl rfl) <|aA rfl (lra q12 la72 rfl rfl rfl rfl rfl (nle rfl) rfl) <|aA rfl (bH (r':=.int .i64 x7.1) (H1':=[(1000,.blk 60 (mixD aB.toEnc0 (w20 x7.2.1 x7.2.2.1 x7.2.2.2.1 x7.2.2.2.2.1 x7.2.2.2.2.2.1) x7.2.2.2.2.2.2.1 [.int .i64 x7.2.2.2.2.2.2.2.1,.osl 1 (eInt .i64).sz x7.2.2.2.2.2.2.2.2.length])),(1,.blk 3 (D.flat (x7.2.2.2.2.2.2.2.2.map (eInt .i64).d)))]) 1 [1000,1001] rfl rfl (lb rfl) cl34 (.cons (svR rfl) (.cons (svI rfl) (.cons (svA q12 rfl) .nil))) rfl rfl ⟨rfl,rfl,by decide,rfl,List.forall_mem_cons.2 ⟨⟨rfl,rfl,(eP aB rfl rfl rfl),(bF aB rfl rfl)⟩,List.forall_mem_cons.2 ⟨⟨rfl,rfl,(dY (eInt .i64) rfl),(aY (eInt .i64))⟩,List.forall_mem_nil _⟩⟩⟩ (kZ _ _ _ _ _ _ _ _ _ _ _ hx7) rfl rfl (List.forall_mem_cons.2 ⟨⟨rfl,(bF aB rfl rfl)⟩,List.forall_mem_cons.2 ⟨⟨rfl,(aY (eInt .i64))⟩,List.forall_mem_nil _⟩⟩) (by simp only [List.map_cons,List.map_nil,Ent.ren,bC,bG,bK]; rfl)) <|aA rfl (asI rfl rfl rfl rfl) <|aD ?_)
   refine bD ?_
   refine bS ?_
   obtain rfl:=Option.some.inj h
   refine ⟨.inr rfl,(fun i=>if i = 0 then 1 else i),⟨.nil,(.cons (EntW.mix aB rfl (SubC.of_eq rfl) (SubC.of_eq rfl) rfl rfl) (.cons (EntW.lst rfl) .nil)),bB [1000,1] rfl (by decide),(fun i hi=>by first | rfl | (show (if _ then _ else _) = _; (repeat' split) <;> omega))⟩,(.cons (sv rfl) .nil),rfl⟩
  ·
   replace h:=bZ h hc6
   refine aU ?_
   refine aL ?_
   obtain ⟨x8,hx8,h⟩:=aS h
   refine aF (aA rfl (mvR rfl rfl rfl rfl) <|aA rfl (mvI rfl rfl rfl rfl) <|aA rfl (lra q12 la72 rfl rfl rfl rfl rfl (nle rfl) rfl) <|aA rfl (bH (r':=.tuple []) (H1':=[(1000,.blk 60 (mixD aB.toEnc0 (w20 x8.1 x8.2.1 x8.2.2.1 x8.2.2.2.1 x8.2.2.2.2.1) x8.2.2.2.2.2.1 [.int .i64 x8.2.2.2.2.2.2.1,.osl 1 (eInt .i64).sz x8.2.2.2.2.2.2.2.length])),(1,.blk 3 (D.flat (x8.2.2.2.2.2.2.2.map (eInt .i64).d)))]) 1 [1000,1001] rfl rfl (lb rfl) cl35 (.cons (svR rfl) (.cons (svI rfl) (.cons (svA q12 rfl) .nil))) rfl rfl ⟨rfl,rfl,by decide,rfl,List.forall_mem_cons.2 ⟨⟨rfl,rfl,(eP aB rfl rfl rfl),(bF aB rfl rfl)⟩,List.forall_mem_cons.2 ⟨⟨rfl,rfl,(dY (eInt .i64) rfl),(aY (eInt .i64))⟩,List.forall_mem_nil _⟩⟩⟩ (lH _ _ _ _ _ _ _ _ _ _ _ hx8) rfl rfl (List.forall_mem_cons.2 ⟨⟨rfl,(bF aB rfl rfl)⟩,List.forall_mem_cons.2 ⟨⟨rfl,(aY (eInt .i64))⟩,List.forall_mem_nil _⟩⟩) (by simp only [List.map_cons,List.map_nil,Ent.ren,bC,bG,bK]; rfl)) <|aD ?_)
   refine aF (aA rfl (aH rfl rfl (lb rfl) (sv (d:=.int _ 0) rfl)) <|aD ?_)
   refine bD ?_
   obtain rfl:=Option.some.inj h
   refine ⟨.inr rfl,(fun i=>if i = 0 then 1 else i),⟨.nil,(.cons (EntW.mix aB rfl (SubC.of_eq rfl) (SubC.of_eq rfl) rfl rfl) (.cons (EntW.lst rfl) .nil)),bB [1000,1] rfl (by decide),(fun i hi=>by first | rfl | (show (if _ then _ else _) = _; (repeat' split) <;> omega))⟩,(.cons (sv rfl) .nil),rfl⟩

theorem gZ (a0 : Int) (a1 : Int) (a2 : Int) (a3 : (List aI)) (a4 : Int) (a5 : Int) (a6 : (List aG)) (a7 : Int) (a8 : (List Int)) (r : Int) (h : dX a0 a1 a2 a3 a4 a5 a6 a7 a8 = some r) : FnH Try.prog 25 [.ref 1000 0,.int .i64 a0] [(1000,.blk 60 (mixD aB.toEnc0 (w20 a1 a2 a3 a4 a5) a6 [.int .i64 a7,.osl 1001 (eInt .i64).sz a8.length])),(1001,.blk 3 (D.flat (a8.map (eInt .i64).d)))] (.int .i64 r) [(1000,.blk 60 (mixD aB.toEnc0 (w20 a1 a2 a3 a4 a5) a6 [.int .i64 a7,.osl 1001 (eInt .i64).sz a8.length])),(1001,.blk 3 (D.flat (a8.map (eInt .i64).d)))]:=by
 refine dS (rs:=[.int .i64 r]) Try.func25 rfl Try.ntmps25 (nle rfl) fun O hO=>?_
 show IWP _ _ _ _ ⟨[(0,.ref 1000 0),(1,.int .i64 a0)],[(1000,.blk 60 (mixD aB.toEnc0 (w20 a1 a2 a3 a4 a5) a6 [.int .i64 a7,.osl 1001 (eInt .i64).sz a8.length])),(1001,.blk 3 (D.flat (a8.map (eInt .i64).d)))]⟩ _
 unfold dX at h
 refine aF (aA rfl (aH rfl rfl (lb rfl) (sv (d:=.int _ 0) rfl)) <|aD ?_)
 refine aT ?_
 obtain ⟨x1,hx1,h⟩:=aR h
 refine aF (aA rfl (mvI rfl rfl rfl rfl) <|aA rfl (aM rfl rfl (lb rfl) (svI rfl) (sv (d:=.int _ (-1)) rfl) rfl hx1) <|aD ?_)
 refine aX (b:=_) rfl (fun hc2=>?_) (fun hc2=>?_)
 ·
  replace h:=bY h hc2
  refine aF (aA rfl (aH rfl rfl (lb rfl) (sv (d:=.int _ 0) rfl)) <|aD ?_)
  refine bD ?_
  refine bS ?_
  obtain rfl:=Option.some.inj h
  refine ⟨.inr rfl,(fun i=>i),⟨.nil,(.cons (EntW.mix aB rfl (SubC.of_eq rfl) (SubC.of_eq rfl) rfl rfl) (.cons (EntW.lst rfl) .nil)),bB [1000,1001] rfl (by decide),fun _ _=>rfl⟩,(.cons (sv rfl) .nil),rfl⟩
 ·
  replace h:=bZ h hc2
  refine aU ?_
  refine aL ?_
  obtain ⟨x3,hx3,h⟩:=aS h
  obtain ⟨hk4,h⟩:=jN h
  obtain ⟨x5,hx5,h⟩:=aS h
  refine aF (aA rfl (mvR rfl rfl rfl rfl) <|aA rfl (mvI rfl rfl rfl rfl) <|aA rfl (aJ rfl rfl (lb rfl) (svR rfl)) <|aA rfl (faR 5 rfl rfl rfl Try.underlying60 rfl ti58 (lb rfl) rfl rfl) <|aA rfl (bX aB.toEnc0 rfl rfl (lb rfl) Try.underlying58 ti57 (svR rfl) hk4 (svI rfl) hx3) <|aA rfl (bJ rfl rfl (lb rfl) Try.underlying57 rfl ti3 (by decide) (svR rfl) (k':=0) rfl) <|aA rfl (bP aB.toEnc0 (b:=5) (k:=0) (d:=.int _ _) rfl rfl (lb rfl) Try.underlying3 ag3 ti3 (by decide) (svR rfl) rfl rfl hx5 (nle rfl) rfl) <|aA rfl (asI rfl rfl rfl rfl) <|aD ?_)
  refine bD ?_
  obtain rfl:=Option.some.inj h
  refine ⟨.inr rfl,(fun i=>i),⟨.nil,(.cons (EntW.mix aB rfl (SubC.of_eq rfl) (SubC.of_eq rfl) rfl rfl) (.cons (EntW.lst rfl) .nil)),bB [1000,1001] rfl (by decide),fun _ _=>rfl⟩,(.cons (sv rfl) .nil),rfl⟩

theorem iE (a0 : (List aZ)) (r : (List aZ)) (h : cO a0 = some r) : FnH Try.prog 26 [.osl 1000 aQ.sz a0.length,.fn 27 []] [(1000,.blk 40 (D.flat (a0.map aQ.d)))] (retD []) [(1000,.blk 40 (D.flat (r.map aQ.d)))]:=p_sortN a0 r h

theorem lJ (a0 : Int) (a1 : Int) (a2 : (List aI)) (a3 : Int) (a4 : Int) (a5 : (List aG)) (a6 : Int) (a7 : (List Int)) (r : (List aZ)) (h : gM a0 a1 a2 a3 a4 a5 a6 a7 = some r) : FnH Try.prog 9 [.ref 1000 0] [(1000,.blk 60 (mixD aB.toEnc0 (w20 a0 a1 a2 a3 a4) a5 [.int .i64 a6,.osl 1001 (eInt .i64).sz a7.length])),(1001,.blk 3 (D.flat (a7.map (eInt .i64).d)))] (.osl 0 aQ.sz r.length) [(1000,.blk 60 (mixD aB.toEnc0 (w20 a0 a1 a2 a3 a4) a5 [.int .i64 a6,.osl 1001 (eInt .i64).sz a7.length])),(1001,.blk 3 (D.flat (a7.map (eInt .i64).d))),(0,.blk 40 (D.flat (r.map aQ.d)))]:=by
 refine dS (rs:=[.osl 0 aQ.sz r.length]) Try.func9 rfl Try.ntmps9 (nle rfl) fun O hO=>?_
 show IWP _ _ _ _ ⟨[(0,.ref 1000 0)],[(1000,.blk 60 (mixD aB.toEnc0 (w20 a0 a1 a2 a3 a4) a5 [.int .i64 a6,.osl 1001 (eInt .i64).sz a7.length])),(1001,.blk 3 (D.flat (a7.map (eInt .i64).d)))]⟩ _
 unfold gM at h
 refine aF (aA rfl (aH rfl rfl (lb rfl) (sv (d:=.nils) rfl)) <|aD ?_)
 refine aT ?_
 refine aF (aA rfl (mvR rfl rfl rfl rfl) <|aA rfl (lG rfl rfl (lb rfl) Try.underlying26 (svR rfl) (sv (d:=.nilp) rfl)) <|aD ?_)
 refine fD rfl rfl ?_
 refine aU ?_
 refine aL ?_
 refine aF (aA rfl (aH rfl rfl (lb rfl) (sv (d:=.nils) rfl)) <|aD ?_)
 refine aT ?_
 obtain ⟨x1,hx1,h⟩:=aS h
 refine aF (aA rfl (mvR rfl rfl rfl rfl) <|aA rfl (aJ rfl rfl (lb rfl) (svR rfl)) <|aA rfl (faR 2 rfl rfl rfl Try.underlying60 rfl ti55 (lb rfl) rfl rfl) <|aA rfl (lT aB.toEnc0 (cs:=q10) rfl rfl (lb rfl) Try.underlying55 ag55 ti55 (by decide) (svR rfl) rfl (nle rfl) (by rfl)) <|aA rfl (cA (r:=.slice _ _) rfl rfl (lb rfl) cl24 (.cons (svA q10 rfl) .nil) rfl (oX _ _ hx1)) <|aA rfl (eQ (eInt .i64) (l:=x1) rfl rfl (lb rfl) Try.underlying24 (svL rfl)) <|aA rfl (aN rfl rfl (lb rfl) (sv (d:=.int _ 0) rfl)) <|aD ?_)
 refine bA ?_
 refine cV (α:=Nat × (List aZ) × Int) (fun z=>⟨[(0,.ref 1000 0),(3,.osl 21 aQ.sz z.2.1.length),(13,.slice false (x1.map (eInt .i64).d)),(14,.int .i64 (x1.length : Int)),(15,.int .i64 z.2.2)],[(1000,.blk 60 (mixD aB.toEnc0 (w20 a0 a1 a2 a3 a4) a5 [.int .i64 a6,.osl 1001 (eInt .i64).sz a7.length])),(21,.blk 40 (D.flat (z.2.1.map aQ.d))),(1001,.blk 3 (D.flat (a7.map (eInt .i64).d)))]⟩) (fun z=>eB a0 a1 a2 a3 a4 a5 a6 a7 x1 z.1 z.2.1 z.2.2 = some r) (fun z=>z.1) (fuel,([] : (List aZ)),0) (fun i=>if i = 21 then 71 else i) ⟨(.s rfl rfl (.cons (.nilo rfl) (.sames rfl rfl))),(.cons (EntW.mix aB rfl (SubC.of_eq rfl) (SubC.of_eq rfl) rfl rfl) (.cons (.nilb rfl) (.cons (EntW.lst rfl) .nil))),bB [1000,71,1001] rfl (by decide),(fun i hi=>by first | rfl | (show (if _ then _ else _) = _; (repeat' split) <;> omega))⟩ ?_ ?_
 ·exact h
 ·
  rintro ⟨n0,v11,v12⟩ h
  cases n0 with
  | zero=>exact absurd h (by unfold eB; exact nofun)
  | succ n0 =>
   unfold eB at h
   obtain ⟨x22,hx22,h⟩:=aR h
   refine aF (aA rfl (aM rfl rfl (lb rfl) (svI rfl) (svI rfl) rfl hx22) <|aD ?_)
   refine aT ?_
   refine aX (b:=_) rfl (fun hc23=>?_) (fun hc23=>?_)
   ·
    replace h:=bY h hc23
    refine aU ?_
    refine aL ?_
    refine aT ?_
    refine bA ?_
    obtain ⟨x24,hx24,h⟩:=aS h
    refine aF (aA rfl (gO (eInt .i64) (cs:=[.int _ _]) rfl rfl (lb rfl) Try.underlying24 ti3 (svL rfl) (svI rfl) hx24 rfl rfl) <|aA rfl (fT rfl rfl (lb rfl) Try.underlying3 ag3 ti3 (by decide) (sv (d:=.fptr [.int _ _]) rfl) (nle rfl)) <|aA rfl (asI rfl rfl rfl rfl) <|aD ?_)
    obtain ⟨x25,hx25,h⟩:=aS h
    obtain ⟨hk26,h⟩:=jN h
    obtain ⟨x27,hx27,h⟩:=aS h
    refine aF (aA rfl (mvR rfl rfl rfl rfl) <|aA rfl (mvI rfl rfl rfl rfl) <|aA rfl (aJ rfl rfl (lb rfl) (svR rfl)) <|aA rfl (faR 5 rfl rfl rfl Try.underlying60 rfl ti58 (lb rfl) rfl rfl) <|aA rfl (bX aB.toEnc0 rfl rfl (lb rfl) Try.underlying58 ti57 (svR rfl) hk26 (svI rfl) hx25) <|aA rfl (uO aB.toEnc0 (b:=5) (k:=0) (cs:=q6) rfl rfl (lb rfl) Try.underlying57 ag57 ti57 (by decide) (svR rfl) rfl rfl hx27 (nle rfl) rfl) <|aA rfl (gE (cs:=q6) (cs':=[.int .i64 0,.int .i64 0,.int .i64 0,.int .i64 0,.int .i64 0,.bool false]) 22 rfl rfl (lb rfl) rfl ti57 rfl rfl (.all _)) <|aA rfl (stA q6 q6 ti57 rfl rfl rfl rfl rfl rfl rfl rfl (nle rfl) rfl) <|aD ?_)
    obtain ⟨x28,hx28,h⟩:=aS h
    obtain ⟨x29,hx29,h⟩:=aS h
    refine jF rfl [⟨[3],[],[(25,.osl 21 aQ.sz v11.length)],[]⟩,
     ⟨[6],[],[(26,.ref 22 0)],[]⟩,
     ⟨[26],[22],[(27,.int .i64 x27.id)],[]⟩,
     ⟨[0],[],[(28,.ref 1000 0)],[]⟩,
     ⟨[6],[],[(29,.ref 22 1)],[]⟩,
     ⟨[29],[22],[(30,.int .i64 x27.up)],[]⟩,
     ⟨[28,30],[1000,1001],[(31,.int .i64 x28)],[]⟩,
     ⟨[6],[],[(32,.ref 22 4)],[]⟩,
     ⟨[32],[22],[(33,.int .i64 x27.weight)],[]⟩,
     ⟨[6],[],[(34,.ref 22 5)],[]⟩,
     ⟨[34],[22],[(35,.bool x27.closed)],[]⟩,
     ⟨[27,31,33,35],[],[(36,.agg (w21 x27.id x28 x27.weight x27.closed))],[]⟩,
     ⟨[36],[23],[(37,.osl 23 aQ.sz (([(⟨x27.id,x28,x27.weight,x27.closed⟩ : aZ)] : (List aZ)).length))],[(23,.blk 40 (D.flat ((([(⟨x27.id,x28,x27.weight,x27.closed⟩ : aZ)] : (List aZ))).map aQ.d)))]⟩,
     ⟨[25,37],[21,23,24],[(38,.osl 24 aQ.sz x29.length)],[(24,.blk 40 (D.flat (x29.map aQ.d))),(21,.none)]⟩,
     ⟨[38],[],[(3,.osl 24 aQ.sz x29.length)],[]⟩] rfl ?_ (by kernel_rfl) ?_
    ·refine .cons (lop rfl rfl fun S hA=>(aN rfl rfl (lb rfl) (sv (d:=.osl _ _ _) (agr hA rfl rfl)))) ?_
     refine .cons (lop rfl rfl fun S hA=>(aV rfl rfl (lb rfl) Try.underlying57 rfl ti3 (by decide) (svaR hA rfl rfl) (off':=0) rfl)) ?_
     refine .cons (lop rfl rfl fun S hA=>(aK (d:=.int _ _) rfl rfl (lb rfl) Try.underlying3 ag3 ti3 (by decide) (svaR hA rfl rfl) (agi hA rfl rfl) (nle rfl) rfl)) ?_
     refine .cons (lop rfl rfl fun S hA=>(aN rfl rfl (lb rfl) (svaR hA rfl rfl))) ?_
     refine .cons (lop rfl rfl fun S hA=>(aV rfl rfl (lb rfl) Try.underlying57 rfl ti3 (by decide) (svaR hA rfl rfl) (off':=1) rfl)) ?_
     refine .cons (lop rfl rfl fun S hA=>(aK (d:=.int _ _) rfl rfl (lb rfl) Try.underlying3 ag3 ti3 (by decide) (svaR hA rfl rfl) (agi hA rfl rfl) (nle rfl) rfl)) ?_
     refine .cons (lop rfl rfl fun S hA=>(fA (r':=.int .i64 x28) (V:=[(1000,.blk 60 (mixD aB.toEnc0 (w20 a0 a1 a2 a3 a4) a5 [.int .i64 a6,.osl 1001 (eInt .i64).sz a7.length])),(1001,.blk 3 (D.flat (a7.map (eInt .i64).d)))]) 23 [1000,1001] rfl rfl (lb rfl) cl25 (.cons (svaR hA rfl rfl) (.cons (svaI hA rfl rfl) .nil)) rfl rfl rfl ⟨by decide,rfl,List.forall_mem_cons.2 ⟨⟨rfl,rfl,(eP aB (agi hA rfl rfl) rfl rfl),(bF aB rfl rfl)⟩,List.forall_mem_cons.2 ⟨⟨rfl,rfl,(dY (eInt .i64) (agi hA rfl rfl)),(aY (eInt .i64))⟩,List.forall_mem_nil _⟩⟩⟩ (gZ _ _ _ _ _ _ _ _ _ _ hx28) rfl rfl (List.forall_mem_cons.2 ⟨⟨rfl,(bF aB rfl rfl)⟩,List.forall_mem_cons.2 ⟨⟨rfl,(aY (eInt .i64))⟩,List.forall_mem_nil _⟩⟩) (by simp only [List.map_cons,List.map_nil,Ent.ren,bC,bG,bK]; rfl) (List.forall_mem_cons.2 ⟨(agi hA rfl rfl),List.forall_mem_cons.2 ⟨(agi hA rfl rfl),List.forall_mem_nil _⟩⟩) rfl)) ?_
     refine .cons (lop rfl rfl fun S hA=>(aV rfl rfl (lb rfl) Try.underlying57 rfl ti3 (by decide) (svaR hA rfl rfl) (off':=4) rfl)) ?_
     refine .cons (lop rfl rfl fun S hA=>(aK (d:=.int _ _) rfl rfl (lb rfl) Try.underlying3 ag3 ti3 (by decide) (svaR hA rfl rfl) (agi hA rfl rfl) (nle rfl) rfl)) ?_
     refine .cons (lop rfl rfl fun S hA=>(aV rfl rfl (lb rfl) Try.underlying57 rfl ti4 (by decide) (svaR hA rfl rfl) (off':=5) rfl)) ?_
     refine .cons (lop rfl rfl fun S hA=>(aK (d:=.bool _) rfl rfl (lb rfl) Try.underlying4 ag4 ti4 (by decide) (svaR hA rfl rfl) (agi hA rfl rfl) (nle rfl) rfl)) ?_
     refine .cons (lop rfl rfl fun S hA=>(cF (cs:=q9) rfl rfl (lb rfl) Try.underlying40 ti40 pl40 rfl (.cons (svaI hA rfl rfl) (.cons (svaI hA rfl rfl) (.cons (svaI hA rfl rfl) (.cons (svaB hA rfl rfl) .nil)))) rfl)) ?_
     refine .cons (lop rfl rfl fun S hA=>(jZ aQ.toEnc0 ([(⟨x27.id,x28,x27.weight,x27.closed⟩ : aZ)] : (List aZ)) 23 rfl rfl (lb rfl) Try.underlying28 ti40 (agi hA rfl rfl) (.cons (svaA q9 hA rfl rfl) .nil) rfl rfl (by decide))) ?_
     refine .cons (lop rfl rfl fun S hA=>(iX aQ.toEnc0 24 rfl rfl (lb rfl) Try.underlying28 ti40 rfl (agr hA rfl rfl) rfl (agi hA rfl rfl) (agi hA rfl rfl) (nS aQ.toEnc0 (agr hA rfl rfl) rfl (agi hA rfl rfl)) hx29)) ?_
     refine .cons (lop rfl rfl fun S hA=>(aH rfl rfl (lb rfl) (sv (d:=.osl _ _ _) (agr hA rfl rfl)))) ?_
     exact .nil
    refine bR ?_
    refine aL ?_
    obtain ⟨x30,hx30,h⟩:=aR h
    refine aW (aA rfl (cQ rfl rfl (lb rfl) (svI rfl) (sv (d:=.int _ 1) rfl) rfl hx30) <|aA rfl (mvI rfl rfl rfl rfl) <|bL ?_)
    refine aL ⟨(n0,x29,x30),(fun i=>if i = 21 then 24 else i),⟨(.sames rfl rfl),(.cons (EntW.mix aB rfl (SubC.of_eq rfl) (SubC.of_eq rfl) rfl rfl) (.cons (EntW.lst rfl) (.cons (EntW.lst rfl) .nil))),bB [1000,24,1001] rfl (by decide),(fun i hi=>by first | rfl | (show (if _ then _ else _) = _; (repeat' split) <;> omega))⟩,?_,?_⟩
    exact h
    exact Nat.lt_succ_self _
   ·
    replace h:=bZ h hc23
    refine dD ?_
    refine bV ?_
    refine bV ?_
    refine dE ?_
    refine aL ?_
    obtain ⟨x31,hx31,h⟩:=aS h
    obtain ⟨hk32,h⟩:=jN h
    refine aF (aA rfl (aN rfl rfl (lb rfl) (sv (d:=.osl _ _ _) rfl)) <|aA rfl (bH (r':=.tuple []) (H1':=[(21,.blk 40 (D.flat (x31.map aQ.d)))]) 22 [21] rfl rfl (lb rfl) cl26 (.cons (sv (d:=.osl _ _ _) rfl) (.cons (sv (d:=.fn 27 []) rfl) .nil)) rfl rfl ⟨rfl,rfl,by decide,rfl,List.forall_mem_cons.2 ⟨⟨rfl,rfl,(dY aQ rfl),(aY aQ)⟩,List.forall_mem_nil _⟩⟩ (iE _ _ hx31) rfl rfl (List.forall_mem_cons.2 ⟨⟨rfl,(aY aQ)⟩,List.forall_mem_nil _⟩) (by simp only [List.map_cons,List.map_nil,Ent.ren,bC,bG]; rfl)) <|aD ?_)
    refine aF (aA rfl (aN rfl rfl (lb rfl) (sv (d:=.osl _ _ _) rfl)) <|aA rfl (aH rfl rfl (lb rfl) (sv (d:=.osl _ _ _) rfl)) <|aD ?_)
    refine bD ?_
    obtain rfl:=Option.some.inj h
    refine ⟨.inr rfl,(fun i=>if i = 0 then 21 else i),⟨.nil,(.cons (EntW.mix aB rfl (SubC.of_eq rfl) (SubC.of_eq rfl) rfl rfl) (.cons (EntW.lst rfl) (.cons (EntW.lst rfl) .nil))),bB [1000,1001,21] rfl (by decide),(fun i hi=>by first | rfl | (show (if _ then _ else _) = _; (repeat' split) <;> omega))⟩,(.cons (sv (congrArg (D.osl _ _) hk32.symm)) .nil),rfl⟩

theorem mV (a0 : (List aZ)) (r : (List aZ)) (h : jV a0 = some r) : FnH Try.prog 19 [.osl 1000 aQ.sz a0.length] [(1000,.blk 40 (D.flat (a0.map aQ.d)))] (.slice false (r.map aQ.d)) [(1000,.blk 40 (D.flat (a0.map aQ.d)))]:=by
 refine dS (rs:=[.slice false (r.map aQ.d)]) Try.func19 rfl Try.ntmps19 (nle rfl) fun O hO=>?_
 show IWP _ _ _ _ ⟨[(0,.osl 1000 aQ.sz a0.length)],[(1000,.blk 40 (D.flat (a0.map aQ.d)))]⟩ _
 unfold jV at h
 refine aF (aA rfl (aH rfl rfl (lb rfl) (sv (d:=.nils) rfl)) <|aD ?_)
 refine aF (aA rfl (aH rfl rfl (lb rfl) (sv (d:=.nils) rfl)) <|aD ?_)
 refine aT ?_
 refine aF (aA rfl (aH rfl rfl (lb rfl) (sv (d:=.int _ 0) rfl)) <|aD ?_)
 refine bA ?_
 refine cV (α:=Nat × (List aZ) × Int) (fun z=>⟨[(0,.osl 1000 aQ.sz a0.length),(3,.gsl 21 aQ.sz (z.2.1.map aQ.d)),(4,.int .i64 z.2.2)],[(1000,.blk 40 (D.flat (a0.map aQ.d))),(21,.tail 50 aQ.sz z.2.1.length)]⟩) (fun z=>fV a0 z.1 z.2.1 z.2.2 = some r) (fun z=>z.1) (fuel,([] : (List aZ)),0) (fun i=>if i = 21 then 71 else i) ⟨(.s rfl rfl (.cons (.nils rfl) (.sames rfl rfl))),(.cons (EntW.lst rfl) (.cons (.nils rfl) .nil)),bB [1000,71] rfl (by decide),(fun i hi=>by first | rfl | (show (if _ then _ else _) = _; (repeat' split) <;> omega))⟩ ?_ ?_
 ·exact h
 ·
  rintro ⟨n0,v7,v8⟩ h
  cases n0 with
  | zero=>exact absurd h (by unfold fV; exact nofun)
  | succ n0 =>
   unfold fV at h
   refine aT ?_
   obtain ⟨x15,hx15,h⟩:=aR h
   refine aF (aA rfl (mvI rfl rfl rfl rfl) <|aA rfl (aN rfl rfl (lb rfl) (sv (d:=.osl _ _ _) rfl)) <|aA rfl (fE rfl rfl (lb rfl) Try.underlying28 (sv (d:=.osl _ _ _) rfl)) <|aA rfl (aM rfl rfl (lb rfl) (svI rfl) (svI rfl) rfl hx15) <|aD ?_)
   refine aX (b:=_) rfl (fun hc16=>?_) (fun hc16=>?_)
   ·
    replace h:=bY h hc16
    refine aU ?_
    refine aL ?_
    refine aT ?_
    refine bA ?_
    obtain ⟨x17,hx17,h⟩:=aS h
    obtain ⟨x18,hx18,h⟩:=aS h
    obtain ⟨x19,hx19,h⟩:=aS h
    refine aW (aA rfl (aN rfl rfl (lb rfl) (sv (d:=.gsl _ _ _) rfl)) <|aA rfl (aN rfl rfl (lb rfl) (sv (d:=.osl _ _ _) rfl)) <|aA rfl (mvI rfl rfl rfl rfl) <|aA rfl (gP aQ.toEnc0 rfl rfl (lb rfl) Try.underlying28 ti40 (sv (d:=.osl _ _ _) rfl) rfl (svI rfl) hx17) <|aA rfl (wI aQ.toEnc0 (cs:=q9) rfl rfl (lb rfl) Try.underlying40 ag40 ti40 (by decide) (svR rfl) rfl hx18 (nle rfl) rfl) <|aA rfl (uQ aQ ([x18] : (List aZ)) 22 rfl rfl (lb rfl) Try.underlying46 ti50 rfl (.cons (svA q9 rfl) .nil) rfl rfl (by decide)) <|aA rfl (aAF aQ 23 rfl rfl (lb rfl) Try.underlying46 ti50 rfl rfl rfl rfl (svg rfl) hx19) <|aA rfl (aH rfl rfl (lb rfl) (sv (d:=.gsl _ _ _) rfl)) <|bL ?_)
    refine bR ?_
    refine aL ?_
    obtain ⟨x20,hx20,h⟩:=aR h
    refine aW (aA rfl (mvI rfl rfl rfl rfl) <|aA rfl (cQ rfl rfl (lb rfl) (svI rfl) (sv (d:=.int _ 1) rfl) rfl hx20) <|aA rfl (asI rfl rfl rfl rfl) <|bL ?_)
    refine aL ⟨(n0,x19,x20),(fun i=>if i = 21 then 23 else i),⟨(.sames rfl rfl),(.cons (EntW.lst rfl) (.cons (.tail rfl) .nil)),bB [1000,23] rfl (by decide),(fun i hi=>by first | rfl | (show (if _ then _ else _) = _; (repeat' split) <;> omega))⟩,?_,?_⟩
    exact h
    exact Nat.lt_succ_self _
   ·
    replace h:=bZ h hc16
    refine dD ?_
    refine bV ?_
    refine bV ?_
    refine dE ?_
    refine aL ?_
    refine aF (aA rfl (aN rfl rfl (lb rfl) (sv (d:=.gsl _ _ _) rfl)) <|aA rfl (aH rfl rfl (lb rfl) (sv (d:=.gsl _ _ _) rfl)) <|aD ?_)
    refine bD ?_
    obtain rfl:=Option.some.inj h
    refine ⟨.inr rfl,(fun i=>i),⟨.nil,(.cons (EntW.lst rfl) .nil),bB [1000] rfl (by decide),fun _ _=>rfl⟩,(.cons (svg_of rfl rfl) .nil),rfl⟩

theorem dQ (a0 : Int) (a1 : Int) (a2 : Int) (a3 : (List aI)) (a4 : Int) (a5 : Int) (a6 : (List aG)) (a7 : Int) (a8 : (List Int)) (r : (List Int)) (h : cM a0 a1 a2 a3 a4 a5 a6 a7 a8 = some r) : FnH Try.prog 11 [.ref 1000 0,.int .i64 a0] [(1000,.blk 60 (mixD aB.toEnc0 (w20 a1 a2 a3 a4 a5) a6 [.int .i64 a7,.osl 1001 (eInt .i64).sz a8.length])),(1001,.blk 3 (D.flat (a8.map (eInt .i64).d)))] (.osl 0 (eInt .i64).sz r.length) [(1000,.blk 60 (mixD aB.toEnc0 (w20 a1 a2 a3 a4 a5) a6 [.int .i64 a7,.osl 1001 (eInt .i64).sz a8.length])),(1001,.blk 3 (D.flat (a8.map (eInt .i64).d))),(0,.blk 3 (D.flat (r.map (eInt .i64).d)))]:=by
 refine dS (rs:=[.osl 0 (eInt .i64).sz r.length]) Try.func11 rfl Try.ntmps11 (nle rfl) fun O hO=>?_
 show IWP _ _ _ _ ⟨[(0,.ref 1000 0),(1,.int .i64 a0)],[(1000,.blk 60 (mixD aB.toEnc0 (w20 a1 a2 a3 a4 a5) a6 [.int .i64 a7,.osl 1001 (eInt .i64).sz a8.length])),(1001,.blk 3 (D.flat (a8.map (eInt .i64).d)))]⟩ _
 unfold cM at h
 refine aF (aA rfl (aH rfl rfl (lb rfl) (sv (d:=.nils) rfl)) <|aD ?_)
 refine aT ?_
 refine aF (aA rfl (mvR rfl rfl rfl rfl) <|aA rfl (lG rfl rfl (lb rfl) Try.underlying26 (svR rfl) (sv (d:=.nilp) rfl)) <|aD ?_)
 refine fD rfl rfl ?_
 refine aU ?_
 refine aL ?_
 refine aF (aA rfl (aH rfl rfl (lb rfl) (sv (d:=.nils) rfl)) <|aD ?_)
 obtain ⟨x1,hx1,h⟩:=aS h
 refine aF (aA rfl (mvR rfl rfl rfl rfl) <|aA rfl (mvI rfl rfl rfl rfl) <|aA rfl (fA (r':=.int .i64 x1) (V:=[(1000,.blk 60 (mixD aB.toEnc0 (w20 a1 a2 a3 a4 a5) a6 [.int .i64 a7,.osl 1001 (eInt .i64).sz a8.length])),(1001,.blk 3 (D.flat (a8.map (eInt .i64).d)))]) 0 [1000,1001] rfl rfl (lb rfl) cl28 (.cons (svR rfl) (.cons (svI rfl) .nil)) rfl rfl rfl ⟨by decide,rfl,List.forall_mem_cons.2 ⟨⟨rfl,rfl,(eP aB rfl rfl rfl),(bF aB rfl rfl)⟩,List.forall_mem_cons.2 ⟨⟨rfl,rfl,(dY (eInt .i64) rfl),(aY (eInt .i64))⟩,List.forall_mem_nil _⟩⟩⟩ (eU _ _ _ _ _ _ _ _ _ _ hx1) rfl rfl (List.forall_mem_cons.2 ⟨⟨rfl,(bF aB rfl rfl)⟩,List.forall_mem_cons.2 ⟨⟨rfl,(aY (eInt .i64))⟩,List.forall_mem_nil _⟩⟩) (by simp only [List.map_cons,List.map_nil,Ent.ren,bC,bG,bK]; rfl) (List.forall_mem_cons.2 ⟨rfl,List.forall_mem_cons.2 ⟨rfl,List.forall_mem_nil _⟩⟩) rfl) <|aA rfl (asI rfl rfl rfl rfl) <|aD ?_)
 refine aT ?_
 refine bA ?_
 refine cV (α:=Nat × (List Int) × Int) (fun z=>⟨[(0,.ref 1000 0),(5,.osl 21 (eInt .i64).sz z.2.1.length),(6,.int .i64 z.2.2)],[(1000,.blk 60 (mixD aB.toEnc0 (w20 a1 a2 a3 a4 a5) a6 [.int .i64 a7,.osl 1001 (eInt .i64).sz a8.length])),(21,.blk 3 (D.flat (z.2.1.map (eInt .i64).d))),(1001,.blk 3 (D.flat (a8.map (eInt .i64).d)))]⟩) (fun z=>eJ a1 a2 a3 a4 a5 a6 a7 a8 z.1 z.2.1 z.2.2 = some r) (fun z=>z.1) (fuel,([] : (List Int)),x1) (fun i=>if i = 21 then 71 else i) ⟨(.s rfl rfl (.cons (.nilo rfl) (.sames rfl rfl))),(.cons (EntW.mix aB rfl (SubC.of_eq rfl) (SubC.of_eq rfl) rfl rfl) (.cons (.nilb rfl) (.cons (EntW.lst rfl) .nil))),bB [1000,71,1001] rfl (by decide),(fun i hi=>by first | rfl | (show (if _ then _ else _) = _; (repeat' split) <;> omega))⟩ ?_ ?_
 ·exact h
 ·
  rintro ⟨n0,v14,v15⟩ h
  cases n0 with
  | zero=>exact absurd h (by unfold eJ; exact nofun)
  | succ n0 =>
   unfold eJ at h
   refine aT ?_
   obtain ⟨x28,hx28,h⟩:=aR h
   obtain ⟨x29,hx29,h⟩:=aS h
   obtain ⟨hk30,h⟩:=jN h
   obtain ⟨x31,hx31,h⟩:=aS h
   obtain ⟨x32,hx32,h⟩:=aR h
   obtain ⟨x33,hx33,h⟩:=aR h
   refine aF (aA rfl (mvI rfl rfl rfl rfl) <|aA rfl (aM rfl rfl (lb rfl) (svI rfl) (sv (d:=.int _ (-1)) rfl) rfl hx28) <|aA rfl (mvB rfl rfl rfl rfl) <|aC rfl rfl (.one rfl) rfl (by decide) (fun hb=>(mvR rfl rfl rfl rfl)) <|aC rfl rfl (.one rfl) rfl (by decide) (fun hb=>(mvI rfl rfl rfl rfl)) <|aC rfl rfl (.one rfl) rfl (by decide) (fun hb=>(aJ rfl rfl (lb rfl) (svcR rfl hb))) <|aC rfl rfl (.one rfl) rfl (by decide) (fun hb=>(aV rfl rfl (lb rfl) Try.underlying60 rfl ti58 (by decide) (svcR rfl hb) (off':=5) rfl)) <|aC rfl rfl (.one rfl) rfl (by decide) (fun hb=>(bX aB.toEnc0 rfl rfl (lb rfl) Try.underlying58 ti57 (svcR rfl hb) (hk30 hb) (svcI rfl hb) (gd_t hx29 hb))) <|aC rfl rfl (.one rfl) rfl (by decide) (fun hb=>(bJ rfl rfl (lb rfl) Try.underlying57 rfl ti3 (by decide) (svcR rfl hb) (k':=1) rfl)) <|aC rfl rfl (.one rfl) rfl (by decide) (fun hb=>(bP aB.toEnc0 (b:=5) (k:=1) (d:=.int _ _) rfl rfl (lb rfl) Try.underlying3 ag3 ti3 (by decide) (svcR rfl hb) rfl rfl (gd_t hx31 hb) (nle rfl) rfl)) <|aC rfl rfl (.one rfl) rfl (by decide) (fun hb=>(aM rfl rfl (lb rfl) (svcI rfl hb) (sv (d:=.int _ (-1)) rfl) rfl hx32)) <|aA rfl (bO rfl rfl (lb rfl) (svB rfl) rfl rfl hx33) <|aD ?_)
   refine aX (b:=_) rfl (fun hc34=>?_) (fun hc34=>?_)
   ·
    replace h:=bY h hc34
    refine aU ?_
    refine aL ?_
    refine bA ?_
    obtain ⟨x35,hx35,h⟩:=aS h
    obtain ⟨hk36,h⟩:=jN h
    obtain ⟨x37,hx37,h⟩:=aS h
    refine aF (aA rfl (mvR rfl rfl rfl rfl) <|aA rfl (mvI rfl rfl rfl rfl) <|aA rfl (aJ rfl rfl (lb rfl) (svR rfl)) <|aA rfl (faR 5 rfl rfl rfl Try.underlying60 rfl ti58 (lb rfl) rfl rfl) <|aA rfl (bX aB.toEnc0 rfl rfl (lb rfl) Try.underlying58 ti57 (svR rfl) hk36 (svI rfl) hx35) <|aA rfl (bJ rfl rfl (lb rfl) Try.underlying57 rfl ti3 (by decide) (svR rfl) (k':=1) rfl) <|aA rfl (bP aB.toEnc0 (b:=5) (k:=1) (d:=.int _ _) rfl rfl (lb rfl) Try.underlying3 ag3 ti3 (by decide) (svR rfl) rfl rfl hx37 (nle rfl) rfl) <|aA rfl (asI rfl rfl rfl rfl) <|aD ?_)
    obtain ⟨x38,hx38,h⟩:=aS h
    obtain ⟨x39,hx39,h⟩:=aS h
    refine aW (aA rfl (aN rfl rfl (lb rfl) (sv (d:=.osl _ _ _) rfl)) <|aA rfl (mvR rfl rfl rfl rfl) <|aA rfl (mvI rfl rfl rfl rfl) <|aA rfl (fA (r':=.int .i64 x38) (V:=[(1000,.blk 60 (mixD aB.toEnc0 (w20 a1 a2 a3 a4 a5) a6 [.int .i64 a7,.osl 1001 (eInt .i64).sz a8.length])),(1001,.blk 3 (D.flat (a8.map (eInt .i64).d)))]) 22 [1000,1001] rfl rfl (lb rfl) cl25 (.cons (svR rfl) (.cons (svI rfl) .nil)) rfl rfl rfl ⟨by decide,rfl,List.forall_mem_cons.2 ⟨⟨rfl,rfl,(eP aB rfl rfl rfl),(bF aB rfl rfl)⟩,List.forall_mem_cons.2 ⟨⟨rfl,rfl,(dY (eInt .i64) rfl),(aY (eInt .i64))⟩,List.forall_mem_nil _⟩⟩⟩ (gZ _ _ _ _ _ _ _ _ _ _ hx38) rfl rfl (List.forall_mem_cons.2 ⟨⟨rfl,(bF aB rfl rfl)⟩,List.forall_mem_cons.2 ⟨⟨rfl,(aY (eInt .i64))⟩,List.forall_mem_nil _⟩⟩) (by simp only [List.map_cons,List.map_nil,Ent.ren,bC,bG,bK]; rfl) (List.forall_mem_cons.2 ⟨rfl,List.forall_mem_cons.2 ⟨rfl,List.forall_mem_nil _⟩⟩) rfl) <|aA rfl (jZ (eInt .i64).toEnc0 ([x38] : (List Int)) 22 rfl rfl (lb rfl) Try.underlying24 ti3 rfl (.cons (svI rfl) .nil) rfl rfl (by decide)) <|aA rfl (iX (eInt .i64).toEnc0 23 rfl rfl (lb rfl) Try.underlying24 ti3 rfl rfl rfl rfl rfl (nS (eInt .i64).toEnc0 rfl rfl rfl) hx39) <|aA rfl (aH rfl rfl (lb rfl) (sv (d:=.osl _ _ _) rfl)) <|bL ?_)
    refine bR ?_
    refine aL ⟨(n0,x39,x37.up),(fun i=>if i = 21 then 23 else i),⟨(.sames rfl rfl),(.cons (EntW.mix aB rfl (SubC.of_eq rfl) (SubC.of_eq rfl) rfl rfl) (.cons (EntW.lst rfl) (.cons (EntW.lst rfl) .nil))),bB [1000,23,1001] rfl (by decide),(fun i hi=>by first | rfl | (show (if _ then _ else _) = _; (repeat' split) <;> omega))⟩,?_,?_⟩
    exact h
    exact Nat.lt_succ_self _
   ·
    replace h:=bZ h hc34
    refine dD ?_
    refine bV ?_
    refine bV ?_
    refine dE ?_
    refine aL ?_
    refine aF (aA rfl (aN rfl rfl (lb rfl) (sv (d:=.osl _ _ _) rfl)) <|aA rfl (aH rfl rfl (lb rfl) (sv (d:=.osl _ _ _) rfl)) <|aD ?_)
    refine bD ?_
    obtain rfl:=Option.some.inj h
    refine ⟨.inr rfl,(fun i=>if i = 0 then 21 else i),⟨.nil,(.cons (EntW.mix aB rfl (SubC.of_eq rfl) (SubC.of_eq rfl) rfl rfl) (.cons (EntW.lst rfl) (.cons (EntW.lst rfl) .nil))),bB [1000,1001,21] rfl (by decide),(fun i hi=>by first | rfl | (show (if _ then _ else _) = _; (repeat' split) <;> omega))⟩,(.cons (sv rfl) .nil),rfl⟩

theorem jS (a0 : (List Int)) (r : (List Int)) (h : gU a0 = some r) : FnH Try.prog 30 [.osl 1000 (eInt .i64).sz a0.length] [(1000,.blk 3 (D.flat (a0.map (eInt .i64).d)))] (retD []) [(1000,.blk 3 (D.flat (r.map (eInt .i64).d)))]:=p_sortI a0 r h

theorem lI (a0 : (List Int)) (a1 : Int) (a2 : Int) (a3 : (List aI)) (a4 : Int) (a5 : Int) (a6 : (List aG)) (a7 : Int) (a8 : (List Int)) (r : (List Int)) (h : jE a0 a1 a2 a3 a4 a5 a6 a7 a8 = some r) : FnH Try.prog 13 [.ref 1000 0, .slice false (a0.map (eInt .i64).d)] [(1000, .blk 60 (mixD aB.toEnc0 (w20 a1 a2 a3 a4 a5) a6 [.int .i64 a7, .osl 1001 (eInt .i64).sz a8.length])), (1001, .blk 3 (D.flat (a8.map (eInt .i64).d)))] (.osl 0 (eInt .i64).sz r.length) [(1000, .blk 60 (mixD aB.toEnc0 (w20 a1 a2 a3 a4 a5) a6 [.int .i64 a7, .osl 1001 (eInt .i64).sz a8.length])), (1001, .blk 3 (D.flat (a8.map (eInt .i64).d))), (0, .blk 3 (D.flat (r.map (eInt .i64).d)))] := by
 refine dS (rs:=[.osl 0 (eInt .i64).sz r.length]) Try.func13 rfl Try.ntmps13 (nle rfl) fun O hO=>?_
 show IWP _ _ _ _ ⟨[(0,.ref 1000 0),(1,.slice false (a0.map (eInt .i64).d))],[(1000,.blk 60 (mixD aB.toEnc0 (w20 a1 a2 a3 a4 a5) a6 [.int .i64 a7,.osl 1001 (eInt .i64).sz a8.length])),(1001,.blk 3 (D.flat (a8.map (eInt .i64).d)))]⟩ _
 unfold jE at h
 refine aF (aA rfl (aH rfl rfl (lb rfl) (sv (d:=.nils) rfl)) <|aD ?_)
 refine aT ?_
 refine aF (aA rfl (mvR rfl rfl rfl rfl) <|aA rfl (lG rfl rfl (lb rfl) Try.underlying26 (svR rfl) (sv (d:=.nilp) rfl)) <|aD ?_)
 refine fD rfl rfl ?_
 refine aU ?_
 refine aL ?_
 obtain ⟨x1,hx1,h⟩:=aR h
 refine aF (aA rfl (iop_eqE hx1 (uR mS.toEnc0 (n:=64) (a:=false) 0 rfl rfl (lb rfl) rfl ti68 rfl rfl)) <|aD ?_)
 refine aT ?_
 refine aF (aA rfl (mvL rfl rfl rfl rfl) <|aA rfl (eQ (eInt .i64) (l:=a0) rfl rfl (lb rfl) Try.underlying24 (svL rfl)) <|aA rfl (aN rfl rfl (lb rfl) (sv (d:=.int _ 0) rfl)) <|aD ?_)
 refine bA ?_
 refine cV (α:=Nat × Int × (List Bool)) (fun z=>⟨[(0,.ref 1000 0),(5,.ref 0 0),(15,.slice false (a0.map (eInt .i64).d)),(16,.int .i64 (a0.length : Int)),(17,.int .i64 z.2.1)],[(1000,.blk 60 (mixD aB.toEnc0 (w20 a1 a2 a3 a4 a5) a6 [.int .i64 a7,.osl 1001 (eInt .i64).sz a8.length])),(0,.blk 68 (D.flat (z.2.2.map mS.d))),(1001,.blk 3 (D.flat (a8.map (eInt .i64).d)))]⟩) (fun z=>fM a0 a1 a2 a3 a4 a5 a6 a7 a8 z.1 z.2.1 z.2.2 = some r) (fun z=>z.1) (fuel,0,x1) (fun i=>i) ⟨(.sames rfl rfl),(.cons (EntW.mix aB rfl (SubC.of_eq rfl) (SubC.of_eq rfl) rfl rfl) (.cons (EntW.lst rfl) (.cons (EntW.lst rfl) .nil))),bB [1000,0,1001] rfl (by decide),fun _ _=>rfl⟩ ?_ ?_
 ·exact h
 ·
  rintro ⟨n0,v17,v18⟩ h
  cases n0 with
  | zero=>exact absurd h (by unfold fM; exact nofun)
  | succ n0 =>
   unfold fM at h
   obtain ⟨x35,hx35,h⟩:=aR h
   refine aF (aA rfl (aM rfl rfl (lb rfl) (svI rfl) (svI rfl) rfl hx35) <|aD ?_)
   refine aT ?_
   refine aX (b:=_) rfl (fun hc36=>?_) (fun hc36=>?_)
   ·
    replace h:=bY h hc36
    refine aU ?_
    refine aL ?_
    refine aT ?_
    refine bA ?_
    obtain ⟨x37,hx37,h⟩:=aS h
    refine aF (aA rfl (gO (eInt .i64) (cs:=[.int _ _]) rfl rfl (lb rfl) Try.underlying24 ti3 (svL rfl) (svI rfl) hx37 rfl rfl) <|aA rfl (fT rfl rfl (lb rfl) Try.underlying3 ag3 ti3 (by decide) (sv (d:=.fptr [.int _ _]) rfl) (nle rfl)) <|aA rfl (asI rfl rfl rfl rfl) <|aD ?_)
    obtain ⟨x38,hx38,h⟩:=aS h
    refine aF (aA rfl (mvR rfl rfl rfl rfl) <|aA rfl (mvI rfl rfl rfl rfl) <|aA rfl (fA (r':=.int .i64 x38) (V:=[(1000,.blk 60 (mixD aB.toEnc0 (w20 a1 a2 a3 a4 a5) a6 [.int .i64 a7,.osl 1001 (eInt .i64).sz a8.length])),(1001,.blk 3 (D.flat (a8.map (eInt .i64).d)))]) 1 [1000,1001] rfl rfl (lb rfl) cl28 (.cons (svR rfl) (.cons (svI rfl) .nil)) rfl rfl rfl ⟨by decide,rfl,List.forall_mem_cons.2 ⟨⟨rfl,rfl,(eP aB rfl rfl rfl),(bF aB rfl rfl)⟩,List.forall_mem_cons.2 ⟨⟨rfl,rfl,(dY (eInt .i64) rfl),(aY (eInt .i64))⟩,List.forall_mem_nil _⟩⟩⟩ (eU _ _ _ _ _ _ _ _ _ _ hx38) rfl rfl (List.forall_mem_cons.2 ⟨⟨rfl,(bF aB rfl rfl)⟩,List.forall_mem_cons.2 ⟨⟨rfl,(aY (eInt .i64))⟩,List.forall_mem_nil _⟩⟩) (by simp only [List.map_cons,List.map_nil,Ent.ren,bC,bG,bK]; rfl) (List.forall_mem_cons.2 ⟨rfl,List.forall_mem_cons.2 ⟨rfl,List.forall_mem_nil _⟩⟩) rfl) <|aA rfl (asI rfl rfl rfl rfl) <|aD ?_)
    obtain ⟨x39,hx39,h⟩:=aR h
    obtain ⟨x40,hx40,h⟩:=aS h
    obtain ⟨hk41,h⟩:=jN h
    obtain ⟨x42,hx42,h⟩:=aS h
    obtain ⟨x43,hx43,h⟩:=aR h
    refine aF (aA rfl (mvI rfl rfl rfl rfl) <|aA rfl (aM rfl rfl (lb rfl) (svI rfl) (sv (d:=.int _ (-1)) rfl) rfl hx39) <|aA rfl (mvB rfl rfl rfl rfl) <|aC rfl rfl (.one rfl) rfl (by decide) (fun hb=>(mvR rfl rfl rfl rfl)) <|aC rfl rfl (.one rfl) rfl (by decide) (fun hb=>(mvI rfl rfl rfl rfl)) <|aC rfl rfl (.one rfl) rfl (by decide) (fun hb=>(aJ rfl rfl (lb rfl) (svcR rfl hb))) <|aC rfl rfl (.one rfl) rfl (by decide) (fun hb=>(aV rfl rfl (lb rfl) Try.underlying60 rfl ti58 (by decide) (svcR rfl hb) (off':=5) rfl)) <|aC rfl rfl (.one rfl) rfl (by decide) (fun hb=>(bX aB.toEnc0 rfl rfl (lb rfl) Try.underlying58 ti57 (svcR rfl hb) (hk41 hb) (svcI rfl hb) (gd_t hx40 hb))) <|aC rfl rfl (.one rfl) rfl (by decide) (fun hb=>(bJ rfl rfl (lb rfl) Try.underlying57 rfl ti4 (by decide) (svcR rfl hb) (k':=5) rfl)) <|aC rfl rfl (.one rfl) rfl (by decide) (fun hb=>(bP aB.toEnc0 (b:=5) (k:=5) (d:=.bool _) rfl rfl (lb rfl) Try.underlying4 ag4 ti4 (by decide) (svcR rfl hb) rfl rfl (gd_t hx42 hb) (nle rfl) rfl)) <|aC rfl rfl (.one rfl) rfl (by decide) (fun hb=>(eG rfl rfl (lb rfl) (svcB rfl hb))) <|aA rfl (bO rfl rfl (lb rfl) (svB rfl) rfl rfl hx43) <|aD ?_)
    refine aX (b:=_) rfl (fun hc44=>?_) (fun hc44=>?_)
    ·
     replace h:=bY h hc44
     obtain ⟨x45,hx45,h⟩:=aS h
     obtain ⟨hk46,h⟩:=jN h
     obtain ⟨x47,hx47,h⟩:=aS h
     obtain ⟨x48,hx48,h⟩:=aR h
     refine aW (aA rfl (mvI rfl rfl rfl rfl) <|aA rfl (vN mS.toEnc0 rfl rfl (lb rfl) Try.underlying68 ti4 (svR rfl) hk46 (svI rfl) hx45) <|aA rfl (nB mS.toEnc0 (a':=true) rfl rfl ti4 (svR rfl) rfl (sv (d:=.bool true) rfl) rfl rfl rfl hx47 (nle rfl) rfl hx48) <|bL ?_)
     refine bR ?_
     refine aL ?_
     obtain ⟨x49,hx49,h⟩:=aR h
     refine aW (aA rfl (cQ rfl rfl (lb rfl) (svI rfl) (sv (d:=.int _ 1) rfl) rfl hx49) <|aA rfl (mvI rfl rfl rfl rfl) <|bL ?_)
     refine aL ⟨(n0,x49,x48),(fun i=>i),⟨(.sames rfl rfl),(.cons (EntW.mix aB rfl (SubC.of_eq rfl) (SubC.of_eq rfl) rfl rfl) (.cons (EntW.lst rfl) (.cons (EntW.lst rfl) .nil))),bB [1000,0,1001] rfl (by decide),fun _ _=>rfl⟩,?_,?_⟩
     exact h
     exact Nat.lt_succ_self _
    ·
     replace h:=bZ h hc44
     refine aU ?_
     refine bR ?_
     refine aL ?_
     obtain ⟨x50,hx50,h⟩:=aR h
     refine aW (aA rfl (cQ rfl rfl (lb rfl) (svI rfl) (sv (d:=.int _ 1) rfl) rfl hx50) <|aA rfl (mvI rfl rfl rfl rfl) <|bL ?_)
     refine aL ⟨(n0,x50,v18),(fun i=>i),⟨(.sames rfl rfl),(.cons (EntW.mix aB rfl (SubC.of_eq rfl) (SubC.of_eq rfl) rfl rfl) (.cons (EntW.lst rfl) (.cons (EntW.lst rfl) .nil))),bB [1000,0,1001] rfl (by decide),fun _ _=>rfl⟩,?_,?_⟩
     exact h
     exact Nat.lt_succ_self _
   ·
    replace h:=bZ h hc36
    refine dD ?_
    refine bV ?_
    refine bV ?_
    refine dE ?_
    refine aL ?_
    refine aF (aA rfl (aH rfl rfl (lb rfl) (sv (d:=.nils) rfl)) <|aD ?_)
    refine aT ?_
    obtain ⟨hk51,h⟩:=jN h
    refine aF (aA rfl (yK mS.toEnc0 (n:=64) rfl rfl (lb rfl) Try.underlying68 ag68 ti68 (by decide) (svR rfl) rfl hk51 rfl) <|aA rfl (aN rfl rfl (lb rfl) (sv (d:=.int _ 0) rfl)) <|aD ?_)
    refine bA ?_
    refine cV (α:=Nat × (List Int) × Int) (fun z=>⟨[(0,.ref 1000 0),(5,.ref 0 0),(9,.osl 22 (eInt .i64).sz z.2.1.length),(39,.agg (mixD mS.toEnc0 [] v18 [])),(40,.int .i64 z.2.2)],[(1000,.blk 60 (mixD aB.toEnc0 (w20 a1 a2 a3 a4 a5) a6 [.int .i64 a7,.osl 1001 (eInt .i64).sz a8.length])),(0,.blk 68 (D.flat (v18.map mS.d))),(22,.blk 3 (D.flat (z.2.1.map (eInt .i64).d))),(1001,.blk 3 (D.flat (a8.map (eInt .i64).d)))]⟩) (fun z=>fL a1 a2 a3 a4 a5 a6 a7 a8 v18 z.1 z.2.1 z.2.2 = some r) (fun z=>z.1) (fuel,([] : (List Int)),0) (fun i=>if i = 22 then 73 else i) ⟨(.s rfl rfl (.s rfl rfl (.cons (.nilo rfl) (.cons (SlW.mix mS rfl) (.sames rfl rfl))))),(.cons (EntW.mix aB rfl (SubC.of_eq rfl) (SubC.of_eq rfl) rfl rfl) (.cons (EntW.lst rfl) (.cons (.nilb rfl) (.cons (EntW.lst rfl) .nil)))),bB [1000,0,73,1001] rfl (by decide),(fun i hi=>by first | rfl | (show (if _ then _ else _) = _; (repeat' split) <;> omega))⟩ ?_ ?_
    ·exact h
    ·
     rintro ⟨n1,v98,v99⟩ h
     cases n1 with
     | zero=>exact absurd h (by unfold fL; exact nofun)
     | succ n1 =>
      unfold fL at h
      obtain ⟨x146,hx146,h⟩:=aR h
      refine aF (aA rfl (aM rfl rfl (lb rfl) (svI rfl) (sv (d:=.int _ 64) rfl) rfl hx146) <|aD ?_)
      refine aT ?_
      refine aX (b:=_) rfl (fun hc147=>?_) (fun hc147=>?_)
      ·
       replace h:=bY h hc147
       refine aU ?_
       refine aL ?_
       refine aT ?_
       refine bA ?_
       obtain ⟨x148,hx148,h⟩:=aS h
       refine aF (aA rfl (mvI rfl rfl rfl rfl) <|aA rfl (wJ mS (d:=.bool _) rfl rfl (lb rfl) Try.underlying68 Try.underlying4 ag4 ti4 (sv (d:=.agg (mixD mS.toEnc0 [] v18 [])) rfl) (svI rfl) hk51 hx148 rfl) <|aA rfl (asI rfl rfl rfl rfl) <|aA rfl (asB rfl rfl rfl rfl) <|aD ?_)
       refine aT ?_
       refine aF (aA rfl (mvI rfl rfl rfl rfl) <|aA rfl (asI rfl rfl rfl rfl) <|aD ?_)
       refine bA ?_
       refine cV (α:=Nat × Bool × Int) (fun z=>⟨[(0,.ref 1000 0),(5,.ref 0 0),(9,.osl 22 (eInt .i64).sz v98.length),(39,.agg (mixD mS.toEnc0 [] v18 [])),(40,.int .i64 v99),(10,.int .i64 v99),(11,.bool z.2.1),(12,.int .i64 z.2.2)],[(1000,.blk 60 (mixD aB.toEnc0 (w20 a1 a2 a3 a4 a5) a6 [.int .i64 a7,.osl 1001 (eInt .i64).sz a8.length])),(0,.blk 68 (D.flat (v18.map mS.d))),(22,.blk 3 (D.flat (v98.map (eInt .i64).d))),(1001,.blk 3 (D.flat (a8.map (eInt .i64).d)))]⟩) (fun z=>gJ a1 a2 a3 a4 a5 a6 a7 a8 v18 v98 v99 (fL a1 a2 a3 a4 a5 a6 a7 a8 v18 n1) z.1 z.2.1 z.2.2 = some r) (fun z=>z.1) (fuel,x148,v99) (fun i=>i) ⟨(.s rfl rfl (.s rfl rfl (.s rfl rfl (.cons (SlW.mix mS rfl) (.sames rfl rfl))))),(.cons (EntW.mix aB rfl (SubC.of_eq rfl) (SubC.of_eq rfl) rfl rfl) (.cons (EntW.lst rfl) (.cons (EntW.lst rfl) (.cons (EntW.lst rfl) .nil)))),bB [1000,0,22,1001] rfl (by decide),fun _ _=>rfl⟩ ?_ ?_
       ·exact h
       ·
        rintro ⟨n2,v161,v162⟩ h
        cases n2 with
        | zero=>exact absurd h (by unfold gJ; exact nofun)
        | succ n2 =>
         unfold gJ at h
         refine aT ?_
         obtain ⟨x175,hx175,h⟩:=aS h
         obtain ⟨hk176,h⟩:=jN h
         obtain ⟨x177,hx177,h⟩:=aS h
         obtain ⟨x178,hx178,h⟩:=aR h
         obtain ⟨x179,hx179,h⟩:=aR h
         refine aF (aA rfl (mvB rfl rfl rfl rfl) <|aA rfl (mvB rfl rfl rfl rfl) <|aC rfl rfl (.one rfl) rfl (by decide) (fun hb=>(mvR rfl rfl rfl rfl)) <|aC rfl rfl (.one rfl) rfl (by decide) (fun hb=>(mvI rfl rfl rfl rfl)) <|aC rfl rfl (.one rfl) rfl (by decide) (fun hb=>(aJ rfl rfl (lb rfl) (svcR rfl hb))) <|aC rfl rfl (.one rfl) rfl (by decide) (fun hb=>(aV rfl rfl (lb rfl) Try.underlying60 rfl ti58 (by decide) (svcR rfl hb) (off':=5) rfl)) <|aC rfl rfl (.one rfl) rfl (by decide) (fun hb=>(bX aB.toEnc0 rfl rfl (lb rfl) Try.underlying58 ti57 (svcR rfl hb) (hk176 hb) (svcI rfl hb) (gd_t hx175 hb))) <|aC rfl rfl (.one rfl) rfl (by decide) (fun hb=>(bJ rfl rfl (lb rfl) Try.underlying57 rfl ti3 (by decide) (svcR rfl hb) (k':=1) rfl)) <|aC rfl rfl (.one rfl) rfl (by decide) (fun hb=>(bP aB.toEnc0 (b:=5) (k:=1) (d:=.int _ _) rfl rfl (lb rfl) Try.underlying3 ag3 ti3 (by decide) (svcR rfl hb) rfl rfl (gd_t hx177 hb) (nle rfl) rfl)) <|aC rfl rfl (.one rfl) rfl (by decide) (fun hb=>(aM rfl rfl (lb rfl) (svcI rfl hb) (sv (d:=.int _ (-1)) rfl) rfl hx178)) <|aA rfl (bO rfl rfl (lb rfl) (svB rfl) rfl rfl hx179) <|aD ?_)
         refine aX (b:=_) rfl (fun hc180=>?_) (fun hc180=>?_)
         ·
          replace h:=bY h hc180
          refine aU ?_
          refine aL ?_
          refine bA ?_
          obtain ⟨x181,hx181,h⟩:=aS h
          obtain ⟨hk182,h⟩:=jN h
          obtain ⟨x183,hx183,h⟩:=aS h
          refine aF (aA rfl (mvR rfl rfl rfl rfl) <|aA rfl (mvI rfl rfl rfl rfl) <|aA rfl (aJ rfl rfl (lb rfl) (svR rfl)) <|aA rfl (faR 5 rfl rfl rfl Try.underlying60 rfl ti58 (lb rfl) rfl rfl) <|aA rfl (bX aB.toEnc0 rfl rfl (lb rfl) Try.underlying58 ti57 (svR rfl) hk182 (svI rfl) hx181) <|aA rfl (bJ rfl rfl (lb rfl) Try.underlying57 rfl ti3 (by decide) (svR rfl) (k':=1) rfl) <|aA rfl (bP aB.toEnc0 (b:=5) (k:=1) (d:=.int _ _) rfl rfl (lb rfl) Try.underlying3 ag3 ti3 (by decide) (svR rfl) rfl rfl hx183 (nle rfl) rfl) <|aA rfl (asI rfl rfl rfl rfl) <|aD ?_)
          obtain ⟨x184,hx184,h⟩:=aS h
          obtain ⟨hk185,h⟩:=jN h
          obtain ⟨x186,hx186,h⟩:=aS h
          refine aW (aA rfl (mvI rfl rfl rfl rfl) <|aA rfl (vN mS.toEnc0 rfl rfl (lb rfl) Try.underlying68 ti4 (svR rfl) hk185 (svI rfl) hx184) <|aA rfl (fO mS.toEnc0 (d:=.bool _) rfl rfl (lb rfl) Try.underlying4 ag4 ti4 (by decide) (svR rfl) rfl hx186 (nle rfl) rfl) <|aA rfl (eG rfl rfl (lb rfl) (svB rfl)) <|aA rfl (asB rfl rfl rfl rfl) <|bL ?_)
          refine bR ?_
          refine aL ⟨(n2,(!x186),x183.up),(fun i=>i),⟨(.s rfl rfl (.s rfl rfl (.s rfl rfl (.cons (SlW.mix mS rfl) (.sames rfl rfl))))),(.cons (EntW.mix aB rfl (SubC.of_eq rfl) (SubC.of_eq rfl) rfl rfl) (.cons (EntW.lst rfl) (.cons (EntW.lst rfl) (.cons (EntW.lst rfl) .nil)))),bB [1000,0,22,1001] rfl (by decide),fun _ _=>rfl⟩,?_,?_⟩
          exact h
          exact Nat.lt_succ_self _
         ·
          replace h:=bZ h hc180
          refine dD ?_
          refine bV ?_
          refine bV ?_
          refine dE ?_
          refine aL ?_
          refine aF (aA rfl (mvB rfl rfl rfl rfl) <|aD ?_)
          refine aX (b:=_) rfl (fun hc187=>?_) (fun hc187=>?_)
          ·
           replace h:=bY h hc187
           obtain ⟨x188,hx188,h⟩:=aS h
           obtain ⟨x189,hx189,h⟩:=aS h
           refine aW (aA rfl (aN rfl rfl (lb rfl) (sv (d:=.osl _ _ _) rfl)) <|aA rfl (mvR rfl rfl rfl rfl) <|aA rfl (mvI rfl rfl rfl rfl) <|aA rfl (fA (r':=.int .i64 x188) (V:=[(1000,.blk 60 (mixD aB.toEnc0 (w20 a1 a2 a3 a4 a5) a6 [.int .i64 a7,.osl 1001 (eInt .i64).sz a8.length])),(1001,.blk 3 (D.flat (a8.map (eInt .i64).d)))]) 23 [1000,1001] rfl rfl (lb rfl) cl25 (.cons (svR rfl) (.cons (svI rfl) .nil)) rfl rfl rfl ⟨by decide,rfl,List.forall_mem_cons.2 ⟨⟨rfl,rfl,(eP aB rfl rfl rfl),(bF aB rfl rfl)⟩,List.forall_mem_cons.2 ⟨⟨rfl,rfl,(dY (eInt .i64) rfl),(aY (eInt .i64))⟩,List.forall_mem_nil _⟩⟩⟩ (gZ _ _ _ _ _ _ _ _ _ _ hx188) rfl rfl (List.forall_mem_cons.2 ⟨⟨rfl,(bF aB rfl rfl)⟩,List.forall_mem_cons.2 ⟨⟨rfl,(aY (eInt .i64))⟩,List.forall_mem_nil _⟩⟩) (by simp only [List.map_cons,List.map_nil,Ent.ren,bC,bG,bK]; rfl) (List.forall_mem_cons.2 ⟨rfl,List.forall_mem_cons.2 ⟨rfl,List.forall_mem_nil _⟩⟩) rfl) <|aA rfl (jZ (eInt .i64).toEnc0 ([x188] : (List Int)) 23 rfl rfl (lb rfl) Try.underlying24 ti3 rfl (.cons (svI rfl) .nil) rfl rfl (by decide)) <|aA rfl (iX (eInt .i64).toEnc0 24 rfl rfl (lb rfl) Try.underlying24 ti3 rfl rfl rfl rfl rfl (nS (eInt .i64).toEnc0 rfl rfl rfl) hx189) <|aA rfl (aH rfl rfl (lb rfl) (sv (d:=.osl _ _ _) rfl)) <|bL ?_)
           refine bR ?_
           refine aL ?_
           obtain ⟨x190,hx190,h⟩:=aR h
           refine aW (aA rfl (cQ rfl rfl (lb rfl) (svI rfl) (sv (d:=.int _ 1) rfl) rfl hx190) <|aA rfl (mvI rfl rfl rfl rfl) <|bL ?_)
           refine aL ⟨(n1,x189,x190),(fun i=>if i = 22 then 24 else i),⟨(.s rfl rfl (.s rfl rfl (.s rfl rfl (.cons (SlW.mix mS rfl) (.sames rfl rfl))))),(.cons (EntW.mix aB rfl (SubC.of_eq rfl) (SubC.of_eq rfl) rfl rfl) (.cons (EntW.lst rfl) (.cons (EntW.lst rfl) (.cons (EntW.lst rfl) .nil)))),bB [1000,0,24,1001] rfl (by decide),(fun i hi=>by first | rfl | (show (if _ then _ else _) = _; (repeat' split) <;> omega))⟩,?_,?_⟩
           exact h
           exact Nat.lt_succ_self _
          ·
           replace h:=bZ h hc187
           refine aU ?_
           refine bR ?_
           refine aL ?_
           obtain ⟨x191,hx191,h⟩:=aR h
           refine aW (aA rfl (cQ rfl rfl (lb rfl) (svI rfl) (sv (d:=.int _ 1) rfl) rfl hx191) <|aA rfl (mvI rfl rfl rfl rfl) <|bL ?_)
           refine aL ⟨(n1,v98,x191),(fun i=>i),⟨(.s rfl rfl (.s rfl rfl (.s rfl rfl (.cons (SlW.mix mS rfl) (.sames rfl rfl))))),(.cons (EntW.mix aB rfl (SubC.of_eq rfl) (SubC.of_eq rfl) rfl rfl) (.cons (EntW.lst rfl) (.cons (EntW.lst rfl) (.cons (EntW.lst rfl) .nil)))),bB [1000,0,22,1001] rfl (by decide),fun _ _=>rfl⟩,?_,?_⟩
           exact h
           exact Nat.lt_succ_self _
      ·
       replace h:=bZ h hc147
       refine dD ?_
       refine bV ?_
       refine bV ?_
       refine dE ?_
       refine aL ?_
       obtain ⟨x192,hx192,h⟩:=aS h
       obtain ⟨hk193,h⟩:=jN h
       refine aF (aA rfl (aN rfl rfl (lb rfl) (sv (d:=.osl _ _ _) rfl)) <|aA rfl (bH (r':=.tuple []) (H1':=[(22,.blk 3 (D.flat (x192.map (eInt .i64).d)))]) 23 [22] rfl rfl (lb rfl) cl30 (.cons (sv (d:=.osl _ _ _) rfl) .nil) rfl rfl ⟨rfl,rfl,by decide,rfl,List.forall_mem_cons.2 ⟨⟨rfl,rfl,(dY (eInt .i64) rfl),(aY (eInt .i64))⟩,List.forall_mem_nil _⟩⟩ (jS _ _ hx192) rfl rfl (List.forall_mem_cons.2 ⟨⟨rfl,(aY (eInt .i64))⟩,List.forall_mem_nil _⟩) (by simp only [List.map_cons,List.map_nil,Ent.ren,bC,bG]; rfl)) <|aD ?_)
       refine aF (aA rfl (aN rfl rfl (lb rfl) (sv (d:=.osl _ _ _) rfl)) <|aA rfl (aH rfl rfl (lb rfl) (sv (d:=.osl _ _ _) rfl)) <|aD ?_)
       refine bD ?_
       obtain rfl:=Option.some.inj h
       refine ⟨.inr rfl,(fun i=>if i = 0 then 22 else i),⟨.nil,(.cons (EntW.mix aB rfl (SubC.of_eq rfl) (SubC.of_eq rfl) rfl rfl) (.cons (EntW.lst rfl) (.cons (EntW.lst rfl) .nil))),bB [1000,1001,22] rfl (by decide),(fun i hi=>by first | rfl | (show (if _ then _ else _) = _; (repeat' split) <;> omega))⟩,(.cons (sv (congrArg (D.osl _ _) hk193.symm)) .nil),rfl⟩

theorem jR (a0 : Int) (a1 : Int) (a2 : Int) (a3 : (List aI)) (a4 : Int) (a5 : Int) (a6 : (List aG)) (a7 : Int) (a8 : (List Int)) (r : (Int × Int × Int × (List aI) × Int × Int × (List aG) × Int × (List Int))) (h : fS a0 a1 a2 a3 a4 a5 a6 a7 a8 = some r) : FnH Try.prog 20 [.ref 1000 0,.int .i64 a0] [(1000,.blk 60 (mixD aB.toEnc0 (w20 a1 a2 a3 a4 a5) a6 [.int .i64 a7,.osl 1001 (eInt .i64).sz a8.length])),(1001,.blk 3 (D.flat (a8.map (eInt .i64).d)))] (.int .i64 r.1) [(1000,.blk 60 (mixD aB.toEnc0 (w20 r.2.1 r.2.2.1 r.2.2.2.1 r.2.2.2.2.1 r.2.2.2.2.2.1) r.2.2.2.2.2.2.1 [.int .i64 r.2.2.2.2.2.2.2.1,.osl 0 (eInt .i64).sz r.2.2.2.2.2.2.2.2.length])),(0,.blk 3 (D.flat (r.2.2.2.2.2.2.2.2.map (eInt .i64).d)))]:=by
 refine dS (rs:=[.int .i64 r.1]) Try.func20 rfl Try.ntmps20 (nle rfl) fun O hO=>?_
 show IWP _ _ _ _ ⟨[(0,.ref 1000 0),(1,.int .i64 a0)],[(1000,.blk 60 (mixD aB.toEnc0 (w20 a1 a2 a3 a4 a5) a6 [.int .i64 a7,.osl 1001 (eInt .i64).sz a8.length])),(1001,.blk 3 (D.flat (a8.map (eInt .i64).d)))]⟩ _
 unfold fS at h
 refine aF (aA rfl (aH rfl rfl (lb rfl) (sv (d:=.int _ 0) rfl)) <|aD ?_)
 refine aT ?_
 refine aF (aA rfl (mvR rfl rfl rfl rfl) <|aA rfl (lG rfl rfl (lb rfl) Try.underlying26 (svR rfl) (sv (d:=.nilp) rfl)) <|aD ?_)
 refine fD rfl rfl ?_
 refine aU ?_
 refine aL ?_
 obtain ⟨x1,hx1,h⟩:=aS h
 refine aF (aA rfl (mvR rfl rfl rfl rfl) <|aA rfl (mvI rfl rfl rfl rfl) <|aA rfl (fA (r':=.int .i64 x1) (V:=[(1000,.blk 60 (mixD aB.toEnc0 (w20 a1 a2 a3 a4 a5) a6 [.int .i64 a7,.osl 1001 (eInt .i64).sz a8.length])),(1001,.blk 3 (D.flat (a8.map (eInt .i64).d)))]) 0 [1000,1001] rfl rfl (lb rfl) cl28 (.cons (svR rfl) (.cons (svI rfl) .nil)) rfl rfl rfl ⟨by decide,rfl,List.forall_mem_cons.2 ⟨⟨rfl,rfl,(eP aB rfl rfl rfl),(bF aB rfl rfl)⟩,List.forall_mem_cons.2 ⟨⟨rfl,rfl,(dY (eInt .i64) rfl),(aY (eInt .i64))⟩,List.forall_mem_nil _⟩⟩⟩ (eU _ _ _ _ _ _ _ _ _ _ hx1) rfl rfl (List.forall_mem_cons.2 ⟨⟨rfl,(bF aB rfl rfl)⟩,List.forall_mem_cons.2 ⟨⟨rfl,(aY (eInt .i64))⟩,List.forall_mem_nil _⟩⟩) (by simp only [List.map_cons,List.map_nil,Ent.ren,bC,bG,bK]; rfl) (List.forall_mem_cons.2 ⟨rfl,List.forall_mem_cons.2 ⟨rfl,List.forall_mem_nil _⟩⟩) rfl) <|aA rfl (asI rfl rfl rfl rfl) <|aD ?_)
 refine aT ?_
 refine bA ?_
 obtain ⟨x2,hx2,h⟩:=aR h
 refine aF (aA rfl (mvI rfl rfl rfl rfl) <|aA rfl (aM rfl rfl (lb rfl) (svI rfl) (sv (d:=.int _ (-1)) rfl) rfl hx2) <|aA rfl (asB rfl rfl rfl rfl) <|aD ?_)
 refine aX (b:=_) rfl (fun hc3=>?_) (fun hc3=>?_)
 ·
  replace h:=bY h hc3
  refine aF (aA rfl (aH rfl rfl (lb rfl) (sv (d:=.int _ 6) rfl)) <|aD ?_)
  refine bD ?_
  refine eH ?_
  refine bS ?_
  obtain rfl:=Option.some.inj h
  refine ⟨.inr rfl,(fun i=>if i = 0 then 1001 else i),⟨.nil,(.cons (EntW.mix aB rfl (SubC.of_eq rfl) (SubC.of_eq rfl) rfl rfl) (.cons (EntW.lst rfl) .nil)),bB [1000,1001] rfl (by decide),(fun i hi=>by first | rfl | (show (if _ then _ else _) = _; (repeat' split) <;> omega))⟩,(.cons (sv rfl) .nil),rfl⟩
 ·
  replace h:=bZ h hc3
  obtain ⟨x4,hx4,h⟩:=aS h
  obtain ⟨hk5,h⟩:=jN h
  obtain ⟨x6,hx6,h⟩:=aS h
  refine aF (aA rfl (mvR rfl rfl rfl rfl) <|aA rfl (mvI rfl rfl rfl rfl) <|aA rfl (aJ rfl rfl (lb rfl) (svR rfl)) <|aA rfl (faR 5 rfl rfl rfl Try.underlying60 rfl ti58 (lb rfl) rfl rfl) <|aA rfl (bX aB.toEnc0 rfl rfl (lb rfl) Try.underlying58 ti57 (svR rfl) hk5 (svI rfl) hx4) <|aA rfl (bJ rfl rfl (lb rfl) Try.underlying57 rfl ti4 (by decide) (svR rfl) (k':=5) rfl) <|aA rfl (bP aB.toEnc0 (b:=5) (k:=5) (d:=.bool _) rfl rfl (lb rfl) Try.underlying4 ag4 ti4 (by decide) (svR rfl) rfl rfl hx6 (nle rfl) rfl) <|aA rfl (asB rfl rfl rfl rfl) <|aD ?_)
  refine aX (b:=_) rfl (fun hc7=>?_) (fun hc7=>?_)
  ·
   replace h:=bY h hc7
   refine aF (aA rfl (aH rfl rfl (lb rfl) (sv (d:=.int _ 9) rfl)) <|aD ?_)
   refine bD ?_
   refine eH ?_
   refine bS ?_
   obtain rfl:=Option.some.inj h
   refine ⟨.inr rfl,(fun i=>if i = 0 then 1001 else i),⟨.nil,(.cons (EntW.mix aB rfl (SubC.of_eq rfl) (SubC.of_eq rfl) rfl rfl) (.cons (EntW.lst rfl) .nil)),bB [1000,1001] rfl (by decide),(fun i hi=>by first | rfl | (show (if _ then _ else _) = _; (repeat' split) <;> omega))⟩,(.cons (sv rfl) .nil),rfl⟩
  ·
   replace h:=bZ h hc7
   refine aU ?_
   refine bR ?_
   refine aL ?_
   obtain ⟨x8,hx8,h⟩:=aS h
   obtain ⟨x9,hx9,h⟩:=aS h
   obtain ⟨x10,hx10,h⟩:=aR h
   refine aF (aA rfl (mvR rfl rfl rfl rfl) <|aA rfl (mvI rfl rfl rfl rfl) <|aA rfl (aJ rfl rfl (lb rfl) (svR rfl)) <|aA rfl (faR 5 rfl rfl rfl Try.underlying60 rfl ti58 (lb rfl) rfl rfl) <|aA rfl (bX aB.toEnc0 rfl rfl (lb rfl) Try.underlying58 ti57 (svR rfl) hk5 (svI rfl) hx8) <|aA rfl (bJ rfl rfl (lb rfl) Try.underlying57 rfl ti4 (by decide) (svR rfl) (k':=5) rfl) <|aA rfl (hB aB.toEnc0 (b:=5) (k:=5) (a':=(⟨x9.id,x9.up,x9.first,x9.next,x9.weight,true⟩ : aG)) rfl rfl ti4 (svR rfl) rfl (sv (d:=.bool true) rfl) rfl rfl rfl rfl hx9 (nle rfl) rfl hx10) <|aD ?_)
   obtain ⟨x11,hx11,h⟩:=aS h
   refine aF (aA rfl (mvR rfl rfl rfl rfl) <|aA rfl (mvR rfl rfl rfl rfl) <|aA rfl (aJ rfl rfl (lb rfl) (svR rfl)) <|aA rfl (faR 390 rfl rfl rfl Try.underlying60 rfl ti24 (lb rfl) rfl rfl) <|aA rfl (fG aB.toEnc0 (d:=.osl _ _ _) (n:=64) (k:=1) rfl rfl (lb rfl) Try.underlying24 ag24 ti24 (by decide) (svR rfl) rfl (jH hx10 hk5) (by rfl) (nle rfl) (by rfl)) <|aA rfl (mvI rfl rfl rfl rfl) <|aA rfl (jZ (eInt .i64).toEnc0 ([x1] : (List Int)) 0 rfl rfl (lb rfl) Try.underlying24 ti3 rfl (.cons (svI rfl) .nil) rfl rfl (by decide)) <|aA rfl (iX (eInt .i64).toEnc0 1 rfl rfl (lb rfl) Try.underlying24 ti3 rfl rfl rfl rfl rfl (nS (eInt .i64).toEnc0 rfl rfl rfl) hx11) <|aA rfl (aJ rfl rfl (lb rfl) (svR rfl)) <|aA rfl (faR 390 rfl rfl rfl Try.underlying60 rfl ti24 (lb rfl) rfl rfl) <|aA rfl (mH aB.toEnc0 (post:=q15) (post':=q15) (n:=64) (k:=1) rfl rfl ti24 (svR rfl) rfl (sv (d:=.osl _ _ _) rfl) rfl rfl rfl (jH hx10 hk5) (by rfl) (nle rfl) (by rfl)) <|aD ?_)
   refine aT ?_
   obtain ⟨x12,hx12,h⟩:=aR h
   refine lF rfl [⟨[0],[],[(38,.ref 1000 0)],[]⟩,
    ⟨[38],[],[(39,.ref 1000 0)],[]⟩,
    ⟨[39],[],[(40,.ref 1000 390)],[]⟩,
    ⟨[40],[1000],[(41,.osl 1 (eInt .i64).sz x11.length)],[]⟩,
    ⟨[41],[],[(42,.int .i64 (x11.length : Int))],[]⟩,
    ⟨[0],[],[(43,.ref 1000 0)],[]⟩,
    ⟨[43],[],[(44,.ref 1000 0)],[]⟩,
    ⟨[44],[],[(45,.ref 1000 1)],[]⟩,
    ⟨[45],[1000],[(46,.int .i64 a2)],[]⟩,
    ⟨[42,46],[],[(47,.bool x12)],[]⟩] rfl ?_ (by kernel_rfl) ?_
   ·refine .cons (lop rfl rfl fun S hA=>(aN rfl rfl (lb rfl) (svaR hA rfl rfl))) ?_
    refine .cons (lop rfl rfl fun S hA=>(aJ rfl rfl (lb rfl) (svaR hA rfl rfl))) ?_
    refine .cons (lop rfl rfl fun S hA=>(aV rfl rfl (lb rfl) Try.underlying60 rfl ti24 (by decide) (svaR hA rfl rfl) (off':=390) rfl)) ?_
    refine .cons (lop rfl rfl fun S hA=>(fG aB.toEnc0 (d:=.osl _ _ _) (n:=64) (k:=1) rfl rfl (lb rfl) Try.underlying24 ag24 ti24 (by decide) (svaR hA rfl rfl) (agi hA rfl rfl) (jH hx10 hk5) (by rfl) (nle rfl) (by rfl))) ?_
    refine .cons (lop rfl rfl fun S hA=>(fE rfl rfl (lb rfl) Try.underlying24 (sv (d:=.osl _ _ _) (agr hA rfl rfl)))) ?_
    refine .cons (lop rfl rfl fun S hA=>(aN rfl rfl (lb rfl) (svaR hA rfl rfl))) ?_
    refine .cons (lop rfl rfl fun S hA=>(aJ rfl rfl (lb rfl) (svaR hA rfl rfl))) ?_
    refine .cons (lop rfl rfl fun S hA=>(aV rfl rfl (lb rfl) Try.underlying60 rfl ti3 (by decide) (svaR hA rfl rfl) (off':=1) rfl)) ?_
    refine .cons (lop rfl rfl fun S hA=>(nO aB.toEnc0 (d:=.int _ _) rfl rfl (lb rfl) Try.underlying3 ag3 ti3 (by decide) (svaR hA rfl rfl) (agi hA rfl rfl) (nle rfl) (by rfl))) ?_
    refine .cons (lop rfl rfl fun S hA=>(aM rfl rfl (lb rfl) (svaI hA rfl rfl) (svaI hA rfl rfl) rfl hx12)) ?_
    exact .nil
   refine aX (b:=_) rfl (fun hc13=>?_) (fun hc13=>?_)
   ·
    replace h:=bY h hc13
    obtain ⟨x14,hx14,h⟩:=aS h
    obtain ⟨x15,hx15,h⟩:=aS h
    obtain ⟨x16,hx16,h⟩:=aS h
    refine aW (aA rfl (mvR rfl rfl rfl rfl) <|aA rfl (mvR rfl rfl rfl rfl) <|aA rfl (aJ rfl rfl (lb rfl) (svR rfl)) <|aA rfl (faR 390 rfl rfl rfl Try.underlying60 rfl ti24 (lb rfl) rfl rfl) <|aA rfl (fG aB.toEnc0 (d:=.osl _ _ _) (n:=64) (k:=1) rfl rfl (lb rfl) Try.underlying24 ag24 ti24 (by decide) (svR rfl) rfl (jH hx10 hk5) (by rfl) (nle rfl) (by rfl)) <|aA rfl (gP (eInt .i64).toEnc0 rfl rfl (lb rfl) Try.underlying24 ti3 (sv (d:=.osl _ _ _) rfl) rfl (sv (d:=.int _ 0) rfl) hx14) <|aA rfl (fO (eInt .i64).toEnc0 (d:=.int _ _) rfl rfl (lb rfl) Try.underlying3 ag3 ti3 (by decide) (svR rfl) rfl hx15 (nle rfl) rfl) <|aA rfl (bH (r':=.tuple []) (H1':=[(1000,.blk 60 (mixD aB.toEnc0 (w20 x16.1 x16.2.1 x16.2.2.1 x16.2.2.2.1 x16.2.2.2.2.1) x16.2.2.2.2.2.1 [.int .i64 x16.2.2.2.2.2.2.1,.osl 2 (eInt .i64).sz x16.2.2.2.2.2.2.2.length])),(2,.blk 3 (D.flat (x16.2.2.2.2.2.2.2.map (eInt .i64).d)))]) 2 [1000,1] rfl rfl (lb rfl) cl36 (.cons (svR rfl) (.cons (svI rfl) .nil)) rfl rfl ⟨rfl,rfl,by decide,rfl,List.forall_mem_cons.2 ⟨⟨rfl,rfl,(eP aB rfl rfl rfl),(bF aB rfl rfl)⟩,List.forall_mem_cons.2 ⟨⟨rfl,rfl,(dY (eInt .i64) rfl),(aY (eInt .i64))⟩,List.forall_mem_nil _⟩⟩⟩ (kI _ _ _ _ _ _ _ _ _ _ hx16) rfl rfl (List.forall_mem_cons.2 ⟨⟨rfl,(bF aB rfl rfl)⟩,List.forall_mem_cons.2 ⟨⟨rfl,(aY (eInt .i64))⟩,List.forall_mem_nil _⟩⟩) (by simp only [List.map_cons,List.map_nil,Ent.ren,bC,bG,bK]; rfl)) <|bL ?_)
    refine aL ?_
    refine aF (aA rfl (aH rfl rfl (lb rfl) (sv (d:=.int _ 0) rfl)) <|aD ?_)
    refine bD ?_
    obtain rfl:=Option.some.inj h
    refine ⟨.inr rfl,(fun i=>if i = 0 then 2 else i),⟨.nil,(.cons (EntW.mix aB rfl (SubC.of_eq rfl) (SubC.of_eq rfl) rfl rfl) (.cons (EntW.lst rfl) .nil)),bB [1000,2] rfl (by decide),(fun i hi=>by first | rfl | (show (if _ then _ else _) = _; (repeat' split) <;> omega))⟩,(.cons (sv rfl) .nil),rfl⟩
   ·
    replace h:=bZ h hc13
    refine aU ?_
    refine aL ?_
    refine aF (aA rfl (aH rfl rfl (lb rfl) (sv (d:=.int _ 0) rfl)) <|aD ?_)
    refine bD ?_
    obtain rfl:=Option.some.inj h
    refine ⟨.inr rfl,(fun i=>if i = 0 then 1 else i),⟨.nil,(.cons (EntW.mix aB rfl (SubC.of_eq rfl) (SubC.of_eq rfl) rfl rfl) (.cons (EntW.lst rfl) .nil)),bB [1000,1] rfl (by decide),(fun i hi=>by first | rfl | (show (if _ then _ else _) = _; (repeat' split) <;> omega))⟩,(.cons (sv rfl) .nil),rfl⟩

theorem lA (a0 : Int) (a1 : Int) (a2 : Int) (a3 : (List aI)) (a4 : Int) (a5 : Int) (a6 : (List aG)) (a7 : Int) (a8 : (List Int)) (r : (Int × Int × Int × (List aI) × Int × Int × (List aG) × Int × (List Int))) (h : gA a0 a1 a2 a3 a4 a5 a6 a7 a8 = some r) : FnH Try.prog 21 [.ref 1000 0,.int .i64 a0] [(1000,.blk 60 (mixD aB.toEnc0 (w20 a1 a2 a3 a4 a5) a6 [.int .i64 a7,.osl 1001 (eInt .i64).sz a8.length])),(1001,.blk 3 (D.flat (a8.map (eInt .i64).d)))] (.int .i64 r.1) [(1000,.blk 60 (mixD aB.toEnc0 (w20 r.2.1 r.2.2.1 r.2.2.2.1 r.2.2.2.2.1 r.2.2.2.2.2.1) r.2.2.2.2.2.2.1 [.int .i64 r.2.2.2.2.2.2.2.1,.osl 0 (eInt .i64).sz r.2.2.2.2.2.2.2.2.length])),(0,.blk 3 (D.flat (r.2.2.2.2.2.2.2.2.map (eInt .i64).d)))]:=by
 refine dS (rs:=[.int .i64 r.1]) Try.func21 rfl Try.ntmps21 (nle rfl) fun O hO=>?_
 show IWP _ _ _ _ ⟨[(0,.ref 1000 0),(1,.int .i64 a0)],[(1000,.blk 60 (mixD aB.toEnc0 (w20 a1 a2 a3 a4 a5) a6 [.int .i64 a7,.osl 1001 (eInt .i64).sz a8.length])),(1001,.blk 3 (D.flat (a8.map (eInt .i64).d)))]⟩ _
 unfold gA at h
 refine aF (aA rfl (aH rfl rfl (lb rfl) (sv (d:=.int _ 0) rfl)) <|aD ?_)
 refine aT ?_
 refine aF (aA rfl (mvR rfl rfl rfl rfl) <|aA rfl (lG rfl rfl (lb rfl) Try.underlying26 (svR rfl) (sv (d:=.nilp) rfl)) <|aD ?_)
 refine fD rfl rfl ?_
 refine aU ?_
 refine aL ?_
 obtain ⟨x1,hx1,h⟩:=aS h
 refine aF (aA rfl (mvR rfl rfl rfl rfl) <|aA rfl (mvI rfl rfl rfl rfl) <|aA rfl (fA (r':=.int .i64 x1) (V:=[(1000,.blk 60 (mixD aB.toEnc0 (w20 a1 a2 a3 a4 a5) a6 [.int .i64 a7,.osl 1001 (eInt .i64).sz a8.length])),(1001,.blk 3 (D.flat (a8.map (eInt .i64).d)))]) 0 [1000,1001] rfl rfl (lb rfl) cl28 (.cons (svR rfl) (.cons (svI rfl) .nil)) rfl rfl rfl ⟨by decide,rfl,List.forall_mem_cons.2 ⟨⟨rfl,rfl,(eP aB rfl rfl rfl),(bF aB rfl rfl)⟩,List.forall_mem_cons.2 ⟨⟨rfl,rfl,(dY (eInt .i64) rfl),(aY (eInt .i64))⟩,List.forall_mem_nil _⟩⟩⟩ (eU _ _ _ _ _ _ _ _ _ _ hx1) rfl rfl (List.forall_mem_cons.2 ⟨⟨rfl,(bF aB rfl rfl)⟩,List.forall_mem_cons.2 ⟨⟨rfl,(aY (eInt .i64))⟩,List.forall_mem_nil _⟩⟩) (by simp only [List.map_cons,List.map_nil,Ent.ren,bC,bG,bK]; rfl) (List.forall_mem_cons.2 ⟨rfl,List.forall_mem_cons.2 ⟨rfl,List.forall_mem_nil _⟩⟩) rfl) <|aA rfl (asI rfl rfl rfl rfl) <|aD ?_)
 refine aT ?_
 obtain ⟨x2,hx2,h⟩:=aR h
 refine aF (aA rfl (mvI rfl rfl rfl rfl) <|aA rfl (aM rfl rfl (lb rfl) (svI rfl) (sv (d:=.int _ (-1)) rfl) rfl hx2) <|aD ?_)
 refine aX (b:=_) rfl (fun hc3=>?_) (fun hc3=>?_)
 ·
  replace h:=bY h hc3
  refine aF (aA rfl (aH rfl rfl (lb rfl) (sv (d:=.int _ 6) rfl)) <|aD ?_)
  refine bD ?_
  refine bS ?_
  obtain rfl:=Option.some.inj h
  refine ⟨.inr rfl,(fun i=>if i = 0 then 1001 else i),⟨.nil,(.cons (EntW.mix aB rfl (SubC.of_eq rfl) (SubC.of_eq rfl) rfl rfl) (.cons (EntW.lst rfl) .nil)),bB [1000,1001] rfl (by decide),(fun i hi=>by first | rfl | (show (if _ then _ else _) = _; (repeat' split) <;> omega))⟩,(.cons (sv rfl) .nil),rfl⟩
 ·
  replace h:=bZ h hc3
  refine aU ?_
  refine aL ?_
  obtain ⟨x4,hx4,h⟩:=aS h
  refine aF (aA rfl (mvR rfl rfl rfl rfl) <|aA rfl (mvI rfl rfl rfl rfl) <|aA rfl (bH (r':=.tuple []) (H1':=[(1000,.blk 60 (mixD aB.toEnc0 (w20 x4.1 x4.2.1 x4.2.2.1 x4.2.2.2.1 x4.2.2.2.2.1) x4.2.2.2.2.2.1 [.int .i64 x4.2.2.2.2.2.2.1,.osl 0 (eInt .i64).sz x4.2.2.2.2.2.2.2.length])),(0,.blk 3 (D.flat (x4.2.2.2.2.2.2.2.map (eInt .i64).d)))]) 0 [1000,1001] rfl rfl (lb rfl) cl36 (.cons (svR rfl) (.cons (svI rfl) .nil)) rfl rfl ⟨rfl,rfl,by decide,rfl,List.forall_mem_cons.2 ⟨⟨rfl,rfl,(eP aB rfl rfl rfl),(bF aB rfl rfl)⟩,List.forall_mem_cons.2 ⟨⟨rfl,rfl,(dY (eInt .i64) rfl),(aY (eInt .i64))⟩,List.forall_mem_nil _⟩⟩⟩ (kI _ _ _ _ _ _ _ _ _ _ hx4) rfl rfl (List.forall_mem_cons.2 ⟨⟨rfl,(bF aB rfl rfl)⟩,List.forall_mem_cons.2 ⟨⟨rfl,(aY (eInt .i64))⟩,List.forall_mem_nil _⟩⟩) (by simp only [List.map_cons,List.map_nil,Ent.ren,bC,bG,bK]; rfl)) <|aD ?_)
  refine aF (aA rfl (aH rfl rfl (lb rfl) (sv (d:=.int _ 0) rfl)) <|aD ?_)
  refine bD ?_
  obtain rfl:=Option.some.inj h
  refine ⟨.inr rfl,(fun i=>i),⟨.nil,(.cons (EntW.mix aB rfl (SubC.of_eq rfl) (SubC.of_eq rfl) rfl rfl) (.cons (EntW.lst rfl) .nil)),bB [1000,0] rfl (by decide),fun _ _=>rfl⟩,(.cons (sv rfl) .nil),rfl⟩

theorem gC (a0 : Int) (a1 : Int) (a2 : Int) (a3 : (List aI)) (a4 : Int) (a5 : Int) (a6 : (List aG)) (a7 : Int) (a8 : (List Int)) (r : (List Int)) (h : dJ a0 a1 a2 a3 a4 a5 a6 a7 a8 = some r) : FnH Try.prog 12 [.ref 1000 0, .int .i64 a0] [(1000, .blk 60 (mixD aB.toEnc0 (w20 a1 a2 a3 a4 a5) a6 [.int .i64 a7, .osl 1001 (eInt .i64).sz a8.length])), (1001, .blk 3 (D.flat (a8.map (eInt .i64).d)))] (.osl 0 (eInt .i64).sz r.length) [(1000, .blk 60 (mixD aB.toEnc0 (w20 a1 a2 a3 a4 a5) a6 [.int .i64 a7, .osl 1001 (eInt .i64).sz a8.length])), (1001, .blk 3 (D.flat (a8.map (eInt .i64).d))), (0, .blk 3 (D.flat (r.map (eInt .i64).d)))] := by
 refine dS (rs:=[.osl 0 (eInt .i64).sz r.length]) Try.func12 rfl Try.ntmps12 (nle rfl) fun O hO=>?_
 show IWP _ _ _ _ ⟨[(0,.ref 1000 0),(1,.int .i64 a0)],[(1000,.blk 60 (mixD aB.toEnc0 (w20 a1 a2 a3 a4 a5) a6 [.int .i64 a7,.osl 1001 (eInt .i64).sz a8.length])),(1001,.blk 3 (D.flat (a8.map (eInt .i64).d)))]⟩ _
 unfold dJ at h
 refine aF (aA rfl (eD (cs:=[.ref _ _]) 0 rfl rfl (lb rfl) rfl (svR rfl) rfl rfl) <|aA rfl (aH rfl rfl (lb rfl) (sv (d:=.nils) rfl)) <|aD ?_)
 refine aT ?_
 refine aF (aA rfl (aK (d:=.ref _ _) rfl rfl (lb rfl) Try.underlying26 ag26 ti26 (by decide) (svR rfl) rfl (nle rfl) rfl) <|aA rfl (lG rfl rfl (lb rfl) Try.underlying26 (svR rfl) (sv (d:=.nilp) rfl)) <|aD ?_)
 refine fD rfl rfl ?_
 refine aU ?_
 refine aL ?_
 obtain ⟨x1,hx1,h⟩:=aS h
 refine aF (aA rfl (aK (d:=.ref _ _) rfl rfl (lb rfl) Try.underlying26 ag26 ti26 (by decide) (svR rfl) rfl (nle rfl) rfl) <|aA rfl (mvI rfl rfl rfl rfl) <|aA rfl (fA (r':=.int .i64 x1) (V:=[(1000,.blk 60 (mixD aB.toEnc0 (w20 a1 a2 a3 a4 a5) a6 [.int .i64 a7,.osl 1001 (eInt .i64).sz a8.length])),(1001,.blk 3 (D.flat (a8.map (eInt .i64).d)))]) 1 [1000,1001] rfl rfl (lb rfl) cl28 (.cons (svR rfl) (.cons (svI rfl) .nil)) rfl rfl rfl ⟨by decide,rfl,List.forall_mem_cons.2 ⟨⟨rfl,rfl,(eP aB rfl rfl rfl),(bF aB rfl rfl)⟩,List.forall_mem_cons.2 ⟨⟨rfl,rfl,(dY (eInt .i64) rfl),(aY (eInt .i64))⟩,List.forall_mem_nil _⟩⟩⟩ (eU _ _ _ _ _ _ _ _ _ _ hx1) rfl rfl (List.forall_mem_cons.2 ⟨⟨rfl,(bF aB rfl rfl)⟩,List.forall_mem_cons.2 ⟨⟨rfl,(aY (eInt .i64))⟩,List.forall_mem_nil _⟩⟩) (by simp only [List.map_cons,List.map_nil,Ent.ren,bC,bG,bK]; rfl) (List.forall_mem_cons.2 ⟨rfl,List.forall_mem_cons.2 ⟨rfl,List.forall_mem_nil _⟩⟩) rfl) <|aA rfl (asI rfl rfl rfl rfl) <|aD ?_)
 refine aT ?_
 obtain ⟨x2,hx2,h⟩:=aR h
 obtain ⟨x3,hx3,h⟩:=aR h
 obtain ⟨x4,hx4,h⟩:=aR h
 refine aF (aA rfl (mvI rfl rfl rfl rfl) <|aA rfl (aM rfl rfl (lb rfl) (svI rfl) (sv (d:=.int _ (-1)) rfl) rfl hx2) <|aA rfl (mvB rfl rfl rfl rfl) <|aC rfl rfl (.one rfl) rfl (by decide) (fun hb=>(mvI rfl rfl rfl rfl)) <|aC rfl rfl (.one rfl) rfl (by decide) (fun hb=>(aM rfl rfl (lb rfl) (svcI rfl hb) (sv (d:=.int _ 0) rfl) rfl hx3)) <|aA rfl (bO rfl rfl (lb rfl) (svB rfl) rfl rfl hx4) <|aD ?_)
 refine aX (b:=_) rfl (fun hc5=>?_) (fun hc5=>?_)
 ·
  replace h:=bY h hc5
  refine aF (aA rfl (aH rfl rfl (lb rfl) (sv (d:=.nils) rfl)) <|aD ?_)
  refine bD ?_
  refine bS ?_
  obtain rfl:=Option.some.inj h
  refine ⟨.inr rfl,(fun i=>if i = 0 then 51 else i),⟨.nil,(.cons (EntW.mix aB rfl (SubC.of_eq rfl) (SubC.of_eq rfl) rfl rfl) (.cons (EntW.lst rfl) (.cons (.nilb rfl) .nil))),bB [1000,1001,51] rfl (by decide),(fun i hi=>by first | rfl | (show (if _ then _ else _) = _; (repeat' split) <;> omega))⟩,(.cons (svno rfl) .nil),rfl⟩
 ·
  replace h:=bZ h hc5
  refine aU ?_
  refine aL ?_
  refine aF (aA rfl (gE (cs:=[.nils]) (cs':=[.nils]) 1 rfl rfl (lb rfl) rfl ti24 rfl rfl (.all _)) <|aD ?_)
  refine jM (α:=(List Int)) (fun z=>⟨[(6,.ref 1 0)],[(1,.blk 24 [.osl 28 (eInt .i64).sz z.length]),(1000,.blk 60 (mixD aB.toEnc0 (w20 a1 a2 a3 a4 a5) a6 [.int .i64 a7,.osl 1001 (eInt .i64).sz a8.length])),(1001,.blk 3 (D.flat (a8.map (eInt .i64).d))),(28,.blk 3 (D.flat (z.map (eInt .i64).d)))]⟩) (fun z=>eM z = some r) ?_ ?_
  ·
   refine aF (aA rfl (aK (d:=.ref _ _) rfl rfl (lb rfl) Try.underlying26 ag26 ti26 (by decide) (svR rfl) rfl (nle rfl) rfl) <|aA rfl (mvI rfl rfl rfl rfl) <|?_)
   refine eR (S':=⟨[(2,.ref 0 0),(6,.ref 1 0),(19,.ref 1000 0),(20,.int .i64 x1)],[(0,.blk 26 [.ref 1000 0]),(1,.blk 24 [.nils]),(1000,.blk 60 (mixD aB.toEnc0 (w20 a1 a2 a3 a4 a5) a6 [.int .i64 a7,.osl 1001 (eInt .i64).sz a8.length])),(1001,.blk 3 (D.flat (a8.map (eInt .i64).d)))]⟩) (fun i=>i) ⟨(.sames rfl rfl),(.cons (.blk rfl rfl rfl) (.cons (.blk rfl rfl rfl) (.cons (EntW.mix aB rfl (SubC.of_eq rfl) (SubC.of_eq rfl) rfl rfl) (.cons (EntW.lst rfl) .nil)))),bB [0,1,1000,1001] rfl (by decide),fun _ _=>rfl⟩ ?_
   refine iI 1 2 rfl rfl rfl (by decide) cl29 Try.func29 rfl (.cons (svR rfl) (.cons (svI rfl) .nil)) Try.ntmps29 (nle rfl) rfl hO.semiL fun O1 hO1=>?_
   show IWP _ _ _ _ ⟨[(0,.ref 1000 0),(1,.int .i64 x1)],[(2,.kept 1 [.dead,.dead,.ref 0 0,.dead,.dead,.dead,.ref 1 0,.dead,.dead,.dead,.dead,.dead,.dead,.dead,.dead,.dead,.dead,.dead,.dead,.ref 1000 0,.int .i64 x1,.dead,.dead,.dead,.dead,.dead,.dead,.dead,.dead,.dead,.dead,.dead]),(0,.blk 26 [.ref 1000 0]),(1,.blk 24 [.nils]),(1000,.blk 60 (mixD aB.toEnc0 (w20 a1 a2 a3 a4 a5) a6 [.int .i64 a7,.osl 1001 (eInt .i64).sz a8.length])),(1001,.blk 3 (D.flat (a8.map (eInt .i64).d)))]⟩ _
   refine aF (aA rfl (eD (cs:=[.ref _ _]) 3 rfl rfl (lb rfl) rfl (svR rfl) rfl rfl) <|aA rfl (eD (cs:=[.int _ _]) 4 rfl rfl (lb rfl) rfl (svI rfl) rfl rfl) <|aA rfl (aH rfl rfl (lb rfl) (sv (d:=.nilf) rfl)) <|aD ?_)
   refine aF (aA rfl (kD rfl rfl (lb rfl) (.cons (svR rfl) (.cons (svR rfl) .nil))) <|aA rfl (aH rfl rfl (lb rfl) (sv (d:=.fn 40 q16) rfl)) <|aD ?_)
   refine bD ?_
   refine ⟨.inr rfl,2,_,[.fn 40 [.ref 3 0,.ref 4 0]],(.cons (sv rfl) .nil),rfl,rfl,⟨[(2,.ref 0 0),(6,.ref 1 0),(21,.fn 40 [.ref 3 0,.ref 4 0])],[(0,.blk 26 [.ref 1000 0]),(1,.blk 24 [.nils]),(3,.blk 26 [.ref 1000 0]),(4,.blk 3 [.int .i64 x1]),(1000,.blk 60 (mixD aB.toEnc0 (w20 a1 a2 a3 a4 a5) a6 [.int .i64 a7,.osl 1001 (eInt .i64).sz a8.length])),(1001,.blk 3 (D.flat (a8.map (eInt .i64).d)))]⟩,(fun i=>i),⟨(.sames rfl rfl),(.cons (.blk rfl rfl rfl) (.cons (.blk rfl rfl rfl) (.cons (.blk rfl rfl rfl) (.cons (.blk rfl rfl rfl) (.cons (EntW.mix aB rfl (SubC.of_eq rfl) (SubC.of_eq rfl) rfl rfl) (.cons (EntW.lst rfl) .nil)))))),bB [0,1,3,4,1000,1001] rfl (by decide),fun _ _=>rfl⟩,?_⟩
   refine aD ?_
   refine bA ?_
   refine mM (S':=⟨[(2,.ref 0 0),(6,.ref 1 0),(21,.fn 40 [.ref 3 0,.ref 4 0])],[(0,.blk 26 [.ref 1000 0]),(1,.blk 24 [.nils]),(3,.blk 26 [.ref 1000 0]),(4,.blk 3 [.int .i64 x1]),(1000,.blk 60 (mixD aB.toEnc0 (w20 a1 a2 a3 a4 a5) a6 [.int .i64 a7,.osl 1001 (eInt .i64).sz a8.length])),(1001,.blk 3 (D.flat (a8.map (eInt .i64).d)))]⟩) (fun i=>i) ⟨(.sames rfl rfl),(.cons (.blk rfl rfl rfl) (.cons (.blk rfl rfl rfl) (.cons (.blk rfl rfl rfl) (.cons (.blk rfl rfl rfl) (.cons (EntW.mix aB rfl (SubC.of_eq rfl) (SubC.of_eq rfl) rfl rfl) (.cons (EntW.lst rfl) .nil)))))),bB [0,1,3,4,1000,1001] rfl (by decide),fun _ _=>rfl⟩ ?_
   refine nA 1 5 6 (sv (d:=.fn 40 q16) rfl) cl40 Try.func40 rfl rfl Try.ntmps40 (nle rfl) rfl rfl hO.semiL (List.forall_mem_nil _) fun O1 hO1 hlc1=>?_
   show IWP _ _ _ _ ⟨[(0,.yld 5),(1,.ref 3 0),(2,.ref 4 0)],[(6,.kept 1 [.dead,.dead,.ref 0 0,.dead,.dead,.dead,.ref 1 0,.dead,.dead,.dead,.dead,.dead,.dead,.dead,.dead,.dead,.dead,.dead,.dead,.dead,.dead,.fn 40 [.ref 3 0,.ref 4 0],.dead,.dead,.dead,.dead,.dead,.dead,.dead,.dead,.dead,.dead]),(5,.loop 1 [.dead,.dead,.ref 0 0,.dead,.dead,.dead,.ref 1 0,.dead,.dead,.dead,.dead,.dead,.dead,.dead,.dead,.dead,.dead,.dead,.dead,.dead,.dead,.fn 40 [.ref 3 0,.ref 4 0],.dead,.dead,.dead,.dead,.dead,.dead,.dead,.dead,.dead,.dead] .ready none),(0,.blk 26 [.ref 1000 0]),(1,.blk 24 [.nils]),(3,.blk 26 [.ref 1000 0]),(4,.blk 3 [.int .i64 x1]),(1000,.blk 60 (mixD aB.toEnc0 (w20 a1 a2 a3 a4 a5) a6 [.int .i64 a7,.osl 1001 (eInt .i64).sz a8.length])),(1001,.blk 3 (D.flat (a8.map (eInt .i64).d)))]⟩ _
   refine aF (aA rfl (aK (d:=.ref _ _) rfl rfl (lb rfl) Try.underlying26 ag26 ti26 (by decide) (svR rfl) rfl (nle rfl) rfl) <|aA rfl (aK (d:=.int _ _) rfl rfl (lb rfl) Try.underlying3 ag3 ti3 (by decide) (svR rfl) rfl (nle rfl) rfl) <|?_)
   refine eR (S':=⟨[(0,.yld 5),(1,.ref 3 0),(6,.ref 1000 0),(7,.int .i64 x1)],[(0,.blk 26 [.ref 1000 0]),(1,.blk 24 [.nils]),(3,.blk 26 [.ref 1000 0]),(4,.blk 3 [.int .i64 x1]),(5,.loop 1 [.dead,.dead,.ref 0 0,.dead,.dead,.dead,.ref 1 0,.dead,.dead,.dead,.dead,.dead,.dead,.dead,.dead,.dead,.dead,.dead,.dead,.dead,.dead,.fn 40 [.ref 3 0,.ref 4 0],.dead,.dead,.dead,.dead,.dead,.dead,.dead,.dead,.dead,.dead] .ready none),(6,.kept 1 [.dead,.dead,.ref 0 0,.dead,.dead,.dead,.ref 1 0,.dead,.dead,.dead,.dead,.dead,.dead,.dead,.dead,.dead,.dead,.dead,.dead,.dead,.dead,.fn 40 [.ref 3 0,.ref 4 0],.dead,.dead,.dead,.dead,.dead,.dead,.dead,.dead,.dead,.dead]),(1000,.blk 60 (mixD aB.toEnc0 (w20 a1 a2 a3 a4 a5) a6 [.int .i64 a7,.osl 1001 (eInt .i64).sz a8.length])),(1001,.blk 3 (D.flat (a8.map (eInt .i64).d)))]⟩) (fun i=>i) ⟨(.sames rfl rfl),(.cons (.blk rfl rfl rfl) (.cons (.blk rfl rfl rfl) (.cons (.blk rfl rfl rfl) (.cons (.blk rfl rfl rfl) (.cons (.loop rfl rfl rfl) (.cons (.kept rfl rfl rfl) (.cons (EntW.mix aB rfl (SubC.of_eq rfl) (SubC.of_eq rfl) rfl rfl) (.cons (EntW.lst rfl) .nil)))))))),bB [0,1,3,4,5,6,1000,1001] rfl (by decide),fun _ _=>rfl⟩ ?_
   refine iI 2 7 rfl rfl rfl (by decide) cl41 Try.func41 rfl (.cons (svR rfl) (.cons (svI rfl) .nil)) Try.ntmps41 (nle rfl) rfl hO1 fun O2 hO2=>?_
   show IWP _ _ _ _ ⟨[(0,.ref 1000 0),(1,.int .i64 x1)],[(7,.kept 2 [.yld 5,.ref 3 0,.dead,.dead,.dead,.dead,.ref 1000 0,.int .i64 x1,.dead,.dead,.dead,.dead,.dead,.dead,.dead,.dead,.dead,.dead,.dead,.dead,.dead,.dead,.dead,.dead,.dead]),(0,.blk 26 [.ref 1000 0]),(1,.blk 24 [.nils]),(3,.blk 26 [.ref 1000 0]),(4,.blk 3 [.int .i64 x1]),(5,.loop 1 [.dead,.dead,.ref 0 0,.dead,.dead,.dead,.ref 1 0,.dead,.dead,.dead,.dead,.dead,.dead,.dead,.dead,.dead,.dead,.dead,.dead,.dead,.dead,.fn 40 [.ref 3 0,.ref 4 0],.dead,.dead,.dead,.dead,.dead,.dead,.dead,.dead,.dead,.dead] .ready none),(6,.kept 1 [.dead,.dead,.ref 0 0,.dead,.dead,.dead,.ref 1 0,.dead,.dead,.dead,.dead,.dead,.dead,.dead,.dead,.dead,.dead,.dead,.dead,.dead,.dead,.fn 40 [.ref 3 0,.ref 4 0],.dead,.dead,.dead,.dead,.dead,.dead,.dead,.dead,.dead,.dead]),(1000,.blk 60 (mixD aB.toEnc0 (w20 a1 a2 a3 a4 a5) a6 [.int .i64 a7,.osl 1001 (eInt .i64).sz a8.length])),(1001,.blk 3 (D.flat (a8.map (eInt .i64).d)))]⟩ _
   refine aF (aA rfl (aH rfl rfl (lb rfl) (sv (d:=.nilp) rfl)) <|aD ?_)
   refine aT ?_
   obtain ⟨x55,hx55,h⟩:=aR h
   refine aF (aA rfl (mvI rfl rfl rfl rfl) <|aA rfl (aM rfl rfl (lb rfl) (svI rfl) (sv (d:=.int _ (-1)) rfl) rfl hx55) <|aD ?_)
   refine aX (b:=_) rfl (fun hc56=>?_) (fun hc56=>?_)
   ·
    replace h:=bY h hc56
    refine aF (aA rfl (mvR rfl rfl rfl rfl) <|aA rfl (aJ rfl rfl (lb rfl) (svR rfl)) <|aA rfl (faR 389 rfl rfl rfl Try.underlying60 rfl ti3 (lb rfl) rfl rfl) <|aA rfl (aH rfl rfl (lb rfl) (svR rfl)) <|aD ?_)
    refine bD ?_
    refine bS ?_
    refine ⟨.inr rfl,7,_,[.ref 1000 389],(.cons (sv rfl) .nil),rfl,rfl,⟨[(0,.yld 5),(1,.ref 3 0),(8,.ref 1000 389)],[(0,.blk 26 [.ref 1000 0]),(1,.blk 24 [.nils]),(3,.blk 26 [.ref 1000 0]),(4,.blk 3 [.int .i64 x1]),(5,.loop 1 [.dead,.dead,.ref 0 0,.dead,.dead,.dead,.ref 1 0,.dead,.dead,.dead,.dead,.dead,.dead,.dead,.dead,.dead,.dead,.dead,.dead,.dead,.dead,.fn 40 [.ref 3 0,.ref 4 0],.dead,.dead,.dead,.dead,.dead,.dead,.dead,.dead,.dead,.dead] .ready none),(6,.kept 1 [.dead,.dead,.ref 0 0,.dead,.dead,.dead,.ref 1 0,.dead,.dead,.dead,.dead,.dead,.dead,.dead,.dead,.dead,.dead,.dead,.dead,.dead,.dead,.fn 40 [.ref 3 0,.ref 4 0],.dead,.dead,.dead,.dead,.dead,.dead,.dead,.dead,.dead,.dead]),(1000,.blk 60 (mixD aB.toEnc0 (w20 a1 a2 a3 a4 a5) a6 [.int .i64 a7,.osl 1001 (eInt .i64).sz a8.length])),(1001,.blk 3 (D.flat (a8.map (eInt .i64).d)))]⟩,(fun i=>i),⟨(.sames rfl rfl),(.cons (.blk rfl rfl rfl) (.cons (.blk rfl rfl rfl) (.cons (.blk rfl rfl rfl) (.cons (.blk rfl rfl rfl) (.cons (.loop rfl rfl rfl) (.cons (.kept rfl rfl rfl) (.cons (EntW.mix aB rfl (SubC.of_eq rfl) (SubC.of_eq rfl) rfl rfl) (.cons (EntW.lst rfl) .nil)))))))),bB [0,1,3,4,5,6,1000,1001] rfl (by decide),fun _ _=>rfl⟩,?_⟩
    obtain ⟨hk57,h⟩:=jN h
    refine aA rfl (aJ rfl rfl (lb rfl) (svR rfl)) <|aA rfl (fG aB.toEnc0 (d:=.int _ _) (n:=64) (k:=0) rfl rfl (lb rfl) Try.underlying3 ag3 ti3 (by decide) (svR rfl) rfl hk57 (by rfl) (nle rfl) (by rfl)) <|aA rfl (asI rfl rfl rfl rfl) <|aD ?_
    refine bA ?_
    refine cV (α:=Nat × Int × (List Int)) (fun z=>⟨[(0,.yld 5),(1,.ref 3 0),(4,.int .i64 z.2.1)],[(5,.loop 1 [.dead,.dead,.ref 0 0,.dead,.dead,.dead,.ref 1 0,.dead,.dead,.dead,.dead,.dead,.dead,.dead,.dead,.dead,.dead,.dead,.dead,.dead,.dead,.fn 40 [.ref 3 0,.ref 4 0],.dead,.dead,.dead,.dead,.dead,.dead,.dead,.dead,.dead,.dead] .ready none),(3,.blk 26 [.ref 1000 0]),(6,.kept 1 [.dead,.dead,.ref 0 0,.dead,.dead,.dead,.ref 1 0,.dead,.dead,.dead,.dead,.dead,.dead,.dead,.dead,.dead,.dead,.dead,.dead,.dead,.dead,.fn 40 [.ref 3 0,.ref 4 0],.dead,.dead,.dead,.dead,.dead,.dead,.dead,.dead,.dead,.dead]),(1000,.blk 60 (mixD aB.toEnc0 (w20 a1 a2 a3 a4 a5) a6 [.int .i64 a7,.osl 1001 (eInt .i64).sz a8.length])),(1001,.blk 3 (D.flat (a8.map (eInt .i64).d))),(0,.blk 26 [.ref 1000 0]),(1,.blk 24 [.osl 28 (eInt .i64).sz z.2.2.length]),(4,.blk 3 [.int .i64 x1]),(28,.blk 3 (D.flat (z.2.2.map (eInt .i64).d)))]⟩) (fun z=>eL a1 a2 a3 a4 a5 a6 a7 a8 z.1 z.2.1 z.2.2 = some r) (fun z=>z.1) (fuel,a7,([] : (List Int))) (fun i=>if i = 28 then 86 else i) ⟨(.sames rfl rfl),(.cons (.loop rfl rfl rfl) (.cons (.blk rfl rfl rfl) (.cons (.kept rfl rfl rfl) (.cons (EntW.mix aB rfl (SubC.of_eq rfl) (SubC.of_eq rfl) rfl rfl) (.cons (EntW.lst rfl) (.cons (.blk rfl rfl rfl) (.cons (.sub rfl (.nilo .nil) rfl) (.cons (.blk rfl rfl rfl) (.cons (.nilb rfl) .nil))))))))),bB [5,3,6,1000,1001,0,1,4,86] rfl (by decide),(fun i hi=>by first | rfl | (show (if _ then _ else _) = _; (repeat' split) <;> omega))⟩ ?_ ?_
    ·exact h
    ·
     rintro ⟨n3,v64,v65⟩ h
     cases n3 with
     | zero=>exact absurd h (by unfold eL; exact nofun)
     | succ n3 =>
      unfold eL at h
      refine aT ?_
      obtain ⟨x72,hx72,h⟩:=aR h
      refine aF (aA rfl (mvI rfl rfl rfl rfl) <|aA rfl (aM rfl rfl (lb rfl) (svI rfl) (sv (d:=.int _ (-1)) rfl) rfl hx72) <|aD ?_)
      refine aX (b:=_) rfl (fun hc73=>?_) (fun hc73=>?_)
      ·
       replace h:=bY h hc73
       refine aU ?_
       refine aL ?_
       refine bA ?_
       obtain ⟨x74,hx74,h⟩:=aS h
       obtain ⟨x75,hx75,h⟩:=aS h
       refine aF (aA rfl (aK (d:=.ref _ _) rfl rfl (lb rfl) Try.underlying26 ag26 ti26 (by decide) (svR rfl) rfl (nle rfl) rfl) <|aA rfl (mvI rfl rfl rfl rfl) <|aA rfl (aJ rfl rfl (lb rfl) (svR rfl)) <|aA rfl (faR 5 rfl rfl rfl Try.underlying60 rfl ti58 (lb rfl) rfl rfl) <|aA rfl (bX aB.toEnc0 rfl rfl (lb rfl) Try.underlying58 ti57 (svR rfl) hk57 (svI rfl) hx74) <|aA rfl (bJ rfl rfl (lb rfl) Try.underlying57 rfl ti3 (by decide) (svR rfl) (k':=3) rfl) <|aA rfl (bP aB.toEnc0 (b:=5) (k:=3) (d:=.int _ _) rfl rfl (lb rfl) Try.underlying3 ag3 ti3 (by decide) (svR rfl) rfl rfl hx75 (nle rfl) rfl) <|aA rfl (asI rfl rfl rfl rfl) <|aD ?_)
       refine aT ?_
       refine aF (aA rfl (aN rfl rfl (lb rfl) (sv (d:=.yld _) rfl)) <|aA rfl (mvI rfl rfl rfl rfl) <|?_)
       refine eR (S':=⟨[(0,.yld 5),(1,.ref 3 0),(5,.int .i64 x75.next),(20,.yld 5),(21,.int .i64 v64)],[(0,.blk 26 [.ref 1000 0]),(1,.blk 24 [.osl 28 (eInt .i64).sz v65.length]),(3,.blk 26 [.ref 1000 0]),(4,.blk 3 [.int .i64 x1]),(5,.loop 1 [.dead,.dead,.ref 0 0,.dead,.dead,.dead,.ref 1 0,.dead,.dead,.dead,.dead,.dead,.dead,.dead,.dead,.dead,.dead,.dead,.dead,.dead,.dead,.fn 40 [.ref 3 0,.ref 4 0],.dead,.dead,.dead,.dead,.dead,.dead,.dead,.dead,.dead,.dead] .ready none),(6,.kept 1 [.dead,.dead,.ref 0 0,.dead,.dead,.dead,.ref 1 0,.dead,.dead,.dead,.dead,.dead,.dead,.dead,.dead,.dead,.dead,.dead,.dead,.dead,.dead,.fn 40 [.ref 3 0,.ref 4 0],.dead,.dead,.dead,.dead,.dead,.dead,.dead,.dead,.dead,.dead]),(28,.blk 3 (D.flat (v65.map (eInt .i64).d))),(1000,.blk 60 (mixD aB.toEnc0 (w20 a1 a2 a3 a4 a5) a6 [.int .i64 a7,.osl 1001 (eInt .i64).sz a8.length])),(1001,.blk 3 (D.flat (a8.map (eInt .i64).d)))]⟩) (fun i=>i) ⟨(.sames rfl rfl),(.cons (.blk rfl rfl rfl) (.cons (.blk rfl rfl rfl) (.cons (.blk rfl rfl rfl) (.cons (.blk rfl rfl rfl) (.cons (.loop rfl rfl rfl) (.cons (.kept rfl rfl rfl) (.cons (EntW.lst rfl) (.cons (EntW.mix aB rfl (SubC.of_eq rfl) (SubC.of_eq rfl) rfl rfl) (.cons (EntW.lst rfl) .nil))))))))),bB [0,1,3,4,5,6,28,1000,1001] rfl (by decide),fun _ _=>rfl⟩ ?_
       refine lC 2 5 29 rfl rfl rfl (by decide) rfl (.cons (svI rfl) .nil) rfl rfl rfl rfl rfl rfl hO1.round hlc1 ⟨[(22,.int .i64 v64),(2,.ref 0 0),(6,.ref 1 0)],[(0,.blk 26 [.ref 1000 0]),(1,.blk 24 [.osl 28 (eInt .i64).sz v65.length]),(3,.blk 26 [.ref 1000 0]),(4,.blk 3 [.int .i64 x1]),(5,.loop 1 [.dead,.dead,.ref 0 0,.dead,.dead,.dead,.ref 1 0,.dead,.dead,.dead,.dead,.dead,.dead,.dead,.dead,.dead,.dead,.dead,.dead,.dead,.dead,.fn 40 [.ref 3 0,.ref 4 0],.dead,.dead,.dead,.dead,.dead,.dead,.dead,.dead,.dead,.dead] .ready none),(6,.kept 1 [.dead,.dead,.ref 0 0,.dead,.dead,.dead,.ref 1 0,.dead,.dead,.dead,.dead,.dead,.dead,.dead,.dead,.dead,.dead,.dead,.dead,.dead,.dead,.fn 40 [.ref 3 0,.ref 4 0],.dead,.dead,.dead,.dead,.dead,.dead,.dead,.dead,.dead,.dead]),(28,.blk 3 (D.flat (v65.map (eInt .i64).d))),(29,.kept 2 [.yld 5,.ref 3 0,.dead,.dead,.dead,.int .i64 x75.next,.dead,.dead,.dead,.dead,.dead,.dead,.dead,.dead,.dead,.dead,.dead,.dead,.dead,.dead,.yld 5,.int .i64 v64,.dead,.dead,.dead]),(1000,.blk 60 (mixD aB.toEnc0 (w20 a1 a2 a3 a4 a5) a6 [.int .i64 a7,.osl 1001 (eInt .i64).sz a8.length])),(1001,.blk 3 (D.flat (a8.map (eInt .i64).d)))]⟩ (fun i=>i) ⟨(.sames rfl rfl),(.cons (.blk rfl rfl rfl) (.cons (.blk rfl rfl rfl) (.cons (.blk rfl rfl rfl) (.cons (.blk rfl rfl rfl) (.cons (.loop rfl rfl rfl) (.cons (.kept rfl rfl rfl) (.cons (EntW.lst rfl) (.cons (.kept rfl rfl rfl) (.cons (EntW.mix aB rfl (SubC.of_eq rfl) (SubC.of_eq rfl) rfl rfl) (.cons (EntW.lst rfl) .nil)))))))))),bB [0,1,3,4,5,6,28,29,1000,1001] rfl (by decide),fun _ _=>rfl⟩ fun O2=>?_
       refine aW (aA rfl (asI rfl rfl rfl rfl) <|bL ?_)
       refine ⟨rfl,5,_,rfl,⟨[(2,.ref 0 0),(6,.ref 1 0),(7,.int .i64 v64)],[(0,.blk 26 [.ref 1000 0]),(1,.blk 24 [.osl 28 (eInt .i64).sz v65.length]),(3,.blk 26 [.ref 1000 0]),(4,.blk 3 [.int .i64 x1]),(5,.loop 1 [.dead,.dead,.ref 0 0,.dead,.dead,.dead,.ref 1 0,.dead,.dead,.dead,.dead,.dead,.dead,.dead,.dead,.dead,.dead,.dead,.dead,.dead,.dead,.fn 40 [.ref 3 0,.ref 4 0],.dead,.dead,.dead,.dead,.dead,.dead,.dead,.dead,.dead,.dead] .busy none),(6,.kept 1 [.dead,.dead,.ref 0 0,.dead,.dead,.dead,.ref 1 0,.dead,.dead,.dead,.dead,.dead,.dead,.dead,.dead,.dead,.dead,.dead,.dead,.dead,.dead,.fn 40 [.ref 3 0,.ref 4 0],.dead,.dead,.dead,.dead,.dead,.dead,.dead,.dead,.dead,.dead]),(28,.blk 3 (D.flat (v65.map (eInt .i64).d))),(29,.kept 2 [.yld 5,.ref 3 0,.dead,.dead,.dead,.int .i64 x75.next,.dead,.dead,.dead,.dead,.dead,.dead,.dead,.dead,.dead,.dead,.dead,.dead,.dead,.dead,.yld 5,.int .i64 v64,.dead,.dead,.dead]),(1000,.blk 60 (mixD aB.toEnc0 (w20 a1 a2 a3 a4 a5) a6 [.int .i64 a7,.osl 1001 (eInt .i64).sz a8.length])),(1001,.blk 3 (D.flat (a8.map (eInt .i64).d)))]⟩,(fun i=>i),⟨(.sames rfl rfl),(.cons (.blk rfl rfl rfl) (.cons (.blk rfl rfl rfl) (.cons (.blk rfl rfl rfl) (.cons (.blk rfl rfl rfl) (.cons (.loop rfl rfl rfl) (.cons (.kept rfl rfl rfl) (.cons (EntW.lst rfl) (.cons (.kept rfl rfl rfl) (.cons (EntW.mix aB rfl (SubC.of_eq rfl) (SubC.of_eq rfl) rfl rfl) (.cons (EntW.lst rfl) .nil)))))))))),bB [0,1,3,4,5,6,28,29,1000,1001] rfl (by decide),fun _ _=>rfl⟩,?_⟩
       refine bA ?_
       obtain ⟨x76,hx76,h⟩:=aS h
       obtain ⟨x77,hx77,h⟩:=aS h
       refine jF rfl [⟨[6],[1],[(23,.osl 28 (eInt .i64).sz v65.length)],[]⟩,
        ⟨[2],[0],[(24,.ref 1000 0)],[]⟩,
        ⟨[7],[],[(25,.int .i64 v64)],[]⟩,
        ⟨[24,25],[1000,1001],[(26,.int .i64 x76)],[]⟩,
        ⟨[26],[30],[(27,.osl 30 (eInt .i64).sz (([x76] : (List Int)).length))],[(30,.blk 3 (D.flat (([x76] : (List Int)).map (eInt .i64).d)))]⟩,
        ⟨[23,27],[28,30,31],[(28,.osl 31 (eInt .i64).sz x77.length)],[(31,.blk 3 (D.flat (x77.map (eInt .i64).d))),(28,.none)]⟩,
        ⟨[6,28],[1],[],[(1,.blk 24 [.osl 31 (eInt .i64).sz x77.length])]⟩] rfl ?_ (by kernel_rfl) ?_
       ·refine .cons (lop rfl rfl fun S hA=>(aK (d:=.osl _ _ _) rfl rfl (lb rfl) Try.underlying24 ag24 ti24 (by decide) (svaR hA rfl rfl) (agi hA rfl rfl) (nle rfl) rfl)) ?_
        refine .cons (lop rfl rfl fun S hA=>(aK (d:=.ref _ _) rfl rfl (lb rfl) Try.underlying26 ag26 ti26 (by decide) (svaR hA rfl rfl) (agi hA rfl rfl) (nle rfl) rfl)) ?_
        refine .cons (lop rfl rfl fun S hA=>(aN rfl rfl (lb rfl) (svaI hA rfl rfl))) ?_
        refine .cons (lop rfl rfl fun S hA=>(fA (r':=.int .i64 x76) (V:=[(1000,.blk 60 (mixD aB.toEnc0 (w20 a1 a2 a3 a4 a5) a6 [.int .i64 a7,.osl 1001 (eInt .i64).sz a8.length])),(1001,.blk 3 (D.flat (a8.map (eInt .i64).d)))]) 30 [1000,1001] rfl rfl (lb rfl) cl25 (.cons (svaR hA rfl rfl) (.cons (svaI hA rfl rfl) .nil)) rfl rfl rfl ⟨by decide,rfl,List.forall_mem_cons.2 ⟨⟨rfl,rfl,(eP aB (agi hA rfl rfl) rfl rfl),(bF aB rfl rfl)⟩,List.forall_mem_cons.2 ⟨⟨rfl,rfl,(dY (eInt .i64) (agi hA rfl rfl)),(aY (eInt .i64))⟩,List.forall_mem_nil _⟩⟩⟩ (gZ _ _ _ _ _ _ _ _ _ _ hx76) rfl rfl (List.forall_mem_cons.2 ⟨⟨rfl,(bF aB rfl rfl)⟩,List.forall_mem_cons.2 ⟨⟨rfl,(aY (eInt .i64))⟩,List.forall_mem_nil _⟩⟩) (by simp only [List.map_cons,List.map_nil,Ent.ren,bC,bG,bK]; rfl) (List.forall_mem_cons.2 ⟨(agi hA rfl rfl),List.forall_mem_cons.2 ⟨(agi hA rfl rfl),List.forall_mem_nil _⟩⟩) rfl)) ?_
        refine .cons (lop rfl rfl fun S hA=>(jZ (eInt .i64).toEnc0 ([x76] : (List Int)) 30 rfl rfl (lb rfl) Try.underlying24 ti3 (agi hA rfl rfl) (.cons (svaI hA rfl rfl) .nil) rfl rfl (by decide))) ?_
        refine .cons (lop rfl rfl fun S hA=>(iX (eInt .i64).toEnc0 31 rfl rfl (lb rfl) Try.underlying24 ti3 rfl (agr hA rfl rfl) rfl (agi hA rfl rfl) (agi hA rfl rfl) (nS (eInt .i64).toEnc0 (agr hA rfl rfl) rfl (agi hA rfl rfl)) hx77)) ?_
        refine .cons (lop rfl rfl fun S hA=>(eZ (ds':=[.osl _ _ _]) rfl rfl ti24 (svaR hA rfl rfl) (agi hA rfl rfl) (sv (d:=.osl _ _ _) (agr hA rfl rfl)) rfl rfl rfl (nle rfl) rfl)) ?_
        exact .nil
       refine bR ?_
       refine ⟨5,29,_,_,none,rfl,rfl,rfl,rfl,(by decide),⟨[(0,.yld 5),(1,.ref 3 0),(5,.int .i64 x75.next),(22,.bool true)],[(0,.blk 26 [.ref 1000 0]),(1,.blk 24 [.osl 31 (eInt .i64).sz x77.length]),(3,.blk 26 [.ref 1000 0]),(4,.blk 3 [.int .i64 x1]),(5,.loop 1 [.dead,.dead,.ref 0 0,.dead,.dead,.dead,.ref 1 0,.dead,.dead,.dead,.dead,.dead,.dead,.dead,.dead,.dead,.dead,.dead,.dead,.dead,.dead,.fn 40 [.ref 3 0,.ref 4 0],.dead,.dead,.dead,.dead,.dead,.dead,.dead,.dead,.dead,.dead] .ready none),(6,.kept 1 [.dead,.dead,.ref 0 0,.dead,.dead,.dead,.ref 1 0,.dead,.dead,.dead,.dead,.dead,.dead,.dead,.dead,.dead,.dead,.dead,.dead,.dead,.dead,.fn 40 [.ref 3 0,.ref 4 0],.dead,.dead,.dead,.dead,.dead,.dead,.dead,.dead,.dead,.dead]),(31,.blk 3 (D.flat (x77.map (eInt .i64).d))),(1000,.blk 60 (mixD aB.toEnc0 (w20 a1 a2 a3 a4 a5) a6 [.int .i64 a7,.osl 1001 (eInt .i64).sz a8.length])),(1001,.blk 3 (D.flat (a8.map (eInt .i64).d)))]⟩,(fun i=>i),⟨(.sames rfl rfl),(.cons (.blk rfl rfl rfl) (.cons (.blk rfl rfl rfl) (.cons (.blk rfl rfl rfl) (.cons (.blk rfl rfl rfl) (.cons (.loop rfl rfl rfl) (.cons (.kept rfl rfl rfl) (.cons (EntW.lst rfl) (.cons (EntW.mix aB rfl (SubC.of_eq rfl) (SubC.of_eq rfl) rfl rfl) (.cons (EntW.lst rfl) .nil))))))))),bB [0,1,3,4,5,6,31,1000,1001] rfl (by decide),fun _ _=>rfl⟩,?_⟩
       refine aA rfl (eG rfl rfl (lb rfl) (svB rfl)) <|aD ?_
       refine fD rfl rfl ?_
       refine aU ?_
       refine aL ?_
       refine aW (aA rfl (mvI rfl rfl rfl rfl) <|aA rfl (asI rfl rfl rfl rfl) <|bL ?_)
       refine bR ?_
       refine aL ⟨(n3,x75.next,x77),(fun i=>if i = 28 then 31 else i),⟨(.sames rfl rfl),(.cons (.loop rfl rfl rfl) (.cons (.blk rfl rfl rfl) (.cons (.kept rfl rfl rfl) (.cons (EntW.mix aB rfl (SubC.of_eq rfl) (SubC.of_eq rfl) rfl rfl) (.cons (EntW.lst rfl) (.cons (.blk rfl rfl rfl) (.cons (.blk rfl rfl rfl) (.cons (.blk rfl rfl rfl) (.cons (EntW.lst rfl) .nil))))))))),bB [5,3,6,1000,1001,0,1,4,31] rfl (by decide),(fun i hi=>by first | rfl | (show (if _ then _ else _) = _; (repeat' split) <;> omega))⟩,?_,?_⟩
       exact h
       exact Nat.lt_succ_self _
      ·
       replace h:=bZ h hc73
       refine dD ?_
       refine bV ?_
       refine bV ?_
       refine dE ?_
       refine ⟨.inl rfl,5,6,_,_,_,_,rfl,(by simp),rfl,rfl,⟨[(6,.ref 1 0)],[(1,.blk 24 [.osl 28 (eInt .i64).sz v65.length]),(28,.blk 3 (D.flat (v65.map (eInt .i64).d))),(1000,.blk 60 (mixD aB.toEnc0 (w20 a1 a2 a3 a4 a5) a6 [.int .i64 a7,.osl 1001 (eInt .i64).sz a8.length])),(1001,.blk 3 (D.flat (a8.map (eInt .i64).d)))]⟩,(fun i=>i),⟨(.sames rfl rfl),(.cons (.blk rfl rfl rfl) (.cons (EntW.lst rfl) (.cons (EntW.mix aB rfl (SubC.of_eq rfl) (SubC.of_eq rfl) rfl rfl) (.cons (EntW.lst rfl) .nil)))),bB [1,28,1000,1001] rfl (by decide),fun _ _=>rfl⟩,?_⟩
       refine bR ?_
       refine aL ⟨v65,(fun i=>i),⟨(.sames rfl rfl),(.cons (.blk rfl rfl rfl) (.cons (EntW.mix aB rfl (SubC.of_eq rfl) (SubC.of_eq rfl) rfl rfl) (.cons (EntW.lst rfl) (.cons (EntW.lst rfl) .nil)))),bB [1,1000,1001,28] rfl (by decide),fun _ _=>rfl⟩,?_⟩
       exact h
   ·
    replace h:=bZ h hc56
    refine aU ?_
    refine aL ?_
    obtain ⟨x78,hx78,h⟩:=aS h
    obtain ⟨hk79,h⟩:=jN h
    refine aF (aA rfl (mvR rfl rfl rfl rfl) <|aA rfl (mvI rfl rfl rfl rfl) <|aA rfl (aJ rfl rfl (lb rfl) (svR rfl)) <|aA rfl (faR 5 rfl rfl rfl Try.underlying60 rfl ti58 (lb rfl) rfl rfl) <|aA rfl (bX aB.toEnc0 rfl rfl (lb rfl) Try.underlying58 ti57 (svR rfl) hk79 (svI rfl) hx78) <|aA rfl (bJ rfl rfl (lb rfl) Try.underlying57 rfl ti3 (by decide) (svR rfl) (k':=2) rfl) <|aA rfl (aH rfl rfl (lb rfl) (svR rfl)) <|aD ?_)
    refine bD ?_
    refine ⟨.inr rfl,7,_,[.ref 1000 (5 + (((x1 : Int).toNat) * aB.sz + 2))],(.cons (sv rfl) .nil),rfl,rfl,⟨[(0,.yld 5),(1,.ref 3 0),(8,.ref 1000 (5 + (((x1 : Int).toNat) * aB.sz + 2)))],[(0,.blk 26 [.ref 1000 0]),(1,.blk 24 [.nils]),(3,.blk 26 [.ref 1000 0]),(4,.blk 3 [.int .i64 x1]),(5,.loop 1 [.dead,.dead,.ref 0 0,.dead,.dead,.dead,.ref 1 0,.dead,.dead,.dead,.dead,.dead,.dead,.dead,.dead,.dead,.dead,.dead,.dead,.dead,.dead,.fn 40 [.ref 3 0,.ref 4 0],.dead,.dead,.dead,.dead,.dead,.dead,.dead,.dead,.dead,.dead] .ready none),(6,.kept 1 [.dead,.dead,.ref 0 0,.dead,.dead,.dead,.ref 1 0,.dead,.dead,.dead,.dead,.dead,.dead,.dead,.dead,.dead,.dead,.dead,.dead,.dead,.dead,.fn 40 [.ref 3 0,.ref 4 0],.dead,.dead,.dead,.dead,.dead,.dead,.dead,.dead,.dead,.dead]),(1000,.blk 60 (mixD aB.toEnc0 (w20 a1 a2 a3 a4 a5) a6 [.int .i64 a7,.osl 1001 (eInt .i64).sz a8.length])),(1001,.blk 3 (D.flat (a8.map (eInt .i64).d)))]⟩,(fun i=>i),⟨(.sames rfl rfl),(.cons (.blk rfl rfl rfl) (.cons (.blk rfl rfl rfl) (.cons (.blk rfl rfl rfl) (.cons (.blk rfl rfl rfl) (.cons (.loop rfl rfl rfl) (.cons (.kept rfl rfl rfl) (.cons (EntW.mix aB rfl (SubC.of_eq rfl) (SubC.of_eq rfl) rfl rfl) (.cons (EntW.lst rfl) .nil)))))))),bB [0,1,3,4,5,6,1000,1001] rfl (by decide),fun _ _=>rfl⟩,?_⟩
    obtain ⟨x80,hx80,h⟩:=aS h
    refine aA rfl (aJ rfl rfl (lb rfl) (svR rfl)) <|aA rfl (bP aB.toEnc0 (b:=5) (k:=2) (d:=.int _ _) rfl rfl (lb rfl) Try.underlying3 ag3 ti3 (by decide) (svR rfl) rfl rfl hx80 (nle rfl) rfl) <|aA rfl (asI rfl rfl rfl rfl) <|aD ?_
    refine bA ?_
    refine cV (α:=Nat × Int × (List Int)) (fun z=>⟨[(0,.yld 5),(1,.ref 3 0),(4,.int .i64 z.2.1)],[(5,.loop 1 [.dead,.dead,.ref 0 0,.dead,.dead,.dead,.ref 1 0,.dead,.dead,.dead,.dead,.dead,.dead,.dead,.dead,.dead,.dead,.dead,.dead,.dead,.dead,.fn 40 [.ref 3 0,.ref 4 0],.dead,.dead,.dead,.dead,.dead,.dead,.dead,.dead,.dead,.dead] .ready none),(3,.blk 26 [.ref 1000 0]),(6,.kept 1 [.dead,.dead,.ref 0 0,.dead,.dead,.dead,.ref 1 0,.dead,.dead,.dead,.dead,.dead,.dead,.dead,.dead,.dead,.dead,.dead,.dead,.dead,.dead,.fn 40 [.ref 3 0,.ref 4 0],.dead,.dead,.dead,.dead,.dead,.dead,.dead,.dead,.dead,.dead]),(1000,.blk 60 (mixD aB.toEnc0 (w20 a1 a2 a3 a4 a5) a6 [.int .i64 a7,.osl 1001 (eInt .i64).sz a8.length])),(1001,.blk 3 (D.flat (a8.map (eInt .i64).d))),(0,.blk 26 [.ref 1000 0]),(1,.blk 24 [.osl 28 (eInt .i64).sz z.2.2.length]),(4,.blk 3 [.int .i64 x1]),(28,.blk 3 (D.flat (z.2.2.map (eInt .i64).d)))]⟩) (fun z=>eK a1 a2 a3 a4 a5 a6 a7 a8 z.1 z.2.1 z.2.2 = some r) (fun z=>z.1) (fuel,x80.first,([] : (List Int))) (fun i=>if i = 28 then 86 else i) ⟨(.sames rfl rfl),(.cons (.loop rfl rfl rfl) (.cons (.blk rfl rfl rfl) (.cons (.kept rfl rfl rfl) (.cons (EntW.mix aB rfl (SubC.of_eq rfl) (SubC.of_eq rfl) rfl rfl) (.cons (EntW.lst rfl) (.cons (.blk rfl rfl rfl) (.cons (.sub rfl (.nilo .nil) rfl) (.cons (.blk rfl rfl rfl) (.cons (.nilb rfl) .nil))))))))),bB [5,3,6,1000,1001,0,1,4,86] rfl (by decide),(fun i hi=>by first | rfl | (show (if _ then _ else _) = _; (repeat' split) <;> omega))⟩ ?_ ?_
    ·exact h
    ·
     rintro ⟨n4,v87,v88⟩ h
     cases n4 with
     | zero=>exact absurd h (by unfold eK; exact nofun)
     | succ n4 =>
      unfold eK at h
      refine aT ?_
      obtain ⟨x95,hx95,h⟩:=aR h
      refine aF (aA rfl (mvI rfl rfl rfl rfl) <|aA rfl (aM rfl rfl (lb rfl) (svI rfl) (sv (d:=.int _ (-1)) rfl) rfl hx95) <|aD ?_)
      refine aX (b:=_) rfl (fun hc96=>?_) (fun hc96=>?_)
      ·
       replace h:=bY h hc96
       refine aU ?_
       refine aL ?_
       refine bA ?_
       obtain ⟨x97,hx97,h⟩:=aS h
       obtain ⟨x98,hx98,h⟩:=aS h
       refine aF (aA rfl (aK (d:=.ref _ _) rfl rfl (lb rfl) Try.underlying26 ag26 ti26 (by decide) (svR rfl) rfl (nle rfl) rfl) <|aA rfl (mvI rfl rfl rfl rfl) <|aA rfl (aJ rfl rfl (lb rfl) (svR rfl)) <|aA rfl (faR 5 rfl rfl rfl Try.underlying60 rfl ti58 (lb rfl) rfl rfl) <|aA rfl (bX aB.toEnc0 rfl rfl (lb rfl) Try.underlying58 ti57 (svR rfl) hk79 (svI rfl) hx97) <|aA rfl (bJ rfl rfl (lb rfl) Try.underlying57 rfl ti3 (by decide) (svR rfl) (k':=3) rfl) <|aA rfl (bP aB.toEnc0 (b:=5) (k:=3) (d:=.int _ _) rfl rfl (lb rfl) Try.underlying3 ag3 ti3 (by decide) (svR rfl) rfl rfl hx98 (nle rfl) rfl) <|aA rfl (asI rfl rfl rfl rfl) <|aD ?_)
       refine aT ?_
       refine aF (aA rfl (aN rfl rfl (lb rfl) (sv (d:=.yld _) rfl)) <|aA rfl (mvI rfl rfl rfl rfl) <|?_)
       refine eR (S':=⟨[(0,.yld 5),(1,.ref 3 0),(5,.int .i64 x98.next),(20,.yld 5),(21,.int .i64 v87)],[(0,.blk 26 [.ref 1000 0]),(1,.blk 24 [.osl 28 (eInt .i64).sz v88.length]),(3,.blk 26 [.ref 1000 0]),(4,.blk 3 [.int .i64 x1]),(5,.loop 1 [.dead,.dead,.ref 0 0,.dead,.dead,.dead,.ref 1 0,.dead,.dead,.dead,.dead,.dead,.dead,.dead,.dead,.dead,.dead,.dead,.dead,.dead,.dead,.fn 40 [.ref 3 0,.ref 4 0],.dead,.dead,.dead,.dead,.dead,.dead,.dead,.dead,.dead,.dead] .ready none),(6,.kept 1 [.dead,.dead,.ref 0 0,.dead,.dead,.dead,.ref 1 0,.dead,.dead,.dead,.dead,.dead,.dead,.dead,.dead,.dead,.dead,.dead,.dead,.dead,.dead,.fn 40 [.ref 3 0,.ref 4 0],.dead,.dead,.dead,.dead,.dead,.dead,.dead,.dead,.dead,.dead]),(28,.blk 3 (D.flat (v88.map (eInt .i64).d))),(1000,.blk 60 (mixD aB.toEnc0 (w20 a1 a2 a3 a4 a5) a6 [.int .i64 a7,.osl 1001 (eInt .i64).sz a8.length])),(1001,.blk 3 (D.flat (a8.map (eInt .i64).d)))]⟩) (fun i=>i) ⟨(.sames rfl rfl),(.cons (.blk rfl rfl rfl) (.cons (.blk rfl rfl rfl) (.cons (.blk rfl rfl rfl) (.cons (.blk rfl rfl rfl) (.cons (.loop rfl rfl rfl) (.cons (.kept rfl rfl rfl) (.cons (EntW.lst rfl) (.cons (EntW.mix aB rfl (SubC.of_eq rfl) (SubC.of_eq rfl) rfl rfl) (.cons (EntW.lst rfl) .nil))))))))),bB [0,1,3,4,5,6,28,1000,1001] rfl (by decide),fun _ _=>rfl⟩ ?_
       refine lC 2 5 29 rfl rfl rfl (by decide) rfl (.cons (svI rfl) .nil) rfl rfl rfl rfl rfl rfl hO1.round hlc1 ⟨[(22,.int .i64 v87),(2,.ref 0 0),(6,.ref 1 0)],[(0,.blk 26 [.ref 1000 0]),(1,.blk 24 [.osl 28 (eInt .i64).sz v88.length]),(3,.blk 26 [.ref 1000 0]),(4,.blk 3 [.int .i64 x1]),(5,.loop 1 [.dead,.dead,.ref 0 0,.dead,.dead,.dead,.ref 1 0,.dead,.dead,.dead,.dead,.dead,.dead,.dead,.dead,.dead,.dead,.dead,.dead,.dead,.dead,.fn 40 [.ref 3 0,.ref 4 0],.dead,.dead,.dead,.dead,.dead,.dead,.dead,.dead,.dead,.dead] .ready none),(6,.kept 1 [.dead,.dead,.ref 0 0,.dead,.dead,.dead,.ref 1 0,.dead,.dead,.dead,.dead,.dead,.dead,.dead,.dead,.dead,.dead,.dead,.dead,.dead,.dead,.fn 40 [.ref 3 0,.ref 4 0],.dead,.dead,.dead,.dead,.dead,.dead,.dead,.dead,.dead,.dead]),(28,.blk 3 (D.flat (v88.map (eInt .i64).d))),(29,.kept 2 [.yld 5,.ref 3 0,.dead,.dead,.dead,.int .i64 x98.next,.dead,.dead,.dead,.dead,.dead,.dead,.dead,.dead,.dead,.dead,.dead,.dead,.dead,.dead,.yld 5,.int .i64 v87,.dead,.dead,.dead]),(1000,.blk 60 (mixD aB.toEnc0 (w20 a1 a2 a3 a4 a5) a6 [.int .i64 a7,.osl 1001 (eInt .i64).sz a8.length])),(1001,.blk 3 (D.flat (a8.map (eInt .i64).d)))]⟩ (fun i=>i) ⟨(.sames rfl rfl),(.cons (.blk rfl rfl rfl) (.cons (.blk rfl rfl rfl) (.cons (.blk rfl rfl rfl) (.cons (.blk rfl rfl rfl) (.cons (.loop rfl rfl rfl) (.cons (.kept rfl rfl rfl) (.cons (EntW.lst rfl) (.cons (.kept rfl rfl rfl) (.cons (EntW.mix aB rfl (SubC.of_eq rfl) (SubC.of_eq rfl) rfl rfl) (.cons (EntW.lst rfl) .nil)))))))))),bB [0,1,3,4,5,6,28,29,1000,1001] rfl (by decide),fun _ _=>rfl⟩ fun O2=>?_
       refine aW (aA rfl (asI rfl rfl rfl rfl) <|bL ?_)
       refine ⟨rfl,5,_,rfl,⟨[(2,.ref 0 0),(6,.ref 1 0),(7,.int .i64 v87)],[(0,.blk 26 [.ref 1000 0]),(1,.blk 24 [.osl 28 (eInt .i64).sz v88.length]),(3,.blk 26 [.ref 1000 0]),(4,.blk 3 [.int .i64 x1]),(5,.loop 1 [.dead,.dead,.ref 0 0,.dead,.dead,.dead,.ref 1 0,.dead,.dead,.dead,.dead,.dead,.dead,.dead,.dead,.dead,.dead,.dead,.dead,.dead,.dead,.fn 40 [.ref 3 0,.ref 4 0],.dead,.dead,.dead,.dead,.dead,.dead,.dead,.dead,.dead,.dead] .busy none),(6,.kept 1 [.dead,.dead,.ref 0 0,.dead,.dead,.dead,.ref 1 0,.dead,.dead,.dead,.dead,.dead,.dead,.dead,.dead,.dead,.dead,.dead,.dead,.dead,.dead,.fn 40 [.ref 3 0,.ref 4 0],.dead,.dead,.dead,.dead,.dead,.dead,.dead,.dead,.dead,.dead]),(28,.blk 3 (D.flat (v88.map (eInt .i64).d))),(29,.kept 2 [.yld 5,.ref 3 0,.dead,.dead,.dead,.int .i64 x98.next,.dead,.dead,.dead,.dead,.dead,.dead,.dead,.dead,.dead,.dead,.dead,.dead,.dead,.dead,.yld 5,.int .i64 v87,.dead,.dead,.dead]),(1000,.blk 60 (mixD aB.toEnc0 (w20 a1 a2 a3 a4 a5) a6 [.int .i64 a7,.osl 1001 (eInt .i64).sz a8.length])),(1001,.blk 3 (D.flat (a8.map (eInt .i64).d)))]⟩,(fun i=>i),⟨(.sames rfl rfl),(.cons (.blk rfl rfl rfl) (.cons (.blk rfl rfl rfl) (.cons (.blk rfl rfl rfl) (.cons (.blk rfl rfl rfl) (.cons (.loop rfl rfl rfl) (.cons (.kept rfl rfl rfl) (.cons (EntW.lst rfl) (.cons (.kept rfl rfl rfl) (.cons (EntW.mix aB rfl (SubC.of_eq rfl) (SubC.of_eq rfl) rfl rfl) (.cons (EntW.lst rfl) .nil)))))))))),bB [0,1,3,4,5,6,28,29,1000,1001] rfl (by decide),fun _ _=>rfl⟩,?_⟩
       refine bA ?_
       obtain ⟨x99,hx99,h⟩:=aS h
       obtain ⟨x100,hx100,h⟩:=aS h
       refine jF rfl [⟨[6],[1],[(23,.osl 28 (eInt .i64).sz v88.length)],[]⟩,
        ⟨[2],[0],[(24,.ref 1000 0)],[]⟩,
        ⟨[7],[],[(25,.int .i64 v87)],[]⟩,
        ⟨[24,25],[1000,1001],[(26,.int .i64 x99)],[]⟩,
        ⟨[26],[30],[(27,.osl 30 (eInt .i64).sz (([x99] : (List Int)).length))],[(30,.blk 3 (D.flat (([x99] : (List Int)).map (eInt .i64).d)))]⟩,
        ⟨[23,27],[28,30,31],[(28,.osl 31 (eInt .i64).sz x100.length)],[(31,.blk 3 (D.flat (x100.map (eInt .i64).d))),(28,.none)]⟩,
        ⟨[6,28],[1],[],[(1,.blk 24 [.osl 31 (eInt .i64).sz x100.length])]⟩] rfl ?_ (by kernel_rfl) ?_
       ·refine .cons (lop rfl rfl fun S hA=>(aK (d:=.osl _ _ _) rfl rfl (lb rfl) Try.underlying24 ag24 ti24 (by decide) (svaR hA rfl rfl) (agi hA rfl rfl) (nle rfl) rfl)) ?_
        refine .cons (lop rfl rfl fun S hA=>(aK (d:=.ref _ _) rfl rfl (lb rfl) Try.underlying26 ag26 ti26 (by decide) (svaR hA rfl rfl) (agi hA rfl rfl) (nle rfl) rfl)) ?_
        refine .cons (lop rfl rfl fun S hA=>(aN rfl rfl (lb rfl) (svaI hA rfl rfl))) ?_
        refine .cons (lop rfl rfl fun S hA=>(fA (r':=.int .i64 x99) (V:=[(1000,.blk 60 (mixD aB.toEnc0 (w20 a1 a2 a3 a4 a5) a6 [.int .i64 a7,.osl 1001 (eInt .i64).sz a8.length])),(1001,.blk 3 (D.flat (a8.map (eInt .i64).d)))]) 30 [1000,1001] rfl rfl (lb rfl) cl25 (.cons (svaR hA rfl rfl) (.cons (svaI hA rfl rfl) .nil)) rfl rfl rfl ⟨by decide,rfl,List.forall_mem_cons.2 ⟨⟨rfl,rfl,(eP aB (agi hA rfl rfl) rfl rfl),(bF aB rfl rfl)⟩,List.forall_mem_cons.2 ⟨⟨rfl,rfl,(dY (eInt .i64) (agi hA rfl rfl)),(aY (eInt .i64))⟩,List.forall_mem_nil _⟩⟩⟩ (gZ _ _ _ _ _ _ _ _ _ _ hx99) rfl rfl (List.forall_mem_cons.2 ⟨⟨rfl,(bF aB rfl rfl)⟩,List.forall_mem_cons.2 ⟨⟨rfl,(aY (eInt .i64))⟩,List.forall_mem_nil _⟩⟩) (by simp only [List.map_cons,List.map_nil,Ent.ren,bC,bG,bK]; rfl) (List.forall_mem_cons.2 ⟨(agi hA rfl rfl),List.forall_mem_cons.2 ⟨(agi hA rfl rfl),List.forall_mem_nil _⟩⟩) rfl)) ?_
        refine .cons (lop rfl rfl fun S hA=>(jZ (eInt .i64).toEnc0 ([x99] : (List Int)) 30 rfl rfl (lb rfl) Try.underlying24 ti3 (agi hA rfl rfl) (.cons (svaI hA rfl rfl) .nil) rfl rfl (by decide))) ?_
        refine .cons (lop rfl rfl fun S hA=>(iX (eInt .i64).toEnc0 31 rfl rfl (lb rfl) Try.underlying24 ti3 rfl (agr hA rfl rfl) rfl (agi hA rfl rfl) (agi hA rfl rfl) (nS (eInt .i64).toEnc0 (agr hA rfl rfl) rfl (agi hA rfl rfl)) hx100)) ?_
        refine .cons (lop rfl rfl fun S hA=>(eZ (ds':=[.osl _ _ _]) rfl rfl ti24 (svaR hA rfl rfl) (agi hA rfl rfl) (sv (d:=.osl _ _ _) (agr hA rfl rfl)) rfl rfl rfl (nle rfl) rfl)) ?_
        exact .nil
       refine bR ?_
       refine ⟨5,29,_,_,none,rfl,rfl,rfl,rfl,(by decide),⟨[(0,.yld 5),(1,.ref 3 0),(5,.int .i64 x98.next),(22,.bool true)],[(0,.blk 26 [.ref 1000 0]),(1,.blk 24 [.osl 31 (eInt .i64).sz x100.length]),(3,.blk 26 [.ref 1000 0]),(4,.blk 3 [.int .i64 x1]),(5,.loop 1 [.dead,.dead,.ref 0 0,.dead,.dead,.dead,.ref 1 0,.dead,.dead,.dead,.dead,.dead,.dead,.dead,.dead,.dead,.dead,.dead,.dead,.dead,.dead,.fn 40 [.ref 3 0,.ref 4 0],.dead,.dead,.dead,.dead,.dead,.dead,.dead,.dead,.dead,.dead] .ready none),(6,.kept 1 [.dead,.dead,.ref 0 0,.dead,.dead,.dead,.ref 1 0,.dead,.dead,.dead,.dead,.dead,.dead,.dead,.dead,.dead,.dead,.dead,.dead,.dead,.dead,.fn 40 [.ref 3 0,.ref 4 0],.dead,.dead,.dead,.dead,.dead,.dead,.dead,.dead,.dead,.dead]),(31,.blk 3 (D.flat (x100.map (eInt .i64).d))),(1000,.blk 60 (mixD aB.toEnc0 (w20 a1 a2 a3 a4 a5) a6 [.int .i64 a7,.osl 1001 (eInt .i64).sz a8.length])),(1001,.blk 3 (D.flat (a8.map (eInt .i64).d)))]⟩,(fun i=>i),⟨(.sames rfl rfl),(.cons (.blk rfl rfl rfl) (.cons (.blk rfl rfl rfl) (.cons (.blk rfl rfl rfl) (.cons (.blk rfl rfl rfl) (.cons (.loop rfl rfl rfl) (.cons (.kept rfl rfl rfl) (.cons (EntW.lst rfl) (.cons (EntW.mix aB rfl (SubC.of_eq rfl) (SubC.of_eq rfl) rfl rfl) (.cons (EntW.lst rfl) .nil))))))))),bB [0,1,3,4,5,6,31,1000,1001] rfl (by decide),fun _ _=>rfl⟩,?_⟩
       refine aA rfl (eG rfl rfl (lb rfl) (svB rfl)) <|aD ?_
       refine fD rfl rfl ?_
       refine aU ?_
       refine aL ?_
       refine aW (aA rfl (mvI rfl rfl rfl rfl) <|aA rfl (asI rfl rfl rfl rfl) <|bL ?_)
       refine bR ?_
       refine aL ⟨(n4,x98.next,x100),(fun i=>if i = 28 then 31 else i),⟨(.sames rfl rfl),(.cons (.loop rfl rfl rfl) (.cons (.blk rfl rfl rfl) (.cons (.kept rfl rfl rfl) (.cons (EntW.mix aB rfl (SubC.of_eq rfl) (SubC.of_eq rfl) rfl rfl) (.cons (EntW.lst rfl) (.cons (.blk rfl rfl rfl) (.cons (.blk rfl rfl rfl) (.cons (.blk rfl rfl rfl) (.cons (EntW.lst rfl) .nil))))))))),bB [5,3,6,1000,1001,0,1,4,31] rfl (by decide),(fun i hi=>by first | rfl | (show (if _ then _ else _) = _; (repeat' split) <;> omega))⟩,?_,?_⟩
       exact h
       exact Nat.lt_succ_self _
      ·
       replace h:=bZ h hc96
       refine dD ?_
       refine bV ?_
       refine bV ?_
       refine dE ?_
       refine ⟨.inl rfl,5,6,_,_,_,_,rfl,(by simp),rfl,rfl,⟨[(6,.ref 1 0)],[(1,.blk 24 [.osl 28 (eInt .i64).sz v88.length]),(28,.blk 3 (D.flat (v88.map (eInt .i64).d))),(1000,.blk 60 (mixD aB.toEnc0 (w20 a1 a2 a3 a4 a5) a6 [.int .i64 a7,.osl 1001 (eInt .i64).sz a8.length])),(1001,.blk 3 (D.flat (a8.map (eInt .i64).d)))]⟩,(fun i=>i),⟨(.sames rfl rfl),(.cons (.blk rfl rfl rfl) (.cons (EntW.lst rfl) (.cons (EntW.mix aB rfl (SubC.of_eq rfl) (SubC.of_eq rfl) rfl rfl) (.cons (EntW.lst rfl) .nil)))),bB [1,28,1000,1001] rfl (by decide),fun _ _=>rfl⟩,?_⟩
       refine bR ?_
       refine aL ⟨v88,(fun i=>i),⟨(.sames rfl rfl),(.cons (.blk rfl rfl rfl) (.cons (EntW.mix aB rfl (SubC.of_eq rfl) (SubC.of_eq rfl) rfl rfl) (.cons (EntW.lst rfl) (.cons (EntW.lst rfl) .nil)))),bB [1,1000,1001,28] rfl (by decide),fun _ _=>rfl⟩,?_⟩
       exact h
  ·
   rintro v52 h
   unfold eM at h
   obtain ⟨x53,hx53,h⟩:=aS h
   obtain ⟨hk54,h⟩:=jN h
   refine aF (aA rfl (aK (d:=.osl _ _ _) rfl rfl (lb rfl) Try.underlying24 ag24 ti24 (by decide) (svR rfl) rfl (nle rfl) rfl) <|aA rfl (bH (r':=.tuple []) (H1':=[(28,.blk 3 (D.flat (x53.map (eInt .i64).d)))]) 29 [28] rfl rfl (lb rfl) cl30 (.cons (sv (d:=.osl _ _ _) rfl) .nil) rfl rfl ⟨rfl,rfl,by decide,rfl,List.forall_mem_cons.2 ⟨⟨rfl,rfl,(dY (eInt .i64) rfl),(aY (eInt .i64))⟩,List.forall_mem_nil _⟩⟩ (jS _ _ hx53) rfl rfl (List.forall_mem_cons.2 ⟨⟨rfl,(aY (eInt .i64))⟩,List.forall_mem_nil _⟩) (by simp only [List.map_cons,List.map_nil,Ent.ren,bC,bG]; rfl)) <|aD ?_)
   refine aF (aA rfl (aK (d:=.osl _ _ _) rfl rfl (lb rfl) Try.underlying24 ag24 ti24 (by decide) (svR rfl) rfl (nle rfl) rfl) <|aA rfl (aH rfl rfl (lb rfl) (sv (d:=.osl _ _ _) rfl)) <|aD ?_)
   refine bD ?_
   obtain rfl:=Option.some.inj h
   refine ⟨.inr rfl,(fun i=>if i = 0 then 28 else i),⟨.nil,(.cons (EntW.mix aB rfl (SubC.of_eq rfl) (SubC.of_eq rfl) rfl rfl) (.cons (EntW.lst rfl) (.cons (EntW.lst rfl) .nil))),bB [1000,1001,28] rfl (by decide),(fun i hi=>by first | rfl | (show (if _ then _ else _) = _; (repeat' split) <;> omega))⟩,(.cons (sv (congrArg (D.osl _ _) hk54.symm)) .nil),rfl⟩

theorem kH (a0 : (List aZ)) (a1 : (List aZ)) (r : Bool) (h : iG a0 a1 = some r) : gL Try.prog 22 [.slice false (a0.map aQ.d),.slice false (a1.map aQ.d)] (.bool r):=by
 refine dO (rs:=[.bool r]) Try.func22 rfl Try.ntmps22 (nle rfl) rfl fun O hO=>?_
 show IWP _ _ _ _ ⟨[(0,.slice false (a0.map aQ.d)),(1,.slice false (a1.map aQ.d))],[]⟩ _
 unfold iG at h
 refine aF (aA rfl (aH rfl rfl (lb rfl) (sv (d:=.bool false) rfl)) <|aD ?_)
 refine aT ?_
 obtain ⟨x1,hx1,h⟩:=aR h
 refine aF (aA rfl (mvL rfl rfl rfl rfl) <|aA rfl (eQ aQ (l:=a0) rfl rfl (lb rfl) Try.underlying46 (svL rfl)) <|aA rfl (mvL rfl rfl rfl rfl) <|aA rfl (eQ aQ (l:=a1) rfl rfl (lb rfl) Try.underlying46 (svL rfl)) <|aA rfl (aM rfl rfl (lb rfl) (svI rfl) (svI rfl) rfl hx1) <|aD ?_)
 refine aX (b:=_) rfl (fun hc2=>?_) (fun hc2=>?_)
 ·
  replace h:=bY h hc2
  refine aF (aA rfl (aH rfl rfl (lb rfl) (sv (d:=.bool false) rfl)) <|aD ?_)
  refine bD ?_
  refine bS ?_
  obtain rfl:=Option.some.inj h
  refine ⟨.inr rfl,(.cons (sv rfl) .nil)⟩
 ·
  replace h:=bZ h hc2
  refine aU ?_
  refine aL ?_
  refine aT ?_
  refine aF (aA rfl (aH rfl rfl (lb rfl) (sv (d:=.int _ 0) rfl)) <|aD ?_)
  refine bA ?_
  refine cV (α:=Nat × Int) (fun z=>⟨[(0,.slice false (a0.map aQ.d)),(1,.slice false (a1.map aQ.d)),(5,.int .i64 z.2)],[]⟩) (fun z=>fH a0 a1 z.1 z.2 = some r) (fun z=>z.1) (fuel,0) (fun i=>i) ⟨(.sames rfl rfl),.nil,bB [] rfl (by decide),fun _ _=>rfl⟩ ?_ ?_
  ·exact h
  ·
   rintro ⟨n0,v10⟩ h
   cases n0 with
   | zero=>exact absurd h (by unfold fH; exact nofun)
   | succ n0 =>
    unfold fH at h
    refine aT ?_
    obtain ⟨x18,hx18,h⟩:=aR h
    refine aF (aA rfl (mvI rfl rfl rfl rfl) <|aA rfl (mvL rfl rfl rfl rfl) <|aA rfl (eQ aQ (l:=a0) rfl rfl (lb rfl) Try.underlying46 (svL rfl)) <|aA rfl (aM rfl rfl (lb rfl) (svI rfl) (svI rfl) rfl hx18) <|aD ?_)
    refine aX (b:=_) rfl (fun hc19=>?_) (fun hc19=>?_)
    ·
     replace h:=bY h hc19
     refine aU ?_
     refine aL ?_
     refine aT ?_
     refine bA ?_
     obtain ⟨x20,hx20,h⟩:=aS h
     obtain ⟨x21,hx21,h⟩:=aS h
     obtain ⟨x22,hx22,h⟩:=aR h
     refine lF rfl [⟨[0],[],[(17,.slice false (a0.map aQ.d))],[]⟩,
      ⟨[5],[],[(18,.int .i64 v10)],[]⟩,
      ⟨[17,18],[],[(19,.fptr (v2 x20))],[]⟩,
      ⟨[19],[],[(20,.agg (v2 x20))],[]⟩,
      ⟨[1],[],[(21,.slice false (a1.map aQ.d))],[]⟩,
      ⟨[5],[],[(22,.int .i64 v10)],[]⟩,
      ⟨[21,22],[],[(23,.fptr (v2 x21))],[]⟩,
      ⟨[23],[],[(24,.agg (v2 x21))],[]⟩,
      ⟨[20,24],[],[(25,.bool (!x22))],[]⟩] rfl ?_ (by kernel_rfl) ?_
     ·refine .cons (lop rfl rfl fun S hA=>(aN rfl rfl (lb rfl) (svaL hA rfl rfl))) ?_
      refine .cons (lop rfl rfl fun S hA=>(aN rfl rfl (lb rfl) (svaI hA rfl rfl))) ?_
      refine .cons (lop rfl rfl fun S hA=>(gO aQ (cs:=q9) rfl rfl (lb rfl) Try.underlying46 ti50 (svaL hA rfl rfl) (svaI hA rfl rfl) hx20 rfl rfl)) ?_
      refine .cons (lop rfl rfl fun S hA=>(jY (cs:=q9) rfl rfl (lb rfl) Try.underlying50 ag50 ti50 (by decide) (sv (d:=.fptr q9) (agr hA rfl rfl)) (nle rfl) rfl)) ?_
      refine .cons (lop rfl rfl fun S hA=>(aN rfl rfl (lb rfl) (svaL hA rfl rfl))) ?_
      refine .cons (lop rfl rfl fun S hA=>(aN rfl rfl (lb rfl) (svaI hA rfl rfl))) ?_
      refine .cons (lop rfl rfl fun S hA=>(gO aQ (cs:=q9) rfl rfl (lb rfl) Try.underlying46 ti50 (svaL hA rfl rfl) (svaI hA rfl rfl) hx21 rfl rfl)) ?_
      refine .cons (lop rfl rfl fun S hA=>(jY (cs:=q9) rfl rfl (lb rfl) Try.underlying50 ag50 ti50 (by decide) (sv (d:=.fptr q9) (agr hA rfl rfl)) (nle rfl) rfl)) ?_
      refine .cons (lop rfl rfl fun S hA=>(iop_nes rfl rfl (lb rfl) Try.underlying50 st50.1 st50.2 (svaA q9 hA rfl rfl) (svaA q9 hA rfl rfl) (congrArg some hx22))) ?_
      exact .nil
     refine aX (b:=_) rfl (fun hc23=>?_) (fun hc23=>?_)
     ·
      replace h:=bY h hc23
      refine aF (aA rfl (aH rfl rfl (lb rfl) (sv (d:=.bool false) rfl)) <|aD ?_)
      refine bD ?_
      refine eH ?_
      refine bS ?_
      refine bS ?_
      refine eH ?_
      refine bS ?_
      obtain rfl:=Option.some.inj h
      refine ⟨.inr rfl,(.cons (sv rfl) .nil)⟩
     ·
      replace h:=bZ h hc23
      refine aU ?_
      refine bR ?_
      refine aL ?_
      obtain ⟨x24,hx24,h⟩:=aR h
      refine aW (aA rfl (mvI rfl rfl rfl rfl) <|aA rfl (cQ rfl rfl (lb rfl) (svI rfl) (sv (d:=.int _ 1) rfl) rfl hx24) <|aA rfl (asI rfl rfl rfl rfl) <|bL ?_)
      refine aL ⟨(n0,x24),(fun i=>i),⟨(.sames rfl rfl),.nil,bB [] rfl (by decide),fun _ _=>rfl⟩,?_,?_⟩
      exact h
      exact Nat.lt_succ_self _
    ·
     replace h:=bZ h hc19
     refine dD ?_
     refine bV ?_
     refine bV ?_
     refine dE ?_
     refine aL ?_
     refine aF (aA rfl (aH rfl rfl (lb rfl) (sv (d:=.bool true) rfl)) <|aD ?_)
     refine bD ?_
     obtain rfl:=Option.some.inj h
     refine ⟨.inr rfl,(.cons (sv rfl) .nil)⟩

theorem dW (a0 : (List Int)) (a1 : (List Int)) (r : Bool) (h : dG a0 a1 = some r) : gL Try.prog 23 [.slice false (a0.map (eInt .i64).d),.slice false (a1.map (eInt .i64).d)] (.bool r):=by
 refine dO (rs:=[.bool r]) Try.func23 rfl Try.ntmps23 (nle rfl) rfl fun O hO=>?_
 show IWP _ _ _ _ ⟨[(0,.slice false (a0.map (eInt .i64).d)),(1,.slice false (a1.map (eInt .i64).d))],[]⟩ _
 unfold dG at h
 refine aF (aA rfl (aH rfl rfl (lb rfl) (sv (d:=.bool false) rfl)) <|aD ?_)
 refine aT ?_
 obtain ⟨x1,hx1,h⟩:=aR h
 refine aF (aA rfl (mvL rfl rfl rfl rfl) <|aA rfl (eQ (eInt .i64) (l:=a0) rfl rfl (lb rfl) Try.underlying24 (svL rfl)) <|aA rfl (mvL rfl rfl rfl rfl) <|aA rfl (eQ (eInt .i64) (l:=a1) rfl rfl (lb rfl) Try.underlying24 (svL rfl)) <|aA rfl (aM rfl rfl (lb rfl) (svI rfl) (svI rfl) rfl hx1) <|aD ?_)
 refine aX (b:=_) rfl (fun hc2=>?_) (fun hc2=>?_)
 ·
  replace h:=bY h hc2
  refine aF (aA rfl (aH rfl rfl (lb rfl) (sv (d:=.bool false) rfl)) <|aD ?_)
  refine bD ?_
  refine bS ?_
  obtain rfl:=Option.some.inj h
  refine ⟨.inr rfl,(.cons (sv rfl) .nil)⟩
 ·
  replace h:=bZ h hc2
  refine aU ?_
  refine aL ?_
  refine aT ?_
  refine aF (aA rfl (aH rfl rfl (lb rfl) (sv (d:=.int _ 0) rfl)) <|aD ?_)
  refine bA ?_
  refine cV (α:=Nat × Int) (fun z=>⟨[(0,.slice false (a0.map (eInt .i64).d)),(1,.slice false (a1.map (eInt .i64).d)),(5,.int .i64 z.2)],[]⟩) (fun z=>fR a0 a1 z.1 z.2 = some r) (fun z=>z.1) (fuel,0) (fun i=>i) ⟨(.sames rfl rfl),.nil,bB [] rfl (by decide),fun _ _=>rfl⟩ ?_ ?_
  ·exact h
  ·
   rintro ⟨n0,v10⟩ h
   cases n0 with
   | zero=>exact absurd h (by unfold fR; exact nofun)
   | succ n0 =>
    unfold fR at h
    refine aT ?_
    obtain ⟨x18,hx18,h⟩:=aR h
    refine aF (aA rfl (mvI rfl rfl rfl rfl) <|aA rfl (mvL rfl rfl rfl rfl) <|aA rfl (eQ (eInt .i64) (l:=a0) rfl rfl (lb rfl) Try.underlying24 (svL rfl)) <|aA rfl (aM rfl rfl (lb rfl) (svI rfl) (svI rfl) rfl hx18) <|aD ?_)
    refine aX (b:=_) rfl (fun hc19=>?_) (fun hc19=>?_)
    ·
     replace h:=bY h hc19
     refine aU ?_
     refine aL ?_
     refine aT ?_
     refine bA ?_
     obtain ⟨x20,hx20,h⟩:=aS h
     obtain ⟨x21,hx21,h⟩:=aS h
     obtain ⟨x22,hx22,h⟩:=aR h
     refine lF rfl [⟨[0],[],[(17,.slice false (a0.map (eInt .i64).d))],[]⟩,
      ⟨[5],[],[(18,.int .i64 v10)],[]⟩,
      ⟨[17,18],[],[(19,.fptr [.int .i64 x20])],[]⟩,
      ⟨[19],[],[(20,.int .i64 x20)],[]⟩,
      ⟨[1],[],[(21,.slice false (a1.map (eInt .i64).d))],[]⟩,
      ⟨[5],[],[(22,.int .i64 v10)],[]⟩,
      ⟨[21,22],[],[(23,.fptr [.int .i64 x21])],[]⟩,
      ⟨[23],[],[(24,.int .i64 x21)],[]⟩,
      ⟨[20,24],[],[(25,.bool x22)],[]⟩] rfl ?_ (by kernel_rfl) ?_
     ·refine .cons (lop rfl rfl fun S hA=>(aN rfl rfl (lb rfl) (svaL hA rfl rfl))) ?_
      refine .cons (lop rfl rfl fun S hA=>(aN rfl rfl (lb rfl) (svaI hA rfl rfl))) ?_
      refine .cons (lop rfl rfl fun S hA=>(gO (eInt .i64) (cs:=[.int _ _]) rfl rfl (lb rfl) Try.underlying24 ti3 (svaL hA rfl rfl) (svaI hA rfl rfl) hx20 rfl rfl)) ?_
      refine .cons (lop rfl rfl fun S hA=>(fT rfl rfl (lb rfl) Try.underlying3 ag3 ti3 (by decide) (sv (d:=.fptr [.int _ _]) (agr hA rfl rfl)) (nle rfl))) ?_
      refine .cons (lop rfl rfl fun S hA=>(aN rfl rfl (lb rfl) (svaL hA rfl rfl))) ?_
      refine .cons (lop rfl rfl fun S hA=>(aN rfl rfl (lb rfl) (svaI hA rfl rfl))) ?_
      refine .cons (lop rfl rfl fun S hA=>(gO (eInt .i64) (cs:=[.int _ _]) rfl rfl (lb rfl) Try.underlying24 ti3 (svaL hA rfl rfl) (svaI hA rfl rfl) hx21 rfl rfl)) ?_
      refine .cons (lop rfl rfl fun S hA=>(fT rfl rfl (lb rfl) Try.underlying3 ag3 ti3 (by decide) (sv (d:=.fptr [.int _ _]) (agr hA rfl rfl)) (nle rfl))) ?_
      refine .cons (lop rfl rfl fun S hA=>(aM rfl rfl (lb rfl) (svaI hA rfl rfl) (svaI hA rfl rfl) rfl hx22)) ?_
      exact .nil
     refine aX (b:=_) rfl (fun hc23=>?_) (fun hc23=>?_)
     ·
      replace h:=bY h hc23
      refine aF (aA rfl (aH rfl rfl (lb rfl) (sv (d:=.bool false) rfl)) <|aD ?_)
      refine bD ?_
      refine eH ?_
      refine bS ?_
      refine bS ?_
      refine eH ?_
      refine bS ?_
      obtain rfl:=Option.some.inj h
      refine ⟨.inr rfl,(.cons (sv rfl) .nil)⟩
     ·
      replace h:=bZ h hc23
      refine aU ?_
      refine bR ?_
      refine aL ?_
      obtain ⟨x24,hx24,h⟩:=aR h
      refine aW (aA rfl (mvI rfl rfl rfl rfl) <|aA rfl (cQ rfl rfl (lb rfl) (svI rfl) (sv (d:=.int _ 1) rfl) rfl hx24) <|aA rfl (asI rfl rfl rfl rfl) <|bL ?_)
      refine aL ⟨(n0,x24),(fun i=>i),⟨(.sames rfl rfl),.nil,bB [] rfl (by decide),fun _ _=>rfl⟩,?_,?_⟩
      exact h
      exact Nat.lt_succ_self _
    ·
     replace h:=bZ h hc19
     refine dD ?_
     refine bV ?_
     refine bV ?_
     refine dE ?_
     refine aL ?_
     refine aF (aA rfl (aH rfl rfl (lb rfl) (sv (d:=.bool true) rfl)) <|aD ?_)
     refine bD ?_
     obtain rfl:=Option.some.inj h
     refine ⟨.inr rfl,(.cons (sv rfl) .nil)⟩

theorem lB (a0 : Int) (a1 : Int) (a2 : (List aI)) (a3 : Int) (a4 : Int) (a5 : (List aG)) (a6 : Int) (a7 : (List Int)) (r : (List Int)) (h : iW a0 a1 a2 a3 a4 a5 a6 a7 = some r) : FnH Try.prog 10 [.ref 1000 0] [(1000,.blk 60 (mixD aB.toEnc0 (w20 a0 a1 a2 a3 a4) a5 [.int .i64 a6,.osl 1001 (eInt .i64).sz a7.length])),(1001,.blk 3 (D.flat (a7.map (eInt .i64).d)))] (.osl 0 (eInt .i64).sz r.length) [(1000,.blk 60 (mixD aB.toEnc0 (w20 a0 a1 a2 a3 a4) a5 [.int .i64 a6,.osl 1001 (eInt .i64).sz a7.length])),(1001,.blk 3 (D.flat (a7.map (eInt .i64).d))),(0,.blk 3 (D.flat (r.map (eInt .i64).d)))]:=by
 refine dS (rs:=[.osl 0 (eInt .i64).sz r.length]) Try.func10 rfl Try.ntmps10 (nle rfl) fun O hO=>?_
 show IWP _ _ _ _ ⟨[(0,.ref 1000 0)],[(1000,.blk 60 (mixD aB.toEnc0 (w20 a0 a1 a2 a3 a4) a5 [.int .i64 a6,.osl 1001 (eInt .i64).sz a7.length])),(1001,.blk 3 (D.flat (a7.map (eInt .i64).d)))]⟩ _
 unfold iW at h
 refine aF (aA rfl (aH rfl rfl (lb rfl) (sv (d:=.nils) rfl)) <|aD ?_)
 refine aT ?_
 refine aF (aA rfl (mvR rfl rfl rfl rfl) <|aA rfl (lG rfl rfl (lb rfl) Try.underlying26 (svR rfl) (sv (d:=.nilp) rfl)) <|aD ?_)
 refine fD rfl rfl ?_
 refine aU ?_
 refine aL ?_
 refine aF (aA rfl (aH rfl rfl (lb rfl) (sv (d:=.nils) rfl)) <|aD ?_)
 refine aT ?_
 obtain ⟨hk1,h⟩:=jN h
 refine aF (aA rfl (mvR rfl rfl rfl rfl) <|aA rfl (aJ rfl rfl (lb rfl) (svR rfl)) <|aA rfl (faR 390 rfl rfl rfl Try.underlying60 rfl ti24 (lb rfl) rfl rfl) <|aA rfl (fG aB.toEnc0 (d:=.osl _ _ _) (n:=64) (k:=1) rfl rfl (lb rfl) Try.underlying24 ag24 ti24 (by decide) (svR rfl) rfl hk1 (by rfl) (nle rfl) (by rfl)) <|aA rfl (fE rfl rfl (lb rfl) Try.underlying24 (sv (d:=.osl _ _ _) rfl)) <|aA rfl (aN rfl rfl (lb rfl) (sv (d:=.int _ 0) rfl)) <|aD ?_)
 refine bA ?_
 refine cV (α:=Nat × (List Int) × Int) (fun z=>⟨[(0,.ref 1000 0),(3,.osl 21 (eInt .i64).sz z.2.1.length),(11,.osl 1001 (eInt .i64).sz a7.length),(12,.int .i64 (a7.length : Int)),(13,.int .i64 z.2.2)],[(1000,.blk 60 (mixD aB.toEnc0 (w20 a0 a1 a2 a3 a4) a5 [.int .i64 a6,.osl 1001 (eInt .i64).sz a7.length])),(21,.blk 3 (D.flat (z.2.1.map (eInt .i64).d))),(1001,.blk 3 (D.flat (a7.map (eInt .i64).d)))]⟩) (fun z=>fW a0 a1 a2 a3 a4 a5 a6 a7 z.1 z.2.1 z.2.2 = some r) (fun z=>z.1) (fuel,([] : (List Int)),0) (fun i=>if i = 21 then 71 else i) ⟨(.s rfl rfl (.cons (.nilo rfl) (.sames rfl rfl))),(.cons (EntW.mix aB rfl (SubC.of_eq rfl) (SubC.of_eq rfl) rfl rfl) (.cons (.nilb rfl) (.cons (EntW.lst rfl) .nil))),bB [1000,71,1001] rfl (by decide),(fun i hi=>by first | rfl | (show (if _ then _ else _) = _; (repeat' split) <;> omega))⟩ ?_ ?_
 ·exact h
 ·
  rintro ⟨n0,v9,v10⟩ h
  cases n0 with
  | zero=>exact absurd h (by unfold fW; exact nofun)
  | succ n0 =>
   unfold fW at h
   obtain ⟨x18,hx18,h⟩:=aR h
   refine aF (aA rfl (aM rfl rfl (lb rfl) (svI rfl) (svI rfl) rfl hx18) <|aD ?_)
   refine aT ?_
   refine aX (b:=_) rfl (fun hc19=>?_) (fun hc19=>?_)
   ·
    replace h:=bY h hc19
    refine aU ?_
    refine aL ?_
    refine aT ?_
    refine bA ?_
    obtain ⟨x20,hx20,h⟩:=aS h
    obtain ⟨x21,hx21,h⟩:=aS h
    refine aF (aA rfl (gP (eInt .i64).toEnc0 rfl rfl (lb rfl) Try.underlying24 ti3 (sv (d:=.osl _ _ _) rfl) rfl (svI rfl) hx20) <|aA rfl (fO (eInt .i64).toEnc0 (d:=.int _ _) rfl rfl (lb rfl) Try.underlying3 ag3 ti3 (by decide) (svR rfl) rfl hx21 (nle rfl) rfl) <|aA rfl (asI rfl rfl rfl rfl) <|aD ?_)
    obtain ⟨x22,hx22,h⟩:=aS h
    obtain ⟨x23,hx23,h⟩:=aS h
    refine aW (aA rfl (aN rfl rfl (lb rfl) (sv (d:=.osl _ _ _) rfl)) <|aA rfl (mvR rfl rfl rfl rfl) <|aA rfl (mvI rfl rfl rfl rfl) <|aA rfl (fA (r':=.int .i64 x22) (V:=[(1000,.blk 60 (mixD aB.toEnc0 (w20 a0 a1 a2 a3 a4) a5 [.int .i64 a6,.osl 1001 (eInt .i64).sz a7.length])),(1001,.blk 3 (D.flat (a7.map (eInt .i64).d)))]) 22 [1000,1001] rfl rfl (lb rfl) cl25 (.cons (svR rfl) (.cons (svI rfl) .nil)) rfl rfl rfl ⟨by decide,rfl,List.forall_mem_cons.2 ⟨⟨rfl,rfl,(eP aB rfl rfl rfl),(bF aB rfl rfl)⟩,List.forall_mem_cons.2 ⟨⟨rfl,rfl,(dY (eInt .i64) rfl),(aY (eInt .i64))⟩,List.forall_mem_nil _⟩⟩⟩ (gZ _ _ _ _ _ _ _ _ _ _ hx22) rfl rfl (List.forall_mem_cons.2 ⟨⟨rfl,(bF aB rfl rfl)⟩,List.forall_mem_cons.2 ⟨⟨rfl,(aY (eInt .i64))⟩,List.forall_mem_nil _⟩⟩) (by simp only [List.map_cons,List.map_nil,Ent.ren,bC,bG,bK]; rfl) (List.forall_mem_cons.2 ⟨rfl,List.forall_mem_cons.2 ⟨rfl,List.forall_mem_nil _⟩⟩) rfl) <|aA rfl (jZ (eInt .i64).toEnc0 ([x22] : (List Int)) 22 rfl rfl (lb rfl) Try.underlying24 ti3 rfl (.cons (svI rfl) .nil) rfl rfl (by decide)) <|aA rfl (iX (eInt .i64).toEnc0 23 rfl rfl (lb rfl) Try.underlying24 ti3 rfl rfl rfl rfl rfl (nS (eInt .i64).toEnc0 rfl rfl rfl) hx23) <|aA rfl (aH rfl rfl (lb rfl) (sv (d:=.osl _ _ _) rfl)) <|bL ?_)
    refine bR ?_
    refine aL ?_
    obtain ⟨x24,hx24,h⟩:=aR h
    refine aW (aA rfl (cQ rfl rfl (lb rfl) (svI rfl) (sv (d:=.int _ 1) rfl) rfl hx24) <|aA rfl (mvI rfl rfl rfl rfl) <|bL ?_)
    refine aL ⟨(n0,x23,x24),(fun i=>if i = 21 then 23 else i),⟨(.sames rfl rfl),(.cons (EntW.mix aB rfl (SubC.of_eq rfl) (SubC.of_eq rfl) rfl rfl) (.cons (EntW.lst rfl) (.cons (EntW.lst rfl) .nil))),bB [1000,23,1001] rfl (by decide),(fun i hi=>by first | rfl | (show (if _ then _ else _) = _; (repeat' split) <;> omega))⟩,?_,?_⟩
    exact h
    exact Nat.lt_succ_self _
   ·
    replace h:=bZ h hc19
    refine dD ?_
    refine bV ?_
    refine bV ?_
    refine dE ?_
    refine aL ?_
    refine aF (aA rfl (aN rfl rfl (lb rfl) (sv (d:=.osl _ _ _) rfl)) <|aA rfl (aH rfl rfl (lb rfl) (sv (d:=.osl _ _ _) rfl)) <|aD ?_)
    refine bD ?_
    obtain rfl:=Option.some.inj h
    refine ⟨.inr rfl,(fun i=>if i = 0 then 21 else i),⟨.nil,(.cons (EntW.mix aB rfl (SubC.of_eq rfl) (SubC.of_eq rfl) rfl rfl) (.cons (EntW.lst rfl) (.cons (EntW.lst rfl) .nil))),bB [1000,1001,21] rfl (by decide),(fun i hi=>by first | rfl | (show (if _ then _ else _) = _; (repeat' split) <;> omega))⟩,(.cons (sv rfl) .nil),rfl⟩

theorem dP  (r : Bool) (h : dA = some r) : gL Try.prog 7 [] (.bool r):=by
 refine dO (rs:=[.bool r]) Try.func7 rfl Try.ntmps7 (nle rfl) rfl fun O hO=>?_
 show IWP _ _ _ _ ⟨[],[]⟩ _
 unfold dA at h
 refine aF (aA rfl (aH rfl rfl (lb rfl) (sv (d:=.bool false) rfl)) <|aD ?_)
 refine aF (?_)
 refine eR (S':=⟨[],[]⟩) (fun i=>i) ⟨.nil,.nil,bB [] rfl (by decide),fun _ _=>rfl⟩ ?_
 refine iI 1 0 rfl rfl rfl (by decide) cl15 Try.func15 rfl (.cons (sv (d:=.int _ 8) rfl) (.cons (sv (d:=.int _ 2) rfl) .nil)) Try.ntmps15 (nle rfl) rfl hO.semiL fun O1 hO1=>?_
 show IWP _ _ _ _ ⟨[(0,.int .i64 8),(1,.int .i64 2)],[(0,.kept 1 q5)]⟩ _
 refine aF (aA rfl (aH rfl rfl (lb rfl) (sv (d:=.nilp) rfl)) <|aA rfl (aH rfl rfl (lb rfl) (sv (d:=.int _ 0) rfl)) <|aD ?_)
 refine aT ?_
 obtain ⟨x1,hx1,h⟩:=aS h
 obtain ⟨x2,hx2,h⟩:=aS h
 obtain ⟨x3,hx3,h⟩:=aR h
 refine aF (aA rfl (mvI rfl rfl rfl rfl) <|aA rfl (cA (r:=.bool _) rfl rfl (lb rfl) cl31 (.cons (svI rfl) (.cons (sv (d:=.int _ 1) rfl) (.cons (sv (d:=.int _ 24) rfl) .nil))) rfl (jL _ _ _ _ hx1)) <|aA rfl (eG rfl rfl (lb rfl) (svB rfl)) <|aA rfl (mvB rfl rfl rfl rfl) <|aC rfl rfl (.one rfl) rfl (by decide) (fun hb=>(mvI rfl rfl rfl rfl)) <|aC rfl rfl (.one rfl) rfl (by decide) (fun hb=>(mvI rfl rfl rfl rfl)) <|aC rfl rfl (.one rfl) rfl (by decide) (fun hb=>(cA (r:=.bool _) rfl rfl (lb rfl) cl31 (.cons (svcI rfl hb) (.cons (sv (d:=.int _ 0) rfl) (.cons (svcI rfl hb) .nil))) rfl (jL _ _ _ _ (gd_t hx2 hb)))) <|aC rfl rfl (.one rfl) rfl (by decide) (fun hb=>(eG rfl rfl (lb rfl) (svcB rfl hb))) <|aA rfl (gD rfl rfl (lb rfl) (svB rfl) rfl rfl hx3) <|aD ?_)
 refine aX (b:=_) rfl (fun hc4=>?_) (fun hc4=>?_)
 ·
  replace h:=bY h hc4
  refine aF (aA rfl (aH rfl rfl (lb rfl) (sv (d:=.nilp) rfl)) <|aA rfl (aH rfl rfl (lb rfl) (sv (d:=.int _ 8) rfl)) <|aD ?_)
  refine bD ?_
  refine bS ?_
  refine ⟨.inr rfl,0,_,[.nilp,.int .i64 8],(.cons (sv rfl) (.cons (sv rfl) .nil)),rfl,rfl,⟨[(19,.tuple [.nilp,.int .i64 8])],[]⟩,(fun i=>i),⟨(.sames rfl rfl),.nil,bB [] rfl (by decide),fun _ _=>rfl⟩,?_⟩
  refine aA rfl (aN rfl rfl (lb rfl) (sv (d:=.tuple [.nilp,.int _ _]) rfl)) <|aA rfl (dR (d:=.nilp) rfl rfl (lb rfl) (sv (d:=.tuple [.nilp,.int _ _]) rfl) rfl) <|aA rfl (dR (d:=.int _ _) rfl rfl (lb rfl) (sv (d:=.tuple [.nilp,.int _ _]) rfl) rfl) <|aA rfl (aH rfl rfl (lb rfl) (sv (d:=.nilp) rfl)) <|aA rfl (asI rfl rfl rfl rfl) <|aD ?_
  refine aT ?_
  obtain ⟨x5,hx5,h⟩:=aR h
  obtain ⟨x6,hx6,h⟩:=aR h
  refine aF (aA rfl (mvI rfl rfl rfl rfl) <|aA rfl (aM rfl rfl (lb rfl) (svI rfl) (sv (d:=.int _ 0) rfl) rfl hx5) <|aA rfl (mvB rfl rfl rfl rfl) <|aC rfl rfl (.one rfl) rfl (by decide) (fun hb=>(aN rfl rfl (lb rfl) (sv (d:=.nilp) rfl))) <|aC rfl rfl (.one rfl) rfl (by decide) (fun hb=>(vO rfl rfl (lb rfl) Try.underlying26 (svc (d:=.nilp) rfl hb) (sv (d:=.nilp) rfl))) <|aA rfl (gD rfl rfl (lb rfl) (svB rfl) rfl rfl hx6) <|aD ?_)
  refine rO rfl (or_tt hx6) ?_
  refine aF (aA rfl (aH rfl rfl (lb rfl) (sv (d:=.bool false) rfl)) <|aD ?_)
  refine bD ?_
  refine bS ?_
  obtain rfl:=Option.some.inj h
  refine ⟨.inr rfl,(.cons (sv rfl) .nil)⟩
 ·
  replace h:=bZ h hc4
  refine aU ?_
  refine aL ?_
  obtain ⟨x7,hx7,h⟩:=aS h
  refine aF (aA rfl (mvI rfl rfl rfl rfl) <|aA rfl (mvI rfl rfl rfl rfl) <|aA rfl (cA (r:=.agg q10) rfl rfl (lb rfl) cl32 .nil rfl (nK  _ hx7)) <|aA rfl (cF (cs:=(mixD aB.toEnc0 q7 (List.replicate 64 (⟨0,0,0,0,0,false⟩ : aG) : (List aG)) [.int _ _,.nils])) rfl rfl (lb rfl) Try.underlying60 ti60 pl60 rfl (.cons (svI rfl) (.cons (svI rfl) (.cons (svA q10 rfl) (.cons (sv (d:=.int _ (-1)) rfl) .nil)))) (by kernel_rfl)) <|aA rfl (eD (cs:=(mixD aB.toEnc0 q7 (List.replicate 64 (⟨0,0,0,0,0,false⟩ : aG) : (List aG)) [.int _ _,.nils])) 1 rfl rfl (lb rfl) rfl (sv (d:=.agg (mixD aB.toEnc0 q7 (List.replicate 64 (⟨0,0,0,0,0,false⟩ : aG) : (List aG)) [.int _ _,.nils])) rfl) rfl rfl) <|eR (S':=⟨[(0,.int .i64 8),(1,.int .i64 2),(4,.nilp),(5,.int .i64 0),(6,.int .i64 8),(7,.bool x1),(8,.bool (!x1)),(9,.bool (!x1)),(14,.bool x3),(15,.int .i64 8),(16,.int .i64 2),(17,.agg (v1 x7)),(18,.agg (mixD aB.toEnc0 (w20 8 2 x7.Cells x7.Free x7.Used) (List.replicate 64 (⟨0,0,0,0,0,false⟩ : aG) : (List aG)) [.int .i64 (-1),.nils])),(19,.ref 1 0)],[(2,.blk 3 (D.flat (([] : (List Int)).map (eInt .i64).d))),(0,.kept 1 q5),(1,.blk 60 (mixD aB.toEnc0 (w20 8 2 x7.Cells x7.Free x7.Used) (List.replicate 64 (⟨0,0,0,0,0,false⟩ : aG) : (List aG)) [.int .i64 (-1),.osl 2 (eInt .i64).sz 0]))]⟩) (fun i=>if i = 2 then 54 else i) ⟨(.sames rfl rfl),(.cons (.nilb rfl) (.cons (.kept rfl rfl rfl) (.cons (EntW.mix aB rfl (SubC.of_eq rfl) (.same (.nilo .nil)) rfl rfl) .nil))),bB [54,0,1] rfl (by decide),(fun i hi=>by first | rfl | (show (if _ then _ else _) = _; (repeat' split) <;> omega))⟩ <|aA rfl (aH rfl rfl (lb rfl) (svR rfl)) <|aA rfl (aH rfl rfl (lb rfl) (sv (d:=.int _ 0) rfl)) <|aD ?_)
  refine bD ?_
  refine ⟨.inr rfl,0,_,[.ref 1 0,.int .i64 0],(.cons (sv rfl) (.cons (sv rfl) .nil)),rfl,rfl,⟨[(19,.tuple [.ref 1 0,.int .i64 0])],[(1,.blk 60 (mixD aB.toEnc0 (w20 8 2 x7.Cells x7.Free x7.Used) (List.replicate 64 (⟨0,0,0,0,0,false⟩ : aG) : (List aG)) [.int .i64 (-1),.osl 2 (eInt .i64).sz 0])),(2,.blk 3 (D.flat (([] : (List Int)).map (eInt .i64).d)))]⟩,(fun i=>i),⟨(.sames rfl rfl),(.cons (EntW.mix aB rfl (SubC.of_eq rfl) (SubC.of_eq rfl) rfl rfl) (.cons (EntW.lst rfl) .nil)),bB [1,2] rfl (by decide),fun _ _=>rfl⟩,?_⟩
  refine aA rfl (aN rfl rfl (lb rfl) (sv (d:=.tuple q17) rfl)) <|aA rfl (dR (d:=.ref _ _) rfl rfl (lb rfl) (sv (d:=.tuple q17) rfl) rfl) <|aA rfl (dR (d:=.int _ _) rfl rfl (lb rfl) (sv (d:=.tuple q17) rfl) rfl) <|aA rfl (aH rfl rfl (lb rfl) (svR rfl)) <|aA rfl (asI rfl rfl rfl rfl) <|aD ?_
  refine aT ?_
  obtain ⟨x8,hx8,h⟩:=aR h
  obtain ⟨x9,hx9,h⟩:=aR h
  refine aF (aA rfl (mvI rfl rfl rfl rfl) <|aA rfl (aM rfl rfl (lb rfl) (svI rfl) (sv (d:=.int _ 0) rfl) rfl hx8) <|aA rfl (mvB rfl rfl rfl rfl) <|aC rfl rfl (.one rfl) rfl (by decide) (fun hb=>(mvR rfl rfl rfl rfl)) <|aC rfl rfl (.one rfl) rfl (by decide) (fun hb=>(lG rfl rfl (lb rfl) Try.underlying26 (svcR rfl hb) (sv (d:=.nilp) rfl))) <|aA rfl (gD rfl rfl (lb rfl) (svB rfl) rfl rfl hx9) <|aD ?_)
  refine aX (b:=_) rfl (fun hc10=>?_) (fun hc10=>?_)
  ·
   replace h:=bY h hc10
   refine aF (aA rfl (aH rfl rfl (lb rfl) (sv (d:=.bool false) rfl)) <|aD ?_)
   refine bD ?_
   refine bS ?_
   obtain rfl:=Option.some.inj h
   refine ⟨.inr rfl,(.cons (sv rfl) .nil)⟩
  ·
   replace h:=bZ h hc10
   refine aU ?_
   refine aL ?_
   obtain ⟨x11,hx11,h⟩:=aS h
   obtain ⟨x12,hx12,h⟩:=aS h
   obtain ⟨x13,hx13,h⟩:=aS h
   refine aF (aA rfl (mvR rfl rfl rfl rfl) <|aA rfl (bH (r':=.int .i64 x11.1) (H1':=[(1,.blk 60 (mixD aB.toEnc0 (w20 x11.2.1 x11.2.2.1 x11.2.2.2.1 x11.2.2.2.2.1 x11.2.2.2.2.2.1) x11.2.2.2.2.2.2.1 [.int .i64 x11.2.2.2.2.2.2.2.1,.osl 3 (eInt .i64).sz x11.2.2.2.2.2.2.2.2.length])),(3,.blk 3 (D.flat (x11.2.2.2.2.2.2.2.2.map (eInt .i64).d)))]) 3 [1,2] rfl rfl (lb rfl) cl18 (.cons (svR rfl) (.cons (sv (d:=.int _ 1) rfl) (.cons (sv (d:=.int _ 0) rfl) (.cons (sv (d:=.int _ 16) rfl) (.cons (sv (d:=.bool false) rfl) .nil))))) rfl rfl ⟨rfl,rfl,by decide,rfl,List.forall_mem_cons.2 ⟨⟨rfl,rfl,(eP aB rfl rfl rfl),(bF aB rfl rfl)⟩,List.forall_mem_cons.2 ⟨⟨rfl,rfl,(dY (eInt .i64) rfl),(aY (eInt .i64))⟩,List.forall_mem_nil _⟩⟩⟩ (gK _ _ _ _ _ _ _ _ _ _ _ _ _ hx11) rfl rfl (List.forall_mem_cons.2 ⟨⟨rfl,(bF aB rfl rfl)⟩,List.forall_mem_cons.2 ⟨⟨rfl,(aY (eInt .i64))⟩,List.forall_mem_nil _⟩⟩) (by simp only [List.map_cons,List.map_nil,Ent.ren,bC,bG,bK]; rfl)) <|aA rfl (mvR rfl rfl rfl rfl) <|aA rfl (bH (r':=.int .i64 x12.1) (H1':=[(1,.blk 60 (mixD aB.toEnc0 (w20 x12.2.1 x12.2.2.1 x12.2.2.2.1 x12.2.2.2.2.1 x12.2.2.2.2.2.1) x12.2.2.2.2.2.2.1 [.int .i64 x12.2.2.2.2.2.2.2.1,.osl 4 (eInt .i64).sz x12.2.2.2.2.2.2.2.2.length])),(4,.blk 3 (D.flat (x12.2.2.2.2.2.2.2.2.map (eInt .i64).d)))]) 4 [1,3] rfl rfl (lb rfl) cl18 (.cons (svR rfl) (.cons (sv (d:=.int _ 3) rfl) (.cons (sv (d:=.int _ 1) rfl) (.cons (sv (d:=.int _ 32) rfl) (.cons (sv (d:=.bool false) rfl) .nil))))) rfl rfl ⟨rfl,rfl,by decide,rfl,List.forall_mem_cons.2 ⟨⟨rfl,rfl,(eP aB rfl rfl rfl),(bF aB rfl rfl)⟩,List.forall_mem_cons.2 ⟨⟨rfl,rfl,(dY (eInt .i64) rfl),(aY (eInt .i64))⟩,List.forall_mem_nil _⟩⟩⟩ (gK _ _ _ _ _ _ _ _ _ _ _ _ _ hx12) rfl rfl (List.forall_mem_cons.2 ⟨⟨rfl,(bF aB rfl rfl)⟩,List.forall_mem_cons.2 ⟨⟨rfl,(aY (eInt .i64))⟩,List.forall_mem_nil _⟩⟩) (by simp only [List.map_cons,List.map_nil,Ent.ren,bC,bG,bK]; rfl)) <|aA rfl (mvR rfl rfl rfl rfl) <|aA rfl (bH (r':=.int .i64 x13.1) (H1':=[(1,.blk 60 (mixD aB.toEnc0 (w20 x13.2.1 x13.2.2.1 x13.2.2.2.1 x13.2.2.2.2.1 x13.2.2.2.2.2.1) x13.2.2.2.2.2.2.1 [.int .i64 x13.2.2.2.2.2.2.2.1,.osl 5 (eInt .i64).sz x13.2.2.2.2.2.2.2.2.length])),(5,.blk 3 (D.flat (x13.2.2.2.2.2.2.2.2.map (eInt .i64).d)))]) 5 [1,4] rfl rfl (lb rfl) cl18 (.cons (svR rfl) (.cons (sv (d:=.int _ 5) rfl) (.cons (sv (d:=.int _ 3) rfl) (.cons (sv (d:=.int _ 8) rfl) (.cons (sv (d:=.bool false) rfl) .nil))))) rfl rfl ⟨rfl,rfl,by decide,rfl,List.forall_mem_cons.2 ⟨⟨rfl,rfl,(eP aB rfl rfl rfl),(bF aB rfl rfl)⟩,List.forall_mem_cons.2 ⟨⟨rfl,rfl,(dY (eInt .i64) rfl),(aY (eInt .i64))⟩,List.forall_mem_nil _⟩⟩⟩ (gK _ _ _ _ _ _ _ _ _ _ _ _ _ hx13) rfl rfl (List.forall_mem_cons.2 ⟨⟨rfl,(bF aB rfl rfl)⟩,List.forall_mem_cons.2 ⟨⟨rfl,(aY (eInt .i64))⟩,List.forall_mem_nil _⟩⟩) (by simp only [List.map_cons,List.map_nil,Ent.ren,bC,bG,bK]; rfl)) <|aA rfl (asI rfl rfl rfl rfl) <|aA rfl (asI rfl rfl rfl rfl) <|aA rfl (asI rfl rfl rfl rfl) <|aD ?_)
   obtain ⟨x14,hx14,h⟩:=aS h
   refine aF (aA rfl (mvR rfl rfl rfl rfl) <|aA rfl (bH (r':=.int .i64 x14.1) (H1':=[(1,.blk 60 (mixD aB.toEnc0 (w20 x14.2.1 x14.2.2.1 x14.2.2.2.1 x14.2.2.2.2.1 x14.2.2.2.2.2.1) x14.2.2.2.2.2.2.1 [.int .i64 x14.2.2.2.2.2.2.2.1,.osl 6 (eInt .i64).sz x14.2.2.2.2.2.2.2.2.length])),(6,.blk 3 (D.flat (x14.2.2.2.2.2.2.2.2.map (eInt .i64).d)))]) 6 [1,5] rfl rfl (lb rfl) cl17 (.cons (svR rfl) (.cons (sv (d:=.int _ 1) rfl) (.cons (sv (d:=.int _ 5) rfl) (.cons (sv (d:=.int _ 4) rfl) (.cons (sv (d:=.bool true) rfl) .nil))))) rfl rfl ⟨rfl,rfl,by decide,rfl,List.forall_mem_cons.2 ⟨⟨rfl,rfl,(eP aB rfl rfl rfl),(bF aB rfl rfl)⟩,List.forall_mem_cons.2 ⟨⟨rfl,rfl,(dY (eInt .i64) rfl),(aY (eInt .i64))⟩,List.forall_mem_nil _⟩⟩⟩ (jW _ _ _ _ _ _ _ _ _ _ _ _ _ hx14) rfl rfl (List.forall_mem_cons.2 ⟨⟨rfl,(bF aB rfl rfl)⟩,List.forall_mem_cons.2 ⟨⟨rfl,(aY (eInt .i64))⟩,List.forall_mem_nil _⟩⟩) (by simp only [List.map_cons,List.map_nil,Ent.ren,bC,bG,bK]; rfl)) <|aA rfl (asI rfl rfl rfl rfl) <|aD ?_)
   obtain ⟨x15,hx15,h⟩:=aS h
   obtain ⟨x16,hx16,h⟩:=aS h
   refine aF (aA rfl (mvR rfl rfl rfl rfl) <|aA rfl (bH (r':=.osl 7 aQ.sz x15.length) (H1':=[(1,.blk 60 (mixD aB.toEnc0 (w20 x14.2.1 x14.2.2.1 x14.2.2.2.1 x14.2.2.2.2.1 x14.2.2.2.2.2.1) x14.2.2.2.2.2.2.1 [.int .i64 x14.2.2.2.2.2.2.2.1,.osl 6 (eInt .i64).sz x14.2.2.2.2.2.2.2.2.length])),(6,.blk 3 (D.flat (x14.2.2.2.2.2.2.2.2.map (eInt .i64).d))),(7,.blk 40 (D.flat (x15.map aQ.d)))]) 7 [1,6] rfl rfl (lb rfl) cl9 (.cons (svR rfl) .nil) rfl rfl ⟨rfl,rfl,by decide,rfl,List.forall_mem_cons.2 ⟨⟨rfl,rfl,(eP aB rfl rfl rfl),(bF aB rfl rfl)⟩,List.forall_mem_cons.2 ⟨⟨rfl,rfl,(dY (eInt .i64) rfl),(aY (eInt .i64))⟩,List.forall_mem_nil _⟩⟩⟩ (lJ _ _ _ _ _ _ _ _ _ hx15) rfl rfl (List.forall_mem_cons.2 ⟨⟨rfl,(bF aB rfl rfl)⟩,List.forall_mem_cons.2 ⟨⟨rfl,(aY (eInt .i64))⟩,List.forall_mem_cons.2 ⟨⟨rfl,(aY aQ)⟩,List.forall_mem_nil _⟩⟩⟩) (by simp only [List.map_cons,List.map_nil,Ent.ren,bC,bG,bK]; rfl)) <|aA rfl (fA (r':=.slice false (x16.map aQ.d)) (V:=[(7,.blk 40 (D.flat (x15.map aQ.d)))]) 8 [7] rfl rfl (lb rfl) cl19 (.cons (sv (d:=.osl _ _ _) rfl) .nil) rfl rfl rfl ⟨by decide,rfl,List.forall_mem_cons.2 ⟨⟨rfl,rfl,(dY aQ rfl),(aY aQ)⟩,List.forall_mem_nil _⟩⟩ (mV _ _ hx16) rfl rfl (List.forall_mem_cons.2 ⟨⟨rfl,(aY aQ)⟩,List.forall_mem_nil _⟩) (by simp only [List.map_cons,List.map_nil,Ent.ren,bC,bG]; rfl) (List.forall_mem_cons.2 ⟨rfl,List.forall_mem_nil _⟩) rfl) <|aA rfl (aH rfl rfl (lb rfl) (svL rfl)) <|aD ?_)
   obtain ⟨x17,hx17,h⟩:=aS h
   refine aF (aA rfl (mvR rfl rfl rfl rfl) <|aA rfl (bH (r':=.osl 8 (eInt .i64).sz x17.length) (H1':=[(1,.blk 60 (mixD aB.toEnc0 (w20 x14.2.1 x14.2.2.1 x14.2.2.2.1 x14.2.2.2.2.1 x14.2.2.2.2.2.1) x14.2.2.2.2.2.2.1 [.int .i64 x14.2.2.2.2.2.2.2.1,.osl 6 (eInt .i64).sz x14.2.2.2.2.2.2.2.2.length])),(6,.blk 3 (D.flat (x14.2.2.2.2.2.2.2.2.map (eInt .i64).d))),(8,.blk 3 (D.flat (x17.map (eInt .i64).d)))]) 8 [1,6] rfl rfl (lb rfl) cl11 (.cons (svR rfl) (.cons (sv (d:=.int _ 3) rfl) .nil)) rfl rfl ⟨rfl,rfl,by decide,rfl,List.forall_mem_cons.2 ⟨⟨rfl,rfl,(eP aB rfl rfl rfl),(bF aB rfl rfl)⟩,List.forall_mem_cons.2 ⟨⟨rfl,rfl,(dY (eInt .i64) rfl),(aY (eInt .i64))⟩,List.forall_mem_nil _⟩⟩⟩ (dQ _ _ _ _ _ _ _ _ _ _ hx17) rfl rfl (List.forall_mem_cons.2 ⟨⟨rfl,(bF aB rfl rfl)⟩,List.forall_mem_cons.2 ⟨⟨rfl,(aY (eInt .i64))⟩,List.forall_mem_cons.2 ⟨⟨rfl,(aY (eInt .i64))⟩,List.forall_mem_nil _⟩⟩⟩) (by simp only [List.map_cons,List.map_nil,Ent.ren,bC,bG,bK]; rfl)) <|aA rfl (aH rfl rfl (lb rfl) (sv (d:=.osl _ _ _) rfl)) <|aD ?_)
   obtain ⟨x18,hx18,h⟩:=aS h
   refine aF (aA rfl (mvR rfl rfl rfl rfl) <|aA rfl (uQ (eInt .i64) ([3,1,9] : (List Int)) 9 rfl rfl (lb rfl) Try.underlying24 ti3 rfl (.cons (sv (d:=.int _ 3) rfl) (.cons (sv (d:=.int _ 1) rfl) (.cons (sv (d:=.int _ 9) rfl) .nil))) rfl rfl (by decide)) <|aA rfl (bH (r':=.osl 10 (eInt .i64).sz x18.length) (H1':=[(1,.blk 60 (mixD aB.toEnc0 (w20 x14.2.1 x14.2.2.1 x14.2.2.2.1 x14.2.2.2.2.1 x14.2.2.2.2.2.1) x14.2.2.2.2.2.2.1 [.int .i64 x14.2.2.2.2.2.2.2.1,.osl 6 (eInt .i64).sz x14.2.2.2.2.2.2.2.2.length])),(6,.blk 3 (D.flat (x14.2.2.2.2.2.2.2.2.map (eInt .i64).d))),(10,.blk 3 (D.flat (x18.map (eInt .i64).d)))]) 10 [1,6] rfl rfl (lb rfl) cl13 (.cons (svR rfl) (.cons (svg rfl) .nil)) rfl rfl ⟨rfl,rfl,by decide,rfl,List.forall_mem_cons.2 ⟨⟨rfl,rfl,(eP aB rfl rfl rfl),(bF aB rfl rfl)⟩,List.forall_mem_cons.2 ⟨⟨rfl,rfl,(dY (eInt .i64) rfl),(aY (eInt .i64))⟩,List.forall_mem_nil _⟩⟩⟩ (lI _ _ _ _ _ _ _ _ _ _ hx18) rfl rfl (List.forall_mem_cons.2 ⟨⟨rfl,(bF aB rfl rfl)⟩,List.forall_mem_cons.2 ⟨⟨rfl,(aY (eInt .i64))⟩,List.forall_mem_cons.2 ⟨⟨rfl,(aY (eInt .i64))⟩,List.forall_mem_nil _⟩⟩⟩) (by simp only [List.map_cons,List.map_nil,Ent.ren,bC,bG,bK]; rfl)) <|aA rfl (aH rfl rfl (lb rfl) (sv (d:=.osl _ _ _) rfl)) <|aD ?_)
   obtain ⟨x19,hx19,h⟩:=aS h
   obtain ⟨x20,hx20,h⟩:=aS h
   refine aF (aA rfl (mvR rfl rfl rfl rfl) <|aA rfl (bH (r':=.int .i64 x19.1) (H1':=[(1,.blk 60 (mixD aB.toEnc0 (w20 x19.2.1 x19.2.2.1 x19.2.2.2.1 x19.2.2.2.2.1 x19.2.2.2.2.2.1) x19.2.2.2.2.2.2.1 [.int .i64 x19.2.2.2.2.2.2.2.1,.osl 11 (eInt .i64).sz x19.2.2.2.2.2.2.2.2.length])),(11,.blk 3 (D.flat (x19.2.2.2.2.2.2.2.2.map (eInt .i64).d)))]) 11 [1,6] rfl rfl (lb rfl) cl20 (.cons (svR rfl) (.cons (sv (d:=.int _ 1) rfl) .nil)) rfl rfl ⟨rfl,rfl,by decide,rfl,List.forall_mem_cons.2 ⟨⟨rfl,rfl,(eP aB rfl rfl rfl),(bF aB rfl rfl)⟩,List.forall_mem_cons.2 ⟨⟨rfl,rfl,(dY (eInt .i64) rfl),(aY (eInt .i64))⟩,List.forall_mem_nil _⟩⟩⟩ (jR _ _ _ _ _ _ _ _ _ _ hx19) rfl rfl (List.forall_mem_cons.2 ⟨⟨rfl,(bF aB rfl rfl)⟩,List.forall_mem_cons.2 ⟨⟨rfl,(aY (eInt .i64))⟩,List.forall_mem_nil _⟩⟩) (by simp only [List.map_cons,List.map_nil,Ent.ren,bC,bG,bK]; rfl)) <|aA rfl (mvR rfl rfl rfl rfl) <|aA rfl (bH (r':=.int .i64 x20.1) (H1':=[(1,.blk 60 (mixD aB.toEnc0 (w20 x20.2.1 x20.2.2.1 x20.2.2.2.1 x20.2.2.2.2.1 x20.2.2.2.2.2.1) x20.2.2.2.2.2.2.1 [.int .i64 x20.2.2.2.2.2.2.2.1,.osl 12 (eInt .i64).sz x20.2.2.2.2.2.2.2.2.length])),(12,.blk 3 (D.flat (x20.2.2.2.2.2.2.2.2.map (eInt .i64).d)))]) 12 [1,11] rfl rfl (lb rfl) cl20 (.cons (svR rfl) (.cons (sv (d:=.int _ 1) rfl) .nil)) rfl rfl ⟨rfl,rfl,by decide,rfl,List.forall_mem_cons.2 ⟨⟨rfl,rfl,(eP aB rfl rfl rfl),(bF aB rfl rfl)⟩,List.forall_mem_cons.2 ⟨⟨rfl,rfl,(dY (eInt .i64) rfl),(aY (eInt .i64))⟩,List.forall_mem_nil _⟩⟩⟩ (jR _ _ _ _ _ _ _ _ _ _ hx20) rfl rfl (List.forall_mem_cons.2 ⟨⟨rfl,(bF aB rfl rfl)⟩,List.forall_mem_cons.2 ⟨⟨rfl,(aY (eInt .i64))⟩,List.forall_mem_nil _⟩⟩) (by simp only [List.map_cons,List.map_nil,Ent.ren,bC,bG,bK]; rfl)) <|aA rfl (asI rfl rfl rfl rfl) <|aA rfl (asI rfl rfl rfl rfl) <|aD ?_)
   obtain ⟨x21,hx21,h⟩:=aS h
   refine aF (aA rfl (mvR rfl rfl rfl rfl) <|aA rfl (uQ (eInt .i64) ([3,1,9] : (List Int)) 13 rfl rfl (lb rfl) Try.underlying24 ti3 rfl (.cons (sv (d:=.int _ 3) rfl) (.cons (sv (d:=.int _ 1) rfl) (.cons (sv (d:=.int _ 9) rfl) .nil))) rfl rfl (by decide)) <|aA rfl (bH (r':=.osl 14 (eInt .i64).sz x21.length) (H1':=[(1,.blk 60 (mixD aB.toEnc0 (w20 x20.2.1 x20.2.2.1 x20.2.2.2.1 x20.2.2.2.2.1 x20.2.2.2.2.2.1) x20.2.2.2.2.2.2.1 [.int .i64 x20.2.2.2.2.2.2.2.1,.osl 12 (eInt .i64).sz x20.2.2.2.2.2.2.2.2.length])),(12,.blk 3 (D.flat (x20.2.2.2.2.2.2.2.2.map (eInt .i64).d))),(14,.blk 3 (D.flat (x21.map (eInt .i64).d)))]) 14 [1,12] rfl rfl (lb rfl) cl13 (.cons (svR rfl) (.cons (svg rfl) .nil)) rfl rfl ⟨rfl,rfl,by decide,rfl,List.forall_mem_cons.2 ⟨⟨rfl,rfl,(eP aB rfl rfl rfl),(bF aB rfl rfl)⟩,List.forall_mem_cons.2 ⟨⟨rfl,rfl,(dY (eInt .i64) rfl),(aY (eInt .i64))⟩,List.forall_mem_nil _⟩⟩⟩ (lI _ _ _ _ _ _ _ _ _ _ hx21) rfl rfl (List.forall_mem_cons.2 ⟨⟨rfl,(bF aB rfl rfl)⟩,List.forall_mem_cons.2 ⟨⟨rfl,(aY (eInt .i64))⟩,List.forall_mem_cons.2 ⟨⟨rfl,(aY (eInt .i64))⟩,List.forall_mem_nil _⟩⟩⟩) (by simp only [List.map_cons,List.map_nil,Ent.ren,bC,bG,bK]; rfl)) <|aA rfl (aH rfl rfl (lb rfl) (sv (d:=.osl _ _ _) rfl)) <|aD ?_)
   obtain ⟨x22,hx22,h⟩:=aS h
   refine aF (aA rfl (mvR rfl rfl rfl rfl) <|aA rfl (bH (r':=.int .i64 x22.1) (H1':=[(1,.blk 60 (mixD aB.toEnc0 (w20 x22.2.1 x22.2.2.1 x22.2.2.2.1 x22.2.2.2.2.1 x22.2.2.2.2.2.1) x22.2.2.2.2.2.2.1 [.int .i64 x22.2.2.2.2.2.2.2.1,.osl 15 (eInt .i64).sz x22.2.2.2.2.2.2.2.2.length])),(15,.blk 3 (D.flat (x22.2.2.2.2.2.2.2.2.map (eInt .i64).d)))]) 15 [1,12] rfl rfl (lb rfl) cl21 (.cons (svR rfl) (.cons (sv (d:=.int _ 1) rfl) .nil)) rfl rfl ⟨rfl,rfl,by decide,rfl,List.forall_mem_cons.2 ⟨⟨rfl,rfl,(eP aB rfl rfl rfl),(bF aB rfl rfl)⟩,List.forall_mem_cons.2 ⟨⟨rfl,rfl,(dY (eInt .i64) rfl),(aY (eInt .i64))⟩,List.forall_mem_nil _⟩⟩⟩ (lA _ _ _ _ _ _ _ _ _ _ hx22) rfl rfl (List.forall_mem_cons.2 ⟨⟨rfl,(bF aB rfl rfl)⟩,List.forall_mem_cons.2 ⟨⟨rfl,(aY (eInt .i64))⟩,List.forall_mem_nil _⟩⟩) (by simp only [List.map_cons,List.map_nil,Ent.ren,bC,bG,bK]; rfl)) <|aA rfl (asI rfl rfl rfl rfl) <|aD ?_)
   obtain ⟨x23,hx23,h⟩:=aS h
   refine aF (aA rfl (mvR rfl rfl rfl rfl) <|aA rfl (bH (r':=.osl 16 (eInt .i64).sz x23.length) (H1':=[(1,.blk 60 (mixD aB.toEnc0 (w20 x22.2.1 x22.2.2.1 x22.2.2.2.1 x22.2.2.2.2.1 x22.2.2.2.2.2.1) x22.2.2.2.2.2.2.1 [.int .i64 x22.2.2.2.2.2.2.2.1,.osl 15 (eInt .i64).sz x22.2.2.2.2.2.2.2.2.length])),(15,.blk 3 (D.flat (x22.2.2.2.2.2.2.2.2.map (eInt .i64).d))),(16,.blk 3 (D.flat (x23.map (eInt .i64).d)))]) 16 [1,15] rfl rfl (lb rfl) cl12 (.cons (svR rfl) (.cons (sv (d:=.int _ 5) rfl) .nil)) rfl rfl ⟨rfl,rfl,by decide,rfl,List.forall_mem_cons.2 ⟨⟨rfl,rfl,(eP aB rfl rfl rfl),(bF aB rfl rfl)⟩,List.forall_mem_cons.2 ⟨⟨rfl,rfl,(dY (eInt .i64) rfl),(aY (eInt .i64))⟩,List.forall_mem_nil _⟩⟩⟩ (gC _ _ _ _ _ _ _ _ _ _ hx23) rfl rfl (List.forall_mem_cons.2 ⟨⟨rfl,(bF aB rfl rfl)⟩,List.forall_mem_cons.2 ⟨⟨rfl,(aY (eInt .i64))⟩,List.forall_mem_cons.2 ⟨⟨rfl,(aY (eInt .i64))⟩,List.forall_mem_nil _⟩⟩⟩) (by simp only [List.map_cons,List.map_nil,Ent.ren,bC,bG,bK]; rfl)) <|aA rfl (aH rfl rfl (lb rfl) (sv (d:=.osl _ _ _) rfl)) <|aD ?_)
   obtain ⟨x24,hx24,h⟩:=aS h
   refine aF (aA rfl (mvR rfl rfl rfl rfl) <|aA rfl (bH (r':=.int .i64 x24.1) (H1':=[(1,.blk 60 (mixD aB.toEnc0 (w20 x24.2.1 x24.2.2.1 x24.2.2.2.1 x24.2.2.2.2.1 x24.2.2.2.2.2.1) x24.2.2.2.2.2.2.1 [.int .i64 x24.2.2.2.2.2.2.2.1,.osl 17 (eInt .i64).sz x24.2.2.2.2.2.2.2.2.length])),(17,.blk 3 (D.flat (x24.2.2.2.2.2.2.2.2.map (eInt .i64).d)))]) 17 [1,15] rfl rfl (lb rfl) cl18 (.cons (svR rfl) (.cons (sv (d:=.int _ 3) rfl) (.cons (sv (d:=.int _ 0) rfl) (.cons (sv (d:=.int _ 1) rfl) (.cons (sv (d:=.bool false) rfl) .nil))))) rfl rfl ⟨rfl,rfl,by decide,rfl,List.forall_mem_cons.2 ⟨⟨rfl,rfl,(eP aB rfl rfl rfl),(bF aB rfl rfl)⟩,List.forall_mem_cons.2 ⟨⟨rfl,rfl,(dY (eInt .i64) rfl),(aY (eInt .i64))⟩,List.forall_mem_nil _⟩⟩⟩ (gK _ _ _ _ _ _ _ _ _ _ _ _ _ hx24) rfl rfl (List.forall_mem_cons.2 ⟨⟨rfl,(bF aB rfl rfl)⟩,List.forall_mem_cons.2 ⟨⟨rfl,(aY (eInt .i64))⟩,List.forall_mem_nil _⟩⟩) (by simp only [List.map_cons,List.map_nil,Ent.ren,bC,bG,bK]; rfl)) <|aA rfl (asI rfl rfl rfl rfl) <|aD ?_)
   refine aF (?_)
   refine eR (S':=⟨[(1,.ref 1 0),(3,.int .i64 x11.1),(4,.int .i64 x12.1),(5,.int .i64 x13.1),(6,.int .i64 x14.1),(7,.slice false (x16.map aQ.d)),(8,.osl 8 (eInt .i64).sz x17.length),(9,.osl 10 (eInt .i64).sz x18.length),(10,.int .i64 x19.1),(11,.int .i64 x20.1),(12,.osl 14 (eInt .i64).sz x21.length),(13,.int .i64 x22.1),(14,.osl 16 (eInt .i64).sz x23.length),(15,.int .i64 x24.1)],[(1,.blk 60 (mixD aB.toEnc0 (w20 x24.2.1 x24.2.2.1 x24.2.2.2.1 x24.2.2.2.2.1 x24.2.2.2.2.2.1) x24.2.2.2.2.2.2.1 [.int .i64 x24.2.2.2.2.2.2.2.1,.osl 17 (eInt .i64).sz x24.2.2.2.2.2.2.2.2.length])),(8,.blk 3 (D.flat (x17.map (eInt .i64).d))),(10,.blk 3 (D.flat (x18.map (eInt .i64).d))),(14,.blk 3 (D.flat (x21.map (eInt .i64).d))),(16,.blk 3 (D.flat (x23.map (eInt .i64).d))),(17,.blk 3 (D.flat (x24.2.2.2.2.2.2.2.2.map (eInt .i64).d)))]⟩) (fun i=>i) ⟨(.sames rfl rfl),(.cons (EntW.mix aB rfl (SubC.of_eq rfl) (SubC.of_eq rfl) rfl rfl) (.cons (EntW.lst rfl) (.cons (EntW.lst rfl) (.cons (EntW.lst rfl) (.cons (EntW.lst rfl) (.cons (EntW.lst rfl) .nil)))))),bB [1,8,10,14,16,17] rfl (by decide),fun _ _=>rfl⟩ ?_
   refine iI 1 18 rfl rfl rfl (by decide) cl15 Try.func15 rfl (.cons (sv (d:=.int _ 0) rfl) (.cons (sv (d:=.int _ 0) rfl) .nil)) Try.ntmps15 (nle rfl) rfl hO.semiL fun O1 hO1=>?_
   show IWP _ _ _ _ ⟨[(0,.int .i64 0),(1,.int .i64 0)],[(18,.kept 1 [.dead,.ref 1 0,.dead,.int .i64 x11.1,.int .i64 x12.1,.int .i64 x13.1,.int .i64 x14.1,.slice false (x16.map aQ.d),.osl 8 (eInt .i64).sz x17.length,.osl 10 (eInt .i64).sz x18.length,.int .i64 x19.1,.int .i64 x20.1,.osl 14 (eInt .i64).sz x21.length,.int .i64 x22.1,.osl 16 (eInt .i64).sz x23.length,.int .i64 x24.1,.dead,.dead,.dead,.dead,.dead,.dead,.dead,.dead,.dead,.dead,.dead,.dead,.dead,.dead,.dead,.dead,.dead,.dead,.dead,.dead,.dead,.dead,.dead,.dead,.dead,.dead,.dead,.dead,.dead,.dead,.dead,.dead,.dead,.dead,.dead,.dead,.dead,.dead,.dead,.dead,.dead,.dead,.dead,.dead,.dead,.dead,.dead,.dead,.dead,.dead,.dead,.dead,.dead,.dead,.dead,.dead,.dead,.dead,.dead,.dead,.dead,.dead,.dead,.dead,.dead,.dead,.dead,.dead,.dead,.dead,.dead,.dead,.dead,.dead,.dead,.dead,.dead,.dead,.dead,.dead,.dead,.dead,.dead,.dead,.dead,.dead,.dead,.dead,.dead,.dead,.dead,.dead,.dead,.dead,.dead,.dead,.dead,.dead,.dead,.dead,.dead,.dead,.dead,.dead,.dead,.dead,.dead,.dead,.dead,.dead,.dead,.dead,.dead,.dead,.dead,.dead,.dead,.dead,.dead,.dead,.dead,.dead,.dead,.dead,.dead,.dead,.dead,.dead,.dead,.dead,.dead,.dead]),(1,.blk 60 (mixD aB.toEnc0 (w20 x24.2.1 x24.2.2.1 x24.2.2.2.1 x24.2.2.2.2.1 x24.2.2.2.2.2.1) x24.2.2.2.2.2.2.1 [.int .i64 x24.2.2.2.2.2.2.2.1,.osl 17 (eInt .i64).sz x24.2.2.2.2.2.2.2.2.length])),(8,.blk 3 (D.flat (x17.map (eInt .i64).d))),(10,.blk 3 (D.flat (x18.map (eInt .i64).d))),(14,.blk 3 (D.flat (x21.map (eInt .i64).d))),(16,.blk 3 (D.flat (x23.map (eInt .i64).d))),(17,.blk 3 (D.flat (x24.2.2.2.2.2.2.2.2.map (eInt .i64).d)))]⟩ _
   refine aF (aA rfl (aH rfl rfl (lb rfl) (sv (d:=.nilp) rfl)) <|aA rfl (aH rfl rfl (lb rfl) (sv (d:=.int _ 0) rfl)) <|aD ?_)
   refine aT ?_
   obtain ⟨x25,hx25,h⟩:=aS h
   obtain ⟨x26,hx26,h⟩:=aS h
   obtain ⟨x27,hx27,h⟩:=aR h
   refine aF (aA rfl (mvI rfl rfl rfl rfl) <|aA rfl (cA (r:=.bool _) rfl rfl (lb rfl) cl31 (.cons (svI rfl) (.cons (sv (d:=.int _ 1) rfl) (.cons (sv (d:=.int _ 24) rfl) .nil))) rfl (jL _ _ _ _ hx25)) <|aA rfl (eG rfl rfl (lb rfl) (svB rfl)) <|aA rfl (mvB rfl rfl rfl rfl) <|aC rfl rfl (.one rfl) rfl (by decide) (fun hb=>(mvI rfl rfl rfl rfl)) <|aC rfl rfl (.one rfl) rfl (by decide) (fun hb=>(mvI rfl rfl rfl rfl)) <|aC rfl rfl (.one rfl) rfl (by decide) (fun hb=>(cA (r:=.bool _) rfl rfl (lb rfl) cl31 (.cons (svcI rfl hb) (.cons (sv (d:=.int _ 0) rfl) (.cons (svcI rfl hb) .nil))) rfl (jL _ _ _ _ (gd_t hx26 hb)))) <|aC rfl rfl (.one rfl) rfl (by decide) (fun hb=>(eG rfl rfl (lb rfl) (svcB rfl hb))) <|aA rfl (gD rfl rfl (lb rfl) (svB rfl) rfl rfl hx27) <|aD ?_)
   refine aX (b:=_) rfl (fun hc28=>?_) (fun hc28=>?_)
   ·
    replace h:=bY h hc28
    refine aF (aA rfl (aH rfl rfl (lb rfl) (sv (d:=.nilp) rfl)) <|aA rfl (aH rfl rfl (lb rfl) (sv (d:=.int _ 8) rfl)) <|aD ?_)
    refine bD ?_
    refine bS ?_
    refine ⟨.inr rfl,18,_,[.nilp,.int .i64 8],(.cons (sv rfl) (.cons (sv rfl) .nil)),rfl,rfl,⟨[(1,.ref 1 0),(3,.int .i64 x11.1),(4,.int .i64 x12.1),(5,.int .i64 x13.1),(6,.int .i64 x14.1),(7,.slice false (x16.map aQ.d)),(8,.osl 8 (eInt .i64).sz x17.length),(9,.osl 10 (eInt .i64).sz x18.length),(10,.int .i64 x19.1),(11,.int .i64 x20.1),(12,.osl 14 (eInt .i64).sz x21.length),(13,.int .i64 x22.1),(14,.osl 16 (eInt .i64).sz x23.length),(15,.int .i64 x24.1),(58,.tuple [.nilp,.int .i64 8])],[(1,.blk 60 (mixD aB.toEnc0 (w20 x24.2.1 x24.2.2.1 x24.2.2.2.1 x24.2.2.2.2.1 x24.2.2.2.2.2.1) x24.2.2.2.2.2.2.1 [.int .i64 x24.2.2.2.2.2.2.2.1,.osl 17 (eInt .i64).sz x24.2.2.2.2.2.2.2.2.length])),(8,.blk 3 (D.flat (x17.map (eInt .i64).d))),(10,.blk 3 (D.flat (x18.map (eInt .i64).d))),(14,.blk 3 (D.flat (x21.map (eInt .i64).d))),(16,.blk 3 (D.flat (x23.map (eInt .i64).d))),(17,.blk 3 (D.flat (x24.2.2.2.2.2.2.2.2.map (eInt .i64).d)))]⟩,(fun i=>i),⟨(.sames rfl rfl),(.cons (EntW.mix aB rfl (SubC.of_eq rfl) (SubC.of_eq rfl) rfl rfl) (.cons (EntW.lst rfl) (.cons (EntW.lst rfl) (.cons (EntW.lst rfl) (.cons (EntW.lst rfl) (.cons (EntW.lst rfl) .nil)))))),bB [1,8,10,14,16,17] rfl (by decide),fun _ _=>rfl⟩,?_⟩
    refine aA rfl (aN rfl rfl (lb rfl) (sv (d:=.tuple [.nilp,.int _ _]) rfl)) <|aA rfl (dR (d:=.nilp) rfl rfl (lb rfl) (sv (d:=.tuple [.nilp,.int _ _]) rfl) rfl) <|aA rfl (dR (d:=.int _ _) rfl rfl (lb rfl) (sv (d:=.tuple [.nilp,.int _ _]) rfl) rfl) <|aA rfl (aH rfl rfl (lb rfl) (sv (d:=.nilp) rfl)) <|aA rfl (asI rfl rfl rfl rfl) <|aD ?_
    refine jM (α:=Bool) (fun z=>⟨[(0,.bool z)],[]⟩) (fun z=>iS z = some r) ?_ ?_
    ·
     obtain ⟨x80,hx80,h⟩:=aR h
     obtain ⟨x81,hx81,h⟩:=aR h
     obtain ⟨x82,hx82,h⟩:=aR h
     obtain ⟨x83,hx83,h⟩:=aR h
     obtain ⟨x84,hx84,h⟩:=aR h
     obtain ⟨x85,hx85,h⟩:=aR h
     obtain ⟨x86,hx86,h⟩:=aR h
     obtain ⟨x87,hx87,h⟩:=aS h
     obtain ⟨x88,hx88,h⟩:=aR h
     obtain ⟨x89,hx89,h⟩:=aS h
     obtain ⟨x90,hx90,h⟩:=aR h
     obtain ⟨x91,hx91,h⟩:=aS h
     obtain ⟨x92,hx92,h⟩:=aR h
     obtain ⟨x93,hx93,h⟩:=aR h
     obtain ⟨x94,hx94,h⟩:=aR h
     obtain ⟨x95,hx95,h⟩:=aR h
     obtain ⟨x96,hx96,h⟩:=aR h
     obtain ⟨x97,hx97,h⟩:=aS h
     obtain ⟨x98,hx98,h⟩:=aR h
     obtain ⟨x99,hx99,h⟩:=aR h
     obtain ⟨x100,hx100,h⟩:=aR h
     obtain ⟨x101,hx101,h⟩:=aS h
     obtain ⟨x102,hx102,h⟩:=aR h
     obtain ⟨x103,hx103,h⟩:=aR h
     obtain ⟨x104,hx104,h⟩:=aR h
     obtain ⟨x105,hx105,h⟩:=aR h
     obtain ⟨x106,hx106,h⟩:=aR h
     obtain ⟨x107,hx107,h⟩:=aS h
     obtain ⟨x108,hx108,h⟩:=aR h
     obtain ⟨x109,hx109,h⟩:=aR h
     refine aW (aA rfl (mvI rfl rfl rfl rfl) <|aA rfl (aM rfl rfl (lb rfl) (svI rfl) (sv (d:=.int _ 0) rfl) rfl hx80) <|aA rfl (mvB rfl rfl rfl rfl) <|aC rfl rfl (.one rfl) rfl (by decide) (fun hb=>(mvI rfl rfl rfl rfl)) <|aC rfl rfl (.one rfl) rfl (by decide) (fun hb=>(aM rfl rfl (lb rfl) (svcI rfl hb) (sv (d:=.int _ 0) rfl) rfl hx81)) <|aA rfl (bO rfl rfl (lb rfl) (svB rfl) rfl rfl hx82) <|aA rfl (mvB rfl rfl rfl rfl) <|aC rfl rfl (.one rfl) rfl (by decide) (fun hb=>(mvI rfl rfl rfl rfl)) <|aC rfl rfl (.one rfl) rfl (by decide) (fun hb=>(aM rfl rfl (lb rfl) (svcI rfl hb) (sv (d:=.int _ 0) rfl) rfl hx83)) <|aA rfl (bO rfl rfl (lb rfl) (svB rfl) rfl rfl hx84) <|aA rfl (mvB rfl rfl rfl rfl) <|aC rfl rfl (.one rfl) rfl (by decide) (fun hb=>(mvI rfl rfl rfl rfl)) <|aC rfl rfl (.one rfl) rfl (by decide) (fun hb=>(aM rfl rfl (lb rfl) (svcI rfl hb) (sv (d:=.int _ 0) rfl) rfl hx85)) <|aA rfl (bO rfl rfl (lb rfl) (svB rfl) rfl rfl hx86) <|aA rfl (mvB rfl rfl rfl rfl) <|aC rfl rfl (.one rfl) rfl (by decide) (fun hb=>(mvL rfl rfl rfl rfl)) <|aC rfl rfl (.one rfl) rfl (by decide) (fun hb=>(cF (cs:=q9) rfl rfl (lb rfl) Try.underlying50 ti50 pl50 rfl (.cons (sv (d:=.int _ 1) rfl) (.cons (sv (d:=.int _ 5) rfl) (.cons (sv (d:=.int _ 4) rfl) .nil))) rfl)) <|aC rfl rfl (.one rfl) rfl (by decide) (fun hb=>(cF (cs:=q9) rfl rfl (lb rfl) Try.underlying50 ti50 pl50 rfl (.cons (sv (d:=.int _ 3) rfl) (.cons (sv (d:=.int _ 1) rfl) (.cons (sv (d:=.int _ 32) rfl) .nil))) rfl)) <|aC rfl rfl (.one rfl) rfl (by decide) (fun hb=>(cF (cs:=q9) rfl rfl (lb rfl) Try.underlying50 ti50 pl50 rfl (.cons (sv (d:=.int _ 5) rfl) (.cons (sv (d:=.int _ 8) rfl) .nil)) rfl)) <|aC rfl rfl (.one rfl) rfl (by decide) (fun hb=>(mC aQ ([(⟨1,5,4,false⟩ : aZ),(⟨3,1,32,false⟩ : aZ),(⟨5,0,8,false⟩ : aZ)] : (List aZ)) rfl rfl (lb rfl) Try.underlying46 ti50 (.cons (svcA (w21 1 5 4 false) rfl hb) (.cons (svcA (w21 3 1 32 false) rfl hb) (.cons (svcA (w21 5 0 8 false) rfl hb) .nil))) rfl rfl (by decide))) <|aC rfl rfl (.one rfl) rfl (by decide) (fun hb=>(cA (r:=.bool _) rfl rfl (lb rfl) cl22 (.cons (svcL rfl hb) (.cons (svcL rfl hb) .nil)) rfl (kH _ _ _ (gd_t hx87 hb)))) <|aA rfl (bO rfl rfl (lb rfl) (svB rfl) rfl rfl hx88) <|aA rfl (mvB rfl rfl rfl rfl) <|aC rfl rfl (.one rfl) rfl (by decide) (fun hb=>(aN rfl rfl (lb rfl) (sv (d:=.osl _ _ _) rfl))) <|aC rfl rfl (.one rfl) rfl (by decide) (fun hb=>(mC (eInt .i64) ([1,5] : (List Int)) rfl rfl (lb rfl) Try.underlying24 ti3 (.cons (sv (d:=.int _ 1) rfl) (.cons (sv (d:=.int _ 5) rfl) .nil)) rfl rfl (by decide))) <|aC rfl rfl (.one rfl) rfl (by decide) (fun hb=>(gS (r:=.bool x89) rfl rfl (lb rfl) cl23 (.cons (svc (d:=.osl _ _ _) rfl hb) (.cons (svcL rfl hb) .nil)) (.cons (FDT (eInt .i64) rfl rfl) (.all _)) rfl rfl (dW _ _ _ (gd_t hx89 hb)))) <|aA rfl (bO rfl rfl (lb rfl) (svB rfl) rfl rfl hx90) <|aA rfl (mvB rfl rfl rfl rfl) <|aC rfl rfl (.one rfl) rfl (by decide) (fun hb=>(aN rfl rfl (lb rfl) (sv (d:=.osl _ _ _) rfl))) <|aC rfl rfl (.one rfl) rfl (by decide) (fun hb=>(mC (eInt .i64) ([1] : (List Int)) rfl rfl (lb rfl) Try.underlying24 ti3 (.cons (sv (d:=.int _ 1) rfl) .nil) rfl rfl (by decide))) <|aC rfl rfl (.one rfl) rfl (by decide) (fun hb=>(gS (r:=.bool x91) rfl rfl (lb rfl) cl23 (.cons (svc (d:=.osl _ _ _) rfl hb) (.cons (svcL rfl hb) .nil)) (.cons (FDT (eInt .i64) rfl rfl) (.all _)) rfl rfl (dW _ _ _ (gd_t hx91 hb)))) <|aA rfl (bO rfl rfl (lb rfl) (svB rfl) rfl rfl hx92) <|aA rfl (mvB rfl rfl rfl rfl) <|aC rfl rfl (.one rfl) rfl (by decide) (fun hb=>(mvI rfl rfl rfl rfl)) <|aC rfl rfl (.one rfl) rfl (by decide) (fun hb=>(aM rfl rfl (lb rfl) (svcI rfl hb) (sv (d:=.int _ 0) rfl) rfl hx93)) <|aA rfl (bO rfl rfl (lb rfl) (svB rfl) rfl rfl hx94) <|aA rfl (mvB rfl rfl rfl rfl) <|aC rfl rfl (.one rfl) rfl (by decide) (fun hb=>(mvI rfl rfl rfl rfl)) <|aC rfl rfl (.one rfl) rfl (by decide) (fun hb=>(aM rfl rfl (lb rfl) (svcI rfl hb) (sv (d:=.int _ 9) rfl) rfl hx95)) <|aA rfl (bO rfl rfl (lb rfl) (svB rfl) rfl rfl hx96) <|aA rfl (mvB rfl rfl rfl rfl) <|aC rfl rfl (.one rfl) rfl (by decide) (fun hb=>(aN rfl rfl (lb rfl) (sv (d:=.osl _ _ _) rfl))) <|aC rfl rfl (.one rfl) rfl (by decide) (fun hb=>(mC (eInt .i64) ([3] : (List Int)) rfl rfl (lb rfl) Try.underlying24 ti3 (.cons (sv (d:=.int _ 3) rfl) .nil) rfl rfl (by decide))) <|aC rfl rfl (.one rfl) rfl (by decide) (fun hb=>(gS (r:=.bool x97) rfl rfl (lb rfl) cl23 (.cons (svc (d:=.osl _ _ _) rfl hb) (.cons (svcL rfl hb) .nil)) (.cons (FDT (eInt .i64) rfl rfl) (.all _)) rfl rfl (dW _ _ _ (gd_t hx97 hb)))) <|aA rfl (bO rfl rfl (lb rfl) (svB rfl) rfl rfl hx98) <|aA rfl (mvB rfl rfl rfl rfl) <|aC rfl rfl (.one rfl) rfl (by decide) (fun hb=>(mvI rfl rfl rfl rfl)) <|aC rfl rfl (.one rfl) rfl (by decide) (fun hb=>(aM rfl rfl (lb rfl) (svcI rfl hb) (sv (d:=.int _ 0) rfl) rfl hx99)) <|aA rfl (bO rfl rfl (lb rfl) (svB rfl) rfl rfl hx100) <|aA rfl (mvB rfl rfl rfl rfl) <|aC rfl rfl (.one rfl) rfl (by decide) (fun hb=>(aN rfl rfl (lb rfl) (sv (d:=.osl _ _ _) rfl))) <|aC rfl rfl (.one rfl) rfl (by decide) (fun hb=>(mC (eInt .i64) ([3] : (List Int)) rfl rfl (lb rfl) Try.underlying24 ti3 (.cons (sv (d:=.int _ 3) rfl) .nil) rfl rfl (by decide))) <|aC rfl rfl (.one rfl) rfl (by decide) (fun hb=>(gS (r:=.bool x101) rfl rfl (lb rfl) cl23 (.cons (svc (d:=.osl _ _ _) rfl hb) (.cons (svcL rfl hb) .nil)) (.cons (FDT (eInt .i64) rfl rfl) (.all _)) rfl rfl (dW _ _ _ (gd_t hx101 hb)))) <|aA rfl (bO rfl rfl (lb rfl) (svB rfl) rfl rfl hx102) <|aA rfl (mvB rfl rfl rfl rfl) <|aC rfl rfl (.one rfl) rfl (by decide) (fun hb=>(mvI rfl rfl rfl rfl)) <|aC rfl rfl (.one rfl) rfl (by decide) (fun hb=>(aM rfl rfl (lb rfl) (svcI rfl hb) (sv (d:=.int _ 13) rfl) rfl hx103)) <|aA rfl (bO rfl rfl (lb rfl) (svB rfl) rfl rfl hx104) <|aA rfl (mvB rfl rfl rfl rfl) <|aC rfl rfl (.one rfl) rfl (by decide) (fun hb=>(mvI rfl rfl rfl rfl)) <|aC rfl rfl (.one rfl) rfl (by decide) (fun hb=>(aM rfl rfl (lb rfl) (svcI rfl hb) (sv (d:=.int _ 8) rfl) rfl hx105)) <|aA rfl (bO rfl rfl (lb rfl) (svB rfl) rfl rfl hx106) <|aA rfl (mvB rfl rfl rfl rfl) <|aC rfl rfl (.one rfl) rfl (by decide) (fun hb=>(mvR rfl rfl rfl rfl)) <|aC rfl rfl (.one rfl) rfl (by decide) (fun hb=>(fA (r':=.int .i64 x107) (V:=[(1,.blk 60 (mixD aB.toEnc0 (w20 x24.2.1 x24.2.2.1 x24.2.2.2.1 x24.2.2.2.2.1 x24.2.2.2.2.2.1) x24.2.2.2.2.2.2.1 [.int .i64 x24.2.2.2.2.2.2.2.1,.osl 17 (eInt .i64).sz x24.2.2.2.2.2.2.2.2.length])),(17,.blk 3 (D.flat (x24.2.2.2.2.2.2.2.2.map (eInt .i64).d)))]) 24 [1,17] rfl rfl (lb rfl) cl14 (.cons (svcR rfl hb) .nil) rfl rfl rfl ⟨by decide,rfl,List.forall_mem_cons.2 ⟨⟨rfl,rfl,(eP aB rfl rfl rfl),(bF aB rfl rfl)⟩,List.forall_mem_cons.2 ⟨⟨rfl,rfl,(dY (eInt .i64) rfl),(aY (eInt .i64))⟩,List.forall_mem_nil _⟩⟩⟩ (gN _ _ _ _ _ _ _ _ _ (gd_t hx107 hb)) rfl rfl (List.forall_mem_cons.2 ⟨⟨rfl,(bF aB rfl rfl)⟩,List.forall_mem_cons.2 ⟨⟨rfl,(aY (eInt .i64))⟩,List.forall_mem_nil _⟩⟩) (by simp only [List.map_cons,List.map_nil,Ent.ren,bC,bG,bK]; rfl) (List.forall_mem_cons.2 ⟨rfl,List.forall_mem_cons.2 ⟨rfl,List.forall_mem_nil _⟩⟩) rfl)) <|aC rfl rfl (.one rfl) rfl (by decide) (fun hb=>(aM rfl rfl (lb rfl) (svcI rfl hb) (sv (d:=.int _ 2) rfl) rfl hx108)) <|aA rfl (bO rfl rfl (lb rfl) (svB rfl) rfl rfl hx109) <|aA rfl (mvB rfl rfl rfl rfl) <|aC rfl rfl (.one rfl) rfl (by decide) (fun hb=>(mvR rfl rfl rfl rfl)) <|?_)
     refine gQ (.slice false (([] : List Int).map (eInt .i64).d)) rfl rfl (.one rfl) rfl (by decide) (fun hc110=>?_) (fun hc110=>?_)
     ·
      replace h:=bY h hc110
      refine fB 129 rfl hc110 ?_
      obtain ⟨x111,hx111,h⟩:=aS h
      obtain ⟨x112,hx112,h⟩:=aR h
      obtain ⟨x113,hx113,h⟩:=aR h
      obtain ⟨x114,hx114,h⟩:=aR h
      obtain ⟨x115,hx115,h⟩:=aR h
      obtain ⟨x116,hx116,h⟩:=aR h
      obtain ⟨x117,hx117,h⟩:=aR h
      obtain ⟨x118,hx118,h⟩:=aR h
      obtain ⟨x119,hx119,h⟩:=aR h
      obtain ⟨x120,hx120,h⟩:=aR h
      refine aA rfl (bH (r':=.osl 24 (eInt .i64).sz x111.length) (H1':=[(1,.blk 60 (mixD aB.toEnc0 (w20 x24.2.1 x24.2.2.1 x24.2.2.2.1 x24.2.2.2.2.1 x24.2.2.2.2.2.1) x24.2.2.2.2.2.2.1 [.int .i64 x24.2.2.2.2.2.2.2.1,.osl 17 (eInt .i64).sz x24.2.2.2.2.2.2.2.2.length])),(17,.blk 3 (D.flat (x24.2.2.2.2.2.2.2.2.map (eInt .i64).d))),(24,.blk 3 (D.flat (x111.map (eInt .i64).d)))]) 24 [1,17] rfl rfl (lb rfl) cl10 (.cons (svR rfl) .nil) rfl rfl ⟨rfl,rfl,by decide,rfl,List.forall_mem_cons.2 ⟨⟨rfl,rfl,(eP aB rfl rfl rfl),(bF aB rfl rfl)⟩,List.forall_mem_cons.2 ⟨⟨rfl,rfl,(dY (eInt .i64) rfl),(aY (eInt .i64))⟩,List.forall_mem_nil _⟩⟩⟩ (lB _ _ _ _ _ _ _ _ _ hx111) rfl rfl (List.forall_mem_cons.2 ⟨⟨rfl,(bF aB rfl rfl)⟩,List.forall_mem_cons.2 ⟨⟨rfl,(aY (eInt .i64))⟩,List.forall_mem_cons.2 ⟨⟨rfl,(aY (eInt .i64))⟩,List.forall_mem_nil _⟩⟩⟩) (by simp only [List.map_cons,List.map_nil,Ent.ren,bC,bG,bK]; rfl)) <|aC rfl rfl (.one rfl) rfl (by decide) (fun hb=>(fE rfl rfl (lb rfl) Try.underlying24 (sv (d:=.osl _ _ _) rfl))) <|aC rfl rfl (.one rfl) rfl (by decide) (fun hb=>(aM rfl rfl (lb rfl) (svcI rfl hb) (sv (d:=.int _ 0) rfl) rfl hx112)) <|aA rfl (bO rfl rfl (lb rfl) (svB rfl) rfl rfl hx113) <|aA rfl (mvB rfl rfl rfl rfl) <|aA rfl (dT rfl rfl (lb rfl) (svB rfl) rfl rfl hx114) <|aA rfl (mvB rfl rfl rfl rfl) <|aA rfl (dT rfl rfl (lb rfl) (svB rfl) rfl rfl hx115) <|aA rfl (mvB rfl rfl rfl rfl) <|aA rfl (dT rfl rfl (lb rfl) (svB rfl) rfl rfl hx116) <|aA rfl (mvB rfl rfl rfl rfl) <|aA rfl (dT rfl rfl (lb rfl) (svB rfl) rfl rfl hx117) <|aA rfl (mvB rfl rfl rfl rfl) <|aA rfl (dT rfl rfl (lb rfl) (svB rfl) rfl rfl hx118) <|aA rfl (mvB rfl rfl rfl rfl) <|aA rfl (dT rfl rfl (lb rfl) (svB rfl) rfl rfl hx119) <|aA rfl (mvB rfl rfl rfl rfl) <|aA rfl (dT rfl rfl (lb rfl) (svB rfl) rfl rfl hx120) <|aA rfl (asB rfl rfl rfl rfl) <|bL ?_
      refine aL ⟨x120,(fun i=>i),⟨(.sames rfl rfl),.nil,bB [] rfl (by decide),fun _ _=>rfl⟩,?_⟩
      exact h
     ·
      replace h:=bZ h hc110
      obtain ⟨x121,hx121,h⟩:=aR h
      obtain ⟨x122,hx122,h⟩:=aR h
      obtain ⟨x123,hx123,h⟩:=aR h
      obtain ⟨x124,hx124,h⟩:=aR h
      obtain ⟨x125,hx125,h⟩:=aR h
      obtain ⟨x126,hx126,h⟩:=aR h
      obtain ⟨x127,hx127,h⟩:=aR h
      obtain ⟨x128,hx128,h⟩:=aR h
      obtain ⟨x129,hx129,h⟩:=aR h
      refine aC rfl rfl (.one rfl) rfl (by decide) (fun hb=>(eQ (eInt .i64) (l:=([] : (List Int))) rfl rfl (lb rfl) Try.underlying24 (svcL rfl hb))) <|aC rfl rfl (.one rfl) rfl (by decide) (fun hb=>(aM rfl rfl (lb rfl) (svcI rfl hb) (sv (d:=.int _ 0) rfl) rfl hx121)) <|aA rfl (bO rfl rfl (lb rfl) (svB rfl) rfl rfl hx122) <|aA rfl (mvB rfl rfl rfl rfl) <|aA rfl (dT rfl rfl (lb rfl) (svB rfl) rfl rfl hx123) <|aA rfl (mvB rfl rfl rfl rfl) <|aA rfl (dT rfl rfl (lb rfl) (svB rfl) rfl rfl hx124) <|aA rfl (mvB rfl rfl rfl rfl) <|aA rfl (dT rfl rfl (lb rfl) (svB rfl) rfl rfl hx125) <|aA rfl (mvB rfl rfl rfl rfl) <|aA rfl (dT rfl rfl (lb rfl) (svB rfl) rfl rfl hx126) <|aA rfl (mvB rfl rfl rfl rfl) <|aA rfl (dT rfl rfl (lb rfl) (svB rfl) rfl rfl hx127) <|aA rfl (mvB rfl rfl rfl rfl) <|aA rfl (dT rfl rfl (lb rfl) (svB rfl) rfl rfl hx128) <|aA rfl (mvB rfl rfl rfl rfl) <|aA rfl (dT rfl rfl (lb rfl) (svB rfl) rfl rfl hx129) <|aA rfl (asB rfl rfl rfl rfl) <|bL ?_
      refine aL ⟨x129,(fun i=>i),⟨(.sames rfl rfl),.nil,bB [] rfl (by decide),fun _ _=>rfl⟩,?_⟩
      exact h
    ·
     rintro v79 h
     unfold iS at h
     refine bD ?_
     obtain rfl:=Option.some.inj h
     refine ⟨.inr rfl,(.cons (sv rfl) .nil)⟩
   ·
    replace h:=bZ h hc28
    refine aU ?_
    refine aL ?_
    obtain ⟨x130,hx130,h⟩:=aS h
    refine aF (aA rfl (mvI rfl rfl rfl rfl) <|aA rfl (mvI rfl rfl rfl rfl) <|aA rfl (cA (r:=.agg q10) rfl rfl (lb rfl) cl32 .nil rfl (nK  _ hx130)) <|aA rfl (cF (cs:=(mixD aB.toEnc0 q7 (List.replicate 64 (⟨0,0,0,0,0,false⟩ : aG) : (List aG)) [.int _ _,.nils])) rfl rfl (lb rfl) Try.underlying60 ti60 pl60 rfl (.cons (svI rfl) (.cons (svI rfl) (.cons (svA q10 rfl) (.cons (sv (d:=.int _ (-1)) rfl) .nil)))) (by kernel_rfl)) <|aA rfl (eD (cs:=(mixD aB.toEnc0 q7 (List.replicate 64 (⟨0,0,0,0,0,false⟩ : aG) : (List aG)) [.int _ _,.nils])) 19 rfl rfl (lb rfl) rfl (sv (d:=.agg (mixD aB.toEnc0 q7 (List.replicate 64 (⟨0,0,0,0,0,false⟩ : aG) : (List aG)) [.int _ _,.nils])) rfl) rfl rfl) <|eR (S':=⟨[(0,.int .i64 0),(1,.int .i64 0),(4,.nilp),(5,.int .i64 0),(6,.int .i64 0),(7,.bool x25),(8,.bool (!x25)),(9,.bool (!x25)),(14,.bool x27),(15,.int .i64 0),(16,.int .i64 0),(17,.agg (v1 x130)),(18,.agg (mixD aB.toEnc0 (w20 0 0 x130.Cells x130.Free x130.Used) (List.replicate 64 (⟨0,0,0,0,0,false⟩ : aG) : (List aG)) [.int .i64 (-1),.nils])),(19,.ref 19 0)],[(20,.blk 3 (D.flat (([] : (List Int)).map (eInt .i64).d))),(1,.blk 60 (mixD aB.toEnc0 (w20 x24.2.1 x24.2.2.1 x24.2.2.2.1 x24.2.2.2.2.1 x24.2.2.2.2.2.1) x24.2.2.2.2.2.2.1 [.int .i64 x24.2.2.2.2.2.2.2.1,.osl 17 (eInt .i64).sz x24.2.2.2.2.2.2.2.2.length])),(8,.blk 3 (D.flat (x17.map (eInt .i64).d))),(10,.blk 3 (D.flat (x18.map (eInt .i64).d))),(14,.blk 3 (D.flat (x21.map (eInt .i64).d))),(16,.blk 3 (D.flat (x23.map (eInt .i64).d))),(17,.blk 3 (D.flat (x24.2.2.2.2.2.2.2.2.map (eInt .i64).d))),(18,.kept 1 [.dead,.ref 1 0,.dead,.int .i64 x11.1,.int .i64 x12.1,.int .i64 x13.1,.int .i64 x14.1,.slice false (x16.map aQ.d),.osl 8 (eInt .i64).sz x17.length,.osl 10 (eInt .i64).sz x18.length,.int .i64 x19.1,.int .i64 x20.1,.osl 14 (eInt .i64).sz x21.length,.int .i64 x22.1,.osl 16 (eInt .i64).sz x23.length,.int .i64 x24.1,.dead,.dead,.dead,.dead,.dead,.dead,.dead,.dead,.dead,.dead,.dead,.dead,.dead,.dead,.dead,.dead,.dead,.dead,.dead,.dead,.dead,.dead,.dead,.dead,.dead,.dead,.dead,.dead,.dead,.dead,.dead,.dead,.dead,.dead,.dead,.dead,.dead,.dead,.dead,.dead,.dead,.dead,.dead,.dead,.dead,.dead,.dead,.dead,.dead,.dead,.dead,.dead,.dead,.dead,.dead,.dead,.dead,.dead,.dead,.dead,.dead,.dead,.dead,.dead,.dead,.dead,.dead,.dead,.dead,.dead,.dead,.dead,.dead,.dead,.dead,.dead,.dead,.dead,.dead,.dead,.dead,.dead,.dead,.dead,.dead,.dead,.dead,.dead,.dead,.dead,.dead,.dead,.dead,.dead,.dead,.dead,.dead,.dead,.dead,.dead,.dead,.dead,.dead,.dead,.dead,.dead,.dead,.dead,.dead,.dead,.dead,.dead,.dead,.dead,.dead,.dead,.dead,.dead,.dead,.dead,.dead,.dead,.dead,.dead,.dead,.dead,.dead,.dead,.dead,.dead,.dead,.dead]),(19,.blk 60 (mixD aB.toEnc0 (w20 0 0 x130.Cells x130.Free x130.Used) (List.replicate 64 (⟨0,0,0,0,0,false⟩ : aG) : (List aG)) [.int .i64 (-1),.osl 20 (eInt .i64).sz 0]))]⟩) (fun i=>if i = 20 then 90 else i) ⟨(.sames rfl rfl),(.cons (.nilb rfl) (.cons (EntW.mix aB rfl (SubC.of_eq rfl) (SubC.of_eq rfl) rfl rfl) (.cons (EntW.lst rfl) (.cons (EntW.lst rfl) (.cons (EntW.lst rfl) (.cons (EntW.lst rfl) (.cons (EntW.lst rfl) (.cons (.kept rfl rfl rfl) (.cons (EntW.mix aB rfl (SubC.of_eq rfl) (.same (.nilo .nil)) rfl rfl) .nil))))))))),bB [90,1,8,10,14,16,17,18,19] rfl (by decide),(fun i hi=>by first | rfl | (show (if _ then _ else _) = _; (repeat' split) <;> omega))⟩ <|aA rfl (aH rfl rfl (lb rfl) (svR rfl)) <|aA rfl (aH rfl rfl (lb rfl) (sv (d:=.int _ 0) rfl)) <|aD ?_)
    refine bD ?_
    refine ⟨.inr rfl,18,_,[.ref 19 0,.int .i64 0],(.cons (sv rfl) (.cons (sv rfl) .nil)),rfl,rfl,⟨[(1,.ref 1 0),(3,.int .i64 x11.1),(4,.int .i64 x12.1),(5,.int .i64 x13.1),(6,.int .i64 x14.1),(7,.slice false (x16.map aQ.d)),(8,.osl 8 (eInt .i64).sz x17.length),(9,.osl 10 (eInt .i64).sz x18.length),(10,.int .i64 x19.1),(11,.int .i64 x20.1),(12,.osl 14 (eInt .i64).sz x21.length),(13,.int .i64 x22.1),(14,.osl 16 (eInt .i64).sz x23.length),(15,.int .i64 x24.1),(58,.tuple [.ref 19 0,.int .i64 0])],[(1,.blk 60 (mixD aB.toEnc0 (w20 x24.2.1 x24.2.2.1 x24.2.2.2.1 x24.2.2.2.2.1 x24.2.2.2.2.2.1) x24.2.2.2.2.2.2.1 [.int .i64 x24.2.2.2.2.2.2.2.1,.osl 17 (eInt .i64).sz x24.2.2.2.2.2.2.2.2.length])),(8,.blk 3 (D.flat (x17.map (eInt .i64).d))),(10,.blk 3 (D.flat (x18.map (eInt .i64).d))),(14,.blk 3 (D.flat (x21.map (eInt .i64).d))),(16,.blk 3 (D.flat (x23.map (eInt .i64).d))),(17,.blk 3 (D.flat (x24.2.2.2.2.2.2.2.2.map (eInt .i64).d))),(19,.blk 60 (mixD aB.toEnc0 (w20 0 0 x130.Cells x130.Free x130.Used) (List.replicate 64 (⟨0,0,0,0,0,false⟩ : aG) : (List aG)) [.int .i64 (-1),.osl 20 (eInt .i64).sz 0])),(20,.blk 3 (D.flat (([] : (List Int)).map (eInt .i64).d)))]⟩,(fun i=>i),⟨(.sames rfl rfl),(.cons (EntW.mix aB rfl (SubC.of_eq rfl) (SubC.of_eq rfl) rfl rfl) (.cons (EntW.lst rfl) (.cons (EntW.lst rfl) (.cons (EntW.lst rfl) (.cons (EntW.lst rfl) (.cons (EntW.lst rfl) (.cons (EntW.mix aB rfl (SubC.of_eq rfl) (SubC.of_eq rfl) rfl rfl) (.cons (EntW.lst rfl) .nil)))))))),bB [1,8,10,14,16,17,19,20] rfl (by decide),fun _ _=>rfl⟩,?_⟩
    refine aA rfl (aN rfl rfl (lb rfl) (sv (d:=.tuple q17) rfl)) <|aA rfl (dR (d:=.ref _ _) rfl rfl (lb rfl) (sv (d:=.tuple q17) rfl) rfl) <|aA rfl (dR (d:=.int _ _) rfl rfl (lb rfl) (sv (d:=.tuple q17) rfl) rfl) <|aA rfl (aH rfl rfl (lb rfl) (svR rfl)) <|aA rfl (asI rfl rfl rfl rfl) <|aD ?_
    refine jM (α:=Bool) (fun z=>⟨[(0,.bool z)],[]⟩) (fun z=>iR z = some r) ?_ ?_
    ·
     obtain ⟨x182,hx182,h⟩:=aR h
     obtain ⟨x183,hx183,h⟩:=aR h
     obtain ⟨x184,hx184,h⟩:=aR h
     obtain ⟨x185,hx185,h⟩:=aR h
     obtain ⟨x186,hx186,h⟩:=aR h
     obtain ⟨x187,hx187,h⟩:=aR h
     obtain ⟨x188,hx188,h⟩:=aR h
     obtain ⟨x189,hx189,h⟩:=aS h
     obtain ⟨x190,hx190,h⟩:=aR h
     obtain ⟨x191,hx191,h⟩:=aS h
     obtain ⟨x192,hx192,h⟩:=aR h
     obtain ⟨x193,hx193,h⟩:=aS h
     obtain ⟨x194,hx194,h⟩:=aR h
     obtain ⟨x195,hx195,h⟩:=aR h
     obtain ⟨x196,hx196,h⟩:=aR h
     obtain ⟨x197,hx197,h⟩:=aR h
     obtain ⟨x198,hx198,h⟩:=aR h
     obtain ⟨x199,hx199,h⟩:=aS h
     obtain ⟨x200,hx200,h⟩:=aR h
     obtain ⟨x201,hx201,h⟩:=aR h
     obtain ⟨x202,hx202,h⟩:=aR h
     obtain ⟨x203,hx203,h⟩:=aS h
     obtain ⟨x204,hx204,h⟩:=aR h
     obtain ⟨x205,hx205,h⟩:=aR h
     obtain ⟨x206,hx206,h⟩:=aR h
     obtain ⟨x207,hx207,h⟩:=aR h
     obtain ⟨x208,hx208,h⟩:=aR h
     obtain ⟨x209,hx209,h⟩:=aS h
     obtain ⟨x210,hx210,h⟩:=aR h
     obtain ⟨x211,hx211,h⟩:=aR h
     refine aW (aA rfl (mvI rfl rfl rfl rfl) <|aA rfl (aM rfl rfl (lb rfl) (svI rfl) (sv (d:=.int _ 0) rfl) rfl hx182) <|aA rfl (mvB rfl rfl rfl rfl) <|aC rfl rfl (.one rfl) rfl (by decide) (fun hb=>(mvI rfl rfl rfl rfl)) <|aC rfl rfl (.one rfl) rfl (by decide) (fun hb=>(aM rfl rfl (lb rfl) (svcI rfl hb) (sv (d:=.int _ 0) rfl) rfl hx183)) <|aA rfl (bO rfl rfl (lb rfl) (svB rfl) rfl rfl hx184) <|aA rfl (mvB rfl rfl rfl rfl) <|aC rfl rfl (.one rfl) rfl (by decide) (fun hb=>(mvI rfl rfl rfl rfl)) <|aC rfl rfl (.one rfl) rfl (by decide) (fun hb=>(aM rfl rfl (lb rfl) (svcI rfl hb) (sv (d:=.int _ 0) rfl) rfl hx185)) <|aA rfl (bO rfl rfl (lb rfl) (svB rfl) rfl rfl hx186) <|aA rfl (mvB rfl rfl rfl rfl) <|aC rfl rfl (.one rfl) rfl (by decide) (fun hb=>(mvI rfl rfl rfl rfl)) <|aC rfl rfl (.one rfl) rfl (by decide) (fun hb=>(aM rfl rfl (lb rfl) (svcI rfl hb) (sv (d:=.int _ 0) rfl) rfl hx187)) <|aA rfl (bO rfl rfl (lb rfl) (svB rfl) rfl rfl hx188) <|aA rfl (mvB rfl rfl rfl rfl) <|aC rfl rfl (.one rfl) rfl (by decide) (fun hb=>(mvL rfl rfl rfl rfl)) <|aC rfl rfl (.one rfl) rfl (by decide) (fun hb=>(cF (cs:=q9) rfl rfl (lb rfl) Try.underlying50 ti50 pl50 rfl (.cons (sv (d:=.int _ 1) rfl) (.cons (sv (d:=.int _ 5) rfl) (.cons (sv (d:=.int _ 4) rfl) .nil))) rfl)) <|aC rfl rfl (.one rfl) rfl (by decide) (fun hb=>(cF (cs:=q9) rfl rfl (lb rfl) Try.underlying50 ti50 pl50 rfl (.cons (sv (d:=.int _ 3) rfl) (.cons (sv (d:=.int _ 1) rfl) (.cons (sv (d:=.int _ 32) rfl) .nil))) rfl)) <|aC rfl rfl (.one rfl) rfl (by decide) (fun hb=>(cF (cs:=q9) rfl rfl (lb rfl) Try.underlying50 ti50 pl50 rfl (.cons (sv (d:=.int _ 5) rfl) (.cons (sv (d:=.int _ 8) rfl) .nil)) rfl)) <|aC rfl rfl (.one rfl) rfl (by decide) (fun hb=>(mC aQ ([(⟨1,5,4,false⟩ : aZ),(⟨3,1,32,false⟩ : aZ),(⟨5,0,8,false⟩ : aZ)] : (List aZ)) rfl rfl (lb rfl) Try.underlying46 ti50 (.cons (svcA (w21 1 5 4 false) rfl hb) (.cons (svcA (w21 3 1 32 false) rfl hb) (.cons (svcA (w21 5 0 8 false) rfl hb) .nil))) rfl rfl (by decide))) <|aC rfl rfl (.one rfl) rfl (by decide) (fun hb=>(cA (r:=.bool _) rfl rfl (lb rfl) cl22 (.cons (svcL rfl hb) (.cons (svcL rfl hb) .nil)) rfl (kH _ _ _ (gd_t hx189 hb)))) <|aA rfl (bO rfl rfl (lb rfl) (svB rfl) rfl rfl hx190) <|aA rfl (mvB rfl rfl rfl rfl) <|aC rfl rfl (.one rfl) rfl (by decide) (fun hb=>(aN rfl rfl (lb rfl) (sv (d:=.osl _ _ _) rfl))) <|aC rfl rfl (.one rfl) rfl (by decide) (fun hb=>(mC (eInt .i64) ([1,5] : (List Int)) rfl rfl (lb rfl) Try.underlying24 ti3 (.cons (sv (d:=.int _ 1) rfl) (.cons (sv (d:=.int _ 5) rfl) .nil)) rfl rfl (by decide))) <|aC rfl rfl (.one rfl) rfl (by decide) (fun hb=>(gS (r:=.bool x191) rfl rfl (lb rfl) cl23 (.cons (svc (d:=.osl _ _ _) rfl hb) (.cons (svcL rfl hb) .nil)) (.cons (FDT (eInt .i64) rfl rfl) (.all _)) rfl rfl (dW _ _ _ (gd_t hx191 hb)))) <|aA rfl (bO rfl rfl (lb rfl) (svB rfl) rfl rfl hx192) <|aA rfl (mvB rfl rfl rfl rfl) <|aC rfl rfl (.one rfl) rfl (by decide) (fun hb=>(aN rfl rfl (lb rfl) (sv (d:=.osl _ _ _) rfl))) <|aC rfl rfl (.one rfl) rfl (by decide) (fun hb=>(mC (eInt .i64) ([1] : (List Int)) rfl rfl (lb rfl) Try.underlying24 ti3 (.cons (sv (d:=.int _ 1) rfl) .nil) rfl rfl (by decide))) <|aC rfl rfl (.one rfl) rfl (by decide) (fun hb=>(gS (r:=.bool x193) rfl rfl (lb rfl) cl23 (.cons (svc (d:=.osl _ _ _) rfl hb) (.cons (svcL rfl hb) .nil)) (.cons (FDT (eInt .i64) rfl rfl) (.all _)) rfl rfl (dW _ _ _ (gd_t hx193 hb)))) <|aA rfl (bO rfl rfl (lb rfl) (svB rfl) rfl rfl hx194) <|aA rfl (mvB rfl rfl rfl rfl) <|aC rfl rfl (.one rfl) rfl (by decide) (fun hb=>(mvI rfl rfl rfl rfl)) <|aC rfl rfl (.one rfl) rfl (by decide) (fun hb=>(aM rfl rfl (lb rfl) (svcI rfl hb) (sv (d:=.int _ 0) rfl) rfl hx195)) <|aA rfl (bO rfl rfl (lb rfl) (svB rfl) rfl rfl hx196) <|aA rfl (mvB rfl rfl rfl rfl) <|aC rfl rfl (.one rfl) rfl (by decide) (fun hb=>(mvI rfl rfl rfl rfl)) <|aC rfl rfl (.one rfl) rfl (by decide) (fun hb=>(aM rfl rfl (lb rfl) (svcI rfl hb) (sv (d:=.int _ 9) rfl) rfl hx197)) <|aA rfl (bO rfl rfl (lb rfl) (svB rfl) rfl rfl hx198) <|aA rfl (mvB rfl rfl rfl rfl) <|aC rfl rfl (.one rfl) rfl (by decide) (fun hb=>(aN rfl rfl (lb rfl) (sv (d:=.osl _ _ _) rfl))) <|aC rfl rfl (.one rfl) rfl (by decide) (fun hb=>(mC (eInt .i64) ([3] : (List Int)) rfl rfl (lb rfl) Try.underlying24 ti3 (.cons (sv (d:=.int _ 3) rfl) .nil) rfl rfl (by decide))) <|aC rfl rfl (.one rfl) rfl (by decide) (fun hb=>(gS (r:=.bool x199) rfl rfl (lb rfl) cl23 (.cons (svc (d:=.osl _ _ _) rfl hb) (.cons (svcL rfl hb) .nil)) (.cons (FDT (eInt .i64) rfl rfl) (.all _)) rfl rfl (dW _ _ _ (gd_t hx199 hb)))) <|aA rfl (bO rfl rfl (lb rfl) (svB rfl) rfl rfl hx200) <|aA rfl (mvB rfl rfl rfl rfl) <|aC rfl rfl (.one rfl) rfl (by decide) (fun hb=>(mvI rfl rfl rfl rfl)) <|aC rfl rfl (.one rfl) rfl (by decide) (fun hb=>(aM rfl rfl (lb rfl) (svcI rfl hb) (sv (d:=.int _ 0) rfl) rfl hx201)) <|aA rfl (bO rfl rfl (lb rfl) (svB rfl) rfl rfl hx202) <|aA rfl (mvB rfl rfl rfl rfl) <|aC rfl rfl (.one rfl) rfl (by decide) (fun hb=>(aN rfl rfl (lb rfl) (sv (d:=.osl _ _ _) rfl))) <|aC rfl rfl (.one rfl) rfl (by decide) (fun hb=>(mC (eInt .i64) ([3] : (List Int)) rfl rfl (lb rfl) Try.underlying24 ti3 (.cons (sv (d:=.int _ 3) rfl) .nil) rfl rfl (by decide))) <|aC rfl rfl (.one rfl) rfl (by decide) (fun hb=>(gS (r:=.bool x203) rfl rfl (lb rfl) cl23 (.cons (svc (d:=.osl _ _ _) rfl hb) (.cons (svcL rfl hb) .nil)) (.cons (FDT (eInt .i64) rfl rfl) (.all _)) rfl rfl (dW _ _ _ (gd_t hx203 hb)))) <|aA rfl (bO rfl rfl (lb rfl) (svB rfl) rfl rfl hx204) <|aA rfl (mvB rfl rfl rfl rfl) <|aC rfl rfl (.one rfl) rfl (by decide) (fun hb=>(mvI rfl rfl rfl rfl)) <|aC rfl rfl (.one rfl) rfl (by decide) (fun hb=>(aM rfl rfl (lb rfl) (svcI rfl hb) (sv (d:=.int _ 13) rfl) rfl hx205)) <|aA rfl (bO rfl rfl (lb rfl) (svB rfl) rfl rfl hx206) <|aA rfl (mvB rfl rfl rfl rfl) <|aC rfl rfl (.one rfl) rfl (by decide) (fun hb=>(mvI rfl rfl rfl rfl)) <|aC rfl rfl (.one rfl) rfl (by decide) (fun hb=>(aM rfl rfl (lb rfl) (svcI rfl hb) (sv (d:=.int _ 8) rfl) rfl hx207)) <|aA rfl (bO rfl rfl (lb rfl) (svB rfl) rfl rfl hx208) <|aA rfl (mvB rfl rfl rfl rfl) <|aC rfl rfl (.one rfl) rfl (by decide) (fun hb=>(mvR rfl rfl rfl rfl)) <|aC rfl rfl (.one rfl) rfl (by decide) (fun hb=>(fA (r':=.int .i64 x209) (V:=[(1,.blk 60 (mixD aB.toEnc0 (w20 x24.2.1 x24.2.2.1 x24.2.2.2.1 x24.2.2.2.2.1 x24.2.2.2.2.2.1) x24.2.2.2.2.2.2.1 [.int .i64 x24.2.2.2.2.2.2.2.1,.osl 17 (eInt .i64).sz x24.2.2.2.2.2.2.2.2.length])),(17,.blk 3 (D.flat (x24.2.2.2.2.2.2.2.2.map (eInt .i64).d)))]) 26 [1,17] rfl rfl (lb rfl) cl14 (.cons (svcR rfl hb) .nil) rfl rfl rfl ⟨by decide,rfl,List.forall_mem_cons.2 ⟨⟨rfl,rfl,(eP aB rfl rfl rfl),(bF aB rfl rfl)⟩,List.forall_mem_cons.2 ⟨⟨rfl,rfl,(dY (eInt .i64) rfl),(aY (eInt .i64))⟩,List.forall_mem_nil _⟩⟩⟩ (gN _ _ _ _ _ _ _ _ _ (gd_t hx209 hb)) rfl rfl (List.forall_mem_cons.2 ⟨⟨rfl,(bF aB rfl rfl)⟩,List.forall_mem_cons.2 ⟨⟨rfl,(aY (eInt .i64))⟩,List.forall_mem_nil _⟩⟩) (by simp only [List.map_cons,List.map_nil,Ent.ren,bC,bG,bK]; rfl) (List.forall_mem_cons.2 ⟨rfl,List.forall_mem_cons.2 ⟨rfl,List.forall_mem_nil _⟩⟩) rfl)) <|aC rfl rfl (.one rfl) rfl (by decide) (fun hb=>(aM rfl rfl (lb rfl) (svcI rfl hb) (sv (d:=.int _ 2) rfl) rfl hx210)) <|aA rfl (bO rfl rfl (lb rfl) (svB rfl) rfl rfl hx211) <|aA rfl (mvB rfl rfl rfl rfl) <|aC rfl rfl (.one rfl) rfl (by decide) (fun hb=>(mvR rfl rfl rfl rfl)) <|?_)
     refine gQ (.slice false (([] : List Int).map (eInt .i64).d)) rfl rfl (.one rfl) rfl (by decide) (fun hc212=>?_) (fun hc212=>?_)
     ·
      replace h:=bY h hc212
      refine fB 129 rfl hc212 ?_
      obtain ⟨x213,hx213,h⟩:=aS h
      obtain ⟨x214,hx214,h⟩:=aR h
      obtain ⟨x215,hx215,h⟩:=aR h
      obtain ⟨x216,hx216,h⟩:=aR h
      obtain ⟨x217,hx217,h⟩:=aR h
      obtain ⟨x218,hx218,h⟩:=aR h
      obtain ⟨x219,hx219,h⟩:=aR h
      obtain ⟨x220,hx220,h⟩:=aR h
      obtain ⟨x221,hx221,h⟩:=aR h
      obtain ⟨x222,hx222,h⟩:=aR h
      refine aA rfl (bH (r':=.osl 26 (eInt .i64).sz x213.length) (H1':=[(1,.blk 60 (mixD aB.toEnc0 (w20 x24.2.1 x24.2.2.1 x24.2.2.2.1 x24.2.2.2.2.1 x24.2.2.2.2.2.1) x24.2.2.2.2.2.2.1 [.int .i64 x24.2.2.2.2.2.2.2.1,.osl 17 (eInt .i64).sz x24.2.2.2.2.2.2.2.2.length])),(17,.blk 3 (D.flat (x24.2.2.2.2.2.2.2.2.map (eInt .i64).d))),(26,.blk 3 (D.flat (x213.map (eInt .i64).d)))]) 26 [1,17] rfl rfl (lb rfl) cl10 (.cons (svR rfl) .nil) rfl rfl ⟨rfl,rfl,by decide,rfl,List.forall_mem_cons.2 ⟨⟨rfl,rfl,(eP aB rfl rfl rfl),(bF aB rfl rfl)⟩,List.forall_mem_cons.2 ⟨⟨rfl,rfl,(dY (eInt .i64) rfl),(aY (eInt .i64))⟩,List.forall_mem_nil _⟩⟩⟩ (lB _ _ _ _ _ _ _ _ _ hx213) rfl rfl (List.forall_mem_cons.2 ⟨⟨rfl,(bF aB rfl rfl)⟩,List.forall_mem_cons.2 ⟨⟨rfl,(aY (eInt .i64))⟩,List.forall_mem_cons.2 ⟨⟨rfl,(aY (eInt .i64))⟩,List.forall_mem_nil _⟩⟩⟩) (by simp only [List.map_cons,List.map_nil,Ent.ren,bC,bG,bK]; rfl)) <|aC rfl rfl (.one rfl) rfl (by decide) (fun hb=>(fE rfl rfl (lb rfl) Try.underlying24 (sv (d:=.osl _ _ _) rfl))) <|aC rfl rfl (.one rfl) rfl (by decide) (fun hb=>(aM rfl rfl (lb rfl) (svcI rfl hb) (sv (d:=.int _ 0) rfl) rfl hx214)) <|aA rfl (bO rfl rfl (lb rfl) (svB rfl) rfl rfl hx215) <|aA rfl (mvB rfl rfl rfl rfl) <|aA rfl (dT rfl rfl (lb rfl) (svB rfl) rfl rfl hx216) <|aA rfl (mvB rfl rfl rfl rfl) <|aA rfl (dT rfl rfl (lb rfl) (svB rfl) rfl rfl hx217) <|aA rfl (mvB rfl rfl rfl rfl) <|aA rfl (dT rfl rfl (lb rfl) (svB rfl) rfl rfl hx218) <|aA rfl (mvB rfl rfl rfl rfl) <|aA rfl (dT rfl rfl (lb rfl) (svB rfl) rfl rfl hx219) <|aA rfl (mvB rfl rfl rfl rfl) <|aA rfl (dT rfl rfl (lb rfl) (svB rfl) rfl rfl hx220) <|aA rfl (mvB rfl rfl rfl rfl) <|aA rfl (dT rfl rfl (lb rfl) (svB rfl) rfl rfl hx221) <|aA rfl (mvB rfl rfl rfl rfl) <|aA rfl (dT rfl rfl (lb rfl) (svB rfl) rfl rfl hx222) <|aA rfl (asB rfl rfl rfl rfl) <|bL ?_
      refine aL ⟨x222,(fun i=>i),⟨(.sames rfl rfl),.nil,bB [] rfl (by decide),fun _ _=>rfl⟩,?_⟩
      exact h
     ·
      replace h:=bZ h hc212
      obtain ⟨x223,hx223,h⟩:=aR h
      obtain ⟨x224,hx224,h⟩:=aR h
      obtain ⟨x225,hx225,h⟩:=aR h
      obtain ⟨x226,hx226,h⟩:=aR h
      obtain ⟨x227,hx227,h⟩:=aR h
      obtain ⟨x228,hx228,h⟩:=aR h
      obtain ⟨x229,hx229,h⟩:=aR h
      obtain ⟨x230,hx230,h⟩:=aR h
      obtain ⟨x231,hx231,h⟩:=aR h
      refine aC rfl rfl (.one rfl) rfl (by decide) (fun hb=>(eQ (eInt .i64) (l:=([] : (List Int))) rfl rfl (lb rfl) Try.underlying24 (svcL rfl hb))) <|aC rfl rfl (.one rfl) rfl (by decide) (fun hb=>(aM rfl rfl (lb rfl) (svcI rfl hb) (sv (d:=.int _ 0) rfl) rfl hx223)) <|aA rfl (bO rfl rfl (lb rfl) (svB rfl) rfl rfl hx224) <|aA rfl (mvB rfl rfl rfl rfl) <|aA rfl (dT rfl rfl (lb rfl) (svB rfl) rfl rfl hx225) <|aA rfl (mvB rfl rfl rfl rfl) <|aA rfl (dT rfl rfl (lb rfl) (svB rfl) rfl rfl hx226) <|aA rfl (mvB rfl rfl rfl rfl) <|aA rfl (dT rfl rfl (lb rfl) (svB rfl) rfl rfl hx227) <|aA rfl (mvB rfl rfl rfl rfl) <|aA rfl (dT rfl rfl (lb rfl) (svB rfl) rfl rfl hx228) <|aA rfl (mvB rfl rfl rfl rfl) <|aA rfl (dT rfl rfl (lb rfl) (svB rfl) rfl rfl hx229) <|aA rfl (mvB rfl rfl rfl rfl) <|aA rfl (dT rfl rfl (lb rfl) (svB rfl) rfl rfl hx230) <|aA rfl (mvB rfl rfl rfl rfl) <|aA rfl (dT rfl rfl (lb rfl) (svB rfl) rfl rfl hx231) <|aA rfl (asB rfl rfl rfl rfl) <|bL ?_
      refine aL ⟨x231,(fun i=>i),⟨(.sames rfl rfl),.nil,bB [] rfl (by decide),fun _ _=>rfl⟩,?_⟩
      exact h
    ·
     rintro v181 h
     unfold iR at h
     refine bD ?_
     obtain rfl:=Option.some.inj h
     refine ⟨.inr rfl,(.cons (sv rfl) .nil)⟩

end Go.Proofs.Ytdnjagkihgjpcaa
