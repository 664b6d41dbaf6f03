/-
  A part of the proof: rules and plain facts. No condition.
-/
import Derived.Test.YtdnjagkihgjpcaaGreatProg
import Derived.KernelRfl
import Derived.Test.YtdnjagkihgjpcaaGreatIlSo
import Derived.Test.YtdnjagkihgjpcaaGreatIlIt19z
import Derived.Test.YtdnjagkihgjpcaaGreatIlA19zC2
set_option linter.all false
set_option maxRecDepth 8000
set_option maxHeartbeats 2000000
open Go Go.IL Go.Fn Go.Proofs
open Go.Proofs.Tryz
namespace Go.Proofs.YtdnjagkihgjpcaaGreat
theorem ti5:TI prog 5 (some (.int .u8 0)) 1 1:=by unfold TI; kernel_rfl
theorem ti30:TI prog 30 (some (.slice none 0 0)) 1 24:=by unfold TI; kernel_rfl
theorem ti32:TI prog 32 (some (.agg #[.int .i64 0,.int .i64 0,.slice none 0 0,.slice none 0 0])) 4 64:=by unfold TI; kernel_rfl
theorem ti52:TI prog 52 (some (.agg #[.int .i64 0,.int .i64 0,.int .i64 0,.bool false])) 4 32:=by unfold TI; kernel_rfl
theorem ti62:TI prog 62 (some (.agg #[.int .i64 0,.int .i64 0,.slice none 0 0,.int .i64 0,.int .i64 0,.int .i64 0,.int .i64 0,.int .i64 0,.int .i64 0,.int .i64 0,.bool false,.int .i64 0,.int .i64 0,.int .i64 0,.int .i64 0,.int .i64 0,.bool false,.int .i64 0,.int .i64 0,.int .i64 0,.int .i64 0,.int .i64 0,.bool false,.int .i64 0,.int .i64 0,.int .i64 0,.int .i64 0,.int .i64 0,.bool false,.int .i64 0,.int .i64 0,.int .i64 0,.int .i64 0,.int .i64 0,.bool false,.int .i64 0,.int .i64 0,.int .i64 0,.int .i64 0,.int .i64 0,.bool false,.int .i64 0,.int .i64 0,.int .i64 0,.int .i64 0,.int .i64 0,.bool false,.int .i64 0,.int .i64 0,.int .i64 0,.int .i64 0,.int .i64 0,.bool false,.int .i64 0,.int .i64 0,.int .i64 0,.int .i64 0,.int .i64 0,.bool false,.int .i64 0,.int .i64 0,.int .i64 0,.int .i64 0,.int .i64 0,.bool false,.int .i64 0,.int .i64 0,.int .i64 0,.int .i64 0,.int .i64 0,.bool false,.int .i64 0,.int .i64 0,.int .i64 0,.int .i64 0,.int .i64 0,.bool false,.int .i64 0,.int .i64 0,.int .i64 0,.int .i64 0,.int .i64 0,.bool false,.int .i64 0,.int .i64 0,.int .i64 0,.int .i64 0,.int .i64 0,.bool false,.int .i64 0,.int .i64 0,.int .i64 0,.int .i64 0,.int .i64 0,.bool false,.int .i64 0,.int .i64 0,.int .i64 0,.int .i64 0,.int .i64 0,.bool false,.int .i64 0,.int .i64 0,.int .i64 0,.int .i64 0,.int .i64 0,.bool false,.int .i64 0,.int .i64 0,.int .i64 0,.int .i64 0,.int .i64 0,.bool false,.int .i64 0,.int .i64 0,.int .i64 0,.int .i64 0,.int .i64 0,.bool false,.int .i64 0,.int .i64 0,.int .i64 0,.int .i64 0,.int .i64 0,.bool false,.int .i64 0,.int .i64 0,.int .i64 0,.int .i64 0,.int .i64 0,.bool false,.int .i64 0,.int .i64 0,.int .i64 0,.int .i64 0,.int .i64 0,.bool false,.int .i64 0,.int .i64 0,.int .i64 0,.int .i64 0,.int .i64 0,.bool false,.int .i64 0,.int .i64 0,.int .i64 0,.int .i64 0,.int .i64 0,.bool false,.int .i64 0,.int .i64 0,.int .i64 0,.int .i64 0,.int .i64 0,.bool false,.int .i64 0,.int .i64 0,.int .i64 0,.int .i64 0,.int .i64 0,.bool false,.int .i64 0,.int .i64 0,.int .i64 0,.int .i64 0,.int .i64 0,.bool false,.int .i64 0,.int .i64 0,.int .i64 0,.int .i64 0,.int .i64 0,.bool false,.int .i64 0,.int .i64 0,.int .i64 0,.int .i64 0,.int .i64 0,.bool false,.int .i64 0,.int .i64 0,.int .i64 0,.int .i64 0,.int .i64 0,.bool false,.int .i64 0,.int .i64 0,.int .i64 0,.int .i64 0,.int .i64 0,.bool false,.int .i64 0,.int .i64 0,.int .i64 0,.int .i64 0,.int .i64 0,.bool false,.int .i64 0,.int .i64 0,.int .i64 0,.int .i64 0,.int .i64 0,.bool false,.int .i64 0,.int .i64 0,.int .i64 0,.int .i64 0,.int .i64 0,.bool false,.int .i64 0,.int .i64 0,.int .i64 0,.int .i64 0,.int .i64 0,.bool false,.int .i64 0,.int .i64 0,.int .i64 0,.int .i64 0,.int .i64 0,.bool false,.int .i64 0,.int .i64 0,.int .i64 0,.int .i64 0,.int .i64 0,.bool false,.int .i64 0,.int .i64 0,.int .i64 0,.int .i64 0,.int .i64 0,.bool false,.int .i64 0,.int .i64 0,.int .i64 0,.int .i64 0,.int .i64 0,.bool false,.int .i64 0,.int .i64 0,.int .i64 0,.int .i64 0,.int .i64 0,.bool false,.int .i64 0,.int .i64 0,.int .i64 0,.int .i64 0,.int .i64 0,.bool false,.int .i64 0,.int .i64 0,.int .i64 0,.int .i64 0,.int .i64 0,.bool false,.int .i64 0,.int .i64 0,.int .i64 0,.int .i64 0,.int .i64 0,.bool false,.int .i64 0,.int .i64 0,.int .i64 0,.int .i64 0,.int .i64 0,.bool false,.int .i64 0,.int .i64 0,.int .i64 0,.int .i64 0,.int .i64 0,.bool false,.int .i64 0,.int .i64 0,.int .i64 0,.int .i64 0,.int .i64 0,.bool false,.int .i64 0,.int .i64 0,.int .i64 0,.int .i64 0,.int .i64 0,.bool false,.int .i64 0,.int .i64 0,.int .i64 0,.int .i64 0,.int .i64 0,.bool false,.int .i64 0,.int .i64 0,.int .i64 0,.int .i64 0,.int .i64 0,.bool false,.int .i64 0,.int .i64 0,.int .i64 0,.int .i64 0,.int .i64 0,.bool false,.int .i64 0,.int .i64 0,.int .i64 0,.int .i64 0,.int .i64 0,.bool false,.int .i64 0,.int .i64 0,.int .i64 0,.int .i64 0,.int .i64 0,.bool false,.int .i64 0,.int .i64 0,.int .i64 0,.int .i64 0,.int .i64 0,.bool false,.int .i64 0,.int .i64 0,.int .i64 0,.int .i64 0,.int .i64 0,.bool false,.int .i64 0,.int .i64 0,.int .i64 0,.int .i64 0,.int .i64 0,.bool false,.int .i64 0,.int .i64 0,.int .i64 0,.int .i64 0,.int .i64 0,.bool false,.int .i64 0,.int .i64 0,.int .i64 0,.int .i64 0,.int .i64 0,.bool false,.int .i64 0,.int .i64 0,.int .i64 0,.int .i64 0,.int .i64 0,.bool false,.int .i64 0,.int .i64 0,.int .i64 0,.int .i64 0,.int .i64 0,.bool false,.int .i64 0,.int .i64 0,.int .i64 0,.int .i64 0,.int .i64 0,.bool false,.int .i64 0,.int .i64 0,.int .i64 0,.int .i64 0,.int .i64 0,.bool false,.int .i64 0,.int .i64 0,.int .i64 0,.int .i64 0,.int .i64 0,.bool false,.int .i64 0,.int .i64 0,.int .i64 0,.int .i64 0,.int .i64 0,.bool false,.int .i64 0,.int .i64 0,.int .i64 0,.int .i64 0,.int .i64 0,.bool false,.int .i64 0,.slice none 0 0])) 391 3160:=by unfold TI; kernel_rfl
theorem ti65:TI prog 65 (some (.agg #[.int .i64 0,.int .i64 0,.int .i64 0,.bool false])) 4 32:=by unfold TI; kernel_rfl
theorem ti70:TI prog 70 (some (.agg #[.bool false,.bool false,.bool false,.bool false,.bool false,.bool false,.bool false,.bool false,.bool false,.bool false,.bool false,.bool false,.bool false,.bool false,.bool false,.bool false,.bool false,.bool false,.bool false,.bool false,.bool false,.bool false,.bool false,.bool false,.bool false,.bool false,.bool false,.bool false,.bool false,.bool false,.bool false,.bool false,.bool false,.bool false,.bool false,.bool false,.bool false,.bool false,.bool false,.bool false,.bool false,.bool false,.bool false,.bool false,.bool false,.bool false,.bool false,.bool false,.bool false,.bool false,.bool false,.bool false,.bool false,.bool false,.bool false,.bool false,.bool false,.bool false,.bool false,.bool false,.bool false,.bool false,.bool false,.bool false])) 64 64:=by unfold TI; kernel_rfl
theorem ag5:jL prog 5=false:=by kernel_rfl
theorem ag30:jL prog 30=false:=by kernel_rfl
theorem ag32:jL prog 32=true:=by kernel_rfl
theorem ag52:jL prog 52=true:=by kernel_rfl
theorem ag59:jL prog 59=true:=by kernel_rfl
theorem ag65:jL prog 65=true:=by kernel_rfl
theorem ag70:jL prog 70=true:=by kernel_rfl
theorem ag78:jL prog 78=true:=by kernel_rfl
theorem pl32:∀ w,(Array.mapM (m:=Sem) (fun (f:Field)=>Functor.map (Prod.mk f.offset) (sizeOf f.type)) (fieldsOf prog 32)).run prog w = .ok #[(0,1),(1,1),(2,1),(3,1)] w:=fun w=>by kernel_rfl
theorem pl52:∀ w,(Array.mapM (m:=Sem) (fun (f:Field)=>Functor.map (Prod.mk f.offset) (sizeOf f.type)) (fieldsOf prog 52)).run prog w = .ok #[(0,1),(1,1),(2,1),(3,1)] w:=fun w=>by kernel_rfl
theorem pl59:∀ w,(Array.mapM (m:=Sem) (fun (f:Field)=>Functor.map (Prod.mk f.offset) (sizeOf f.type)) (fieldsOf prog 59)).run prog w = .ok #[(0,1),(1,1),(2,1),(3,1),(4,1),(5,1)] w:=fun w=>by kernel_rfl
theorem pl62:∀ w,(Array.mapM (m:=Sem) (fun (f:Field)=>Functor.map (Prod.mk f.offset) (sizeOf f.type)) (fieldsOf prog 62)).run prog w = .ok #[(0,1),(1,1),(2,3),(5,384),(389,1),(390,1)] w:=fun w=>by kernel_rfl
theorem pl65:∀ w,(Array.mapM (m:=Sem) (fun (f:Field)=>Functor.map (Prod.mk f.offset) (sizeOf f.type)) (fieldsOf prog 65)).run prog w = .ok #[(0,1),(1,1),(2,1),(3,1)] w:=fun w=>by kernel_rfl
theorem st52:prog.stoodInHeld 52=false ∧ prog.eqGuardType prog.depth 52=false:=⟨by kernel_rfl,by kernel_rfl⟩
theorem cl5:bM prog 5:=⟨f5,func5,rfl,rfl⟩
theorem cl9:bM prog 9:=⟨f9,func9,rfl,rfl⟩
theorem cl10:bM prog 10:=⟨f10,func10,rfl,rfl⟩
theorem cl11:bM prog 11:=⟨f11,func11,rfl,rfl⟩
theorem cl12:bM prog 12:=⟨f12,func12,rfl,rfl⟩
theorem cl13:bM prog 13:=⟨f13,func13,rfl,rfl⟩
theorem cl14:bM prog 14:=⟨f14,func14,rfl,rfl⟩
theorem cl15:bM prog 15:=⟨f15,func15,rfl,rfl⟩
theorem cl17:bM prog 17:=⟨f17,func17,rfl,rfl⟩
theorem cl19:bM prog 19:=⟨f19,func19,rfl,rfl⟩
theorem cl21:bM prog 21:=⟨f21,func21,rfl,rfl⟩
theorem cl22:bM prog 22:=⟨f22,func22,rfl,rfl⟩
theorem cl23:bM prog 23:=⟨f23,func23,rfl,rfl⟩
theorem cl24:bM prog 24:=⟨f24,func24,rfl,rfl⟩
theorem cl26:bM prog 26:=⟨f26,func26,rfl,rfl⟩
theorem cl32:bM prog 32:=⟨f32,func32,rfl,rfl⟩
theorem cl33:bM prog 33:=⟨f33,func33,rfl,rfl⟩
theorem cl36:bM prog 36:=⟨f36,func36,rfl,rfl⟩
theorem cl39:bM prog 39:=⟨f39,func39,rfl,rfl⟩
theorem cl41:bM prog 41:=⟨f41,func41,rfl,rfl⟩
theorem cl42:bM prog 42:=⟨f42,func42,rfl,rfl⟩
theorem cl43:bM prog 43:=⟨f43,func43,rfl,rfl⟩
theorem cl44:bM prog 44:=⟨f44,func44,rfl,rfl⟩
theorem cl55:bM prog 55:=⟨f55,func55,rfl,rfl⟩
def la30:=LA.mk underlying30 ag30 ti30 (by decide)
def la32:=LA.mk underlying32 ag32 ti32 (by decide)
def la78:=LA.mk underlying78 ag78 ti78 (by decide)


theorem mW (a0:Int) (a1:fX) (a2:Int) (a3:Int) (a4:(List aH)) (a5:Int) (a6:Int) (a7:(List aG)) (a8:Int) (a9:(List Int)) (r:(Int × Int × Int × (List aH) × Int × Int × (List aG) × Int × (List Int))) (h:iD a0 a1 a2 a3 a4 a5 a6 a7 a8 a9=some r):FnH prog 42 [.ref 1000 0,.int .i64 a0,.agg (v5 a1)] [(1000,.blk 62 (mixD aB.toEnc0 (w26 a2 a3 a4 a5 a6) a7 [.int .i64 a8,.osl 1001 (eInt .i64).sz a9.length])),(1001,.blk 3 (D.flat (a9.map (eInt .i64).d)))] (.int .i64 r.1) [(1000,.blk 62 (mixD aB.toEnc0 (w26 r.2.1 r.2.2.1 r.2.2.2.1 r.2.2.2.2.1 r.2.2.2.2.2.1) r.2.2.2.2.2.2.1 [.int .i64 r.2.2.2.2.2.2.2.1,.osl 0 (eInt .i64).sz r.2.2.2.2.2.2.2.2.length])),(0,.blk 3 (D.flat (r.2.2.2.2.2.2.2.2.map (eInt .i64).d)))]:=by
 refine eX (rs:=[.int .i64 r.1]) func42 M ntmps42 (nle M) fun O hO=>?_
 show IWP _ _ _ _ ⟨[(0,.ref 1000 0),(1,.int .i64 a0),(2,.agg (v5 a1))],[(1000,.blk 62 (mixD aB.toEnc0 (w26 a2 a3 a4 a5 a6) a7 [.int .i64 a8,.osl 1001 (eInt .i64).sz a9.length])),(1001,.blk 3 (D.flat (a9.map (eInt .i64).d)))]⟩ _
 unfold iD at h
 refine aD (aA M (cY (cs:=q16) 0 M M (lb M) M (svA q16 M) M M)<|aA M (aF M M (lb M) (sv (d:=.int _ 0) M))<|aC ?_)
 refine jR (α:=Int × Int × (List aH) × Int × Int × (List aG) × Int × (List Int)) (fun z=>⟨[(0,.ref 1000 0),(1,.int .i64 a0),(5,.ref 0 0)],[(1000,.blk 62 (mixD aB.toEnc0 (w26 z.1 z.2.1 z.2.2.1 z.2.2.2.1 z.2.2.2.2.1) z.2.2.2.2.2.1 [.int .i64 z.2.2.2.2.2.2.1,.osl 1 (eInt .i64).sz z.2.2.2.2.2.2.2.length])),(0,.blk 78 (v5 a1)),(1,.blk 3 (D.flat (z.2.2.2.2.2.2.2.map (eInt .i64).d)))]⟩) (fun z=>fQ a0 a1 z.1 z.2.1 z.2.2.1 z.2.2.2.1 z.2.2.2.2.1 z.2.2.2.2.2.1 z.2.2.2.2.2.2.1 z.2.2.2.2.2.2.2=some r) ?_ ?_
 ·
  obtain ⟨x27,hx27,h⟩:=aR h
  obtain ⟨x28,hx28,h⟩:=aY h
  refine jK M [⟨[0],[],[(10,.ref 1000 0)],[]⟩,
   ⟨[10],[1000,1001],[(11,.int .i64 x27)],[]⟩,
   ⟨[0],[],[(12,.ref 1000 0)],[]⟩,
   ⟨[12],[],[(13,.ref 1000 0)],[]⟩,
   ⟨[13],[],[(14,.ref 1000 0)],[]⟩,
   ⟨[14],[1000],[(15,.int .i64 a2)],[]⟩,
   ⟨[11,15],[],[(16,.bool x28)],[]⟩] M ?_ (by kernel_rfl) ?_
  ·refine .cons (lop M M fun S hA=>(aP M M (lb M) (svaR hA M M))) ?_
   refine .cons (lop M M fun S hA=>(eI (r':=.int .i64 x27) (V:=[(1000,.blk 62 (mixD aB.toEnc0 (w26 a2 a3 a4 a5 a6) a7 [.int .i64 a8,.osl 1001 (eInt .i64).sz a9.length])),(1001,.blk 3 (D.flat (a9.map (eInt .i64).d)))]) 1 [1000,1001] M M (lb M) cl14 (.cons (svaR hA M M) .nil) M M M ⟨by decide,M,List.forall_mem_cons.2 ⟨⟨M,M,(gT aB (agi hA M M) M M),(bV aB M M)⟩,List.forall_mem_cons.2 ⟨⟨M,M,(gE (eInt .i64) (agi hA M M)),(bN (eInt .i64))⟩,List.forall_mem_nil _⟩⟩⟩ (kT _ _ _ _ _ _ _ _ _ hx27) M M (List.forall_mem_cons.2 ⟨⟨M,(bV aB M M)⟩,List.forall_mem_cons.2 ⟨⟨M,(bN (eInt .i64))⟩,List.forall_mem_nil _⟩⟩) (by simp only [List.map_cons,List.map_nil,Ent.ren,bJ,bY,cB]; rfl) (List.forall_mem_cons.2 ⟨(agi hA M M),List.forall_mem_cons.2 ⟨(agi hA M M),List.forall_mem_nil _⟩⟩) M)) ?_
   refine .cons (lop M M fun S hA=>(aP M M (lb M) (svaR hA M M))) ?_
   refine .cons (lop M M fun S hA=>(aK M M (lb M) (svaR hA M M))) ?_
   refine .cons (lop M M fun S hA=>(aS M M (lb M) underlying62 M ti3 (by decide) (svaR hA M M) (off':=0) M)) ?_
   refine .cons (lop M M fun S hA=>(qO aB.toEnc0 (d:=.int _ _) M M (lb M) underlying3 ag3 ti3 (by decide) (svaR hA M M) (agi hA M M) (nle M) (by rfl))) ?_
   refine .cons (lop M M fun S hA=>(aQ M M (lb M) (svaI hA M M) (svaI hA M M) M hx28)) ?_
   exact .nil
  refine aW (b:=_) M (fun hc29=>?_) (fun hc29=>?_)
  ·
   replace h:=cI h hc29
   refine aT ?_
   obtain ⟨hk30,h⟩:=lF h
   obtain ⟨x31,hx31,h⟩:=aY h
   refine aD (aA M (mvR M M M M)<|aA M (aK M M (lb M) (svR M))<|aA M (faR 390 M M M underlying62 M ti24 (lb M) M M)<|aA M (gN aB.toEnc0 (d:=.osl _ _ _) (n:=64) (k:=1) M M (lb M) underlying24 ag24 ti24 (by decide) (svR M) M hk30 (by rfl) (nle M) (by rfl))<|aA M (oJ M M (lb M) underlying24 (sv (d:=.osl _ _ _) M))<|aA M (aQ M M (lb M) (svI M) (sv (d:=.int _ 0) M) M hx31)<|aC ?_)
   refine aW (b:=_) M (fun hc32=>?_) (fun hc32=>?_)
   ·
    replace h:=cI h hc32
    refine aD (aA M (aF M M (lb M) (sv (d:=.int _ 7) M))<|aC ?_)
    refine bB ?_
    refine bH ?_
    refine bH ?_
    obtain rfl:=sj_ h
    refine ⟨.inr M,(fun i=>if i=0 then 1001 else i),⟨.nil,(.cons (EntW.mix aB M (SubC.of_eq M) (SubC.of_eq M) M M) (.cons (EntW.lst M) .nil)),bD [1000,1001] M (by decide),(fun i hi=>by first | rfl | (show (if _ then _ else _)=_; (repeat' split) <;> omega))⟩,(.cons (sv M) .nil),M⟩
   ·
    replace h:=cJ h hc32
    refine aU ?_
    refine aO ?_
    obtain ⟨x33,hx33,h⟩:=aR h
    obtain ⟨x34,hx34,h⟩:=aR h
    obtain ⟨x35,hx35,h⟩:=aR h
    refine aX (aA M (mvR M M M M)<|aA M (mvR M M M M)<|aA M (aK M M (lb M) (svR M))<|aA M (faR 390 M M M underlying62 M ti24 (lb M) M M)<|aA M (gN aB.toEnc0 (d:=.osl _ _ _) (n:=64) (k:=1) M M (lb M) underlying24 ag24 ti24 (by decide) (svR M) M hk30 (by rfl) (nle M) (by rfl))<|aA M (lE (eInt .i64).toEnc0 M M (lb M) underlying24 ti3 (sv (d:=.osl _ _ _) M) M (sv (d:=.int _ 0) M) hx33)<|aA M (kP (eInt .i64).toEnc0 (d:=.int _ _) M M (lb M) underlying3 ag3 ti3 (by decide) (svR M) M hx34 (nle M) M)<|aA M (cW (r':=.tuple []) (H1':=[(1000,.blk 62 (mixD aB.toEnc0 (w26 x35.1 x35.2.1 x35.2.2.1 x35.2.2.2.1 x35.2.2.2.2.1) x35.2.2.2.2.2.1 [.int .i64 x35.2.2.2.2.2.2.1,.osl 1 (eInt .i64).sz x35.2.2.2.2.2.2.2.length])),(1,.blk 3 (D.flat (x35.2.2.2.2.2.2.2.map (eInt .i64).d)))]) 1 [1000,1001] M M (lb M) cl44 (.cons (svR M) (.cons (svI M) .nil)) M M ⟨M,M,by decide,M,List.forall_mem_cons.2 ⟨⟨M,M,(gT aB M M M),(bV aB M M)⟩,List.forall_mem_cons.2 ⟨⟨M,M,(gE (eInt .i64) M),(bN (eInt .i64))⟩,List.forall_mem_nil _⟩⟩⟩ (mA _ _ _ _ _ _ _ _ _ _ hx35) M M (List.forall_mem_cons.2 ⟨⟨M,(bV aB M M)⟩,List.forall_mem_cons.2 ⟨⟨M,(bN (eInt .i64))⟩,List.forall_mem_nil _⟩⟩) (by simp only [List.map_cons,List.map_nil,Ent.ren,bJ,bY,cB]; rfl))<|bK ?_)
    refine aO ⟨(x35.1,x35.2.1,x35.2.2.1,x35.2.2.2.1,x35.2.2.2.2.1,x35.2.2.2.2.2.1,x35.2.2.2.2.2.2.1,x35.2.2.2.2.2.2.2),(fun i=>i),⟨(.sames M M),(.cons (EntW.mix aB M (SubC.of_eq M) (SubC.of_eq M) M M) (.cons (.blk M M M) (.cons (EntW.lst M) .nil))),bD [1000,0,1] M (by decide),fun _ _=>M⟩,?_⟩
    exact h
  ·
   replace h:=cJ h hc29
   refine aU ?_
   refine aO ⟨(a2,a3,a4,a5,a6,a7,a8,a9),(fun i=>if i=1 then 1001 else i),⟨(.sames M M),(.cons (EntW.mix aB M (SubC.of_eq M) (SubC.of_eq M) M M) (.cons (.blk M M M) (.cons (EntW.lst M) .nil))),bD [1000,0,1001] M (by decide),(fun i hi=>by first | rfl | (show (if _ then _ else _)=_; (repeat' split) <;> omega))⟩,?_⟩
   exact h
 ·
  rintro ⟨v10,v11,v12,v13,v14,v15,v16,v17⟩ h
  unfold fQ at h
  obtain ⟨x18,hx18,h⟩:=aR h
  refine aD (aA M (mvR M M M M)<|aA M (aK M M (lb M) (svR M))<|aA M (faR 2 M M M underlying62 M ti56 (lb M) M M)<|aA M (oC aB.toEnc0 (cs:=q14) M M (lb M) underlying56 ag56 ti56 (by decide) (svR M) M (nle M) (by rfl))<|aA M (mvI M M M M)<|aA M (bC (r:=.tuple q22) M M (lb M) cl55 (.cons (svA q14 M) (.cons (svI M) .nil)) M (xC _ _ _ hx18))<|aA M (aP M M (lb M) (sv (d:=.tuple q22) M))<|aA M (cE (d:=.agg q14) M M (lb M) (sv (d:=.tuple q22) M) M)<|aA M (cE (d:=.int _ _) M M (lb M) (sv (d:=.tuple q22) M) M)<|aA M (cE (d:=.int _ _) M M (lb M) (sv (d:=.tuple q22) M) M)<|aA M (dA (cs:=q18) (cs':=[.slice false (([]:List aH).map aZ.d),.int .i64 0,.int .i64 0]) 2 M M (lb M) M ti56 M M (.cons (.nils _) (.all _)))<|aA M (stA q14 q14 ti56 M M M M M M M M (nle M) M)<|aA M (asI M M M M)<|aA M (asI M M M M)<|aC ?_)
  refine aT ?_
  obtain ⟨x19,hx19,h⟩:=aY h
  refine aD (aA M (mvI M M M M)<|aA M (aQ M M (lb M) (svI M) (sv (d:=.int _ 0) M) M hx19)<|aC ?_)
  refine aW (b:=_) M (fun hc20=>?_) (fun hc20=>?_)
  ·
   replace h:=cI h hc20
   refine aD (aA M (mvI M M M M)<|aA M (asI M M M M)<|aC ?_)
   refine bB ?_
   refine bH ?_
   obtain rfl:=sj_ h
   refine ⟨.inr M,(fun i=>if i=0 then 1 else i),⟨.nil,(.cons (EntW.mix aB M (SubC.of_eq M) (SubC.of_eq M) M M) (.cons (EntW.lst M) .nil)),bD [1000,1] M (by decide),(fun i hi=>by first | rfl | (show (if _ then _ else _)=_; (repeat' split) <;> omega))⟩,(.cons (sv M) .nil),M⟩
  ·
   replace h:=cJ h hc20
   refine aU ?_
   refine aO ?_
   refine aD (aA M (mvR M M M M)<|aA M (lra q14 la56 M M M M M (nle M) M)<|aA M (aK M M (lb M) (svR M))<|aA M (faR 2 M M M underlying62 M ti56 (lb M) M M)<|aA M (rY aB.toEnc0 (pre:=q8) (pre':=q8) M M ti56 (svR M) M (svA q14 M) M M M (nle M) M)<|aC ?_)
   obtain ⟨x21,hx21,h⟩:=aR h
   obtain ⟨hk22,h⟩:=lF h
   obtain ⟨x23,hx23,h⟩:=aR h
   obtain ⟨x24,hx24,h⟩:=aY h
   refine aD (aA M (mvR M M M M)<|aA M (mvI M M M M)<|aA M (mvI M M M M)<|aA M (cP (cs:=q7) M M (lb M) underlying59 ti59 pl59 M (.cons (svI M) (.cons (sv (d:=.int _ (-1)) M) (.cons (sv (d:=.int _ (-1)) M) (.cons (sv (d:=.int _ 16) M) .nil)))) M)<|aA M (aK M M (lb M) (svR M))<|aA M (faR 5 M M M underlying62 M ti60 (lb M) M M)<|aA M (cT aB.toEnc0 M M (lb M) underlying60 ti59 (svR M) hk22 (svI M) hx21)<|aA M (jD aB.toEnc0 (b:=5) (k:=0) (a':=(⟨a0,0,(-1),(-1),16,false⟩:aG)) M M ti59 (svR M) M (svA q7 M) M M M M hx23 (nle M) M hx24)<|aC ?_)
   obtain ⟨x25,hx25,h⟩:=aR h
   refine aD (aA M (mvR M M M M)<|aA M (mvI M M M M)<|aA M (cW (r':=.tuple []) (H1':=[(1000,.blk 62 (mixD aB.toEnc0 (w26 x25.1 x25.2.1 x25.2.2.1 x25.2.2.2.1 x25.2.2.2.2.1) x25.2.2.2.2.2.1 [.int .i64 x25.2.2.2.2.2.2.1,.osl 3 (eInt .i64).sz x25.2.2.2.2.2.2.2.length])),(3,.blk 3 (D.flat (x25.2.2.2.2.2.2.2.map (eInt .i64).d)))]) 3 [1000,1] M M (lb M) cl56 (.cons (svR M) (.cons (svI M) (.cons (sv (d:=.int _ (-1)) M) .nil))) M M ⟨M,M,by decide,M,List.forall_mem_cons.2 ⟨⟨M,M,(gT aB M M M),(bV aB M M)⟩,List.forall_mem_cons.2 ⟨⟨M,M,(gE (eInt .i64) M),(bN (eInt .i64))⟩,List.forall_mem_nil _⟩⟩⟩ (nV _ _ _ _ _ _ _ _ _ _ _ hx25) M M (List.forall_mem_cons.2 ⟨⟨M,(bV aB M M)⟩,List.forall_mem_cons.2 ⟨⟨M,(bN (eInt .i64))⟩,List.forall_mem_nil _⟩⟩) (by simp only [List.map_cons,List.map_nil,Ent.ren,bJ,bY,cB]; rfl))<|aC ?_)
   obtain ⟨x26,hx26,h⟩:=aR h
   refine aD (aA M (mvR M M M M)<|aA M (mvI M M M M)<|aA M (lra q16 la78 M M M M M (nle M) M)<|aA M (cW (r':=.tuple []) (H1':=[(1000,.blk 62 (mixD aB.toEnc0 (w26 x26.1 x26.2.1 x26.2.2.1 x26.2.2.2.1 x26.2.2.2.2.1) x26.2.2.2.2.2.1 [.int .i64 x26.2.2.2.2.2.2.1,.osl 4 (eInt .i64).sz x26.2.2.2.2.2.2.2.length])),(4,.blk 3 (D.flat (x26.2.2.2.2.2.2.2.map (eInt .i64).d)))]) 4 [1000,3] M M (lb M) cl43 (.cons (svR M) (.cons (svI M) (.cons (svA q16 M) .nil))) M M ⟨M,M,by decide,M,List.forall_mem_cons.2 ⟨⟨M,M,(gT aB M M M),(bV aB M M)⟩,List.forall_mem_cons.2 ⟨⟨M,M,(gE (eInt .i64) M),(bN (eInt .i64))⟩,List.forall_mem_nil _⟩⟩⟩ (nF _ _ _ _ _ _ _ _ _ _ _ hx26) M M (List.forall_mem_cons.2 ⟨⟨M,(bV aB M M)⟩,List.forall_mem_cons.2 ⟨⟨M,(bN (eInt .i64))⟩,List.forall_mem_nil _⟩⟩) (by simp only [List.map_cons,List.map_nil,Ent.ren,bJ,bY,cB]; rfl))<|aC ?_)
   refine aD (aA M (aF M M (lb M) (sv (d:=.int _ 0) M))<|aC ?_)
   refine bB ?_
   obtain rfl:=sj_ h
   refine ⟨.inr M,(fun i=>if i=0 then 4 else i),⟨.nil,(.cons (EntW.mix aB M (SubC.of_eq M) (SubC.of_eq M) M M) (.cons (EntW.lst M) .nil)),bD [1000,4] M (by decide),(fun i hi=>by first | rfl | (show (if _ then _ else _)=_; (repeat' split) <;> omega))⟩,(.cons (sv M) .nil),M⟩

theorem iJ (a0:Int) (a1:Int) (a2:Int) (a3:Bool) (a4:Int) (a5:Int) (a6:(List aH)) (a7:Int) (a8:Int) (a9:(List aG)) (a10:Int) (a11:(List Int)) (r:(Int × Int × Int × (List aH) × Int × Int × (List aG) × Int × (List Int))) (h:fG a0 a1 a2 a3 a4 a5 a6 a7 a8 a9 a10 a11=some r):FnH prog 21 [.ref 1000 0,.int .i64 a0,.int .i64 a1,.int .i64 a2,.bool a3] [(1000,.blk 62 (mixD aB.toEnc0 (w26 a4 a5 a6 a7 a8) a9 [.int .i64 a10,.osl 1001 (eInt .i64).sz a11.length])),(1001,.blk 3 (D.flat (a11.map (eInt .i64).d)))] (.int .i64 r.1) [(1000,.blk 62 (mixD aB.toEnc0 (w26 r.2.1 r.2.2.1 r.2.2.2.1 r.2.2.2.2.1 r.2.2.2.2.2.1) r.2.2.2.2.2.2.1 [.int .i64 r.2.2.2.2.2.2.2.1,.osl 0 (eInt .i64).sz r.2.2.2.2.2.2.2.2.length])),(0,.blk 3 (D.flat (r.2.2.2.2.2.2.2.2.map (eInt .i64).d)))]:=by
 refine eX (rs:=[.int .i64 r.1]) func21 M ntmps21 (nle M) fun O hO=>?_
 show IWP _ _ _ _ ⟨[(0,.ref 1000 0),(1,.int .i64 a0),(2,.int .i64 a1),(3,.int .i64 a2),(4,.bool a3)],[(1000,.blk 62 (mixD aB.toEnc0 (w26 a4 a5 a6 a7 a8) a9 [.int .i64 a10,.osl 1001 (eInt .i64).sz a11.length])),(1001,.blk 3 (D.flat (a11.map (eInt .i64).d)))]⟩ _
 unfold fG at h
 refine aD (aA M (aF M M (lb M) (sv (d:=.int _ 0) M))<|aC ?_)
 refine aT ?_
 refine aD (aA M (mvR M M M M)<|aA M (oD M M (lb M) underlying26 (svR M) (sv (d:=.nilp) M))<|aC ?_)
 refine gH M M ?_
 refine aU ?_
 refine aO ?_
 refine aD (aA M (mvI M M M M)<|aA M (mvI M M M M)<|aA M (mvB M M M M)<|aA M (cP (cs:=q16) M M (lb M) underlying78 ti78 pl78 M (.cons (svI M) (.cons (svI M) (.cons (svB M) .nil))) M)<|aA M (dA (cs:=q16) (cs':=[.int .i64 0,.int .i64 0,.bool false]) 0 M M (lb M) M ti78 M M (.all _))<|aA M (stA q16 q16 ti78 M M M M M M M M (nle M) M)<|aC ?_)
 refine aT ?_
 obtain ⟨x1,hx1,h⟩:=aR h
 refine aD (aA M (lra q16 la78 M M M M M (nle M) M)<|aA M (mvI M M M M)<|aA M (bC (r:=.int _ _) M M (lb M) cl41 (.cons (svA q16 M) (.cons (svI M) .nil)) M (oH _ _ _ hx1))<|aA M (asI M M M M)<|aC ?_)
 obtain ⟨x2,hx2,h⟩:=aY h
 refine aD (aA M (mvI M M M M)<|aA M (aQ M M (lb M) (svI M) (sv (d:=.int _ 0) M) M hx2)<|aC ?_)
 refine aW (b:=_) M (fun hc3=>?_) (fun hc3=>?_)
 ·
  replace h:=cI h hc3
  refine aD (aA M (mvI M M M M)<|aA M (asI M M M M)<|aC ?_)
  refine bB ?_
  refine bH ?_
  obtain rfl:=sj_ h
  refine ⟨.inr M,(fun i=>if i=0 then 1001 else i),⟨.nil,(.cons (EntW.mix aB M (SubC.of_eq M) (SubC.of_eq M) M M) (.cons (EntW.lst M) .nil)),bD [1000,1001] M (by decide),(fun i hi=>by first | rfl | (show (if _ then _ else _)=_; (repeat' split) <;> omega))⟩,(.cons (sv M) .nil),M⟩
 ·
  replace h:=cJ h hc3
  refine aU ?_
  refine aO ?_
  refine aT ?_
  obtain ⟨x4,hx4,h⟩:=aR h
  obtain ⟨x5,hx5,h⟩:=aY h
  refine aD (aA M (mvR M M M M)<|aA M (mvI M M M M)<|aA M (eI (r':=.int .i64 x4) (V:=[(1000,.blk 62 (mixD aB.toEnc0 (w26 a4 a5 a6 a7 a8) a9 [.int .i64 a10,.osl 1001 (eInt .i64).sz a11.length])),(1001,.blk 3 (D.flat (a11.map (eInt .i64).d)))]) 1 [1000,1001] M M (lb M) cl35 (.cons (svR M) (.cons (svI M) .nil)) M M M ⟨by decide,M,List.forall_mem_cons.2 ⟨⟨M,M,(gT aB M M M),(bV aB M M)⟩,List.forall_mem_cons.2 ⟨⟨M,M,(gE (eInt .i64) M),(bN (eInt .i64))⟩,List.forall_mem_nil _⟩⟩⟩ (fW _ _ _ _ _ _ _ _ _ _ hx4) M M (List.forall_mem_cons.2 ⟨⟨M,(bV aB M M)⟩,List.forall_mem_cons.2 ⟨⟨M,(bN (eInt .i64))⟩,List.forall_mem_nil _⟩⟩) (by simp only [List.map_cons,List.map_nil,Ent.ren,bJ,bY,cB]; rfl) (List.forall_mem_cons.2 ⟨M,List.forall_mem_cons.2 ⟨M,List.forall_mem_nil _⟩⟩) M)<|aA M (aQ M M (lb M) (svI M) (sv (d:=.int _ (-1)) M) M hx5)<|aC ?_)
  refine aW (b:=_) M (fun hc6=>?_) (fun hc6=>?_)
  ·
   replace h:=cI h hc6
   refine aD (aA M (aF M M (lb M) (sv (d:=.int _ 13) M))<|aC ?_)
   refine bB ?_
   refine bH ?_
   obtain rfl:=sj_ h
   refine ⟨.inr M,(fun i=>if i=0 then 1001 else i),⟨.nil,(.cons (EntW.mix aB M (SubC.of_eq M) (SubC.of_eq M) M M) (.cons (EntW.lst M) .nil)),bD [1000,1001] M (by decide),(fun i hi=>by first | rfl | (show (if _ then _ else _)=_; (repeat' split) <;> omega))⟩,(.cons (sv M) .nil),M⟩
  ·
   replace h:=cJ h hc6
   refine aU ?_
   refine aO ?_
   obtain ⟨x7,hx7,h⟩:=aR h
   refine aD (aA M (mvR M M M M)<|aA M (mvI M M M M)<|aA M (lra q16 la78 M M M M M (nle M) M)<|aA M (cW (r':=.int .i64 x7.1) (H1':=[(1000,.blk 62 (mixD aB.toEnc0 (w26 x7.2.1 x7.2.2.1 x7.2.2.2.1 x7.2.2.2.2.1 x7.2.2.2.2.2.1) x7.2.2.2.2.2.2.1 [.int .i64 x7.2.2.2.2.2.2.2.1,.osl 1 (eInt .i64).sz x7.2.2.2.2.2.2.2.2.length])),(1,.blk 3 (D.flat (x7.2.2.2.2.2.2.2.2.map (eInt .i64).d)))]) 1 [1000,1001] M M (lb M) cl42 (.cons (svR M) (.cons (svI M) (.cons (svA q16 M) .nil))) M M ⟨M,M,by decide,M,List.forall_mem_cons.2 ⟨⟨M,M,(gT aB M M M),(bV aB M M)⟩,List.forall_mem_cons.2 ⟨⟨M,M,(gE (eInt .i64) M),(bN (eInt .i64))⟩,List.forall_mem_nil _⟩⟩⟩ (mW _ _ _ _ _ _ _ _ _ _ _ hx7) M M (List.forall_mem_cons.2 ⟨⟨M,(bV aB M M)⟩,List.forall_mem_cons.2 ⟨⟨M,(bN (eInt .i64))⟩,List.forall_mem_nil _⟩⟩) (by simp only [List.map_cons,List.map_nil,Ent.ren,bJ,bY,cB]; rfl))<|aA M (asI M M M M)<|aC ?_)
   refine bB ?_
   obtain rfl:=sj_ h
   refine ⟨.inr M,(fun i=>if i=0 then 1 else i),⟨.nil,(.cons (EntW.mix aB M (SubC.of_eq M) (SubC.of_eq M) M M) (.cons (EntW.lst M) .nil)),bD [1000,1] M (by decide),(fun i hi=>by first | rfl | (show (if _ then _ else _)=_; (repeat' split) <;> omega))⟩,(.cons (sv M) .nil),M⟩

theorem nX (a0:Int) (a1:Int) (a2:Int) (a3:Bool) (a4:Int) (a5:Int) (a6:(List aH)) (a7:Int) (a8:Int) (a9:(List aG)) (a10:Int) (a11:(List Int)) (r:(Int × Int × Int × (List aH) × Int × Int × (List aG) × Int × (List Int))) (h:jB a0 a1 a2 a3 a4 a5 a6 a7 a8 a9 a10 a11=some r):FnH prog 22 [.ref 1000 0,.int .i64 a0,.int .i64 a1,.int .i64 a2,.bool a3] [(1000,.blk 62 (mixD aB.toEnc0 (w26 a4 a5 a6 a7 a8) a9 [.int .i64 a10,.osl 1001 (eInt .i64).sz a11.length])),(1001,.blk 3 (D.flat (a11.map (eInt .i64).d)))] (.int .i64 r.1) [(1000,.blk 62 (mixD aB.toEnc0 (w26 r.2.1 r.2.2.1 r.2.2.2.1 r.2.2.2.2.1 r.2.2.2.2.2.1) r.2.2.2.2.2.2.1 [.int .i64 r.2.2.2.2.2.2.2.1,.osl 0 (eInt .i64).sz r.2.2.2.2.2.2.2.2.length])),(0,.blk 3 (D.flat (r.2.2.2.2.2.2.2.2.map (eInt .i64).d)))]:=by
 refine eX (rs:=[.int .i64 r.1]) func22 M ntmps22 (nle M) fun O hO=>?_
 show IWP _ _ _ _ ⟨[(0,.ref 1000 0),(1,.int .i64 a0),(2,.int .i64 a1),(3,.int .i64 a2),(4,.bool a3)],[(1000,.blk 62 (mixD aB.toEnc0 (w26 a4 a5 a6 a7 a8) a9 [.int .i64 a10,.osl 1001 (eInt .i64).sz a11.length])),(1001,.blk 3 (D.flat (a11.map (eInt .i64).d)))]⟩ _
 unfold jB at h
 refine aD (aA M (aF M M (lb M) (sv (d:=.int _ 0) M))<|aC ?_)
 refine aT ?_
 refine aD (aA M (mvR M M M M)<|aA M (oD M M (lb M) underlying26 (svR M) (sv (d:=.nilp) M))<|aC ?_)
 refine gH M M ?_
 refine aU ?_
 refine aO ?_
 refine aD (aA M (mvI M M M M)<|aA M (mvI M M M M)<|aA M (mvB M M M M)<|aA M (cP (cs:=q16) M M (lb M) underlying78 ti78 pl78 M (.cons (svI M) (.cons (svI M) (.cons (svB M) .nil))) M)<|aA M (dA (cs:=q16) (cs':=[.int .i64 0,.int .i64 0,.bool false]) 0 M M (lb M) M ti78 M M (.all _))<|aA M (stA q16 q16 ti78 M M M M M M M M (nle M) M)<|aC ?_)
 refine aT ?_
 obtain ⟨x1,hx1,h⟩:=aR h
 refine aD (aA M (lra q16 la78 M M M M M (nle M) M)<|aA M (mvI M M M M)<|aA M (bC (r:=.int _ _) M M (lb M) cl41 (.cons (svA q16 M) (.cons (svI M) .nil)) M (oH _ _ _ hx1))<|aA M (asI M M M M)<|aC ?_)
 obtain ⟨x2,hx2,h⟩:=aY h
 refine aD (aA M (mvI M M M M)<|aA M (aQ M M (lb M) (svI M) (sv (d:=.int _ 0) M) M hx2)<|aC ?_)
 refine aW (b:=_) M (fun hc3=>?_) (fun hc3=>?_)
 ·
  replace h:=cI h hc3
  refine aD (aA M (mvI M M M M)<|aA M (asI M M M M)<|aC ?_)
  refine bB ?_
  refine bH ?_
  obtain rfl:=sj_ h
  refine ⟨.inr M,(fun i=>if i=0 then 1001 else i),⟨.nil,(.cons (EntW.mix aB M (SubC.of_eq M) (SubC.of_eq M) M M) (.cons (EntW.lst M) .nil)),bD [1000,1001] M (by decide),(fun i hi=>by first | rfl | (show (if _ then _ else _)=_; (repeat' split) <;> omega))⟩,(.cons (sv M) .nil),M⟩
 ·
  replace h:=cJ h hc3
  refine aU ?_
  refine aO ?_
  obtain ⟨x4,hx4,h⟩:=aR h
  refine aD (aA M (mvR M M M M)<|aA M (mvI M M M M)<|aA M (eI (r':=.int .i64 x4) (V:=[(1000,.blk 62 (mixD aB.toEnc0 (w26 a4 a5 a6 a7 a8) a9 [.int .i64 a10,.osl 1001 (eInt .i64).sz a11.length])),(1001,.blk 3 (D.flat (a11.map (eInt .i64).d)))]) 1 [1000,1001] M M (lb M) cl35 (.cons (svR M) (.cons (svI M) .nil)) M M M ⟨by decide,M,List.forall_mem_cons.2 ⟨⟨M,M,(gT aB M M M),(bV aB M M)⟩,List.forall_mem_cons.2 ⟨⟨M,M,(gE (eInt .i64) M),(bN (eInt .i64))⟩,List.forall_mem_nil _⟩⟩⟩ (fW _ _ _ _ _ _ _ _ _ _ hx4) M M (List.forall_mem_cons.2 ⟨⟨M,(bV aB M M)⟩,List.forall_mem_cons.2 ⟨⟨M,(bN (eInt .i64))⟩,List.forall_mem_nil _⟩⟩) (by simp only [List.map_cons,List.map_nil,Ent.ren,bJ,bY,cB]; rfl) (List.forall_mem_cons.2 ⟨M,List.forall_mem_cons.2 ⟨M,List.forall_mem_nil _⟩⟩) M)<|aA M (asI M M M M)<|aC ?_)
  refine aT ?_
  obtain ⟨x5,hx5,h⟩:=aY h
  refine aD (aA M (mvI M M M M)<|aA M (aQ M M (lb M) (svI M) (sv (d:=.int _ (-1)) M) M hx5)<|aC ?_)
  refine aW (b:=_) M (fun hc6=>?_) (fun hc6=>?_)
  ·
   replace h:=cI h hc6
   obtain ⟨x7,hx7,h⟩:=aR h
   refine aD (aA M (mvR M M M M)<|aA M (mvI M M M M)<|aA M (lra q16 la78 M M M M M (nle M) M)<|aA M (cW (r':=.int .i64 x7.1) (H1':=[(1000,.blk 62 (mixD aB.toEnc0 (w26 x7.2.1 x7.2.2.1 x7.2.2.2.1 x7.2.2.2.2.1 x7.2.2.2.2.2.1) x7.2.2.2.2.2.2.1 [.int .i64 x7.2.2.2.2.2.2.2.1,.osl 1 (eInt .i64).sz x7.2.2.2.2.2.2.2.2.length])),(1,.blk 3 (D.flat (x7.2.2.2.2.2.2.2.2.map (eInt .i64).d)))]) 1 [1000,1001] M M (lb M) cl42 (.cons (svR M) (.cons (svI M) (.cons (svA q16 M) .nil))) M M ⟨M,M,by decide,M,List.forall_mem_cons.2 ⟨⟨M,M,(gT aB M M M),(bV aB M M)⟩,List.forall_mem_cons.2 ⟨⟨M,M,(gE (eInt .i64) M),(bN (eInt .i64))⟩,List.forall_mem_nil _⟩⟩⟩ (mW _ _ _ _ _ _ _ _ _ _ _ hx7) M M (List.forall_mem_cons.2 ⟨⟨M,(bV aB M M)⟩,List.forall_mem_cons.2 ⟨⟨M,(bN (eInt .i64))⟩,List.forall_mem_nil _⟩⟩) (by simp only [List.map_cons,List.map_nil,Ent.ren,bJ,bY,cB]; rfl))<|aA M (asI M M M M)<|aC ?_)
   refine bB ?_
   refine bH ?_
   obtain rfl:=sj_ h
   refine ⟨.inr M,(fun i=>if i=0 then 1 else i),⟨.nil,(.cons (EntW.mix aB M (SubC.of_eq M) (SubC.of_eq M) M M) (.cons (EntW.lst M) .nil)),bD [1000,1] M (by decide),(fun i hi=>by first | rfl | (show (if _ then _ else _)=_; (repeat' split) <;> omega))⟩,(.cons (sv M) .nil),M⟩
  ·
   replace h:=cJ h hc6
   refine aU ?_
   refine aO ?_
   obtain ⟨x8,hx8,h⟩:=aR h
   refine aD (aA M (mvR M M M M)<|aA M (mvI M M M M)<|aA M (lra q16 la78 M M M M M (nle M) M)<|aA M (cW (r':=.tuple []) (H1':=[(1000,.blk 62 (mixD aB.toEnc0 (w26 x8.1 x8.2.1 x8.2.2.1 x8.2.2.2.1 x8.2.2.2.2.1) x8.2.2.2.2.2.1 [.int .i64 x8.2.2.2.2.2.2.1,.osl 1 (eInt .i64).sz x8.2.2.2.2.2.2.2.length])),(1,.blk 3 (D.flat (x8.2.2.2.2.2.2.2.map (eInt .i64).d)))]) 1 [1000,1001] M M (lb M) cl43 (.cons (svR M) (.cons (svI M) (.cons (svA q16 M) .nil))) M M ⟨M,M,by decide,M,List.forall_mem_cons.2 ⟨⟨M,M,(gT aB M M M),(bV aB M M)⟩,List.forall_mem_cons.2 ⟨⟨M,M,(gE (eInt .i64) M),(bN (eInt .i64))⟩,List.forall_mem_nil _⟩⟩⟩ (nF _ _ _ _ _ _ _ _ _ _ _ hx8) M M (List.forall_mem_cons.2 ⟨⟨M,(bV aB M M)⟩,List.forall_mem_cons.2 ⟨⟨M,(bN (eInt .i64))⟩,List.forall_mem_nil _⟩⟩) (by simp only [List.map_cons,List.map_nil,Ent.ren,bJ,bY,cB]; rfl))<|aC ?_)
   refine aD (aA M (aF M M (lb M) (sv (d:=.int _ 0) M))<|aC ?_)
   refine bB ?_
   obtain rfl:=sj_ h
   refine ⟨.inr M,(fun i=>if i=0 then 1 else i),⟨.nil,(.cons (EntW.mix aB M (SubC.of_eq M) (SubC.of_eq M) M M) (.cons (EntW.lst M) .nil)),bD [1000,1] M (by decide),(fun i hi=>by first | rfl | (show (if _ then _ else _)=_; (repeat' split) <;> omega))⟩,(.cons (sv M) .nil),M⟩

theorem jC (a0:Int) (a1:Int) (a2:Int) (a3:(List aH)) (a4:Int) (a5:Int) (a6:(List aG)) (a7:Int) (a8:(List Int)) (r:Int) (h:eH a0 a1 a2 a3 a4 a5 a6 a7 a8=some r):FnH prog 32 [.ref 1000 0,.int .i64 a0] [(1000,.blk 62 (mixD aB.toEnc0 (w26 a1 a2 a3 a4 a5) a6 [.int .i64 a7,.osl 1001 (eInt .i64).sz a8.length])),(1001,.blk 3 (D.flat (a8.map (eInt .i64).d)))] (.int .i64 r) [(1000,.blk 62 (mixD aB.toEnc0 (w26 a1 a2 a3 a4 a5) a6 [.int .i64 a7,.osl 1001 (eInt .i64).sz a8.length])),(1001,.blk 3 (D.flat (a8.map (eInt .i64).d)))]:=by
 refine eX (rs:=[.int .i64 r]) func32 M ntmps32 (nle M) fun O hO=>?_
 show IWP _ _ _ _ ⟨[(0,.ref 1000 0),(1,.int .i64 a0)],[(1000,.blk 62 (mixD aB.toEnc0 (w26 a1 a2 a3 a4 a5) a6 [.int .i64 a7,.osl 1001 (eInt .i64).sz a8.length])),(1001,.blk 3 (D.flat (a8.map (eInt .i64).d)))]⟩ _
 unfold eH at h
 refine aD (aA M (aF M M (lb M) (sv (d:=.int _ 0) M))<|aC ?_)
 refine aT ?_
 obtain ⟨x1,hx1,h⟩:=aY h
 refine aD (aA M (mvI M M M M)<|aA M (aQ M M (lb M) (svI M) (sv (d:=.int _ (-1)) M) M hx1)<|aC ?_)
 refine aW (b:=_) M (fun hc2=>?_) (fun hc2=>?_)
 ·
  replace h:=cI h hc2
  refine aD (aA M (aF M M (lb M) (sv (d:=.int _ 0) M))<|aC ?_)
  refine bB ?_
  refine bH ?_
  obtain rfl:=sj_ h
  refine ⟨.inr M,(fun i=>i),⟨.nil,(.cons (EntW.mix aB M (SubC.of_eq M) (SubC.of_eq M) M M) (.cons (EntW.lst M) .nil)),bD [1000,1001] M (by decide),fun _ _=>M⟩,(.cons (sv M) .nil),M⟩
 ·
  replace h:=cJ h hc2
  refine aU ?_
  refine aO ?_
  obtain ⟨x3,hx3,h⟩:=aR h
  obtain ⟨hk4,h⟩:=lF h
  obtain ⟨x5,hx5,h⟩:=aR h
  refine aD (aA M (mvR M M M M)<|aA M (mvI M M M M)<|aA M (aK M M (lb M) (svR M))<|aA M (faR 5 M M M underlying62 M ti60 (lb M) M M)<|aA M (cT aB.toEnc0 M M (lb M) underlying60 ti59 (svR M) hk4 (svI M) hx3)<|aA M (bQ M M (lb M) underlying59 M ti3 (by decide) (svR M) (k':=0) M)<|aA M (bZ aB.toEnc0 (b:=5) (k:=0) (d:=.int _ _) M M (lb M) underlying3 ag3 ti3 (by decide) (svR M) M M hx5 (nle M) M)<|aA M (asI M M M M)<|aC ?_)
  refine bB ?_
  obtain rfl:=sj_ h
  refine ⟨.inr M,(fun i=>i),⟨.nil,(.cons (EntW.mix aB M (SubC.of_eq M) (SubC.of_eq M) M M) (.cons (EntW.lst M) .nil)),bD [1000,1001] M (by decide),fun _ _=>M⟩,(.cons (sv M) .nil),M⟩

theorem jO (a0:(List aN)) (r:(List aN)) (h:dI a0=some r):FnH prog 33 [.osl 1000 aM.sz a0.length,.fn 34 []] [(1000,.blk 65 (D.flat (a0.map aM.d)))] (retD []) [(1000,.blk 65 (D.flat (r.map aM.d)))]:=p_sortN a0 r h

theorem nG (a0:Int) (a1:Int) (a2:(List aH)) (a3:Int) (a4:Int) (a5:(List aG)) (a6:Int) (a7:(List Int)) (r:(List aN)) (h:iM a0 a1 a2 a3 a4 a5 a6 a7=some r):FnH prog 11 [.ref 1000 0] [(1000,.blk 62 (mixD aB.toEnc0 (w26 a0 a1 a2 a3 a4) a5 [.int .i64 a6,.osl 1001 (eInt .i64).sz a7.length])),(1001,.blk 3 (D.flat (a7.map (eInt .i64).d)))] (.slice false (r.map aM.d)) [(1000,.blk 62 (mixD aB.toEnc0 (w26 a0 a1 a2 a3 a4) a5 [.int .i64 a6,.osl 1001 (eInt .i64).sz a7.length])),(1001,.blk 3 (D.flat (a7.map (eInt .i64).d)))]:=by
 refine eX (rs:=[.slice false (r.map aM.d)]) func11 M ntmps11 (nle M) fun O hO=>?_
 show IWP _ _ _ _ ⟨[(0,.ref 1000 0)],[(1000,.blk 62 (mixD aB.toEnc0 (w26 a0 a1 a2 a3 a4) a5 [.int .i64 a6,.osl 1001 (eInt .i64).sz a7.length])),(1001,.blk 3 (D.flat (a7.map (eInt .i64).d)))]⟩ _
 unfold iM at h
 refine aD (aA M (aF M M (lb M) (sv (d:=.nils) M))<|aC ?_)
 refine aT ?_
 refine aD (aA M (mvR M M M M)<|aA M (oD M M (lb M) underlying26 (svR M) (sv (d:=.nilp) M))<|aC ?_)
 refine gH M M ?_
 refine aU ?_
 refine aO ?_
 refine aD (aA M (aF M M (lb M) (sv (d:=.nils) M))<|aC ?_)
 refine aT ?_
 obtain ⟨x1,hx1,h⟩:=aR h
 refine aD (aA M (mvR M M M M)<|aA M (aK M M (lb M) (svR M))<|aA M (faR 2 M M M underlying62 M ti56 (lb M) M M)<|aA M (oC aB.toEnc0 (cs:=q14) M M (lb M) underlying56 ag56 ti56 (by decide) (svR M) M (nle M) (by rfl))<|aA M (bC (r:=.slice _ _) M M (lb M) cl31 (.cons (svA q14 M) .nil) M (sE _ _ hx1))<|aA M (dE (eInt .i64) (l:=x1) M M (lb M) underlying24 (svL M))<|aA M (aP M M (lb M) (sv (d:=.int _ 0) M))<|aC ?_)
 refine bA ?_
 refine cQ (α:=Nat × (List aN) × Int) (fun z=>⟨[(0,.ref 1000 0),(3,.osl 21 aM.sz z.2.1.length),(13,.slice false (x1.map (eInt .i64).d)),(14,.int .i64 (x1.length:Int)),(15,.int .i64 z.2.2)],[(1000,.blk 62 (mixD aB.toEnc0 (w26 a0 a1 a2 a3 a4) a5 [.int .i64 a6,.osl 1001 (eInt .i64).sz a7.length])),(21,.blk 65 (D.flat (z.2.1.map aM.d))),(1001,.blk 3 (D.flat (a7.map (eInt .i64).d)))]⟩) (fun z=>fD a0 a1 a2 a3 a4 a5 a6 a7 x1 z.1 z.2.1 z.2.2=some r) (fun z=>z.1) (fuel,([]:(List aN)),0) (fun i=>if i=21 then 71 else i) ⟨(.s M M (.cons (.nilo M) (.sames M M))),(.cons (EntW.mix aB M (SubC.of_eq M) (SubC.of_eq M) M M) (.cons (.nilb M) (.cons (EntW.lst M) .nil))),bD [1000,71,1001] M (by decide),(fun i hi=>by first | rfl | (show (if _ then _ else _)=_; (repeat' split) <;> omega))⟩ ?_ ?_
 ·exact h
 ·
  rintro ⟨n0,v11,v12⟩ h
  cases n0 with
  | zero=>exact absurd h (by unfold fD; exact nofun)
  | succ n0 =>
   unfold fD at h
   obtain ⟨x22,hx22,h⟩:=aY h
   refine aD (aA M (aQ M M (lb M) (svI M) (svI M) M hx22)<|aC ?_)
   refine aT ?_
   refine aW (b:=_) M (fun hc23=>?_) (fun hc23=>?_)
   ·
    replace h:=cI h hc23
    refine aU ?_
    refine aO ?_
    refine aT ?_
    refine bA ?_
    obtain ⟨x24,hx24,h⟩:=aR h
    refine aD (aA M (cM (eInt .i64) (cs:=[.int _ _]) M M (lb M) underlying24 ti3 (svL M) (svI M) hx24 M M)<|aA M (cG M M (lb M) underlying3 ag3 ti3 (by decide) (sv (d:=.fptr [.int _ _]) M) (nle M))<|aA M (asI M M M M)<|aC ?_)
    obtain ⟨x25,hx25,h⟩:=aR h
    obtain ⟨hk26,h⟩:=lF h
    obtain ⟨x27,hx27,h⟩:=aR h
    refine aD (aA M (mvR M M M M)<|aA M (mvI M M M M)<|aA M (aK M M (lb M) (svR M))<|aA M (faR 5 M M M underlying62 M ti60 (lb M) M M)<|aA M (cT aB.toEnc0 M M (lb M) underlying60 ti59 (svR M) hk26 (svI M) hx25)<|aA M (yQ aB.toEnc0 (b:=5) (k:=0) (cs:=q7) M M (lb M) underlying59 ag59 ti59 (by decide) (svR M) M M hx27 (nle M) M)<|aA M (dA (cs:=q7) (cs':=[.int .i64 0,.int .i64 0,.int .i64 0,.int .i64 0,.int .i64 0,.bool false]) 22 M M (lb M) M ti59 M M (.all _))<|aA M (stA q7 q7 ti59 M M M M M M M M (nle M) M)<|aC ?_)
    obtain ⟨x28,hx28,h⟩:=aR h
    obtain ⟨x29,hx29,h⟩:=aR h
    refine jM M [⟨[3],[],[(25,.osl 21 aM.sz v11.length)],[]⟩,
     ⟨[6],[],[(26,.ref 22 0)],[]⟩,
     ⟨[26],[22],[(27,.int .i64 x27.id)],[]⟩,
     ⟨[0],[],[(28,.ref 1000 0)],[]⟩,
     ⟨[6],[],[(29,.ref 22 1)],[]⟩,
     ⟨[29],[22],[(30,.int .i64 x27.up)],[]⟩,
     ⟨[28,30],[1000,1001],[(31,.int .i64 x28)],[]⟩,
     ⟨[6],[],[(32,.ref 22 4)],[]⟩,
     ⟨[32],[22],[(33,.int .i64 x27.weight)],[]⟩,
     ⟨[6],[],[(34,.ref 22 5)],[]⟩,
     ⟨[34],[22],[(35,.bool x27.closed)],[]⟩,
     ⟨[27,31,33,35],[],[(36,.agg (w27 x27.id x28 x27.weight x27.closed))],[]⟩,
     ⟨[36],[23],[(37,.osl 23 aM.sz (([(⟨x27.id,x28,x27.weight,x27.closed⟩:aN)]:(List aN)).length))],[(23,.blk 65 (D.flat ((([(⟨x27.id,x28,x27.weight,x27.closed⟩:aN)]:(List aN))).map aM.d)))]⟩,
     ⟨[25,37],[21,23,24],[(38,.osl 24 aM.sz x29.length)],[(24,.blk 65 (D.flat (x29.map aM.d))),(21,.none)]⟩,
     ⟨[38],[],[(3,.osl 24 aM.sz x29.length)],[]⟩] M ?_ (by kernel_rfl) ?_
    ·refine .cons (lop M M fun S hA=>(aP M M (lb M) (sv (d:=.osl _ _ _) (agr hA M M)))) ?_
     refine .cons (lop M M fun S hA=>(aS M M (lb M) underlying59 M ti3 (by decide) (svaR hA M M) (off':=0) M)) ?_
     refine .cons (lop M M fun S hA=>(aI (d:=.int _ _) M M (lb M) underlying3 ag3 ti3 (by decide) (svaR hA M M) (agi hA M M) (nle M) M)) ?_
     refine .cons (lop M M fun S hA=>(aP M M (lb M) (svaR hA M M))) ?_
     refine .cons (lop M M fun S hA=>(aS M M (lb M) underlying59 M ti3 (by decide) (svaR hA M M) (off':=1) M)) ?_
     refine .cons (lop M M fun S hA=>(aI (d:=.int _ _) M M (lb M) underlying3 ag3 ti3 (by decide) (svaR hA M M) (agi hA M M) (nle M) M)) ?_
     refine .cons (lop M M fun S hA=>(eI (r':=.int .i64 x28) (V:=[(1000,.blk 62 (mixD aB.toEnc0 (w26 a0 a1 a2 a3 a4) a5 [.int .i64 a6,.osl 1001 (eInt .i64).sz a7.length])),(1001,.blk 3 (D.flat (a7.map (eInt .i64).d)))]) 23 [1000,1001] M M (lb M) cl32 (.cons (svaR hA M M) (.cons (svaI hA M M) .nil)) M M M ⟨by decide,M,List.forall_mem_cons.2 ⟨⟨M,M,(gT aB (agi hA M M) M M),(bV aB M M)⟩,List.forall_mem_cons.2 ⟨⟨M,M,(gE (eInt .i64) (agi hA M M)),(bN (eInt .i64))⟩,List.forall_mem_nil _⟩⟩⟩ (jC _ _ _ _ _ _ _ _ _ _ hx28) M M (List.forall_mem_cons.2 ⟨⟨M,(bV aB M M)⟩,List.forall_mem_cons.2 ⟨⟨M,(bN (eInt .i64))⟩,List.forall_mem_nil _⟩⟩) (by simp only [List.map_cons,List.map_nil,Ent.ren,bJ,bY,cB]; rfl) (List.forall_mem_cons.2 ⟨(agi hA M M),List.forall_mem_cons.2 ⟨(agi hA M M),List.forall_mem_nil _⟩⟩) M)) ?_
     refine .cons (lop M M fun S hA=>(aS M M (lb M) underlying59 M ti3 (by decide) (svaR hA M M) (off':=4) M)) ?_
     refine .cons (lop M M fun S hA=>(aI (d:=.int _ _) M M (lb M) underlying3 ag3 ti3 (by decide) (svaR hA M M) (agi hA M M) (nle M) M)) ?_
     refine .cons (lop M M fun S hA=>(aS M M (lb M) underlying59 M ti4 (by decide) (svaR hA M M) (off':=5) M)) ?_
     refine .cons (lop M M fun S hA=>(aI (d:=.bool _) M M (lb M) underlying4 ag4 ti4 (by decide) (svaR hA M M) (agi hA M M) (nle M) M)) ?_
     refine .cons (lop M M fun S hA=>(cP (cs:=q12) M M (lb M) underlying65 ti65 pl65 M (.cons (svaI hA M M) (.cons (svaI hA M M) (.cons (svaI hA M M) (.cons (svaB hA M M) .nil)))) M)) ?_
     refine .cons (lop M M fun S hA=>(lS aM.toEnc0 ([(⟨x27.id,x28,x27.weight,x27.closed⟩:aN)]:(List aN)) 23 M M (lb M) underlying41 ti65 (agi hA M M) (.cons (svaA q12 hA M M) .nil) M M (by decide))) ?_
     refine .cons (lop M M fun S hA=>(kJ aM.toEnc0 24 M M (lb M) underlying41 ti65 M (agr hA M M) M (agi hA M M) (agi hA M M) (qV aM.toEnc0 (agr hA M M) M (agi hA M M)) hx29)) ?_
     refine .cons (lop M M fun S hA=>(aF M M (lb M) (sv (d:=.osl _ _ _) (agr hA M M)))) ?_
     exact .nil
    refine bL ?_
    refine aO ?_
    obtain ⟨x30,hx30,h⟩:=aY h
    refine aX (aA M (cK M M (lb M) (svI M) (sv (d:=.int _ 1) M) M hx30)<|aA M (mvI M M M M)<|bK ?_)
    refine aO ⟨(n0,x29,x30),(fun i=>if i=21 then 24 else i),⟨(.sames M M),(.cons (EntW.mix aB M (SubC.of_eq M) (SubC.of_eq M) M M) (.cons (EntW.lst M) (.cons (EntW.lst M) .nil))),bD [1000,24,1001] M (by decide),(fun i hi=>by first | rfl | (show (if _ then _ else _)=_; (repeat' split) <;> omega))⟩,?_,?_⟩
    exact h
    exact Nat.lt_succ_self _
   ·
    replace h:=cJ h hc23
    refine cX ?_
    refine bR ?_
    refine bR ?_
    refine cZ ?_
    refine aO ?_
    obtain ⟨x31,hx31,h⟩:=aR h
    obtain ⟨hk32,h⟩:=lF h
    refine aD (aA M (aP M M (lb M) (sv (d:=.osl _ _ _) M))<|aA M (cW (r':=.tuple []) (H1':=[(21,.blk 65 (D.flat (x31.map aM.d)))]) 22 [21] M M (lb M) cl33 (.cons (sv (d:=.osl _ _ _) M) (.cons (sv (d:=.fn 34 []) M) .nil)) M M ⟨M,M,by decide,M,List.forall_mem_cons.2 ⟨⟨M,M,(gE aM M),(bN aM)⟩,List.forall_mem_nil _⟩⟩ (jO _ _ hx31) M M (List.forall_mem_cons.2 ⟨⟨M,(bN aM)⟩,List.forall_mem_nil _⟩) (by simp only [List.map_cons,List.map_nil,Ent.ren,bJ,bY]; rfl))<|aC ?_)
    refine aD (aA M (aP M M (lb M) (sv (d:=.osl _ _ _) M))<|aA M (aF M M (lb M) (sv (d:=.osl _ _ _) M))<|aC ?_)
    refine oZ 2 (id:=21) (l:=x31.map aM.d) ⟨_,M⟩ M M (by rw [List.length_map]; exact hk32) (aM.toEnc0.len _) aM.pos (aM.noRef _) ?_
    refine bB ?_
    obtain rfl:=sj_ h
    refine ⟨.inr M,(fun i=>i),⟨.nil,(.cons (EntW.mix aB M (SubC.of_eq M) (SubC.of_eq M) M M) (.cons (EntW.lst M) .nil)),bD [1000,1001] M (by decide),fun _ _=>M⟩,(.cons (sv M) .nil),M⟩

theorem lQ (a0:(List aN)) (r:(List aN)) (h:iY a0=some r):eJ prog 10 [.slice false (a0.map aM.d)] (.slice false (r.map aM.d)):=by
 refine bS (rs:=[.slice false (r.map aM.d)]) func10 M ntmps10 (nle M) M fun O hO=>?_
 show IWP _ _ _ _ ⟨[(0,.slice false (a0.map aM.d))],[]⟩ _
 unfold iY at h
 refine aD (aA M (aF M M (lb M) (sv (d:=.nils) M))<|aC ?_)
 refine aD (aA M (aF M M (lb M) (sv (d:=.nils) M))<|aC ?_)
 refine aT ?_
 refine aD (aA M (aF M M (lb M) (sv (d:=.int _ 0) M))<|aC ?_)
 refine bA ?_
 refine cQ (α:=Nat × (List aN) × Int) (fun z=>⟨[(0,.slice false (a0.map aM.d)),(3,.gsl 21 aM.sz (z.2.1.map aM.d)),(4,.int .i64 z.2.2)],[(21,.tail 52 aM.sz z.2.1.length)]⟩) (fun z=>fJ a0 z.1 z.2.1 z.2.2=some r) (fun z=>z.1) (fuel,([]:(List aN)),0) (fun i=>if i=21 then 71 else i) ⟨(.s M M (.cons (.nils M) (.sames M M))),(.cons (.nils M) .nil),bD [71] M (by decide),(fun i hi=>by first | rfl | (show (if _ then _ else _)=_; (repeat' split) <;> omega))⟩ ?_ ?_
 ·exact h
 ·
  rintro ⟨n0,v6,v7⟩ h
  cases n0 with
  | zero=>exact absurd h (by unfold fJ; exact nofun)
  | succ n0 =>
   unfold fJ at h
   refine aT ?_
   obtain ⟨x13,hx13,h⟩:=aY h
   refine aD (aA M (mvI M M M M)<|aA M (mvL M M M M)<|aA M (dE aM (l:=a0) M M (lb M) underlying41 (svL M))<|aA M (aQ M M (lb M) (svI M) (svI M) M hx13)<|aC ?_)
   refine aW (b:=_) M (fun hc14=>?_) (fun hc14=>?_)
   ·
    replace h:=cI h hc14
    refine aU ?_
    refine aO ?_
    refine aT ?_
    refine bA ?_
    obtain ⟨x15,hx15,h⟩:=aR h
    obtain ⟨x16,hx16,h⟩:=aR h
    refine aX (aA M (aP M M (lb M) (sv (d:=.gsl _ _ _) M))<|aA M (mvL M M M M)<|aA M (mvI M M M M)<|aA M (cM aM (cs:=q12) M M (lb M) underlying41 ti65 (svL M) (svI M) hx15 M M)<|aA M (fR (cs:=q12) M M (lb M) underlying65 ag65 ti65 (by decide) (sv (d:=.fptr q12) M) (nle M) M)<|aA M (oO aM ([x15]:(List aN)) 22 M M (lb M) underlying30 ti52 M (.cons (svA q12 M) .nil) M M (by decide))<|aA M (nL aM 23 M M (lb M) underlying30 ti52 M M M M (svg M) hx16)<|aA M (aF M M (lb M) (sv (d:=.gsl _ _ _) M))<|bK ?_)
    refine bL ?_
    refine aO ?_
    obtain ⟨x17,hx17,h⟩:=aY h
    refine aX (aA M (mvI M M M M)<|aA M (cK M M (lb M) (svI M) (sv (d:=.int _ 1) M) M hx17)<|aA M (asI M M M M)<|bK ?_)
    refine aO ⟨(n0,x16,x17),(fun i=>if i=21 then 23 else i),⟨(.sames M M),(.cons (.tail M) .nil),bD [23] M (by decide),(fun i hi=>by first | rfl | (show (if _ then _ else _)=_; (repeat' split) <;> omega))⟩,?_,?_⟩
    exact h
    exact Nat.lt_succ_self _
   ·
    replace h:=cJ h hc14
    refine cX ?_
    refine bR ?_
    refine bR ?_
    refine cZ ?_
    refine aO ?_
    refine aD (aA M (aP M M (lb M) (sv (d:=.gsl _ _ _) M))<|aA M (aF M M (lb M) (sv (d:=.gsl _ _ _) M))<|aC ?_)
    refine bB ?_
    obtain rfl:=sj_ h
    refine ⟨.inr M,(.cons (wQ M M) .nil)⟩

theorem nW (a0:Int) (a1:Int) (a2:Int) (a3:(List aH)) (a4:Int) (a5:Int) (a6:(List aG)) (a7:Int) (a8:(List Int)) (r:(List Int)) (h:jA a0 a1 a2 a3 a4 a5 a6 a7 a8=some r):FnH prog 17 [.ref 1000 0,.int .i64 a0] [(1000,.blk 62 (mixD aB.toEnc0 (w26 a1 a2 a3 a4 a5) a6 [.int .i64 a7,.osl 1001 (eInt .i64).sz a8.length])),(1001,.blk 3 (D.flat (a8.map (eInt .i64).d)))] (.slice false (r.map (eInt .i64).d)) [(1000,.blk 62 (mixD aB.toEnc0 (w26 a1 a2 a3 a4 a5) a6 [.int .i64 a7,.osl 1001 (eInt .i64).sz a8.length])),(1001,.blk 3 (D.flat (a8.map (eInt .i64).d)))]:=by
 refine eX (rs:=[.slice false (r.map (eInt .i64).d)]) func17 M ntmps17 (nle M) fun O hO=>?_
 show IWP _ _ _ _ ⟨[(0,.ref 1000 0),(1,.int .i64 a0)],[(1000,.blk 62 (mixD aB.toEnc0 (w26 a1 a2 a3 a4 a5) a6 [.int .i64 a7,.osl 1001 (eInt .i64).sz a8.length])),(1001,.blk 3 (D.flat (a8.map (eInt .i64).d)))]⟩ _
 unfold jA at h
 refine aD (aA M (aF M M (lb M) (sv (d:=.nils) M))<|aC ?_)
 refine aT ?_
 refine aD (aA M (mvR M M M M)<|aA M (oD M M (lb M) underlying26 (svR M) (sv (d:=.nilp) M))<|aC ?_)
 refine gH M M ?_
 refine aU ?_
 refine aO ?_
 refine aD (aA M (aF M M (lb M) (sv (d:=.nils) M))<|aC ?_)
 obtain ⟨x1,hx1,h⟩:=aR h
 refine aD (aA M (mvR M M M M)<|aA M (mvI M M M M)<|aA M (eI (r':=.int .i64 x1) (V:=[(1000,.blk 62 (mixD aB.toEnc0 (w26 a1 a2 a3 a4 a5) a6 [.int .i64 a7,.osl 1001 (eInt .i64).sz a8.length])),(1001,.blk 3 (D.flat (a8.map (eInt .i64).d)))]) 0 [1000,1001] M M (lb M) cl35 (.cons (svR M) (.cons (svI M) .nil)) M M M ⟨by decide,M,List.forall_mem_cons.2 ⟨⟨M,M,(gT aB M M M),(bV aB M M)⟩,List.forall_mem_cons.2 ⟨⟨M,M,(gE (eInt .i64) M),(bN (eInt .i64))⟩,List.forall_mem_nil _⟩⟩⟩ (fW _ _ _ _ _ _ _ _ _ _ hx1) M M (List.forall_mem_cons.2 ⟨⟨M,(bV aB M M)⟩,List.forall_mem_cons.2 ⟨⟨M,(bN (eInt .i64))⟩,List.forall_mem_nil _⟩⟩) (by simp only [List.map_cons,List.map_nil,Ent.ren,bJ,bY,cB]; rfl) (List.forall_mem_cons.2 ⟨M,List.forall_mem_cons.2 ⟨M,List.forall_mem_nil _⟩⟩) M)<|aA M (asI M M M M)<|aC ?_)
 refine aT ?_
 refine bA ?_
 refine cQ (α:=Nat × (List Int) × Int) (fun z=>⟨[(0,.ref 1000 0),(5,.osl 21 (eInt .i64).sz z.2.1.length),(6,.int .i64 z.2.2)],[(1000,.blk 62 (mixD aB.toEnc0 (w26 a1 a2 a3 a4 a5) a6 [.int .i64 a7,.osl 1001 (eInt .i64).sz a8.length])),(21,.blk 3 (D.flat (z.2.1.map (eInt .i64).d))),(1001,.blk 3 (D.flat (a8.map (eInt .i64).d)))]⟩) (fun z=>fL a1 a2 a3 a4 a5 a6 a7 a8 z.1 z.2.1 z.2.2=some r) (fun z=>z.1) (fuel,([]:(List Int)),x1) (fun i=>if i=21 then 71 else i) ⟨(.s M M (.cons (.nilo M) (.sames M M))),(.cons (EntW.mix aB M (SubC.of_eq M) (SubC.of_eq M) M M) (.cons (.nilb M) (.cons (EntW.lst M) .nil))),bD [1000,71,1001] M (by decide),(fun i hi=>by first | rfl | (show (if _ then _ else _)=_; (repeat' split) <;> omega))⟩ ?_ ?_
 ·exact h
 ·
  rintro ⟨n0,v14,v15⟩ h
  cases n0 with
  | zero=>exact absurd h (by unfold fL; exact nofun)
  | succ n0 =>
   unfold fL at h
   refine aT ?_
   obtain ⟨x28,hx28,h⟩:=aY h
   obtain ⟨x29,hx29,h⟩:=aR h
   obtain ⟨hk30,h⟩:=lF h
   obtain ⟨x31,hx31,h⟩:=aR h
   obtain ⟨x32,hx32,h⟩:=aY h
   obtain ⟨x33,hx33,h⟩:=aY h
   refine aD (aA M (mvI M M M M)<|aA M (aQ M M (lb M) (svI M) (sv (d:=.int _ (-1)) M) M hx28)<|aA M (mvB M M M M)<|aJ M M (.one M) M (by decide) (fun hb=>(mvR M M M M))<|aJ M M (.one M) M (by decide) (fun hb=>(mvI M M M M))<|aJ M M (.one M) M (by decide) (fun hb=>(aK M M (lb M) (svcR M hb)))<|aJ M M (.one M) M (by decide) (fun hb=>(aS M M (lb M) underlying62 M ti60 (by decide) (svcR M hb) (off':=5) M))<|aJ M M (.one M) M (by decide) (fun hb=>(cT aB.toEnc0 M M (lb M) underlying60 ti59 (svcR M hb) (hk30 hb) (svcI M hb) (gd_t hx29 hb)))<|aJ M M (.one M) M (by decide) (fun hb=>(bQ M M (lb M) underlying59 M ti3 (by decide) (svcR M hb) (k':=1) M))<|aJ M M (.one M) M (by decide) (fun hb=>(bZ aB.toEnc0 (b:=5) (k:=1) (d:=.int _ _) M M (lb M) underlying3 ag3 ti3 (by decide) (svcR M hb) M M (gd_t hx31 hb) (nle M) M))<|aJ M M (.one M) M (by decide) (fun hb=>(aQ M M (lb M) (svcI M hb) (sv (d:=.int _ (-1)) M) M hx32))<|aA M (cU M M (lb M) (svB M) M M hx33)<|aC ?_)
   refine aW (b:=_) M (fun hc34=>?_) (fun hc34=>?_)
   ·
    replace h:=cI h hc34
    refine aU ?_
    refine aO ?_
    refine bA ?_
    obtain ⟨x35,hx35,h⟩:=aR h
    obtain ⟨hk36,h⟩:=lF h
    obtain ⟨x37,hx37,h⟩:=aR h
    refine aD (aA M (mvR M M M M)<|aA M (mvI M M M M)<|aA M (aK M M (lb M) (svR M))<|aA M (faR 5 M M M underlying62 M ti60 (lb M) M M)<|aA M (cT aB.toEnc0 M M (lb M) underlying60 ti59 (svR M) hk36 (svI M) hx35)<|aA M (bQ M M (lb M) underlying59 M ti3 (by decide) (svR M) (k':=1) M)<|aA M (bZ aB.toEnc0 (b:=5) (k:=1) (d:=.int _ _) M M (lb M) underlying3 ag3 ti3 (by decide) (svR M) M M hx37 (nle M) M)<|aA M (asI M M M M)<|aC ?_)
    obtain ⟨x38,hx38,h⟩:=aR h
    obtain ⟨x39,hx39,h⟩:=aR h
    refine aX (aA M (aP M M (lb M) (sv (d:=.osl _ _ _) M))<|aA M (mvR M M M M)<|aA M (mvI M M M M)<|aA M (eI (r':=.int .i64 x38) (V:=[(1000,.blk 62 (mixD aB.toEnc0 (w26 a1 a2 a3 a4 a5) a6 [.int .i64 a7,.osl 1001 (eInt .i64).sz a8.length])),(1001,.blk 3 (D.flat (a8.map (eInt .i64).d)))]) 22 [1000,1001] M M (lb M) cl32 (.cons (svR M) (.cons (svI M) .nil)) M M M ⟨by decide,M,List.forall_mem_cons.2 ⟨⟨M,M,(gT aB M M M),(bV aB M M)⟩,List.forall_mem_cons.2 ⟨⟨M,M,(gE (eInt .i64) M),(bN (eInt .i64))⟩,List.forall_mem_nil _⟩⟩⟩ (jC _ _ _ _ _ _ _ _ _ _ hx38) M M (List.forall_mem_cons.2 ⟨⟨M,(bV aB M M)⟩,List.forall_mem_cons.2 ⟨⟨M,(bN (eInt .i64))⟩,List.forall_mem_nil _⟩⟩) (by simp only [List.map_cons,List.map_nil,Ent.ren,bJ,bY,cB]; rfl) (List.forall_mem_cons.2 ⟨M,List.forall_mem_cons.2 ⟨M,List.forall_mem_nil _⟩⟩) M)<|aA M (lS (eInt .i64).toEnc0 ([x38]:(List Int)) 22 M M (lb M) underlying24 ti3 M (.cons (svI M) .nil) M M (by decide))<|aA M (kJ (eInt .i64).toEnc0 23 M M (lb M) underlying24 ti3 M M M M M (qV (eInt .i64).toEnc0 M M M) hx39)<|aA M (aF M M (lb M) (sv (d:=.osl _ _ _) M))<|bK ?_)
    refine bL ?_
    refine aO ⟨(n0,x39,x37.up),(fun i=>if i=21 then 23 else i),⟨(.sames M M),(.cons (EntW.mix aB M (SubC.of_eq M) (SubC.of_eq M) M M) (.cons (EntW.lst M) (.cons (EntW.lst M) .nil))),bD [1000,23,1001] M (by decide),(fun i hi=>by first | rfl | (show (if _ then _ else _)=_; (repeat' split) <;> omega))⟩,?_,?_⟩
    exact h
    exact Nat.lt_succ_self _
   ·
    replace h:=cJ h hc34
    refine cX ?_
    refine bR ?_
    refine bR ?_
    refine cZ ?_
    refine aO ?_
    refine aD (aA M (aP M M (lb M) (sv (d:=.osl _ _ _) M))<|aA M (aF M M (lb M) (sv (d:=.osl _ _ _) M))<|aC ?_)
    refine oZ 4 (id:=21) (l:=v14.map (eInt .i64).d) ⟨_,M⟩ M M (List.length_map ..) ((eInt .i64).toEnc0.len _) (eInt .i64).pos ((eInt .i64).noRef _) ?_
    refine bB ?_
    obtain rfl:=sj_ h
    refine ⟨.inr M,(fun i=>i),⟨.nil,(.cons (EntW.mix aB M (SubC.of_eq M) (SubC.of_eq M) M M) (.cons (EntW.lst M) .nil)),bD [1000,1001] M (by decide),fun _ _=>M⟩,(.cons (sv M) .nil),M⟩

theorem lL (a0:(List Int)) (r:(List Int)) (h:fZ a0=some r):FnH prog 36 [.osl 1000 (eInt .i64).sz a0.length] [(1000,.blk 3 (D.flat (a0.map (eInt .i64).d)))] (retD []) [(1000,.blk 3 (D.flat (r.map (eInt .i64).d)))]:=p_sortI a0 r h

theorem lJ (a0:(List Int)) (a1:Int) (a2:Int) (a3:(List aH)) (a4:Int) (a5:Int) (a6:(List aG)) (a7:Int) (a8:(List Int)) (r:(List Int)) (h:gG a0 a1 a2 a3 a4 a5 a6 a7 a8=some r):FnH prog 15 [.ref 1000 0,.slice false (a0.map (eInt .i64).d)] [(1000,.blk 62 (mixD aB.toEnc0 (w26 a1 a2 a3 a4 a5) a6 [.int .i64 a7,.osl 1001 (eInt .i64).sz a8.length])),(1001,.blk 3 (D.flat (a8.map (eInt .i64).d)))] (.slice false (r.map (eInt .i64).d)) [(1000,.blk 62 (mixD aB.toEnc0 (w26 a1 a2 a3 a4 a5) a6 [.int .i64 a7,.osl 1001 (eInt .i64).sz a8.length])),(1001,.blk 3 (D.flat (a8.map (eInt .i64).d)))]:=by
 refine eX (rs:=[.slice false (r.map (eInt .i64).d)]) func15 M ntmps15 (nle M) fun O hO=>?_
 show IWP _ _ _ _ ⟨[(0,.ref 1000 0),(1,.slice false (a0.map (eInt .i64).d))],[(1000,.blk 62 (mixD aB.toEnc0 (w26 a1 a2 a3 a4 a5) a6 [.int .i64 a7,.osl 1001 (eInt .i64).sz a8.length])),(1001,.blk 3 (D.flat (a8.map (eInt .i64).d)))]⟩ _
 unfold gG at h
 refine aD (aA M (aF M M (lb M) (sv (d:=.nils) M))<|aC ?_)
 refine aT ?_
 refine aD (aA M (mvR M M M M)<|aA M (oD M M (lb M) underlying26 (svR M) (sv (d:=.nilp) M))<|aC ?_)
 refine gH M M ?_
 refine aU ?_
 refine aO ?_
 obtain ⟨x1,hx1,h⟩:=aY h
 refine aD (aA M (iop_eqE hx1 (yT pL.toEnc0 (n:=64) (a:=false) 0 M M (lb M) M ti70 M M))<|aC ?_)
 refine aT ?_
 refine aD (aA M (mvL M M M M)<|aA M (dE (eInt .i64) (l:=a0) M M (lb M) underlying24 (svL M))<|aA M (aP M M (lb M) (sv (d:=.int _ 0) M))<|aC ?_)
 refine bA ?_
 refine cQ (α:=Nat × Int × (List Bool)) (fun z=>⟨[(0,.ref 1000 0),(5,.ref 0 0),(15,.slice false (a0.map (eInt .i64).d)),(16,.int .i64 (a0.length:Int)),(17,.int .i64 z.2.1)],[(1000,.blk 62 (mixD aB.toEnc0 (w26 a1 a2 a3 a4 a5) a6 [.int .i64 a7,.osl 1001 (eInt .i64).sz a8.length])),(0,.blk 70 (D.flat (z.2.2.map pL.d))),(1001,.blk 3 (D.flat (a8.map (eInt .i64).d)))]⟩) (fun z=>eR a0 a1 a2 a3 a4 a5 a6 a7 a8 z.1 z.2.1 z.2.2=some r) (fun z=>z.1) (fuel,0,x1) (fun i=>i) ⟨(.sames M M),(.cons (EntW.mix aB M (SubC.of_eq M) (SubC.of_eq M) M M) (.cons (EntW.lst M) (.cons (EntW.lst M) .nil))),bD [1000,0,1001] M (by decide),fun _ _=>M⟩ ?_ ?_
 ·exact h
 ·
  rintro ⟨n0,v17,v18⟩ h
  cases n0 with
  | zero=>exact absurd h (by unfold eR; exact nofun)
  | succ n0 =>
   unfold eR at h
   obtain ⟨x35,hx35,h⟩:=aY h
   refine aD (aA M (aQ M M (lb M) (svI M) (svI M) M hx35)<|aC ?_)
   refine aT ?_
   refine aW (b:=_) M (fun hc36=>?_) (fun hc36=>?_)
   ·
    replace h:=cI h hc36
    refine aU ?_
    refine aO ?_
    refine aT ?_
    refine bA ?_
    obtain ⟨x37,hx37,h⟩:=aR h
    refine aD (aA M (cM (eInt .i64) (cs:=[.int _ _]) M M (lb M) underlying24 ti3 (svL M) (svI M) hx37 M M)<|aA M (cG M M (lb M) underlying3 ag3 ti3 (by decide) (sv (d:=.fptr [.int _ _]) M) (nle M))<|aA M (asI M M M M)<|aC ?_)
    obtain ⟨x38,hx38,h⟩:=aR h
    refine aD (aA M (mvR M M M M)<|aA M (mvI M M M M)<|aA M (eI (r':=.int .i64 x38) (V:=[(1000,.blk 62 (mixD aB.toEnc0 (w26 a1 a2 a3 a4 a5) a6 [.int .i64 a7,.osl 1001 (eInt .i64).sz a8.length])),(1001,.blk 3 (D.flat (a8.map (eInt .i64).d)))]) 1 [1000,1001] M M (lb M) cl35 (.cons (svR M) (.cons (svI M) .nil)) M M M ⟨by decide,M,List.forall_mem_cons.2 ⟨⟨M,M,(gT aB M M M),(bV aB M M)⟩,List.forall_mem_cons.2 ⟨⟨M,M,(gE (eInt .i64) M),(bN (eInt .i64))⟩,List.forall_mem_nil _⟩⟩⟩ (fW _ _ _ _ _ _ _ _ _ _ hx38) M M (List.forall_mem_cons.2 ⟨⟨M,(bV aB M M)⟩,List.forall_mem_cons.2 ⟨⟨M,(bN (eInt .i64))⟩,List.forall_mem_nil _⟩⟩) (by simp only [List.map_cons,List.map_nil,Ent.ren,bJ,bY,cB]; rfl) (List.forall_mem_cons.2 ⟨M,List.forall_mem_cons.2 ⟨M,List.forall_mem_nil _⟩⟩) M)<|aA M (asI M M M M)<|aC ?_)
    obtain ⟨x39,hx39,h⟩:=aY h
    obtain ⟨x40,hx40,h⟩:=aR h
    obtain ⟨hk41,h⟩:=lF h
    obtain ⟨x42,hx42,h⟩:=aR h
    obtain ⟨x43,hx43,h⟩:=aY h
    refine aD (aA M (mvI M M M M)<|aA M (aQ M M (lb M) (svI M) (sv (d:=.int _ (-1)) M) M hx39)<|aA M (mvB M M M M)<|aJ M M (.one M) M (by decide) (fun hb=>(mvR M M M M))<|aJ M M (.one M) M (by decide) (fun hb=>(mvI M M M M))<|aJ M M (.one M) M (by decide) (fun hb=>(aK M M (lb M) (svcR M hb)))<|aJ M M (.one M) M (by decide) (fun hb=>(aS M M (lb M) underlying62 M ti60 (by decide) (svcR M hb) (off':=5) M))<|aJ M M (.one M) M (by decide) (fun hb=>(cT aB.toEnc0 M M (lb M) underlying60 ti59 (svcR M hb) (hk41 hb) (svcI M hb) (gd_t hx40 hb)))<|aJ M M (.one M) M (by decide) (fun hb=>(bQ M M (lb M) underlying59 M ti4 (by decide) (svcR M hb) (k':=5) M))<|aJ M M (.one M) M (by decide) (fun hb=>(bZ aB.toEnc0 (b:=5) (k:=5) (d:=.bool _) M M (lb M) underlying4 ag4 ti4 (by decide) (svcR M hb) M M (gd_t hx42 hb) (nle M) M))<|aJ M M (.one M) M (by decide) (fun hb=>(eY M M (lb M) (svcB M hb)))<|aA M (cU M M (lb M) (svB M) M M hx43)<|aC ?_)
    refine aW (b:=_) M (fun hc44=>?_) (fun hc44=>?_)
    ·
     replace h:=cI h hc44
     obtain ⟨x45,hx45,h⟩:=aR h
     obtain ⟨hk46,h⟩:=lF h
     obtain ⟨x47,hx47,h⟩:=aR h
     obtain ⟨x48,hx48,h⟩:=aY h
     refine aX (aA M (mvI M M M M)<|aA M (zU pL.toEnc0 M M (lb M) underlying70 ti4 (svR M) hk46 (svI M) hx45)<|aA M (pB pL.toEnc0 (a':=true) M M ti4 (svR M) M (sv (d:=.bool true) M) M M M hx47 (nle M) M hx48)<|bK ?_)
     refine bL ?_
     refine aO ?_
     obtain ⟨x49,hx49,h⟩:=aY h
     refine aX (aA M (cK M M (lb M) (svI M) (sv (d:=.int _ 1) M) M hx49)<|aA M (mvI M M M M)<|bK ?_)
     refine aO ⟨(n0,x49,x48),(fun i=>i),⟨(.sames M M),(.cons (EntW.mix aB M (SubC.of_eq M) (SubC.of_eq M) M M) (.cons (EntW.lst M) (.cons (EntW.lst M) .nil))),bD [1000,0,1001] M (by decide),fun _ _=>M⟩,?_,?_⟩
     exact h
     exact Nat.lt_succ_self _
    ·
     replace h:=cJ h hc44
     refine aU ?_
     refine bL ?_
     refine aO ?_
     obtain ⟨x50,hx50,h⟩:=aY h
     refine aX (aA M (cK M M (lb M) (svI M) (sv (d:=.int _ 1) M) M hx50)<|aA M (mvI M M M M)<|bK ?_)
     refine aO ⟨(n0,x50,v18),(fun i=>i),⟨(.sames M M),(.cons (EntW.mix aB M (SubC.of_eq M) (SubC.of_eq M) M M) (.cons (EntW.lst M) (.cons (EntW.lst M) .nil))),bD [1000,0,1001] M (by decide),fun _ _=>M⟩,?_,?_⟩
     exact h
     exact Nat.lt_succ_self _
   ·
    replace h:=cJ h hc36
    refine cX ?_
    refine bR ?_
    refine bR ?_
    refine cZ ?_
    refine aO ?_
    refine aD (aA M (aF M M (lb M) (sv (d:=.nils) M))<|aC ?_)
    refine aT ?_
    obtain ⟨hk51,h⟩:=lF h
    refine aD (aA M (aBP pL.toEnc0 (n:=64) M M (lb M) underlying70 ag70 ti70 (by decide) (svR M) M hk51 M)<|aA M (aP M M (lb M) (sv (d:=.int _ 0) M))<|aC ?_)
    refine bA ?_
    refine cQ (α:=Nat × (List Int) × Int) (fun z=>⟨[(0,.ref 1000 0),(5,.ref 0 0),(9,.osl 22 (eInt .i64).sz z.2.1.length),(39,.agg (mixD pL.toEnc0 [] v18 [])),(40,.int .i64 z.2.2)],[(1000,.blk 62 (mixD aB.toEnc0 (w26 a1 a2 a3 a4 a5) a6 [.int .i64 a7,.osl 1001 (eInt .i64).sz a8.length])),(0,.blk 70 (D.flat (v18.map pL.d))),(22,.blk 3 (D.flat (z.2.1.map (eInt .i64).d))),(1001,.blk 3 (D.flat (a8.map (eInt .i64).d)))]⟩) (fun z=>eF a1 a2 a3 a4 a5 a6 a7 a8 v18 z.1 z.2.1 z.2.2=some r) (fun z=>z.1) (fuel,([]:(List Int)),0) (fun i=>if i=22 then 73 else i) ⟨(.s M M (.s M M (.cons (.nilo M) (.cons (SlW.mix pL M) (.sames M M))))),(.cons (EntW.mix aB M (SubC.of_eq M) (SubC.of_eq M) M M) (.cons (EntW.lst M) (.cons (.nilb M) (.cons (EntW.lst M) .nil)))),bD [1000,0,73,1001] M (by decide),(fun i hi=>by first | rfl | (show (if _ then _ else _)=_; (repeat' split) <;> omega))⟩ ?_ ?_
    ·exact h
    ·
     rintro ⟨n1,v98,v99⟩ h
     cases n1 with
     | zero=>exact absurd h (by unfold eF; exact nofun)
     | succ n1 =>
      unfold eF at h
      obtain ⟨x146,hx146,h⟩:=aY h
      refine aD (aA M (aQ M M (lb M) (svI M) (sv (d:=.int _ 64) M) M hx146)<|aC ?_)
      refine aT ?_
      refine aW (b:=_) M (fun hc147=>?_) (fun hc147=>?_)
      ·
       replace h:=cI h hc147
       refine aU ?_
       refine aO ?_
       refine aT ?_
       refine bA ?_
       obtain ⟨x148,hx148,h⟩:=aR h
       refine aD (aA M (mvI M M M M)<|aA M (aAT pL (d:=.bool _) M M (lb M) underlying70 underlying4 ag4 ti4 (sv (d:=.agg (mixD pL.toEnc0 [] v18 [])) M) (svI M) hk51 hx148 M)<|aA M (asI M M M M)<|aA M (asB M M M M)<|aC ?_)
       refine aT ?_
       refine aD (aA M (mvI M M M M)<|aA M (asI M M M M)<|aC ?_)
       refine bA ?_
       refine cQ (α:=Nat × Bool × Int) (fun z=>⟨[(0,.ref 1000 0),(5,.ref 0 0),(9,.osl 22 (eInt .i64).sz v98.length),(39,.agg (mixD pL.toEnc0 [] v18 [])),(40,.int .i64 v99),(10,.int .i64 v99),(11,.bool z.2.1),(12,.int .i64 z.2.2)],[(1000,.blk 62 (mixD aB.toEnc0 (w26 a1 a2 a3 a4 a5) a6 [.int .i64 a7,.osl 1001 (eInt .i64).sz a8.length])),(0,.blk 70 (D.flat (v18.map pL.d))),(22,.blk 3 (D.flat (v98.map (eInt .i64).d))),(1001,.blk 3 (D.flat (a8.map (eInt .i64).d)))]⟩) (fun z=>eE a1 a2 a3 a4 a5 a6 a7 a8 v18 v98 v99 (eF a1 a2 a3 a4 a5 a6 a7 a8 v18 n1) z.1 z.2.1 z.2.2=some r) (fun z=>z.1) (fuel,x148,v99) (fun i=>i) ⟨(.s M M (.s M M (.s M M (.cons (SlW.mix pL M) (.sames M M))))),(.cons (EntW.mix aB M (SubC.of_eq M) (SubC.of_eq M) M M) (.cons (EntW.lst M) (.cons (EntW.lst M) (.cons (EntW.lst M) .nil)))),bD [1000,0,22,1001] M (by decide),fun _ _=>M⟩ ?_ ?_
       ·exact h
       ·
        rintro ⟨n2,v161,v162⟩ h
        cases n2 with
        | zero=>exact absurd h (by unfold eE; exact nofun)
        | succ n2 =>
         unfold eE at h
         refine aT ?_
         obtain ⟨x175,hx175,h⟩:=aR h
         obtain ⟨hk176,h⟩:=lF h
         obtain ⟨x177,hx177,h⟩:=aR h
         obtain ⟨x178,hx178,h⟩:=aY h
         obtain ⟨x179,hx179,h⟩:=aY h
         refine aD (aA M (mvB M M M M)<|aA M (mvB M M M M)<|aJ M M (.one M) M (by decide) (fun hb=>(mvR M M M M))<|aJ M M (.one M) M (by decide) (fun hb=>(mvI M M M M))<|aJ M M (.one M) M (by decide) (fun hb=>(aK M M (lb M) (svcR M hb)))<|aJ M M (.one M) M (by decide) (fun hb=>(aS M M (lb M) underlying62 M ti60 (by decide) (svcR M hb) (off':=5) M))<|aJ M M (.one M) M (by decide) (fun hb=>(cT aB.toEnc0 M M (lb M) underlying60 ti59 (svcR M hb) (hk176 hb) (svcI M hb) (gd_t hx175 hb)))<|aJ M M (.one M) M (by decide) (fun hb=>(bQ M M (lb M) underlying59 M ti3 (by decide) (svcR M hb) (k':=1) M))<|aJ M M (.one M) M (by decide) (fun hb=>(bZ aB.toEnc0 (b:=5) (k:=1) (d:=.int _ _) M M (lb M) underlying3 ag3 ti3 (by decide) (svcR M hb) M M (gd_t hx177 hb) (nle M) M))<|aJ M M (.one M) M (by decide) (fun hb=>(aQ M M (lb M) (svcI M hb) (sv (d:=.int _ (-1)) M) M hx178))<|aA M (cU M M (lb M) (svB M) M M hx179)<|aC ?_)
         refine aW (b:=_) M (fun hc180=>?_) (fun hc180=>?_)
         ·
          replace h:=cI h hc180
          refine aU ?_
          refine aO ?_
          refine bA ?_
          obtain ⟨x181,hx181,h⟩:=aR h
          obtain ⟨hk182,h⟩:=lF h
          obtain ⟨x183,hx183,h⟩:=aR h
          refine aD (aA M (mvR M M M M)<|aA M (mvI M M M M)<|aA M (aK M M (lb M) (svR M))<|aA M (faR 5 M M M underlying62 M ti60 (lb M) M M)<|aA M (cT aB.toEnc0 M M (lb M) underlying60 ti59 (svR M) hk182 (svI M) hx181)<|aA M (bQ M M (lb M) underlying59 M ti3 (by decide) (svR M) (k':=1) M)<|aA M (bZ aB.toEnc0 (b:=5) (k:=1) (d:=.int _ _) M M (lb M) underlying3 ag3 ti3 (by decide) (svR M) M M hx183 (nle M) M)<|aA M (asI M M M M)<|aC ?_)
          obtain ⟨x184,hx184,h⟩:=aR h
          obtain ⟨hk185,h⟩:=lF h
          obtain ⟨x186,hx186,h⟩:=aR h
          refine aX (aA M (mvI M M M M)<|aA M (zU pL.toEnc0 M M (lb M) underlying70 ti4 (svR M) hk185 (svI M) hx184)<|aA M (kP pL.toEnc0 (d:=.bool _) M M (lb M) underlying4 ag4 ti4 (by decide) (svR M) M hx186 (nle M) M)<|aA M (eY M M (lb M) (svB M))<|aA M (asB M M M M)<|bK ?_)
          refine bL ?_
          refine aO ⟨(n2,(!x186),x183.up),(fun i=>i),⟨(.s M M (.s M M (.s M M (.cons (SlW.mix pL M) (.sames M M))))),(.cons (EntW.mix aB M (SubC.of_eq M) (SubC.of_eq M) M M) (.cons (EntW.lst M) (.cons (EntW.lst M) (.cons (EntW.lst M) .nil)))),bD [1000,0,22,1001] M (by decide),fun _ _=>M⟩,?_,?_⟩
          exact h
          exact Nat.lt_succ_self _
         ·
          replace h:=cJ h hc180
          refine cX ?_
          refine bR ?_
          refine bR ?_
          refine cZ ?_
          refine aO ?_
          refine aD (aA M (mvB M M M M)<|aC ?_)
          refine aW (b:=_) M (fun hc187=>?_) (fun hc187=>?_)
          ·
           replace h:=cI h hc187
           obtain ⟨x188,hx188,h⟩:=aR h
           obtain ⟨x189,hx189,h⟩:=aR h
           refine aX (aA M (aP M M (lb M) (sv (d:=.osl _ _ _) M))<|aA M (mvR M M M M)<|aA M (mvI M M M M)<|aA M (eI (r':=.int .i64 x188) (V:=[(1000,.blk 62 (mixD aB.toEnc0 (w26 a1 a2 a3 a4 a5) a6 [.int .i64 a7,.osl 1001 (eInt .i64).sz a8.length])),(1001,.blk 3 (D.flat (a8.map (eInt .i64).d)))]) 23 [1000,1001] M M (lb M) cl32 (.cons (svR M) (.cons (svI M) .nil)) M M M ⟨by decide,M,List.forall_mem_cons.2 ⟨⟨M,M,(gT aB M M M),(bV aB M M)⟩,List.forall_mem_cons.2 ⟨⟨M,M,(gE (eInt .i64) M),(bN (eInt .i64))⟩,List.forall_mem_nil _⟩⟩⟩ (jC _ _ _ _ _ _ _ _ _ _ hx188) M M (List.forall_mem_cons.2 ⟨⟨M,(bV aB M M)⟩,List.forall_mem_cons.2 ⟨⟨M,(bN (eInt .i64))⟩,List.forall_mem_nil _⟩⟩) (by simp only [List.map_cons,List.map_nil,Ent.ren,bJ,bY,cB]; rfl) (List.forall_mem_cons.2 ⟨M,List.forall_mem_cons.2 ⟨M,List.forall_mem_nil _⟩⟩) M)<|aA M (lS (eInt .i64).toEnc0 ([x188]:(List Int)) 23 M M (lb M) underlying24 ti3 M (.cons (svI M) .nil) M M (by decide))<|aA M (kJ (eInt .i64).toEnc0 24 M M (lb M) underlying24 ti3 M M M M M (qV (eInt .i64).toEnc0 M M M) hx189)<|aA M (aF M M (lb M) (sv (d:=.osl _ _ _) M))<|bK ?_)
           refine bL ?_
           refine aO ?_
           obtain ⟨x190,hx190,h⟩:=aY h
           refine aX (aA M (cK M M (lb M) (svI M) (sv (d:=.int _ 1) M) M hx190)<|aA M (mvI M M M M)<|bK ?_)
           refine aO ⟨(n1,x189,x190),(fun i=>if i=22 then 24 else i),⟨(.s M M (.s M M (.s M M (.cons (SlW.mix pL M) (.sames M M))))),(.cons (EntW.mix aB M (SubC.of_eq M) (SubC.of_eq M) M M) (.cons (EntW.lst M) (.cons (EntW.lst M) (.cons (EntW.lst M) .nil)))),bD [1000,0,24,1001] M (by decide),(fun i hi=>by first | rfl | (show (if _ then _ else _)=_; (repeat' split) <;> omega))⟩,?_,?_⟩
           exact h
           exact Nat.lt_succ_self _
          ·
           replace h:=cJ h hc187
           refine aU ?_
           refine bL ?_
           refine aO ?_
           obtain ⟨x191,hx191,h⟩:=aY h
           refine aX (aA M (cK M M (lb M) (svI M) (sv (d:=.int _ 1) M) M hx191)<|aA M (mvI M M M M)<|bK ?_)
           refine aO ⟨(n1,v98,x191),(fun i=>i),⟨(.s M M (.s M M (.s M M (.cons (SlW.mix pL M) (.sames M M))))),(.cons (EntW.mix aB M (SubC.of_eq M) (SubC.of_eq M) M M) (.cons (EntW.lst M) (.cons (EntW.lst M) (.cons (EntW.lst M) .nil)))),bD [1000,0,22,1001] M (by decide),fun _ _=>M⟩,?_,?_⟩
           exact h
           exact Nat.lt_succ_self _
      ·
       replace h:=cJ h hc147
       refine cX ?_
       refine bR ?_
       refine bR ?_
       refine cZ ?_
       refine aO ?_
       obtain ⟨x192,hx192,h⟩:=aR h
       obtain ⟨hk193,h⟩:=lF h
       refine aD (aA M (aP M M (lb M) (sv (d:=.osl _ _ _) M))<|aA M (cW (r':=.tuple []) (H1':=[(22,.blk 3 (D.flat (x192.map (eInt .i64).d)))]) 23 [22] M M (lb M) cl36 (.cons (sv (d:=.osl _ _ _) M) .nil) M M ⟨M,M,by decide,M,List.forall_mem_cons.2 ⟨⟨M,M,(gE (eInt .i64) M),(bN (eInt .i64))⟩,List.forall_mem_nil _⟩⟩ (lL _ _ hx192) M M (List.forall_mem_cons.2 ⟨⟨M,(bN (eInt .i64))⟩,List.forall_mem_nil _⟩) (by simp only [List.map_cons,List.map_nil,Ent.ren,bJ,bY]; rfl))<|aC ?_)
       refine aD (aA M (aP M M (lb M) (sv (d:=.osl _ _ _) M))<|aA M (aF M M (lb M) (sv (d:=.osl _ _ _) M))<|aC ?_)
       refine oZ 4 (id:=22) (l:=x192.map (eInt .i64).d) ⟨_,M⟩ M M (by rw [List.length_map]; exact hk193) ((eInt .i64).toEnc0.len _) (eInt .i64).pos ((eInt .i64).noRef _) ?_
       refine bB ?_
       obtain rfl:=sj_ h
       refine ⟨.inr M,(fun i=>i),⟨.nil,(.cons (EntW.mix aB M (SubC.of_eq M) (SubC.of_eq M) M M) (.cons (EntW.lst M) .nil)),bD [1000,1001] M (by decide),fun _ _=>M⟩,(.cons (sv M) .nil),M⟩

theorem lK (a0:Int) (a1:Int) (a2:Int) (a3:(List aH)) (a4:Int) (a5:Int) (a6:(List aG)) (a7:Int) (a8:(List Int)) (r:(Int × Int × Int × (List aH) × Int × Int × (List aG) × Int × (List Int))) (h:gW a0 a1 a2 a3 a4 a5 a6 a7 a8=some r):FnH prog 23 [.ref 1000 0,.int .i64 a0] [(1000,.blk 62 (mixD aB.toEnc0 (w26 a1 a2 a3 a4 a5) a6 [.int .i64 a7,.osl 1001 (eInt .i64).sz a8.length])),(1001,.blk 3 (D.flat (a8.map (eInt .i64).d)))] (.int .i64 r.1) [(1000,.blk 62 (mixD aB.toEnc0 (w26 r.2.1 r.2.2.1 r.2.2.2.1 r.2.2.2.2.1 r.2.2.2.2.2.1) r.2.2.2.2.2.2.1 [.int .i64 r.2.2.2.2.2.2.2.1,.osl 0 (eInt .i64).sz r.2.2.2.2.2.2.2.2.length])),(0,.blk 3 (D.flat (r.2.2.2.2.2.2.2.2.map (eInt .i64).d)))]:=by
 refine eX (rs:=[.int .i64 r.1]) func23 M ntmps23 (nle M) fun O hO=>?_
 show IWP _ _ _ _ ⟨[(0,.ref 1000 0),(1,.int .i64 a0)],[(1000,.blk 62 (mixD aB.toEnc0 (w26 a1 a2 a3 a4 a5) a6 [.int .i64 a7,.osl 1001 (eInt .i64).sz a8.length])),(1001,.blk 3 (D.flat (a8.map (eInt .i64).d)))]⟩ _
 unfold gW at h
 refine aD (aA M (aF M M (lb M) (sv (d:=.int _ 0) M))<|aC ?_)
 refine aT ?_
 refine aD (aA M (mvR M M M M)<|aA M (oD M M (lb M) underlying26 (svR M) (sv (d:=.nilp) M))<|aC ?_)
 refine gH M M ?_
 refine aU ?_
 refine aO ?_
 obtain ⟨x1,hx1,h⟩:=aR h
 refine aD (aA M (mvR M M M M)<|aA M (mvI M M M M)<|aA M (eI (r':=.int .i64 x1) (V:=[(1000,.blk 62 (mixD aB.toEnc0 (w26 a1 a2 a3 a4 a5) a6 [.int .i64 a7,.osl 1001 (eInt .i64).sz a8.length])),(1001,.blk 3 (D.flat (a8.map (eInt .i64).d)))]) 0 [1000,1001] M M (lb M) cl35 (.cons (svR M) (.cons (svI M) .nil)) M M M ⟨by decide,M,List.forall_mem_cons.2 ⟨⟨M,M,(gT aB M M M),(bV aB M M)⟩,List.forall_mem_cons.2 ⟨⟨M,M,(gE (eInt .i64) M),(bN (eInt .i64))⟩,List.forall_mem_nil _⟩⟩⟩ (fW _ _ _ _ _ _ _ _ _ _ hx1) M M (List.forall_mem_cons.2 ⟨⟨M,(bV aB M M)⟩,List.forall_mem_cons.2 ⟨⟨M,(bN (eInt .i64))⟩,List.forall_mem_nil _⟩⟩) (by simp only [List.map_cons,List.map_nil,Ent.ren,bJ,bY,cB]; rfl) (List.forall_mem_cons.2 ⟨M,List.forall_mem_cons.2 ⟨M,List.forall_mem_nil _⟩⟩) M)<|aA M (asI M M M M)<|aC ?_)
 refine aT ?_
 refine bA ?_
 obtain ⟨x2,hx2,h⟩:=aY h
 refine aD (aA M (mvI M M M M)<|aA M (aQ M M (lb M) (svI M) (sv (d:=.int _ (-1)) M) M hx2)<|aA M (asB M M M M)<|aC ?_)
 refine aW (b:=_) M (fun hc3=>?_) (fun hc3=>?_)
 ·
  replace h:=cI h hc3
  refine aD (aA M (aF M M (lb M) (sv (d:=.int _ 6) M))<|aC ?_)
  refine bB ?_
  refine dC ?_
  refine bH ?_
  obtain rfl:=sj_ h
  refine ⟨.inr M,(fun i=>if i=0 then 1001 else i),⟨.nil,(.cons (EntW.mix aB M (SubC.of_eq M) (SubC.of_eq M) M M) (.cons (EntW.lst M) .nil)),bD [1000,1001] M (by decide),(fun i hi=>by first | rfl | (show (if _ then _ else _)=_; (repeat' split) <;> omega))⟩,(.cons (sv M) .nil),M⟩
 ·
  replace h:=cJ h hc3
  obtain ⟨x4,hx4,h⟩:=aR h
  obtain ⟨hk5,h⟩:=lF h
  obtain ⟨x6,hx6,h⟩:=aR h
  refine aD (aA M (mvR M M M M)<|aA M (mvI M M M M)<|aA M (aK M M (lb M) (svR M))<|aA M (faR 5 M M M underlying62 M ti60 (lb M) M M)<|aA M (cT aB.toEnc0 M M (lb M) underlying60 ti59 (svR M) hk5 (svI M) hx4)<|aA M (bQ M M (lb M) underlying59 M ti4 (by decide) (svR M) (k':=5) M)<|aA M (bZ aB.toEnc0 (b:=5) (k:=5) (d:=.bool _) M M (lb M) underlying4 ag4 ti4 (by decide) (svR M) M M hx6 (nle M) M)<|aA M (asB M M M M)<|aC ?_)
  refine aW (b:=_) M (fun hc7=>?_) (fun hc7=>?_)
  ·
   replace h:=cI h hc7
   refine aD (aA M (aF M M (lb M) (sv (d:=.int _ 9) M))<|aC ?_)
   refine bB ?_
   refine dC ?_
   refine bH ?_
   obtain rfl:=sj_ h
   refine ⟨.inr M,(fun i=>if i=0 then 1001 else i),⟨.nil,(.cons (EntW.mix aB M (SubC.of_eq M) (SubC.of_eq M) M M) (.cons (EntW.lst M) .nil)),bD [1000,1001] M (by decide),(fun i hi=>by first | rfl | (show (if _ then _ else _)=_; (repeat' split) <;> omega))⟩,(.cons (sv M) .nil),M⟩
  ·
   replace h:=cJ h hc7
   refine aU ?_
   refine bL ?_
   refine aO ?_
   obtain ⟨x8,hx8,h⟩:=aR h
   obtain ⟨x9,hx9,h⟩:=aR h
   obtain ⟨x10,hx10,h⟩:=aY h
   refine aD (aA M (mvR M M M M)<|aA M (mvI M M M M)<|aA M (aK M M (lb M) (svR M))<|aA M (faR 5 M M M underlying62 M ti60 (lb M) M M)<|aA M (cT aB.toEnc0 M M (lb M) underlying60 ti59 (svR M) hk5 (svI M) hx8)<|aA M (bQ M M (lb M) underlying59 M ti4 (by decide) (svR M) (k':=5) M)<|aA M (jD aB.toEnc0 (b:=5) (k:=5) (a':=(⟨x9.id,x9.up,x9.first,x9.next,x9.weight,true⟩:aG)) M M ti4 (svR M) M (sv (d:=.bool true) M) M M M M hx9 (nle M) M hx10)<|aC ?_)
   obtain ⟨x11,hx11,h⟩:=aR h
   refine aD (aA M (mvR M M M M)<|aA M (mvR M M M M)<|aA M (aK M M (lb M) (svR M))<|aA M (faR 390 M M M underlying62 M ti24 (lb M) M M)<|aA M (gN aB.toEnc0 (d:=.osl _ _ _) (n:=64) (k:=1) M M (lb M) underlying24 ag24 ti24 (by decide) (svR M) M (kR hx10 hk5) (by rfl) (nle M) (by rfl))<|aA M (mvI M M M M)<|aA M (lS (eInt .i64).toEnc0 ([x1]:(List Int)) 0 M M (lb M) underlying24 ti3 M (.cons (svI M) .nil) M M (by decide))<|aA M (kJ (eInt .i64).toEnc0 1 M M (lb M) underlying24 ti3 M M M M M (qV (eInt .i64).toEnc0 M M M) hx11)<|aA M (aK M M (lb M) (svR M))<|aA M (faR 390 M M M underlying62 M ti24 (lb M) M M)<|aA M (pA aB.toEnc0 (post:=q19) (post':=q19) (n:=64) (k:=1) M M ti24 (svR M) M (sv (d:=.osl _ _ _) M) M M M (kR hx10 hk5) (by rfl) (nle M) (by rfl))<|aC ?_)
   refine aT ?_
   obtain ⟨x12,hx12,h⟩:=aY h
   refine jK M [⟨[0],[],[(38,.ref 1000 0)],[]⟩,
    ⟨[38],[],[(39,.ref 1000 0)],[]⟩,
    ⟨[39],[],[(40,.ref 1000 390)],[]⟩,
    ⟨[40],[1000],[(41,.osl 1 (eInt .i64).sz x11.length)],[]⟩,
    ⟨[41],[],[(42,.int .i64 (x11.length:Int))],[]⟩,
    ⟨[0],[],[(43,.ref 1000 0)],[]⟩,
    ⟨[43],[],[(44,.ref 1000 0)],[]⟩,
    ⟨[44],[],[(45,.ref 1000 1)],[]⟩,
    ⟨[45],[1000],[(46,.int .i64 a2)],[]⟩,
    ⟨[42,46],[],[(47,.bool x12)],[]⟩] M ?_ (by kernel_rfl) ?_
   ·refine .cons (lop M M fun S hA=>(aP M M (lb M) (svaR hA M M))) ?_
    refine .cons (lop M M fun S hA=>(aK M M (lb M) (svaR hA M M))) ?_
    refine .cons (lop M M fun S hA=>(aS M M (lb M) underlying62 M ti24 (by decide) (svaR hA M M) (off':=390) M)) ?_
    refine .cons (lop M M fun S hA=>(gN aB.toEnc0 (d:=.osl _ _ _) (n:=64) (k:=1) M M (lb M) underlying24 ag24 ti24 (by decide) (svaR hA M M) (agi hA M M) (kR hx10 hk5) (by rfl) (nle M) (by rfl))) ?_
    refine .cons (lop M M fun S hA=>(oJ M M (lb M) underlying24 (sv (d:=.osl _ _ _) (agr hA M M)))) ?_
    refine .cons (lop M M fun S hA=>(aP M M (lb M) (svaR hA M M))) ?_
    refine .cons (lop M M fun S hA=>(aK M M (lb M) (svaR hA M M))) ?_
    refine .cons (lop M M fun S hA=>(aS M M (lb M) underlying62 M ti3 (by decide) (svaR hA M M) (off':=1) M)) ?_
    refine .cons (lop M M fun S hA=>(qO aB.toEnc0 (d:=.int _ _) M M (lb M) underlying3 ag3 ti3 (by decide) (svaR hA M M) (agi hA M M) (nle M) (by rfl))) ?_
    refine .cons (lop M M fun S hA=>(aQ M M (lb M) (svaI hA M M) (svaI hA M M) M hx12)) ?_
    exact .nil
   refine aW (b:=_) M (fun hc13=>?_) (fun hc13=>?_)
   ·
    replace h:=cI h hc13
    obtain ⟨x14,hx14,h⟩:=aR h
    obtain ⟨x15,hx15,h⟩:=aR h
    obtain ⟨x16,hx16,h⟩:=aR h
    refine aX (aA M (mvR M M M M)<|aA M (mvR M M M M)<|aA M (aK M M (lb M) (svR M))<|aA M (faR 390 M M M underlying62 M ti24 (lb M) M M)<|aA M (gN aB.toEnc0 (d:=.osl _ _ _) (n:=64) (k:=1) M M (lb M) underlying24 ag24 ti24 (by decide) (svR M) M (kR hx10 hk5) (by rfl) (nle M) (by rfl))<|aA M (lE (eInt .i64).toEnc0 M M (lb M) underlying24 ti3 (sv (d:=.osl _ _ _) M) M (sv (d:=.int _ 0) M) hx14)<|aA M (kP (eInt .i64).toEnc0 (d:=.int _ _) M M (lb M) underlying3 ag3 ti3 (by decide) (svR M) M hx15 (nle M) M)<|aA M (cW (r':=.tuple []) (H1':=[(1000,.blk 62 (mixD aB.toEnc0 (w26 x16.1 x16.2.1 x16.2.2.1 x16.2.2.2.1 x16.2.2.2.2.1) x16.2.2.2.2.2.1 [.int .i64 x16.2.2.2.2.2.2.1,.osl 2 (eInt .i64).sz x16.2.2.2.2.2.2.2.length])),(2,.blk 3 (D.flat (x16.2.2.2.2.2.2.2.map (eInt .i64).d)))]) 2 [1000,1] M M (lb M) cl44 (.cons (svR M) (.cons (svI M) .nil)) M M ⟨M,M,by decide,M,List.forall_mem_cons.2 ⟨⟨M,M,(gT aB M M M),(bV aB M M)⟩,List.forall_mem_cons.2 ⟨⟨M,M,(gE (eInt .i64) M),(bN (eInt .i64))⟩,List.forall_mem_nil _⟩⟩⟩ (mA _ _ _ _ _ _ _ _ _ _ hx16) M M (List.forall_mem_cons.2 ⟨⟨M,(bV aB M M)⟩,List.forall_mem_cons.2 ⟨⟨M,(bN (eInt .i64))⟩,List.forall_mem_nil _⟩⟩) (by simp only [List.map_cons,List.map_nil,Ent.ren,bJ,bY,cB]; rfl))<|bK ?_)
    refine aO ?_
    refine aD (aA M (aF M M (lb M) (sv (d:=.int _ 0) M))<|aC ?_)
    refine bB ?_
    obtain rfl:=sj_ h
    refine ⟨.inr M,(fun i=>if i=0 then 2 else i),⟨.nil,(.cons (EntW.mix aB M (SubC.of_eq M) (SubC.of_eq M) M M) (.cons (EntW.lst M) .nil)),bD [1000,2] M (by decide),(fun i hi=>by first | rfl | (show (if _ then _ else _)=_; (repeat' split) <;> omega))⟩,(.cons (sv M) .nil),M⟩
   ·
    replace h:=cJ h hc13
    refine aU ?_
    refine aO ?_
    refine aD (aA M (aF M M (lb M) (sv (d:=.int _ 0) M))<|aC ?_)
    refine bB ?_
    obtain rfl:=sj_ h
    refine ⟨.inr M,(fun i=>if i=0 then 1 else i),⟨.nil,(.cons (EntW.mix aB M (SubC.of_eq M) (SubC.of_eq M) M M) (.cons (EntW.lst M) .nil)),bD [1000,1] M (by decide),(fun i hi=>by first | rfl | (show (if _ then _ else _)=_; (repeat' split) <;> omega))⟩,(.cons (sv M) .nil),M⟩

theorem mX (a0:Int) (a1:Int) (a2:Int) (a3:(List aH)) (a4:Int) (a5:Int) (a6:(List aG)) (a7:Int) (a8:(List Int)) (r:(Int × Int × Int × (List aH) × Int × Int × (List aG) × Int × (List Int))) (h:iE a0 a1 a2 a3 a4 a5 a6 a7 a8=some r):FnH prog 24 [.ref 1000 0,.int .i64 a0] [(1000,.blk 62 (mixD aB.toEnc0 (w26 a1 a2 a3 a4 a5) a6 [.int .i64 a7,.osl 1001 (eInt .i64).sz a8.length])),(1001,.blk 3 (D.flat (a8.map (eInt .i64).d)))] (.int .i64 r.1) [(1000,.blk 62 (mixD aB.toEnc0 (w26 r.2.1 r.2.2.1 r.2.2.2.1 r.2.2.2.2.1 r.2.2.2.2.2.1) r.2.2.2.2.2.2.1 [.int .i64 r.2.2.2.2.2.2.2.1,.osl 0 (eInt .i64).sz r.2.2.2.2.2.2.2.2.length])),(0,.blk 3 (D.flat (r.2.2.2.2.2.2.2.2.map (eInt .i64).d)))]:=by
 refine eX (rs:=[.int .i64 r.1]) func24 M ntmps24 (nle M) fun O hO=>?_
 show IWP _ _ _ _ ⟨[(0,.ref 1000 0),(1,.int .i64 a0)],[(1000,.blk 62 (mixD aB.toEnc0 (w26 a1 a2 a3 a4 a5) a6 [.int .i64 a7,.osl 1001 (eInt .i64).sz a8.length])),(1001,.blk 3 (D.flat (a8.map (eInt .i64).d)))]⟩ _
 unfold iE at h
 refine aD (aA M (aF M M (lb M) (sv (d:=.int _ 0) M))<|aC ?_)
 refine aT ?_
 refine aD (aA M (mvR M M M M)<|aA M (oD M M (lb M) underlying26 (svR M) (sv (d:=.nilp) M))<|aC ?_)
 refine gH M M ?_
 refine aU ?_
 refine aO ?_
 obtain ⟨x1,hx1,h⟩:=aR h
 refine aD (aA M (mvR M M M M)<|aA M (mvI M M M M)<|aA M (eI (r':=.int .i64 x1) (V:=[(1000,.blk 62 (mixD aB.toEnc0 (w26 a1 a2 a3 a4 a5) a6 [.int .i64 a7,.osl 1001 (eInt .i64).sz a8.length])),(1001,.blk 3 (D.flat (a8.map (eInt .i64).d)))]) 0 [1000,1001] M M (lb M) cl35 (.cons (svR M) (.cons (svI M) .nil)) M M M ⟨by decide,M,List.forall_mem_cons.2 ⟨⟨M,M,(gT aB M M M),(bV aB M M)⟩,List.forall_mem_cons.2 ⟨⟨M,M,(gE (eInt .i64) M),(bN (eInt .i64))⟩,List.forall_mem_nil _⟩⟩⟩ (fW _ _ _ _ _ _ _ _ _ _ hx1) M M (List.forall_mem_cons.2 ⟨⟨M,(bV aB M M)⟩,List.forall_mem_cons.2 ⟨⟨M,(bN (eInt .i64))⟩,List.forall_mem_nil _⟩⟩) (by simp only [List.map_cons,List.map_nil,Ent.ren,bJ,bY,cB]; rfl) (List.forall_mem_cons.2 ⟨M,List.forall_mem_cons.2 ⟨M,List.forall_mem_nil _⟩⟩) M)<|aA M (asI M M M M)<|aC ?_)
 refine aT ?_
 obtain ⟨x2,hx2,h⟩:=aY h
 refine aD (aA M (mvI M M M M)<|aA M (aQ M M (lb M) (svI M) (sv (d:=.int _ (-1)) M) M hx2)<|aC ?_)
 refine aW (b:=_) M (fun hc3=>?_) (fun hc3=>?_)
 ·
  replace h:=cI h hc3
  refine aD (aA M (aF M M (lb M) (sv (d:=.int _ 6) M))<|aC ?_)
  refine bB ?_
  refine bH ?_
  obtain rfl:=sj_ h
  refine ⟨.inr M,(fun i=>if i=0 then 1001 else i),⟨.nil,(.cons (EntW.mix aB M (SubC.of_eq M) (SubC.of_eq M) M M) (.cons (EntW.lst M) .nil)),bD [1000,1001] M (by decide),(fun i hi=>by first | rfl | (show (if _ then _ else _)=_; (repeat' split) <;> omega))⟩,(.cons (sv M) .nil),M⟩
 ·
  replace h:=cJ h hc3
  refine aU ?_
  refine aO ?_
  obtain ⟨x4,hx4,h⟩:=aR h
  refine aD (aA M (mvR M M M M)<|aA M (mvI M M M M)<|aA M (cW (r':=.tuple []) (H1':=[(1000,.blk 62 (mixD aB.toEnc0 (w26 x4.1 x4.2.1 x4.2.2.1 x4.2.2.2.1 x4.2.2.2.2.1) x4.2.2.2.2.2.1 [.int .i64 x4.2.2.2.2.2.2.1,.osl 0 (eInt .i64).sz x4.2.2.2.2.2.2.2.length])),(0,.blk 3 (D.flat (x4.2.2.2.2.2.2.2.map (eInt .i64).d)))]) 0 [1000,1001] M M (lb M) cl44 (.cons (svR M) (.cons (svI M) .nil)) M M ⟨M,M,by decide,M,List.forall_mem_cons.2 ⟨⟨M,M,(gT aB M M M),(bV aB M M)⟩,List.forall_mem_cons.2 ⟨⟨M,M,(gE (eInt .i64) M),(bN (eInt .i64))⟩,List.forall_mem_nil _⟩⟩⟩ (mA _ _ _ _ _ _ _ _ _ _ hx4) M M (List.forall_mem_cons.2 ⟨⟨M,(bV aB M M)⟩,List.forall_mem_cons.2 ⟨⟨M,(bN (eInt .i64))⟩,List.forall_mem_nil _⟩⟩) (by simp only [List.map_cons,List.map_nil,Ent.ren,bJ,bY,cB]; rfl))<|aC ?_)
  refine aD (aA M (aF M M (lb M) (sv (d:=.int _ 0) M))<|aC ?_)
  refine bB ?_
  obtain rfl:=sj_ h
  refine ⟨.inr M,(fun i=>i),⟨.nil,(.cons (EntW.mix aB M (SubC.of_eq M) (SubC.of_eq M) M M) (.cons (EntW.lst M) .nil)),bD [1000,0] M (by decide),fun _ _=>M⟩,(.cons (sv M) .nil),M⟩

theorem nY (a0:Int) (a1:Int) (a2:Int) (a3:(List aH)) (a4:Int) (a5:Int) (a6:(List aG)) (a7:Int) (a8:(List Int)) (r:(List Int)) (h:gD a0 a1 a2 a3 a4 a5 a6 a7 a8=some r):FnH prog 19 [.ref 1000 0,.int .i64 a0] [(1000,.blk 62 (mixD aB.toEnc0 (w26 a1 a2 a3 a4 a5) a6 [.int .i64 a7,.osl 1001 (eInt .i64).sz a8.length])),(1001,.blk 3 (D.flat (a8.map (eInt .i64).d)))] (.slice false (r.map (eInt .i64).d)) [(1000,.blk 62 (mixD aB.toEnc0 (w26 a1 a2 a3 a4 a5) a6 [.int .i64 a7,.osl 1001 (eInt .i64).sz a8.length])),(1001,.blk 3 (D.flat (a8.map (eInt .i64).d)))]:=by
 refine eX (rs:=[.slice false (r.map (eInt .i64).d)]) func19 M ntmps19 (nle M) fun O hO=>?_
 show IWP _ _ _ _ ⟨[(0,.ref 1000 0),(1,.int .i64 a0)],[(1000,.blk 62 (mixD aB.toEnc0 (w26 a1 a2 a3 a4 a5) a6 [.int .i64 a7,.osl 1001 (eInt .i64).sz a8.length])),(1001,.blk 3 (D.flat (a8.map (eInt .i64).d)))]⟩ _
 unfold gD at h
 refine aD (aA M (cY (cs:=[.ref _ _]) 0 M M (lb M) M (svR M) M M)<|aA M (aF M M (lb M) (sv (d:=.nils) M))<|aC ?_)
 refine aT ?_
 refine aD (aA M (aI (d:=.ref _ _) M M (lb M) underlying26 ag26 ti26 (by decide) (svR M) M (nle M) M)<|aA M (oD M M (lb M) underlying26 (svR M) (sv (d:=.nilp) M))<|aC ?_)
 refine gH M M ?_
 refine aU ?_
 refine aO ?_
 obtain ⟨x1,hx1,h⟩:=aR h
 refine aD (aA M (aI (d:=.ref _ _) M M (lb M) underlying26 ag26 ti26 (by decide) (svR M) M (nle M) M)<|aA M (mvI M M M M)<|aA M (eI (r':=.int .i64 x1) (V:=[(1000,.blk 62 (mixD aB.toEnc0 (w26 a1 a2 a3 a4 a5) a6 [.int .i64 a7,.osl 1001 (eInt .i64).sz a8.length])),(1001,.blk 3 (D.flat (a8.map (eInt .i64).d)))]) 1 [1000,1001] M M (lb M) cl35 (.cons (svR M) (.cons (svI M) .nil)) M M M ⟨by decide,M,List.forall_mem_cons.2 ⟨⟨M,M,(gT aB M M M),(bV aB M M)⟩,List.forall_mem_cons.2 ⟨⟨M,M,(gE (eInt .i64) M),(bN (eInt .i64))⟩,List.forall_mem_nil _⟩⟩⟩ (fW _ _ _ _ _ _ _ _ _ _ hx1) M M (List.forall_mem_cons.2 ⟨⟨M,(bV aB M M)⟩,List.forall_mem_cons.2 ⟨⟨M,(bN (eInt .i64))⟩,List.forall_mem_nil _⟩⟩) (by simp only [List.map_cons,List.map_nil,Ent.ren,bJ,bY,cB]; rfl) (List.forall_mem_cons.2 ⟨M,List.forall_mem_cons.2 ⟨M,List.forall_mem_nil _⟩⟩) M)<|aA M (asI M M M M)<|aC ?_)
 refine aT ?_
 obtain ⟨x2,hx2,h⟩:=aY h
 obtain ⟨x3,hx3,h⟩:=aY h
 obtain ⟨x4,hx4,h⟩:=aY h
 refine aD (aA M (mvI M M M M)<|aA M (aQ M M (lb M) (svI M) (sv (d:=.int _ (-1)) M) M hx2)<|aA M (mvB M M M M)<|aJ M M (.one M) M (by decide) (fun hb=>(mvI M M M M))<|aJ M M (.one M) M (by decide) (fun hb=>(aQ M M (lb M) (svcI M hb) (sv (d:=.int _ 0) M) M hx3))<|aA M (cU M M (lb M) (svB M) M M hx4)<|aC ?_)
 refine aW (b:=_) M (fun hc5=>?_) (fun hc5=>?_)
 ·
  replace h:=cI h hc5
  refine aD (aA M (aF M M (lb M) (sv (d:=.nils) M))<|aC ?_)
  refine bB ?_
  refine bH ?_
  obtain rfl:=sj_ h
  refine ⟨.inr M,(fun i=>i),⟨.nil,(.cons (EntW.mix aB M (SubC.of_eq M) (SubC.of_eq M) M M) (.cons (EntW.lst M) .nil)),bD [1000,1001] M (by decide),fun _ _=>M⟩,(.cons (uQ M M) .nil),M⟩
 ·
  replace h:=cJ h hc5
  refine aU ?_
  refine aO ?_
  refine aD (aA M (dA (cs:=[.nils]) (cs':=[.nils]) 1 M M (lb M) M ti24 M M (.all _))<|aC ?_)
  refine jR (α:=(List Int)) (fun z=>⟨[(6,.ref 1 0)],[(1,.blk 24 [.osl 28 (eInt .i64).sz z.length]),(1000,.blk 62 (mixD aB.toEnc0 (w26 a1 a2 a3 a4 a5) a6 [.int .i64 a7,.osl 1001 (eInt .i64).sz a8.length])),(1001,.blk 3 (D.flat (a8.map (eInt .i64).d))),(28,.blk 3 (D.flat (z.map (eInt .i64).d)))]⟩) (fun z=>fO z=some r) ?_ ?_
  ·
   refine aD (aA M (aI (d:=.ref _ _) M M (lb M) underlying26 ag26 ti26 (by decide) (svR M) M (nle M) M)<|aA M (mvI M M M M) <|?_)
   refine fS (S':=⟨[(2,.ref 0 0),(6,.ref 1 0),(19,.ref 1000 0),(20,.int .i64 x1)],[(0,.blk 26 [.ref 1000 0]),(1,.blk 24 [.nils]),(1000,.blk 62 (mixD aB.toEnc0 (w26 a1 a2 a3 a4 a5) a6 [.int .i64 a7,.osl 1001 (eInt .i64).sz a8.length])),(1001,.blk 3 (D.flat (a8.map (eInt .i64).d)))]⟩) (fun i=>i) ⟨(.sames M M),(.cons (.blk M M M) (.cons (.blk M M M) (.cons (EntW.mix aB M (SubC.of_eq M) (SubC.of_eq M) M M) (.cons (EntW.lst M) .nil)))),bD [0,1,1000,1001] M (by decide),fun _ _=>M⟩ ?_
   refine jU 1 2 M M M (by decide) cl40 func40 M (.cons (svR M) (.cons (svI M) .nil)) ntmps40 (nle M) M hO.semiL fun O1 hO1=>?_
   show IWP _ _ _ _ ⟨[(0,.ref 1000 0),(1,.int .i64 x1)],[(2,.kept 1 (.dead::(.dead::(.ref 0 0::(.dead::(.dead::(.dead::(.ref 1 0::(dd_ 12 (.ref 1000 0::(.int .i64 x1::(dd_ 11 [])))))))))))),(0,.blk 26 [.ref 1000 0]),(1,.blk 24 [.nils]),(1000,.blk 62 (mixD aB.toEnc0 (w26 a1 a2 a3 a4 a5) a6 [.int .i64 a7,.osl 1001 (eInt .i64).sz a8.length])),(1001,.blk 3 (D.flat (a8.map (eInt .i64).d)))]⟩ _
   refine aD (aA M (cY (cs:=[.ref _ _]) 3 M M (lb M) M (svR M) M M)<|aA M (cY (cs:=[.int _ _]) 4 M M (lb M) M (svI M) M M)<|aA M (aF M M (lb M) (sv (d:=.nilf) M))<|aC ?_)
   refine aD (aA M (lW M M (lb M) (.cons (svR M) (.cons (svR M) .nil)))<|aA M (aF M M (lb M) (sv (d:=.fn 53 q20) M))<|aC ?_)
   refine bB ?_
   refine ⟨.inr M,2,_,[.fn 53 [.ref 3 0,.ref 4 0]],(.cons (sv M) .nil),M,M,⟨[(2,.ref 0 0),(6,.ref 1 0),(21,.fn 53 [.ref 3 0,.ref 4 0])],[(0,.blk 26 [.ref 1000 0]),(1,.blk 24 [.nils]),(3,.blk 26 [.ref 1000 0]),(4,.blk 3 [.int .i64 x1]),(1000,.blk 62 (mixD aB.toEnc0 (w26 a1 a2 a3 a4 a5) a6 [.int .i64 a7,.osl 1001 (eInt .i64).sz a8.length])),(1001,.blk 3 (D.flat (a8.map (eInt .i64).d)))]⟩,(fun i=>i),⟨(.sames M M),(.cons (.blk M M M) (.cons (.blk M M M) (.cons (.blk M M M) (.cons (.blk M M M) (.cons (EntW.mix aB M (SubC.of_eq M) (SubC.of_eq M) M M) (.cons (EntW.lst M) .nil)))))),bD [0,1,3,4,1000,1001] M (by decide),fun _ _=>M⟩,?_⟩
   refine aC ?_
   refine bA ?_
   refine pG (S':=⟨[(2,.ref 0 0),(6,.ref 1 0),(21,.fn 53 [.ref 3 0,.ref 4 0])],[(0,.blk 26 [.ref 1000 0]),(1,.blk 24 [.nils]),(3,.blk 26 [.ref 1000 0]),(4,.blk 3 [.int .i64 x1]),(1000,.blk 62 (mixD aB.toEnc0 (w26 a1 a2 a3 a4 a5) a6 [.int .i64 a7,.osl 1001 (eInt .i64).sz a8.length])),(1001,.blk 3 (D.flat (a8.map (eInt .i64).d)))]⟩) (fun i=>i) ⟨(.sames M M),(.cons (.blk M M M) (.cons (.blk M M M) (.cons (.blk M M M) (.cons (.blk M M M) (.cons (EntW.mix aB M (SubC.of_eq M) (SubC.of_eq M) M M) (.cons (EntW.lst M) .nil)))))),bD [0,1,3,4,1000,1001] M (by decide),fun _ _=>M⟩ ?_
   refine pZ 1 5 6 (sv (d:=.fn 53 q20) M) cl53 func53 M M ntmps53 (nle M) M M hO.semiL (List.forall_mem_nil _) fun O1 hO1 hlc1=>?_
   show IWP _ _ _ _ ⟨[(0,.yld 5),(1,.ref 3 0),(2,.ref 4 0)],[(6,.kept 1 (.dead::(.dead::(.ref 0 0::(.dead::(.dead::(.dead::(.ref 1 0::(dd_ 14 (.fn 53 [.ref 3 0,.ref 4 0]::(dd_ 10 []))))))))))),(5,.loop 1 [.dead,.dead,.ref 0 0,.dead,.dead,.dead,.ref 1 0,.dead,.dead,.dead,.dead,.dead,.dead,.dead,.dead,.dead,.dead,.dead,.dead,.dead,.dead,.fn 53 [.ref 3 0,.ref 4 0],.dead,.dead,.dead,.dead,.dead,.dead,.dead,.dead,.dead,.dead] .ready none),(0,.blk 26 [.ref 1000 0]),(1,.blk 24 [.nils]),(3,.blk 26 [.ref 1000 0]),(4,.blk 3 [.int .i64 x1]),(1000,.blk 62 (mixD aB.toEnc0 (w26 a1 a2 a3 a4 a5) a6 [.int .i64 a7,.osl 1001 (eInt .i64).sz a8.length])),(1001,.blk 3 (D.flat (a8.map (eInt .i64).d)))]⟩ _
   refine aD (aA M (aI (d:=.ref _ _) M M (lb M) underlying26 ag26 ti26 (by decide) (svR M) M (nle M) M)<|aA M (aI (d:=.int _ _) M M (lb M) underlying3 ag3 ti3 (by decide) (svR M) M (nle M) M) <|?_)
   refine fS (S':=⟨[(0,.yld 5),(1,.ref 3 0),(6,.ref 1000 0),(7,.int .i64 x1)],[(0,.blk 26 [.ref 1000 0]),(1,.blk 24 [.nils]),(3,.blk 26 [.ref 1000 0]),(4,.blk 3 [.int .i64 x1]),(5,.loop 1 [.dead,.dead,.ref 0 0,.dead,.dead,.dead,.ref 1 0,.dead,.dead,.dead,.dead,.dead,.dead,.dead,.dead,.dead,.dead,.dead,.dead,.dead,.dead,.fn 53 [.ref 3 0,.ref 4 0],.dead,.dead,.dead,.dead,.dead,.dead,.dead,.dead,.dead,.dead] .ready none),(6,.kept 1 (.dead::(.dead::(.ref 0 0::(.dead::(.dead::(.dead::(.ref 1 0::(dd_ 14 (.fn 53 [.ref 3 0,.ref 4 0]::(dd_ 10 []))))))))))),(1000,.blk 62 (mixD aB.toEnc0 (w26 a1 a2 a3 a4 a5) a6 [.int .i64 a7,.osl 1001 (eInt .i64).sz a8.length])),(1001,.blk 3 (D.flat (a8.map (eInt .i64).d)))]⟩) (fun i=>i) ⟨(.sames M M),(.cons (.blk M M M) (.cons (.blk M M M) (.cons (.blk M M M) (.cons (.blk M M M) (.cons (.loop M M M) (.cons (.kept M M M) (.cons (EntW.mix aB M (SubC.of_eq M) (SubC.of_eq M) M M) (.cons (EntW.lst M) .nil)))))))),bD [0,1,3,4,5,6,1000,1001] M (by decide),fun _ _=>M⟩ ?_
   refine jU 2 7 M M M (by decide) cl54 func54 M (.cons (svR M) (.cons (svI M) .nil)) ntmps54 (nle M) M hO1 fun O2 hO2=>?_
   show IWP _ _ _ _ ⟨[(0,.ref 1000 0),(1,.int .i64 x1)],[(7,.kept 2 (.yld 5::(.ref 3 0::(dd_ 4 (.ref 1000 0::(.int .i64 x1::(dd_ 17 []))))))),(0,.blk 26 [.ref 1000 0]),(1,.blk 24 [.nils]),(3,.blk 26 [.ref 1000 0]),(4,.blk 3 [.int .i64 x1]),(5,.loop 1 [.dead,.dead,.ref 0 0,.dead,.dead,.dead,.ref 1 0,.dead,.dead,.dead,.dead,.dead,.dead,.dead,.dead,.dead,.dead,.dead,.dead,.dead,.dead,.fn 53 [.ref 3 0,.ref 4 0],.dead,.dead,.dead,.dead,.dead,.dead,.dead,.dead,.dead,.dead] .ready none),(6,.kept 1 (.dead::(.dead::(.ref 0 0::(.dead::(.dead::(.dead::(.ref 1 0::(dd_ 14 (.fn 53 [.ref 3 0,.ref 4 0]::(dd_ 10 []))))))))))),(1000,.blk 62 (mixD aB.toEnc0 (w26 a1 a2 a3 a4 a5) a6 [.int .i64 a7,.osl 1001 (eInt .i64).sz a8.length])),(1001,.blk 3 (D.flat (a8.map (eInt .i64).d)))]⟩ _
   refine aD (aA M (aF M M (lb M) (sv (d:=.nilp) M))<|aC ?_)
   refine aT ?_
   obtain ⟨x55,hx55,h⟩:=aY h
   refine aD (aA M (mvI M M M M)<|aA M (aQ M M (lb M) (svI M) (sv (d:=.int _ (-1)) M) M hx55)<|aC ?_)
   refine aW (b:=_) M (fun hc56=>?_) (fun hc56=>?_)
   ·
    replace h:=cI h hc56
    refine aD (aA M (mvR M M M M)<|aA M (aK M M (lb M) (svR M))<|aA M (faR 389 M M M underlying62 M ti3 (lb M) M M)<|aA M (aF M M (lb M) (svR M))<|aC ?_)
    refine bB ?_
    refine bH ?_
    refine ⟨.inr M,7,_,[.ref 1000 389],(.cons (sv M) .nil),M,M,⟨[(0,.yld 5),(1,.ref 3 0),(8,.ref 1000 389)],[(0,.blk 26 [.ref 1000 0]),(1,.blk 24 [.nils]),(3,.blk 26 [.ref 1000 0]),(4,.blk 3 [.int .i64 x1]),(5,.loop 1 [.dead,.dead,.ref 0 0,.dead,.dead,.dead,.ref 1 0,.dead,.dead,.dead,.dead,.dead,.dead,.dead,.dead,.dead,.dead,.dead,.dead,.dead,.dead,.fn 53 [.ref 3 0,.ref 4 0],.dead,.dead,.dead,.dead,.dead,.dead,.dead,.dead,.dead,.dead] .ready none),(6,.kept 1 (.dead::(.dead::(.ref 0 0::(.dead::(.dead::(.dead::(.ref 1 0::(dd_ 14 (.fn 53 [.ref 3 0,.ref 4 0]::(dd_ 10 []))))))))))),(1000,.blk 62 (mixD aB.toEnc0 (w26 a1 a2 a3 a4 a5) a6 [.int .i64 a7,.osl 1001 (eInt .i64).sz a8.length])),(1001,.blk 3 (D.flat (a8.map (eInt .i64).d)))]⟩,(fun i=>i),⟨(.sames M M),(.cons (.blk M M M) (.cons (.blk M M M) (.cons (.blk M M M) (.cons (.blk M M M) (.cons (.loop M M M) (.cons (.kept M M M) (.cons (EntW.mix aB M (SubC.of_eq M) (SubC.of_eq M) M M) (.cons (EntW.lst M) .nil)))))))),bD [0,1,3,4,5,6,1000,1001] M (by decide),fun _ _=>M⟩,?_⟩
    obtain ⟨hk57,h⟩:=lF h
    refine aA M (aK M M (lb M) (svR M))<|aA M (gN aB.toEnc0 (d:=.int _ _) (n:=64) (k:=0) M M (lb M) underlying3 ag3 ti3 (by decide) (svR M) M hk57 (by rfl) (nle M) (by rfl))<|aA M (asI M M M M)<|aC ?_
    refine bA ?_
    refine cQ (α:=Nat × Int × (List Int)) (fun z=>⟨[(0,.yld 5),(1,.ref 3 0),(4,.int .i64 z.2.1)],[(5,.loop 1 [.dead,.dead,.ref 0 0,.dead,.dead,.dead,.ref 1 0,.dead,.dead,.dead,.dead,.dead,.dead,.dead,.dead,.dead,.dead,.dead,.dead,.dead,.dead,.fn 53 [.ref 3 0,.ref 4 0],.dead,.dead,.dead,.dead,.dead,.dead,.dead,.dead,.dead,.dead] .ready none),(3,.blk 26 [.ref 1000 0]),(6,.kept 1 (.dead::(.dead::(.ref 0 0::(.dead::(.dead::(.dead::(.ref 1 0::(dd_ 14 (.fn 53 [.ref 3 0,.ref 4 0]::(dd_ 10 []))))))))))),(1000,.blk 62 (mixD aB.toEnc0 (w26 a1 a2 a3 a4 a5) a6 [.int .i64 a7,.osl 1001 (eInt .i64).sz a8.length])),(1001,.blk 3 (D.flat (a8.map (eInt .i64).d))),(0,.blk 26 [.ref 1000 0]),(1,.blk 24 [.osl 28 (eInt .i64).sz z.2.2.length]),(4,.blk 3 [.int .i64 x1]),(28,.blk 3 (D.flat (z.2.2.map (eInt .i64).d)))]⟩) (fun z=>fN a1 a2 a3 a4 a5 a6 a7 a8 z.1 z.2.1 z.2.2=some r) (fun z=>z.1) (fuel,a7,([]:(List Int))) (fun i=>if i=28 then 86 else i) ⟨(.sames M M),(.cons (.loop M M M) (.cons (.blk M M M) (.cons (.kept M M M) (.cons (EntW.mix aB M (SubC.of_eq M) (SubC.of_eq M) M M) (.cons (EntW.lst M) (.cons (.blk M M M) (.cons (.sub M (.nilo .nil) M) (.cons (.blk M M M) (.cons (.nilb M) .nil))))))))),bD [5,3,6,1000,1001,0,1,4,86] M (by decide),(fun i hi=>by first | rfl | (show (if _ then _ else _)=_; (repeat' split) <;> omega))⟩ ?_ ?_
    ·exact h
    ·
     rintro ⟨n3,v64,v65⟩ h
     cases n3 with
     | zero=>exact absurd h (by unfold fN; exact nofun)
     | succ n3 =>
      unfold fN at h
      refine aT ?_
      obtain ⟨x72,hx72,h⟩:=aY h
      refine aD (aA M (mvI M M M M)<|aA M (aQ M M (lb M) (svI M) (sv (d:=.int _ (-1)) M) M hx72)<|aC ?_)
      refine aW (b:=_) M (fun hc73=>?_) (fun hc73=>?_)
      ·
       replace h:=cI h hc73
       refine aU ?_
       refine aO ?_
       refine bA ?_
       obtain ⟨x74,hx74,h⟩:=aR h
       obtain ⟨x75,hx75,h⟩:=aR h
       refine aD (aA M (aI (d:=.ref _ _) M M (lb M) underlying26 ag26 ti26 (by decide) (svR M) M (nle M) M)<|aA M (mvI M M M M)<|aA M (aK M M (lb M) (svR M))<|aA M (faR 5 M M M underlying62 M ti60 (lb M) M M)<|aA M (cT aB.toEnc0 M M (lb M) underlying60 ti59 (svR M) hk57 (svI M) hx74)<|aA M (bQ M M (lb M) underlying59 M ti3 (by decide) (svR M) (k':=3) M)<|aA M (bZ aB.toEnc0 (b:=5) (k:=3) (d:=.int _ _) M M (lb M) underlying3 ag3 ti3 (by decide) (svR M) M M hx75 (nle M) M)<|aA M (asI M M M M)<|aC ?_)
       refine aT ?_
       refine aD (aA M (aP M M (lb M) (sv (d:=.yld _) M))<|aA M (mvI M M M M) <|?_)
       refine fS (S':=⟨[(0,.yld 5),(1,.ref 3 0),(5,.int .i64 x75.next),(20,.yld 5),(21,.int .i64 v64)],[(0,.blk 26 [.ref 1000 0]),(1,.blk 24 [.osl 28 (eInt .i64).sz v65.length]),(3,.blk 26 [.ref 1000 0]),(4,.blk 3 [.int .i64 x1]),(5,.loop 1 [.dead,.dead,.ref 0 0,.dead,.dead,.dead,.ref 1 0,.dead,.dead,.dead,.dead,.dead,.dead,.dead,.dead,.dead,.dead,.dead,.dead,.dead,.dead,.fn 53 [.ref 3 0,.ref 4 0],.dead,.dead,.dead,.dead,.dead,.dead,.dead,.dead,.dead,.dead] .ready none),(6,.kept 1 (.dead::(.dead::(.ref 0 0::(.dead::(.dead::(.dead::(.ref 1 0::(dd_ 14 (.fn 53 [.ref 3 0,.ref 4 0]::(dd_ 10 []))))))))))),(28,.blk 3 (D.flat (v65.map (eInt .i64).d))),(1000,.blk 62 (mixD aB.toEnc0 (w26 a1 a2 a3 a4 a5) a6 [.int .i64 a7,.osl 1001 (eInt .i64).sz a8.length])),(1001,.blk 3 (D.flat (a8.map (eInt .i64).d)))]⟩) (fun i=>i) ⟨(.sames M M),(.cons (.blk M M M) (.cons (.blk M M M) (.cons (.blk M M M) (.cons (.blk M M M) (.cons (.loop M M M) (.cons (.kept M M M) (.cons (EntW.lst M) (.cons (EntW.mix aB M (SubC.of_eq M) (SubC.of_eq M) M M) (.cons (EntW.lst M) .nil))))))))),bD [0,1,3,4,5,6,28,1000,1001] M (by decide),fun _ _=>M⟩ ?_
       refine mY 2 5 29 M M M (by decide) M (.cons (svI M) .nil) M M M M M M hO1.round hlc1 ⟨[(22,.int .i64 v64),(2,.ref 0 0),(6,.ref 1 0)],[(0,.blk 26 [.ref 1000 0]),(1,.blk 24 [.osl 28 (eInt .i64).sz v65.length]),(3,.blk 26 [.ref 1000 0]),(4,.blk 3 [.int .i64 x1]),(5,.loop 1 [.dead,.dead,.ref 0 0,.dead,.dead,.dead,.ref 1 0,.dead,.dead,.dead,.dead,.dead,.dead,.dead,.dead,.dead,.dead,.dead,.dead,.dead,.dead,.fn 53 [.ref 3 0,.ref 4 0],.dead,.dead,.dead,.dead,.dead,.dead,.dead,.dead,.dead,.dead] .ready none),(6,.kept 1 (.dead::(.dead::(.ref 0 0::(.dead::(.dead::(.dead::(.ref 1 0::(dd_ 14 (.fn 53 [.ref 3 0,.ref 4 0]::(dd_ 10 []))))))))))),(28,.blk 3 (D.flat (v65.map (eInt .i64).d))),(29,.kept 2 (.yld 5::(.ref 3 0::(.dead::(.dead::(.dead::(.int .i64 x75.next::(dd_ 14 (.yld 5::(.int .i64 v64::(.dead::(.dead::(.dead::[]))))))))))))),(1000,.blk 62 (mixD aB.toEnc0 (w26 a1 a2 a3 a4 a5) a6 [.int .i64 a7,.osl 1001 (eInt .i64).sz a8.length])),(1001,.blk 3 (D.flat (a8.map (eInt .i64).d)))]⟩ (fun i=>i) ⟨(.sames M M),(.cons (.blk M M M) (.cons (.blk M M M) (.cons (.blk M M M) (.cons (.blk M M M) (.cons (.loop M M M) (.cons (.kept M M M) (.cons (EntW.lst M) (.cons (.kept M M M) (.cons (EntW.mix aB M (SubC.of_eq M) (SubC.of_eq M) M M) (.cons (EntW.lst M) .nil)))))))))),bD [0,1,3,4,5,6,28,29,1000,1001] M (by decide),fun _ _=>M⟩ fun O2=>?_
       refine aX (aA M (asI M M M M)<|bK ?_)
       refine ⟨M,5,_,M,⟨[(2,.ref 0 0),(6,.ref 1 0),(7,.int .i64 v64)],[(0,.blk 26 [.ref 1000 0]),(1,.blk 24 [.osl 28 (eInt .i64).sz v65.length]),(3,.blk 26 [.ref 1000 0]),(4,.blk 3 [.int .i64 x1]),(5,.loop 1 [.dead,.dead,.ref 0 0,.dead,.dead,.dead,.ref 1 0,.dead,.dead,.dead,.dead,.dead,.dead,.dead,.dead,.dead,.dead,.dead,.dead,.dead,.dead,.fn 53 [.ref 3 0,.ref 4 0],.dead,.dead,.dead,.dead,.dead,.dead,.dead,.dead,.dead,.dead] .busy none),(6,.kept 1 (.dead::(.dead::(.ref 0 0::(.dead::(.dead::(.dead::(.ref 1 0::(dd_ 14 (.fn 53 [.ref 3 0,.ref 4 0]::(dd_ 10 []))))))))))),(28,.blk 3 (D.flat (v65.map (eInt .i64).d))),(29,.kept 2 (.yld 5::(.ref 3 0::(.dead::(.dead::(.dead::(.int .i64 x75.next::(dd_ 14 (.yld 5::(.int .i64 v64::(.dead::(.dead::(.dead::[]))))))))))))),(1000,.blk 62 (mixD aB.toEnc0 (w26 a1 a2 a3 a4 a5) a6 [.int .i64 a7,.osl 1001 (eInt .i64).sz a8.length])),(1001,.blk 3 (D.flat (a8.map (eInt .i64).d)))]⟩,(fun i=>i),⟨(.sames M M),(.cons (.blk M M M) (.cons (.blk M M M) (.cons (.blk M M M) (.cons (.blk M M M) (.cons (.loop M M M) (.cons (.kept M M M) (.cons (EntW.lst M) (.cons (.kept M M M) (.cons (EntW.mix aB M (SubC.of_eq M) (SubC.of_eq M) M M) (.cons (EntW.lst M) .nil)))))))))),bD [0,1,3,4,5,6,28,29,1000,1001] M (by decide),fun _ _=>M⟩,?_⟩
       refine bA ?_
       obtain ⟨x76,hx76,h⟩:=aR h
       obtain ⟨x77,hx77,h⟩:=aR h
       refine jM M [⟨[6],[1],[(23,.osl 28 (eInt .i64).sz v65.length)],[]⟩,
        ⟨[2],[0],[(24,.ref 1000 0)],[]⟩,
        ⟨[7],[],[(25,.int .i64 v64)],[]⟩,
        ⟨[24,25],[1000,1001],[(26,.int .i64 x76)],[]⟩,
        ⟨[26],[30],[(27,.osl 30 (eInt .i64).sz (([x76]:(List Int)).length))],[(30,.blk 3 (D.flat (([x76]:(List Int)).map (eInt .i64).d)))]⟩,
        ⟨[23,27],[28,30,31],[(28,.osl 31 (eInt .i64).sz x77.length)],[(31,.blk 3 (D.flat (x77.map (eInt .i64).d))),(28,.none)]⟩,
        ⟨[6,28],[1],[],[(1,.blk 24 [.osl 31 (eInt .i64).sz x77.length])]⟩] M ?_ (by kernel_rfl) ?_
       ·refine .cons (lop M M fun S hA=>(aI (d:=.osl _ _ _) M M (lb M) underlying24 ag24 ti24 (by decide) (svaR hA M M) (agi hA M M) (nle M) M)) ?_
        refine .cons (lop M M fun S hA=>(aI (d:=.ref _ _) M M (lb M) underlying26 ag26 ti26 (by decide) (svaR hA M M) (agi hA M M) (nle M) M)) ?_
        refine .cons (lop M M fun S hA=>(aP M M (lb M) (svaI hA M M))) ?_
        refine .cons (lop M M fun S hA=>(eI (r':=.int .i64 x76) (V:=[(1000,.blk 62 (mixD aB.toEnc0 (w26 a1 a2 a3 a4 a5) a6 [.int .i64 a7,.osl 1001 (eInt .i64).sz a8.length])),(1001,.blk 3 (D.flat (a8.map (eInt .i64).d)))]) 30 [1000,1001] M M (lb M) cl32 (.cons (svaR hA M M) (.cons (svaI hA M M) .nil)) M M M ⟨by decide,M,List.forall_mem_cons.2 ⟨⟨M,M,(gT aB (agi hA M M) M M),(bV aB M M)⟩,List.forall_mem_cons.2 ⟨⟨M,M,(gE (eInt .i64) (agi hA M M)),(bN (eInt .i64))⟩,List.forall_mem_nil _⟩⟩⟩ (jC _ _ _ _ _ _ _ _ _ _ hx76) M M (List.forall_mem_cons.2 ⟨⟨M,(bV aB M M)⟩,List.forall_mem_cons.2 ⟨⟨M,(bN (eInt .i64))⟩,List.forall_mem_nil _⟩⟩) (by simp only [List.map_cons,List.map_nil,Ent.ren,bJ,bY,cB]; rfl) (List.forall_mem_cons.2 ⟨(agi hA M M),List.forall_mem_cons.2 ⟨(agi hA M M),List.forall_mem_nil _⟩⟩) M)) ?_
        refine .cons (lop M M fun S hA=>(lS (eInt .i64).toEnc0 ([x76]:(List Int)) 30 M M (lb M) underlying24 ti3 (agi hA M M) (.cons (svaI hA M M) .nil) M M (by decide))) ?_
        refine .cons (lop M M fun S hA=>(kJ (eInt .i64).toEnc0 31 M M (lb M) underlying24 ti3 M (agr hA M M) M (agi hA M M) (agi hA M M) (qV (eInt .i64).toEnc0 (agr hA M M) M (agi hA M M)) hx77)) ?_
        refine .cons (lop M M fun S hA=>(cO (ds':=[.osl _ _ _]) M M ti24 (svaR hA M M) (agi hA M M) (sv (d:=.osl _ _ _) (agr hA M M)) M M M (nle M) M)) ?_
        exact .nil
       refine bL ?_
       refine ⟨5,29,_,_,none,M,M,M,M,(by decide),⟨[(0,.yld 5),(1,.ref 3 0),(5,.int .i64 x75.next),(22,.bool true)],[(0,.blk 26 [.ref 1000 0]),(1,.blk 24 [.osl 31 (eInt .i64).sz x77.length]),(3,.blk 26 [.ref 1000 0]),(4,.blk 3 [.int .i64 x1]),(5,.loop 1 [.dead,.dead,.ref 0 0,.dead,.dead,.dead,.ref 1 0,.dead,.dead,.dead,.dead,.dead,.dead,.dead,.dead,.dead,.dead,.dead,.dead,.dead,.dead,.fn 53 [.ref 3 0,.ref 4 0],.dead,.dead,.dead,.dead,.dead,.dead,.dead,.dead,.dead,.dead] .ready none),(6,.kept 1 (.dead::(.dead::(.ref 0 0::(.dead::(.dead::(.dead::(.ref 1 0::(dd_ 14 (.fn 53 [.ref 3 0,.ref 4 0]::(dd_ 10 []))))))))))),(31,.blk 3 (D.flat (x77.map (eInt .i64).d))),(1000,.blk 62 (mixD aB.toEnc0 (w26 a1 a2 a3 a4 a5) a6 [.int .i64 a7,.osl 1001 (eInt .i64).sz a8.length])),(1001,.blk 3 (D.flat (a8.map (eInt .i64).d)))]⟩,(fun i=>i),⟨(.sames M M),(.cons (.blk M M M) (.cons (.blk M M M) (.cons (.blk M M M) (.cons (.blk M M M) (.cons (.loop M M M) (.cons (.kept M M M) (.cons (EntW.lst M) (.cons (EntW.mix aB M (SubC.of_eq M) (SubC.of_eq M) M M) (.cons (EntW.lst M) .nil))))))))),bD [0,1,3,4,5,6,31,1000,1001] M (by decide),fun _ _=>M⟩,?_⟩
       refine aA M (eY M M (lb M) (svB M))<|aC ?_
       refine gH M M ?_
       refine aU ?_
       refine aO ?_
       refine aX (aA M (mvI M M M M)<|aA M (asI M M M M)<|bK ?_)
       refine bL ?_
       refine aO ⟨(n3,x75.next,x77),(fun i=>if i=28 then 31 else i),⟨(.sames M M),(.cons (.loop M M M) (.cons (.blk M M M) (.cons (.kept M M M) (.cons (EntW.mix aB M (SubC.of_eq M) (SubC.of_eq M) M M) (.cons (EntW.lst M) (.cons (.blk M M M) (.cons (.blk M M M) (.cons (.blk M M M) (.cons (EntW.lst M) .nil))))))))),bD [5,3,6,1000,1001,0,1,4,31] M (by decide),(fun i hi=>by first | rfl | (show (if _ then _ else _)=_; (repeat' split) <;> omega))⟩,?_,?_⟩
       exact h
       exact Nat.lt_succ_self _
      ·
       replace h:=cJ h hc73
       refine cX ?_
       refine bR ?_
       refine bR ?_
       refine cZ ?_
       refine ⟨.inl M,5,6,_,_,_,_,M,(by simp),M,M,⟨[(6,.ref 1 0)],[(1,.blk 24 [.osl 28 (eInt .i64).sz v65.length]),(28,.blk 3 (D.flat (v65.map (eInt .i64).d))),(1000,.blk 62 (mixD aB.toEnc0 (w26 a1 a2 a3 a4 a5) a6 [.int .i64 a7,.osl 1001 (eInt .i64).sz a8.length])),(1001,.blk 3 (D.flat (a8.map (eInt .i64).d)))]⟩,(fun i=>i),⟨(.sames M M),(.cons (.blk M M M) (.cons (EntW.lst M) (.cons (EntW.mix aB M (SubC.of_eq M) (SubC.of_eq M) M M) (.cons (EntW.lst M) .nil)))),bD [1,28,1000,1001] M (by decide),fun _ _=>M⟩,?_⟩
       refine bL ?_
       refine aO ⟨v65,(fun i=>i),⟨(.sames M M),(.cons (.blk M M M) (.cons (EntW.mix aB M (SubC.of_eq M) (SubC.of_eq M) M M) (.cons (EntW.lst M) (.cons (EntW.lst M) .nil)))),bD [1,1000,1001,28] M (by decide),fun _ _=>M⟩,?_⟩
       exact h
   ·
    replace h:=cJ h hc56
    refine aU ?_
    refine aO ?_
    obtain ⟨x78,hx78,h⟩:=aR h
    obtain ⟨hk79,h⟩:=lF h
    refine aD (aA M (mvR M M M M)<|aA M (mvI M M M M)<|aA M (aK M M (lb M) (svR M))<|aA M (faR 5 M M M underlying62 M ti60 (lb M) M M)<|aA M (cT aB.toEnc0 M M (lb M) underlying60 ti59 (svR M) hk79 (svI M) hx78)<|aA M (bQ M M (lb M) underlying59 M ti3 (by decide) (svR M) (k':=2) M)<|aA M (aF M M (lb M) (svR M))<|aC ?_)
    refine bB ?_
    refine ⟨.inr M,7,_,[.ref 1000 (5 + (((x1:Int).toNat) * aB.sz + 2))],(.cons (sv M) .nil),M,M,⟨[(0,.yld 5),(1,.ref 3 0),(8,.ref 1000 (5 + (((x1:Int).toNat) * aB.sz + 2)))],[(0,.blk 26 [.ref 1000 0]),(1,.blk 24 [.nils]),(3,.blk 26 [.ref 1000 0]),(4,.blk 3 [.int .i64 x1]),(5,.loop 1 [.dead,.dead,.ref 0 0,.dead,.dead,.dead,.ref 1 0,.dead,.dead,.dead,.dead,.dead,.dead,.dead,.dead,.dead,.dead,.dead,.dead,.dead,.dead,.fn 53 [.ref 3 0,.ref 4 0],.dead,.dead,.dead,.dead,.dead,.dead,.dead,.dead,.dead,.dead] .ready none),(6,.kept 1 (.dead::(.dead::(.ref 0 0::(.dead::(.dead::(.dead::(.ref 1 0::(dd_ 14 (.fn 53 [.ref 3 0,.ref 4 0]::(dd_ 10 []))))))))))),(1000,.blk 62 (mixD aB.toEnc0 (w26 a1 a2 a3 a4 a5) a6 [.int .i64 a7,.osl 1001 (eInt .i64).sz a8.length])),(1001,.blk 3 (D.flat (a8.map (eInt .i64).d)))]⟩,(fun i=>i),⟨(.sames M M),(.cons (.blk M M M) (.cons (.blk M M M) (.cons (.blk M M M) (.cons (.blk M M M) (.cons (.loop M M M) (.cons (.kept M M M) (.cons (EntW.mix aB M (SubC.of_eq M) (SubC.of_eq M) M M) (.cons (EntW.lst M) .nil)))))))),bD [0,1,3,4,5,6,1000,1001] M (by decide),fun _ _=>M⟩,?_⟩
    obtain ⟨x80,hx80,h⟩:=aR h
    refine aA M (aK M M (lb M) (svR M))<|aA M (bZ aB.toEnc0 (b:=5) (k:=2) (d:=.int _ _) M M (lb M) underlying3 ag3 ti3 (by decide) (svR M) M M hx80 (nle M) M)<|aA M (asI M M M M)<|aC ?_
    refine bA ?_
    refine cQ (α:=Nat × Int × (List Int)) (fun z=>⟨[(0,.yld 5),(1,.ref 3 0),(4,.int .i64 z.2.1)],[(5,.loop 1 [.dead,.dead,.ref 0 0,.dead,.dead,.dead,.ref 1 0,.dead,.dead,.dead,.dead,.dead,.dead,.dead,.dead,.dead,.dead,.dead,.dead,.dead,.dead,.fn 53 [.ref 3 0,.ref 4 0],.dead,.dead,.dead,.dead,.dead,.dead,.dead,.dead,.dead,.dead] .ready none),(3,.blk 26 [.ref 1000 0]),(6,.kept 1 (.dead::(.dead::(.ref 0 0::(.dead::(.dead::(.dead::(.ref 1 0::(dd_ 14 (.fn 53 [.ref 3 0,.ref 4 0]::(dd_ 10 []))))))))))),(1000,.blk 62 (mixD aB.toEnc0 (w26 a1 a2 a3 a4 a5) a6 [.int .i64 a7,.osl 1001 (eInt .i64).sz a8.length])),(1001,.blk 3 (D.flat (a8.map (eInt .i64).d))),(0,.blk 26 [.ref 1000 0]),(1,.blk 24 [.osl 28 (eInt .i64).sz z.2.2.length]),(4,.blk 3 [.int .i64 x1]),(28,.blk 3 (D.flat (z.2.2.map (eInt .i64).d)))]⟩) (fun z=>fM a1 a2 a3 a4 a5 a6 a7 a8 z.1 z.2.1 z.2.2=some r) (fun z=>z.1) (fuel,x80.first,([]:(List Int))) (fun i=>if i=28 then 86 else i) ⟨(.sames M M),(.cons (.loop M M M) (.cons (.blk M M M) (.cons (.kept M M M) (.cons (EntW.mix aB M (SubC.of_eq M) (SubC.of_eq M) M M) (.cons (EntW.lst M) (.cons (.blk M M M) (.cons (.sub M (.nilo .nil) M) (.cons (.blk M M M) (.cons (.nilb M) .nil))))))))),bD [5,3,6,1000,1001,0,1,4,86] M (by decide),(fun i hi=>by first | rfl | (show (if _ then _ else _)=_; (repeat' split) <;> omega))⟩ ?_ ?_
    ·exact h
    ·
     rintro ⟨n4,v87,v88⟩ h
     cases n4 with
     | zero=>exact absurd h (by unfold fM; exact nofun)
     | succ n4 =>
      unfold fM at h
      refine aT ?_
      obtain ⟨x95,hx95,h⟩:=aY h
      refine aD (aA M (mvI M M M M)<|aA M (aQ M M (lb M) (svI M) (sv (d:=.int _ (-1)) M) M hx95)<|aC ?_)
      refine aW (b:=_) M (fun hc96=>?_) (fun hc96=>?_)
      ·
       replace h:=cI h hc96
       refine aU ?_
       refine aO ?_
       refine bA ?_
       obtain ⟨x97,hx97,h⟩:=aR h
       obtain ⟨x98,hx98,h⟩:=aR h
       refine aD (aA M (aI (d:=.ref _ _) M M (lb M) underlying26 ag26 ti26 (by decide) (svR M) M (nle M) M)<|aA M (mvI M M M M)<|aA M (aK M M (lb M) (svR M))<|aA M (faR 5 M M M underlying62 M ti60 (lb M) M M)<|aA M (cT aB.toEnc0 M M (lb M) underlying60 ti59 (svR M) hk79 (svI M) hx97)<|aA M (bQ M M (lb M) underlying59 M ti3 (by decide) (svR M) (k':=3) M)<|aA M (bZ aB.toEnc0 (b:=5) (k:=3) (d:=.int _ _) M M (lb M) underlying3 ag3 ti3 (by decide) (svR M) M M hx98 (nle M) M)<|aA M (asI M M M M)<|aC ?_)
       refine aT ?_
       refine aD (aA M (aP M M (lb M) (sv (d:=.yld _) M))<|aA M (mvI M M M M) <|?_)
       refine fS (S':=⟨[(0,.yld 5),(1,.ref 3 0),(5,.int .i64 x98.next),(20,.yld 5),(21,.int .i64 v87)],[(0,.blk 26 [.ref 1000 0]),(1,.blk 24 [.osl 28 (eInt .i64).sz v88.length]),(3,.blk 26 [.ref 1000 0]),(4,.blk 3 [.int .i64 x1]),(5,.loop 1 [.dead,.dead,.ref 0 0,.dead,.dead,.dead,.ref 1 0,.dead,.dead,.dead,.dead,.dead,.dead,.dead,.dead,.dead,.dead,.dead,.dead,.dead,.dead,.fn 53 [.ref 3 0,.ref 4 0],.dead,.dead,.dead,.dead,.dead,.dead,.dead,.dead,.dead,.dead] .ready none),(6,.kept 1 (.dead::(.dead::(.ref 0 0::(.dead::(.dead::(.dead::(.ref 1 0::(dd_ 14 (.fn 53 [.ref 3 0,.ref 4 0]::(dd_ 10 []))))))))))),(28,.blk 3 (D.flat (v88.map (eInt .i64).d))),(1000,.blk 62 (mixD aB.toEnc0 (w26 a1 a2 a3 a4 a5) a6 [.int .i64 a7,.osl 1001 (eInt .i64).sz a8.length])),(1001,.blk 3 (D.flat (a8.map (eInt .i64).d)))]⟩) (fun i=>i) ⟨(.sames M M),(.cons (.blk M M M) (.cons (.blk M M M) (.cons (.blk M M M) (.cons (.blk M M M) (.cons (.loop M M M) (.cons (.kept M M M) (.cons (EntW.lst M) (.cons (EntW.mix aB M (SubC.of_eq M) (SubC.of_eq M) M M) (.cons (EntW.lst M) .nil))))))))),bD [0,1,3,4,5,6,28,1000,1001] M (by decide),fun _ _=>M⟩ ?_
       refine mY 2 5 29 M M M (by decide) M (.cons (svI M) .nil) M M M M M M hO1.round hlc1 ⟨[(22,.int .i64 v87),(2,.ref 0 0),(6,.ref 1 0)],[(0,.blk 26 [.ref 1000 0]),(1,.blk 24 [.osl 28 (eInt .i64).sz v88.length]),(3,.blk 26 [.ref 1000 0]),(4,.blk 3 [.int .i64 x1]),(5,.loop 1 [.dead,.dead,.ref 0 0,.dead,.dead,.dead,.ref 1 0,.dead,.dead,.dead,.dead,.dead,.dead,.dead,.dead,.dead,.dead,.dead,.dead,.dead,.dead,.fn 53 [.ref 3 0,.ref 4 0],.dead,.dead,.dead,.dead,.dead,.dead,.dead,.dead,.dead,.dead] .ready none),(6,.kept 1 (.dead::(.dead::(.ref 0 0::(.dead::(.dead::(.dead::(.ref 1 0::(dd_ 14 (.fn 53 [.ref 3 0,.ref 4 0]::(dd_ 10 []))))))))))),(28,.blk 3 (D.flat (v88.map (eInt .i64).d))),(29,.kept 2 (.yld 5::(.ref 3 0::(.dead::(.dead::(.dead::(.int .i64 x98.next::(dd_ 14 (.yld 5::(.int .i64 v87::(.dead::(.dead::(.dead::[]))))))))))))),(1000,.blk 62 (mixD aB.toEnc0 (w26 a1 a2 a3 a4 a5) a6 [.int .i64 a7,.osl 1001 (eInt .i64).sz a8.length])),(1001,.blk 3 (D.flat (a8.map (eInt .i64).d)))]⟩ (fun i=>i) ⟨(.sames M M),(.cons (.blk M M M) (.cons (.blk M M M) (.cons (.blk M M M) (.cons (.blk M M M) (.cons (.loop M M M) (.cons (.kept M M M) (.cons (EntW.lst M) (.cons (.kept M M M) (.cons (EntW.mix aB M (SubC.of_eq M) (SubC.of_eq M) M M) (.cons (EntW.lst M) .nil)))))))))),bD [0,1,3,4,5,6,28,29,1000,1001] M (by decide),fun _ _=>M⟩ fun O2=>?_
       refine aX (aA M (asI M M M M)<|bK ?_)
       refine ⟨M,5,_,M,⟨[(2,.ref 0 0),(6,.ref 1 0),(7,.int .i64 v87)],[(0,.blk 26 [.ref 1000 0]),(1,.blk 24 [.osl 28 (eInt .i64).sz v88.length]),(3,.blk 26 [.ref 1000 0]),(4,.blk 3 [.int .i64 x1]),(5,.loop 1 [.dead,.dead,.ref 0 0,.dead,.dead,.dead,.ref 1 0,.dead,.dead,.dead,.dead,.dead,.dead,.dead,.dead,.dead,.dead,.dead,.dead,.dead,.dead,.fn 53 [.ref 3 0,.ref 4 0],.dead,.dead,.dead,.dead,.dead,.dead,.dead,.dead,.dead,.dead] .busy none),(6,.kept 1 (.dead::(.dead::(.ref 0 0::(.dead::(.dead::(.dead::(.ref 1 0::(dd_ 14 (.fn 53 [.ref 3 0,.ref 4 0]::(dd_ 10 []))))))))))),(28,.blk 3 (D.flat (v88.map (eInt .i64).d))),(29,.kept 2 (.yld 5::(.ref 3 0::(.dead::(.dead::(.dead::(.int .i64 x98.next::(dd_ 14 (.yld 5::(.int .i64 v87::(.dead::(.dead::(.dead::[]))))))))))))),(1000,.blk 62 (mixD aB.toEnc0 (w26 a1 a2 a3 a4 a5) a6 [.int .i64 a7,.osl 1001 (eInt .i64).sz a8.length])),(1001,.blk 3 (D.flat (a8.map (eInt .i64).d)))]⟩,(fun i=>i),⟨(.sames M M),(.cons (.blk M M M) (.cons (.blk M M M) (.cons (.blk M M M) (.cons (.blk M M M) (.cons (.loop M M M) (.cons (.kept M M M) (.cons (EntW.lst M) (.cons (.kept M M M) (.cons (EntW.mix aB M (SubC.of_eq M) (SubC.of_eq M) M M) (.cons (EntW.lst M) .nil)))))))))),bD [0,1,3,4,5,6,28,29,1000,1001] M (by decide),fun _ _=>M⟩,?_⟩
       refine bA ?_
       obtain ⟨x99,hx99,h⟩:=aR h
       obtain ⟨x100,hx100,h⟩:=aR h
       refine jM M [⟨[6],[1],[(23,.osl 28 (eInt .i64).sz v88.length)],[]⟩,
        ⟨[2],[0],[(24,.ref 1000 0)],[]⟩,
        ⟨[7],[],[(25,.int .i64 v87)],[]⟩,
        ⟨[24,25],[1000,1001],[(26,.int .i64 x99)],[]⟩,
        ⟨[26],[30],[(27,.osl 30 (eInt .i64).sz (([x99]:(List Int)).length))],[(30,.blk 3 (D.flat (([x99]:(List Int)).map (eInt .i64).d)))]⟩,
        ⟨[23,27],[28,30,31],[(28,.osl 31 (eInt .i64).sz x100.length)],[(31,.blk 3 (D.flat (x100.map (eInt .i64).d))),(28,.none)]⟩,
        ⟨[6,28],[1],[],[(1,.blk 24 [.osl 31 (eInt .i64).sz x100.length])]⟩] M ?_ (by kernel_rfl) ?_
       ·refine .cons (lop M M fun S hA=>(aI (d:=.osl _ _ _) M M (lb M) underlying24 ag24 ti24 (by decide) (svaR hA M M) (agi hA M M) (nle M) M)) ?_
        refine .cons (lop M M fun S hA=>(aI (d:=.ref _ _) M M (lb M) underlying26 ag26 ti26 (by decide) (svaR hA M M) (agi hA M M) (nle M) M)) ?_
        refine .cons (lop M M fun S hA=>(aP M M (lb M) (svaI hA M M))) ?_
        refine .cons (lop M M fun S hA=>(eI (r':=.int .i64 x99) (V:=[(1000,.blk 62 (mixD aB.toEnc0 (w26 a1 a2 a3 a4 a5) a6 [.int .i64 a7,.osl 1001 (eInt .i64).sz a8.length])),(1001,.blk 3 (D.flat (a8.map (eInt .i64).d)))]) 30 [1000,1001] M M (lb M) cl32 (.cons (svaR hA M M) (.cons (svaI hA M M) .nil)) M M M ⟨by decide,M,List.forall_mem_cons.2 ⟨⟨M,M,(gT aB (agi hA M M) M M),(bV aB M M)⟩,List.forall_mem_cons.2 ⟨⟨M,M,(gE (eInt .i64) (agi hA M M)),(bN (eInt .i64))⟩,List.forall_mem_nil _⟩⟩⟩ (jC _ _ _ _ _ _ _ _ _ _ hx99) M M (List.forall_mem_cons.2 ⟨⟨M,(bV aB M M)⟩,List.forall_mem_cons.2 ⟨⟨M,(bN (eInt .i64))⟩,List.forall_mem_nil _⟩⟩) (by simp only [List.map_cons,List.map_nil,Ent.ren,bJ,bY,cB]; rfl) (List.forall_mem_cons.2 ⟨(agi hA M M),List.forall_mem_cons.2 ⟨(agi hA M M),List.forall_mem_nil _⟩⟩) M)) ?_
        refine .cons (lop M M fun S hA=>(lS (eInt .i64).toEnc0 ([x99]:(List Int)) 30 M M (lb M) underlying24 ti3 (agi hA M M) (.cons (svaI hA M M) .nil) M M (by decide))) ?_
        refine .cons (lop M M fun S hA=>(kJ (eInt .i64).toEnc0 31 M M (lb M) underlying24 ti3 M (agr hA M M) M (agi hA M M) (agi hA M M) (qV (eInt .i64).toEnc0 (agr hA M M) M (agi hA M M)) hx100)) ?_
        refine .cons (lop M M fun S hA=>(cO (ds':=[.osl _ _ _]) M M ti24 (svaR hA M M) (agi hA M M) (sv (d:=.osl _ _ _) (agr hA M M)) M M M (nle M) M)) ?_
        exact .nil
       refine bL ?_
       refine ⟨5,29,_,_,none,M,M,M,M,(by decide),⟨[(0,.yld 5),(1,.ref 3 0),(5,.int .i64 x98.next),(22,.bool true)],[(0,.blk 26 [.ref 1000 0]),(1,.blk 24 [.osl 31 (eInt .i64).sz x100.length]),(3,.blk 26 [.ref 1000 0]),(4,.blk 3 [.int .i64 x1]),(5,.loop 1 [.dead,.dead,.ref 0 0,.dead,.dead,.dead,.ref 1 0,.dead,.dead,.dead,.dead,.dead,.dead,.dead,.dead,.dead,.dead,.dead,.dead,.dead,.dead,.fn 53 [.ref 3 0,.ref 4 0],.dead,.dead,.dead,.dead,.dead,.dead,.dead,.dead,.dead,.dead] .ready none),(6,.kept 1 (.dead::(.dead::(.ref 0 0::(.dead::(.dead::(.dead::(.ref 1 0::(dd_ 14 (.fn 53 [.ref 3 0,.ref 4 0]::(dd_ 10 []))))))))))),(31,.blk 3 (D.flat (x100.map (eInt .i64).d))),(1000,.blk 62 (mixD aB.toEnc0 (w26 a1 a2 a3 a4 a5) a6 [.int .i64 a7,.osl 1001 (eInt .i64).sz a8.length])),(1001,.blk 3 (D.flat (a8.map (eInt .i64).d)))]⟩,(fun i=>i),⟨(.sames M M),(.cons (.blk M M M) (.cons (.blk M M M) (.cons (.blk M M M) (.cons (.blk M M M) (.cons (.loop M M M) (.cons (.kept M M M) (.cons (EntW.lst M) (.cons (EntW.mix aB M (SubC.of_eq M) (SubC.of_eq M) M M) (.cons (EntW.lst M) .nil))))))))),bD [0,1,3,4,5,6,31,1000,1001] M (by decide),fun _ _=>M⟩,?_⟩
       refine aA M (eY M M (lb M) (svB M))<|aC ?_
       refine gH M M ?_
       refine aU ?_
       refine aO ?_
       refine aX (aA M (mvI M M M M)<|aA M (asI M M M M)<|bK ?_)
       refine bL ?_
       refine aO ⟨(n4,x98.next,x100),(fun i=>if i=28 then 31 else i),⟨(.sames M M),(.cons (.loop M M M) (.cons (.blk M M M) (.cons (.kept M M M) (.cons (EntW.mix aB M (SubC.of_eq M) (SubC.of_eq M) M M) (.cons (EntW.lst M) (.cons (.blk M M M) (.cons (.blk M M M) (.cons (.blk M M M) (.cons (EntW.lst M) .nil))))))))),bD [5,3,6,1000,1001,0,1,4,31] M (by decide),(fun i hi=>by first | rfl | (show (if _ then _ else _)=_; (repeat' split) <;> omega))⟩,?_,?_⟩
       exact h
       exact Nat.lt_succ_self _
      ·
       replace h:=cJ h hc96
       refine cX ?_
       refine bR ?_
       refine bR ?_
       refine cZ ?_
       refine ⟨.inl M,5,6,_,_,_,_,M,(by simp),M,M,⟨[(6,.ref 1 0)],[(1,.blk 24 [.osl 28 (eInt .i64).sz v88.length]),(28,.blk 3 (D.flat (v88.map (eInt .i64).d))),(1000,.blk 62 (mixD aB.toEnc0 (w26 a1 a2 a3 a4 a5) a6 [.int .i64 a7,.osl 1001 (eInt .i64).sz a8.length])),(1001,.blk 3 (D.flat (a8.map (eInt .i64).d)))]⟩,(fun i=>i),⟨(.sames M M),(.cons (.blk M M M) (.cons (EntW.lst M) (.cons (EntW.mix aB M (SubC.of_eq M) (SubC.of_eq M) M M) (.cons (EntW.lst M) .nil)))),bD [1,28,1000,1001] M (by decide),fun _ _=>M⟩,?_⟩
       refine bL ?_
       refine aO ⟨v88,(fun i=>i),⟨(.sames M M),(.cons (.blk M M M) (.cons (EntW.mix aB M (SubC.of_eq M) (SubC.of_eq M) M M) (.cons (EntW.lst M) (.cons (EntW.lst M) .nil)))),bD [1,1000,1001,28] M (by decide),fun _ _=>M⟩,?_⟩
       exact h
  ·
   rintro v52 h
   unfold fO at h
   obtain ⟨x53,hx53,h⟩:=aR h
   obtain ⟨hk54,h⟩:=lF h
   refine aD (aA M (aI (d:=.osl _ _ _) M M (lb M) underlying24 ag24 ti24 (by decide) (svR M) M (nle M) M)<|aA M (cW (r':=.tuple []) (H1':=[(28,.blk 3 (D.flat (x53.map (eInt .i64).d)))]) 29 [28] M M (lb M) cl36 (.cons (sv (d:=.osl _ _ _) M) .nil) M M ⟨M,M,by decide,M,List.forall_mem_cons.2 ⟨⟨M,M,(gE (eInt .i64) M),(bN (eInt .i64))⟩,List.forall_mem_nil _⟩⟩ (lL _ _ hx53) M M (List.forall_mem_cons.2 ⟨⟨M,(bN (eInt .i64))⟩,List.forall_mem_nil _⟩) (by simp only [List.map_cons,List.map_nil,Ent.ren,bJ,bY]; rfl))<|aC ?_)
   refine aD (aA M (aI (d:=.osl _ _ _) M M (lb M) underlying24 ag24 ti24 (by decide) (svR M) M (nle M) M)<|aA M (aF M M (lb M) (sv (d:=.osl _ _ _) M))<|aC ?_)
   refine oZ 4 (id:=28) (l:=x53.map (eInt .i64).d) ⟨_,M⟩ M M (by rw [List.length_map]; exact hk54) ((eInt .i64).toEnc0.len _) (eInt .i64).pos ((eInt .i64).noRef _) ?_
   refine bB ?_
   obtain rfl:=sj_ h
   refine ⟨.inr M,(fun i=>i),⟨.nil,(.cons (EntW.mix aB M (SubC.of_eq M) (SubC.of_eq M) M M) (.cons (EntW.lst M) .nil)),bD [1000,1001] M (by decide),fun _ _=>M⟩,(.cons (sv M) .nil),M⟩

theorem iT (a0:(List aN)) (a1:(List aN)) (r:Bool) (h:fA a0 a1=some r):eJ prog 9 [.slice false (a0.map aM.d),.slice false (a1.map aM.d)] (.bool r):=by
 refine bS (rs:=[.bool r]) func9 M ntmps9 (nle M) M fun O hO=>?_
 show IWP _ _ _ _ ⟨[(0,.slice false (a0.map aM.d)),(1,.slice false (a1.map aM.d))],[]⟩ _
 unfold fA at h
 refine aD (aA M (aF M M (lb M) (sv (d:=.bool false) M))<|aC ?_)
 refine aT ?_
 obtain ⟨x1,hx1,h⟩:=aY h
 refine aD (aA M (mvL M M M M)<|aA M (dE aM (l:=a0) M M (lb M) underlying30 (svL M))<|aA M (mvL M M M M)<|aA M (dE aM (l:=a1) M M (lb M) underlying30 (svL M))<|aA M (aQ M M (lb M) (svI M) (svI M) M hx1)<|aC ?_)
 refine aW (b:=_) M (fun hc2=>?_) (fun hc2=>?_)
 ·
  replace h:=cI h hc2
  refine aD (aA M (aF M M (lb M) (sv (d:=.bool false) M))<|aC ?_)
  refine bB ?_
  refine bH ?_
  obtain rfl:=sj_ h
  refine ⟨.inr M,(.cons (sv M) .nil)⟩
 ·
  replace h:=cJ h hc2
  refine aU ?_
  refine aO ?_
  refine aT ?_
  refine aD (aA M (aF M M (lb M) (sv (d:=.int _ 0) M))<|aC ?_)
  refine bA ?_
  refine cQ (α:=Nat × Int) (fun z=>⟨[(0,.slice false (a0.map aM.d)),(1,.slice false (a1.map aM.d)),(5,.int .i64 z.2)],[]⟩) (fun z=>eL a0 a1 z.1 z.2=some r) (fun z=>z.1) (fuel,0) (fun i=>i) ⟨(.sames M M),.nil,bD [] M (by decide),fun _ _=>M⟩ ?_ ?_
  ·exact h
  ·
   rintro ⟨n0,v10⟩ h
   cases n0 with
   | zero=>exact absurd h (by unfold eL; exact nofun)
   | succ n0 =>
    unfold eL at h
    refine aT ?_
    obtain ⟨x18,hx18,h⟩:=aY h
    refine aD (aA M (mvI M M M M)<|aA M (mvL M M M M)<|aA M (dE aM (l:=a0) M M (lb M) underlying30 (svL M))<|aA M (aQ M M (lb M) (svI M) (svI M) M hx18)<|aC ?_)
    refine aW (b:=_) M (fun hc19=>?_) (fun hc19=>?_)
    ·
     replace h:=cI h hc19
     refine aU ?_
     refine aO ?_
     refine aT ?_
     refine bA ?_
     obtain ⟨x20,hx20,h⟩:=aR h
     obtain ⟨x21,hx21,h⟩:=aR h
     obtain ⟨x22,hx22,h⟩:=aY h
     refine jK M [⟨[0],[],[(17,.slice false (a0.map aM.d))],[]⟩,
      ⟨[5],[],[(18,.int .i64 v10)],[]⟩,
      ⟨[17,18],[],[(19,.fptr (v3 x20))],[]⟩,
      ⟨[19],[],[(20,.agg (v3 x20))],[]⟩,
      ⟨[1],[],[(21,.slice false (a1.map aM.d))],[]⟩,
      ⟨[5],[],[(22,.int .i64 v10)],[]⟩,
      ⟨[21,22],[],[(23,.fptr (v3 x21))],[]⟩,
      ⟨[23],[],[(24,.agg (v3 x21))],[]⟩,
      ⟨[20,24],[],[(25,.bool (!x22))],[]⟩] M ?_ (by kernel_rfl) ?_
     ·refine .cons (lop M M fun S hA=>(aP M M (lb M) (svaL hA M M))) ?_
      refine .cons (lop M M fun S hA=>(aP M M (lb M) (svaI hA M M))) ?_
      refine .cons (lop M M fun S hA=>(cM aM (cs:=q12) M M (lb M) underlying30 ti52 (svaL hA M M) (svaI hA M M) hx20 M M)) ?_
      refine .cons (lop M M fun S hA=>(fR (cs:=q12) M M (lb M) underlying52 ag52 ti52 (by decide) (sv (d:=.fptr q12) (agr hA M M)) (nle M) M)) ?_
      refine .cons (lop M M fun S hA=>(aP M M (lb M) (svaL hA M M))) ?_
      refine .cons (lop M M fun S hA=>(aP M M (lb M) (svaI hA M M))) ?_
      refine .cons (lop M M fun S hA=>(cM aM (cs:=q12) M M (lb M) underlying30 ti52 (svaL hA M M) (svaI hA M M) hx21 M M)) ?_
      refine .cons (lop M M fun S hA=>(fR (cs:=q12) M M (lb M) underlying52 ag52 ti52 (by decide) (sv (d:=.fptr q12) (agr hA M M)) (nle M) M)) ?_
      refine .cons (lop M M fun S hA=>(iop_nes M M (lb M) underlying52 st52.1 st52.2 (svaA q12 hA M M) (svaA q12 hA M M) (congrArg some hx22))) ?_
      exact .nil
     refine aW (b:=_) M (fun hc23=>?_) (fun hc23=>?_)
     ·
      replace h:=cI h hc23
      refine aD (aA M (aF M M (lb M) (sv (d:=.bool false) M))<|aC ?_)
      refine bB ?_
      refine dC ?_
      refine bH ?_
      refine bH ?_
      refine dC ?_
      refine bH ?_
      obtain rfl:=sj_ h
      refine ⟨.inr M,(.cons (sv M) .nil)⟩
     ·
      replace h:=cJ h hc23
      refine aU ?_
      refine bL ?_
      refine aO ?_
      obtain ⟨x24,hx24,h⟩:=aY h
      refine aX (aA M (mvI M M M M)<|aA M (cK M M (lb M) (svI M) (sv (d:=.int _ 1) M) M hx24)<|aA M (asI M M M M)<|bK ?_)
      refine aO ⟨(n0,x24),(fun i=>i),⟨(.sames M M),.nil,bD [] M (by decide),fun _ _=>M⟩,?_,?_⟩
      exact h
      exact Nat.lt_succ_self _
    ·
     replace h:=cJ h hc19
     refine cX ?_
     refine bR ?_
     refine bR ?_
     refine cZ ?_
     refine aO ?_
     refine aD (aA M (aF M M (lb M) (sv (d:=.bool true) M))<|aC ?_)
     refine bB ?_
     obtain rfl:=sj_ h
     refine ⟨.inr M,(.cons (sv M) .nil)⟩

theorem cD (a0:(List Int)) (a1:(List Int)) (r:Bool) (h:bO a0 a1=some r):eJ prog 12 [.slice false (a0.map (eInt .i64).d),.slice false (a1.map (eInt .i64).d)] (.bool r):=by
 refine bS (rs:=[.bool r]) func12 M ntmps12 (nle M) M fun O hO=>?_
 show IWP _ _ _ _ ⟨[(0,.slice false (a0.map (eInt .i64).d)),(1,.slice false (a1.map (eInt .i64).d))],[]⟩ _
 unfold bO at h
 refine aD (aA M (aF M M (lb M) (sv (d:=.bool false) M))<|aC ?_)
 refine aT ?_
 obtain ⟨x1,hx1,h⟩:=aY h
 refine aD (aA M (mvL M M M M)<|aA M (dE (eInt .i64) (l:=a0) M M (lb M) underlying24 (svL M))<|aA M (mvL M M M M)<|aA M (dE (eInt .i64) (l:=a1) M M (lb M) underlying24 (svL M))<|aA M (aQ M M (lb M) (svI M) (svI M) M hx1)<|aC ?_)
 refine aW (b:=_) M (fun hc2=>?_) (fun hc2=>?_)
 ·
  replace h:=cI h hc2
  refine aD (aA M (aF M M (lb M) (sv (d:=.bool false) M))<|aC ?_)
  refine bB ?_
  refine bH ?_
  obtain rfl:=sj_ h
  refine ⟨.inr M,(.cons (sv M) .nil)⟩
 ·
  replace h:=cJ h hc2
  refine aU ?_
  refine aO ?_
  refine aT ?_
  refine aD (aA M (aF M M (lb M) (sv (d:=.int _ 0) M))<|aC ?_)
  refine bA ?_
  refine cQ (α:=Nat × Int) (fun z=>⟨[(0,.slice false (a0.map (eInt .i64).d)),(1,.slice false (a1.map (eInt .i64).d)),(5,.int .i64 z.2)],[]⟩) (fun z=>eP a0 a1 z.1 z.2=some r) (fun z=>z.1) (fuel,0) (fun i=>i) ⟨(.sames M M),.nil,bD [] M (by decide),fun _ _=>M⟩ ?_ ?_
  ·exact h
  ·
   rintro ⟨n0,v10⟩ h
   cases n0 with
   | zero=>exact absurd h (by unfold eP; exact nofun)
   | succ n0 =>
    unfold eP at h
    refine aT ?_
    obtain ⟨x18,hx18,h⟩:=aY h
    refine aD (aA M (mvI M M M M)<|aA M (mvL M M M M)<|aA M (dE (eInt .i64) (l:=a0) M M (lb M) underlying24 (svL M))<|aA M (aQ M M (lb M) (svI M) (svI M) M hx18)<|aC ?_)
    refine aW (b:=_) M (fun hc19=>?_) (fun hc19=>?_)
    ·
     replace h:=cI h hc19
     refine aU ?_
     refine aO ?_
     refine aT ?_
     refine bA ?_
     obtain ⟨x20,hx20,h⟩:=aR h
     obtain ⟨x21,hx21,h⟩:=aR h
     obtain ⟨x22,hx22,h⟩:=aY h
     refine jK M [⟨[0],[],[(17,.slice false (a0.map (eInt .i64).d))],[]⟩,
      ⟨[5],[],[(18,.int .i64 v10)],[]⟩,
      ⟨[17,18],[],[(19,.fptr [.int .i64 x20])],[]⟩,
      ⟨[19],[],[(20,.int .i64 x20)],[]⟩,
      ⟨[1],[],[(21,.slice false (a1.map (eInt .i64).d))],[]⟩,
      ⟨[5],[],[(22,.int .i64 v10)],[]⟩,
      ⟨[21,22],[],[(23,.fptr [.int .i64 x21])],[]⟩,
      ⟨[23],[],[(24,.int .i64 x21)],[]⟩,
      ⟨[20,24],[],[(25,.bool x22)],[]⟩] M ?_ (by kernel_rfl) ?_
     ·refine .cons (lop M M fun S hA=>(aP M M (lb M) (svaL hA M M))) ?_
      refine .cons (lop M M fun S hA=>(aP M M (lb M) (svaI hA M M))) ?_
      refine .cons (lop M M fun S hA=>(cM (eInt .i64) (cs:=[.int _ _]) M M (lb M) underlying24 ti3 (svaL hA M M) (svaI hA M M) hx20 M M)) ?_
      refine .cons (lop M M fun S hA=>(cG M M (lb M) underlying3 ag3 ti3 (by decide) (sv (d:=.fptr [.int _ _]) (agr hA M M)) (nle M))) ?_
      refine .cons (lop M M fun S hA=>(aP M M (lb M) (svaL hA M M))) ?_
      refine .cons (lop M M fun S hA=>(aP M M (lb M) (svaI hA M M))) ?_
      refine .cons (lop M M fun S hA=>(cM (eInt .i64) (cs:=[.int _ _]) M M (lb M) underlying24 ti3 (svaL hA M M) (svaI hA M M) hx21 M M)) ?_
      refine .cons (lop M M fun S hA=>(cG M M (lb M) underlying3 ag3 ti3 (by decide) (sv (d:=.fptr [.int _ _]) (agr hA M M)) (nle M))) ?_
      refine .cons (lop M M fun S hA=>(aQ M M (lb M) (svaI hA M M) (svaI hA M M) M hx22)) ?_
      exact .nil
     refine aW (b:=_) M (fun hc23=>?_) (fun hc23=>?_)
     ·
      replace h:=cI h hc23
      refine aD (aA M (aF M M (lb M) (sv (d:=.bool false) M))<|aC ?_)
      refine bB ?_
      refine dC ?_
      refine bH ?_
      refine bH ?_
      refine dC ?_
      refine bH ?_
      obtain rfl:=sj_ h
      refine ⟨.inr M,(.cons (sv M) .nil)⟩
     ·
      replace h:=cJ h hc23
      refine aU ?_
      refine bL ?_
      refine aO ?_
      obtain ⟨x24,hx24,h⟩:=aY h
      refine aX (aA M (mvI M M M M)<|aA M (cK M M (lb M) (svI M) (sv (d:=.int _ 1) M) M hx24)<|aA M (asI M M M M)<|bK ?_)
      refine aO ⟨(n0,x24),(fun i=>i),⟨(.sames M M),.nil,bD [] M (by decide),fun _ _=>M⟩,?_,?_⟩
      exact h
      exact Nat.lt_succ_self _
    ·
     replace h:=cJ h hc19
     refine cX ?_
     refine bR ?_
     refine bR ?_
     refine cZ ?_
     refine aO ?_
     refine aD (aA M (aF M M (lb M) (sv (d:=.bool true) M))<|aC ?_)
     refine bB ?_
     obtain rfl:=sj_ h
     refine ⟨.inr M,(.cons (sv M) .nil)⟩

theorem kX (a0:Int) (a1:Int) (a2:(List aH)) (a3:Int) (a4:Int) (a5:(List aG)) (a6:Int) (a7:(List Int)) (r:(List Int)) (h:gM a0 a1 a2 a3 a4 a5 a6 a7=some r):FnH prog 13 [.ref 1000 0] [(1000,.blk 62 (mixD aB.toEnc0 (w26 a0 a1 a2 a3 a4) a5 [.int .i64 a6,.osl 1001 (eInt .i64).sz a7.length])),(1001,.blk 3 (D.flat (a7.map (eInt .i64).d)))] (.slice false (r.map (eInt .i64).d)) [(1000,.blk 62 (mixD aB.toEnc0 (w26 a0 a1 a2 a3 a4) a5 [.int .i64 a6,.osl 1001 (eInt .i64).sz a7.length])),(1001,.blk 3 (D.flat (a7.map (eInt .i64).d)))]:=by
 refine eX (rs:=[.slice false (r.map (eInt .i64).d)]) func13 M ntmps13 (nle M) fun O hO=>?_
 show IWP _ _ _ _ ⟨[(0,.ref 1000 0)],[(1000,.blk 62 (mixD aB.toEnc0 (w26 a0 a1 a2 a3 a4) a5 [.int .i64 a6,.osl 1001 (eInt .i64).sz a7.length])),(1001,.blk 3 (D.flat (a7.map (eInt .i64).d)))]⟩ _
 unfold gM at h
 refine aD (aA M (aF M M (lb M) (sv (d:=.nils) M))<|aC ?_)
 refine aT ?_
 refine aD (aA M (mvR M M M M)<|aA M (oD M M (lb M) underlying26 (svR M) (sv (d:=.nilp) M))<|aC ?_)
 refine gH M M ?_
 refine aU ?_
 refine aO ?_
 refine aD (aA M (aF M M (lb M) (sv (d:=.nils) M))<|aC ?_)
 refine aT ?_
 obtain ⟨hk1,h⟩:=lF h
 refine aD (aA M (mvR M M M M)<|aA M (aK M M (lb M) (svR M))<|aA M (faR 390 M M M underlying62 M ti24 (lb M) M M)<|aA M (gN aB.toEnc0 (d:=.osl _ _ _) (n:=64) (k:=1) M M (lb M) underlying24 ag24 ti24 (by decide) (svR M) M hk1 (by rfl) (nle M) (by rfl))<|aA M (oJ M M (lb M) underlying24 (sv (d:=.osl _ _ _) M))<|aA M (aP M M (lb M) (sv (d:=.int _ 0) M))<|aC ?_)
 refine bA ?_
 refine cQ (α:=Nat × (List Int) × Int) (fun z=>⟨[(0,.ref 1000 0),(3,.osl 21 (eInt .i64).sz z.2.1.length),(11,.osl 1001 (eInt .i64).sz a7.length),(12,.int .i64 (a7.length:Int)),(13,.int .i64 z.2.2)],[(1000,.blk 62 (mixD aB.toEnc0 (w26 a0 a1 a2 a3 a4) a5 [.int .i64 a6,.osl 1001 (eInt .i64).sz a7.length])),(21,.blk 3 (D.flat (z.2.1.map (eInt .i64).d))),(1001,.blk 3 (D.flat (a7.map (eInt .i64).d)))]⟩) (fun z=>eV a0 a1 a2 a3 a4 a5 a6 a7 z.1 z.2.1 z.2.2=some r) (fun z=>z.1) (fuel,([]:(List Int)),0) (fun i=>if i=21 then 71 else i) ⟨(.s M M (.cons (.nilo M) (.sames M M))),(.cons (EntW.mix aB M (SubC.of_eq M) (SubC.of_eq M) M M) (.cons (.nilb M) (.cons (EntW.lst M) .nil))),bD [1000,71,1001] M (by decide),(fun i hi=>by first | rfl | (show (if _ then _ else _)=_; (repeat' split) <;> omega))⟩ ?_ ?_
 ·exact h
 ·
  rintro ⟨n0,v9,v10⟩ h
  cases n0 with
  | zero=>exact absurd h (by unfold eV; exact nofun)
  | succ n0 =>
   unfold eV at h
   obtain ⟨x18,hx18,h⟩:=aY h
   refine aD (aA M (aQ M M (lb M) (svI M) (svI M) M hx18)<|aC ?_)
   refine aT ?_
   refine aW (b:=_) M (fun hc19=>?_) (fun hc19=>?_)
   ·
    replace h:=cI h hc19
    refine aU ?_
    refine aO ?_
    refine aT ?_
    refine bA ?_
    obtain ⟨x20,hx20,h⟩:=aR h
    obtain ⟨x21,hx21,h⟩:=aR h
    refine aD (aA M (lE (eInt .i64).toEnc0 M M (lb M) underlying24 ti3 (sv (d:=.osl _ _ _) M) M (svI M) hx20)<|aA M (kP (eInt .i64).toEnc0 (d:=.int _ _) M M (lb M) underlying3 ag3 ti3 (by decide) (svR M) M hx21 (nle M) M)<|aA M (asI M M M M)<|aC ?_)
    obtain ⟨x22,hx22,h⟩:=aR h
    obtain ⟨x23,hx23,h⟩:=aR h
    refine aX (aA M (aP M M (lb M) (sv (d:=.osl _ _ _) M))<|aA M (mvR M M M M)<|aA M (mvI M M M M)<|aA M (eI (r':=.int .i64 x22) (V:=[(1000,.blk 62 (mixD aB.toEnc0 (w26 a0 a1 a2 a3 a4) a5 [.int .i64 a6,.osl 1001 (eInt .i64).sz a7.length])),(1001,.blk 3 (D.flat (a7.map (eInt .i64).d)))]) 22 [1000,1001] M M (lb M) cl32 (.cons (svR M) (.cons (svI M) .nil)) M M M ⟨by decide,M,List.forall_mem_cons.2 ⟨⟨M,M,(gT aB M M M),(bV aB M M)⟩,List.forall_mem_cons.2 ⟨⟨M,M,(gE (eInt .i64) M),(bN (eInt .i64))⟩,List.forall_mem_nil _⟩⟩⟩ (jC _ _ _ _ _ _ _ _ _ _ hx22) M M (List.forall_mem_cons.2 ⟨⟨M,(bV aB M M)⟩,List.forall_mem_cons.2 ⟨⟨M,(bN (eInt .i64))⟩,List.forall_mem_nil _⟩⟩) (by simp only [List.map_cons,List.map_nil,Ent.ren,bJ,bY,cB]; rfl) (List.forall_mem_cons.2 ⟨M,List.forall_mem_cons.2 ⟨M,List.forall_mem_nil _⟩⟩) M)<|aA M (lS (eInt .i64).toEnc0 ([x22]:(List Int)) 22 M M (lb M) underlying24 ti3 M (.cons (svI M) .nil) M M (by decide))<|aA M (kJ (eInt .i64).toEnc0 23 M M (lb M) underlying24 ti3 M M M M M (qV (eInt .i64).toEnc0 M M M) hx23)<|aA M (aF M M (lb M) (sv (d:=.osl _ _ _) M))<|bK ?_)
    refine bL ?_
    refine aO ?_
    obtain ⟨x24,hx24,h⟩:=aY h
    refine aX (aA M (cK M M (lb M) (svI M) (sv (d:=.int _ 1) M) M hx24)<|aA M (mvI M M M M)<|bK ?_)
    refine aO ⟨(n0,x23,x24),(fun i=>if i=21 then 23 else i),⟨(.sames M M),(.cons (EntW.mix aB M (SubC.of_eq M) (SubC.of_eq M) M M) (.cons (EntW.lst M) (.cons (EntW.lst M) .nil))),bD [1000,23,1001] M (by decide),(fun i hi=>by first | rfl | (show (if _ then _ else _)=_; (repeat' split) <;> omega))⟩,?_,?_⟩
    exact h
    exact Nat.lt_succ_self _
   ·
    replace h:=cJ h hc19
    refine cX ?_
    refine bR ?_
    refine bR ?_
    refine cZ ?_
    refine aO ?_
    refine aD (aA M (aP M M (lb M) (sv (d:=.osl _ _ _) M))<|aA M (aF M M (lb M) (sv (d:=.osl _ _ _) M))<|aC ?_)
    refine oZ 2 (id:=21) (l:=v9.map (eInt .i64).d) ⟨_,M⟩ M M (List.length_map ..) ((eInt .i64).toEnc0.len _) (eInt .i64).pos ((eInt .i64).noRef _) ?_
    refine bB ?_
    obtain rfl:=sj_ h
    refine ⟨.inr M,(fun i=>i),⟨.nil,(.cons (EntW.mix aB M (SubC.of_eq M) (SubC.of_eq M) M M) (.cons (EntW.lst M) .nil)),bD [1000,1001] M (by decide),fun _ _=>M⟩,(.cons (sv M) .nil),M⟩

theorem kV  (r:Bool) (h:iA=some r):eJ prog 4 [] (.bool r):=by
 refine bS (rs:=[.bool r]) func4 M ntmps4 (nle M) M fun O hO=>?_
 show IWP _ _ _ _ ⟨[],[]⟩ _
 unfold iA at h
 refine aD (aA M (aF M M (lb M) (sv (d:=.bool false) M))<|aC ?_)
 refine aD (?_)
 refine fS (S':=⟨[],[]⟩) (fun i=>i) ⟨.nil,.nil,bD [] M (by decide),fun _ _=>M⟩ ?_
 refine jU 1 0 M M M (by decide) cl5 func5 M (.cons (sv (d:=.int _ 8) M) (.cons (sv (d:=.int _ 2) M) .nil)) ntmps5 (nle M) M hO.semiL fun O1 hO1=>?_
 show IWP _ _ _ _ ⟨[(0,.int .i64 8),(1,.int .i64 2)],[(0,.kept 1 q6)]⟩ _
 refine aD (aA M (aF M M (lb M) (sv (d:=.nilp) M))<|aA M (aF M M (lb M) (sv (d:=.int _ 0) M))<|aC ?_)
 refine aT ?_
 obtain ⟨x1,hx1,h⟩:=aR h
 obtain ⟨x2,hx2,h⟩:=aR h
 obtain ⟨x3,hx3,h⟩:=aY h
 refine aD (aA M (mvI M M M M)<|aA M (bC (r:=.bool _) M M (lb M) cl25 (.cons (svI M) (.cons (sv (d:=.int _ 1) M) (.cons (sv (d:=.int _ 24) M) .nil))) M (lD _ _ _ _ hx1))<|aA M (eY M M (lb M) (svB M))<|aA M (mvB M M M M)<|aJ M M (.one M) M (by decide) (fun hb=>(mvI M M M M))<|aJ M M (.one M) M (by decide) (fun hb=>(mvI M M M M))<|aJ M M (.one M) M (by decide) (fun hb=>(bC (r:=.bool _) M M (lb M) cl25 (.cons (svcI M hb) (.cons (sv (d:=.int _ 0) M) (.cons (svcI M hb) .nil))) M (lD _ _ _ _ (gd_t hx2 hb))))<|aJ M M (.one M) M (by decide) (fun hb=>(eY M M (lb M) (svcB M hb)))<|aA M (gJ M M (lb M) (svB M) M M hx3)<|aC ?_)
 refine aW (b:=_) M (fun hc4=>?_) (fun hc4=>?_)
 ·
  replace h:=cI h hc4
  refine aD (aA M (aF M M (lb M) (sv (d:=.nilp) M))<|aA M (aF M M (lb M) (sv (d:=.int _ 8) M))<|aC ?_)
  refine bB ?_
  refine bH ?_
  refine ⟨.inr M,0,_,[.nilp,.int .i64 8],(.cons (sv M) (.cons (sv M) .nil)),M,M,⟨[(19,.tuple [.nilp,.int .i64 8])],[]⟩,(fun i=>i),⟨(.sames M M),.nil,bD [] M (by decide),fun _ _=>M⟩,?_⟩
  refine aA M (aP M M (lb M) (sv (d:=.tuple [.nilp,.int _ _]) M))<|aA M (cE (d:=.nilp) M M (lb M) (sv (d:=.tuple [.nilp,.int _ _]) M) M)<|aA M (cE (d:=.int _ _) M M (lb M) (sv (d:=.tuple [.nilp,.int _ _]) M) M)<|aA M (aF M M (lb M) (sv (d:=.nilp) M))<|aA M (asI M M M M)<|aC ?_
  refine aT ?_
  obtain ⟨x5,hx5,h⟩:=aY h
  obtain ⟨x6,hx6,h⟩:=aY h
  refine aD (aA M (mvI M M M M)<|aA M (aQ M M (lb M) (svI M) (sv (d:=.int _ 0) M) M hx5)<|aA M (mvB M M M M)<|aJ M M (.one M) M (by decide) (fun hb=>(aP M M (lb M) (sv (d:=.nilp) M)))<|aJ M M (.one M) M (by decide) (fun hb=>(mB M M (lb M) underlying26 (svc (d:=.nilp) M hb) (sv (d:=.nilp) M)))<|aA M (gJ M M (lb M) (svB M) M M hx6)<|aC ?_)
  refine kE M (or_tt hx6) ?_
  refine aD (aA M (aF M M (lb M) (sv (d:=.bool false) M))<|aC ?_)
  refine bB ?_
  refine bH ?_
  obtain rfl:=sj_ h
  refine ⟨.inr M,(.cons (sv M) .nil)⟩
 ·
  replace h:=cJ h hc4
  refine aU ?_
  refine aO ?_
  obtain ⟨x7,hx7,h⟩:=aR h
  refine aD (aA M (mvI M M M M)<|aA M (mvI M M M M)<|aA M (bC (r:=.agg q14) M M (lb M) cl26 .nil M (qK  _ hx7))<|aA M (cP (cs:=(mixD aB.toEnc0 q8 (List.replicate 64 (⟨0,0,0,0,0,false⟩:aG):(List aG)) [.int _ _,.nils])) M M (lb M) underlying62 ti62 pl62 M (.cons (svI M) (.cons (svI M) (.cons (svA q14 M) (.cons (sv (d:=.int _ (-1)) M) .nil)))) (by kernel_rfl))<|aA M (cY (cs:=(mixD aB.toEnc0 q8 (List.replicate 64 (⟨0,0,0,0,0,false⟩:aG):(List aG)) [.int _ _,.nils])) 1 M M (lb M) M (sv (d:=.agg (mixD aB.toEnc0 q8 (List.replicate 64 (⟨0,0,0,0,0,false⟩:aG):(List aG)) [.int _ _,.nils])) M) M M)<|fS (S':=⟨[(0,.int .i64 8),(1,.int .i64 2),(4,.nilp),(5,.int .i64 0),(6,.int .i64 8),(7,.bool x1),(8,.bool (!x1)),(9,.bool (!x1)),(14,.bool x3),(15,.int .i64 8),(16,.int .i64 2),(17,.agg (v2 x7)),(18,.agg (mixD aB.toEnc0 (w26 8 2 x7.Cells x7.Free x7.Used) (List.replicate 64 (⟨0,0,0,0,0,false⟩:aG):(List aG)) [.int .i64 (-1),.nils])),(19,.ref 1 0)],[(2,.blk 3 (D.flat (([]:(List Int)).map (eInt .i64).d))),(0,.kept 1 q6),(1,.blk 62 (mixD aB.toEnc0 (w26 8 2 x7.Cells x7.Free x7.Used) (List.replicate 64 (⟨0,0,0,0,0,false⟩:aG):(List aG)) [.int .i64 (-1),.osl 2 (eInt .i64).sz 0]))]⟩) (fun i=>if i=2 then 54 else i) ⟨(.sames M M),(.cons (.nilb M) (.cons (.kept M M M) (.cons (EntW.mix aB M (SubC.of_eq M) (.same (.nilo .nil)) M M) .nil))),bD [54,0,1] M (by decide),(fun i hi=>by first | rfl | (show (if _ then _ else _)=_; (repeat' split) <;> omega))⟩<|aA M (aF M M (lb M) (svR M))<|aA M (aF M M (lb M) (sv (d:=.int _ 0) M))<|aC ?_)
  refine bB ?_
  refine ⟨.inr M,0,_,[.ref 1 0,.int .i64 0],(.cons (sv M) (.cons (sv M) .nil)),M,M,⟨[(19,.tuple [.ref 1 0,.int .i64 0])],[(1,.blk 62 (mixD aB.toEnc0 (w26 8 2 x7.Cells x7.Free x7.Used) (List.replicate 64 (⟨0,0,0,0,0,false⟩:aG):(List aG)) [.int .i64 (-1),.osl 2 (eInt .i64).sz 0])),(2,.blk 3 (D.flat (([]:(List Int)).map (eInt .i64).d)))]⟩,(fun i=>i),⟨(.sames M M),(.cons (EntW.mix aB M (SubC.of_eq M) (SubC.of_eq M) M M) (.cons (EntW.lst M) .nil)),bD [1,2] M (by decide),fun _ _=>M⟩,?_⟩
  refine aA M (aP M M (lb M) (sv (d:=.tuple q21) M))<|aA M (cE (d:=.ref _ _) M M (lb M) (sv (d:=.tuple q21) M) M)<|aA M (cE (d:=.int _ _) M M (lb M) (sv (d:=.tuple q21) M) M)<|aA M (aF M M (lb M) (svR M))<|aA M (asI M M M M)<|aC ?_
  refine aT ?_
  obtain ⟨x8,hx8,h⟩:=aY h
  obtain ⟨x9,hx9,h⟩:=aY h
  refine aD (aA M (mvI M M M M)<|aA M (aQ M M (lb M) (svI M) (sv (d:=.int _ 0) M) M hx8)<|aA M (mvB M M M M)<|aJ M M (.one M) M (by decide) (fun hb=>(mvR M M M M))<|aJ M M (.one M) M (by decide) (fun hb=>(oD M M (lb M) underlying26 (svcR M hb) (sv (d:=.nilp) M)))<|aA M (gJ M M (lb M) (svB M) M M hx9)<|aC ?_)
  refine aW (b:=_) M (fun hc10=>?_) (fun hc10=>?_)
  ·
   replace h:=cI h hc10
   refine aD (aA M (aF M M (lb M) (sv (d:=.bool false) M))<|aC ?_)
   refine bB ?_
   refine bH ?_
   obtain rfl:=sj_ h
   refine ⟨.inr M,(.cons (sv M) .nil)⟩
  ·
   replace h:=cJ h hc10
   refine aU ?_
   refine aO ?_
   obtain ⟨x11,hx11,h⟩:=aR h
   obtain ⟨x12,hx12,h⟩:=aR h
   obtain ⟨x13,hx13,h⟩:=aR h
   refine aD (aA M (mvR M M M M)<|aA M (cW (r':=.int .i64 x11.1) (H1':=[(1,.blk 62 (mixD aB.toEnc0 (w26 x11.2.1 x11.2.2.1 x11.2.2.2.1 x11.2.2.2.2.1 x11.2.2.2.2.2.1) x11.2.2.2.2.2.2.1 [.int .i64 x11.2.2.2.2.2.2.2.1,.osl 3 (eInt .i64).sz x11.2.2.2.2.2.2.2.2.length])),(3,.blk 3 (D.flat (x11.2.2.2.2.2.2.2.2.map (eInt .i64).d)))]) 3 [1,2] M M (lb M) cl21 (.cons (svR M) (.cons (sv (d:=.int _ 1) M) (.cons (sv (d:=.int _ 0) M) (.cons (sv (d:=.int _ 16) M) (.cons (sv (d:=.bool false) M) .nil))))) M M ⟨M,M,by decide,M,List.forall_mem_cons.2 ⟨⟨M,M,(gT aB M M M),(bV aB M M)⟩,List.forall_mem_cons.2 ⟨⟨M,M,(gE (eInt .i64) M),(bN (eInt .i64))⟩,List.forall_mem_nil _⟩⟩⟩ (iJ _ _ _ _ _ _ _ _ _ _ _ _ _ hx11) M M (List.forall_mem_cons.2 ⟨⟨M,(bV aB M M)⟩,List.forall_mem_cons.2 ⟨⟨M,(bN (eInt .i64))⟩,List.forall_mem_nil _⟩⟩) (by simp only [List.map_cons,List.map_nil,Ent.ren,bJ,bY,cB]; rfl))<|aA M (mvR M M M M)<|aA M (cW (r':=.int .i64 x12.1) (H1':=[(1,.blk 62 (mixD aB.toEnc0 (w26 x12.2.1 x12.2.2.1 x12.2.2.2.1 x12.2.2.2.2.1 x12.2.2.2.2.2.1) x12.2.2.2.2.2.2.1 [.int .i64 x12.2.2.2.2.2.2.2.1,.osl 4 (eInt .i64).sz x12.2.2.2.2.2.2.2.2.length])),(4,.blk 3 (D.flat (x12.2.2.2.2.2.2.2.2.map (eInt .i64).d)))]) 4 [1,3] M M (lb M) cl21 (.cons (svR M) (.cons (sv (d:=.int _ 3) M) (.cons (sv (d:=.int _ 1) M) (.cons (sv (d:=.int _ 32) M) (.cons (sv (d:=.bool false) M) .nil))))) M M ⟨M,M,by decide,M,List.forall_mem_cons.2 ⟨⟨M,M,(gT aB M M M),(bV aB M M)⟩,List.forall_mem_cons.2 ⟨⟨M,M,(gE (eInt .i64) M),(bN (eInt .i64))⟩,List.forall_mem_nil _⟩⟩⟩ (iJ _ _ _ _ _ _ _ _ _ _ _ _ _ hx12) M M (List.forall_mem_cons.2 ⟨⟨M,(bV aB M M)⟩,List.forall_mem_cons.2 ⟨⟨M,(bN (eInt .i64))⟩,List.forall_mem_nil _⟩⟩) (by simp only [List.map_cons,List.map_nil,Ent.ren,bJ,bY,cB]; rfl))<|aA M (mvR M M M M)<|aA M (cW (r':=.int .i64 x13.1) (H1':=[(1,.blk 62 (mixD aB.toEnc0 (w26 x13.2.1 x13.2.2.1 x13.2.2.2.1 x13.2.2.2.2.1 x13.2.2.2.2.2.1) x13.2.2.2.2.2.2.1 [.int .i64 x13.2.2.2.2.2.2.2.1,.osl 5 (eInt .i64).sz x13.2.2.2.2.2.2.2.2.length])),(5,.blk 3 (D.flat (x13.2.2.2.2.2.2.2.2.map (eInt .i64).d)))]) 5 [1,4] M M (lb M) cl21 (.cons (svR M) (.cons (sv (d:=.int _ 5) M) (.cons (sv (d:=.int _ 3) M) (.cons (sv (d:=.int _ 8) M) (.cons (sv (d:=.bool false) M) .nil))))) M M ⟨M,M,by decide,M,List.forall_mem_cons.2 ⟨⟨M,M,(gT aB M M M),(bV aB M M)⟩,List.forall_mem_cons.2 ⟨⟨M,M,(gE (eInt .i64) M),(bN (eInt .i64))⟩,List.forall_mem_nil _⟩⟩⟩ (iJ _ _ _ _ _ _ _ _ _ _ _ _ _ hx13) M M (List.forall_mem_cons.2 ⟨⟨M,(bV aB M M)⟩,List.forall_mem_cons.2 ⟨⟨M,(bN (eInt .i64))⟩,List.forall_mem_nil _⟩⟩) (by simp only [List.map_cons,List.map_nil,Ent.ren,bJ,bY,cB]; rfl))<|aA M (asI M M M M)<|aA M (asI M M M M)<|aA M (asI M M M M)<|aC ?_)
   obtain ⟨x14,hx14,h⟩:=aR h
   refine aD (aA M (mvR M M M M)<|aA M (cW (r':=.int .i64 x14.1) (H1':=[(1,.blk 62 (mixD aB.toEnc0 (w26 x14.2.1 x14.2.2.1 x14.2.2.2.1 x14.2.2.2.2.1 x14.2.2.2.2.2.1) x14.2.2.2.2.2.2.1 [.int .i64 x14.2.2.2.2.2.2.2.1,.osl 6 (eInt .i64).sz x14.2.2.2.2.2.2.2.2.length])),(6,.blk 3 (D.flat (x14.2.2.2.2.2.2.2.2.map (eInt .i64).d)))]) 6 [1,5] M M (lb M) cl22 (.cons (svR M) (.cons (sv (d:=.int _ 1) M) (.cons (sv (d:=.int _ 5) M) (.cons (sv (d:=.int _ 4) M) (.cons (sv (d:=.bool true) M) .nil))))) M M ⟨M,M,by decide,M,List.forall_mem_cons.2 ⟨⟨M,M,(gT aB M M M),(bV aB M M)⟩,List.forall_mem_cons.2 ⟨⟨M,M,(gE (eInt .i64) M),(bN (eInt .i64))⟩,List.forall_mem_nil _⟩⟩⟩ (nX _ _ _ _ _ _ _ _ _ _ _ _ _ hx14) M M (List.forall_mem_cons.2 ⟨⟨M,(bV aB M M)⟩,List.forall_mem_cons.2 ⟨⟨M,(bN (eInt .i64))⟩,List.forall_mem_nil _⟩⟩) (by simp only [List.map_cons,List.map_nil,Ent.ren,bJ,bY,cB]; rfl))<|aA M (asI M M M M)<|aC ?_)
   obtain ⟨x15,hx15,h⟩:=aR h
   obtain ⟨x16,hx16,h⟩:=aR h
   refine aD (aA M (mvR M M M M)<|aA M (eI (r':=.slice false (x15.map aM.d)) (V:=[(1,.blk 62 (mixD aB.toEnc0 (w26 x14.2.1 x14.2.2.1 x14.2.2.2.1 x14.2.2.2.2.1 x14.2.2.2.2.2.1) x14.2.2.2.2.2.2.1 [.int .i64 x14.2.2.2.2.2.2.2.1,.osl 6 (eInt .i64).sz x14.2.2.2.2.2.2.2.2.length])),(6,.blk 3 (D.flat (x14.2.2.2.2.2.2.2.2.map (eInt .i64).d)))]) 7 [1,6] M M (lb M) cl11 (.cons (svR M) .nil) M M M ⟨by decide,M,List.forall_mem_cons.2 ⟨⟨M,M,(gT aB M M M),(bV aB M M)⟩,List.forall_mem_cons.2 ⟨⟨M,M,(gE (eInt .i64) M),(bN (eInt .i64))⟩,List.forall_mem_nil _⟩⟩⟩ (nG _ _ _ _ _ _ _ _ _ hx15) M M (List.forall_mem_cons.2 ⟨⟨M,(bV aB M M)⟩,List.forall_mem_cons.2 ⟨⟨M,(bN (eInt .i64))⟩,List.forall_mem_nil _⟩⟩) (by simp only [List.map_cons,List.map_nil,Ent.ren,bJ,bY,cB]; rfl) (List.forall_mem_cons.2 ⟨M,List.forall_mem_cons.2 ⟨M,List.forall_mem_nil _⟩⟩) M)<|aA M (bC (r:=.slice _ _) M M (lb M) cl10 (.cons (svL M) .nil) M (lQ _ _ hx16))<|aA M (aF M M (lb M) (svL M))<|aC ?_)
   obtain ⟨x17,hx17,h⟩:=aR h
   refine aD (aA M (mvR M M M M)<|aA M (eI (r':=.slice false (x17.map (eInt .i64).d)) (V:=[(1,.blk 62 (mixD aB.toEnc0 (w26 x14.2.1 x14.2.2.1 x14.2.2.2.1 x14.2.2.2.2.1 x14.2.2.2.2.2.1) x14.2.2.2.2.2.2.1 [.int .i64 x14.2.2.2.2.2.2.2.1,.osl 6 (eInt .i64).sz x14.2.2.2.2.2.2.2.2.length])),(6,.blk 3 (D.flat (x14.2.2.2.2.2.2.2.2.map (eInt .i64).d)))]) 7 [1,6] M M (lb M) cl17 (.cons (svR M) (.cons (sv (d:=.int _ 3) M) .nil)) M M M ⟨by decide,M,List.forall_mem_cons.2 ⟨⟨M,M,(gT aB M M M),(bV aB M M)⟩,List.forall_mem_cons.2 ⟨⟨M,M,(gE (eInt .i64) M),(bN (eInt .i64))⟩,List.forall_mem_nil _⟩⟩⟩ (nW _ _ _ _ _ _ _ _ _ _ hx17) M M (List.forall_mem_cons.2 ⟨⟨M,(bV aB M M)⟩,List.forall_mem_cons.2 ⟨⟨M,(bN (eInt .i64))⟩,List.forall_mem_nil _⟩⟩) (by simp only [List.map_cons,List.map_nil,Ent.ren,bJ,bY,cB]; rfl) (List.forall_mem_cons.2 ⟨M,List.forall_mem_cons.2 ⟨M,List.forall_mem_nil _⟩⟩) M)<|aA M (aF M M (lb M) (svL M))<|aC ?_)
   obtain ⟨x18,hx18,h⟩:=aR h
   refine aD (aA M (mvR M M M M)<|aA M (oO (eInt .i64) ([3,1,9]:(List Int)) 7 M M (lb M) underlying24 ti3 M (.cons (sv (d:=.int _ 3) M) (.cons (sv (d:=.int _ 1) M) (.cons (sv (d:=.int _ 9) M) .nil))) M M (by decide))<|aA M (eI (r':=.slice false (x18.map (eInt .i64).d)) (V:=[(1,.blk 62 (mixD aB.toEnc0 (w26 x14.2.1 x14.2.2.1 x14.2.2.2.1 x14.2.2.2.2.1 x14.2.2.2.2.2.1) x14.2.2.2.2.2.2.1 [.int .i64 x14.2.2.2.2.2.2.2.1,.osl 6 (eInt .i64).sz x14.2.2.2.2.2.2.2.2.length])),(6,.blk 3 (D.flat (x14.2.2.2.2.2.2.2.2.map (eInt .i64).d)))]) 8 [1,6] M M (lb M) cl15 (.cons (svR M) (.cons (svg M) .nil)) M M M ⟨by decide,M,List.forall_mem_cons.2 ⟨⟨M,M,(gT aB M M M),(bV aB M M)⟩,List.forall_mem_cons.2 ⟨⟨M,M,(gE (eInt .i64) M),(bN (eInt .i64))⟩,List.forall_mem_nil _⟩⟩⟩ (lJ _ _ _ _ _ _ _ _ _ _ hx18) M M (List.forall_mem_cons.2 ⟨⟨M,(bV aB M M)⟩,List.forall_mem_cons.2 ⟨⟨M,(bN (eInt .i64))⟩,List.forall_mem_nil _⟩⟩) (by simp only [List.map_cons,List.map_nil,Ent.ren,bJ,bY,cB]; rfl) (List.forall_mem_cons.2 ⟨M,List.forall_mem_cons.2 ⟨M,List.forall_mem_nil _⟩⟩) M)<|aA M (aF M M (lb M) (svL M))<|aC ?_)
   obtain ⟨x19,hx19,h⟩:=aR h
   obtain ⟨x20,hx20,h⟩:=aR h
   refine aD (aA M (mvR M M M M)<|aA M (cW (r':=.int .i64 x19.1) (H1':=[(1,.blk 62 (mixD aB.toEnc0 (w26 x19.2.1 x19.2.2.1 x19.2.2.2.1 x19.2.2.2.2.1 x19.2.2.2.2.2.1) x19.2.2.2.2.2.2.1 [.int .i64 x19.2.2.2.2.2.2.2.1,.osl 8 (eInt .i64).sz x19.2.2.2.2.2.2.2.2.length])),(8,.blk 3 (D.flat (x19.2.2.2.2.2.2.2.2.map (eInt .i64).d)))]) 8 [1,6] M M (lb M) cl23 (.cons (svR M) (.cons (sv (d:=.int _ 1) M) .nil)) M M ⟨M,M,by decide,M,List.forall_mem_cons.2 ⟨⟨M,M,(gT aB M M M),(bV aB M M)⟩,List.forall_mem_cons.2 ⟨⟨M,M,(gE (eInt .i64) M),(bN (eInt .i64))⟩,List.forall_mem_nil _⟩⟩⟩ (lK _ _ _ _ _ _ _ _ _ _ hx19) M M (List.forall_mem_cons.2 ⟨⟨M,(bV aB M M)⟩,List.forall_mem_cons.2 ⟨⟨M,(bN (eInt .i64))⟩,List.forall_mem_nil _⟩⟩) (by simp only [List.map_cons,List.map_nil,Ent.ren,bJ,bY,cB]; rfl))<|aA M (mvR M M M M)<|aA M (cW (r':=.int .i64 x20.1) (H1':=[(1,.blk 62 (mixD aB.toEnc0 (w26 x20.2.1 x20.2.2.1 x20.2.2.2.1 x20.2.2.2.2.1 x20.2.2.2.2.2.1) x20.2.2.2.2.2.2.1 [.int .i64 x20.2.2.2.2.2.2.2.1,.osl 9 (eInt .i64).sz x20.2.2.2.2.2.2.2.2.length])),(9,.blk 3 (D.flat (x20.2.2.2.2.2.2.2.2.map (eInt .i64).d)))]) 9 [1,8] M M (lb M) cl23 (.cons (svR M) (.cons (sv (d:=.int _ 1) M) .nil)) M M ⟨M,M,by decide,M,List.forall_mem_cons.2 ⟨⟨M,M,(gT aB M M M),(bV aB M M)⟩,List.forall_mem_cons.2 ⟨⟨M,M,(gE (eInt .i64) M),(bN (eInt .i64))⟩,List.forall_mem_nil _⟩⟩⟩ (lK _ _ _ _ _ _ _ _ _ _ hx20) M M (List.forall_mem_cons.2 ⟨⟨M,(bV aB M M)⟩,List.forall_mem_cons.2 ⟨⟨M,(bN (eInt .i64))⟩,List.forall_mem_nil _⟩⟩) (by simp only [List.map_cons,List.map_nil,Ent.ren,bJ,bY,cB]; rfl))<|aA M (asI M M M M)<|aA M (asI M M M M)<|aC ?_)
   obtain ⟨x21,hx21,h⟩:=aR h
   refine aD (aA M (mvR M M M M)<|aA M (oO (eInt .i64) ([3,1,9]:(List Int)) 10 M M (lb M) underlying24 ti3 M (.cons (sv (d:=.int _ 3) M) (.cons (sv (d:=.int _ 1) M) (.cons (sv (d:=.int _ 9) M) .nil))) M M (by decide))<|aA M (eI (r':=.slice false (x21.map (eInt .i64).d)) (V:=[(1,.blk 62 (mixD aB.toEnc0 (w26 x20.2.1 x20.2.2.1 x20.2.2.2.1 x20.2.2.2.2.1 x20.2.2.2.2.2.1) x20.2.2.2.2.2.2.1 [.int .i64 x20.2.2.2.2.2.2.2.1,.osl 9 (eInt .i64).sz x20.2.2.2.2.2.2.2.2.length])),(9,.blk 3 (D.flat (x20.2.2.2.2.2.2.2.2.map (eInt .i64).d)))]) 11 [1,9] M M (lb M) cl15 (.cons (svR M) (.cons (svg M) .nil)) M M M ⟨by decide,M,List.forall_mem_cons.2 ⟨⟨M,M,(gT aB M M M),(bV aB M M)⟩,List.forall_mem_cons.2 ⟨⟨M,M,(gE (eInt .i64) M),(bN (eInt .i64))⟩,List.forall_mem_nil _⟩⟩⟩ (lJ _ _ _ _ _ _ _ _ _ _ hx21) M M (List.forall_mem_cons.2 ⟨⟨M,(bV aB M M)⟩,List.forall_mem_cons.2 ⟨⟨M,(bN (eInt .i64))⟩,List.forall_mem_nil _⟩⟩) (by simp only [List.map_cons,List.map_nil,Ent.ren,bJ,bY,cB]; rfl) (List.forall_mem_cons.2 ⟨M,List.forall_mem_cons.2 ⟨M,List.forall_mem_nil _⟩⟩) M)<|aA M (aF M M (lb M) (svL M))<|aC ?_)
   obtain ⟨x22,hx22,h⟩:=aR h
   refine aD (aA M (mvR M M M M)<|aA M (cW (r':=.int .i64 x22.1) (H1':=[(1,.blk 62 (mixD aB.toEnc0 (w26 x22.2.1 x22.2.2.1 x22.2.2.2.1 x22.2.2.2.2.1 x22.2.2.2.2.2.1) x22.2.2.2.2.2.2.1 [.int .i64 x22.2.2.2.2.2.2.2.1,.osl 11 (eInt .i64).sz x22.2.2.2.2.2.2.2.2.length])),(11,.blk 3 (D.flat (x22.2.2.2.2.2.2.2.2.map (eInt .i64).d)))]) 11 [1,9] M M (lb M) cl24 (.cons (svR M) (.cons (sv (d:=.int _ 1) M) .nil)) M M ⟨M,M,by decide,M,List.forall_mem_cons.2 ⟨⟨M,M,(gT aB M M M),(bV aB M M)⟩,List.forall_mem_cons.2 ⟨⟨M,M,(gE (eInt .i64) M),(bN (eInt .i64))⟩,List.forall_mem_nil _⟩⟩⟩ (mX _ _ _ _ _ _ _ _ _ _ hx22) M M (List.forall_mem_cons.2 ⟨⟨M,(bV aB M M)⟩,List.forall_mem_cons.2 ⟨⟨M,(bN (eInt .i64))⟩,List.forall_mem_nil _⟩⟩) (by simp only [List.map_cons,List.map_nil,Ent.ren,bJ,bY,cB]; rfl))<|aA M (asI M M M M)<|aC ?_)
   obtain ⟨x23,hx23,h⟩:=aR h
   refine aD (aA M (mvR M M M M)<|aA M (eI (r':=.slice false (x23.map (eInt .i64).d)) (V:=[(1,.blk 62 (mixD aB.toEnc0 (w26 x22.2.1 x22.2.2.1 x22.2.2.2.1 x22.2.2.2.2.1 x22.2.2.2.2.2.1) x22.2.2.2.2.2.2.1 [.int .i64 x22.2.2.2.2.2.2.2.1,.osl 11 (eInt .i64).sz x22.2.2.2.2.2.2.2.2.length])),(11,.blk 3 (D.flat (x22.2.2.2.2.2.2.2.2.map (eInt .i64).d)))]) 12 [1,11] M M (lb M) cl19 (.cons (svR M) (.cons (sv (d:=.int _ 5) M) .nil)) M M M ⟨by decide,M,List.forall_mem_cons.2 ⟨⟨M,M,(gT aB M M M),(bV aB M M)⟩,List.forall_mem_cons.2 ⟨⟨M,M,(gE (eInt .i64) M),(bN (eInt .i64))⟩,List.forall_mem_nil _⟩⟩⟩ (nY _ _ _ _ _ _ _ _ _ _ hx23) M M (List.forall_mem_cons.2 ⟨⟨M,(bV aB M M)⟩,List.forall_mem_cons.2 ⟨⟨M,(bN (eInt .i64))⟩,List.forall_mem_nil _⟩⟩) (by simp only [List.map_cons,List.map_nil,Ent.ren,bJ,bY,cB]; rfl) (List.forall_mem_cons.2 ⟨M,List.forall_mem_cons.2 ⟨M,List.forall_mem_nil _⟩⟩) M)<|aA M (aF M M (lb M) (svL M))<|aC ?_)
   obtain ⟨x24,hx24,h⟩:=aR h
   refine aD (aA M (mvR M M M M)<|aA M (cW (r':=.int .i64 x24.1) (H1':=[(1,.blk 62 (mixD aB.toEnc0 (w26 x24.2.1 x24.2.2.1 x24.2.2.2.1 x24.2.2.2.2.1 x24.2.2.2.2.2.1) x24.2.2.2.2.2.2.1 [.int .i64 x24.2.2.2.2.2.2.2.1,.osl 12 (eInt .i64).sz x24.2.2.2.2.2.2.2.2.length])),(12,.blk 3 (D.flat (x24.2.2.2.2.2.2.2.2.map (eInt .i64).d)))]) 12 [1,11] M M (lb M) cl21 (.cons (svR M) (.cons (sv (d:=.int _ 3) M) (.cons (sv (d:=.int _ 0) M) (.cons (sv (d:=.int _ 1) M) (.cons (sv (d:=.bool false) M) .nil))))) M M ⟨M,M,by decide,M,List.forall_mem_cons.2 ⟨⟨M,M,(gT aB M M M),(bV aB M M)⟩,List.forall_mem_cons.2 ⟨⟨M,M,(gE (eInt .i64) M),(bN (eInt .i64))⟩,List.forall_mem_nil _⟩⟩⟩ (iJ _ _ _ _ _ _ _ _ _ _ _ _ _ hx24) M M (List.forall_mem_cons.2 ⟨⟨M,(bV aB M M)⟩,List.forall_mem_cons.2 ⟨⟨M,(bN (eInt .i64))⟩,List.forall_mem_nil _⟩⟩) (by simp only [List.map_cons,List.map_nil,Ent.ren,bJ,bY,cB]; rfl))<|aA M (asI M M M M)<|aC ?_)
   refine aD (?_)
   refine fS (S':=⟨[(1,.ref 1 0),(3,.int .i64 x11.1),(4,.int .i64 x12.1),(5,.int .i64 x13.1),(6,.int .i64 x14.1),(7,.slice false (x16.map aM.d)),(8,.slice false (x17.map (eInt .i64).d)),(9,.slice false (x18.map (eInt .i64).d)),(10,.int .i64 x19.1),(11,.int .i64 x20.1),(12,.slice false (x21.map (eInt .i64).d)),(13,.int .i64 x22.1),(14,.slice false (x23.map (eInt .i64).d)),(15,.int .i64 x24.1)],[(1,.blk 62 (mixD aB.toEnc0 (w26 x24.2.1 x24.2.2.1 x24.2.2.2.1 x24.2.2.2.2.1 x24.2.2.2.2.2.1) x24.2.2.2.2.2.2.1 [.int .i64 x24.2.2.2.2.2.2.2.1,.osl 12 (eInt .i64).sz x24.2.2.2.2.2.2.2.2.length])),(12,.blk 3 (D.flat (x24.2.2.2.2.2.2.2.2.map (eInt .i64).d)))]⟩) (fun i=>i) ⟨(.sames M M),(.cons (EntW.mix aB M (SubC.of_eq M) (SubC.of_eq M) M M) (.cons (EntW.lst M) .nil)),bD [1,12] M (by decide),fun _ _=>M⟩ ?_
   refine jU 1 13 M M M (by decide) cl5 func5 M (.cons (sv (d:=.int _ 0) M) (.cons (sv (d:=.int _ 0) M) .nil)) ntmps5 (nle M) M hO.semiL fun O1 hO1=>?_
   show IWP _ _ _ _ ⟨[(0,.int .i64 0),(1,.int .i64 0)],[(13,.kept 1 (.dead::(.ref 1 0::(.dead::(.int .i64 x11.1::(.int .i64 x12.1::(.int .i64 x13.1::(.int .i64 x14.1::(.slice false (x16.map aM.d)::(.slice false (x17.map (eInt .i64).d)::(.slice false (x18.map (eInt .i64).d)::(.int .i64 x19.1::(.int .i64 x20.1::(.slice false (x21.map (eInt .i64).d)::(.int .i64 x22.1::(.slice false (x23.map (eInt .i64).d)::(.int .i64 x24.1::(dd_ 132 [])))))))))))))))))),(1,.blk 62 (mixD aB.toEnc0 (w26 x24.2.1 x24.2.2.1 x24.2.2.2.1 x24.2.2.2.2.1 x24.2.2.2.2.2.1) x24.2.2.2.2.2.2.1 [.int .i64 x24.2.2.2.2.2.2.2.1,.osl 12 (eInt .i64).sz x24.2.2.2.2.2.2.2.2.length])),(12,.blk 3 (D.flat (x24.2.2.2.2.2.2.2.2.map (eInt .i64).d)))]⟩ _
   refine aD (aA M (aF M M (lb M) (sv (d:=.nilp) M))<|aA M (aF M M (lb M) (sv (d:=.int _ 0) M))<|aC ?_)
   refine aT ?_
   obtain ⟨x25,hx25,h⟩:=aR h
   obtain ⟨x26,hx26,h⟩:=aR h
   obtain ⟨x27,hx27,h⟩:=aY h
   refine aD (aA M (mvI M M M M)<|aA M (bC (r:=.bool _) M M (lb M) cl25 (.cons (svI M) (.cons (sv (d:=.int _ 1) M) (.cons (sv (d:=.int _ 24) M) .nil))) M (lD _ _ _ _ hx25))<|aA M (eY M M (lb M) (svB M))<|aA M (mvB M M M M)<|aJ M M (.one M) M (by decide) (fun hb=>(mvI M M M M))<|aJ M M (.one M) M (by decide) (fun hb=>(mvI M M M M))<|aJ M M (.one M) M (by decide) (fun hb=>(bC (r:=.bool _) M M (lb M) cl25 (.cons (svcI M hb) (.cons (sv (d:=.int _ 0) M) (.cons (svcI M hb) .nil))) M (lD _ _ _ _ (gd_t hx26 hb))))<|aJ M M (.one M) M (by decide) (fun hb=>(eY M M (lb M) (svcB M hb)))<|aA M (gJ M M (lb M) (svB M) M M hx27)<|aC ?_)
   refine aW (b:=_) M (fun hc28=>?_) (fun hc28=>?_)
   ·
    replace h:=cI h hc28
    refine aD (aA M (aF M M (lb M) (sv (d:=.nilp) M))<|aA M (aF M M (lb M) (sv (d:=.int _ 8) M))<|aC ?_)
    refine bB ?_
    refine bH ?_
    refine ⟨.inr M,13,_,[.nilp,.int .i64 8],(.cons (sv M) (.cons (sv M) .nil)),M,M,⟨[(1,.ref 1 0),(3,.int .i64 x11.1),(4,.int .i64 x12.1),(5,.int .i64 x13.1),(6,.int .i64 x14.1),(7,.slice false (x16.map aM.d)),(8,.slice false (x17.map (eInt .i64).d)),(9,.slice false (x18.map (eInt .i64).d)),(10,.int .i64 x19.1),(11,.int .i64 x20.1),(12,.slice false (x21.map (eInt .i64).d)),(13,.int .i64 x22.1),(14,.slice false (x23.map (eInt .i64).d)),(15,.int .i64 x24.1),(58,.tuple [.nilp,.int .i64 8])],[(1,.blk 62 (mixD aB.toEnc0 (w26 x24.2.1 x24.2.2.1 x24.2.2.2.1 x24.2.2.2.2.1 x24.2.2.2.2.2.1) x24.2.2.2.2.2.2.1 [.int .i64 x24.2.2.2.2.2.2.2.1,.osl 12 (eInt .i64).sz x24.2.2.2.2.2.2.2.2.length])),(12,.blk 3 (D.flat (x24.2.2.2.2.2.2.2.2.map (eInt .i64).d)))]⟩,(fun i=>i),⟨(.sames M M),(.cons (EntW.mix aB M (SubC.of_eq M) (SubC.of_eq M) M M) (.cons (EntW.lst M) .nil)),bD [1,12] M (by decide),fun _ _=>M⟩,?_⟩
    refine aA M (aP M M (lb M) (sv (d:=.tuple [.nilp,.int _ _]) M))<|aA M (cE (d:=.nilp) M M (lb M) (sv (d:=.tuple [.nilp,.int _ _]) M) M)<|aA M (cE (d:=.int _ _) M M (lb M) (sv (d:=.tuple [.nilp,.int _ _]) M) M)<|aA M (aF M M (lb M) (sv (d:=.nilp) M))<|aA M (asI M M M M)<|aC ?_
    obtain ⟨x29,hx29,h⟩:=aY h
    obtain ⟨x30,hx30,h⟩:=aY h
    obtain ⟨x31,hx31,h⟩:=aY h
    obtain ⟨x32,hx32,h⟩:=aY h
    obtain ⟨x33,hx33,h⟩:=aY h
    obtain ⟨x34,hx34,h⟩:=aY h
    obtain ⟨x35,hx35,h⟩:=aY h
    obtain ⟨x36,hx36,h⟩:=aR h
    obtain ⟨x37,hx37,h⟩:=aY h
    obtain ⟨x38,hx38,h⟩:=aR h
    obtain ⟨x39,hx39,h⟩:=aY h
    obtain ⟨x40,hx40,h⟩:=aR h
    obtain ⟨x41,hx41,h⟩:=aY h
    obtain ⟨x42,hx42,h⟩:=aY h
    obtain ⟨x43,hx43,h⟩:=aY h
    obtain ⟨x44,hx44,h⟩:=aY h
    obtain ⟨x45,hx45,h⟩:=aY h
    obtain ⟨x46,hx46,h⟩:=aR h
    obtain ⟨x47,hx47,h⟩:=aY h
    obtain ⟨x48,hx48,h⟩:=aY h
    obtain ⟨x49,hx49,h⟩:=aY h
    obtain ⟨x50,hx50,h⟩:=aR h
    obtain ⟨x51,hx51,h⟩:=aY h
    obtain ⟨x52,hx52,h⟩:=aY h
    obtain ⟨x53,hx53,h⟩:=aY h
    obtain ⟨x54,hx54,h⟩:=aY h
    obtain ⟨x55,hx55,h⟩:=aY h
    obtain ⟨x56,hx56,h⟩:=aR h
    obtain ⟨x57,hx57,h⟩:=aY h
    obtain ⟨x58,hx58,h⟩:=aY h
    obtain ⟨x59,hx59,h⟩:=aR h
    obtain ⟨x60,hx60,h⟩:=aY h
    obtain ⟨x61,hx61,h⟩:=aY h
    obtain ⟨x62,hx62,h⟩:=aY h
    obtain ⟨x63,hx63,h⟩:=aY h
    obtain ⟨x64,hx64,h⟩:=aY h
    obtain ⟨x65,hx65,h⟩:=aY h
    obtain ⟨x66,hx66,h⟩:=aY h
    obtain ⟨x67,hx67,h⟩:=aY h
    obtain ⟨x68,hx68,h⟩:=aY h
    refine aD (aA M (mvI M M M M)<|aA M (aQ M M (lb M) (svI M) (sv (d:=.int _ 0) M) M hx29)<|aA M (mvB M M M M)<|aJ M M (.one M) M (by decide) (fun hb=>(mvI M M M M))<|aJ M M (.one M) M (by decide) (fun hb=>(aQ M M (lb M) (svcI M hb) (sv (d:=.int _ 0) M) M hx30))<|aA M (cU M M (lb M) (svB M) M M hx31)<|aA M (mvB M M M M)<|aJ M M (.one M) M (by decide) (fun hb=>(mvI M M M M))<|aJ M M (.one M) M (by decide) (fun hb=>(aQ M M (lb M) (svcI M hb) (sv (d:=.int _ 0) M) M hx32))<|aA M (cU M M (lb M) (svB M) M M hx33)<|aA M (mvB M M M M)<|aJ M M (.one M) M (by decide) (fun hb=>(mvI M M M M))<|aJ M M (.one M) M (by decide) (fun hb=>(aQ M M (lb M) (svcI M hb) (sv (d:=.int _ 0) M) M hx34))<|aA M (cU M M (lb M) (svB M) M M hx35)<|aA M (mvB M M M M)<|aJ M M (.one M) M (by decide) (fun hb=>(mvL M M M M))<|aJ M M (.one M) M (by decide) (fun hb=>(cP (cs:=q12) M M (lb M) underlying52 ti52 pl52 M (.cons (sv (d:=.int _ 1) M) (.cons (sv (d:=.int _ 5) M) (.cons (sv (d:=.int _ 4) M) .nil))) M))<|aJ M M (.one M) M (by decide) (fun hb=>(cP (cs:=q12) M M (lb M) underlying52 ti52 pl52 M (.cons (sv (d:=.int _ 3) M) (.cons (sv (d:=.int _ 1) M) (.cons (sv (d:=.int _ 32) M) .nil))) M))<|aJ M M (.one M) M (by decide) (fun hb=>(cP (cs:=q12) M M (lb M) underlying52 ti52 pl52 M (.cons (sv (d:=.int _ 5) M) (.cons (sv (d:=.int _ 8) M) .nil)) M))<|aJ M M (.one M) M (by decide) (fun hb=>(oP aM ([(⟨1,5,4,false⟩:aN),(⟨3,1,32,false⟩:aN),(⟨5,0,8,false⟩:aN)]:(List aN)) M M (lb M) underlying30 ti52 (.cons (svcA (w27 1 5 4 false) M hb) (.cons (svcA (w27 3 1 32 false) M hb) (.cons (svcA (w27 5 0 8 false) M hb) .nil))) M M (by decide)))<|aJ M M (.one M) M (by decide) (fun hb=>(bC (r:=.bool _) M M (lb M) cl9 (.cons (svcL M hb) (.cons (svcL M hb) .nil)) M (iT _ _ _ (gd_t hx36 hb))))<|aA M (cU M M (lb M) (svB M) M M hx37)<|aA M (mvB M M M M)<|aJ M M (.one M) M (by decide) (fun hb=>(mvL M M M M))<|aJ M M (.one M) M (by decide) (fun hb=>(oP (eInt .i64) ([1,5]:(List Int)) M M (lb M) underlying24 ti3 (.cons (sv (d:=.int _ 1) M) (.cons (sv (d:=.int _ 5) M) .nil)) M M (by decide)))<|aJ M M (.one M) M (by decide) (fun hb=>(bC (r:=.bool _) M M (lb M) cl12 (.cons (svcL M hb) (.cons (svcL M hb) .nil)) M (cD _ _ _ (gd_t hx38 hb))))<|aA M (cU M M (lb M) (svB M) M M hx39)<|aA M (mvB M M M M)<|aJ M M (.one M) M (by decide) (fun hb=>(mvL M M M M))<|aJ M M (.one M) M (by decide) (fun hb=>(oP (eInt .i64) ([1]:(List Int)) M M (lb M) underlying24 ti3 (.cons (sv (d:=.int _ 1) M) .nil) M M (by decide)))<|aJ M M (.one M) M (by decide) (fun hb=>(bC (r:=.bool _) M M (lb M) cl12 (.cons (svcL M hb) (.cons (svcL M hb) .nil)) M (cD _ _ _ (gd_t hx40 hb))))<|aA M (cU M M (lb M) (svB M) M M hx41)<|aA M (mvB M M M M)<|aJ M M (.one M) M (by decide) (fun hb=>(mvI M M M M))<|aJ M M (.one M) M (by decide) (fun hb=>(aQ M M (lb M) (svcI M hb) (sv (d:=.int _ 0) M) M hx42))<|aA M (cU M M (lb M) (svB M) M M hx43)<|aA M (mvB M M M M)<|aJ M M (.one M) M (by decide) (fun hb=>(mvI M M M M))<|aJ M M (.one M) M (by decide) (fun hb=>(aQ M M (lb M) (svcI M hb) (sv (d:=.int _ 9) M) M hx44))<|aA M (cU M M (lb M) (svB M) M M hx45)<|aA M (mvB M M M M)<|aJ M M (.one M) M (by decide) (fun hb=>(mvL M M M M))<|aJ M M (.one M) M (by decide) (fun hb=>(oP (eInt .i64) ([3]:(List Int)) M M (lb M) underlying24 ti3 (.cons (sv (d:=.int _ 3) M) .nil) M M (by decide)))<|aJ M M (.one M) M (by decide) (fun hb=>(bC (r:=.bool _) M M (lb M) cl12 (.cons (svcL M hb) (.cons (svcL M hb) .nil)) M (cD _ _ _ (gd_t hx46 hb))))<|aA M (cU M M (lb M) (svB M) M M hx47)<|aA M (mvB M M M M)<|aJ M M (.one M) M (by decide) (fun hb=>(mvI M M M M))<|aJ M M (.one M) M (by decide) (fun hb=>(aQ M M (lb M) (svcI M hb) (sv (d:=.int _ 0) M) M hx48))<|aA M (cU M M (lb M) (svB M) M M hx49)<|aA M (mvB M M M M)<|aJ M M (.one M) M (by decide) (fun hb=>(mvL M M M M))<|aJ M M (.one M) M (by decide) (fun hb=>(oP (eInt .i64) ([3]:(List Int)) M M (lb M) underlying24 ti3 (.cons (sv (d:=.int _ 3) M) .nil) M M (by decide)))<|aJ M M (.one M) M (by decide) (fun hb=>(bC (r:=.bool _) M M (lb M) cl12 (.cons (svcL M hb) (.cons (svcL M hb) .nil)) M (cD _ _ _ (gd_t hx50 hb))))<|aA M (cU M M (lb M) (svB M) M M hx51)<|aA M (mvB M M M M)<|aJ M M (.one M) M (by decide) (fun hb=>(mvI M M M M))<|aJ M M (.one M) M (by decide) (fun hb=>(aQ M M (lb M) (svcI M hb) (sv (d:=.int _ 13) M) M hx52))<|aA M (cU M M (lb M) (svB M) M M hx53)<|aA M (mvB M M M M)<|aJ M M (.one M) M (by decide) (fun hb=>(mvI M M M M))<|aJ M M (.one M) M (by decide) (fun hb=>(aQ M M (lb M) (svcI M hb) (sv (d:=.int _ 8) M) M hx54))<|aA M (cU M M (lb M) (svB M) M M hx55)<|aA M (mvB M M M M)<|aJ M M (.one M) M (by decide) (fun hb=>(mvR M M M M))<|aJ M M (.one M) M (by decide) (fun hb=>(eI (r':=.int .i64 x56) (V:=[(1,.blk 62 (mixD aB.toEnc0 (w26 x24.2.1 x24.2.2.1 x24.2.2.2.1 x24.2.2.2.2.1 x24.2.2.2.2.2.1) x24.2.2.2.2.2.2.1 [.int .i64 x24.2.2.2.2.2.2.2.1,.osl 12 (eInt .i64).sz x24.2.2.2.2.2.2.2.2.length])),(12,.blk 3 (D.flat (x24.2.2.2.2.2.2.2.2.map (eInt .i64).d)))]) 19 [1,12] M M (lb M) cl14 (.cons (svcR M hb) .nil) M M M ⟨by decide,M,List.forall_mem_cons.2 ⟨⟨M,M,(gT aB M M M),(bV aB M M)⟩,List.forall_mem_cons.2 ⟨⟨M,M,(gE (eInt .i64) M),(bN (eInt .i64))⟩,List.forall_mem_nil _⟩⟩⟩ (kT _ _ _ _ _ _ _ _ _ (gd_t hx56 hb)) M M (List.forall_mem_cons.2 ⟨⟨M,(bV aB M M)⟩,List.forall_mem_cons.2 ⟨⟨M,(bN (eInt .i64))⟩,List.forall_mem_nil _⟩⟩) (by simp only [List.map_cons,List.map_nil,Ent.ren,bJ,bY,cB]; rfl) (List.forall_mem_cons.2 ⟨M,List.forall_mem_cons.2 ⟨M,List.forall_mem_nil _⟩⟩) M))<|aJ M M (.one M) M (by decide) (fun hb=>(aQ M M (lb M) (svcI M hb) (sv (d:=.int _ 2) M) M hx57))<|aA M (cU M M (lb M) (svB M) M M hx58)<|aA M (mvB M M M M)<|aJ M M (.one M) M (by decide) (fun hb=>(mvR M M M M))<|aJ M M (.one M) M (by decide) (fun hb=>(eI (r':=.slice false (x59.map (eInt .i64).d)) (V:=[(1,.blk 62 (mixD aB.toEnc0 (w26 x24.2.1 x24.2.2.1 x24.2.2.2.1 x24.2.2.2.2.1 x24.2.2.2.2.2.1) x24.2.2.2.2.2.2.1 [.int .i64 x24.2.2.2.2.2.2.2.1,.osl 12 (eInt .i64).sz x24.2.2.2.2.2.2.2.2.length])),(12,.blk 3 (D.flat (x24.2.2.2.2.2.2.2.2.map (eInt .i64).d)))]) 19 [1,12] M M (lb M) cl13 (.cons (svcR M hb) .nil) M M M ⟨by decide,M,List.forall_mem_cons.2 ⟨⟨M,M,(gT aB M M M),(bV aB M M)⟩,List.forall_mem_cons.2 ⟨⟨M,M,(gE (eInt .i64) M),(bN (eInt .i64))⟩,List.forall_mem_nil _⟩⟩⟩ (kX _ _ _ _ _ _ _ _ _ (gd_t hx59 hb)) M M (List.forall_mem_cons.2 ⟨⟨M,(bV aB M M)⟩,List.forall_mem_cons.2 ⟨⟨M,(bN (eInt .i64))⟩,List.forall_mem_nil _⟩⟩) (by simp only [List.map_cons,List.map_nil,Ent.ren,bJ,bY,cB]; rfl) (List.forall_mem_cons.2 ⟨M,List.forall_mem_cons.2 ⟨M,List.forall_mem_nil _⟩⟩) M))<|aJ M M (.one M) M (by decide) (fun hb=>(dE (eInt .i64) (l:=x59) M M (lb M) underlying24 (svcL M hb)))<|aJ M M (.one M) M (by decide) (fun hb=>(aQ M M (lb M) (svcI M hb) (sv (d:=.int _ 0) M) M hx60))<|aA M (cU M M (lb M) (svB M) M M hx61)<|aA M (mvB M M M M)<|aA M (jS M M (lb M) (svB M) M M hx62)<|aA M (mvB M M M M)<|aA M (jS M M (lb M) (svB M) M M hx63)<|aA M (mvB M M M M)<|aA M (jS M M (lb M) (svB M) M M hx64)<|aA M (mvB M M M M)<|aA M (jS M M (lb M) (svB M) M M hx65)<|aA M (mvB M M M M)<|aA M (jS M M (lb M) (svB M) M M hx66)<|aA M (mvB M M M M)<|aA M (jS M M (lb M) (svB M) M M hx67)<|aA M (mvB M M M M)<|aA M (jS M M (lb M) (svB M) M M hx68)<|aA M (asB M M M M)<|aC ?_)
    refine bB ?_
    obtain rfl:=sj_ h
    refine ⟨.inr M,(.cons (sv M) .nil)⟩
   ·
    replace h:=cJ h hc28
    refine aU ?_
    refine aO ?_
    obtain ⟨x69,hx69,h⟩:=aR h
    refine aD (aA M (mvI M M M M)<|aA M (mvI M M M M)<|aA M (bC (r:=.agg q14) M M (lb M) cl26 .nil M (qK  _ hx69))<|aA M (cP (cs:=(mixD aB.toEnc0 q8 (List.replicate 64 (⟨0,0,0,0,0,false⟩:aG):(List aG)) [.int _ _,.nils])) M M (lb M) underlying62 ti62 pl62 M (.cons (svI M) (.cons (svI M) (.cons (svA q14 M) (.cons (sv (d:=.int _ (-1)) M) .nil)))) (by kernel_rfl))<|aA M (cY (cs:=(mixD aB.toEnc0 q8 (List.replicate 64 (⟨0,0,0,0,0,false⟩:aG):(List aG)) [.int _ _,.nils])) 14 M M (lb M) M (sv (d:=.agg (mixD aB.toEnc0 q8 (List.replicate 64 (⟨0,0,0,0,0,false⟩:aG):(List aG)) [.int _ _,.nils])) M) M M)<|fS (S':=⟨[(0,.int .i64 0),(1,.int .i64 0),(4,.nilp),(5,.int .i64 0),(6,.int .i64 0),(7,.bool x25),(8,.bool (!x25)),(9,.bool (!x25)),(14,.bool x27),(15,.int .i64 0),(16,.int .i64 0),(17,.agg (v2 x69)),(18,.agg (mixD aB.toEnc0 (w26 0 0 x69.Cells x69.Free x69.Used) (List.replicate 64 (⟨0,0,0,0,0,false⟩:aG):(List aG)) [.int .i64 (-1),.nils])),(19,.ref 14 0)],[(15,.blk 3 (D.flat (([]:(List Int)).map (eInt .i64).d))),(1,.blk 62 (mixD aB.toEnc0 (w26 x24.2.1 x24.2.2.1 x24.2.2.2.1 x24.2.2.2.2.1 x24.2.2.2.2.2.1) x24.2.2.2.2.2.2.1 [.int .i64 x24.2.2.2.2.2.2.2.1,.osl 12 (eInt .i64).sz x24.2.2.2.2.2.2.2.2.length])),(12,.blk 3 (D.flat (x24.2.2.2.2.2.2.2.2.map (eInt .i64).d))),(13,.kept 1 (.dead::(.ref 1 0::(.dead::(.int .i64 x11.1::(.int .i64 x12.1::(.int .i64 x13.1::(.int .i64 x14.1::(.slice false (x16.map aM.d)::(.slice false (x17.map (eInt .i64).d)::(.slice false (x18.map (eInt .i64).d)::(.int .i64 x19.1::(.int .i64 x20.1::(.slice false (x21.map (eInt .i64).d)::(.int .i64 x22.1::(.slice false (x23.map (eInt .i64).d)::(.int .i64 x24.1::(dd_ 132 [])))))))))))))))))),(14,.blk 62 (mixD aB.toEnc0 (w26 0 0 x69.Cells x69.Free x69.Used) (List.replicate 64 (⟨0,0,0,0,0,false⟩:aG):(List aG)) [.int .i64 (-1),.osl 15 (eInt .i64).sz 0]))]⟩) (fun i=>if i=15 then 80 else i) ⟨(.sames M M),(.cons (.nilb M) (.cons (EntW.mix aB M (SubC.of_eq M) (SubC.of_eq M) M M) (.cons (EntW.lst M) (.cons (.kept M M M) (.cons (EntW.mix aB M (SubC.of_eq M) (.same (.nilo .nil)) M M) .nil))))),bD [80,1,12,13,14] M (by decide),(fun i hi=>by first | rfl | (show (if _ then _ else _)=_; (repeat' split) <;> omega))⟩<|aA M (aF M M (lb M) (svR M))<|aA M (aF M M (lb M) (sv (d:=.int _ 0) M))<|aC ?_)
    refine bB ?_
    refine ⟨.inr M,13,_,[.ref 14 0,.int .i64 0],(.cons (sv M) (.cons (sv M) .nil)),M,M,⟨[(1,.ref 1 0),(3,.int .i64 x11.1),(4,.int .i64 x12.1),(5,.int .i64 x13.1),(6,.int .i64 x14.1),(7,.slice false (x16.map aM.d)),(8,.slice false (x17.map (eInt .i64).d)),(9,.slice false (x18.map (eInt .i64).d)),(10,.int .i64 x19.1),(11,.int .i64 x20.1),(12,.slice false (x21.map (eInt .i64).d)),(13,.int .i64 x22.1),(14,.slice false (x23.map (eInt .i64).d)),(15,.int .i64 x24.1),(58,.tuple [.ref 14 0,.int .i64 0])],[(1,.blk 62 (mixD aB.toEnc0 (w26 x24.2.1 x24.2.2.1 x24.2.2.2.1 x24.2.2.2.2.1 x24.2.2.2.2.2.1) x24.2.2.2.2.2.2.1 [.int .i64 x24.2.2.2.2.2.2.2.1,.osl 12 (eInt .i64).sz x24.2.2.2.2.2.2.2.2.length])),(12,.blk 3 (D.flat (x24.2.2.2.2.2.2.2.2.map (eInt .i64).d))),(14,.blk 62 (mixD aB.toEnc0 (w26 0 0 x69.Cells x69.Free x69.Used) (List.replicate 64 (⟨0,0,0,0,0,false⟩:aG):(List aG)) [.int .i64 (-1),.osl 15 (eInt .i64).sz 0])),(15,.blk 3 (D.flat (([]:(List Int)).map (eInt .i64).d)))]⟩,(fun i=>i),⟨(.sames M M),(.cons (EntW.mix aB M (SubC.of_eq M) (SubC.of_eq M) M M) (.cons (EntW.lst M) (.cons (EntW.mix aB M (SubC.of_eq M) (SubC.of_eq M) M M) (.cons (EntW.lst M) .nil)))),bD [1,12,14,15] M (by decide),fun _ _=>M⟩,?_⟩
    refine aA M (aP M M (lb M) (sv (d:=.tuple q21) M))<|aA M (cE (d:=.ref _ _) M M (lb M) (sv (d:=.tuple q21) M) M)<|aA M (cE (d:=.int _ _) M M (lb M) (sv (d:=.tuple q21) M) M)<|aA M (aF M M (lb M) (svR M))<|aA M (asI M M M M)<|aC ?_
    obtain ⟨x70,hx70,h⟩:=aY h
    obtain ⟨x71,hx71,h⟩:=aY h
    obtain ⟨x72,hx72,h⟩:=aY h
    obtain ⟨x73,hx73,h⟩:=aY h
    obtain ⟨x74,hx74,h⟩:=aY h
    obtain ⟨x75,hx75,h⟩:=aY h
    obtain ⟨x76,hx76,h⟩:=aY h
    obtain ⟨x77,hx77,h⟩:=aR h
    obtain ⟨x78,hx78,h⟩:=aY h
    obtain ⟨x79,hx79,h⟩:=aR h
    obtain ⟨x80,hx80,h⟩:=aY h
    obtain ⟨x81,hx81,h⟩:=aR h
    obtain ⟨x82,hx82,h⟩:=aY h
    obtain ⟨x83,hx83,h⟩:=aY h
    obtain ⟨x84,hx84,h⟩:=aY h
    obtain ⟨x85,hx85,h⟩:=aY h
    obtain ⟨x86,hx86,h⟩:=aY h
    obtain ⟨x87,hx87,h⟩:=aR h
    obtain ⟨x88,hx88,h⟩:=aY h
    obtain ⟨x89,hx89,h⟩:=aY h
    obtain ⟨x90,hx90,h⟩:=aY h
    obtain ⟨x91,hx91,h⟩:=aR h
    obtain ⟨x92,hx92,h⟩:=aY h
    obtain ⟨x93,hx93,h⟩:=aY h
    obtain ⟨x94,hx94,h⟩:=aY h
    obtain ⟨x95,hx95,h⟩:=aY h
    obtain ⟨x96,hx96,h⟩:=aY h
    obtain ⟨x97,hx97,h⟩:=aR h
    obtain ⟨x98,hx98,h⟩:=aY h
    obtain ⟨x99,hx99,h⟩:=aY h
    obtain ⟨x100,hx100,h⟩:=aR h
    obtain ⟨x101,hx101,h⟩:=aY h
    obtain ⟨x102,hx102,h⟩:=aY h
    obtain ⟨x103,hx103,h⟩:=aY h
    obtain ⟨x104,hx104,h⟩:=aY h
    obtain ⟨x105,hx105,h⟩:=aY h
    obtain ⟨x106,hx106,h⟩:=aY h
    obtain ⟨x107,hx107,h⟩:=aY h
    obtain ⟨x108,hx108,h⟩:=aY h
    obtain ⟨x109,hx109,h⟩:=aY h
    refine aD (aA M (mvI M M M M)<|aA M (aQ M M (lb M) (svI M) (sv (d:=.int _ 0) M) M hx70)<|aA M (mvB M M M M)<|aJ M M (.one M) M (by decide) (fun hb=>(mvI M M M M))<|aJ M M (.one M) M (by decide) (fun hb=>(aQ M M (lb M) (svcI M hb) (sv (d:=.int _ 0) M) M hx71))<|aA M (cU M M (lb M) (svB M) M M hx72)<|aA M (mvB M M M M)<|aJ M M (.one M) M (by decide) (fun hb=>(mvI M M M M))<|aJ M M (.one M) M (by decide) (fun hb=>(aQ M M (lb M) (svcI M hb) (sv (d:=.int _ 0) M) M hx73))<|aA M (cU M M (lb M) (svB M) M M hx74)<|aA M (mvB M M M M)<|aJ M M (.one M) M (by decide) (fun hb=>(mvI M M M M))<|aJ M M (.one M) M (by decide) (fun hb=>(aQ M M (lb M) (svcI M hb) (sv (d:=.int _ 0) M) M hx75))<|aA M (cU M M (lb M) (svB M) M M hx76)<|aA M (mvB M M M M)<|aJ M M (.one M) M (by decide) (fun hb=>(mvL M M M M))<|aJ M M (.one M) M (by decide) (fun hb=>(cP (cs:=q12) M M (lb M) underlying52 ti52 pl52 M (.cons (sv (d:=.int _ 1) M) (.cons (sv (d:=.int _ 5) M) (.cons (sv (d:=.int _ 4) M) .nil))) M))<|aJ M M (.one M) M (by decide) (fun hb=>(cP (cs:=q12) M M (lb M) underlying52 ti52 pl52 M (.cons (sv (d:=.int _ 3) M) (.cons (sv (d:=.int _ 1) M) (.cons (sv (d:=.int _ 32) M) .nil))) M))<|aJ M M (.one M) M (by decide) (fun hb=>(cP (cs:=q12) M M (lb M) underlying52 ti52 pl52 M (.cons (sv (d:=.int _ 5) M) (.cons (sv (d:=.int _ 8) M) .nil)) M))<|aJ M M (.one M) M (by decide) (fun hb=>(oP aM ([(⟨1,5,4,false⟩:aN),(⟨3,1,32,false⟩:aN),(⟨5,0,8,false⟩:aN)]:(List aN)) M M (lb M) underlying30 ti52 (.cons (svcA (w27 1 5 4 false) M hb) (.cons (svcA (w27 3 1 32 false) M hb) (.cons (svcA (w27 5 0 8 false) M hb) .nil))) M M (by decide)))<|aJ M M (.one M) M (by decide) (fun hb=>(bC (r:=.bool _) M M (lb M) cl9 (.cons (svcL M hb) (.cons (svcL M hb) .nil)) M (iT _ _ _ (gd_t hx77 hb))))<|aA M (cU M M (lb M) (svB M) M M hx78)<|aA M (mvB M M M M)<|aJ M M (.one M) M (by decide) (fun hb=>(mvL M M M M))<|aJ M M (.one M) M (by decide) (fun hb=>(oP (eInt .i64) ([1,5]:(List Int)) M M (lb M) underlying24 ti3 (.cons (sv (d:=.int _ 1) M) (.cons (sv (d:=.int _ 5) M) .nil)) M M (by decide)))<|aJ M M (.one M) M (by decide) (fun hb=>(bC (r:=.bool _) M M (lb M) cl12 (.cons (svcL M hb) (.cons (svcL M hb) .nil)) M (cD _ _ _ (gd_t hx79 hb))))<|aA M (cU M M (lb M) (svB M) M M hx80)<|aA M (mvB M M M M)<|aJ M M (.one M) M (by decide) (fun hb=>(mvL M M M M))<|aJ M M (.one M) M (by decide) (fun hb=>(oP (eInt .i64) ([1]:(List Int)) M M (lb M) underlying24 ti3 (.cons (sv (d:=.int _ 1) M) .nil) M M (by decide)))<|aJ M M (.one M) M (by decide) (fun hb=>(bC (r:=.bool _) M M (lb M) cl12 (.cons (svcL M hb) (.cons (svcL M hb) .nil)) M (cD _ _ _ (gd_t hx81 hb))))<|aA M (cU M M (lb M) (svB M) M M hx82)<|aA M (mvB M M M M)<|aJ M M (.one M) M (by decide) (fun hb=>(mvI M M M M))<|aJ M M (.one M) M (by decide) (fun hb=>(aQ M M (lb M) (svcI M hb) (sv (d:=.int _ 0) M) M hx83))<|aA M (cU M M (lb M) (svB M) M M hx84)<|aA M (mvB M M M M)<|aJ M M (.one M) M (by decide) (fun hb=>(mvI M M M M))<|aJ M M (.one M) M (by decide) (fun hb=>(aQ M M (lb M) (svcI M hb) (sv (d:=.int _ 9) M) M hx85))<|aA M (cU M M (lb M) (svB M) M M hx86)<|aA M (mvB M M M M)<|aJ M M (.one M) M (by decide) (fun hb=>(mvL M M M M))<|aJ M M (.one M) M (by decide) (fun hb=>(oP (eInt .i64) ([3]:(List Int)) M M (lb M) underlying24 ti3 (.cons (sv (d:=.int _ 3) M) .nil) M M (by decide)))<|aJ M M (.one M) M (by decide) (fun hb=>(bC (r:=.bool _) M M (lb M) cl12 (.cons (svcL M hb) (.cons (svcL M hb) .nil)) M (cD _ _ _ (gd_t hx87 hb))))<|aA M (cU M M (lb M) (svB M) M M hx88)<|aA M (mvB M M M M)<|aJ M M (.one M) M (by decide) (fun hb=>(mvI M M M M))<|aJ M M (.one M) M (by decide) (fun hb=>(aQ M M (lb M) (svcI M hb) (sv (d:=.int _ 0) M) M hx89))<|aA M (cU M M (lb M) (svB M) M M hx90)<|aA M (mvB M M M M)<|aJ M M (.one M) M (by decide) (fun hb=>(mvL M M M M))<|aJ M M (.one M) M (by decide) (fun hb=>(oP (eInt .i64) ([3]:(List Int)) M M (lb M) underlying24 ti3 (.cons (sv (d:=.int _ 3) M) .nil) M M (by decide)))<|aJ M M (.one M) M (by decide) (fun hb=>(bC (r:=.bool _) M M (lb M) cl12 (.cons (svcL M hb) (.cons (svcL M hb) .nil)) M (cD _ _ _ (gd_t hx91 hb))))<|aA M (cU M M (lb M) (svB M) M M hx92)<|aA M (mvB M M M M)<|aJ M M (.one M) M (by decide) (fun hb=>(mvI M M M M))<|aJ M M (.one M) M (by decide) (fun hb=>(aQ M M (lb M) (svcI M hb) (sv (d:=.int _ 13) M) M hx93))<|aA M (cU M M (lb M) (svB M) M M hx94)<|aA M (mvB M M M M)<|aJ M M (.one M) M (by decide) (fun hb=>(mvI M M M M))<|aJ M M (.one M) M (by decide) (fun hb=>(aQ M M (lb M) (svcI M hb) (sv (d:=.int _ 8) M) M hx95))<|aA M (cU M M (lb M) (svB M) M M hx96)<|aA M (mvB M M M M)<|aJ M M (.one M) M (by decide) (fun hb=>(mvR M M M M))<|aJ M M (.one M) M (by decide) (fun hb=>(eI (r':=.int .i64 x97) (V:=[(1,.blk 62 (mixD aB.toEnc0 (w26 x24.2.1 x24.2.2.1 x24.2.2.2.1 x24.2.2.2.2.1 x24.2.2.2.2.2.1) x24.2.2.2.2.2.2.1 [.int .i64 x24.2.2.2.2.2.2.2.1,.osl 12 (eInt .i64).sz x24.2.2.2.2.2.2.2.2.length])),(12,.blk 3 (D.flat (x24.2.2.2.2.2.2.2.2.map (eInt .i64).d)))]) 21 [1,12] M M (lb M) cl14 (.cons (svcR M hb) .nil) M M M ⟨by decide,M,List.forall_mem_cons.2 ⟨⟨M,M,(gT aB M M M),(bV aB M M)⟩,List.forall_mem_cons.2 ⟨⟨M,M,(gE (eInt .i64) M),(bN (eInt .i64))⟩,List.forall_mem_nil _⟩⟩⟩ (kT _ _ _ _ _ _ _ _ _ (gd_t hx97 hb)) M M (List.forall_mem_cons.2 ⟨⟨M,(bV aB M M)⟩,List.forall_mem_cons.2 ⟨⟨M,(bN (eInt .i64))⟩,List.forall_mem_nil _⟩⟩) (by simp only [List.map_cons,List.map_nil,Ent.ren,bJ,bY,cB]; rfl) (List.forall_mem_cons.2 ⟨M,List.forall_mem_cons.2 ⟨M,List.forall_mem_nil _⟩⟩) M))<|aJ M M (.one M) M (by decide) (fun hb=>(aQ M M (lb M) (svcI M hb) (sv (d:=.int _ 2) M) M hx98))<|aA M (cU M M (lb M) (svB M) M M hx99)<|aA M (mvB M M M M)<|aJ M M (.one M) M (by decide) (fun hb=>(mvR M M M M))<|aJ M M (.one M) M (by decide) (fun hb=>(eI (r':=.slice false (x100.map (eInt .i64).d)) (V:=[(1,.blk 62 (mixD aB.toEnc0 (w26 x24.2.1 x24.2.2.1 x24.2.2.2.1 x24.2.2.2.2.1 x24.2.2.2.2.2.1) x24.2.2.2.2.2.2.1 [.int .i64 x24.2.2.2.2.2.2.2.1,.osl 12 (eInt .i64).sz x24.2.2.2.2.2.2.2.2.length])),(12,.blk 3 (D.flat (x24.2.2.2.2.2.2.2.2.map (eInt .i64).d)))]) 21 [1,12] M M (lb M) cl13 (.cons (svcR M hb) .nil) M M M ⟨by decide,M,List.forall_mem_cons.2 ⟨⟨M,M,(gT aB M M M),(bV aB M M)⟩,List.forall_mem_cons.2 ⟨⟨M,M,(gE (eInt .i64) M),(bN (eInt .i64))⟩,List.forall_mem_nil _⟩⟩⟩ (kX _ _ _ _ _ _ _ _ _ (gd_t hx100 hb)) M M (List.forall_mem_cons.2 ⟨⟨M,(bV aB M M)⟩,List.forall_mem_cons.2 ⟨⟨M,(bN (eInt .i64))⟩,List.forall_mem_nil _⟩⟩) (by simp only [List.map_cons,List.map_nil,Ent.ren,bJ,bY,cB]; rfl) (List.forall_mem_cons.2 ⟨M,List.forall_mem_cons.2 ⟨M,List.forall_mem_nil _⟩⟩) M))<|aJ M M (.one M) M (by decide) (fun hb=>(dE (eInt .i64) (l:=x100) M M (lb M) underlying24 (svcL M hb)))<|aJ M M (.one M) M (by decide) (fun hb=>(aQ M M (lb M) (svcI M hb) (sv (d:=.int _ 0) M) M hx101))<|aA M (cU M M (lb M) (svB M) M M hx102)<|aA M (mvB M M M M)<|aA M (jS M M (lb M) (svB M) M M hx103)<|aA M (mvB M M M M)<|aA M (jS M M (lb M) (svB M) M M hx104)<|aA M (mvB M M M M)<|aA M (jS M M (lb M) (svB M) M M hx105)<|aA M (mvB M M M M)<|aA M (jS M M (lb M) (svB M) M M hx106)<|aA M (mvB M M M M)<|aA M (jS M M (lb M) (svB M) M M hx107)<|aA M (mvB M M M M)<|aA M (jS M M (lb M) (svB M) M M hx108)<|aA M (mvB M M M M)<|aA M (jS M M (lb M) (svB M) M M hx109)<|aA M (asB M M M M)<|aC ?_)
    refine bB ?_
    obtain rfl:=sj_ h
    refine ⟨.inr M,(.cons (sv M) .nil)⟩

theorem oX (a0:Int) (a1:Int) (r:(aL × Int)) (h:gI a0 a1=some r):eJ prog 6 [.int .i64 a0,.int .i64 a1] (retD [.agg (v0 r.1),.int .i64 r.2]):=by
 refine bS (rs:=[.agg (v0 r.1),.int .i64 r.2]) func6 M ntmps6 (nle M) M fun O hO=>?_
 show IWP _ _ _ _ ⟨[(0,.int .i64 a0),(1,.int .i64 a1)],[]⟩ _
 unfold gI at h
 refine aD (aA M (dA (cs:=q13) (cs':=(w25 0 0 ([]:List aN) ([]:List Int))) 0 M M (lb M) M ti32 M M (.k (.k (.cons (.nils _) (.cons (.nils _) .nil)))))<|aA M (aF M M (lb M) (sv (d:=.int _ 0) M))<|aC ?_)
 refine aT ?_
 obtain ⟨x1,hx1,h⟩:=aY h
 obtain ⟨x2,hx2,h⟩:=aY h
 obtain ⟨x3,hx3,h⟩:=aY h
 obtain ⟨x4,hx4,h⟩:=aY h
 obtain ⟨x5,hx5,h⟩:=aY h
 obtain ⟨x6,hx6,h⟩:=aY h
 obtain ⟨x7,hx7,h⟩:=aY h
 refine aD (aA M (mvI M M M M)<|aA M (aQ M M (lb M) (svI M) (sv (d:=.int _ 1) M) M hx1)<|aA M (mvB M M M M)<|aJ M M (.one M) M (by decide) (fun hb=>(mvI M M M M))<|aJ M M (.one M) M (by decide) (fun hb=>(aQ M M (lb M) (svcI M hb) (sv (d:=.int _ 24) M) M hx2))<|aA M (gJ M M (lb M) (svB M) M M hx3)<|aA M (mvB M M M M)<|aJ M M (.one M) M (by decide) (fun hb=>(mvI M M M M))<|aJ M M (.one M) M (by decide) (fun hb=>(aQ M M (lb M) (svcI M hb) (sv (d:=.int _ 0) M) M hx4))<|aA M (gJ M M (lb M) (svB M) M M hx5)<|aA M (mvB M M M M)<|aJ M M (.one M) M (by decide) (fun hb=>(mvI M M M M))<|aJ M M (.one M) M (by decide) (fun hb=>(mvI M M M M))<|aJ M M (.one M) M (by decide) (fun hb=>(aQ M M (lb M) (svcI M hb) (svcI M hb) M hx6))<|aA M (gJ M M (lb M) (svB M) M M hx7)<|aC ?_)
 refine aW (b:=_) M (fun hc8=>?_) (fun hc8=>?_)
 ·
  replace h:=cI h hc8
  refine aD (aA M (yP (d':=.agg (w25 0 0 ([]:List aN) ([]:List Int))) (cP (cs:=q13) M M (lb M) underlying32 ti32 pl32 M .nil M) (.agg (.k (.k (.cons (.nils _) (.cons (.nils _) .nil))))))<|aA M (cO (ds':=[.int _ _,.int _ _,.slice false (([]:List aN).map aM.d),.slice false (([]:List Int).map (eInt .i64).d)]) M M ti32 (svR M) M (svA q10 M) M M M (nle M) M)<|aA M (aF M M (lb M) (sv (d:=.int _ 8) M))<|aC ?_)
  refine bB ?_
  refine bH ?_
  obtain rfl:=sj_ h
  refine ⟨.inr M,(.cons (rva la32 M M (nle M) M) (.cons (sv M) .nil))⟩
 ·
  replace h:=cJ h hc8
  refine aU ?_
  refine aO ?_
  refine aD (aA M (mvI M M M M)<|aA M (mvI M M M M)<|aA M (yP (d':=.agg (w25 a0 a1 ([]:List aN) ([]:List Int))) (cP (cs:=q13) M M (lb M) underlying32 ti32 pl32 M (.cons (svI M) (.cons (svI M) .nil)) M) (.agg (.k (.k (.cons (.nils _) (.cons (.nils _) .nil))))))<|aA M (cO (ds':=[.int _ _,.int _ _,.slice false (([]:List aN).map aM.d),.slice false (([]:List Int).map (eInt .i64).d)]) M M ti32 (svR M) M (svA q10 M) M M M (nle M) M)<|aA M (aF M M (lb M) (sv (d:=.int _ 0) M))<|aC ?_)
  refine bB ?_
  obtain rfl:=sj_ h
  refine ⟨.inr M,(.cons (rva la32 M M (nle M) M) (.cons (sv M) .nil))⟩

theorem qH (a0:Int) (a1:Int) (a2:Int) (a3:Bool) (r:Int) (h:mK a0 a1 a2 a3=some r):eJ prog 21 [.nilp,.int .i64 a0,.int .i64 a1,.int .i64 a2,.bool a3] (.int .i64 r):=by
 refine bS (rs:=[.int .i64 r]) func21 M ntmps21 (nle M) M fun O hO=>?_
 show IWP _ _ _ _ ⟨[(0,.nilp),(1,.int .i64 a0),(2,.int .i64 a1),(3,.int .i64 a2),(4,.bool a3)],[]⟩ _
 unfold mK at h
 refine aD (aA M (aF M M (lb M) (sv (d:=.int _ 0) M))<|aC ?_)
 refine aT ?_
 refine aD (aA M (aP M M (lb M) (sv (d:=.nilp) M))<|aA M (mB M M (lb M) underlying26 (sv (d:=.nilp) M) (sv (d:=.nilp) M))<|aC ?_)
 refine kE M M ?_
 refine aD (aA M (aF M M (lb M) (sv (d:=.int _ 1) M))<|aC ?_)
 refine bB ?_
 refine bH ?_
 obtain rfl:=sj_ h
 refine ⟨.inr M,(.cons (sv M) .nil)⟩

theorem rS (a0:Int) (a1:Int) (a2:Int) (a3:Bool) (r:Int) (h:nR a0 a1 a2 a3=some r):eJ prog 22 [.nilp,.int .i64 a0,.int .i64 a1,.int .i64 a2,.bool a3] (.int .i64 r):=by
 refine bS (rs:=[.int .i64 r]) func22 M ntmps22 (nle M) M fun O hO=>?_
 show IWP _ _ _ _ ⟨[(0,.nilp),(1,.int .i64 a0),(2,.int .i64 a1),(3,.int .i64 a2),(4,.bool a3)],[]⟩ _
 unfold nR at h
 refine aD (aA M (aF M M (lb M) (sv (d:=.int _ 0) M))<|aC ?_)
 refine aT ?_
 refine aD (aA M (aP M M (lb M) (sv (d:=.nilp) M))<|aA M (mB M M (lb M) underlying26 (sv (d:=.nilp) M) (sv (d:=.nilp) M))<|aC ?_)
 refine kE M M ?_
 refine aD (aA M (aF M M (lb M) (sv (d:=.int _ 1) M))<|aC ?_)
 refine bB ?_
 refine bH ?_
 obtain rfl:=sj_ h
 refine ⟨.inr M,(.cons (sv M) .nil)⟩

theorem rD (a0:Int) (r:Int) (h:nC a0=some r):eJ prog 23 [.nilp,.int .i64 a0] (.int .i64 r):=by
 refine bS (rs:=[.int .i64 r]) func23 M ntmps23 (nle M) M fun O hO=>?_
 show IWP _ _ _ _ ⟨[(0,.nilp),(1,.int .i64 a0)],[]⟩ _
 unfold nC at h
 refine aD (aA M (aF M M (lb M) (sv (d:=.int _ 0) M))<|aC ?_)
 refine aT ?_
 refine aD (aA M (aP M M (lb M) (sv (d:=.nilp) M))<|aA M (mB M M (lb M) underlying26 (sv (d:=.nilp) M) (sv (d:=.nilp) M))<|aC ?_)
 refine kE M M ?_
 refine aD (aA M (aF M M (lb M) (sv (d:=.int _ 1) M))<|aC ?_)
 refine bB ?_
 refine bH ?_
 obtain rfl:=sj_ h
 refine ⟨.inr M,(.cons (sv M) .nil)⟩

theorem qG (a0:Int) (r:Int) (h:mJ a0=some r):eJ prog 24 [.nilp,.int .i64 a0] (.int .i64 r):=by
 refine bS (rs:=[.int .i64 r]) func24 M ntmps24 (nle M) M fun O hO=>?_
 show IWP _ _ _ _ ⟨[(0,.nilp),(1,.int .i64 a0)],[]⟩ _
 unfold mJ at h
 refine aD (aA M (aF M M (lb M) (sv (d:=.int _ 0) M))<|aC ?_)
 refine aT ?_
 refine aD (aA M (aP M M (lb M) (sv (d:=.nilp) M))<|aA M (mB M M (lb M) underlying26 (sv (d:=.nilp) M) (sv (d:=.nilp) M))<|aC ?_)
 refine kE M M ?_
 refine aD (aA M (aF M M (lb M) (sv (d:=.int _ 1) M))<|aC ?_)
 refine bB ?_
 refine bH ?_
 obtain rfl:=sj_ h
 refine ⟨.inr M,(.cons (sv M) .nil)⟩

theorem sM (a0:bT) (r:Int) (h:oK a0=some r):eJ prog 7 [.nilp,.agg (v1 a0)] (.int .i64 r):=by
 refine bS (rs:=[.int .i64 r]) func7 M ntmps7 (nle M) M fun O hO=>?_
 show IWP _ _ _ _ ⟨[(0,.nilp),(1,.agg (v1 a0))],[]⟩ _
 unfold oK at h
 refine aD (aA M (cY (cs:=q9) 0 M M (lb M) M (svA q9 M) M M)<|aA M (aF M M (lb M) (sv (d:=.int _ 0) M))<|aC ?_)
 refine aT ?_
 obtain ⟨x1,hx1,h⟩:=aR h
 refine aD (aA M (faR 0 M M M underlying37 M ti5 (lb M) M M)<|aA M (aI (d:=.int _ _) M M (lb M) underlying5 ag5 ti5 (by decide) (svR M) M (nle M) M)<|aA M (vX M M (lb M) (svI M) (sv (d:=.int _ 6) M) hx1)<|aC ?_)
 refine bA ?_
 refine jR (α:=Bool) (fun z=>⟨[(0,.nilp),(3,.ref 0 0),(7,.int .u8 x1),(8,.bool z)],[(0,.blk 37 (v1 a0))]⟩) (fun z=>lA a0 x1 z=some r) ?_ ?_
 ·
  obtain ⟨x21,hx21,h⟩:=aY h
  refine aD (aA M (aQ M M (lb M) (svI M) (sv (d:=.int _ 0) M) M hx21)<|aA M (asB M M M M)<|aC ?_)
  refine aW (b:=_) M (fun hc22=>?_) (fun hc22=>?_)
  ·
   replace h:=cI h hc22
   refine aU ?_
   refine aO ⟨x21,(fun i=>i),⟨(.sames M M),(.cons (.blk M M M) .nil),bD [0] M (by decide),fun _ _=>M⟩,?_⟩
   exact h
  ·
   replace h:=cJ h hc22
   obtain ⟨x23,hx23,h⟩:=aY h
   refine aX (aA M (aQ M M (lb M) (svI M) (sv (d:=.int _ 1) M) M hx23)<|aA M (asB M M M M)<|bK ?_)
   refine aO ⟨x23,(fun i=>i),⟨(.sames M M),(.cons (.blk M M M) .nil),bD [0] M (by decide),fun _ _=>M⟩,?_⟩
   exact h
 ·
  rintro v5 h
  unfold lA at h
  refine aW (b:=_) M (fun hc6=>?_) (fun hc6=>?_)
  ·
   replace h:=cI h hc6
   obtain ⟨x7,hx7,h⟩:=aR h
   refine aD (aA M (aP M M (lb M) (sv (d:=.nilp) M))<|aA M (faR 1 M M M underlying37 M ti3 (lb M) M M)<|aA M (aI (d:=.int _ _) M M (lb M) underlying3 ag3 ti3 (by decide) (svR M) M (nle M) M)<|aA M (faR 2 M M M underlying37 M ti3 (lb M) M M)<|aA M (aI (d:=.int _ _) M M (lb M) underlying3 ag3 ti3 (by decide) (svR M) M (nle M) M)<|aA M (faR 3 M M M underlying37 M ti3 (lb M) M M)<|aA M (aI (d:=.int _ _) M M (lb M) underlying3 ag3 ti3 (by decide) (svR M) M (nle M) M)<|aA M (faR 4 M M M underlying37 M ti4 (lb M) M M)<|aA M (aI (d:=.bool _) M M (lb M) underlying4 ag4 ti4 (by decide) (svR M) M (nle M) M)<|aA M (bC (r:=.int _ _) M M (lb M) cl21 (.cons (sv (d:=.nilp) M) (.cons (svI M) (.cons (svI M) (.cons (svI M) (.cons (svB M) .nil))))) M (qH _ _ _ _ _ hx7))<|aA M (asI M M M M)<|aC ?_)
   refine bB ?_
   refine dC ?_
   refine bH ?_
   obtain rfl:=sj_ h
   refine ⟨.inr M,(.cons (sv M) .nil)⟩
  ·
   replace h:=cJ h hc6
   refine jR (α:=Bool) (fun z=>⟨[(0,.nilp),(3,.ref 0 0),(7,.int .u8 x1),(21,.bool z)],[(0,.blk 37 (v1 a0))]⟩) (fun z=>kZ a0 x1 z=some r) ?_ ?_
   ·
    obtain ⟨x18,hx18,h⟩:=aY h
    refine aD (aA M (aQ M M (lb M) (svI M) (sv (d:=.int _ 2) M) M hx18)<|aA M (asB M M M M)<|aC ?_)
    refine aW (b:=_) M (fun hc19=>?_) (fun hc19=>?_)
    ·
     replace h:=cI h hc19
     refine aU ?_
     refine aO ⟨x18,(fun i=>i),⟨(.sames M M),(.cons (.blk M M M) .nil),bD [0] M (by decide),fun _ _=>M⟩,?_⟩
     exact h
    ·
     replace h:=cJ h hc19
     obtain ⟨x20,hx20,h⟩:=aY h
     refine aX (aA M (aQ M M (lb M) (svI M) (sv (d:=.int _ 3) M) M hx20)<|aA M (asB M M M M)<|bK ?_)
     refine aO ⟨x20,(fun i=>i),⟨(.sames M M),(.cons (.blk M M M) .nil),bD [0] M (by decide),fun _ _=>M⟩,?_⟩
     exact h
   ·
    rintro v11 h
    unfold kZ at h
    refine aW (b:=_) M (fun hc12=>?_) (fun hc12=>?_)
    ·
     replace h:=cI h hc12
     obtain ⟨x13,hx13,h⟩:=aR h
     refine aD (aA M (aP M M (lb M) (sv (d:=.nilp) M))<|aA M (faR 1 M M M underlying37 M ti3 (lb M) M M)<|aA M (aI (d:=.int _ _) M M (lb M) underlying3 ag3 ti3 (by decide) (svR M) M (nle M) M)<|aA M (faR 2 M M M underlying37 M ti3 (lb M) M M)<|aA M (aI (d:=.int _ _) M M (lb M) underlying3 ag3 ti3 (by decide) (svR M) M (nle M) M)<|aA M (faR 3 M M M underlying37 M ti3 (lb M) M M)<|aA M (aI (d:=.int _ _) M M (lb M) underlying3 ag3 ti3 (by decide) (svR M) M (nle M) M)<|aA M (faR 4 M M M underlying37 M ti4 (lb M) M M)<|aA M (aI (d:=.bool _) M M (lb M) underlying4 ag4 ti4 (by decide) (svR M) M (nle M) M)<|aA M (bC (r:=.int _ _) M M (lb M) cl22 (.cons (sv (d:=.nilp) M) (.cons (svI M) (.cons (svI M) (.cons (svI M) (.cons (svB M) .nil))))) M (rS _ _ _ _ _ hx13))<|aA M (asI M M M M)<|aC ?_)
     refine bB ?_
     refine dC ?_
     refine bH ?_
     obtain rfl:=sj_ h
     refine ⟨.inr M,(.cons (sv M) .nil)⟩
    ·
     replace h:=cJ h hc12
     obtain ⟨x14,hx14,h⟩:=aY h
     refine aD (aA M (aQ M M (lb M) (svI M) (sv (d:=.int _ 4) M) M hx14)<|aA M (asB M M M M)<|aC ?_)
     refine aW (b:=_) M (fun hc15=>?_) (fun hc15=>?_)
     ·
      replace h:=cI h hc15
      obtain ⟨x16,hx16,h⟩:=aR h
      refine aD (aA M (aP M M (lb M) (sv (d:=.nilp) M))<|aA M (faR 1 M M M underlying37 M ti3 (lb M) M M)<|aA M (aI (d:=.int _ _) M M (lb M) underlying3 ag3 ti3 (by decide) (svR M) M (nle M) M)<|aA M (bC (r:=.int _ _) M M (lb M) cl23 (.cons (sv (d:=.nilp) M) (.cons (svI M) .nil)) M (rD _ _ hx16))<|aA M (asI M M M M)<|aC ?_)
      refine bB ?_
      refine dC ?_
      refine bH ?_
      obtain rfl:=sj_ h
      refine ⟨.inr M,(.cons (sv M) .nil)⟩
     ·
      replace h:=cJ h hc15
      refine aU ?_
      refine bL ?_
      refine aO ?_
      obtain ⟨x17,hx17,h⟩:=aR h
      refine aD (aA M (aP M M (lb M) (sv (d:=.nilp) M))<|aA M (faR 1 M M M underlying37 M ti3 (lb M) M M)<|aA M (aI (d:=.int _ _) M M (lb M) underlying3 ag3 ti3 (by decide) (svR M) M (nle M) M)<|aA M (bC (r:=.int _ _) M M (lb M) cl24 (.cons (sv (d:=.nilp) M) (.cons (svI M) .nil)) M (qG _ _ hx17))<|aA M (asI M M M M)<|aC ?_)
      refine bB ?_
      obtain rfl:=sj_ h
      refine ⟨.inr M,(.cons (sv M) .nil)⟩

theorem nT (a0:Int) (a1:Int) (a2:Int) (r:Int) (h:iX a0 a1 a2=some r):eJ prog 45 [.int .i64 a0,.int .i64 a1,.int .i64 a2] (.int .i64 r):=by
 refine bS (rs:=[.int .i64 r]) func45 M ntmps45 (nle M) M fun O hO=>?_
 show IWP _ _ _ _ ⟨[(0,.int .i64 a0),(1,.int .i64 a1),(2,.int .i64 a2)],[]⟩ _
 unfold iX at h
 refine aD (aA M (aF M M (lb M) (sv (d:=.int _ 0) M))<|aC ?_)
 refine aT ?_
 refine bA ?_
 obtain ⟨x1,hx1,h⟩:=aY h
 obtain ⟨x2,hx2,h⟩:=aY h
 obtain ⟨x3,hx3,h⟩:=aY h
 obtain ⟨x4,hx4,h⟩:=aY h
 obtain ⟨x5,hx5,h⟩:=aY h
 obtain ⟨x6,hx6,h⟩:=aY h
 obtain ⟨x7,hx7,h⟩:=aY h
 obtain ⟨x8,hx8,h⟩:=aY h
 obtain ⟨x9,hx9,h⟩:=aY h
 obtain ⟨x10,hx10,h⟩:=aY h
 obtain ⟨x11,hx11,h⟩:=aY h
 refine aD (aA M (mvI M M M M)<|aA M (aQ M M (lb M) (svI M) (sv (d:=.int _ 1) M) M hx1)<|aA M (mvB M M M M)<|aJ M M (.one M) M (by decide) (fun hb=>(mvI M M M M))<|aJ M M (.one M) M (by decide) (fun hb=>(aQ M M (lb M) (svcI M hb) (sv (d:=.int _ 1048576) M) M hx2))<|aA M (gJ M M (lb M) (svB M) M M hx3)<|aA M (mvB M M M M)<|aJ M M (.one M) M (by decide) (fun hb=>(mvI M M M M))<|aJ M M (.one M) M (by decide) (fun hb=>(aQ M M (lb M) (svcI M hb) (sv (d:=.int _ 0) M) M hx4))<|aA M (gJ M M (lb M) (svB M) M M hx5)<|aA M (mvB M M M M)<|aJ M M (.one M) M (by decide) (fun hb=>(mvI M M M M))<|aJ M M (.one M) M (by decide) (fun hb=>(aQ M M (lb M) (svcI M hb) (sv (d:=.int _ 1048576) M) M hx6))<|aA M (gJ M M (lb M) (svB M) M M hx7)<|aA M (mvB M M M M)<|aJ M M (.one M) M (by decide) (fun hb=>(mvI M M M M))<|aJ M M (.one M) M (by decide) (fun hb=>(aQ M M (lb M) (svcI M hb) (sv (d:=.int _ 1) M) M hx8))<|aA M (gJ M M (lb M) (svB M) M M hx9)<|aA M (mvB M M M M)<|aJ M M (.one M) M (by decide) (fun hb=>(mvI M M M M))<|aJ M M (.one M) M (by decide) (fun hb=>(aQ M M (lb M) (svcI M hb) (sv (d:=.int _ 256) M) M hx10))<|aA M (gJ M M (lb M) (svB M) M M hx11)<|aA M (asB M M M M)<|aC ?_)
 refine aW (b:=_) M (fun hc12=>?_) (fun hc12=>?_)
 ·
  replace h:=cI h hc12
  refine aD (aA M (aF M M (lb M) (sv (d:=.int _ 8) M))<|aC ?_)
  refine bB ?_
  refine dC ?_
  refine bH ?_
  obtain rfl:=sj_ h
  refine ⟨.inr M,(.cons (sv M) .nil)⟩
 ·
  replace h:=cJ h hc12
  obtain ⟨x13,hx13,h⟩:=aY h
  refine aD (aA M (mvI M M M M)<|aA M (mvI M M M M)<|aA M (aQ M M (lb M) (svI M) (svI M) M hx13)<|aA M (asB M M M M)<|aC ?_)
  refine aW (b:=_) M (fun hc14=>?_) (fun hc14=>?_)
  ·
   replace h:=cI h hc14
   refine aD (aA M (aF M M (lb M) (sv (d:=.int _ 4) M))<|aC ?_)
   refine bB ?_
   refine dC ?_
   refine bH ?_
   obtain rfl:=sj_ h
   refine ⟨.inr M,(.cons (sv M) .nil)⟩
  ·
   replace h:=cJ h hc14
   refine aU ?_
   refine bL ?_
   refine aO ?_
   refine aD (aA M (aF M M (lb M) (sv (d:=.int _ 0) M))<|aC ?_)
   refine bB ?_
   obtain rfl:=sj_ h
   refine ⟨.inr M,(.cons (sv M) .nil)⟩

theorem cA (a0:aL) (a1:Int) (r:Int) (h:bI a0 a1=some r):eJ prog 39 [.agg (v0 a0),.int .i64 a1] (.int .i64 r):=by
 refine bS (rs:=[.int .i64 r]) func39 M ntmps39 (nle M) M fun O hO=>?_
 show IWP _ _ _ _ ⟨[(0,.agg (v0 a0)),(1,.int .i64 a1)],[]⟩ _
 unfold bI at h
 refine aD (aA M (cY (cs:=q10) 0 M M (lb M) M (svA q10 M) M M)<|aA M (aF M M (lb M) (sv (d:=.int _ 0) M))<|aC ?_)
 refine aT ?_
 refine aD (aA M (aF M M (lb M) (sv (d:=.int _ 0) M))<|aC ?_)
 refine bA ?_
 refine cQ (α:=Nat × Int) (fun z=>⟨[(1,.int .i64 a1),(2,.ref 0 0),(5,.int .i64 z.2)],[(0,.blk 32 (v0 a0))]⟩) (fun z=>cS a0 a1 z.1 z.2=some r) (fun z=>z.1) (fuel,0) (fun i=>i) ⟨(.sames M M),(.cons (.blk M M M) .nil),bD [0] M (by decide),fun _ _=>M⟩ ?_ ?_
 ·exact h
 ·
  rintro ⟨n0,v7⟩ h
  cases n0 with
  | zero=>exact absurd h (by unfold cS; exact nofun)
  | succ n0 =>
   unfold cS at h
   refine aT ?_
   obtain ⟨x14,hx14,h⟩:=aY h
   refine aD (aA M (mvI M M M M)<|aA M (faR 2 M M M underlying32 M ti30 (lb M) M M)<|aA M (lrL la30 M M M M M (nle M) M)<|aA M (dE aM (l:=a0.L) M M (lb M) underlying30 (svL M))<|aA M (aQ M M (lb M) (svI M) (svI M) M hx14)<|aC ?_)
   refine aW (b:=_) M (fun hc15=>?_) (fun hc15=>?_)
   ·
    replace h:=cI h hc15
    refine aU ?_
    refine aO ?_
    refine aT ?_
    refine bA ?_
    obtain ⟨x16,hx16,h⟩:=aR h
    obtain ⟨x17,hx17,h⟩:=aY h
    refine aD (aA M (faR 2 M M M underlying32 M ti30 (lb M) M M)<|aA M (lrL la30 M M M M M (nle M) M)<|aA M (mvI M M M M)<|aA M (cM aM (cs:=q12) M M (lb M) underlying30 ti52 (svL M) (svI M) hx16 M M)<|aA M (cF (cs':=[.int _ _]) M M (lb M) underlying52 M ti3 (by decide) (sv (d:=.fptr q12) M) M)<|aA M (cG M M (lb M) underlying3 ag3 ti3 (by decide) (sv (d:=.fptr [.int _ _]) M) (nle M))<|aA M (mvI M M M M)<|aA M (aQ M M (lb M) (svI M) (svI M) M hx17)<|aC ?_)
    refine aW (b:=_) M (fun hc18=>?_) (fun hc18=>?_)
    ·
     replace h:=cI h hc18
     refine aD (aA M (mvI M M M M)<|aA M (asI M M M M)<|aC ?_)
     refine bB ?_
     refine dC ?_
     refine bH ?_
     refine bH ?_
     refine dC ?_
     refine bH ?_
     obtain rfl:=sj_ h
     refine ⟨.inr M,(.cons (sv M) .nil)⟩
    ·
     replace h:=cJ h hc18
     refine aU ?_
     refine bL ?_
     refine aO ?_
     obtain ⟨x19,hx19,h⟩:=aY h
     refine aX (aA M (mvI M M M M)<|aA M (cK M M (lb M) (svI M) (sv (d:=.int _ 1) M) M hx19)<|aA M (asI M M M M)<|bK ?_)
     refine aO ⟨(n0,x19),(fun i=>i),⟨(.sames M M),(.cons (.blk M M M) .nil),bD [0] M (by decide),fun _ _=>M⟩,?_,?_⟩
     exact h
     exact Nat.lt_succ_self _
   ·
    replace h:=cJ h hc15
    refine cX ?_
    refine bR ?_
    refine bR ?_
    refine cZ ?_
    refine aO ?_
    refine aD (aA M (aF M M (lb M) (sv (d:=.int _ (-1)) M))<|aC ?_)
    refine bB ?_
    obtain rfl:=sj_ h
    refine ⟨.inr M,(.cons (sv M) .nil)⟩

theorem iS (a0:aL) (a1:Int) (r:(List Int)) (h:eZ a0 a1=some r):eJ prog 20 [.agg (v0 a0),.int .i64 a1] (.slice false (r.map (eInt .i64).d)):=by
 refine bS (rs:=[.slice false (r.map (eInt .i64).d)]) func20 M ntmps20 (nle M) M fun O hO=>?_
 show IWP _ _ _ _ ⟨[(0,.agg (v0 a0)),(1,.int .i64 a1)],[]⟩ _
 unfold eZ at h
 refine aD (aA M (cY (cs:=q10) 0 M M (lb M) M (svA q10 M) M M)<|aA M (aF M M (lb M) (sv (d:=.nils) M))<|aC ?_)
 refine aD (aA M (aF M M (lb M) (sv (d:=.nils) M))<|aC ?_)
 refine aT ?_
 refine aD (aA M (aF M M (lb M) (sv (d:=.int _ 0) M))<|aC ?_)
 refine bA ?_
 refine cQ (α:=Nat × (List Int) × Int) (fun z=>⟨[(1,.int .i64 a1),(2,.ref 0 0),(5,.gsl 22 (eInt .i64).sz (z.2.1.map (eInt .i64).d)),(6,.int .i64 z.2.2)],[(0,.blk 32 (v0 a0)),(22,.tail 3 (eInt .i64).sz z.2.1.length)]⟩) (fun z=>dP a0 a1 z.1 z.2.1 z.2.2=some r) (fun z=>z.1) (fuel,([]:(List Int)),0) (fun i=>if i=22 then 73 else i) ⟨(.s M M (.s M M (.cons (.nils M) (.sames M M)))),(.cons (.blk M M M) (.cons (.nils M) .nil)),bD [0,73] M (by decide),(fun i hi=>by first | rfl | (show (if _ then _ else _)=_; (repeat' split) <;> omega))⟩ ?_ ?_
 ·exact h
 ·
  rintro ⟨n0,v10,v11⟩ h
  cases n0 with
  | zero=>exact absurd h (by unfold dP; exact nofun)
  | succ n0 =>
   unfold dP at h
   refine aT ?_
   obtain ⟨x21,hx21,h⟩:=aY h
   refine aD (aA M (mvI M M M M)<|aA M (faR 2 M M M underlying32 M ti30 (lb M) M M)<|aA M (lrL la30 M M M M M (nle M) M)<|aA M (dE aM (l:=a0.L) M M (lb M) underlying30 (svL M))<|aA M (aQ M M (lb M) (svI M) (svI M) M hx21)<|aC ?_)
   refine aW (b:=_) M (fun hc22=>?_) (fun hc22=>?_)
   ·
    replace h:=cI h hc22
    refine aU ?_
    refine aO ?_
    refine aT ?_
    refine bA ?_
    obtain ⟨x23,hx23,h⟩:=aR h
    obtain ⟨x24,hx24,h⟩:=aY h
    refine aD (aA M (faR 2 M M M underlying32 M ti30 (lb M) M M)<|aA M (lrL la30 M M M M M (nle M) M)<|aA M (mvI M M M M)<|aA M (cM aM (cs:=q12) M M (lb M) underlying30 ti52 (svL M) (svI M) hx23 M M)<|aA M (cF (cs':=[.int _ _]) M M (lb M) underlying52 M ti3 (by decide) (sv (d:=.fptr q12) M) M)<|aA M (cG M M (lb M) underlying3 ag3 ti3 (by decide) (sv (d:=.fptr [.int _ _]) M) (nle M))<|aA M (mvI M M M M)<|aA M (aQ M M (lb M) (svI M) (svI M) M hx24)<|aC ?_)
    refine aW (b:=_) M (fun hc25=>?_) (fun hc25=>?_)
    ·
     replace h:=cI h hc25
     obtain ⟨x26,hx26,h⟩:=aR h
     obtain ⟨x27,hx27,h⟩:=aR h
     refine aX (aA M (aP M M (lb M) (sv (d:=.gsl _ _ _) M))<|aA M (faR 2 M M M underlying32 M ti30 (lb M) M M)<|aA M (lrL la30 M M M M M (nle M) M)<|aA M (mvI M M M M)<|aA M (cM aM (cs:=q12) M M (lb M) underlying30 ti52 (svL M) (svI M) hx26 M M)<|aA M (cF (cs':=[.int _ _]) M M (lb M) underlying52 M ti3 (by decide) (sv (d:=.fptr q12) M) M)<|aA M (cG M M (lb M) underlying3 ag3 ti3 (by decide) (sv (d:=.fptr [.int _ _]) M) (nle M))<|aA M (oO (eInt .i64) ([x26.ID]:(List Int)) 23 M M (lb M) underlying24 ti3 M (.cons (svI M) .nil) M M (by decide))<|aA M (nL (eInt .i64) 24 M M (lb M) underlying24 ti3 M M M M (svg M) hx27)<|aA M (aF M M (lb M) (sv (d:=.gsl _ _ _) M))<|bK ?_)
     refine bL ?_
     refine aO ?_
     obtain ⟨x28,hx28,h⟩:=aY h
     refine aX (aA M (mvI M M M M)<|aA M (cK M M (lb M) (svI M) (sv (d:=.int _ 1) M) M hx28)<|aA M (asI M M M M)<|bK ?_)
     refine aO ⟨(n0,x27,x28),(fun i=>if i=22 then 24 else i),⟨(.sames M M),(.cons (.blk M M M) (.cons (.tail M) .nil)),bD [0,24] M (by decide),(fun i hi=>by first | rfl | (show (if _ then _ else _)=_; (repeat' split) <;> omega))⟩,?_,?_⟩
     exact h
     exact Nat.lt_succ_self _
    ·
     replace h:=cJ h hc25
     refine aU ?_
     refine bL ?_
     refine aO ?_
     obtain ⟨x29,hx29,h⟩:=aY h
     refine aX (aA M (mvI M M M M)<|aA M (cK M M (lb M) (svI M) (sv (d:=.int _ 1) M) M hx29)<|aA M (asI M M M M)<|bK ?_)
     refine aO ⟨(n0,v10,x29),(fun i=>i),⟨(.sames M M),(.cons (.blk M M M) (.cons (.tail M) .nil)),bD [0,22] M (by decide),fun _ _=>M⟩,?_,?_⟩
     exact h
     exact Nat.lt_succ_self _
   ·
    replace h:=cJ h hc22
    refine cX ?_
    refine bR ?_
    refine bR ?_
    refine cZ ?_
    refine aO ?_
    refine aD (aA M (aP M M (lb M) (sv (d:=.gsl _ _ _) M))<|aA M (aF M M (lb M) (sv (d:=.gsl _ _ _) M))<|aC ?_)
    refine bB ?_
    obtain rfl:=sj_ h
    refine ⟨.inr M,(.cons (wQ M M) .nil)⟩

theorem gX (a0:aL) (a1:aN) (r:aL) (h:dK a0 a1=some r):eJ prog 48 [.agg (v0 a0),.agg (v3 a1)] (.agg (v0 r)):=by
 refine mU (rs:=[.agg (v0 r)]) func48 M ntmps48 (nle M) M fun O hO=>?_
 show IWP _ _ _ _ ⟨[(0,.agg (v0 a0)),(1,.agg (v3 a1))],[]⟩ _
 unfold dK at h
 refine aD (aA M (cY (cs:=q10) 0 M M (lb M) M (svA q10 M) M M)<|aA M (cY (cs:=q12) 1 M M (lb M) M (svA q12 M) M M)<|aA M (dA (cs:=q13) (cs':=(w25 0 0 ([]:List aN) ([]:List Int))) 2 M M (lb M) M ti32 M M (.k (.k (.cons (.nils _) (.cons (.nils _) .nil)))))<|aC ?_)
 refine aD (aA M (aF M M (lb M) (sv (d:=.nils) M))<|aC ?_)
 obtain ⟨x1,hx1,h⟩:=aR h
 refine aD (aA M (aP M M (lb M) (sv (d:=.nils) M))<|aA M (faR 2 M M M underlying32 M ti30 (lb M) M M)<|aA M (lrL la30 M M M M M (nle M) M)<|aA M (aBU aM.toEnc0 3 M M (lb M) underlying30 ti52 M M M (src_T aM (ys:=a0.L) (svL M)) hx1)<|aA M (aF M M (lb M) (sv (d:=.osl _ _ _) M))<|aC ?_)
 obtain ⟨x2,hx2,h⟩:=aR h
 obtain ⟨x3,hx3,h⟩:=aR h
 obtain ⟨x4,hx4,h⟩:=aR h
 obtain ⟨x5,hx5,h⟩:=aY h
 refine jK M [⟨[5],[],[(10,.osl 3 aM.sz x1.length)],[]⟩,
  ⟨[2],[0],[(11,.agg (v0 a0))],[]⟩,
  ⟨[3],[],[(12,.ref 1 0)],[]⟩,
  ⟨[12],[1],[(13,.int .i64 a1.ID)],[]⟩,
  ⟨[11,13],[],[(14,.int .i64 x2)],[]⟩,
  ⟨[3],[1],[(15,.agg (v3 a1))],[]⟩,
  ⟨[10,14],[],[(16,.ref 3 (((x2:Int).toNat) * aM.sz + 0))],[]⟩,
  ⟨[15,16],[3],[],[(3,.blk 52 (D.flat (x5.map aM.d)))]⟩] M ?_ (by kernel_rfl) ?_
 ·refine .cons (lop M M fun S hA=>(aP M M (lb M) (sv (d:=.osl _ _ _) (agr hA M M)))) ?_
  refine .cons (lop M M fun S hA=>(dX (cs:=q10) M M (lb M) underlying32 ag32 ti32 (by decide) (svaR hA M M) (agi hA M M) (nle M) M)) ?_
  refine .cons (lop M M fun S hA=>(aS M M (lb M) underlying52 M ti3 (by decide) (svaR hA M M) (off':=0) M)) ?_
  refine .cons (lop M M fun S hA=>(aI (d:=.int _ _) M M (lb M) underlying3 ag3 ti3 (by decide) (svaR hA M M) (agi hA M M) (nle M) M)) ?_
  refine .cons (lop M M fun S hA=>(bC (r:=.int _ _) M M (lb M) cl39 (.cons (svaA q10 hA M M) (.cons (svaI hA M M) .nil)) M (cA _ _ _ hx2))) ?_
  refine .cons (lop M M fun S hA=>(dX (cs:=q12) M M (lb M) underlying52 ag52 ti52 (by decide) (svaR hA M M) (agi hA M M) (nle M) M)) ?_
  refine .cons (lop M M fun S hA=>(lE aM.toEnc0 M M (lb M) underlying30 ti52 (sv (d:=.osl _ _ _) (agr hA M M)) M (svaI hA M M) hx3)) ?_
  refine .cons (lop M M fun S hA=>(pB aM.toEnc0 (a':=a1) M M ti52 (svaR hA M M) (agi hA M M) (svaA q12 hA M M) M M M hx4 (nle M) M hx5)) ?_
  exact .nil
 refine aD (aA M (aP M M (lb M) (sv (d:=.osl _ _ _) M))<|aA M (faR 2 M M M underlying32 M ti30 (lb M) M M)<|aA M (cO (ds':=q11) M M ti30 (svR M) M (sv (d:=.osl _ _ _) M) M M M (nle M) M)<|aC ?_)
 refine aD (aA M (lra q11 la32 M M M M M (nle M) M)<|aA M (stA q11 q11 ti32 M M M M M M M M (nle M) M)<|aC ?_)
 refine bB ?_
 obtain rfl:=sj_ h
 refine ⟨.inr M,_,(.cons (rva la32 M M (nle M) M) .nil),(.cons (.agg (.k (.k (.cons (FDT aM M (kR hx5 M)) (.all _))))) .nil)⟩

theorem mV (a0:(List Int)) (a1:Int) (r:(List Int)) (h:hZ a0 a1=some r):eJ prog 64 [.slice false (a0.map (eInt .i64).d),.int .i64 a1] (.slice false (r.map (eInt .i64).d)):=by
 refine bS (rs:=[.slice false (r.map (eInt .i64).d)]) func64 M ntmps64 (nle M) M fun O hO=>?_
 show IWP _ _ _ _ ⟨[(0,.slice false (a0.map (eInt .i64).d)),(1,.int .i64 a1)],[]⟩ _
 unfold hZ at h
 refine aD (aA M (aF M M (lb M) (sv (d:=.nils) M))<|aC ?_)
 refine aD (aA M (aF M M (lb M) (sv (d:=.nils) M))<|aC ?_)
 refine aT ?_
 refine aD (aA M (aF M M (lb M) (sv (d:=.int _ 0) M))<|aC ?_)
 refine bA ?_
 refine cQ (α:=Nat × (List Int) × Int) (fun z=>⟨[(0,.slice false (a0.map (eInt .i64).d)),(1,.int .i64 a1),(5,.gsl 21 (eInt .i64).sz (z.2.1.map (eInt .i64).d)),(6,.int .i64 z.2.2)],[(21,.tail 3 (eInt .i64).sz z.2.1.length)]⟩) (fun z=>eK a0 a1 z.1 z.2.1 z.2.2=some r) (fun z=>z.1) (fuel,([]:(List Int)),0) (fun i=>if i=21 then 71 else i) ⟨(.s M M (.s M M (.cons (.nils M) (.sames M M)))),(.cons (.nils M) .nil),bD [71] M (by decide),(fun i hi=>by first | rfl | (show (if _ then _ else _)=_; (repeat' split) <;> omega))⟩ ?_ ?_
 ·exact h
 ·
  rintro ⟨n0,v10,v11⟩ h
  cases n0 with
  | zero=>exact absurd h (by unfold eK; exact nofun)
  | succ n0 =>
   unfold eK at h
   refine aT ?_
   obtain ⟨x21,hx21,h⟩:=aY h
   refine aD (aA M (mvI M M M M)<|aA M (mvL M M M M)<|aA M (dE (eInt .i64) (l:=a0) M M (lb M) underlying24 (svL M))<|aA M (aQ M M (lb M) (svI M) (svI M) M hx21)<|aC ?_)
   refine aW (b:=_) M (fun hc22=>?_) (fun hc22=>?_)
   ·
    replace h:=cI h hc22
    refine aU ?_
    refine aO ?_
    refine aT ?_
    refine bA ?_
    obtain ⟨x23,hx23,h⟩:=aR h
    obtain ⟨x24,hx24,h⟩:=aY h
    refine aD (aA M (mvL M M M M)<|aA M (mvI M M M M)<|aA M (cM (eInt .i64) (cs:=[.int _ _]) M M (lb M) underlying24 ti3 (svL M) (svI M) hx23 M M)<|aA M (cG M M (lb M) underlying3 ag3 ti3 (by decide) (sv (d:=.fptr [.int _ _]) M) (nle M))<|aA M (mvI M M M M)<|aA M (aQ M M (lb M) (svI M) (svI M) M hx24)<|aC ?_)
    refine aW (b:=_) M (fun hc25=>?_) (fun hc25=>?_)
    ·
     replace h:=cI h hc25
     obtain ⟨x26,hx26,h⟩:=aR h
     obtain ⟨x27,hx27,h⟩:=aR h
     refine aX (aA M (aP M M (lb M) (sv (d:=.gsl _ _ _) M))<|aA M (mvL M M M M)<|aA M (mvI M M M M)<|aA M (cM (eInt .i64) (cs:=[.int _ _]) M M (lb M) underlying24 ti3 (svL M) (svI M) hx26 M M)<|aA M (cG M M (lb M) underlying3 ag3 ti3 (by decide) (sv (d:=.fptr [.int _ _]) M) (nle M))<|aA M (oO (eInt .i64) ([x26]:(List Int)) 22 M M (lb M) underlying24 ti3 M (.cons (svI M) .nil) M M (by decide))<|aA M (nL (eInt .i64) 23 M M (lb M) underlying24 ti3 M M M M (svg M) hx27)<|aA M (aF M M (lb M) (sv (d:=.gsl _ _ _) M))<|bK ?_)
     refine bL ?_
     refine aO ?_
     obtain ⟨x28,hx28,h⟩:=aY h
     refine aX (aA M (mvI M M M M)<|aA M (cK M M (lb M) (svI M) (sv (d:=.int _ 1) M) M hx28)<|aA M (asI M M M M)<|bK ?_)
     refine aO ⟨(n0,x27,x28),(fun i=>if i=21 then 23 else i),⟨(.sames M M),(.cons (.tail M) .nil),bD [23] M (by decide),(fun i hi=>by first | rfl | (show (if _ then _ else _)=_; (repeat' split) <;> omega))⟩,?_,?_⟩
     exact h
     exact Nat.lt_succ_self _
    ·
     replace h:=cJ h hc25
     refine aU ?_
     refine bL ?_
     refine aO ?_
     obtain ⟨x29,hx29,h⟩:=aY h
     refine aX (aA M (mvI M M M M)<|aA M (cK M M (lb M) (svI M) (sv (d:=.int _ 1) M) M hx29)<|aA M (asI M M M M)<|bK ?_)
     refine aO ⟨(n0,v10,x29),(fun i=>i),⟨(.sames M M),(.cons (.tail M) .nil),bD [21] M (by decide),fun _ _=>M⟩,?_,?_⟩
     exact h
     exact Nat.lt_succ_self _
   ·
    replace h:=cJ h hc22
    refine cX ?_
    refine bR ?_
    refine bR ?_
    refine cZ ?_
    refine aO ?_
    refine aD (aA M (aP M M (lb M) (sv (d:=.gsl _ _ _) M))<|aA M (aF M M (lb M) (sv (d:=.gsl _ _ _) M))<|aC ?_)
    refine bB ?_
    obtain rfl:=sj_ h
    refine ⟨.inr M,(.cons (wQ M M) .nil)⟩
end Go.Proofs.YtdnjagkihgjpcaaGreat
