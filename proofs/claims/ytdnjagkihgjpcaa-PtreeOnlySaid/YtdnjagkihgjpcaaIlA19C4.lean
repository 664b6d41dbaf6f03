/-
  A part of the proof: rules and plain facts. No condition.
-/
import Derived.Test.YtdnjagkihgjpcaaProg
import Derived.KernelRfl
import Derived.Test.YtdnjagkihgjpcaaIlMb
import Derived.Test.YtdnjagkihgjpcaaIlIt19
import Derived.Test.YtdnjagkihgjpcaaIlA19C3
set_option linter.all false
set_option maxRecDepth 8000
set_option maxHeartbeats 2000000
open Go Go.IL Go.Fn Go.Proofs
namespace Go.Proofs.Ytdnjagkihgjpcaa
theorem ti23 : TI Try.prog 23 (some (.agg #[.int .u8 0,.int .i64 0,.int .i64 0,.int .i64 0,.bool false])) 5 40:=by unfold TI; kernel_rfl
theorem ag23 : iM Try.prog 23 = true:=by kernel_rfl
theorem cl7 : bQ Try.prog 7:=⟨Try.f7,Try.func7,rfl,rfl⟩
theorem cl8 : bQ Try.prog 8:=⟨Try.f8,Try.func8,rfl,rfl⟩
theorem cl16 : bQ Try.prog 16:=⟨Try.f16,Try.func16,rfl,rfl⟩
theorem nW (a0 : cE) (a1 : Int) (a2 : Int) (a3 : (List aI)) (a4 : Int) (a5 : Int) (a6 : (List aG)) (a7 : Int) (a8 : (List Int)) (r : (Int × Int × Int × (List aI) × Int × Int × (List aG) × Int × (List Int))) (h : iZ a0 a1 a2 a3 a4 a5 a6 a7 a8 = some r) : FnH Try.prog 8 [.ref 1000 0,.agg (v0 a0)] [(1000,.blk 60 (mixD aB.toEnc0 (w20 a1 a2 a3 a4 a5) a6 [.int .i64 a7,.osl 1001 (eInt .i64).sz a8.length])),(1001,.blk 3 (D.flat (a8.map (eInt .i64).d)))] (.int .i64 r.1) [(1000,.blk 60 (mixD aB.toEnc0 (w20 r.2.1 r.2.2.1 r.2.2.2.1 r.2.2.2.2.1 r.2.2.2.2.2.1) r.2.2.2.2.2.2.1 [.int .i64 r.2.2.2.2.2.2.2.1,.osl 0 (eInt .i64).sz r.2.2.2.2.2.2.2.2.length])),(0,.blk 3 (D.flat (r.2.2.2.2.2.2.2.2.map (eInt .i64).d)))]:=by
 refine dS (rs:=[.int .i64 r.1]) Try.func8 rfl Try.ntmps8 (nle rfl) fun O hO=>?_
 show IWP _ _ _ _ ⟨[(0,.ref 1000 0),(1,.agg (v0 a0))],[(1000,.blk 60 (mixD aB.toEnc0 (w20 a1 a2 a3 a4 a5) a6 [.int .i64 a7,.osl 1001 (eInt .i64).sz a8.length])),(1001,.blk 3 (D.flat (a8.map (eInt .i64).d)))]⟩ _
 unfold iZ at h
 refine aF (aA rfl (eD (cs:=q8) 0 rfl rfl (lb rfl) rfl (svA q8 rfl) rfl rfl) <|aA rfl (aH rfl rfl (lb rfl) (sv (d:=.int _ 0) rfl)) <|aD ?_)
 refine aT ?_
 obtain ⟨x1,hx1,h⟩:=aS h
 refine aF (aA rfl (faR 0 rfl rfl rfl Try.underlying23 rfl ti5 (lb rfl) rfl rfl) <|aA rfl (aK (d:=.int _ _) rfl rfl (lb rfl) Try.underlying5 ag5 ti5 (by decide) (svR rfl) rfl (nle rfl) rfl) <|aA rfl (sM rfl rfl (lb rfl) (svI rfl) (sv (d:=.int _ 6) rfl) hx1) <|aD ?_)
 refine bA ?_
 refine jM (α:=Bool) (fun z=>⟨[(0,.ref 1000 0),(3,.ref 0 0),(7,.int .u8 x1),(8,.bool z)],[(1000,.blk 60 (mixD aB.toEnc0 (w20 a1 a2 a3 a4 a5) a6 [.int .i64 a7,.osl 1001 (eInt .i64).sz a8.length])),(0,.blk 23 (v0 a0)),(1001,.blk 3 (D.flat (a8.map (eInt .i64).d)))]⟩) (fun z=>hZ a0 a1 a2 a3 a4 a5 a6 a7 a8 x1 z = some r) ?_ ?_
 ·
  obtain ⟨x21,hx21,h⟩:=aR h
  refine aF (aA rfl (aM rfl rfl (lb rfl) (svI rfl) (sv (d:=.int _ 0) rfl) rfl hx21) <|aA rfl (asB rfl rfl rfl rfl) <|aD ?_)
  refine aX (b:=_) rfl (fun hc22=>?_) (fun hc22=>?_)
  ·
   replace h:=bY h hc22
   refine aU ?_
   refine aL ⟨x21,(fun i=>i),⟨(.sames rfl rfl),(.cons (EntW.mix aB rfl (SubC.of_eq rfl) (SubC.of_eq rfl) rfl rfl) (.cons (.blk rfl rfl rfl) (.cons (EntW.lst rfl) .nil))),bB [1000,0,1001] rfl (by decide),fun _ _=>rfl⟩,?_⟩
   exact h
  ·
   replace h:=bZ h hc22
   obtain ⟨x23,hx23,h⟩:=aR h
   refine aW (aA rfl (aM rfl rfl (lb rfl) (svI rfl) (sv (d:=.int _ 1) rfl) rfl hx23) <|aA rfl (asB rfl rfl rfl rfl) <|bL ?_)
   refine aL ⟨x23,(fun i=>i),⟨(.sames rfl rfl),(.cons (EntW.mix aB rfl (SubC.of_eq rfl) (SubC.of_eq rfl) rfl rfl) (.cons (.blk rfl rfl rfl) (.cons (EntW.lst rfl) .nil))),bB [1000,0,1001] rfl (by decide),fun _ _=>rfl⟩,?_⟩
   exact h
 ·
  rintro v5 h
  unfold hZ at h
  refine aX (b:=_) rfl (fun hc6=>?_) (fun hc6=>?_)
  ·
   replace h:=bY h hc6
   obtain ⟨x7,hx7,h⟩:=aS h
   refine aF (aA rfl (mvR rfl rfl rfl rfl) <|aA rfl (faR 1 rfl rfl rfl Try.underlying23 rfl ti3 (lb rfl) rfl rfl) <|aA rfl (aK (d:=.int _ _) rfl rfl (lb rfl) Try.underlying3 ag3 ti3 (by decide) (svR rfl) rfl (nle rfl) rfl) <|aA rfl (faR 2 rfl rfl rfl Try.underlying23 rfl ti3 (lb rfl) rfl rfl) <|aA rfl (aK (d:=.int _ _) rfl rfl (lb rfl) Try.underlying3 ag3 ti3 (by decide) (svR rfl) rfl (nle rfl) rfl) <|aA rfl (faR 3 rfl rfl rfl Try.underlying23 rfl ti3 (lb rfl) rfl rfl) <|aA rfl (aK (d:=.int _ _) rfl rfl (lb rfl) Try.underlying3 ag3 ti3 (by decide) (svR rfl) rfl (nle rfl) rfl) <|aA rfl (faR 4 rfl rfl rfl Try.underlying23 rfl ti4 (lb rfl) rfl rfl) <|aA rfl (aK (d:=.bool _) rfl rfl (lb rfl) Try.underlying4 ag4 ti4 (by decide) (svR rfl) rfl (nle rfl) rfl) <|aA rfl (bH (r':=.int .i64 x7.1) (H1':=[(1000,.blk 60 (mixD aB.toEnc0 (w20 x7.2.1 x7.2.2.1 x7.2.2.2.1 x7.2.2.2.2.1 x7.2.2.2.2.2.1) x7.2.2.2.2.2.2.1 [.int .i64 x7.2.2.2.2.2.2.2.1,.osl 1 (eInt .i64).sz x7.2.2.2.2.2.2.2.2.length])),(1,.blk 3 (D.flat (x7.2.2.2.2.2.2.2.2.map (eInt .i64).d)))]) 1 [1000,1001] rfl rfl (lb rfl) cl18 (.cons (svR rfl) (.cons (svI rfl) (.cons (svI rfl) (.cons (svI rfl) (.cons (svB rfl) .nil))))) rfl rfl ⟨rfl,rfl,by decide,rfl,List.forall_mem_cons.2 ⟨⟨rfl,rfl,(eP aB rfl rfl rfl),(bF aB rfl rfl)⟩,List.forall_mem_cons.2 ⟨⟨rfl,rfl,(dY (eInt .i64) rfl),(aY (eInt .i64))⟩,List.forall_mem_nil _⟩⟩⟩ (gK _ _ _ _ _ _ _ _ _ _ _ _ _ hx7) rfl rfl (List.forall_mem_cons.2 ⟨⟨rfl,(bF aB rfl rfl)⟩,List.forall_mem_cons.2 ⟨⟨rfl,(aY (eInt .i64))⟩,List.forall_mem_nil _⟩⟩) (by simp only [List.map_cons,List.map_nil,Ent.ren,bC,bG,bK]; rfl)) <|aA rfl (asI rfl rfl rfl rfl) <|aD ?_)
   refine bD ?_
   refine eH ?_
   refine bS ?_
   obtain rfl:=Option.some.inj h
   refine ⟨.inr rfl,(fun i=>if i = 0 then 1 else i),⟨.nil,(.cons (EntW.mix aB rfl (SubC.of_eq rfl) (SubC.of_eq rfl) rfl rfl) (.cons (EntW.lst rfl) .nil)),bB [1000,1] rfl (by decide),(fun i hi=>by first | rfl | (show (if _ then _ else _) = _; (repeat' split) <;> omega))⟩,(.cons (sv rfl) .nil),rfl⟩
  ·
   replace h:=bZ h hc6
   refine jM (α:=Bool) (fun z=>⟨[(0,.ref 1000 0),(3,.ref 0 0),(7,.int .u8 x1),(21,.bool z)],[(1000,.blk 60 (mixD aB.toEnc0 (w20 a1 a2 a3 a4 a5) a6 [.int .i64 a7,.osl 1001 (eInt .i64).sz a8.length])),(0,.blk 23 (v0 a0)),(1001,.blk 3 (D.flat (a8.map (eInt .i64).d)))]⟩) (fun z=>hM a0 a1 a2 a3 a4 a5 a6 a7 a8 x1 z = some r) ?_ ?_
   ·
    obtain ⟨x18,hx18,h⟩:=aR h
    refine aF (aA rfl (aM rfl rfl (lb rfl) (svI rfl) (sv (d:=.int _ 2) rfl) rfl hx18) <|aA rfl (asB rfl rfl rfl rfl) <|aD ?_)
    refine aX (b:=_) rfl (fun hc19=>?_) (fun hc19=>?_)
    ·
     replace h:=bY h hc19
     refine aU ?_
     refine aL ⟨x18,(fun i=>i),⟨(.sames rfl rfl),(.cons (EntW.mix aB rfl (SubC.of_eq rfl) (SubC.of_eq rfl) rfl rfl) (.cons (.blk rfl rfl rfl) (.cons (EntW.lst rfl) .nil))),bB [1000,0,1001] rfl (by decide),fun _ _=>rfl⟩,?_⟩
     exact h
    ·
     replace h:=bZ h hc19
     obtain ⟨x20,hx20,h⟩:=aR h
     refine aW (aA rfl (aM rfl rfl (lb rfl) (svI rfl) (sv (d:=.int _ 3) rfl) rfl hx20) <|aA rfl (asB rfl rfl rfl rfl) <|bL ?_)
     refine aL ⟨x20,(fun i=>i),⟨(.sames rfl rfl),(.cons (EntW.mix aB rfl (SubC.of_eq rfl) (SubC.of_eq rfl) rfl rfl) (.cons (.blk rfl rfl rfl) (.cons (EntW.lst rfl) .nil))),bB [1000,0,1001] rfl (by decide),fun _ _=>rfl⟩,?_⟩
     exact h
   ·
    rintro v11 h
    unfold hM at h
    refine aX (b:=_) rfl (fun hc12=>?_) (fun hc12=>?_)
    ·
     replace h:=bY h hc12
     obtain ⟨x13,hx13,h⟩:=aS h
     refine aF (aA rfl (mvR rfl rfl rfl rfl) <|aA rfl (faR 1 rfl rfl rfl Try.underlying23 rfl ti3 (lb rfl) rfl rfl) <|aA rfl (aK (d:=.int _ _) rfl rfl (lb rfl) Try.underlying3 ag3 ti3 (by decide) (svR rfl) rfl (nle rfl) rfl) <|aA rfl (faR 2 rfl rfl rfl Try.underlying23 rfl ti3 (lb rfl) rfl rfl) <|aA rfl (aK (d:=.int _ _) rfl rfl (lb rfl) Try.underlying3 ag3 ti3 (by decide) (svR rfl) rfl (nle rfl) rfl) <|aA rfl (faR 3 rfl rfl rfl Try.underlying23 rfl ti3 (lb rfl) rfl rfl) <|aA rfl (aK (d:=.int _ _) rfl rfl (lb rfl) Try.underlying3 ag3 ti3 (by decide) (svR rfl) rfl (nle rfl) rfl) <|aA rfl (faR 4 rfl rfl rfl Try.underlying23 rfl ti4 (lb rfl) rfl rfl) <|aA rfl (aK (d:=.bool _) rfl rfl (lb rfl) Try.underlying4 ag4 ti4 (by decide) (svR rfl) rfl (nle rfl) rfl) <|aA rfl (bH (r':=.int .i64 x13.1) (H1':=[(1000,.blk 60 (mixD aB.toEnc0 (w20 x13.2.1 x13.2.2.1 x13.2.2.2.1 x13.2.2.2.2.1 x13.2.2.2.2.2.1) x13.2.2.2.2.2.2.1 [.int .i64 x13.2.2.2.2.2.2.2.1,.osl 1 (eInt .i64).sz x13.2.2.2.2.2.2.2.2.length])),(1,.blk 3 (D.flat (x13.2.2.2.2.2.2.2.2.map (eInt .i64).d)))]) 1 [1000,1001] rfl rfl (lb rfl) cl17 (.cons (svR rfl) (.cons (svI rfl) (.cons (svI rfl) (.cons (svI rfl) (.cons (svB rfl) .nil))))) rfl rfl ⟨rfl,rfl,by decide,rfl,List.forall_mem_cons.2 ⟨⟨rfl,rfl,(eP aB rfl rfl rfl),(bF aB rfl rfl)⟩,List.forall_mem_cons.2 ⟨⟨rfl,rfl,(dY (eInt .i64) rfl),(aY (eInt .i64))⟩,List.forall_mem_nil _⟩⟩⟩ (jW _ _ _ _ _ _ _ _ _ _ _ _ _ hx13) rfl rfl (List.forall_mem_cons.2 ⟨⟨rfl,(bF aB rfl rfl)⟩,List.forall_mem_cons.2 ⟨⟨rfl,(aY (eInt .i64))⟩,List.forall_mem_nil _⟩⟩) (by simp only [List.map_cons,List.map_nil,Ent.ren,bC,bG,bK]; rfl)) <|aA rfl (asI rfl rfl rfl rfl) <|aD ?_)
     refine bD ?_
     refine eH ?_
     refine bS ?_
     obtain rfl:=Option.some.inj h
     refine ⟨.inr rfl,(fun i=>if i = 0 then 1 else i),⟨.nil,(.cons (EntW.mix aB rfl (SubC.of_eq rfl) (SubC.of_eq rfl) rfl rfl) (.cons (EntW.lst rfl) .nil)),bB [1000,1] rfl (by decide),(fun i hi=>by first | rfl | (show (if _ then _ else _) = _; (repeat' split) <;> omega))⟩,(.cons (sv rfl) .nil),rfl⟩
    ·
     replace h:=bZ h hc12
     obtain ⟨x14,hx14,h⟩:=aR h
     refine aF (aA rfl (aM rfl rfl (lb rfl) (svI rfl) (sv (d:=.int _ 4) rfl) rfl hx14) <|aA rfl (asB rfl rfl rfl rfl) <|aD ?_)
     refine aX (b:=_) rfl (fun hc15=>?_) (fun hc15=>?_)
     ·
      replace h:=bY h hc15
      obtain ⟨x16,hx16,h⟩:=aS h
      refine aF (aA rfl (mvR rfl rfl rfl rfl) <|aA rfl (faR 1 rfl rfl rfl Try.underlying23 rfl ti3 (lb rfl) rfl rfl) <|aA rfl (aK (d:=.int _ _) rfl rfl (lb rfl) Try.underlying3 ag3 ti3 (by decide) (svR rfl) rfl (nle rfl) rfl) <|aA rfl (bH (r':=.int .i64 x16.1) (H1':=[(1000,.blk 60 (mixD aB.toEnc0 (w20 x16.2.1 x16.2.2.1 x16.2.2.2.1 x16.2.2.2.2.1 x16.2.2.2.2.2.1) x16.2.2.2.2.2.2.1 [.int .i64 x16.2.2.2.2.2.2.2.1,.osl 1 (eInt .i64).sz x16.2.2.2.2.2.2.2.2.length])),(1,.blk 3 (D.flat (x16.2.2.2.2.2.2.2.2.map (eInt .i64).d)))]) 1 [1000,1001] rfl rfl (lb rfl) cl20 (.cons (svR rfl) (.cons (svI rfl) .nil)) rfl rfl ⟨rfl,rfl,by decide,rfl,List.forall_mem_cons.2 ⟨⟨rfl,rfl,(eP aB rfl rfl rfl),(bF aB rfl rfl)⟩,List.forall_mem_cons.2 ⟨⟨rfl,rfl,(dY (eInt .i64) rfl),(aY (eInt .i64))⟩,List.forall_mem_nil _⟩⟩⟩ (jR _ _ _ _ _ _ _ _ _ _ hx16) rfl rfl (List.forall_mem_cons.2 ⟨⟨rfl,(bF aB rfl rfl)⟩,List.forall_mem_cons.2 ⟨⟨rfl,(aY (eInt .i64))⟩,List.forall_mem_nil _⟩⟩) (by simp only [List.map_cons,List.map_nil,Ent.ren,bC,bG,bK]; rfl)) <|aA rfl (asI rfl rfl rfl rfl) <|aD ?_)
      refine bD ?_
      refine eH ?_
      refine bS ?_
      obtain rfl:=Option.some.inj h
      refine ⟨.inr rfl,(fun i=>if i = 0 then 1 else i),⟨.nil,(.cons (EntW.mix aB rfl (SubC.of_eq rfl) (SubC.of_eq rfl) rfl rfl) (.cons (EntW.lst rfl) .nil)),bB [1000,1] rfl (by decide),(fun i hi=>by first | rfl | (show (if _ then _ else _) = _; (repeat' split) <;> omega))⟩,(.cons (sv rfl) .nil),rfl⟩
     ·
      replace h:=bZ h hc15
      refine aU ?_
      refine bR ?_
      refine aL ?_
      obtain ⟨x17,hx17,h⟩:=aS h
      refine aF (aA rfl (mvR rfl rfl rfl rfl) <|aA rfl (faR 1 rfl rfl rfl Try.underlying23 rfl ti3 (lb rfl) rfl rfl) <|aA rfl (aK (d:=.int _ _) rfl rfl (lb rfl) Try.underlying3 ag3 ti3 (by decide) (svR rfl) rfl (nle rfl) rfl) <|aA rfl (bH (r':=.int .i64 x17.1) (H1':=[(1000,.blk 60 (mixD aB.toEnc0 (w20 x17.2.1 x17.2.2.1 x17.2.2.2.1 x17.2.2.2.2.1 x17.2.2.2.2.2.1) x17.2.2.2.2.2.2.1 [.int .i64 x17.2.2.2.2.2.2.2.1,.osl 1 (eInt .i64).sz x17.2.2.2.2.2.2.2.2.length])),(1,.blk 3 (D.flat (x17.2.2.2.2.2.2.2.2.map (eInt .i64).d)))]) 1 [1000,1001] rfl rfl (lb rfl) cl21 (.cons (svR rfl) (.cons (svI rfl) .nil)) rfl rfl ⟨rfl,rfl,by decide,rfl,List.forall_mem_cons.2 ⟨⟨rfl,rfl,(eP aB rfl rfl rfl),(bF aB rfl rfl)⟩,List.forall_mem_cons.2 ⟨⟨rfl,rfl,(dY (eInt .i64) rfl),(aY (eInt .i64))⟩,List.forall_mem_nil _⟩⟩⟩ (lA _ _ _ _ _ _ _ _ _ _ hx17) rfl rfl (List.forall_mem_cons.2 ⟨⟨rfl,(bF aB rfl rfl)⟩,List.forall_mem_cons.2 ⟨⟨rfl,(aY (eInt .i64))⟩,List.forall_mem_nil _⟩⟩) (by simp only [List.map_cons,List.map_nil,Ent.ren,bC,bG,bK]; rfl)) <|aA rfl (asI rfl rfl rfl rfl) <|aD ?_)
      refine bD ?_
      obtain rfl:=Option.some.inj h
      refine ⟨.inr rfl,(fun i=>if i = 0 then 1 else i),⟨.nil,(.cons (EntW.mix aB rfl (SubC.of_eq rfl) (SubC.of_eq rfl) rfl rfl) (.cons (EntW.lst rfl) .nil)),bB [1000,1] rfl (by decide),(fun i hi=>by first | rfl | (show (if _ then _ else _) = _; (repeat' split) <;> omega))⟩,(.cons (sv rfl) .nil),rfl⟩

theorem eF (a0 : (List Int)) (a1 : Int) (r : Bool) (h : dM a0 a1 = some r) : gL Try.prog 16 [.slice false (a0.map (eInt .i64).d),.int .i64 a1] (.bool r):=by
 refine dO (rs:=[.bool r]) Try.func16 rfl Try.ntmps16 (nle rfl) rfl fun O hO=>?_
 show IWP _ _ _ _ ⟨[(0,.slice false (a0.map (eInt .i64).d)),(1,.int .i64 a1)],[]⟩ _
 unfold dM at h
 refine aF (aA rfl (aH rfl rfl (lb rfl) (sv (d:=.bool false) rfl)) <|aD ?_)
 refine aT ?_
 refine aF (aA rfl (aH rfl rfl (lb rfl) (sv (d:=.int _ 0) rfl)) <|aD ?_)
 refine bA ?_
 refine cV (α:=Nat × Int) (fun z=>⟨[(0,.slice false (a0.map (eInt .i64).d)),(1,.int .i64 a1),(5,.int .i64 z.2)],[]⟩) (fun z=>fI a0 a1 z.1 z.2 = some r) (fun z=>z.1) (fuel,0) (fun i=>i) ⟨(.sames rfl rfl),.nil,bB [] rfl (by decide),fun _ _=>rfl⟩ ?_ ?_
 ·exact h
 ·
  rintro ⟨n0,v7⟩ h
  cases n0 with
  | zero=>exact absurd h (by unfold fI; exact nofun)
  | succ n0 =>
   unfold fI at h
   refine aT ?_
   obtain ⟨x14,hx14,h⟩:=aR h
   refine aF (aA rfl (mvI rfl rfl rfl rfl) <|aA rfl (mvL rfl rfl rfl rfl) <|aA rfl (eQ (eInt .i64) (l:=a0) rfl rfl (lb rfl) Try.underlying24 (svL rfl)) <|aA rfl (aM rfl rfl (lb rfl) (svI rfl) (svI rfl) rfl hx14) <|aD ?_)
   refine aX (b:=_) rfl (fun hc15=>?_) (fun hc15=>?_)
   ·
    replace h:=bY h hc15
    refine aU ?_
    refine aL ?_
    refine aT ?_
    refine bA ?_
    obtain ⟨x16,hx16,h⟩:=aS h
    obtain ⟨x17,hx17,h⟩:=aR h
    refine aF (aA rfl (mvL rfl rfl rfl rfl) <|aA rfl (mvI rfl rfl rfl rfl) <|aA rfl (gO (eInt .i64) (cs:=[.int _ _]) rfl rfl (lb rfl) Try.underlying24 ti3 (svL rfl) (svI rfl) hx16 rfl rfl) <|aA rfl (fT rfl rfl (lb rfl) Try.underlying3 ag3 ti3 (by decide) (sv (d:=.fptr [.int _ _]) rfl) (nle rfl)) <|aA rfl (mvI rfl rfl rfl rfl) <|aA rfl (aM rfl rfl (lb rfl) (svI rfl) (svI rfl) rfl hx17) <|aD ?_)
    refine aX (b:=_) rfl (fun hc18=>?_) (fun hc18=>?_)
    ·
     replace h:=bY h hc18
     refine aF (aA rfl (aH rfl rfl (lb rfl) (sv (d:=.bool true) rfl)) <|aD ?_)
     refine bD ?_
     refine eH ?_
     refine bS ?_
     refine bS ?_
     refine eH ?_
     refine bS ?_
     obtain rfl:=Option.some.inj h
     refine ⟨.inr rfl,(.cons (sv rfl) .nil)⟩
    ·
     replace h:=bZ h hc18
     refine aU ?_
     refine bR ?_
     refine aL ?_
     obtain ⟨x19,hx19,h⟩:=aR h
     refine aW (aA rfl (mvI rfl rfl rfl rfl) <|aA rfl (cQ rfl rfl (lb rfl) (svI rfl) (sv (d:=.int _ 1) rfl) rfl hx19) <|aA rfl (asI rfl rfl rfl rfl) <|bL ?_)
     refine aL ⟨(n0,x19),(fun i=>i),⟨(.sames rfl rfl),.nil,bB [] rfl (by decide),fun _ _=>rfl⟩,?_,?_⟩
     exact h
     exact Nat.lt_succ_self _
   ·
    replace h:=bZ h hc15
    refine dD ?_
    refine bV ?_
    refine bV ?_
    refine dE ?_
    refine aL ?_
    refine aF (aA rfl (aH rfl rfl (lb rfl) (sv (d:=.bool false) rfl)) <|aD ?_)
    refine bD ?_
    obtain rfl:=Option.some.inj h
    refine ⟨.inr rfl,(.cons (sv rfl) .nil)⟩

theorem mK (a0 : (List cE)) (a1 : Int) (a2 : Int) (r : Bool) (h : gI a0 a1 a2 = some r) : gL Try.prog 6 [.slice false (a0.map dB.d), .int .u8 a1, .int .u8 a2] (.bool r) := by
 refine dO (rs:=[.bool r]) Try.func6 rfl Try.ntmps6 (nle rfl) rfl fun O hO=>?_
 show IWP _ _ _ _ ⟨[(0,.slice false (a0.map dB.d)),(1,.int .u8 a1),(2,.int .u8 a2)],[]⟩ _
 unfold gI at h
 refine aF (aA rfl (aH rfl rfl (lb rfl) (sv (d:=.bool false) rfl)) <|aD ?_)
 refine aT ?_
 obtain ⟨x1,hx1,h⟩:=aR h
 refine aF (aA rfl (mvL rfl rfl rfl rfl) <|aA rfl (eQ dB (l:=a0) rfl rfl (lb rfl) Try.underlying35 (svL rfl)) <|aA rfl (aM rfl rfl (lb rfl) (svI rfl) (sv (d:=.int _ 40) rfl) rfl hx1) <|aD ?_)
 refine aX (b:=_) rfl (fun hc2=>?_) (fun hc2=>?_)
 ·
  replace h:=bY h hc2
  obtain ⟨x3,hx3,h⟩:=aS h
  refine aF (aA rfl (cA (r:=.bool _) rfl rfl (lb rfl) cl7 .nil rfl (dP  _ hx3)) <|aA rfl (asB rfl rfl rfl rfl) <|aD ?_)
  refine bD ?_
  refine bS ?_
  obtain rfl:=Option.some.inj h
  refine ⟨.inr rfl,(.cons (sv rfl) .nil)⟩
 ·
  replace h:=bZ h hc2
  refine aU ?_
  refine aL ?_
  refine aF (?_)
  refine eR (S':=⟨[(0,.slice false (a0.map dB.d)),(1,.int .u8 a1),(2,.int .u8 a2)],[]⟩) (fun i=>i) ⟨(.sames rfl rfl),.nil,bB [] rfl (by decide),fun _ _=>rfl⟩ ?_
  refine iI 1 0 rfl rfl rfl (by decide) cl15 Try.func15 rfl (.cons (sv (d:=.int _ 24) rfl) (.cons (sv (d:=.int _ 0) rfl) .nil)) Try.ntmps15 (nle rfl) rfl hO.semiL fun O1 hO1=>?_
  show IWP _ _ _ _ ⟨[(0,.int .i64 24),(1,.int .i64 0)],[(0,.kept 1 [.slice false (a0.map dB.d),.int .u8 a1,.int .u8 a2,.dead,.dead,.dead,.dead,.dead,.dead,.dead,.dead,.dead,.dead,.dead,.dead,.dead,.dead,.dead,.dead,.dead,.dead,.dead,.dead,.dead,.dead,.dead,.dead,.dead,.dead,.dead,.dead,.dead,.dead,.dead,.dead,.dead,.dead,.dead,.dead,.dead,.dead,.dead,.dead,.dead,.dead,.dead,.dead,.dead,.dead,.dead,.dead,.dead,.dead,.dead,.dead,.dead,.dead,.dead,.dead,.dead,.dead,.dead,.dead,.dead,.dead,.dead,.dead,.dead,.dead,.dead,.dead,.dead,.dead,.dead,.dead,.dead,.dead,.dead,.dead,.dead,.dead,.dead,.dead,.dead,.dead,.dead,.dead,.dead,.dead,.dead,.dead,.dead,.dead,.dead,.dead,.dead,.dead,.dead,.dead,.dead,.dead,.dead,.dead,.dead,.dead,.dead,.dead,.dead,.dead,.dead,.dead,.dead,.dead,.dead,.dead,.dead,.dead,.dead,.dead,.dead,.dead,.dead,.dead,.dead,.dead,.dead,.dead,.dead,.dead,.dead,.dead,.dead,.dead,.dead,.dead,.dead,.dead,.dead,.dead,.dead,.dead,.dead,.dead,.dead,.dead,.dead,.dead,.dead,.dead,.dead,.dead,.dead,.dead,.dead,.dead,.dead,.dead,.dead,.dead,.dead,.dead,.dead,.dead,.dead,.dead,.dead,.dead,.dead,.dead,.dead,.dead,.dead,.dead,.dead,.dead,.dead,.dead,.dead,.dead,.dead,.dead,.dead,.dead,.dead,.dead,.dead,.dead,.dead,.dead,.dead,.dead,.dead,.dead,.dead,.dead,.dead,.dead,.dead,.dead,.dead,.dead,.dead,.dead,.dead,.dead,.dead,.dead,.dead,.dead,.dead,.dead,.dead,.dead,.dead,.dead,.dead,.dead,.dead,.dead])]⟩ _
  refine aF (aA rfl (aH rfl rfl (lb rfl) (sv (d:=.nilp) rfl)) <|aA rfl (aH rfl rfl (lb rfl) (sv (d:=.int _ 0) rfl)) <|aD ?_)
  refine aT ?_
  obtain ⟨x4,hx4,h⟩:=aS h
  obtain ⟨x5,hx5,h⟩:=aS h
  obtain ⟨x6,hx6,h⟩:=aR h
  refine aF (aA rfl (mvI rfl rfl rfl rfl) <|aA rfl (cA (r:=.bool _) rfl rfl (lb rfl) cl31 (.cons (svI rfl) (.cons (sv (d:=.int _ 1) rfl) (.cons (sv (d:=.int _ 24) rfl) .nil))) rfl (jL _ _ _ _ hx4)) <|aA rfl (eG rfl rfl (lb rfl) (svB rfl)) <|aA rfl (mvB rfl rfl rfl rfl) <|aC rfl rfl (.one rfl) rfl (by decide) (fun hb=>(mvI rfl rfl rfl rfl)) <|aC rfl rfl (.one rfl) rfl (by decide) (fun hb=>(mvI rfl rfl rfl rfl)) <|aC rfl rfl (.one rfl) rfl (by decide) (fun hb=>(cA (r:=.bool _) rfl rfl (lb rfl) cl31 (.cons (svcI rfl hb) (.cons (sv (d:=.int _ 0) rfl) (.cons (svcI rfl hb) .nil))) rfl (jL _ _ _ _ (gd_t hx5 hb)))) <|aC rfl rfl (.one rfl) rfl (by decide) (fun hb=>(eG rfl rfl (lb rfl) (svcB rfl hb))) <|aA rfl (gD rfl rfl (lb rfl) (svB rfl) rfl rfl hx6) <|aD ?_)
  refine aX (b:=_) rfl (fun hc7=>?_) (fun hc7=>?_)
  ·
   replace h:=bY h hc7
   refine aF (aA rfl (aH rfl rfl (lb rfl) (sv (d:=.nilp) rfl)) <|aA rfl (aH rfl rfl (lb rfl) (sv (d:=.int _ 8) rfl)) <|aD ?_)
   refine bD ?_
   refine bS ?_
   refine ⟨.inr rfl,0,_,[.nilp,.int .i64 8],(.cons (sv rfl) (.cons (sv rfl) .nil)),rfl,rfl,⟨[(0,.slice false (a0.map dB.d)),(1,.int .u8 a1),(2,.int .u8 a2),(27,.tuple [.nilp,.int .i64 8])],[]⟩,(fun i=>i),⟨(.sames rfl rfl),.nil,bB [] rfl (by decide),fun _ _=>rfl⟩,?_⟩
   refine aA rfl (aN rfl rfl (lb rfl) (sv (d:=.tuple [.nilp,.int _ _]) rfl)) <|aA rfl (dR (d:=.nilp) rfl rfl (lb rfl) (sv (d:=.tuple [.nilp,.int _ _]) rfl) rfl) <|aA rfl (dR (d:=.int _ _) rfl rfl (lb rfl) (sv (d:=.tuple [.nilp,.int _ _]) rfl) rfl) <|aA rfl (aH rfl rfl (lb rfl) (sv (d:=.nilp) rfl)) <|aA rfl (asI rfl rfl rfl rfl) <|aD ?_
   refine aT ?_
   obtain ⟨x8,hx8,h⟩:=aR h
   obtain ⟨x9,hx9,h⟩:=aR h
   refine aF (aA rfl (mvI rfl rfl rfl rfl) <|aA rfl (aM rfl rfl (lb rfl) (svI rfl) (sv (d:=.int _ 0) rfl) rfl hx8) <|aA rfl (mvB rfl rfl rfl rfl) <|aC rfl rfl (.one rfl) rfl (by decide) (fun hb=>(aN rfl rfl (lb rfl) (sv (d:=.nilp) rfl))) <|aC rfl rfl (.one rfl) rfl (by decide) (fun hb=>(vO rfl rfl (lb rfl) Try.underlying26 (svc (d:=.nilp) rfl hb) (sv (d:=.nilp) rfl))) <|aA rfl (gD rfl rfl (lb rfl) (svB rfl) rfl rfl hx9) <|aD ?_)
   refine rO rfl (or_tt hx9) ?_
   refine aF (aA rfl (aH rfl rfl (lb rfl) (sv (d:=.bool false) rfl)) <|aD ?_)
   refine bD ?_
   refine bS ?_
   obtain rfl:=Option.some.inj h
   refine ⟨.inr rfl,(.cons (sv rfl) .nil)⟩
  ·
   replace h:=bZ h hc7
   refine aU ?_
   refine aL ?_
   obtain ⟨x10,hx10,h⟩:=aS h
   refine aF (aA rfl (mvI rfl rfl rfl rfl) <|aA rfl (mvI rfl rfl rfl rfl) <|aA rfl (cA (r:=.agg q10) rfl rfl (lb rfl) cl32 .nil rfl (nK  _ hx10)) <|aA rfl (cF (cs:=(mixD aB.toEnc0 q7 (List.replicate 64 (⟨0,0,0,0,0,false⟩ : aG) : (List aG)) [.int _ _,.nils])) rfl rfl (lb rfl) Try.underlying60 ti60 pl60 rfl (.cons (svI rfl) (.cons (svI rfl) (.cons (svA q10 rfl) (.cons (sv (d:=.int _ (-1)) rfl) .nil)))) (by kernel_rfl)) <|aA rfl (eD (cs:=(mixD aB.toEnc0 q7 (List.replicate 64 (⟨0,0,0,0,0,false⟩ : aG) : (List aG)) [.int _ _,.nils])) 1 rfl rfl (lb rfl) rfl (sv (d:=.agg (mixD aB.toEnc0 q7 (List.replicate 64 (⟨0,0,0,0,0,false⟩ : aG) : (List aG)) [.int _ _,.nils])) rfl) rfl rfl) <|eR (S':=⟨[(0,.int .i64 24),(1,.int .i64 0),(4,.nilp),(5,.int .i64 0),(6,.int .i64 24),(7,.bool x4),(8,.bool (!x4)),(9,.bool (!x4)),(14,.bool x6),(15,.int .i64 24),(16,.int .i64 0),(17,.agg (v1 x10)),(18,.agg (mixD aB.toEnc0 (w20 24 0 x10.Cells x10.Free x10.Used) (List.replicate 64 (⟨0,0,0,0,0,false⟩ : aG) : (List aG)) [.int .i64 (-1),.nils])),(19,.ref 1 0)],[(2,.blk 3 (D.flat (([] : (List Int)).map (eInt .i64).d))),(0,.kept 1 [.slice false (a0.map dB.d),.int .u8 a1,.int .u8 a2,.dead,.dead,.dead,.dead,.dead,.dead,.dead,.dead,.dead,.dead,.dead,.dead,.dead,.dead,.dead,.dead,.dead,.dead,.dead,.dead,.dead,.dead,.dead,.dead,.dead,.dead,.dead,.dead,.dead,.dead,.dead,.dead,.dead,.dead,.dead,.dead,.dead,.dead,.dead,.dead,.dead,.dead,.dead,.dead,.dead,.dead,.dead,.dead,.dead,.dead,.dead,.dead,.dead,.dead,.dead,.dead,.dead,.dead,.dead,.dead,.dead,.dead,.dead,.dead,.dead,.dead,.dead,.dead,.dead,.dead,.dead,.dead,.dead,.dead,.dead,.dead,.dead,.dead,.dead,.dead,.dead,.dead,.dead,.dead,.dead,.dead,.dead,.dead,.dead,.dead,.dead,.dead,.dead,.dead,.dead,.dead,.dead,.dead,.dead,.dead,.dead,.dead,.dead,.dead,.dead,.dead,.dead,.dead,.dead,.dead,.dead,.dead,.dead,.dead,.dead,.dead,.dead,.dead,.dead,.dead,.dead,.dead,.dead,.dead,.dead,.dead,.dead,.dead,.dead,.dead,.dead,.dead,.dead,.dead,.dead,.dead,.dead,.dead,.dead,.dead,.dead,.dead,.dead,.dead,.dead,.dead,.dead,.dead,.dead,.dead,.dead,.dead,.dead,.dead,.dead,.dead,.dead,.dead,.dead,.dead,.dead,.dead,.dead,.dead,.dead,.dead,.dead,.dead,.dead,.dead,.dead,.dead,.dead,.dead,.dead,.dead,.dead,.dead,.dead,.dead,.dead,.dead,.dead,.dead,.dead,.dead,.dead,.dead,.dead,.dead,.dead,.dead,.dead,.dead,.dead,.dead,.dead,.dead,.dead,.dead,.dead,.dead,.dead,.dead,.dead,.dead,.dead,.dead,.dead,.dead,.dead,.dead,.dead,.dead,.dead,.dead]),(1,.blk 60 (mixD aB.toEnc0 (w20 24 0 x10.Cells x10.Free x10.Used) (List.replicate 64 (⟨0,0,0,0,0,false⟩ : aG) : (List aG)) [.int .i64 (-1),.osl 2 (eInt .i64).sz 0]))]⟩) (fun i=>if i = 2 then 54 else i) ⟨(.sames rfl rfl),(.cons (.nilb rfl) (.cons (.kept rfl rfl rfl) (.cons (EntW.mix aB rfl (SubC.of_eq rfl) (.same (.nilo .nil)) rfl rfl) .nil))),bB [54,0,1] rfl (by decide),(fun i hi=>by first | rfl | (show (if _ then _ else _) = _; (repeat' split) <;> omega))⟩ <|aA rfl (aH rfl rfl (lb rfl) (svR rfl)) <|aA rfl (aH rfl rfl (lb rfl) (sv (d:=.int _ 0) rfl)) <|aD ?_)
   refine bD ?_
   refine ⟨.inr rfl,0,_,[.ref 1 0,.int .i64 0],(.cons (sv rfl) (.cons (sv rfl) .nil)),rfl,rfl,⟨[(0,.slice false (a0.map dB.d)),(1,.int .u8 a1),(2,.int .u8 a2),(27,.tuple [.ref 1 0,.int .i64 0])],[(1,.blk 60 (mixD aB.toEnc0 (w20 24 0 x10.Cells x10.Free x10.Used) (List.replicate 64 (⟨0,0,0,0,0,false⟩ : aG) : (List aG)) [.int .i64 (-1),.osl 2 (eInt .i64).sz 0])),(2,.blk 3 (D.flat (([] : (List Int)).map (eInt .i64).d)))]⟩,(fun i=>i),⟨(.sames rfl rfl),(.cons (EntW.mix aB rfl (SubC.of_eq rfl) (SubC.of_eq rfl) rfl rfl) (.cons (EntW.lst rfl) .nil)),bB [1,2] rfl (by decide),fun _ _=>rfl⟩,?_⟩
   refine aA rfl (aN rfl rfl (lb rfl) (sv (d:=.tuple q17) rfl)) <|aA rfl (dR (d:=.ref _ _) rfl rfl (lb rfl) (sv (d:=.tuple q17) rfl) rfl) <|aA rfl (dR (d:=.int _ _) rfl rfl (lb rfl) (sv (d:=.tuple q17) rfl) rfl) <|aA rfl (aH rfl rfl (lb rfl) (svR rfl)) <|aA rfl (asI rfl rfl rfl rfl) <|aD ?_
   refine aT ?_
   obtain ⟨x11,hx11,h⟩:=aR h
   obtain ⟨x12,hx12,h⟩:=aR h
   refine aF (aA rfl (mvI rfl rfl rfl rfl) <|aA rfl (aM rfl rfl (lb rfl) (svI rfl) (sv (d:=.int _ 0) rfl) rfl hx11) <|aA rfl (mvB rfl rfl rfl rfl) <|aC rfl rfl (.one rfl) rfl (by decide) (fun hb=>(mvR rfl rfl rfl rfl)) <|aC rfl rfl (.one rfl) rfl (by decide) (fun hb=>(lG rfl rfl (lb rfl) Try.underlying26 (svcR rfl hb) (sv (d:=.nilp) rfl))) <|aA rfl (gD rfl rfl (lb rfl) (svB rfl) rfl rfl hx12) <|aD ?_)
   refine aX (b:=_) rfl (fun hc13=>?_) (fun hc13=>?_)
   ·
    replace h:=bY h hc13
    refine aF (aA rfl (aH rfl rfl (lb rfl) (sv (d:=.bool false) rfl)) <|aD ?_)
    refine bD ?_
    refine bS ?_
    obtain rfl:=Option.some.inj h
    refine ⟨.inr rfl,(.cons (sv rfl) .nil)⟩
   ·
    replace h:=bZ h hc13
    refine aU ?_
    refine aL ?_
    refine aT ?_
    refine aF (aA rfl (aH rfl rfl (lb rfl) (sv (d:=.int _ 0) rfl)) <|aD ?_)
    refine bA ?_
    refine cV (α:=Nat × Int × Int × Int × (List aI) × Int × Int × (List aG) × Int × (List Int)) (fun z=>⟨[(0,.slice false (a0.map dB.d)),(1,.int .u8 a1),(2,.int .u8 a2),(7,.ref 1 0),(9,.int .i64 z.2.1)],[(1,.blk 60 (mixD aB.toEnc0 (w20 z.2.2.1 z.2.2.2.1 z.2.2.2.2.1 z.2.2.2.2.2.1 z.2.2.2.2.2.2.1) z.2.2.2.2.2.2.2.1 [.int .i64 z.2.2.2.2.2.2.2.2.1,.osl 2 (eInt .i64).sz z.2.2.2.2.2.2.2.2.2.length])),(2,.blk 3 (D.flat (z.2.2.2.2.2.2.2.2.2.map (eInt .i64).d)))]⟩) (fun z=>dF a0 a1 a2 z.1 z.2.1 z.2.2.1 z.2.2.2.1 z.2.2.2.2.1 z.2.2.2.2.2.1 z.2.2.2.2.2.2.1 z.2.2.2.2.2.2.2.1 z.2.2.2.2.2.2.2.2.1 z.2.2.2.2.2.2.2.2.2 = some r) (fun z=>z.1) (fuel,0,24,0,x10.Cells,x10.Free,x10.Used,(List.replicate 64 (⟨0,0,0,0,0,false⟩ : aG) : (List aG)),(-1),([] : (List Int))) (fun i=>i) ⟨(.sames rfl rfl),(.cons (EntW.mix aB rfl (SubC.of_eq rfl) (SubC.of_eq rfl) rfl rfl) (.cons (EntW.lst rfl) .nil)),bB [1,2] rfl (by decide),fun _ _=>rfl⟩ ?_ ?_
    ·exact h
    ·
     rintro ⟨n0,v19,v20,v21,v22,v23,v24,v25,v26,v27⟩ h
     cases n0 with
     | zero=>exact absurd h (by unfold dF; exact nofun)
     | succ n0 =>
      unfold dF at h
      refine aT ?_
      obtain ⟨x33,hx33,h⟩:=aR h
      refine aF (aA rfl (mvI rfl rfl rfl rfl) <|aA rfl (mvL rfl rfl rfl rfl) <|aA rfl (eQ dB (l:=a0) rfl rfl (lb rfl) Try.underlying35 (svL rfl)) <|aA rfl (aM rfl rfl (lb rfl) (svI rfl) (svI rfl) rfl hx33) <|aD ?_)
      refine aX (b:=_) rfl (fun hc34=>?_) (fun hc34=>?_)
      ·
       replace h:=bY h hc34
       refine aU ?_
       refine aL ?_
       refine aT ?_
       refine bA ?_
       obtain ⟨x35,hx35,h⟩:=aS h
       obtain ⟨x36,hx36,h⟩:=aS h
       refine aW (aA rfl (mvR rfl rfl rfl rfl) <|aA rfl (mvL rfl rfl rfl rfl) <|aA rfl (mvI rfl rfl rfl rfl) <|aA rfl (gO dB (cs:=q8) rfl rfl (lb rfl) Try.underlying35 ti23 (svL rfl) (svI rfl) hx35 rfl rfl) <|aA rfl (jY (cs:=q8) rfl rfl (lb rfl) Try.underlying23 ag23 ti23 (by decide) (sv (d:=.fptr q8) rfl) (nle rfl) rfl) <|aA rfl (bH (r':=.int .i64 x36.1) (H1':=[(1,.blk 60 (mixD aB.toEnc0 (w20 x36.2.1 x36.2.2.1 x36.2.2.2.1 x36.2.2.2.2.1 x36.2.2.2.2.2.1) x36.2.2.2.2.2.2.1 [.int .i64 x36.2.2.2.2.2.2.2.1,.osl 3 (eInt .i64).sz x36.2.2.2.2.2.2.2.2.length])),(3,.blk 3 (D.flat (x36.2.2.2.2.2.2.2.2.map (eInt .i64).d)))]) 3 [1,2] rfl rfl (lb rfl) cl8 (.cons (svR rfl) (.cons (svA q8 rfl) .nil)) rfl rfl ⟨rfl,rfl,by decide,rfl,List.forall_mem_cons.2 ⟨⟨rfl,rfl,(eP aB rfl rfl rfl),(bF aB rfl rfl)⟩,List.forall_mem_cons.2 ⟨⟨rfl,rfl,(dY (eInt .i64) rfl),(aY (eInt .i64))⟩,List.forall_mem_nil _⟩⟩⟩ (nW _ _ _ _ _ _ _ _ _ _ hx36) rfl rfl (List.forall_mem_cons.2 ⟨⟨rfl,(bF aB rfl rfl)⟩,List.forall_mem_cons.2 ⟨⟨rfl,(aY (eInt .i64))⟩,List.forall_mem_nil _⟩⟩) (by simp only [List.map_cons,List.map_nil,Ent.ren,bC,bG,bK]; rfl)) <|bL ?_)
       refine bR ?_
       refine aL ?_
       obtain ⟨x37,hx37,h⟩:=aR h
       refine aW (aA rfl (mvI rfl rfl rfl rfl) <|aA rfl (cQ rfl rfl (lb rfl) (svI rfl) (sv (d:=.int _ 1) rfl) rfl hx37) <|aA rfl (asI rfl rfl rfl rfl) <|bL ?_)
       refine aL ⟨(n0,x37,x36.2.1,x36.2.2.1,x36.2.2.2.1,x36.2.2.2.2.1,x36.2.2.2.2.2.1,x36.2.2.2.2.2.2.1,x36.2.2.2.2.2.2.2.1,x36.2.2.2.2.2.2.2.2),(fun i=>if i = 2 then 3 else i),⟨(.sames rfl rfl),(.cons (EntW.mix aB rfl (SubC.of_eq rfl) (SubC.of_eq rfl) rfl rfl) (.cons (EntW.lst rfl) .nil)),bB [1,3] rfl (by decide),(fun i hi=>by first | rfl | (show (if _ then _ else _) = _; (repeat' split) <;> omega))⟩,?_,?_⟩
       exact h
       exact Nat.lt_succ_self _
      ·
       replace h:=bZ h hc34
       refine dD ?_
       refine bV ?_
       refine bV ?_
       refine dE ?_
       refine aL ?_
       obtain ⟨x38,hx38,h⟩:=aS h
       obtain ⟨x39,hx39,h⟩:=aR h
       obtain ⟨x40,hx40,h⟩:=aR h
       obtain ⟨x41,hx41,h⟩:=aS h
       obtain ⟨x42,hx42,h⟩:=aR h
       refine aF (aA rfl (mvI rfl rfl rfl rfl) <|aA rfl (sM rfl rfl (lb rfl) (svI rfl) (sv (d:=.int _ 9) rfl) hx38) <|aA rfl (pB rfl rfl (lb rfl) ⟨_,Try.underlying5⟩ Try.underlying3 (svI rfl) hx39) <|aA rfl (cQ rfl rfl (lb rfl) (sv (d:=.int _ 1) rfl) (svI rfl) rfl hx40) <|aA rfl (mvI rfl rfl rfl rfl) <|aA rfl (sM rfl rfl (lb rfl) (svI rfl) (sv (d:=.int _ 10) rfl) hx41) <|aA rfl (pB rfl rfl (lb rfl) ⟨_,Try.underlying5⟩ Try.underlying3 (svI rfl) hx42) <|aA rfl (asI rfl rfl rfl rfl) <|aA rfl (asI rfl rfl rfl rfl) <|aD ?_)
       obtain ⟨x43,hx43,h⟩:=aS h
       refine aF (aA rfl (mvR rfl rfl rfl rfl) <|aA rfl (fA (r':=.int .i64 x43) (V:=[(1,.blk 60 (mixD aB.toEnc0 (w20 v20 v21 v22 v23 v24) v25 [.int .i64 v26,.osl 2 (eInt .i64).sz v27.length])),(2,.blk 3 (D.flat (v27.map (eInt .i64).d)))]) 3 [1,2] rfl rfl (lb rfl) cl14 (.cons (svR rfl) .nil) rfl rfl rfl ⟨by decide,rfl,List.forall_mem_cons.2 ⟨⟨rfl,rfl,(eP aB rfl rfl rfl),(bF aB rfl rfl)⟩,List.forall_mem_cons.2 ⟨⟨rfl,rfl,(dY (eInt .i64) rfl),(aY (eInt .i64))⟩,List.forall_mem_nil _⟩⟩⟩ (gN _ _ _ _ _ _ _ _ _ hx43) rfl rfl (List.forall_mem_cons.2 ⟨⟨rfl,(bF aB rfl rfl)⟩,List.forall_mem_cons.2 ⟨⟨rfl,(aY (eInt .i64))⟩,List.forall_mem_nil _⟩⟩) (by simp only [List.map_cons,List.map_nil,Ent.ren,bC,bG,bK]; rfl) (List.forall_mem_cons.2 ⟨rfl,List.forall_mem_cons.2 ⟨rfl,List.forall_mem_nil _⟩⟩) rfl) <|aA rfl (asI rfl rfl rfl rfl) <|aD ?_)
       obtain ⟨x44,hx44,h⟩:=aS h
       refine aF (aA rfl (mvR rfl rfl rfl rfl) <|aA rfl (mvI rfl rfl rfl rfl) <|aA rfl (bH (r':=.osl 3 (eInt .i64).sz x44.length) (H1':=[(1,.blk 60 (mixD aB.toEnc0 (w20 v20 v21 v22 v23 v24) v25 [.int .i64 v26,.osl 2 (eInt .i64).sz v27.length])),(2,.blk 3 (D.flat (v27.map (eInt .i64).d))),(3,.blk 3 (D.flat (x44.map (eInt .i64).d)))]) 3 [1,2] rfl rfl (lb rfl) cl12 (.cons (svR rfl) (.cons (svI rfl) .nil)) rfl rfl ⟨rfl,rfl,by decide,rfl,List.forall_mem_cons.2 ⟨⟨rfl,rfl,(eP aB rfl rfl rfl),(bF aB rfl rfl)⟩,List.forall_mem_cons.2 ⟨⟨rfl,rfl,(dY (eInt .i64) rfl),(aY (eInt .i64))⟩,List.forall_mem_nil _⟩⟩⟩ (gC _ _ _ _ _ _ _ _ _ _ hx44) rfl rfl (List.forall_mem_cons.2 ⟨⟨rfl,(bF aB rfl rfl)⟩,List.forall_mem_cons.2 ⟨⟨rfl,(aY (eInt .i64))⟩,List.forall_mem_cons.2 ⟨⟨rfl,(aY (eInt .i64))⟩,List.forall_mem_nil _⟩⟩⟩) (by simp only [List.map_cons,List.map_nil,Ent.ren,bC,bG,bK]; rfl)) <|aA rfl (aH rfl rfl (lb rfl) (sv (d:=.osl _ _ _) rfl)) <|aD ?_)
       refine jM (α:=Bool) (fun z=>⟨[(7,.ref 1 0),(10,.int .i64 x40),(11,.int .i64 x42),(12,.int .i64 x43),(13,.osl 3 (eInt .i64).sz x44.length),(14,.bool z)],[(1,.blk 60 (mixD aB.toEnc0 (w20 v20 v21 v22 v23 v24) v25 [.int .i64 v26,.osl 2 (eInt .i64).sz v27.length])),(3,.blk 3 (D.flat (x44.map (eInt .i64).d))),(2,.blk 3 (D.flat (v27.map (eInt .i64).d)))]⟩) (fun z=>cU v20 v21 v22 v23 v24 v25 v26 v27 x40 x42 x43 x44 z = some r) ?_ ?_
       ·
        obtain ⟨x331,hx331,h⟩:=aR h
        refine aW (aA rfl (mvI rfl rfl rfl rfl) <|aA rfl (aM rfl rfl (lb rfl) (svI rfl) (sv (d:=.int _ 0) rfl) rfl hx331) <|aA rfl (mvB rfl rfl rfl rfl) <|aC rfl rfl (.one rfl) rfl (by decide) (fun hb=>(mvR rfl rfl rfl rfl)) <|aC rfl rfl (.one rfl) rfl (by decide) (fun hb=>(mvI rfl rfl rfl rfl)) <|?_)
        refine gQ (.slice false (([] : List Int).map (eInt .i64).d)) rfl rfl (.one rfl) rfl (by decide) (fun hc332=>?_) (fun hc332=>?_)
        ·
         replace h:=bY h hc332
         refine fB 63 rfl hc332 ?_
         refine fB 64 rfl hc332 ?_
         obtain ⟨x333,hx333,h⟩:=aS h
         obtain ⟨x334,hx334,h⟩:=aS h
         obtain ⟨x335,hx335,h⟩:=aR h
         refine aA rfl (bH (r':=.osl 4 (eInt .i64).sz x333.length) (H1':=[(1,.blk 60 (mixD aB.toEnc0 (w20 v20 v21 v22 v23 v24) v25 [.int .i64 v26,.osl 2 (eInt .i64).sz v27.length])),(2,.blk 3 (D.flat (v27.map (eInt .i64).d))),(4,.blk 3 (D.flat (x333.map (eInt .i64).d)))]) 4 [1,2] rfl rfl (lb rfl) cl11 (.cons (svR rfl) (.cons (svI rfl) .nil)) rfl rfl ⟨rfl,rfl,by decide,rfl,List.forall_mem_cons.2 ⟨⟨rfl,rfl,(eP aB rfl rfl rfl),(bF aB rfl rfl)⟩,List.forall_mem_cons.2 ⟨⟨rfl,rfl,(dY (eInt .i64) rfl),(aY (eInt .i64))⟩,List.forall_mem_nil _⟩⟩⟩ (dQ _ _ _ _ _ _ _ _ _ _ hx333) rfl rfl (List.forall_mem_cons.2 ⟨⟨rfl,(bF aB rfl rfl)⟩,List.forall_mem_cons.2 ⟨⟨rfl,(aY (eInt .i64))⟩,List.forall_mem_cons.2 ⟨⟨rfl,(aY (eInt .i64))⟩,List.forall_mem_nil _⟩⟩⟩) (by simp only [List.map_cons,List.map_nil,Ent.ren,bC,bG,bK]; rfl)) <|aC rfl rfl (.one rfl) rfl (by decide) (fun hb=>(mvI rfl rfl rfl rfl)) <|aC rfl rfl (.one rfl) rfl (by decide) (fun hb=>(gS (r:=.bool x334) rfl rfl (lb rfl) cl16 (.cons (sv (d:=.osl _ _ _) rfl) (.cons (svcI rfl hb) .nil)) (.cons (FDT (eInt .i64) rfl rfl) (.all _)) rfl rfl (eF _ _ _ (gd_t hx334 hb)))) <|aA rfl (gD rfl rfl (lb rfl) (svB rfl) rfl rfl hx335) <|aA rfl (mvB rfl rfl rfl rfl) <|aC rfl rfl (.one rfl) rfl (by decide) (fun hb=>(mvR rfl rfl rfl rfl)) <|aC rfl rfl (.one rfl) rfl (by decide) (fun hb=>(mvI rfl rfl rfl rfl)) <|?_
         refine gQ (.slice false (([] : List Int).map (eInt .i64).d)) rfl rfl (.one rfl) rfl (by decide) (fun hc336=>?_) (fun hc336=>?_)
         ·
          replace h:=bY h hc336
          refine fB 70 rfl hc336 ?_
          refine fB 71 rfl hc336 ?_
          obtain ⟨x337,hx337,h⟩:=aS h
          obtain ⟨x338,hx338,h⟩:=aR h
          obtain ⟨x339,hx339,h⟩:=aR h
          refine aA rfl (bH (r':=.osl 5 (eInt .i64).sz x337.length) (H1':=[(1,.blk 60 (mixD aB.toEnc0 (w20 v20 v21 v22 v23 v24) v25 [.int .i64 v26,.osl 2 (eInt .i64).sz v27.length])),(2,.blk 3 (D.flat (v27.map (eInt .i64).d))),(5,.blk 3 (D.flat (x337.map (eInt .i64).d)))]) 5 [1,2] rfl rfl (lb rfl) cl12 (.cons (svR rfl) (.cons (svI rfl) .nil)) rfl rfl ⟨rfl,rfl,by decide,rfl,List.forall_mem_cons.2 ⟨⟨rfl,rfl,(eP aB rfl rfl rfl),(bF aB rfl rfl)⟩,List.forall_mem_cons.2 ⟨⟨rfl,rfl,(dY (eInt .i64) rfl),(aY (eInt .i64))⟩,List.forall_mem_nil _⟩⟩⟩ (gC _ _ _ _ _ _ _ _ _ _ hx337) rfl rfl (List.forall_mem_cons.2 ⟨⟨rfl,(bF aB rfl rfl)⟩,List.forall_mem_cons.2 ⟨⟨rfl,(aY (eInt .i64))⟩,List.forall_mem_cons.2 ⟨⟨rfl,(aY (eInt .i64))⟩,List.forall_mem_nil _⟩⟩⟩) (by simp only [List.map_cons,List.map_nil,Ent.ren,bC,bG,bK]; rfl)) <|aC rfl rfl (.one rfl) rfl (by decide) (fun hb=>(fE rfl rfl (lb rfl) Try.underlying24 (sv (d:=.osl _ _ _) rfl))) <|aC rfl rfl (.one rfl) rfl (by decide) (fun hb=>(aM rfl rfl (lb rfl) (svcI rfl hb) (sv (d:=.int _ 0) rfl) rfl hx338)) <|aA rfl (gD rfl rfl (lb rfl) (svB rfl) rfl rfl hx339) <|aA rfl (asB rfl rfl rfl rfl) <|bL ?_
          refine aL ⟨x339,(fun i=>i),⟨(.sames rfl rfl),(.cons (EntW.mix aB rfl (SubC.of_eq rfl) (SubC.of_eq rfl) rfl rfl) (.cons (EntW.lst rfl) (.cons (EntW.lst rfl) .nil))),bB [1,3,2] rfl (by decide),fun _ _=>rfl⟩,?_⟩
          exact h
         ·
          replace h:=bZ h hc336
          obtain ⟨x340,hx340,h⟩:=aR h
          obtain ⟨x341,hx341,h⟩:=aR h
          refine aC rfl rfl (.one rfl) rfl (by decide) (fun hb=>(eQ (eInt .i64) (l:=([] : (List Int))) rfl rfl (lb rfl) Try.underlying24 (svcL rfl hb))) <|aC rfl rfl (.one rfl) rfl (by decide) (fun hb=>(aM rfl rfl (lb rfl) (svcI rfl hb) (sv (d:=.int _ 0) rfl) rfl hx340)) <|aA rfl (gD rfl rfl (lb rfl) (svB rfl) rfl rfl hx341) <|aA rfl (asB rfl rfl rfl rfl) <|bL ?_
          refine aL ⟨x341,(fun i=>i),⟨(.sames rfl rfl),(.cons (EntW.mix aB rfl (SubC.of_eq rfl) (SubC.of_eq rfl) rfl rfl) (.cons (EntW.lst rfl) (.cons (EntW.lst rfl) .nil))),bB [1,3,2] rfl (by decide),fun _ _=>rfl⟩,?_⟩
          exact h
        ·
         replace h:=bZ h hc332
         obtain ⟨x342,hx342,h⟩:=aS h
         obtain ⟨x343,hx343,h⟩:=aR h
         refine aC rfl rfl (.one rfl) rfl (by decide) (fun hb=>(mvI rfl rfl rfl rfl)) <|aC rfl rfl (.one rfl) rfl (by decide) (fun hb=>(cA (r:=.bool _) rfl rfl (lb rfl) cl16 (.cons (svcL rfl hb) (.cons (svcI rfl hb) .nil)) rfl (eF _ _ _ (gd_t hx342 hb)))) <|aA rfl (gD rfl rfl (lb rfl) (svB rfl) rfl rfl hx343) <|aA rfl (mvB rfl rfl rfl rfl) <|aC rfl rfl (.one rfl) rfl (by decide) (fun hb=>(mvR rfl rfl rfl rfl)) <|aC rfl rfl (.one rfl) rfl (by decide) (fun hb=>(mvI rfl rfl rfl rfl)) <|?_
         refine gQ (.slice false (([] : List Int).map (eInt .i64).d)) rfl rfl (.one rfl) rfl (by decide) (fun hc344=>?_) (fun hc344=>?_)
         ·
          replace h:=bY h hc344
          refine fB 70 rfl hc344 ?_
          refine fB 71 rfl hc344 ?_
          obtain ⟨x345,hx345,h⟩:=aS h
          obtain ⟨x346,hx346,h⟩:=aR h
          obtain ⟨x347,hx347,h⟩:=aR h
          refine aA rfl (bH (r':=.osl 4 (eInt .i64).sz x345.length) (H1':=[(1,.blk 60 (mixD aB.toEnc0 (w20 v20 v21 v22 v23 v24) v25 [.int .i64 v26,.osl 2 (eInt .i64).sz v27.length])),(2,.blk 3 (D.flat (v27.map (eInt .i64).d))),(4,.blk 3 (D.flat (x345.map (eInt .i64).d)))]) 4 [1,2] rfl rfl (lb rfl) cl12 (.cons (svR rfl) (.cons (svI rfl) .nil)) rfl rfl ⟨rfl,rfl,by decide,rfl,List.forall_mem_cons.2 ⟨⟨rfl,rfl,(eP aB rfl rfl rfl),(bF aB rfl rfl)⟩,List.forall_mem_cons.2 ⟨⟨rfl,rfl,(dY (eInt .i64) rfl),(aY (eInt .i64))⟩,List.forall_mem_nil _⟩⟩⟩ (gC _ _ _ _ _ _ _ _ _ _ hx345) rfl rfl (List.forall_mem_cons.2 ⟨⟨rfl,(bF aB rfl rfl)⟩,List.forall_mem_cons.2 ⟨⟨rfl,(aY (eInt .i64))⟩,List.forall_mem_cons.2 ⟨⟨rfl,(aY (eInt .i64))⟩,List.forall_mem_nil _⟩⟩⟩) (by simp only [List.map_cons,List.map_nil,Ent.ren,bC,bG,bK]; rfl)) <|aC rfl rfl (.one rfl) rfl (by decide) (fun hb=>(fE rfl rfl (lb rfl) Try.underlying24 (sv (d:=.osl _ _ _) rfl))) <|aC rfl rfl (.one rfl) rfl (by decide) (fun hb=>(aM rfl rfl (lb rfl) (svcI rfl hb) (sv (d:=.int _ 0) rfl) rfl hx346)) <|aA rfl (gD rfl rfl (lb rfl) (svB rfl) rfl rfl hx347) <|aA rfl (asB rfl rfl rfl rfl) <|bL ?_
          refine aL ⟨x347,(fun i=>i),⟨(.sames rfl rfl),(.cons (EntW.mix aB rfl (SubC.of_eq rfl) (SubC.of_eq rfl) rfl rfl) (.cons (EntW.lst rfl) (.cons (EntW.lst rfl) .nil))),bB [1,3,2] rfl (by decide),fun _ _=>rfl⟩,?_⟩
          exact h
         ·
          replace h:=bZ h hc344
          obtain ⟨x348,hx348,h⟩:=aR h
          obtain ⟨x349,hx349,h⟩:=aR h
          refine aC rfl rfl (.one rfl) rfl (by decide) (fun hb=>(eQ (eInt .i64) (l:=([] : (List Int))) rfl rfl (lb rfl) Try.underlying24 (svcL rfl hb))) <|aC rfl rfl (.one rfl) rfl (by decide) (fun hb=>(aM rfl rfl (lb rfl) (svcI rfl hb) (sv (d:=.int _ 0) rfl) rfl hx348)) <|aA rfl (gD rfl rfl (lb rfl) (svB rfl) rfl rfl hx349) <|aA rfl (asB rfl rfl rfl rfl) <|bL ?_
          refine aL ⟨x349,(fun i=>i),⟨(.sames rfl rfl),(.cons (EntW.mix aB rfl (SubC.of_eq rfl) (SubC.of_eq rfl) rfl rfl) (.cons (EntW.lst rfl) (.cons (EntW.lst rfl) .nil))),bB [1,3,2] rfl (by decide),fun _ _=>rfl⟩,?_⟩
          exact h
       ·
        rintro v64 h
        unfold cU at h
        obtain ⟨x65,hx65,h⟩:=aS h
        refine aF (aA rfl (mvR rfl rfl rfl rfl) <|aA rfl (mvI rfl rfl rfl rfl) <|aA rfl (bH (r':=.osl 4 (eInt .i64).sz x65.length) (H1':=[(1,.blk 60 (mixD aB.toEnc0 (w20 v20 v21 v22 v23 v24) v25 [.int .i64 v26,.osl 2 (eInt .i64).sz v27.length])),(2,.blk 3 (D.flat (v27.map (eInt .i64).d))),(4,.blk 3 (D.flat (x65.map (eInt .i64).d)))]) 4 [1,2] rfl rfl (lb rfl) cl11 (.cons (svR rfl) (.cons (svI rfl) .nil)) rfl rfl ⟨rfl,rfl,by decide,rfl,List.forall_mem_cons.2 ⟨⟨rfl,rfl,(eP aB rfl rfl rfl),(bF aB rfl rfl)⟩,List.forall_mem_cons.2 ⟨⟨rfl,rfl,(dY (eInt .i64) rfl),(aY (eInt .i64))⟩,List.forall_mem_nil _⟩⟩⟩ (dQ _ _ _ _ _ _ _ _ _ _ hx65) rfl rfl (List.forall_mem_cons.2 ⟨⟨rfl,(bF aB rfl rfl)⟩,List.forall_mem_cons.2 ⟨⟨rfl,(aY (eInt .i64))⟩,List.forall_mem_cons.2 ⟨⟨rfl,(aY (eInt .i64))⟩,List.forall_mem_nil _⟩⟩⟩) (by simp only [List.map_cons,List.map_nil,Ent.ren,bC,bG,bK]; rfl)) <|aA rfl (aH rfl rfl (lb rfl) (sv (d:=.osl _ _ _) rfl)) <|aD ?_)
        refine aF (aA rfl (aH rfl rfl (lb rfl) (sv (d:=.bool false) rfl)) <|aD ?_)
        obtain ⟨x66,hx66,h⟩:=aS h
        refine aF (aA rfl (mvR rfl rfl rfl rfl) <|aA rfl (bH (r':=.osl 5 aQ.sz x66.length) (H1':=[(1,.blk 60 (mixD aB.toEnc0 (w20 v20 v21 v22 v23 v24) v25 [.int .i64 v26,.osl 2 (eInt .i64).sz v27.length])),(2,.blk 3 (D.flat (v27.map (eInt .i64).d))),(5,.blk 40 (D.flat (x66.map aQ.d)))]) 5 [1,2] rfl rfl (lb rfl) cl9 (.cons (svR rfl) .nil) rfl rfl ⟨rfl,rfl,by decide,rfl,List.forall_mem_cons.2 ⟨⟨rfl,rfl,(eP aB rfl rfl rfl),(bF aB rfl rfl)⟩,List.forall_mem_cons.2 ⟨⟨rfl,rfl,(dY (eInt .i64) rfl),(aY (eInt .i64))⟩,List.forall_mem_nil _⟩⟩⟩ (lJ _ _ _ _ _ _ _ _ _ hx66) rfl rfl (List.forall_mem_cons.2 ⟨⟨rfl,(bF aB rfl rfl)⟩,List.forall_mem_cons.2 ⟨⟨rfl,(aY (eInt .i64))⟩,List.forall_mem_cons.2 ⟨⟨rfl,(aY aQ)⟩,List.forall_mem_nil _⟩⟩⟩) (by simp only [List.map_cons,List.map_nil,Ent.ren,bC,bG,bK]; rfl)) <|aA rfl (aH rfl rfl (lb rfl) (sv (d:=.osl _ _ _) rfl)) <|aD ?_)
        refine aT ?_
        refine aF (aA rfl (aH rfl rfl (lb rfl) (sv (d:=.int _ 0) rfl)) <|aD ?_)
        refine bA ?_
        refine cV (α:=Nat × Bool × Bool × Int) (fun z=>⟨[(7,.ref 1 0),(10,.int .i64 x40),(11,.int .i64 x42),(12,.int .i64 x43),(13,.osl 3 (eInt .i64).sz x44.length),(14,.bool z.2.1),(15,.osl 4 (eInt .i64).sz x65.length),(16,.bool z.2.2.1),(17,.osl 5 aQ.sz x66.length),(18,.int .i64 z.2.2.2)],[(1,.blk 60 (mixD aB.toEnc0 (w20 v20 v21 v22 v23 v24) v25 [.int .i64 v26,.osl 2 (eInt .i64).sz v27.length])),(3,.blk 3 (D.flat (x44.map (eInt .i64).d))),(4,.blk 3 (D.flat (x65.map (eInt .i64).d))),(5,.blk 40 (D.flat (x66.map aQ.d))),(2,.blk 3 (D.flat (v27.map (eInt .i64).d)))]⟩) (fun z=>cT v20 v21 v22 v23 v24 v25 v26 v27 x40 x42 x43 x44 x65 x66 z.1 z.2.1 z.2.2.1 z.2.2.2 = some r) (fun z=>z.1) (fuel,v64,false,0) (fun i=>i) ⟨(.sames rfl rfl),(.cons (EntW.mix aB rfl (SubC.of_eq rfl) (SubC.of_eq rfl) rfl rfl) (.cons (EntW.lst rfl) (.cons (EntW.lst rfl) (.cons (EntW.lst rfl) (.cons (EntW.lst rfl) .nil))))),bB [1,3,4,5,2] rfl (by decide),fun _ _=>rfl⟩ ?_ ?_
        ·exact h
        ·
         rintro ⟨n2,v78,v79,v80⟩ h
         cases n2 with
         | zero=>exact absurd h (by unfold cT; exact nofun)
         | succ n2 =>
          unfold cT at h
          refine aT ?_
          obtain ⟨x92,hx92,h⟩:=aR h
          refine aF (aA rfl (mvI rfl rfl rfl rfl) <|aA rfl (aN rfl rfl (lb rfl) (sv (d:=.osl _ _ _) rfl)) <|aA rfl (fE rfl rfl (lb rfl) Try.underlying28 (sv (d:=.osl _ _ _) rfl)) <|aA rfl (aM rfl rfl (lb rfl) (svI rfl) (svI rfl) rfl hx92) <|aD ?_)
          refine aX (b:=_) rfl (fun hc93=>?_) (fun hc93=>?_)
          ·
           replace h:=bY h hc93
           refine aU ?_
           refine aL ?_
           refine aT ?_
           refine bA ?_
           obtain ⟨x94,hx94,h⟩:=aS h
           obtain ⟨x95,hx95,h⟩:=aS h
           obtain ⟨x96,hx96,h⟩:=aR h
           obtain ⟨x97,hx97,h⟩:=aR h
           refine aF (aA rfl (mvB rfl rfl rfl rfl) <|aA rfl (mvB rfl rfl rfl rfl) <|aC rfl rfl (.one rfl) rfl (by decide) (fun hb=>(aN rfl rfl (lb rfl) (sv (d:=.osl _ _ _) rfl))) <|aC rfl rfl (.one rfl) rfl (by decide) (fun hb=>(mvI rfl rfl rfl rfl)) <|aC rfl rfl (.one rfl) rfl (by decide) (fun hb=>(gP aQ.toEnc0 rfl rfl (lb rfl) Try.underlying28 ti40 (svc (d:=.osl _ _ _) rfl hb) rfl (svcI rfl hb) (gd_t hx94 hb))) <|aC rfl rfl (.one rfl) rfl (by decide) (fun hb=>(nP rfl rfl (lb rfl) Try.underlying40 rfl ti3 (by decide) (svcR rfl hb) (k':=0) rfl)) <|aC rfl rfl (.one rfl) rfl (by decide) (fun hb=>(fO aQ.toEnc0 (d:=.int _ _) rfl rfl (lb rfl) Try.underlying3 ag3 ti3 (by decide) (svcR rfl hb) rfl (gd_t hx95 hb) (nle rfl) rfl)) <|aC rfl rfl (.one rfl) rfl (by decide) (fun hb=>(mvI rfl rfl rfl rfl)) <|aC rfl rfl (.one rfl) rfl (by decide) (fun hb=>(aM rfl rfl (lb rfl) (svcI rfl hb) (svcI rfl hb) rfl hx96)) <|aA rfl (gD rfl rfl (lb rfl) (svB rfl) rfl rfl hx97) <|aA rfl (asB rfl rfl rfl rfl) <|aD ?_)
           obtain ⟨x98,hx98,h⟩:=aS h
           obtain ⟨x99,hx99,h⟩:=aS h
           obtain ⟨x100,hx100,h⟩:=aR h
           obtain ⟨x101,hx101,h⟩:=aR h
           refine aW (aA rfl (mvB rfl rfl rfl rfl) <|aA rfl (mvB rfl rfl rfl rfl) <|aC rfl rfl (.one rfl) rfl (by decide) (fun hb=>(aN rfl rfl (lb rfl) (sv (d:=.osl _ _ _) rfl))) <|aC rfl rfl (.one rfl) rfl (by decide) (fun hb=>(mvI rfl rfl rfl rfl)) <|aC rfl rfl (.one rfl) rfl (by decide) (fun hb=>(gP aQ.toEnc0 rfl rfl (lb rfl) Try.underlying28 ti40 (svc (d:=.osl _ _ _) rfl hb) rfl (svcI rfl hb) (gd_t hx98 hb))) <|aC rfl rfl (.one rfl) rfl (by decide) (fun hb=>(nP rfl rfl (lb rfl) Try.underlying40 rfl ti3 (by decide) (svcR rfl hb) (k':=0) rfl)) <|aC rfl rfl (.one rfl) rfl (by decide) (fun hb=>(fO aQ.toEnc0 (d:=.int _ _) rfl rfl (lb rfl) Try.underlying3 ag3 ti3 (by decide) (svcR rfl hb) rfl (gd_t hx99 hb) (nle rfl) rfl)) <|aC rfl rfl (.one rfl) rfl (by decide) (fun hb=>(mvI rfl rfl rfl rfl)) <|aC rfl rfl (.one rfl) rfl (by decide) (fun hb=>(aM rfl rfl (lb rfl) (svcI rfl hb) (svcI rfl hb) rfl hx100)) <|aA rfl (gD rfl rfl (lb rfl) (svB rfl) rfl rfl hx101) <|aA rfl (asB rfl rfl rfl rfl) <|bL ?_)
           refine bR ?_
           refine aL ?_
           obtain ⟨x102,hx102,h⟩:=aR h
           refine aW (aA rfl (mvI rfl rfl rfl rfl) <|aA rfl (cQ rfl rfl (lb rfl) (svI rfl) (sv (d:=.int _ 1) rfl) rfl hx102) <|aA rfl (asI rfl rfl rfl rfl) <|bL ?_)
           refine aL ⟨(n2,x101,x97,x102),(fun i=>i),⟨(.sames rfl rfl),(.cons (EntW.mix aB rfl (SubC.of_eq rfl) (SubC.of_eq rfl) rfl rfl) (.cons (EntW.lst rfl) (.cons (EntW.lst rfl) (.cons (EntW.lst rfl) (.cons (EntW.lst rfl) .nil))))),bB [1,3,4,5,2] rfl (by decide),fun _ _=>rfl⟩,?_,?_⟩
           exact h
           exact Nat.lt_succ_self _
          ·
           replace h:=bZ h hc93
           refine dD ?_
           refine bV ?_
           refine bV ?_
           refine dE ?_
           refine aL ?_
           refine aT ?_
           obtain ⟨x103,hx103,h⟩:=aR h
           obtain ⟨x104,hx104,h⟩:=aR h
           obtain ⟨x105,hx105,h⟩:=aR h
           obtain ⟨x106,hx106,h⟩:=aR h
           obtain ⟨x107,hx107,h⟩:=aR h
           refine aF (aA rfl (mvI rfl rfl rfl rfl) <|aA rfl (mvI rfl rfl rfl rfl) <|aA rfl (aM rfl rfl (lb rfl) (svI rfl) (svI rfl) rfl hx103) <|aA rfl (mvB rfl rfl rfl rfl) <|aC rfl rfl (.one rfl) rfl (by decide) (fun hb=>(mvB rfl rfl rfl rfl)) <|aC rfl rfl (.one rfl) rfl (by decide) (fun hb=>(eG rfl rfl (lb rfl) (svcB rfl hb))) <|aA rfl (gD rfl rfl (lb rfl) (svB rfl) rfl rfl hx104) <|aA rfl (mvB rfl rfl rfl rfl) <|aC rfl rfl (.one rfl) rfl (by decide) (fun hb=>(mvB rfl rfl rfl rfl)) <|aC rfl rfl (.one rfl) rfl (by decide) (fun hb=>(eG rfl rfl (lb rfl) (svcB rfl hb))) <|aC rfl rfl (.one rfl) rfl (by decide) (fun hb=>(aN rfl rfl (lb rfl) (svcB rfl hb))) <|aC rfl rfl (.two rfl) rfl (by decide) (fun hb=>(mvI rfl rfl rfl rfl)) <|aC rfl rfl (.two rfl) rfl (by decide) (fun hb=>(aM rfl rfl (lb rfl) (svcI rfl hb) (sv (d:=.int _ 24) rfl) rfl hx105)) <|aC rfl rfl (.one rfl) rfl (by decide) (fun hb=>(lU rfl rfl (lb rfl) hb (svcB rfl hb) rfl rfl hx106)) <|aA rfl (gD rfl rfl (lb rfl) (svB rfl) rfl rfl hx107) <|aD ?_)
           refine aX (b:=_) rfl (fun hc108=>?_) (fun hc108=>?_)
           ·
            replace h:=bY h hc108
            obtain ⟨x109,hx109,h⟩:=aS h
            refine aF (aA rfl (cA (r:=.bool _) rfl rfl (lb rfl) cl7 .nil rfl (dP  _ hx109)) <|aA rfl (asB rfl rfl rfl rfl) <|aD ?_)
            refine bD ?_
            refine bS ?_
            obtain rfl:=Option.some.inj h
            refine ⟨.inr rfl,(.cons (sv rfl) .nil)⟩
           ·
            replace h:=bZ h hc108
            refine aU ?_
            refine aL ?_
            refine aT ?_
            obtain ⟨x110,hx110,h⟩:=aS h
            obtain ⟨x111,hx111,h⟩:=aR h
            refine aF (aA rfl (mvR rfl rfl rfl rfl) <|aA rfl (mvI rfl rfl rfl rfl) <|aA rfl (mvI rfl rfl rfl rfl) <|aA rfl (bH (r':=.int .i64 x110.1) (H1':=[(1,.blk 60 (mixD aB.toEnc0 (w20 x110.2.1 x110.2.2.1 x110.2.2.2.1 x110.2.2.2.2.1 x110.2.2.2.2.2.1) x110.2.2.2.2.2.2.1 [.int .i64 x110.2.2.2.2.2.2.2.1,.osl 6 (eInt .i64).sz x110.2.2.2.2.2.2.2.2.length])),(6,.blk 3 (D.flat (x110.2.2.2.2.2.2.2.2.map (eInt .i64).d)))]) 6 [1,2] rfl rfl (lb rfl) cl17 (.cons (svR rfl) (.cons (svI rfl) (.cons (svI rfl) (.cons (sv (d:=.int _ 7) rfl) (.cons (sv (d:=.bool true) rfl) .nil))))) rfl rfl ⟨rfl,rfl,by decide,rfl,List.forall_mem_cons.2 ⟨⟨rfl,rfl,(eP aB rfl rfl rfl),(bF aB rfl rfl)⟩,List.forall_mem_cons.2 ⟨⟨rfl,rfl,(dY (eInt .i64) rfl),(aY (eInt .i64))⟩,List.forall_mem_nil _⟩⟩⟩ (jW _ _ _ _ _ _ _ _ _ _ _ _ _ hx110) rfl rfl (List.forall_mem_cons.2 ⟨⟨rfl,(bF aB rfl rfl)⟩,List.forall_mem_cons.2 ⟨⟨rfl,(aY (eInt .i64))⟩,List.forall_mem_nil _⟩⟩) (by simp only [List.map_cons,List.map_nil,Ent.ren,bC,bG,bK]; rfl)) <|aA rfl (aM rfl rfl (lb rfl) (svI rfl) (sv (d:=.int _ 0) rfl) rfl hx111) <|aD ?_)
            refine aX (b:=_) rfl (fun hc112=>?_) (fun hc112=>?_)
            ·
             replace h:=bY h hc112
             refine aF (aA rfl (aH rfl rfl (lb rfl) (sv (d:=.bool false) rfl)) <|aD ?_)
             refine bD ?_
             refine bS ?_
             obtain rfl:=Option.some.inj h
             refine ⟨.inr rfl,(.cons (sv rfl) .nil)⟩
            ·
             replace h:=bZ h hc112
             refine aU ?_
             refine aL ?_
             obtain ⟨x113,hx113,h⟩:=aS h
             refine aF (aA rfl (mvR rfl rfl rfl rfl) <|aA rfl (mvI rfl rfl rfl rfl) <|aA rfl (bH (r':=.osl 7 (eInt .i64).sz x113.length) (H1':=[(1,.blk 60 (mixD aB.toEnc0 (w20 x110.2.1 x110.2.2.1 x110.2.2.2.1 x110.2.2.2.2.1 x110.2.2.2.2.2.1) x110.2.2.2.2.2.2.1 [.int .i64 x110.2.2.2.2.2.2.2.1,.osl 6 (eInt .i64).sz x110.2.2.2.2.2.2.2.2.length])),(6,.blk 3 (D.flat (x110.2.2.2.2.2.2.2.2.map (eInt .i64).d))),(7,.blk 3 (D.flat (x113.map (eInt .i64).d)))]) 7 [1,6] rfl rfl (lb rfl) cl12 (.cons (svR rfl) (.cons (svI rfl) .nil)) rfl rfl ⟨rfl,rfl,by decide,rfl,List.forall_mem_cons.2 ⟨⟨rfl,rfl,(eP aB rfl rfl rfl),(bF aB rfl rfl)⟩,List.forall_mem_cons.2 ⟨⟨rfl,rfl,(dY (eInt .i64) rfl),(aY (eInt .i64))⟩,List.forall_mem_nil _⟩⟩⟩ (gC _ _ _ _ _ _ _ _ _ _ hx113) rfl rfl (List.forall_mem_cons.2 ⟨⟨rfl,(bF aB rfl rfl)⟩,List.forall_mem_cons.2 ⟨⟨rfl,(aY (eInt .i64))⟩,List.forall_mem_cons.2 ⟨⟨rfl,(aY (eInt .i64))⟩,List.forall_mem_nil _⟩⟩⟩) (by simp only [List.map_cons,List.map_nil,Ent.ren,bC,bG,bK]; rfl)) <|aA rfl (aH rfl rfl (lb rfl) (sv (d:=.osl _ _ _) rfl)) <|aD ?_)
             obtain ⟨x114,hx114,h⟩:=aS h
             refine aF (aA rfl (mvR rfl rfl rfl rfl) <|aA rfl (mvI rfl rfl rfl rfl) <|aA rfl (bH (r':=.osl 8 (eInt .i64).sz x114.length) (H1':=[(1,.blk 60 (mixD aB.toEnc0 (w20 x110.2.1 x110.2.2.1 x110.2.2.2.1 x110.2.2.2.2.1 x110.2.2.2.2.2.1) x110.2.2.2.2.2.2.1 [.int .i64 x110.2.2.2.2.2.2.2.1,.osl 6 (eInt .i64).sz x110.2.2.2.2.2.2.2.2.length])),(6,.blk 3 (D.flat (x110.2.2.2.2.2.2.2.2.map (eInt .i64).d))),(8,.blk 3 (D.flat (x114.map (eInt .i64).d)))]) 8 [1,6] rfl rfl (lb rfl) cl12 (.cons (svR rfl) (.cons (svI rfl) .nil)) rfl rfl ⟨rfl,rfl,by decide,rfl,List.forall_mem_cons.2 ⟨⟨rfl,rfl,(eP aB rfl rfl rfl),(bF aB rfl rfl)⟩,List.forall_mem_cons.2 ⟨⟨rfl,rfl,(dY (eInt .i64) rfl),(aY (eInt .i64))⟩,List.forall_mem_nil _⟩⟩⟩ (gC _ _ _ _ _ _ _ _ _ _ hx114) rfl rfl (List.forall_mem_cons.2 ⟨⟨rfl,(bF aB rfl rfl)⟩,List.forall_mem_cons.2 ⟨⟨rfl,(aY (eInt .i64))⟩,List.forall_mem_cons.2 ⟨⟨rfl,(aY (eInt .i64))⟩,List.forall_mem_nil _⟩⟩⟩) (by simp only [List.map_cons,List.map_nil,Ent.ren,bC,bG,bK]; rfl)) <|aA rfl (aH rfl rfl (lb rfl) (sv (d:=.osl _ _ _) rfl)) <|aD ?_)
             refine aT ?_
             refine aF (aA rfl (aH rfl rfl (lb rfl) (sv (d:=.int _ 0) rfl)) <|aD ?_)
             refine bA ?_
             refine cV (α:=Nat × Int) (fun z=>⟨[(7,.ref 1 0),(10,.int .i64 x40),(11,.int .i64 x42),(12,.int .i64 x43),(13,.osl 3 (eInt .i64).sz x44.length),(15,.osl 4 (eInt .i64).sz x65.length),(16,.bool v79),(19,.osl 7 (eInt .i64).sz x113.length),(20,.osl 8 (eInt .i64).sz x114.length),(21,.int .i64 z.2)],[(1,.blk 60 (mixD aB.toEnc0 (w20 x110.2.1 x110.2.2.1 x110.2.2.2.1 x110.2.2.2.2.1 x110.2.2.2.2.2.1) x110.2.2.2.2.2.2.1 [.int .i64 x110.2.2.2.2.2.2.2.1,.osl 6 (eInt .i64).sz x110.2.2.2.2.2.2.2.2.length])),(3,.blk 3 (D.flat (x44.map (eInt .i64).d))),(4,.blk 3 (D.flat (x65.map (eInt .i64).d))),(7,.blk 3 (D.flat (x113.map (eInt .i64).d))),(8,.blk 3 (D.flat (x114.map (eInt .i64).d))),(6,.blk 3 (D.flat (x110.2.2.2.2.2.2.2.2.map (eInt .i64).d)))]⟩) (fun z=>cG x40 x42 x43 x44 x65 v79 x110 x113 x114 z.1 z.2 = some r) (fun z=>z.1) (fuel,0) (fun i=>i) ⟨(.sames rfl rfl),(.cons (EntW.mix aB rfl (SubC.of_eq rfl) (SubC.of_eq rfl) rfl rfl) (.cons (EntW.lst rfl) (.cons (EntW.lst rfl) (.cons (EntW.lst rfl) (.cons (EntW.lst rfl) (.cons (EntW.lst rfl) .nil)))))),bB [1,3,4,7,8,6] rfl (by decide),fun _ _=>rfl⟩ ?_ ?_
             ·exact h
             ·
              rintro ⟨n3,v126⟩ h
              cases n3 with
              | zero=>exact absurd h (by unfold cG; exact nofun)
              | succ n3 =>
               unfold cG at h
               refine aT ?_
               obtain ⟨x138,hx138,h⟩:=aR h
               refine aF (aA rfl (mvI rfl rfl rfl rfl) <|aA rfl (aN rfl rfl (lb rfl) (sv (d:=.osl _ _ _) rfl)) <|aA rfl (fE rfl rfl (lb rfl) Try.underlying24 (sv (d:=.osl _ _ _) rfl)) <|aA rfl (aM rfl rfl (lb rfl) (svI rfl) (svI rfl) rfl hx138) <|aD ?_)
               refine aX (b:=_) rfl (fun hc139=>?_) (fun hc139=>?_)
               ·
                replace h:=bY h hc139
                refine aU ?_
                refine aL ?_
                refine aT ?_
                refine bA ?_
                obtain ⟨x140,hx140,h⟩:=aS h
                obtain ⟨x141,hx141,h⟩:=aS h
                obtain ⟨x142,hx142,h⟩:=aR h
                obtain ⟨x143,hx143,h⟩:=aS h
                obtain ⟨x144,hx144,h⟩:=aS h
                obtain ⟨x145,hx145,h⟩:=aS h
                obtain ⟨x146,hx146,h⟩:=aR h
                refine aF (aA rfl (aN rfl rfl (lb rfl) (sv (d:=.osl _ _ _) rfl)) <|aA rfl (mvI rfl rfl rfl rfl) <|aA rfl (gP (eInt .i64).toEnc0 rfl rfl (lb rfl) Try.underlying24 ti3 (sv (d:=.osl _ _ _) rfl) rfl (svI rfl) hx140) <|aA rfl (fO (eInt .i64).toEnc0 (d:=.int _ _) rfl rfl (lb rfl) Try.underlying3 ag3 ti3 (by decide) (svR rfl) rfl hx141 (nle rfl) rfl) <|aA rfl (mvI rfl rfl rfl rfl) <|aA rfl (aM rfl rfl (lb rfl) (svI rfl) (svI rfl) rfl hx142) <|aA rfl (mvB rfl rfl rfl rfl) <|aC rfl rfl (.one rfl) rfl (by decide) (fun hb=>(aN rfl rfl (lb rfl) (sv (d:=.osl _ _ _) rfl))) <|aC rfl rfl (.one rfl) rfl (by decide) (fun hb=>(aN rfl rfl (lb rfl) (sv (d:=.osl _ _ _) rfl))) <|aC rfl rfl (.one rfl) rfl (by decide) (fun hb=>(mvI rfl rfl rfl rfl)) <|aC rfl rfl (.one rfl) rfl (by decide) (fun hb=>(gP (eInt .i64).toEnc0 rfl rfl (lb rfl) Try.underlying24 ti3 (svc (d:=.osl _ _ _) rfl hb) rfl (svcI rfl hb) (gd_t hx143 hb))) <|aC rfl rfl (.one rfl) rfl (by decide) (fun hb=>(fO (eInt .i64).toEnc0 (d:=.int _ _) rfl rfl (lb rfl) Try.underlying3 ag3 ti3 (by decide) (svcR rfl hb) rfl (gd_t hx144 hb) (nle rfl) rfl)) <|aC rfl rfl (.one rfl) rfl (by decide) (fun hb=>(gS (r:=.bool x145) rfl rfl (lb rfl) cl16 (.cons (svc (d:=.osl _ _ _) rfl hb) (.cons (svcI rfl hb) .nil)) (.cons (FDT (eInt .i64) rfl rfl) (.all _)) rfl rfl (eF _ _ _ (gd_t hx145 hb)))) <|aC rfl rfl (.one rfl) rfl (by decide) (fun hb=>(eG rfl rfl (lb rfl) (svcB rfl hb))) <|aA rfl (bO rfl rfl (lb rfl) (svB rfl) rfl rfl hx146) <|aD ?_)
                refine aX (b:=_) rfl (fun hc147=>?_) (fun hc147=>?_)
                ·
                 replace h:=bY h hc147
                 refine aF (aA rfl (aH rfl rfl (lb rfl) (sv (d:=.bool false) rfl)) <|aD ?_)
                 refine bD ?_
                 refine eH ?_
                 refine bS ?_
                 refine bS ?_
                 refine eH ?_
                 refine bS ?_
                 obtain rfl:=Option.some.inj h
                 refine ⟨.inr rfl,(.cons (sv rfl) .nil)⟩
                ·
                 replace h:=bZ h hc147
                 refine aU ?_
                 refine bR ?_
                 refine aL ?_
                 obtain ⟨x148,hx148,h⟩:=aR h
                 refine aW (aA rfl (mvI rfl rfl rfl rfl) <|aA rfl (cQ rfl rfl (lb rfl) (svI rfl) (sv (d:=.int _ 1) rfl) rfl hx148) <|aA rfl (asI rfl rfl rfl rfl) <|bL ?_)
                 refine aL ⟨(n3,x148),(fun i=>i),⟨(.sames rfl rfl),(.cons (EntW.mix aB rfl (SubC.of_eq rfl) (SubC.of_eq rfl) rfl rfl) (.cons (EntW.lst rfl) (.cons (EntW.lst rfl) (.cons (EntW.lst rfl) (.cons (EntW.lst rfl) (.cons (EntW.lst rfl) .nil)))))),bB [1,3,4,7,8,6] rfl (by decide),fun _ _=>rfl⟩,?_,?_⟩
                 exact h
                 exact Nat.lt_succ_self _
               ·
                replace h:=bZ h hc139
                refine dD ?_
                refine bV ?_
                refine bV ?_
                refine dE ?_
                refine aL ?_
                refine aT ?_
                obtain ⟨x149,hx149,h⟩:=aR h
                obtain ⟨x150,hx150,h⟩:=aS h
                obtain ⟨x151,hx151,h⟩:=aS h
                obtain ⟨x152,hx152,h⟩:=aR h
                obtain ⟨x153,hx153,h⟩:=aR h
                obtain ⟨x154,hx154,h⟩:=aS h
                obtain ⟨x155,hx155,h⟩:=aR h
                obtain ⟨x156,hx156,h⟩:=aR h
                obtain ⟨x157,hx157,h⟩:=aR h
                obtain ⟨x158,hx158,h⟩:=aS h
                obtain ⟨x159,hx159,h⟩:=aR h
                obtain ⟨x160,hx160,h⟩:=aR h
                obtain ⟨x161,hx161,h⟩:=aR h
                obtain ⟨x162,hx162,h⟩:=aR h
                refine aF (aA rfl (aN rfl rfl (lb rfl) (sv (d:=.osl _ _ _) rfl)) <|aA rfl (fE rfl rfl (lb rfl) Try.underlying24 (sv (d:=.osl _ _ _) rfl)) <|aA rfl (aM rfl rfl (lb rfl) (svI rfl) (sv (d:=.int _ 1) rfl) rfl hx149) <|aA rfl (mvB rfl rfl rfl rfl) <|aC rfl rfl (.one rfl) rfl (by decide) (fun hb=>(aN rfl rfl (lb rfl) (sv (d:=.osl _ _ _) rfl))) <|aC rfl rfl (.one rfl) rfl (by decide) (fun hb=>(gP (eInt .i64).toEnc0 rfl rfl (lb rfl) Try.underlying24 ti3 (svc (d:=.osl _ _ _) rfl hb) rfl (sv (d:=.int _ 0) rfl) (gd_t hx150 hb))) <|aC rfl rfl (.one rfl) rfl (by decide) (fun hb=>(fO (eInt .i64).toEnc0 (d:=.int _ _) rfl rfl (lb rfl) Try.underlying3 ag3 ti3 (by decide) (svcR rfl hb) rfl (gd_t hx151 hb) (nle rfl) rfl)) <|aC rfl rfl (.one rfl) rfl (by decide) (fun hb=>(mvI rfl rfl rfl rfl)) <|aC rfl rfl (.one rfl) rfl (by decide) (fun hb=>(aM rfl rfl (lb rfl) (svcI rfl hb) (svcI rfl hb) rfl hx152)) <|aA rfl (gD rfl rfl (lb rfl) (svB rfl) rfl rfl hx153) <|aA rfl (mvB rfl rfl rfl rfl) <|aC rfl rfl (.one rfl) rfl (by decide) (fun hb=>(mvB rfl rfl rfl rfl)) <|aC rfl rfl (.one rfl) rfl (by decide) (fun hb=>(aN rfl rfl (lb rfl) (svcB rfl hb))) <|aC rfl rfl (.two rfl) rfl (by decide) (fun hb=>(mvR rfl rfl rfl rfl)) <|aC rfl rfl (.two rfl) rfl (by decide) (fun hb=>(fA (r':=.int .i64 x154) (V:=[(1,.blk 60 (mixD aB.toEnc0 (w20 x110.2.1 x110.2.2.1 x110.2.2.2.1 x110.2.2.2.2.1 x110.2.2.2.2.2.1) x110.2.2.2.2.2.2.1 [.int .i64 x110.2.2.2.2.2.2.2.1,.osl 6 (eInt .i64).sz x110.2.2.2.2.2.2.2.2.length])),(6,.blk 3 (D.flat (x110.2.2.2.2.2.2.2.2.map (eInt .i64).d)))]) 9 [1,6] rfl rfl (lb rfl) cl14 (.cons (svcR rfl hb) .nil) rfl rfl rfl ⟨by decide,rfl,List.forall_mem_cons.2 ⟨⟨rfl,rfl,(eP aB rfl rfl rfl),(bF aB rfl rfl)⟩,List.forall_mem_cons.2 ⟨⟨rfl,rfl,(dY (eInt .i64) rfl),(aY (eInt .i64))⟩,List.forall_mem_nil _⟩⟩⟩ (gN _ _ _ _ _ _ _ _ _ (gd_t hx154 hb)) rfl rfl (List.forall_mem_cons.2 ⟨⟨rfl,(bF aB rfl rfl)⟩,List.forall_mem_cons.2 ⟨⟨rfl,(aY (eInt .i64))⟩,List.forall_mem_nil _⟩⟩) (by simp only [List.map_cons,List.map_nil,Ent.ren,bC,bG,bK]; rfl) (List.forall_mem_cons.2 ⟨rfl,List.forall_mem_cons.2 ⟨rfl,List.forall_mem_nil _⟩⟩) rfl)) <|aC rfl rfl (.two rfl) rfl (by decide) (fun hb=>(mvI rfl rfl rfl rfl)) <|aC rfl rfl (.two rfl) rfl (by decide) (fun hb=>(aM rfl rfl (lb rfl) (svcI rfl hb) (svcI rfl hb) rfl hx155)) <|aC rfl rfl (.one rfl) rfl (by decide) (fun hb=>(lU rfl rfl (lb rfl) hb (svcB rfl hb) rfl rfl hx156)) <|aA rfl (gD rfl rfl (lb rfl) (svB rfl) rfl rfl hx157) <|aA rfl (mvB rfl rfl rfl rfl) <|aC rfl rfl (.one rfl) rfl (by decide) (fun hb=>(mvB rfl rfl rfl rfl)) <|aC rfl rfl (.one rfl) rfl (by decide) (fun hb=>(eG rfl rfl (lb rfl) (svcB rfl hb))) <|aC rfl rfl (.one rfl) rfl (by decide) (fun hb=>(aN rfl rfl (lb rfl) (svcB rfl hb))) <|aC rfl rfl (.two rfl) rfl (by decide) (fun hb=>(mvR rfl rfl rfl rfl)) <|aC rfl rfl (.two rfl) rfl (by decide) (fun hb=>(fA (r':=.int .i64 x158) (V:=[(1,.blk 60 (mixD aB.toEnc0 (w20 x110.2.1 x110.2.2.1 x110.2.2.2.1 x110.2.2.2.2.1 x110.2.2.2.2.2.1) x110.2.2.2.2.2.2.1 [.int .i64 x110.2.2.2.2.2.2.2.1,.osl 6 (eInt .i64).sz x110.2.2.2.2.2.2.2.2.length])),(6,.blk 3 (D.flat (x110.2.2.2.2.2.2.2.2.map (eInt .i64).d)))]) 9 [1,6] rfl rfl (lb rfl) cl14 (.cons (svcR rfl hb) .nil) rfl rfl rfl ⟨by decide,rfl,List.forall_mem_cons.2 ⟨⟨rfl,rfl,(eP aB rfl rfl rfl),(bF aB rfl rfl)⟩,List.forall_mem_cons.2 ⟨⟨rfl,rfl,(dY (eInt .i64) rfl),(aY (eInt .i64))⟩,List.forall_mem_nil _⟩⟩⟩ (gN _ _ _ _ _ _ _ _ _ (gd_t hx158 hb)) rfl rfl (List.forall_mem_cons.2 ⟨⟨rfl,(bF aB rfl rfl)⟩,List.forall_mem_cons.2 ⟨⟨rfl,(aY (eInt .i64))⟩,List.forall_mem_nil _⟩⟩) (by simp only [List.map_cons,List.map_nil,Ent.ren,bC,bG,bK]; rfl) (List.forall_mem_cons.2 ⟨rfl,List.forall_mem_cons.2 ⟨rfl,List.forall_mem_nil _⟩⟩) rfl)) <|aC rfl rfl (.two rfl) rfl (by decide) (fun hb=>(mvI rfl rfl rfl rfl)) <|aC rfl rfl (.two rfl) rfl (by decide) (fun hb=>(cQ rfl rfl (lb rfl) (svcI rfl hb) (sv (d:=.int _ 1) rfl) rfl hx159)) <|aC rfl rfl (.two rfl) rfl (by decide) (fun hb=>(aM rfl rfl (lb rfl) (svcI rfl hb) (svcI rfl hb) rfl hx160)) <|aC rfl rfl (.one rfl) rfl (by decide) (fun hb=>(lU rfl rfl (lb rfl) hb (svcB rfl hb) rfl rfl hx161)) <|aA rfl (gD rfl rfl (lb rfl) (svB rfl) rfl rfl hx162) <|aD ?_)
                refine aX (b:=_) rfl (fun hc163=>?_) (fun hc163=>?_)
                ·
                 replace h:=bY h hc163
                 refine aF (aA rfl (aH rfl rfl (lb rfl) (sv (d:=.bool false) rfl)) <|aD ?_)
                 refine bD ?_
                 refine bS ?_
                 obtain rfl:=Option.some.inj h
                 refine ⟨.inr rfl,(.cons (sv rfl) .nil)⟩
                ·
                 replace h:=bZ h hc163
                 refine aU ?_
                 refine aL ?_
                 refine jM (α:=Bool) (fun z=>⟨[(6,.bool z)],[]⟩) (fun z=>cH z = some r) ?_ ?_
                 ·
                  obtain ⟨x248,hx248,h⟩:=aR h
                  refine aW (aA rfl (mvI rfl rfl rfl rfl) <|aA rfl (aM rfl rfl (lb rfl) (svI rfl) (sv (d:=.int _ 0) rfl) rfl hx248) <|aA rfl (mvB rfl rfl rfl rfl) <|aC rfl rfl (.one rfl) rfl (by decide) (fun hb=>(mvR rfl rfl rfl rfl)) <|aC rfl rfl (.one rfl) rfl (by decide) (fun hb=>(mvI rfl rfl rfl rfl)) <|?_)
                  refine gQ (.slice false (([] : List Int).map (eInt .i64).d)) rfl rfl (.one rfl) rfl (by decide) (fun hc249=>?_) (fun hc249=>?_)
                  ·
                   replace h:=bY h hc249
                   refine fB 188 rfl hc249 ?_
                   refine fB 189 rfl hc249 ?_
                   obtain ⟨x250,hx250,h⟩:=aS h
                   obtain ⟨x251,hx251,h⟩:=aR h
                   refine aA rfl (bH (r':=.osl 9 (eInt .i64).sz x250.length) (H1':=[(1,.blk 60 (mixD aB.toEnc0 (w20 x110.2.1 x110.2.2.1 x110.2.2.2.1 x110.2.2.2.2.1 x110.2.2.2.2.2.1) x110.2.2.2.2.2.2.1 [.int .i64 x110.2.2.2.2.2.2.2.1,.osl 6 (eInt .i64).sz x110.2.2.2.2.2.2.2.2.length])),(6,.blk 3 (D.flat (x110.2.2.2.2.2.2.2.2.map (eInt .i64).d))),(9,.blk 3 (D.flat (x250.map (eInt .i64).d)))]) 9 [1,6] rfl rfl (lb rfl) cl11 (.cons (svR rfl) (.cons (svI rfl) .nil)) rfl rfl ⟨rfl,rfl,by decide,rfl,List.forall_mem_cons.2 ⟨⟨rfl,rfl,(eP aB rfl rfl rfl),(bF aB rfl rfl)⟩,List.forall_mem_cons.2 ⟨⟨rfl,rfl,(dY (eInt .i64) rfl),(aY (eInt .i64))⟩,List.forall_mem_nil _⟩⟩⟩ (dQ _ _ _ _ _ _ _ _ _ _ hx250) rfl rfl (List.forall_mem_cons.2 ⟨⟨rfl,(bF aB rfl rfl)⟩,List.forall_mem_cons.2 ⟨⟨rfl,(aY (eInt .i64))⟩,List.forall_mem_cons.2 ⟨⟨rfl,(aY (eInt .i64))⟩,List.forall_mem_nil _⟩⟩⟩) (by simp only [List.map_cons,List.map_nil,Ent.ren,bC,bG,bK]; rfl)) <|aC rfl rfl (.one rfl) rfl (by decide) (fun hb=>(fE rfl rfl (lb rfl) Try.underlying24 (sv (d:=.osl _ _ _) rfl))) <|aC rfl rfl (.one rfl) rfl (by decide) (fun hb=>(aM rfl rfl (lb rfl) (svcI rfl hb) (sv (d:=.int _ 0) rfl) rfl hx251)) <|aC rfl rfl (.one rfl) rfl (by decide) (fun hb=>(aN rfl rfl (lb rfl) (svcB rfl hb))) <|aC rfl rfl (.two rfl) rfl (by decide) (fun hb=>(mvR rfl rfl rfl rfl)) <|aC rfl rfl (.two rfl) rfl (by decide) (fun hb=>(mvI rfl rfl rfl rfl)) <|?_
                   refine gQ (.slice false (([] : List Int).map (eInt .i64).d)) rfl rfl (.two rfl) rfl (by decide) (fun hc252=>?_) (fun hc252=>?_)
                   ·
                    replace h:=bY h hc252
                    refine fB 194 rfl hc252 ?_
                    refine fB 195 rfl hc252 ?_
                    obtain ⟨x253,hx253,h⟩:=aS h
                    obtain ⟨x254,hx254,h⟩:=aS h
                    obtain ⟨x255,hx255,h⟩:=aS h
                    obtain ⟨x256,hx256,h⟩:=aR h
                    obtain ⟨x257,hx257,h⟩:=aR h
                    obtain ⟨x258,hx258,h⟩:=aR h
                    refine aA rfl (bH (r':=.osl 10 (eInt .i64).sz x253.length) (H1':=[(1,.blk 60 (mixD aB.toEnc0 (w20 x110.2.1 x110.2.2.1 x110.2.2.2.1 x110.2.2.2.2.1 x110.2.2.2.2.2.1) x110.2.2.2.2.2.2.1 [.int .i64 x110.2.2.2.2.2.2.2.1,.osl 6 (eInt .i64).sz x110.2.2.2.2.2.2.2.2.length])),(6,.blk 3 (D.flat (x110.2.2.2.2.2.2.2.2.map (eInt .i64).d))),(10,.blk 3 (D.flat (x253.map (eInt .i64).d)))]) 10 [1,6] rfl rfl (lb rfl) cl11 (.cons (svR rfl) (.cons (svI rfl) .nil)) rfl rfl ⟨rfl,rfl,by decide,rfl,List.forall_mem_cons.2 ⟨⟨rfl,rfl,(eP aB rfl rfl rfl),(bF aB rfl rfl)⟩,List.forall_mem_cons.2 ⟨⟨rfl,rfl,(dY (eInt .i64) rfl),(aY (eInt .i64))⟩,List.forall_mem_nil _⟩⟩⟩ (dQ _ _ _ _ _ _ _ _ _ _ hx253) rfl rfl (List.forall_mem_cons.2 ⟨⟨rfl,(bF aB rfl rfl)⟩,List.forall_mem_cons.2 ⟨⟨rfl,(aY (eInt .i64))⟩,List.forall_mem_cons.2 ⟨⟨rfl,(aY (eInt .i64))⟩,List.forall_mem_nil _⟩⟩⟩) (by simp only [List.map_cons,List.map_nil,Ent.ren,bC,bG,bK]; rfl)) <|aC rfl rfl (.two rfl) rfl (by decide) (fun hb=>(gP (eInt .i64).toEnc0 rfl rfl (lb rfl) Try.underlying24 ti3 (sv (d:=.osl _ _ _) rfl) rfl (sv (d:=.int _ 0) rfl) (gd_t hx254 hb))) <|aC rfl rfl (.two rfl) rfl (by decide) (fun hb=>(fO (eInt .i64).toEnc0 (d:=.int _ _) rfl rfl (lb rfl) Try.underlying3 ag3 ti3 (by decide) (svcR rfl hb) rfl (gd_t hx255 hb) (nle rfl) rfl)) <|aC rfl rfl (.two rfl) rfl (by decide) (fun hb=>(mvI rfl rfl rfl rfl)) <|aC rfl rfl (.two rfl) rfl (by decide) (fun hb=>(aM rfl rfl (lb rfl) (svcI rfl hb) (svcI rfl hb) rfl hx256)) <|aC rfl rfl (.one rfl) rfl (by decide) (fun hb=>(lU rfl rfl (lb rfl) hb (svcB rfl hb) rfl rfl hx257)) <|aA rfl (gD rfl rfl (lb rfl) (svB rfl) rfl rfl hx258) <|aA rfl (mvB rfl rfl rfl rfl) <|aC rfl rfl (.one rfl) rfl (by decide) (fun hb=>(mvR rfl rfl rfl rfl)) <|aC rfl rfl (.one rfl) rfl (by decide) (fun hb=>(mvI rfl rfl rfl rfl)) <|?_
                    refine gQ (.slice false (([] : List Int).map (eInt .i64).d)) rfl rfl (.one rfl) rfl (by decide) (fun hc259=>?_) (fun hc259=>?_)
                    ·
                     replace h:=bY h hc259
                     refine fB 204 rfl hc259 ?_
                     refine fB 205 rfl hc259 ?_
                     obtain ⟨x260,hx260,h⟩:=aS h
                     obtain ⟨x261,hx261,h⟩:=aS h
                     obtain ⟨x262,hx262,h⟩:=aR h
                     obtain ⟨x263,hx263,h⟩:=aR h
                     obtain ⟨x264,hx264,h⟩:=aR h
                     obtain ⟨x265,hx265,h⟩:=aS h
                     obtain ⟨x266,hx266,h⟩:=aR h
                     refine aA rfl (bH (r':=.osl 11 (eInt .i64).sz x260.length) (H1':=[(1,.blk 60 (mixD aB.toEnc0 (w20 x110.2.1 x110.2.2.1 x110.2.2.2.1 x110.2.2.2.2.1 x110.2.2.2.2.2.1) x110.2.2.2.2.2.2.1 [.int .i64 x110.2.2.2.2.2.2.2.1,.osl 6 (eInt .i64).sz x110.2.2.2.2.2.2.2.2.length])),(6,.blk 3 (D.flat (x110.2.2.2.2.2.2.2.2.map (eInt .i64).d))),(11,.blk 3 (D.flat (x260.map (eInt .i64).d)))]) 11 [1,6] rfl rfl (lb rfl) cl11 (.cons (svR rfl) (.cons (svI rfl) .nil)) rfl rfl ⟨rfl,rfl,by decide,rfl,List.forall_mem_cons.2 ⟨⟨rfl,rfl,(eP aB rfl rfl rfl),(bF aB rfl rfl)⟩,List.forall_mem_cons.2 ⟨⟨rfl,rfl,(dY (eInt .i64) rfl),(aY (eInt .i64))⟩,List.forall_mem_nil _⟩⟩⟩ (dQ _ _ _ _ _ _ _ _ _ _ hx260) rfl rfl (List.forall_mem_cons.2 ⟨⟨rfl,(bF aB rfl rfl)⟩,List.forall_mem_cons.2 ⟨⟨rfl,(aY (eInt .i64))⟩,List.forall_mem_cons.2 ⟨⟨rfl,(aY (eInt .i64))⟩,List.forall_mem_nil _⟩⟩⟩) (by simp only [List.map_cons,List.map_nil,Ent.ren,bC,bG,bK]; rfl)) <|aC rfl rfl (.one rfl) rfl (by decide) (fun hb=>(mvI rfl rfl rfl rfl)) <|aC rfl rfl (.one rfl) rfl (by decide) (fun hb=>(gS (r:=.bool x261) rfl rfl (lb rfl) cl16 (.cons (sv (d:=.osl _ _ _) rfl) (.cons (svcI rfl hb) .nil)) (.cons (FDT (eInt .i64) rfl rfl) (.all _)) rfl rfl (eF _ _ _ (gd_t hx261 hb)))) <|aC rfl rfl (.one rfl) rfl (by decide) (fun hb=>(eG rfl rfl (lb rfl) (svcB rfl hb))) <|aA rfl (bO rfl rfl (lb rfl) (svB rfl) rfl rfl hx262) <|aA rfl (mvB rfl rfl rfl rfl) <|aC rfl rfl (.one rfl) rfl (by decide) (fun hb=>(aN rfl rfl (lb rfl) (sv (d:=.osl _ _ _) rfl))) <|aC rfl rfl (.one rfl) rfl (by decide) (fun hb=>(fE rfl rfl (lb rfl) Try.underlying24 (svc (d:=.osl _ _ _) rfl hb))) <|aC rfl rfl (.one rfl) rfl (by decide) (fun hb=>(aM rfl rfl (lb rfl) (svcI rfl hb) (sv (d:=.int _ 24) rfl) rfl hx263)) <|aA rfl (bO rfl rfl (lb rfl) (svB rfl) rfl rfl hx264) <|aA rfl (mvB rfl rfl rfl rfl) <|aC rfl rfl (.one rfl) rfl (by decide) (fun hb=>(cA (r:=.bool _) rfl rfl (lb rfl) cl7 .nil rfl (dP  _ (gd_t hx265 hb)))) <|aA rfl (bO rfl rfl (lb rfl) (svB rfl) rfl rfl hx266) <|aA rfl (asB rfl rfl rfl rfl) <|bL ?_
                     refine aL ⟨x266,(fun i=>i),⟨(.sames rfl rfl),.nil,bB [] rfl (by decide),fun _ _=>rfl⟩,?_⟩
                     exact h
                    ·
                     replace h:=bZ h hc259
                     obtain ⟨x267,hx267,h⟩:=aS h
                     obtain ⟨x268,hx268,h⟩:=aR h
                     obtain ⟨x269,hx269,h⟩:=aR h
                     obtain ⟨x270,hx270,h⟩:=aR h
                     obtain ⟨x271,hx271,h⟩:=aS h
                     obtain ⟨x272,hx272,h⟩:=aR h
                     refine aC rfl rfl (.one rfl) rfl (by decide) (fun hb=>(mvI rfl rfl rfl rfl)) <|aC rfl rfl (.one rfl) rfl (by decide) (fun hb=>(cA (r:=.bool _) rfl rfl (lb rfl) cl16 (.cons (svcL rfl hb) (.cons (svcI rfl hb) .nil)) rfl (eF _ _ _ (gd_t hx267 hb)))) <|aC rfl rfl (.one rfl) rfl (by decide) (fun hb=>(eG rfl rfl (lb rfl) (svcB rfl hb))) <|aA rfl (bO rfl rfl (lb rfl) (svB rfl) rfl rfl hx268) <|aA rfl (mvB rfl rfl rfl rfl) <|aC rfl rfl (.one rfl) rfl (by decide) (fun hb=>(aN rfl rfl (lb rfl) (sv (d:=.osl _ _ _) rfl))) <|aC rfl rfl (.one rfl) rfl (by decide) (fun hb=>(fE rfl rfl (lb rfl) Try.underlying24 (svc (d:=.osl _ _ _) rfl hb))) <|aC rfl rfl (.one rfl) rfl (by decide) (fun hb=>(aM rfl rfl (lb rfl) (svcI rfl hb) (sv (d:=.int _ 24) rfl) rfl hx269)) <|aA rfl (bO rfl rfl (lb rfl) (svB rfl) rfl rfl hx270) <|aA rfl (mvB rfl rfl rfl rfl) <|aC rfl rfl (.one rfl) rfl (by decide) (fun hb=>(cA (r:=.bool _) rfl rfl (lb rfl) cl7 .nil rfl (dP  _ (gd_t hx271 hb)))) <|aA rfl (bO rfl rfl (lb rfl) (svB rfl) rfl rfl hx272) <|aA rfl (asB rfl rfl rfl rfl) <|bL ?_
                     refine aL ⟨x272,(fun i=>i),⟨(.sames rfl rfl),.nil,bB [] rfl (by decide),fun _ _=>rfl⟩,?_⟩
                     exact h
                   ·
                    replace h:=bZ h hc252
                    obtain ⟨x273,hx273,h⟩:=aS h
                    obtain ⟨x274,hx274,h⟩:=aR h
                    obtain ⟨x275,hx275,h⟩:=aR h
                    obtain ⟨x276,hx276,h⟩:=aR h
                    refine aC rfl rfl (.two rfl) rfl (by decide) (fun hb=>(gO (eInt .i64) (cs:=[.int _ _]) rfl rfl (lb rfl) Try.underlying24 ti3 (svcL rfl hb) (sv (d:=.int _ 0) rfl) (gd_t hx273 hb) rfl rfl)) <|aC rfl rfl (.two rfl) rfl (by decide) (fun hb=>(fT rfl rfl (lb rfl) Try.underlying3 ag3 ti3 (by decide) (svc (d:=.fptr [.int _ _]) rfl hb) (nle rfl))) <|aC rfl rfl (.two rfl) rfl (by decide) (fun hb=>(mvI rfl rfl rfl rfl)) <|aC rfl rfl (.two rfl) rfl (by decide) (fun hb=>(aM rfl rfl (lb rfl) (svcI rfl hb) (svcI rfl hb) rfl hx274)) <|aC rfl rfl (.one rfl) rfl (by decide) (fun hb=>(lU rfl rfl (lb rfl) hb (svcB rfl hb) rfl rfl hx275)) <|aA rfl (gD rfl rfl (lb rfl) (svB rfl) rfl rfl hx276) <|aA rfl (mvB rfl rfl rfl rfl) <|aC rfl rfl (.one rfl) rfl (by decide) (fun hb=>(mvR rfl rfl rfl rfl)) <|aC rfl rfl (.one rfl) rfl (by decide) (fun hb=>(mvI rfl rfl rfl rfl)) <|?_
                    refine gQ (.slice false (([] : List Int).map (eInt .i64).d)) rfl rfl (.one rfl) rfl (by decide) (fun hc277=>?_) (fun hc277=>?_)
                    ·
                     replace h:=bY h hc277
                     refine fB 204 rfl hc277 ?_
                     refine fB 205 rfl hc277 ?_
                     obtain ⟨x278,hx278,h⟩:=aS h
                     obtain ⟨x279,hx279,h⟩:=aS h
                     obtain ⟨x280,hx280,h⟩:=aR h
                     obtain ⟨x281,hx281,h⟩:=aR h
                     obtain ⟨x282,hx282,h⟩:=aR h
                     obtain ⟨x283,hx283,h⟩:=aS h
                     obtain ⟨x284,hx284,h⟩:=aR h
                     refine aA rfl (bH (r':=.osl 10 (eInt .i64).sz x278.length) (H1':=[(1,.blk 60 (mixD aB.toEnc0 (w20 x110.2.1 x110.2.2.1 x110.2.2.2.1 x110.2.2.2.2.1 x110.2.2.2.2.2.1) x110.2.2.2.2.2.2.1 [.int .i64 x110.2.2.2.2.2.2.2.1,.osl 6 (eInt .i64).sz x110.2.2.2.2.2.2.2.2.length])),(6,.blk 3 (D.flat (x110.2.2.2.2.2.2.2.2.map (eInt .i64).d))),(10,.blk 3 (D.flat (x278.map (eInt .i64).d)))]) 10 [1,6] rfl rfl (lb rfl) cl11 (.cons (svR rfl) (.cons (svI rfl) .nil)) rfl rfl ⟨rfl,rfl,by decide,rfl,List.forall_mem_cons.2 ⟨⟨rfl,rfl,(eP aB rfl rfl rfl),(bF aB rfl rfl)⟩,List.forall_mem_cons.2 ⟨⟨rfl,rfl,(dY (eInt .i64) rfl),(aY (eInt .i64))⟩,List.forall_mem_nil _⟩⟩⟩ (dQ _ _ _ _ _ _ _ _ _ _ hx278) rfl rfl (List.forall_mem_cons.2 ⟨⟨rfl,(bF aB rfl rfl)⟩,List.forall_mem_cons.2 ⟨⟨rfl,(aY (eInt .i64))⟩,List.forall_mem_cons.2 ⟨⟨rfl,(aY (eInt .i64))⟩,List.forall_mem_nil _⟩⟩⟩) (by simp only [List.map_cons,List.map_nil,Ent.ren,bC,bG,bK]; rfl)) <|aC rfl rfl (.one rfl) rfl (by decide) (fun hb=>(mvI rfl rfl rfl rfl)) <|aC rfl rfl (.one rfl) rfl (by decide) (fun hb=>(gS (r:=.bool x279) rfl rfl (lb rfl) cl16 (.cons (sv (d:=.osl _ _ _) rfl) (.cons (svcI rfl hb) .nil)) (.cons (FDT (eInt .i64) rfl rfl) (.all _)) rfl rfl (eF _ _ _ (gd_t hx279 hb)))) <|aC rfl rfl (.one rfl) rfl (by decide) (fun hb=>(eG rfl rfl (lb rfl) (svcB rfl hb))) <|aA rfl (bO rfl rfl (lb rfl) (svB rfl) rfl rfl hx280) <|aA rfl (mvB rfl rfl rfl rfl) <|aC rfl rfl (.one rfl) rfl (by decide) (fun hb=>(aN rfl rfl (lb rfl) (sv (d:=.osl _ _ _) rfl))) <|aC rfl rfl (.one rfl) rfl (by decide) (fun hb=>(fE rfl rfl (lb rfl) Try.underlying24 (svc (d:=.osl _ _ _) rfl hb))) <|aC rfl rfl (.one rfl) rfl (by decide) (fun hb=>(aM rfl rfl (lb rfl) (svcI rfl hb) (sv (d:=.int _ 24) rfl) rfl hx281)) <|aA rfl (bO rfl rfl (lb rfl) (svB rfl) rfl rfl hx282) <|aA rfl (mvB rfl rfl rfl rfl) <|aC rfl rfl (.one rfl) rfl (by decide) (fun hb=>(cA (r:=.bool _) rfl rfl (lb rfl) cl7 .nil rfl (dP  _ (gd_t hx283 hb)))) <|aA rfl (bO rfl rfl (lb rfl) (svB rfl) rfl rfl hx284) <|aA rfl (asB rfl rfl rfl rfl) <|bL ?_
                     refine aL ⟨x284,(fun i=>i),⟨(.sames rfl rfl),.nil,bB [] rfl (by decide),fun _ _=>rfl⟩,?_⟩
                     exact h
                    ·
                     replace h:=bZ h hc277
                     obtain ⟨x285,hx285,h⟩:=aS h
                     obtain ⟨x286,hx286,h⟩:=aR h
                     obtain ⟨x287,hx287,h⟩:=aR h
                     obtain ⟨x288,hx288,h⟩:=aR h
                     obtain ⟨x289,hx289,h⟩:=aS h
                     obtain ⟨x290,hx290,h⟩:=aR h
                     refine aC rfl rfl (.one rfl) rfl (by decide) (fun hb=>(mvI rfl rfl rfl rfl)) <|aC rfl rfl (.one rfl) rfl (by decide) (fun hb=>(cA (r:=.bool _) rfl rfl (lb rfl) cl16 (.cons (svcL rfl hb) (.cons (svcI rfl hb) .nil)) rfl (eF _ _ _ (gd_t hx285 hb)))) <|aC rfl rfl (.one rfl) rfl (by decide) (fun hb=>(eG rfl rfl (lb rfl) (svcB rfl hb))) <|aA rfl (bO rfl rfl (lb rfl) (svB rfl) rfl rfl hx286) <|aA rfl (mvB rfl rfl rfl rfl) <|aC rfl rfl (.one rfl) rfl (by decide) (fun hb=>(aN rfl rfl (lb rfl) (sv (d:=.osl _ _ _) rfl))) <|aC rfl rfl (.one rfl) rfl (by decide) (fun hb=>(fE rfl rfl (lb rfl) Try.underlying24 (svc (d:=.osl _ _ _) rfl hb))) <|aC rfl rfl (.one rfl) rfl (by decide) (fun hb=>(aM rfl rfl (lb rfl) (svcI rfl hb) (sv (d:=.int _ 24) rfl) rfl hx287)) <|aA rfl (bO rfl rfl (lb rfl) (svB rfl) rfl rfl hx288) <|aA rfl (mvB rfl rfl rfl rfl) <|aC rfl rfl (.one rfl) rfl (by decide) (fun hb=>(cA (r:=.bool _) rfl rfl (lb rfl) cl7 .nil rfl (dP  _ (gd_t hx289 hb)))) <|aA rfl (bO rfl rfl (lb rfl) (svB rfl) rfl rfl hx290) <|aA rfl (asB rfl rfl rfl rfl) <|bL ?_
                     refine aL ⟨x290,(fun i=>i),⟨(.sames rfl rfl),.nil,bB [] rfl (by decide),fun _ _=>rfl⟩,?_⟩
                     exact h
                  ·
                   replace h:=bZ h hc249
                   obtain ⟨x291,hx291,h⟩:=aR h
                   refine aC rfl rfl (.one rfl) rfl (by decide) (fun hb=>(eQ (eInt .i64) (l:=([] : (List Int))) rfl rfl (lb rfl) Try.underlying24 (svcL rfl hb))) <|aC rfl rfl (.one rfl) rfl (by decide) (fun hb=>(aM rfl rfl (lb rfl) (svcI rfl hb) (sv (d:=.int _ 0) rfl) rfl hx291)) <|aC rfl rfl (.one rfl) rfl (by decide) (fun hb=>(aN rfl rfl (lb rfl) (svcB rfl hb))) <|aC rfl rfl (.two rfl) rfl (by decide) (fun hb=>(mvR rfl rfl rfl rfl)) <|aC rfl rfl (.two rfl) rfl (by decide) (fun hb=>(mvI rfl rfl rfl rfl)) <|?_
                   refine gQ (.slice false (([] : List Int).map (eInt .i64).d)) rfl rfl (.two rfl) rfl (by decide) (fun hc292=>?_) (fun hc292=>?_)
                   ·
                    replace h:=bY h hc292
                    refine fB 194 rfl hc292 ?_
                    refine fB 195 rfl hc292 ?_
                    obtain ⟨x293,hx293,h⟩:=aS h
                    obtain ⟨x294,hx294,h⟩:=aS h
                    obtain ⟨x295,hx295,h⟩:=aS h
                    obtain ⟨x296,hx296,h⟩:=aR h
                    obtain ⟨x297,hx297,h⟩:=aR h
                    obtain ⟨x298,hx298,h⟩:=aR h
                    refine aA rfl (bH (r':=.osl 9 (eInt .i64).sz x293.length) (H1':=[(1,.blk 60 (mixD aB.toEnc0 (w20 x110.2.1 x110.2.2.1 x110.2.2.2.1 x110.2.2.2.2.1 x110.2.2.2.2.2.1) x110.2.2.2.2.2.2.1 [.int .i64 x110.2.2.2.2.2.2.2.1,.osl 6 (eInt .i64).sz x110.2.2.2.2.2.2.2.2.length])),(6,.blk 3 (D.flat (x110.2.2.2.2.2.2.2.2.map (eInt .i64).d))),(9,.blk 3 (D.flat (x293.map (eInt .i64).d)))]) 9 [1,6] rfl rfl (lb rfl) cl11 (.cons (svR rfl) (.cons (svI rfl) .nil)) rfl rfl ⟨rfl,rfl,by decide,rfl,List.forall_mem_cons.2 ⟨⟨rfl,rfl,(eP aB rfl rfl rfl),(bF aB rfl rfl)⟩,List.forall_mem_cons.2 ⟨⟨rfl,rfl,(dY (eInt .i64) rfl),(aY (eInt .i64))⟩,List.forall_mem_nil _⟩⟩⟩ (dQ _ _ _ _ _ _ _ _ _ _ hx293) rfl rfl (List.forall_mem_cons.2 ⟨⟨rfl,(bF aB rfl rfl)⟩,List.forall_mem_cons.2 ⟨⟨rfl,(aY (eInt .i64))⟩,List.forall_mem_cons.2 ⟨⟨rfl,(aY (eInt .i64))⟩,List.forall_mem_nil _⟩⟩⟩) (by simp only [List.map_cons,List.map_nil,Ent.ren,bC,bG,bK]; rfl)) <|aC rfl rfl (.two rfl) rfl (by decide) (fun hb=>(gP (eInt .i64).toEnc0 rfl rfl (lb rfl) Try.underlying24 ti3 (sv (d:=.osl _ _ _) rfl) rfl (sv (d:=.int _ 0) rfl) (gd_t hx294 hb))) <|aC rfl rfl (.two rfl) rfl (by decide) (fun hb=>(fO (eInt .i64).toEnc0 (d:=.int _ _) rfl rfl (lb rfl) Try.underlying3 ag3 ti3 (by decide) (svcR rfl hb) rfl (gd_t hx295 hb) (nle rfl) rfl)) <|aC rfl rfl (.two rfl) rfl (by decide) (fun hb=>(mvI rfl rfl rfl rfl)) <|aC rfl rfl (.two rfl) rfl (by decide) (fun hb=>(aM rfl rfl (lb rfl) (svcI rfl hb) (svcI rfl hb) rfl hx296)) <|aC rfl rfl (.one rfl) rfl (by decide) (fun hb=>(lU rfl rfl (lb rfl) hb (svcB rfl hb) rfl rfl hx297)) <|aA rfl (gD rfl rfl (lb rfl) (svB rfl) rfl rfl hx298) <|aA rfl (mvB rfl rfl rfl rfl) <|aC rfl rfl (.one rfl) rfl (by decide) (fun hb=>(mvR rfl rfl rfl rfl)) <|aC rfl rfl (.one rfl) rfl (by decide) (fun hb=>(mvI rfl rfl rfl rfl)) <|?_
                    refine gQ (.slice false (([] : List Int).map (eInt .i64).d)) rfl rfl (.one rfl) rfl (by decide) (fun hc299=>?_) (fun hc299=>?_)
                    ·
                     replace h:=bY h hc299
                     refine fB 204 rfl hc299 ?_
                     refine fB 205 rfl hc299 ?_
                     obtain ⟨x300,hx300,h⟩:=aS h
                     obtain ⟨x301,hx301,h⟩:=aS h
                     obtain ⟨x302,hx302,h⟩:=aR h
                     obtain ⟨x303,hx303,h⟩:=aR h
                     obtain ⟨x304,hx304,h⟩:=aR h
                     obtain ⟨x305,hx305,h⟩:=aS h
                     obtain ⟨x306,hx306,h⟩:=aR h
                     refine aA rfl (bH (r':=.osl 10 (eInt .i64).sz x300.length) (H1':=[(1,.blk 60 (mixD aB.toEnc0 (w20 x110.2.1 x110.2.2.1 x110.2.2.2.1 x110.2.2.2.2.1 x110.2.2.2.2.2.1) x110.2.2.2.2.2.2.1 [.int .i64 x110.2.2.2.2.2.2.2.1,.osl 6 (eInt .i64).sz x110.2.2.2.2.2.2.2.2.length])),(6,.blk 3 (D.flat (x110.2.2.2.2.2.2.2.2.map (eInt .i64).d))),(10,.blk 3 (D.flat (x300.map (eInt .i64).d)))]) 10 [1,6] rfl rfl (lb rfl) cl11 (.cons (svR rfl) (.cons (svI rfl) .nil)) rfl rfl ⟨rfl,rfl,by decide,rfl,List.forall_mem_cons.2 ⟨⟨rfl,rfl,(eP aB rfl rfl rfl),(bF aB rfl rfl)⟩,List.forall_mem_cons.2 ⟨⟨rfl,rfl,(dY (eInt .i64) rfl),(aY (eInt .i64))⟩,List.forall_mem_nil _⟩⟩⟩ (dQ _ _ _ _ _ _ _ _ _ _ hx300) rfl rfl (List.forall_mem_cons.2 ⟨⟨rfl,(bF aB rfl rfl)⟩,List.forall_mem_cons.2 ⟨⟨rfl,(aY (eInt .i64))⟩,List.forall_mem_cons.2 ⟨⟨rfl,(aY (eInt .i64))⟩,List.forall_mem_nil _⟩⟩⟩) (by simp only [List.map_cons,List.map_nil,Ent.ren,bC,bG,bK]; rfl)) <|aC rfl rfl (.one rfl) rfl (by decide) (fun hb=>(mvI rfl rfl rfl rfl)) <|aC rfl rfl (.one rfl) rfl (by decide) (fun hb=>(gS (r:=.bool x301) rfl rfl (lb rfl) cl16 (.cons (sv (d:=.osl _ _ _) rfl) (.cons (svcI rfl hb) .nil)) (.cons (FDT (eInt .i64) rfl rfl) (.all _)) rfl rfl (eF _ _ _ (gd_t hx301 hb)))) <|aC rfl rfl (.one rfl) rfl (by decide) (fun hb=>(eG rfl rfl (lb rfl) (svcB rfl hb))) <|aA rfl (bO rfl rfl (lb rfl) (svB rfl) rfl rfl hx302) <|aA rfl (mvB rfl rfl rfl rfl) <|aC rfl rfl (.one rfl) rfl (by decide) (fun hb=>(aN rfl rfl (lb rfl) (sv (d:=.osl _ _ _) rfl))) <|aC rfl rfl (.one rfl) rfl (by decide) (fun hb=>(fE rfl rfl (lb rfl) Try.underlying24 (svc (d:=.osl _ _ _) rfl hb))) <|aC rfl rfl (.one rfl) rfl (by decide) (fun hb=>(aM rfl rfl (lb rfl) (svcI rfl hb) (sv (d:=.int _ 24) rfl) rfl hx303)) <|aA rfl (bO rfl rfl (lb rfl) (svB rfl) rfl rfl hx304) <|aA rfl (mvB rfl rfl rfl rfl) <|aC rfl rfl (.one rfl) rfl (by decide) (fun hb=>(cA (r:=.bool _) rfl rfl (lb rfl) cl7 .nil rfl (dP  _ (gd_t hx305 hb)))) <|aA rfl (bO rfl rfl (lb rfl) (svB rfl) rfl rfl hx306) <|aA rfl (asB rfl rfl rfl rfl) <|bL ?_
                     refine aL ⟨x306,(fun i=>i),⟨(.sames rfl rfl),.nil,bB [] rfl (by decide),fun _ _=>rfl⟩,?_⟩
                     exact h
                    ·
                     replace h:=bZ h hc299
                     obtain ⟨x307,hx307,h⟩:=aS h
                     obtain ⟨x308,hx308,h⟩:=aR h
                     obtain ⟨x309,hx309,h⟩:=aR h
                     obtain ⟨x310,hx310,h⟩:=aR h
                     obtain ⟨x311,hx311,h⟩:=aS h
                     obtain ⟨x312,hx312,h⟩:=aR h
                     refine aC rfl rfl (.one rfl) rfl (by decide) (fun hb=>(mvI rfl rfl rfl rfl)) <|aC rfl rfl (.one rfl) rfl (by decide) (fun hb=>(cA (r:=.bool _) rfl rfl (lb rfl) cl16 (.cons (svcL rfl hb) (.cons (svcI rfl hb) .nil)) rfl (eF _ _ _ (gd_t hx307 hb)))) <|aC rfl rfl (.one rfl) rfl (by decide) (fun hb=>(eG rfl rfl (lb rfl) (svcB rfl hb))) <|aA rfl (bO rfl rfl (lb rfl) (svB rfl) rfl rfl hx308) <|aA rfl (mvB rfl rfl rfl rfl) <|aC rfl rfl (.one rfl) rfl (by decide) (fun hb=>(aN rfl rfl (lb rfl) (sv (d:=.osl _ _ _) rfl))) <|aC rfl rfl (.one rfl) rfl (by decide) (fun hb=>(fE rfl rfl (lb rfl) Try.underlying24 (svc (d:=.osl _ _ _) rfl hb))) <|aC rfl rfl (.one rfl) rfl (by decide) (fun hb=>(aM rfl rfl (lb rfl) (svcI rfl hb) (sv (d:=.int _ 24) rfl) rfl hx309)) <|aA rfl (bO rfl rfl (lb rfl) (svB rfl) rfl rfl hx310) <|aA rfl (mvB rfl rfl rfl rfl) <|aC rfl rfl (.one rfl) rfl (by decide) (fun hb=>(cA (r:=.bool _) rfl rfl (lb rfl) cl7 .nil rfl (dP  _ (gd_t hx311 hb)))) <|aA rfl (bO rfl rfl (lb rfl) (svB rfl) rfl rfl hx312) <|aA rfl (asB rfl rfl rfl rfl) <|bL ?_
                     refine aL ⟨x312,(fun i=>i),⟨(.sames rfl rfl),.nil,bB [] rfl (by decide),fun _ _=>rfl⟩,?_⟩
                     exact h
                   ·
                    replace h:=bZ h hc292
                    obtain ⟨x313,hx313,h⟩:=aS h
                    obtain ⟨x314,hx314,h⟩:=aR h
                    obtain ⟨x315,hx315,h⟩:=aR h
                    obtain ⟨x316,hx316,h⟩:=aR h
                    refine aC rfl rfl (.two rfl) rfl (by decide) (fun hb=>(gO (eInt .i64) (cs:=[.int _ _]) rfl rfl (lb rfl) Try.underlying24 ti3 (svcL rfl hb) (sv (d:=.int _ 0) rfl) (gd_t hx313 hb) rfl rfl)) <|aC rfl rfl (.two rfl) rfl (by decide) (fun hb=>(fT rfl rfl (lb rfl) Try.underlying3 ag3 ti3 (by decide) (svc (d:=.fptr [.int _ _]) rfl hb) (nle rfl))) <|aC rfl rfl (.two rfl) rfl (by decide) (fun hb=>(mvI rfl rfl rfl rfl)) <|aC rfl rfl (.two rfl) rfl (by decide) (fun hb=>(aM rfl rfl (lb rfl) (svcI rfl hb) (svcI rfl hb) rfl hx314)) <|aC rfl rfl (.one rfl) rfl (by decide) (fun hb=>(lU rfl rfl (lb rfl) hb (svcB rfl hb) rfl rfl hx315)) <|aA rfl (gD rfl rfl (lb rfl) (svB rfl) rfl rfl hx316) <|aA rfl (mvB rfl rfl rfl rfl) <|aC rfl rfl (.one rfl) rfl (by decide) (fun hb=>(mvR rfl rfl rfl rfl)) <|aC rfl rfl (.one rfl) rfl (by decide) (fun hb=>(mvI rfl rfl rfl rfl)) <|?_
                    refine gQ (.slice false (([] : List Int).map (eInt .i64).d)) rfl rfl (.one rfl) rfl (by decide) (fun hc317=>?_) (fun hc317=>?_)
                    ·
                     replace h:=bY h hc317
                     refine fB 204 rfl hc317 ?_
                     refine fB 205 rfl hc317 ?_
                     obtain ⟨x318,hx318,h⟩:=aS h
                     obtain ⟨x319,hx319,h⟩:=aS h
                     obtain ⟨x320,hx320,h⟩:=aR h
                     obtain ⟨x321,hx321,h⟩:=aR h
                     obtain ⟨x322,hx322,h⟩:=aR h
                     obtain ⟨x323,hx323,h⟩:=aS h
                     obtain ⟨x324,hx324,h⟩:=aR h
                     refine aA rfl (bH (r':=.osl 9 (eInt .i64).sz x318.length) (H1':=[(1,.blk 60 (mixD aB.toEnc0 (w20 x110.2.1 x110.2.2.1 x110.2.2.2.1 x110.2.2.2.2.1 x110.2.2.2.2.2.1) x110.2.2.2.2.2.2.1 [.int .i64 x110.2.2.2.2.2.2.2.1,.osl 6 (eInt .i64).sz x110.2.2.2.2.2.2.2.2.length])),(6,.blk 3 (D.flat (x110.2.2.2.2.2.2.2.2.map (eInt .i64).d))),(9,.blk 3 (D.flat (x318.map (eInt .i64).d)))]) 9 [1,6] rfl rfl (lb rfl) cl11 (.cons (svR rfl) (.cons (svI rfl) .nil)) rfl rfl ⟨rfl,rfl,by decide,rfl,List.forall_mem_cons.2 ⟨⟨rfl,rfl,(eP aB rfl rfl rfl),(bF aB rfl rfl)⟩,List.forall_mem_cons.2 ⟨⟨rfl,rfl,(dY (eInt .i64) rfl),(aY (eInt .i64))⟩,List.forall_mem_nil _⟩⟩⟩ (dQ _ _ _ _ _ _ _ _ _ _ hx318) rfl rfl (List.forall_mem_cons.2 ⟨⟨rfl,(bF aB rfl rfl)⟩,List.forall_mem_cons.2 ⟨⟨rfl,(aY (eInt .i64))⟩,List.forall_mem_cons.2 ⟨⟨rfl,(aY (eInt .i64))⟩,List.forall_mem_nil _⟩⟩⟩) (by simp only [List.map_cons,List.map_nil,Ent.ren,bC,bG,bK]; rfl)) <|aC rfl rfl (.one rfl) rfl (by decide) (fun hb=>(mvI rfl rfl rfl rfl)) <|aC rfl rfl (.one rfl) rfl (by decide) (fun hb=>(gS (r:=.bool x319) rfl rfl (lb rfl) cl16 (.cons (sv (d:=.osl _ _ _) rfl) (.cons (svcI rfl hb) .nil)) (.cons (FDT (eInt .i64) rfl rfl) (.all _)) rfl rfl (eF _ _ _ (gd_t hx319 hb)))) <|aC rfl rfl (.one rfl) rfl (by decide) (fun hb=>(eG rfl rfl (lb rfl) (svcB rfl hb))) <|aA rfl (bO rfl rfl (lb rfl) (svB rfl) rfl rfl hx320) <|aA rfl (mvB rfl rfl rfl rfl) <|aC rfl rfl (.one rfl) rfl (by decide) (fun hb=>(aN rfl rfl (lb rfl) (sv (d:=.osl _ _ _) rfl))) <|aC rfl rfl (.one rfl) rfl (by decide) (fun hb=>(fE rfl rfl (lb rfl) Try.underlying24 (svc (d:=.osl _ _ _) rfl hb))) <|aC rfl rfl (.one rfl) rfl (by decide) (fun hb=>(aM rfl rfl (lb rfl) (svcI rfl hb) (sv (d:=.int _ 24) rfl) rfl hx321)) <|aA rfl (bO rfl rfl (lb rfl) (svB rfl) rfl rfl hx322) <|aA rfl (mvB rfl rfl rfl rfl) <|aC rfl rfl (.one rfl) rfl (by decide) (fun hb=>(cA (r:=.bool _) rfl rfl (lb rfl) cl7 .nil rfl (dP  _ (gd_t hx323 hb)))) <|aA rfl (bO rfl rfl (lb rfl) (svB rfl) rfl rfl hx324) <|aA rfl (asB rfl rfl rfl rfl) <|bL ?_
                     refine aL ⟨x324,(fun i=>i),⟨(.sames rfl rfl),.nil,bB [] rfl (by decide),fun _ _=>rfl⟩,?_⟩
                     exact h
                    ·
                     replace h:=bZ h hc317
                     obtain ⟨x325,hx325,h⟩:=aS h
                     obtain ⟨x326,hx326,h⟩:=aR h
                     obtain ⟨x327,hx327,h⟩:=aR h
                     obtain ⟨x328,hx328,h⟩:=aR h
                     obtain ⟨x329,hx329,h⟩:=aS h
                     obtain ⟨x330,hx330,h⟩:=aR h
                     refine aC rfl rfl (.one rfl) rfl (by decide) (fun hb=>(mvI rfl rfl rfl rfl)) <|aC rfl rfl (.one rfl) rfl (by decide) (fun hb=>(cA (r:=.bool _) rfl rfl (lb rfl) cl16 (.cons (svcL rfl hb) (.cons (svcI rfl hb) .nil)) rfl (eF _ _ _ (gd_t hx325 hb)))) <|aC rfl rfl (.one rfl) rfl (by decide) (fun hb=>(eG rfl rfl (lb rfl) (svcB rfl hb))) <|aA rfl (bO rfl rfl (lb rfl) (svB rfl) rfl rfl hx326) <|aA rfl (mvB rfl rfl rfl rfl) <|aC rfl rfl (.one rfl) rfl (by decide) (fun hb=>(aN rfl rfl (lb rfl) (sv (d:=.osl _ _ _) rfl))) <|aC rfl rfl (.one rfl) rfl (by decide) (fun hb=>(fE rfl rfl (lb rfl) Try.underlying24 (svc (d:=.osl _ _ _) rfl hb))) <|aC rfl rfl (.one rfl) rfl (by decide) (fun hb=>(aM rfl rfl (lb rfl) (svcI rfl hb) (sv (d:=.int _ 24) rfl) rfl hx327)) <|aA rfl (bO rfl rfl (lb rfl) (svB rfl) rfl rfl hx328) <|aA rfl (mvB rfl rfl rfl rfl) <|aC rfl rfl (.one rfl) rfl (by decide) (fun hb=>(cA (r:=.bool _) rfl rfl (lb rfl) cl7 .nil rfl (dP  _ (gd_t hx329 hb)))) <|aA rfl (bO rfl rfl (lb rfl) (svB rfl) rfl rfl hx330) <|aA rfl (asB rfl rfl rfl rfl) <|bL ?_
                     refine aL ⟨x330,(fun i=>i),⟨(.sames rfl rfl),.nil,bB [] rfl (by decide),fun _ _=>rfl⟩,?_⟩
                     exact h
                 ·
                  rintro v247 h
                  unfold cH at h
                  refine bD ?_
                  obtain rfl:=Option.some.inj h
                  refine ⟨.inr rfl,(.cons (sv rfl) .nil)⟩
end Go.Proofs.Ytdnjagkihgjpcaa
