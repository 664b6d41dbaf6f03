/-
  A part of the proof: rules and plain facts. No condition.
-/
import Derived.Test.YtdnjagkihgjpcaaProg
import Derived.KernelRfl
import Derived.Test.YtdnjagkihgjpcaaIlBd
import Derived.Test.YtdnjagkihgjpcaaIlA19D
import Derived.Test.YtdnjagkihgjpcaaIlIt19
import Derived.Test.YtdnjagkihgjpcaaIlA19C3
set_option linter.all false
set_option maxRecDepth 8000
set_option maxHeartbeats 2000000
open Go Go.IL Go.Fn Go.Proofs
namespace Go.Proofs.Ytdnjagkihgjpcaa
theorem ti23 : TI Try.prog 23 (some (.agg #[.int .u8 0,.int .i64 0,.int .i64 0,.int .i64 0,.bool false])) 5 40:=by unfold TI; kernel_rfl
theorem ag23 : hD Try.prog 23 = true:=by kernel_rfl
theorem cl7 : bN Try.prog 7:=⟨Try.f7,Try.func7,rfl,rfl⟩
theorem cl8 : bN Try.prog 8:=⟨Try.f8,Try.func8,rfl,rfl⟩
theorem cl16 : bN Try.prog 16:=⟨Try.f16,Try.func16,rfl,rfl⟩
theorem nR (a0 : cB) (a1 : Int) (a2 : Int) (a3 : (List aH)) (a4 : Int) (a5 : Int) (a6 : (List aF)) (a7 : Int) (a8 : (List Int)) (r : (Int × Int × Int × (List aH) × Int × Int × (List aF) × Int × (List Int))) (h : iM a0 a1 a2 a3 a4 a5 a6 a7 a8 = some r) : FnH Try.prog 8 [.ref 1000 0,.agg (v0 a0)] [(1000,.blk 60 (mixD aB.toEnc0 (w20 a1 a2 a3 a4 a5) a6 [.int .i64 a7,.osl 1001 (eInt .i64).sz a8.length])),(1001,.blk 3 (D.flat (a8.map (eInt .i64).d)))] (.int .i64 r.1) [(1000,.blk 60 (mixD aB.toEnc0 (w20 r.2.1 r.2.2.1 r.2.2.2.1 r.2.2.2.2.1 r.2.2.2.2.2.1) r.2.2.2.2.2.2.1 [.int .i64 r.2.2.2.2.2.2.2.1,.osl 0 (eInt .i64).sz r.2.2.2.2.2.2.2.2.length])),(0,.blk 3 (D.flat (r.2.2.2.2.2.2.2.2.map (eInt .i64).d)))]:=by
 refine dL (rs:=[.int .i64 r.1]) Try.func8 rfl Try.ntmps8 (nle rfl) fun O hO=>?_
 show IWP _ _ _ _ ⟨[(0,.ref 1000 0),(1,.agg (v0 a0))],[(1000,.blk 60 (mixD aB.toEnc0 (w20 a1 a2 a3 a4 a5) a6 [.int .i64 a7,.osl 1001 (eInt .i64).sz a8.length])),(1001,.blk 3 (D.flat (a8.map (eInt .i64).d)))]⟩ _
 unfold iM at h
 refine aD (aA rfl (dV (cs:=q8) 0 rfl rfl (lb rfl) rfl (svA q8 rfl) rfl rfl) <|aA rfl (aG rfl rfl (lb rfl) (sv (d:=.int _ 0) rfl)) <|aC ?_)
 refine aS ?_
 obtain ⟨x1,hx1,h⟩:=aT h
 refine aD (aA rfl (faR 0 rfl rfl rfl Try.underlying23 rfl ti5 (lb rfl) rfl rfl) <|aA rfl (aK (d:=.int _ _) rfl rfl (lb rfl) Try.underlying5 ag5 ti5 (by decide) (svR rfl) rfl (nle rfl) rfl) <|aA rfl (zW rfl rfl (lb rfl) (svI rfl) (sv (d:=.int _ 6) rfl) hx1) <|aC ?_)
 refine aZ ?_
 refine jW (α:=Bool) (fun z=>⟨[(0,.ref 1000 0),(3,.ref 0 0),(7,.int .u8 x1),(8,.bool z)],[(1000,.blk 60 (mixD aB.toEnc0 (w20 a1 a2 a3 a4 a5) a6 [.int .i64 a7,.osl 1001 (eInt .i64).sz a8.length])),(0,.blk 23 (v0 a0)),(1001,.blk 3 (D.flat (a8.map (eInt .i64).d)))]⟩) (fun z=>gL a0 a1 a2 a3 a4 a5 a6 a7 a8 x1 z = some r) ?_ ?_
 ·
  obtain ⟨x21,hx21,h⟩:=aX h
  refine aD (aA rfl (aQ rfl rfl (lb rfl) (svI rfl) (sv (d:=.int _ 0) rfl) rfl hx21) <|aA rfl (asB rfl rfl rfl rfl) <|aC ?_)
  refine aW (b:=_) rfl (fun hc22=>?_) (fun hc22=>?_)
  ·
   replace h:=cE h hc22
   refine aR ?_
   refine aL ⟨x21,(fun i=>i),⟨(.sames rfl rfl),(.cons (EntW.mix aB rfl (SubC.of_eq rfl) (SubC.of_eq rfl) rfl rfl) (.cons (.blk rfl rfl rfl) (.cons (EntW.lst rfl) .nil))),bA [1000,0,1001] rfl (by decide),fun _ _=>rfl⟩,?_⟩
   exact h
  ·
   replace h:=cF h hc22
   obtain ⟨x23,hx23,h⟩:=aX h
   refine aV (aA rfl (aQ rfl rfl (lb rfl) (svI rfl) (sv (d:=.int _ 1) rfl) rfl hx23) <|aA rfl (asB rfl rfl rfl rfl) <|bM ?_)
   refine aL ⟨x23,(fun i=>i),⟨(.sames rfl rfl),(.cons (EntW.mix aB rfl (SubC.of_eq rfl) (SubC.of_eq rfl) rfl rfl) (.cons (.blk rfl rfl rfl) (.cons (EntW.lst rfl) .nil))),bA [1000,0,1001] rfl (by decide),fun _ _=>rfl⟩,?_⟩
   exact h
 ·
  rintro v5 h
  unfold gL at h
  refine aW (b:=_) rfl (fun hc6=>?_) (fun hc6=>?_)
  ·
   replace h:=cE h hc6
   obtain ⟨x7,hx7,h⟩:=aT h
   refine aD (aA rfl (mvR rfl rfl rfl rfl) <|aA rfl (faR 1 rfl rfl rfl Try.underlying23 rfl ti3 (lb rfl) rfl rfl) <|aA rfl (aK (d:=.int _ _) rfl rfl (lb rfl) Try.underlying3 ag3 ti3 (by decide) (svR rfl) rfl (nle rfl) rfl) <|aA rfl (faR 2 rfl rfl rfl Try.underlying23 rfl ti3 (lb rfl) rfl rfl) <|aA rfl (aK (d:=.int _ _) rfl rfl (lb rfl) Try.underlying3 ag3 ti3 (by decide) (svR rfl) rfl (nle rfl) rfl) <|aA rfl (faR 3 rfl rfl rfl Try.underlying23 rfl ti3 (lb rfl) rfl rfl) <|aA rfl (aK (d:=.int _ _) rfl rfl (lb rfl) Try.underlying3 ag3 ti3 (by decide) (svR rfl) rfl (nle rfl) rfl) <|aA rfl (faR 4 rfl rfl rfl Try.underlying23 rfl ti4 (lb rfl) rfl rfl) <|aA rfl (aK (d:=.bool _) rfl rfl (lb rfl) Try.underlying4 ag4 ti4 (by decide) (svR rfl) rfl (nle rfl) rfl) <|aA rfl (bQ (r':=.int .i64 x7.1) (H1':=[(1000,.blk 60 (mixD aB.toEnc0 (w20 x7.2.1 x7.2.2.1 x7.2.2.2.1 x7.2.2.2.2.1 x7.2.2.2.2.2.1) x7.2.2.2.2.2.2.1 [.int .i64 x7.2.2.2.2.2.2.2.1,.osl 1 (eInt .i64).sz x7.2.2.2.2.2.2.2.2.length])),(1,.blk 3 (D.flat (x7.2.2.2.2.2.2.2.2.map (eInt .i64).d)))]) 1 [1000,1001] rfl rfl (lb rfl) cl18 (.cons (svR rfl) (.cons (svI rfl) (.cons (svI rfl) (.cons (svI rfl) (.cons (svB rfl) .nil))))) rfl rfl ⟨rfl,rfl,by decide,rfl,List.forall_mem_cons.2 ⟨⟨rfl,rfl,(fD aB rfl rfl rfl),(bJ aB rfl rfl)⟩,List.forall_mem_cons.2 ⟨⟨rfl,rfl,(eP (eInt .i64) rfl),(bD (eInt .i64))⟩,List.forall_mem_nil _⟩⟩⟩ (fT _ _ _ _ _ _ _ _ _ _ _ _ _ hx7) rfl rfl (List.forall_mem_cons.2 ⟨⟨rfl,(bJ aB rfl rfl)⟩,List.forall_mem_cons.2 ⟨⟨rfl,(bD (eInt .i64))⟩,List.forall_mem_nil _⟩⟩) (by simp only [List.map_cons,List.map_nil,Ent.ren,bE,bK,bS]; rfl)) <|aA rfl (asI rfl rfl rfl rfl) <|aC ?_)
   refine bB ?_
   refine dY ?_
   refine bR ?_
   obtain rfl:=Option.some.inj h
   refine ⟨.inr rfl,(fun i=>if i = 0 then 1 else i),⟨.nil,(.cons (EntW.mix aB rfl (SubC.of_eq rfl) (SubC.of_eq rfl) rfl rfl) (.cons (EntW.lst rfl) .nil)),bA [1000,1] rfl (by decide),(fun i hi=>by first | rfl | (show (if _ then _ else _) = _; (repeat' split) <;> omega))⟩,(.cons (sv rfl) .nil),rfl⟩
  ·
   replace h:=cF h hc6
   refine jW (α:=Bool) (fun z=>⟨[(0,.ref 1000 0),(3,.ref 0 0),(7,.int .u8 x1),(21,.bool z)],[(1000,.blk 60 (mixD aB.toEnc0 (w20 a1 a2 a3 a4 a5) a6 [.int .i64 a7,.osl 1001 (eInt .i64).sz a8.length])),(0,.blk 23 (v0 a0)),(1001,.blk 3 (D.flat (a8.map (eInt .i64).d)))]⟩) (fun z=>gK a0 a1 a2 a3 a4 a5 a6 a7 a8 x1 z = some r) ?_ ?_
   ·
    obtain ⟨x18,hx18,h⟩:=aX h
    refine aD (aA rfl (aQ rfl rfl (lb rfl) (svI rfl) (sv (d:=.int _ 2) rfl) rfl hx18) <|aA rfl (asB rfl rfl rfl rfl) <|aC ?_)
    refine aW (b:=_) rfl (fun hc19=>?_) (fun hc19=>?_)
    ·
     replace h:=cE h hc19
     refine aR ?_
     refine aL ⟨x18,(fun i=>i),⟨(.sames rfl rfl),(.cons (EntW.mix aB rfl (SubC.of_eq rfl) (SubC.of_eq rfl) rfl rfl) (.cons (.blk rfl rfl rfl) (.cons (EntW.lst rfl) .nil))),bA [1000,0,1001] rfl (by decide),fun _ _=>rfl⟩,?_⟩
     exact h
    ·
     replace h:=cF h hc19
     obtain ⟨x20,hx20,h⟩:=aX h
     refine aV (aA rfl (aQ rfl rfl (lb rfl) (svI rfl) (sv (d:=.int _ 3) rfl) rfl hx20) <|aA rfl (asB rfl rfl rfl rfl) <|bM ?_)
     refine aL ⟨x20,(fun i=>i),⟨(.sames rfl rfl),(.cons (EntW.mix aB rfl (SubC.of_eq rfl) (SubC.of_eq rfl) rfl rfl) (.cons (.blk rfl rfl rfl) (.cons (EntW.lst rfl) .nil))),bA [1000,0,1001] rfl (by decide),fun _ _=>rfl⟩,?_⟩
     exact h
   ·
    rintro v11 h
    unfold gK at h
    refine aW (b:=_) rfl (fun hc12=>?_) (fun hc12=>?_)
    ·
     replace h:=cE h hc12
     obtain ⟨x13,hx13,h⟩:=aT h
     refine aD (aA rfl (mvR rfl rfl rfl rfl) <|aA rfl (faR 1 rfl rfl rfl Try.underlying23 rfl ti3 (lb rfl) rfl rfl) <|aA rfl (aK (d:=.int _ _) rfl rfl (lb rfl) Try.underlying3 ag3 ti3 (by decide) (svR rfl) rfl (nle rfl) rfl) <|aA rfl (faR 2 rfl rfl rfl Try.underlying23 rfl ti3 (lb rfl) rfl rfl) <|aA rfl (aK (d:=.int _ _) rfl rfl (lb rfl) Try.underlying3 ag3 ti3 (by decide) (svR rfl) rfl (nle rfl) rfl) <|aA rfl (faR 3 rfl rfl rfl Try.underlying23 rfl ti3 (lb rfl) rfl rfl) <|aA rfl (aK (d:=.int _ _) rfl rfl (lb rfl) Try.underlying3 ag3 ti3 (by decide) (svR rfl) rfl (nle rfl) rfl) <|aA rfl (faR 4 rfl rfl rfl Try.underlying23 rfl ti4 (lb rfl) rfl rfl) <|aA rfl (aK (d:=.bool _) rfl rfl (lb rfl) Try.underlying4 ag4 ti4 (by decide) (svR rfl) rfl (nle rfl) rfl) <|aA rfl (bQ (r':=.int .i64 x13.1) (H1':=[(1000,.blk 60 (mixD aB.toEnc0 (w20 x13.2.1 x13.2.2.1 x13.2.2.2.1 x13.2.2.2.2.1 x13.2.2.2.2.2.1) x13.2.2.2.2.2.2.1 [.int .i64 x13.2.2.2.2.2.2.2.1,.osl 1 (eInt .i64).sz x13.2.2.2.2.2.2.2.2.length])),(1,.blk 3 (D.flat (x13.2.2.2.2.2.2.2.2.map (eInt .i64).d)))]) 1 [1000,1001] rfl rfl (lb rfl) cl17 (.cons (svR rfl) (.cons (svI rfl) (.cons (svI rfl) (.cons (svI rfl) (.cons (svB rfl) .nil))))) rfl rfl ⟨rfl,rfl,by decide,rfl,List.forall_mem_cons.2 ⟨⟨rfl,rfl,(fD aB rfl rfl rfl),(bJ aB rfl rfl)⟩,List.forall_mem_cons.2 ⟨⟨rfl,rfl,(eP (eInt .i64) rfl),(bD (eInt .i64))⟩,List.forall_mem_nil _⟩⟩⟩ (lH _ _ _ _ _ _ _ _ _ _ _ _ _ hx13) rfl rfl (List.forall_mem_cons.2 ⟨⟨rfl,(bJ aB rfl rfl)⟩,List.forall_mem_cons.2 ⟨⟨rfl,(bD (eInt .i64))⟩,List.forall_mem_nil _⟩⟩) (by simp only [List.map_cons,List.map_nil,Ent.ren,bE,bK,bS]; rfl)) <|aA rfl (asI rfl rfl rfl rfl) <|aC ?_)
     refine bB ?_
     refine dY ?_
     refine bR ?_
     obtain rfl:=Option.some.inj h
     refine ⟨.inr rfl,(fun i=>if i = 0 then 1 else i),⟨.nil,(.cons (EntW.mix aB rfl (SubC.of_eq rfl) (SubC.of_eq rfl) rfl rfl) (.cons (EntW.lst rfl) .nil)),bA [1000,1] rfl (by decide),(fun i hi=>by first | rfl | (show (if _ then _ else _) = _; (repeat' split) <;> omega))⟩,(.cons (sv rfl) .nil),rfl⟩
    ·
     replace h:=cF h hc12
     obtain ⟨x14,hx14,h⟩:=aX h
     refine aD (aA rfl (aQ rfl rfl (lb rfl) (svI rfl) (sv (d:=.int _ 4) rfl) rfl hx14) <|aA rfl (asB rfl rfl rfl rfl) <|aC ?_)
     refine aW (b:=_) rfl (fun hc15=>?_) (fun hc15=>?_)
     ·
      replace h:=cE h hc15
      obtain ⟨x16,hx16,h⟩:=aT h
      refine aD (aA rfl (mvR rfl rfl rfl rfl) <|aA rfl (faR 1 rfl rfl rfl Try.underlying23 rfl ti3 (lb rfl) rfl rfl) <|aA rfl (aK (d:=.int _ _) rfl rfl (lb rfl) Try.underlying3 ag3 ti3 (by decide) (svR rfl) rfl (nle rfl) rfl) <|aA rfl (bQ (r':=.int .i64 x16.1) (H1':=[(1000,.blk 60 (mixD aB.toEnc0 (w20 x16.2.1 x16.2.2.1 x16.2.2.2.1 x16.2.2.2.2.1 x16.2.2.2.2.2.1) x16.2.2.2.2.2.2.1 [.int .i64 x16.2.2.2.2.2.2.2.1,.osl 1 (eInt .i64).sz x16.2.2.2.2.2.2.2.2.length])),(1,.blk 3 (D.flat (x16.2.2.2.2.2.2.2.2.map (eInt .i64).d)))]) 1 [1000,1001] rfl rfl (lb rfl) cl20 (.cons (svR rfl) (.cons (svI rfl) .nil)) rfl rfl ⟨rfl,rfl,by decide,rfl,List.forall_mem_cons.2 ⟨⟨rfl,rfl,(fD aB rfl rfl rfl),(bJ aB rfl rfl)⟩,List.forall_mem_cons.2 ⟨⟨rfl,rfl,(eP (eInt .i64) rfl),(bD (eInt .i64))⟩,List.forall_mem_nil _⟩⟩⟩ (jE _ _ _ _ _ _ _ _ _ _ hx16) rfl rfl (List.forall_mem_cons.2 ⟨⟨rfl,(bJ aB rfl rfl)⟩,List.forall_mem_cons.2 ⟨⟨rfl,(bD (eInt .i64))⟩,List.forall_mem_nil _⟩⟩) (by simp only [List.map_cons,List.map_nil,Ent.ren,bE,bK,bS]; rfl)) <|aA rfl (asI rfl rfl rfl rfl) <|aC ?_)
      refine bB ?_
      refine dY ?_
      refine bR ?_
      obtain rfl:=Option.some.inj h
      refine ⟨.inr rfl,(fun i=>if i = 0 then 1 else i),⟨.nil,(.cons (EntW.mix aB rfl (SubC.of_eq rfl) (SubC.of_eq rfl) rfl rfl) (.cons (EntW.lst rfl) .nil)),bA [1000,1] rfl (by decide),(fun i hi=>by first | rfl | (show (if _ then _ else _) = _; (repeat' split) <;> omega))⟩,(.cons (sv rfl) .nil),rfl⟩
     ·
      replace h:=cF h hc15
      refine aR ?_
      refine bO ?_
      refine aL ?_
      obtain ⟨x17,hx17,h⟩:=aT h
      refine aD (aA rfl (mvR rfl rfl rfl rfl) <|aA rfl (faR 1 rfl rfl rfl Try.underlying23 rfl ti3 (lb rfl) rfl rfl) <|aA rfl (aK (d:=.int _ _) rfl rfl (lb rfl) Try.underlying3 ag3 ti3 (by decide) (svR rfl) rfl (nle rfl) rfl) <|aA rfl (bQ (r':=.int .i64 x17.1) (H1':=[(1000,.blk 60 (mixD aB.toEnc0 (w20 x17.2.1 x17.2.2.1 x17.2.2.2.1 x17.2.2.2.2.1 x17.2.2.2.2.2.1) x17.2.2.2.2.2.2.1 [.int .i64 x17.2.2.2.2.2.2.2.1,.osl 1 (eInt .i64).sz x17.2.2.2.2.2.2.2.2.length])),(1,.blk 3 (D.flat (x17.2.2.2.2.2.2.2.2.map (eInt .i64).d)))]) 1 [1000,1001] rfl rfl (lb rfl) cl21 (.cons (svR rfl) (.cons (svI rfl) .nil)) rfl rfl ⟨rfl,rfl,by decide,rfl,List.forall_mem_cons.2 ⟨⟨rfl,rfl,(fD aB rfl rfl rfl),(bJ aB rfl rfl)⟩,List.forall_mem_cons.2 ⟨⟨rfl,rfl,(eP (eInt .i64) rfl),(bD (eInt .i64))⟩,List.forall_mem_nil _⟩⟩⟩ (kP _ _ _ _ _ _ _ _ _ _ hx17) rfl rfl (List.forall_mem_cons.2 ⟨⟨rfl,(bJ aB rfl rfl)⟩,List.forall_mem_cons.2 ⟨⟨rfl,(bD (eInt .i64))⟩,List.forall_mem_nil _⟩⟩) (by simp only [List.map_cons,List.map_nil,Ent.ren,bE,bK,bS]; rfl)) <|aA rfl (asI rfl rfl rfl rfl) <|aC ?_)
      refine bB ?_
      obtain rfl:=Option.some.inj h
      refine ⟨.inr rfl,(fun i=>if i = 0 then 1 else i),⟨.nil,(.cons (EntW.mix aB rfl (SubC.of_eq rfl) (SubC.of_eq rfl) rfl rfl) (.cons (EntW.lst rfl) .nil)),bA [1000,1] rfl (by decide),(fun i hi=>by first | rfl | (show (if _ then _ else _) = _; (repeat' split) <;> omega))⟩,(.cons (sv rfl) .nil),rfl⟩

theorem kT (a0 : (List Int)) (a1 : Int) (r : Bool) (h : fQ a0 a1 = some r) : fV Try.prog 16 [.slice false (a0.map (eInt .i64).d),.int .i64 a1] (.bool r):=by
 refine dJ (rs:=[.bool r]) Try.func16 rfl Try.ntmps16 (nle rfl) rfl fun O hO=>?_
 show IWP _ _ _ _ ⟨[(0,.slice false (a0.map (eInt .i64).d)),(1,.int .i64 a1)],[]⟩ _
 unfold fQ at h
 refine aD (aA rfl (aG rfl rfl (lb rfl) (sv (d:=.bool false) rfl)) <|aC ?_)
 refine aS ?_
 refine aD (aA rfl (aG rfl rfl (lb rfl) (sv (d:=.int _ 0) rfl)) <|aC ?_)
 refine aZ ?_
 refine cR (α:=Nat × Int) (fun z=>⟨[(0,.slice false (a0.map (eInt .i64).d)),(1,.int .i64 a1),(5,.int .i64 z.2)],[]⟩) (fun z=>eT a0 a1 z.1 z.2 = some r) (fun z=>z.1) (fuel,0) (fun i=>i) ⟨(.sames rfl rfl),.nil,bA [] rfl (by decide),fun _ _=>rfl⟩ ?_ ?_
 ·exact h
 ·
  rintro ⟨n0,v7⟩ h
  cases n0 with
  | zero=>exact absurd h (by unfold eT; exact nofun)
  | succ n0 =>
   unfold eT at h
   refine aS ?_
   obtain ⟨x14,hx14,h⟩:=aX h
   refine aD (aA rfl (mvI rfl rfl rfl rfl) <|aA rfl (mvL rfl rfl rfl rfl) <|aA rfl (eL (eInt .i64) (l:=a0) rfl rfl (lb rfl) Try.underlying24 (svL rfl)) <|aA rfl (aQ rfl rfl (lb rfl) (svI rfl) (svI rfl) rfl hx14) <|aC ?_)
   refine aW (b:=_) rfl (fun hc15=>?_) (fun hc15=>?_)
   ·
    replace h:=cE h hc15
    refine aR ?_
    refine aL ?_
    refine aS ?_
    refine aZ ?_
    obtain ⟨x16,hx16,h⟩:=aT h
    obtain ⟨x17,hx17,h⟩:=aX h
    refine aD (aA rfl (mvL rfl rfl rfl rfl) <|aA rfl (mvI rfl rfl rfl rfl) <|aA rfl (gQ (eInt .i64) (cs:=[.int _ _]) rfl rfl (lb rfl) Try.underlying24 ti3 (svL rfl) (svI rfl) hx16 rfl rfl) <|aA rfl (fY rfl rfl (lb rfl) Try.underlying3 ag3 ti3 (by decide) (sv (d:=.fptr [.int _ _]) rfl) (nle rfl)) <|aA rfl (mvI rfl rfl rfl rfl) <|aA rfl (aQ rfl rfl (lb rfl) (svI rfl) (svI rfl) rfl hx17) <|aC ?_)
    refine aW (b:=_) rfl (fun hc18=>?_) (fun hc18=>?_)
    ·
     replace h:=cE h hc18
     refine aD (aA rfl (aG rfl rfl (lb rfl) (sv (d:=.bool true) rfl)) <|aC ?_)
     refine bB ?_
     refine dY ?_
     refine bR ?_
     refine bR ?_
     refine dY ?_
     refine bR ?_
     obtain rfl:=Option.some.inj h
     refine ⟨.inr rfl,(.cons (sv rfl) .nil)⟩
    ·
     replace h:=cF h hc18
     refine aR ?_
     refine bO ?_
     refine aL ?_
     obtain ⟨x19,hx19,h⟩:=aX h
     refine aV (aA rfl (mvI rfl rfl rfl rfl) <|aA rfl (cO rfl rfl (lb rfl) (svI rfl) (sv (d:=.int _ 1) rfl) rfl hx19) <|aA rfl (asI rfl rfl rfl rfl) <|bM ?_)
     refine aL ⟨(n0,x19),(fun i=>i),⟨(.sames rfl rfl),.nil,bA [] rfl (by decide),fun _ _=>rfl⟩,?_,?_⟩
     exact h
     exact Nat.lt_succ_self _
   ·
    replace h:=cF h hc15
    refine dB ?_
    refine bT ?_
    refine bT ?_
    refine dC ?_
    refine aL ?_
    refine aD (aA rfl (aG rfl rfl (lb rfl) (sv (d:=.bool false) rfl)) <|aC ?_)
    refine bB ?_
    obtain rfl:=Option.some.inj h
    refine ⟨.inr rfl,(.cons (sv rfl) .nil)⟩

theorem mD (a0 : (List cB)) (a1 : (List Int)) (r : Bool) (h : fF a0 a1 = some r) : fV Try.prog 5 [.slice false (a0.map cZ.d), .slice false (a1.map (eInt .i64).d)] (.bool r) := by
 refine dJ (rs:=[.bool r]) Try.func5 rfl Try.ntmps5 (nle rfl) rfl fun O hO=>?_
 show IWP _ _ _ _ ⟨[(0,.slice false (a0.map cZ.d)),(1,.slice false (a1.map (eInt .i64).d))],[]⟩ _
 unfold fF at h
 refine aD (aA rfl (aG rfl rfl (lb rfl) (sv (d:=.bool false) rfl)) <|aC ?_)
 refine aS ?_
 obtain ⟨x1,hx1,h⟩:=aX h
 obtain ⟨x2,hx2,h⟩:=aX h
 obtain ⟨x3,hx3,h⟩:=aX h
 refine aD (aA rfl (mvL rfl rfl rfl rfl) <|aA rfl (eL cZ (l:=a0) rfl rfl (lb rfl) Try.underlying35 (svL rfl)) <|aA rfl (aQ rfl rfl (lb rfl) (svI rfl) (sv (d:=.int _ 60) rfl) rfl hx1) <|aA rfl (mvB rfl rfl rfl rfl) <|aJ rfl rfl (.one rfl) rfl (by decide) (fun hb=>(mvL rfl rfl rfl rfl)) <|aJ rfl rfl (.one rfl) rfl (by decide) (fun hb=>(eL (eInt .i64) (l:=a1) rfl rfl (lb rfl) Try.underlying24 (svcL rfl hb))) <|aJ rfl rfl (.one rfl) rfl (by decide) (fun hb=>(aQ rfl rfl (lb rfl) (svcI rfl hb) (sv (d:=.int _ 40) rfl) rfl hx2)) <|aA rfl (kG rfl rfl (lb rfl) (svB rfl) rfl rfl hx3) <|aC ?_)
 refine aW (b:=_) rfl (fun hc4=>?_) (fun hc4=>?_)
 ·
  replace h:=cE h hc4
  obtain ⟨x5,hx5,h⟩:=aT h
  refine aD (aA rfl (dF (r:=.bool _) rfl rfl (lb rfl) cl7 .nil rfl (lE  _ hx5)) <|aA rfl (asB rfl rfl rfl rfl) <|aC ?_)
  refine bB ?_
  refine bR ?_
  obtain rfl:=Option.some.inj h
  refine ⟨.inr rfl,(.cons (sv rfl) .nil)⟩
 ·
  replace h:=cF h hc4
  refine aR ?_
  refine aL ?_
  refine aD (?_)
  refine eE (S':=⟨[(0,.slice false (a0.map cZ.d)),(1,.slice false (a1.map (eInt .i64).d))],[]⟩) (fun i=>i) ⟨(.sames rfl rfl),.nil,bA [] rfl (by decide),fun _ _=>rfl⟩ ?_
  refine gY 1 0 rfl rfl rfl (by decide) cl15 Try.func15 rfl (.cons (sv (d:=.int _ 24) rfl) (.cons (sv (d:=.int _ 5) rfl) .nil)) Try.ntmps15 (nle rfl) rfl hO.semiL fun O1 hO1=>?_
  show IWP _ _ _ _ ⟨[(0,.int .i64 24),(1,.int .i64 5)],[(0,.kept 1 [.slice false (a0.map cZ.d),.slice false (a1.map (eInt .i64).d),.dead,.dead,.dead,.dead,.dead,.dead,.dead,.dead,.dead,.dead,.dead,.dead,.dead,.dead,.dead,.dead,.dead,.dead,.dead,.dead,.dead,.dead,.dead,.dead,.dead,.dead,.dead,.dead,.dead,.dead,.dead,.dead,.dead,.dead,.dead,.dead,.dead,.dead,.dead,.dead,.dead,.dead,.dead,.dead,.dead,.dead,.dead,.dead,.dead,.dead,.dead,.dead,.dead,.dead,.dead,.dead,.dead,.dead,.dead,.dead,.dead,.dead,.dead,.dead,.dead,.dead,.dead,.dead,.dead,.dead,.dead,.dead,.dead,.dead,.dead,.dead,.dead,.dead,.dead,.dead,.dead,.dead,.dead,.dead,.dead,.dead,.dead,.dead,.dead,.dead,.dead,.dead,.dead,.dead,.dead,.dead,.dead,.dead,.dead,.dead,.dead,.dead,.dead,.dead,.dead,.dead,.dead,.dead,.dead,.dead,.dead,.dead,.dead,.dead,.dead,.dead,.dead,.dead,.dead,.dead,.dead,.dead,.dead,.dead])]⟩ _
  refine aD (aA rfl (aG rfl rfl (lb rfl) (sv (d:=.nilp) rfl)) <|aA rfl (aG rfl rfl (lb rfl) (sv (d:=.int _ 0) rfl)) <|aC ?_)
  refine aS ?_
  obtain ⟨x6,hx6,h⟩:=aT h
  obtain ⟨x7,hx7,h⟩:=aT h
  obtain ⟨x8,hx8,h⟩:=aX h
  refine aD (aA rfl (mvI rfl rfl rfl rfl) <|aA rfl (dF (r:=.bool _) rfl rfl (lb rfl) cl31 (.cons (svI rfl) (.cons (sv (d:=.int _ 1) rfl) (.cons (sv (d:=.int _ 24) rfl) .nil))) rfl (iX _ _ _ _ hx6)) <|aA rfl (fB rfl rfl (lb rfl) (svB rfl)) <|aA rfl (mvB rfl rfl rfl rfl) <|aJ rfl rfl (.one rfl) rfl (by decide) (fun hb=>(mvI rfl rfl rfl rfl)) <|aJ rfl rfl (.one rfl) rfl (by decide) (fun hb=>(mvI rfl rfl rfl rfl)) <|aJ rfl rfl (.one rfl) rfl (by decide) (fun hb=>(dF (r:=.bool _) rfl rfl (lb rfl) cl31 (.cons (svcI rfl hb) (.cons (sv (d:=.int _ 0) rfl) (.cons (svcI rfl hb) .nil))) rfl (iX _ _ _ _ (gd_t hx7 hb)))) <|aJ rfl rfl (.one rfl) rfl (by decide) (fun hb=>(fB rfl rfl (lb rfl) (svcB rfl hb))) <|aA rfl (kG rfl rfl (lb rfl) (svB rfl) rfl rfl hx8) <|aC ?_)
  refine aW (b:=_) rfl (fun hc9=>?_) (fun hc9=>?_)
  ·
   replace h:=cE h hc9
   refine aD (aA rfl (aG rfl rfl (lb rfl) (sv (d:=.nilp) rfl)) <|aA rfl (aG rfl rfl (lb rfl) (sv (d:=.int _ 8) rfl)) <|aC ?_)
   refine bB ?_
   refine bR ?_
   refine ⟨.inr rfl,0,_,[.nilp,.int .i64 8],(.cons (sv rfl) (.cons (sv rfl) .nil)),rfl,rfl,⟨[(0,.slice false (a0.map cZ.d)),(1,.slice false (a1.map (eInt .i64).d)),(26,.tuple [.nilp,.int .i64 8])],[]⟩,(fun i=>i),⟨(.sames rfl rfl),.nil,bA [] rfl (by decide),fun _ _=>rfl⟩,?_⟩
   refine aA rfl (aP rfl rfl (lb rfl) (sv (d:=.tuple [.nilp,.int _ _]) rfl)) <|aA rfl (dK (d:=.nilp) rfl rfl (lb rfl) (sv (d:=.tuple [.nilp,.int _ _]) rfl) rfl) <|aA rfl (dK (d:=.int _ _) rfl rfl (lb rfl) (sv (d:=.tuple [.nilp,.int _ _]) rfl) rfl) <|aA rfl (aG rfl rfl (lb rfl) (sv (d:=.nilp) rfl)) <|aA rfl (asI rfl rfl rfl rfl) <|aC ?_
   refine aS ?_
   obtain ⟨x10,hx10,h⟩:=aX h
   obtain ⟨x11,hx11,h⟩:=aX h
   refine aD (aA rfl (mvI rfl rfl rfl rfl) <|aA rfl (aQ rfl rfl (lb rfl) (svI rfl) (sv (d:=.int _ 0) rfl) rfl hx10) <|aA rfl (mvB rfl rfl rfl rfl) <|aJ rfl rfl (.one rfl) rfl (by decide) (fun hb=>(aP rfl rfl (lb rfl) (sv (d:=.nilp) rfl))) <|aJ rfl rfl (.one rfl) rfl (by decide) (fun hb=>(vL rfl rfl (lb rfl) Try.underlying26 (svc (d:=.nilp) rfl hb) (sv (d:=.nilp) rfl))) <|aA rfl (kG rfl rfl (lb rfl) (svB rfl) rfl rfl hx11) <|aC ?_)
   refine rF rfl (or_tt hx11) ?_
   refine aD (aA rfl (aG rfl rfl (lb rfl) (sv (d:=.bool false) rfl)) <|aC ?_)
   refine bB ?_
   refine bR ?_
   obtain rfl:=Option.some.inj h
   refine ⟨.inr rfl,(.cons (sv rfl) .nil)⟩
  ·
   replace h:=cF h hc9
   refine aR ?_
   refine aL ?_
   obtain ⟨x12,hx12,h⟩:=aT h
   refine aD (aA rfl (mvI rfl rfl rfl rfl) <|aA rfl (mvI rfl rfl rfl rfl) <|aA rfl (dF (r:=.agg q10) rfl rfl (lb rfl) cl32 .nil rfl (nF  _ hx12)) <|aA rfl (cC (cs:=(mixD aB.toEnc0 q7 (List.replicate 64 (⟨0,0,0,0,0,false⟩ : aF) : (List aF)) [.int _ _,.nils])) rfl rfl (lb rfl) Try.underlying60 ti60 pl60 rfl (.cons (svI rfl) (.cons (svI rfl) (.cons (svA q10 rfl) (.cons (sv (d:=.int _ (-1)) rfl) .nil)))) (by kernel_rfl)) <|aA rfl (dV (cs:=(mixD aB.toEnc0 q7 (List.replicate 64 (⟨0,0,0,0,0,false⟩ : aF) : (List aF)) [.int _ _,.nils])) 1 rfl rfl (lb rfl) rfl (sv (d:=.agg (mixD aB.toEnc0 q7 (List.replicate 64 (⟨0,0,0,0,0,false⟩ : aF) : (List aF)) [.int _ _,.nils])) rfl) rfl rfl) <|eE (S':=⟨[(0,.int .i64 24),(1,.int .i64 5),(4,.nilp),(5,.int .i64 0),(6,.int .i64 24),(7,.bool x6),(8,.bool (!x6)),(9,.bool (!x6)),(14,.bool x8),(15,.int .i64 24),(16,.int .i64 5),(17,.agg (v1 x12)),(18,.agg (mixD aB.toEnc0 (w20 24 5 x12.Cells x12.Free x12.Used) (List.replicate 64 (⟨0,0,0,0,0,false⟩ : aF) : (List aF)) [.int .i64 (-1),.nils])),(19,.ref 1 0)],[(2,.blk 3 (D.flat (([] : (List Int)).map (eInt .i64).d))),(0,.kept 1 [.slice false (a0.map cZ.d),.slice false (a1.map (eInt .i64).d),.dead,.dead,.dead,.dead,.dead,.dead,.dead,.dead,.dead,.dead,.dead,.dead,.dead,.dead,.dead,.dead,.dead,.dead,.dead,.dead,.dead,.dead,.dead,.dead,.dead,.dead,.dead,.dead,.dead,.dead,.dead,.dead,.dead,.dead,.dead,.dead,.dead,.dead,.dead,.dead,.dead,.dead,.dead,.dead,.dead,.dead,.dead,.dead,.dead,.dead,.dead,.dead,.dead,.dead,.dead,.dead,.dead,.dead,.dead,.dead,.dead,.dead,.dead,.dead,.dead,.dead,.dead,.dead,.dead,.dead,.dead,.dead,.dead,.dead,.dead,.dead,.dead,.dead,.dead,.dead,.dead,.dead,.dead,.dead,.dead,.dead,.dead,.dead,.dead,.dead,.dead,.dead,.dead,.dead,.dead,.dead,.dead,.dead,.dead,.dead,.dead,.dead,.dead,.dead,.dead,.dead,.dead,.dead,.dead,.dead,.dead,.dead,.dead,.dead,.dead,.dead,.dead,.dead,.dead,.dead,.dead,.dead,.dead,.dead]),(1,.blk 60 (mixD aB.toEnc0 (w20 24 5 x12.Cells x12.Free x12.Used) (List.replicate 64 (⟨0,0,0,0,0,false⟩ : aF) : (List aF)) [.int .i64 (-1),.osl 2 (eInt .i64).sz 0]))]⟩) (fun i=>if i = 2 then 54 else i) ⟨(.sames rfl rfl),(.cons (.nilb rfl) (.cons (.kept rfl rfl rfl) (.cons (EntW.mix aB rfl (SubC.of_eq rfl) (.same (.nilo .nil)) rfl rfl) .nil))),bA [54,0,1] rfl (by decide),(fun i hi=>by first | rfl | (show (if _ then _ else _) = _; (repeat' split) <;> omega))⟩ <|aA rfl (aG rfl rfl (lb rfl) (svR rfl)) <|aA rfl (aG rfl rfl (lb rfl) (sv (d:=.int _ 0) rfl)) <|aC ?_)
   refine bB ?_
   refine ⟨.inr rfl,0,_,[.ref 1 0,.int .i64 0],(.cons (sv rfl) (.cons (sv rfl) .nil)),rfl,rfl,⟨[(0,.slice false (a0.map cZ.d)),(1,.slice false (a1.map (eInt .i64).d)),(26,.tuple [.ref 1 0,.int .i64 0])],[(1,.blk 60 (mixD aB.toEnc0 (w20 24 5 x12.Cells x12.Free x12.Used) (List.replicate 64 (⟨0,0,0,0,0,false⟩ : aF) : (List aF)) [.int .i64 (-1),.osl 2 (eInt .i64).sz 0])),(2,.blk 3 (D.flat (([] : (List Int)).map (eInt .i64).d)))]⟩,(fun i=>i),⟨(.sames rfl rfl),(.cons (EntW.mix aB rfl (SubC.of_eq rfl) (SubC.of_eq rfl) rfl rfl) (.cons (EntW.lst rfl) .nil)),bA [1,2] rfl (by decide),fun _ _=>rfl⟩,?_⟩
   refine aA rfl (aP rfl rfl (lb rfl) (sv (d:=.tuple q17) rfl)) <|aA rfl (dK (d:=.ref _ _) rfl rfl (lb rfl) (sv (d:=.tuple q17) rfl) rfl) <|aA rfl (dK (d:=.int _ _) rfl rfl (lb rfl) (sv (d:=.tuple q17) rfl) rfl) <|aA rfl (aG rfl rfl (lb rfl) (svR rfl)) <|aA rfl (asI rfl rfl rfl rfl) <|aC ?_
   refine aS ?_
   obtain ⟨x13,hx13,h⟩:=aX h
   obtain ⟨x14,hx14,h⟩:=aX h
   refine aD (aA rfl (mvI rfl rfl rfl rfl) <|aA rfl (aQ rfl rfl (lb rfl) (svI rfl) (sv (d:=.int _ 0) rfl) rfl hx13) <|aA rfl (mvB rfl rfl rfl rfl) <|aJ rfl rfl (.one rfl) rfl (by decide) (fun hb=>(mvR rfl rfl rfl rfl)) <|aJ rfl rfl (.one rfl) rfl (by decide) (fun hb=>(kV rfl rfl (lb rfl) Try.underlying26 (svcR rfl hb) (sv (d:=.nilp) rfl))) <|aA rfl (kG rfl rfl (lb rfl) (svB rfl) rfl rfl hx14) <|aC ?_)
   refine aW (b:=_) rfl (fun hc15=>?_) (fun hc15=>?_)
   ·
    replace h:=cE h hc15
    refine aD (aA rfl (aG rfl rfl (lb rfl) (sv (d:=.bool false) rfl)) <|aC ?_)
    refine bB ?_
    refine bR ?_
    obtain rfl:=Option.some.inj h
    refine ⟨.inr rfl,(.cons (sv rfl) .nil)⟩
   ·
    replace h:=cF h hc15
    refine aR ?_
    refine aL ?_
    refine aS ?_
    refine aD (aA rfl (aG rfl rfl (lb rfl) (sv (d:=.int _ 0) rfl)) <|aC ?_)
    refine aZ ?_
    refine cR (α:=Nat × Int × Int × Int × (List aH) × Int × Int × (List aF) × Int × (List Int)) (fun z=>⟨[(0,.slice false (a0.map cZ.d)),(1,.slice false (a1.map (eInt .i64).d)),(5,.ref 1 0),(7,.int .i64 z.2.1)],[(1,.blk 60 (mixD aB.toEnc0 (w20 z.2.2.1 z.2.2.2.1 z.2.2.2.2.1 z.2.2.2.2.2.1 z.2.2.2.2.2.2.1) z.2.2.2.2.2.2.2.1 [.int .i64 z.2.2.2.2.2.2.2.2.1,.osl 2 (eInt .i64).sz z.2.2.2.2.2.2.2.2.2.length])),(2,.blk 3 (D.flat (z.2.2.2.2.2.2.2.2.2.map (eInt .i64).d)))]⟩) (fun z=>cU a0 a1 z.1 z.2.1 z.2.2.1 z.2.2.2.1 z.2.2.2.2.1 z.2.2.2.2.2.1 z.2.2.2.2.2.2.1 z.2.2.2.2.2.2.2.1 z.2.2.2.2.2.2.2.2.1 z.2.2.2.2.2.2.2.2.2 = some r) (fun z=>z.1) (fuel,0,24,5,x12.Cells,x12.Free,x12.Used,(List.replicate 64 (⟨0,0,0,0,0,false⟩ : aF) : (List aF)),(-1),([] : (List Int))) (fun i=>i) ⟨(.sames rfl rfl),(.cons (EntW.mix aB rfl (SubC.of_eq rfl) (SubC.of_eq rfl) rfl rfl) (.cons (EntW.lst rfl) .nil)),bA [1,2] rfl (by decide),fun _ _=>rfl⟩ ?_ ?_
    ·exact h
    ·
     rintro ⟨n0,v21,v22,v23,v24,v25,v26,v27,v28,v29⟩ h
     cases n0 with
     | zero=>exact absurd h (by unfold cU; exact nofun)
     | succ n0 =>
      unfold cU at h
      refine aS ?_
      obtain ⟨x35,hx35,h⟩:=aX h
      refine aD (aA rfl (mvI rfl rfl rfl rfl) <|aA rfl (mvL rfl rfl rfl rfl) <|aA rfl (eL cZ (l:=a0) rfl rfl (lb rfl) Try.underlying35 (svL rfl)) <|aA rfl (aQ rfl rfl (lb rfl) (svI rfl) (svI rfl) rfl hx35) <|aC ?_)
      refine aW (b:=_) rfl (fun hc36=>?_) (fun hc36=>?_)
      ·
       replace h:=cE h hc36
       refine aR ?_
       refine aL ?_
       refine aS ?_
       refine aZ ?_
       obtain ⟨x37,hx37,h⟩:=aT h
       obtain ⟨x38,hx38,h⟩:=aT h
       refine aV (aA rfl (mvR rfl rfl rfl rfl) <|aA rfl (mvL rfl rfl rfl rfl) <|aA rfl (mvI rfl rfl rfl rfl) <|aA rfl (gQ cZ (cs:=q8) rfl rfl (lb rfl) Try.underlying35 ti23 (svL rfl) (svI rfl) hx37 rfl rfl) <|aA rfl (jL (cs:=q8) rfl rfl (lb rfl) Try.underlying23 ag23 ti23 (by decide) (sv (d:=.fptr q8) rfl) (nle rfl) rfl) <|aA rfl (bQ (r':=.int .i64 x38.1) (H1':=[(1,.blk 60 (mixD aB.toEnc0 (w20 x38.2.1 x38.2.2.1 x38.2.2.2.1 x38.2.2.2.2.1 x38.2.2.2.2.2.1) x38.2.2.2.2.2.2.1 [.int .i64 x38.2.2.2.2.2.2.2.1,.osl 3 (eInt .i64).sz x38.2.2.2.2.2.2.2.2.length])),(3,.blk 3 (D.flat (x38.2.2.2.2.2.2.2.2.map (eInt .i64).d)))]) 3 [1,2] rfl rfl (lb rfl) cl8 (.cons (svR rfl) (.cons (svA q8 rfl) .nil)) rfl rfl ⟨rfl,rfl,by decide,rfl,List.forall_mem_cons.2 ⟨⟨rfl,rfl,(fD aB rfl rfl rfl),(bJ aB rfl rfl)⟩,List.forall_mem_cons.2 ⟨⟨rfl,rfl,(eP (eInt .i64) rfl),(bD (eInt .i64))⟩,List.forall_mem_nil _⟩⟩⟩ (nR _ _ _ _ _ _ _ _ _ _ hx38) rfl rfl (List.forall_mem_cons.2 ⟨⟨rfl,(bJ aB rfl rfl)⟩,List.forall_mem_cons.2 ⟨⟨rfl,(bD (eInt .i64))⟩,List.forall_mem_nil _⟩⟩) (by simp only [List.map_cons,List.map_nil,Ent.ren,bE,bK,bS]; rfl)) <|bM ?_)
       refine bO ?_
       refine aL ?_
       obtain ⟨x39,hx39,h⟩:=aX h
       refine aV (aA rfl (mvI rfl rfl rfl rfl) <|aA rfl (cO rfl rfl (lb rfl) (svI rfl) (sv (d:=.int _ 1) rfl) rfl hx39) <|aA rfl (asI rfl rfl rfl rfl) <|bM ?_)
       refine aL ⟨(n0,x39,x38.2.1,x38.2.2.1,x38.2.2.2.1,x38.2.2.2.2.1,x38.2.2.2.2.2.1,x38.2.2.2.2.2.2.1,x38.2.2.2.2.2.2.2.1,x38.2.2.2.2.2.2.2.2),(fun i=>if i = 2 then 3 else i),⟨(.sames rfl rfl),(.cons (EntW.mix aB rfl (SubC.of_eq rfl) (SubC.of_eq rfl) rfl rfl) (.cons (EntW.lst rfl) .nil)),bA [1,3] rfl (by decide),(fun i hi=>by first | rfl | (show (if _ then _ else _) = _; (repeat' split) <;> omega))⟩,?_,?_⟩
       exact h
       exact Nat.lt_succ_self _
      ·
       replace h:=cF h hc36
       refine dB ?_
       refine bT ?_
       refine bT ?_
       refine dC ?_
       refine aL ?_
       obtain ⟨x40,hx40,h⟩:=aT h
       refine aD (aA rfl (mvR rfl rfl rfl rfl) <|aA rfl (mvL rfl rfl rfl rfl) <|aA rfl (bQ (r':=.osl 3 (eInt .i64).sz x40.length) (H1':=[(1,.blk 60 (mixD aB.toEnc0 (w20 v22 v23 v24 v25 v26) v27 [.int .i64 v28,.osl 2 (eInt .i64).sz v29.length])),(2,.blk 3 (D.flat (v29.map (eInt .i64).d))),(3,.blk 3 (D.flat (x40.map (eInt .i64).d)))]) 3 [1,2] rfl rfl (lb rfl) cl13 (.cons (svR rfl) (.cons (svL rfl) .nil)) rfl rfl ⟨rfl,rfl,by decide,rfl,List.forall_mem_cons.2 ⟨⟨rfl,rfl,(fD aB rfl rfl rfl),(bJ aB rfl rfl)⟩,List.forall_mem_cons.2 ⟨⟨rfl,rfl,(eP (eInt .i64) rfl),(bD (eInt .i64))⟩,List.forall_mem_nil _⟩⟩⟩ (jD _ _ _ _ _ _ _ _ _ _ hx40) rfl rfl (List.forall_mem_cons.2 ⟨⟨rfl,(bJ aB rfl rfl)⟩,List.forall_mem_cons.2 ⟨⟨rfl,(bD (eInt .i64))⟩,List.forall_mem_cons.2 ⟨⟨rfl,(bD (eInt .i64))⟩,List.forall_mem_nil _⟩⟩⟩) (by simp only [List.map_cons,List.map_nil,Ent.ren,bE,bK,bS]; rfl)) <|aA rfl (aG rfl rfl (lb rfl) (sv (d:=.osl _ _ _) rfl)) <|aC ?_)
       obtain ⟨x41,hx41,h⟩:=aT h
       refine aD (aA rfl (mvR rfl rfl rfl rfl) <|aA rfl (bQ (r':=.osl 4 aM.sz x41.length) (H1':=[(1,.blk 60 (mixD aB.toEnc0 (w20 v22 v23 v24 v25 v26) v27 [.int .i64 v28,.osl 2 (eInt .i64).sz v29.length])),(2,.blk 3 (D.flat (v29.map (eInt .i64).d))),(4,.blk 40 (D.flat (x41.map aM.d)))]) 4 [1,2] rfl rfl (lb rfl) cl9 (.cons (svR rfl) .nil) rfl rfl ⟨rfl,rfl,by decide,rfl,List.forall_mem_cons.2 ⟨⟨rfl,rfl,(fD aB rfl rfl rfl),(bJ aB rfl rfl)⟩,List.forall_mem_cons.2 ⟨⟨rfl,rfl,(eP (eInt .i64) rfl),(bD (eInt .i64))⟩,List.forall_mem_nil _⟩⟩⟩ (kX _ _ _ _ _ _ _ _ _ hx41) rfl rfl (List.forall_mem_cons.2 ⟨⟨rfl,(bJ aB rfl rfl)⟩,List.forall_mem_cons.2 ⟨⟨rfl,(bD (eInt .i64))⟩,List.forall_mem_cons.2 ⟨⟨rfl,(bD aM)⟩,List.forall_mem_nil _⟩⟩⟩) (by simp only [List.map_cons,List.map_nil,Ent.ren,bE,bK,bS]; rfl)) <|aA rfl (aG rfl rfl (lb rfl) (sv (d:=.osl _ _ _) rfl)) <|aC ?_)
       refine aS ?_
       refine aD (aA rfl (aG rfl rfl (lb rfl) (sv (d:=.int _ 0) rfl)) <|aC ?_)
       refine aZ ?_
       refine cR (α:=Nat × Int) (fun z=>⟨[(1,.slice false (a1.map (eInt .i64).d)),(5,.ref 1 0),(8,.osl 3 (eInt .i64).sz x40.length),(9,.osl 4 aM.sz x41.length),(10,.int .i64 z.2)],[(1,.blk 60 (mixD aB.toEnc0 (w20 v22 v23 v24 v25 v26) v27 [.int .i64 v28,.osl 2 (eInt .i64).sz v29.length])),(3,.blk 3 (D.flat (x40.map (eInt .i64).d))),(4,.blk 40 (D.flat (x41.map aM.d))),(2,.blk 3 (D.flat (v29.map (eInt .i64).d)))]⟩) (fun z=>bY a1 v22 v23 v24 v25 v26 v27 v28 v29 x40 x41 z.1 z.2 = some r) (fun z=>z.1) (fuel,0) (fun i=>i) ⟨(.sames rfl rfl),(.cons (EntW.mix aB rfl (SubC.of_eq rfl) (SubC.of_eq rfl) rfl rfl) (.cons (EntW.lst rfl) (.cons (EntW.lst rfl) (.cons (EntW.lst rfl) .nil)))),bA [1,3,4,2] rfl (by decide),fun _ _=>rfl⟩ ?_ ?_
       ·exact h
       ·
        rintro ⟨n1,v96⟩ h
        cases n1 with
        | zero=>exact absurd h (by unfold bY; exact nofun)
        | succ n1 =>
         unfold bY at h
         refine aS ?_
         obtain ⟨x151,hx151,h⟩:=aX h
         refine aD (aA rfl (mvI rfl rfl rfl rfl) <|aA rfl (aP rfl rfl (lb rfl) (sv (d:=.osl _ _ _) rfl)) <|aA rfl (iY rfl rfl (lb rfl) Try.underlying28 (sv (d:=.osl _ _ _) rfl)) <|aA rfl (aQ rfl rfl (lb rfl) (svI rfl) (svI rfl) rfl hx151) <|aC ?_)
         refine aW (b:=_) rfl (fun hc152=>?_) (fun hc152=>?_)
         ·
          replace h:=cE h hc152
          refine aR ?_
          refine aL ?_
          refine aS ?_
          refine aZ ?_
          obtain ⟨x153,hx153,h⟩:=aT h
          obtain ⟨x154,hx154,h⟩:=aT h
          obtain ⟨x155,hx155,h⟩:=aT h
          refine aD (aA rfl (mvR rfl rfl rfl rfl) <|aA rfl (aP rfl rfl (lb rfl) (sv (d:=.osl _ _ _) rfl)) <|aA rfl (mvI rfl rfl rfl rfl) <|aA rfl (gR aM.toEnc0 rfl rfl (lb rfl) Try.underlying28 ti40 (sv (d:=.osl _ _ _) rfl) rfl (svI rfl) hx153) <|aA rfl (lM rfl rfl (lb rfl) Try.underlying40 rfl ti3 (by decide) (svR rfl) (k':=0) rfl) <|aA rfl (fN aM.toEnc0 (d:=.int _ _) rfl rfl (lb rfl) Try.underlying3 ag3 ti3 (by decide) (svR rfl) rfl hx154 (nle rfl) rfl) <|aA rfl (bQ (r':=.osl 5 (eInt .i64).sz x155.length) (H1':=[(1,.blk 60 (mixD aB.toEnc0 (w20 v22 v23 v24 v25 v26) v27 [.int .i64 v28,.osl 2 (eInt .i64).sz v29.length])),(2,.blk 3 (D.flat (v29.map (eInt .i64).d))),(5,.blk 3 (D.flat (x155.map (eInt .i64).d)))]) 5 [1,2] rfl rfl (lb rfl) cl11 (.cons (svR rfl) (.cons (svI rfl) .nil)) rfl rfl ⟨rfl,rfl,by decide,rfl,List.forall_mem_cons.2 ⟨⟨rfl,rfl,(fD aB rfl rfl rfl),(bJ aB rfl rfl)⟩,List.forall_mem_cons.2 ⟨⟨rfl,rfl,(eP (eInt .i64) rfl),(bD (eInt .i64))⟩,List.forall_mem_nil _⟩⟩⟩ (lG _ _ _ _ _ _ _ _ _ _ hx155) rfl rfl (List.forall_mem_cons.2 ⟨⟨rfl,(bJ aB rfl rfl)⟩,List.forall_mem_cons.2 ⟨⟨rfl,(bD (eInt .i64))⟩,List.forall_mem_cons.2 ⟨⟨rfl,(bD (eInt .i64))⟩,List.forall_mem_nil _⟩⟩⟩) (by simp only [List.map_cons,List.map_nil,Ent.ren,bE,bK,bS]; rfl)) <|aA rfl (aG rfl rfl (lb rfl) (sv (d:=.osl _ _ _) rfl)) <|aC ?_)
          refine aD (aA rfl (aG rfl rfl (lb rfl) (sv (d:=.int _ 0) rfl)) <|aC ?_)
          refine aS ?_
          refine aD (aA rfl (aG rfl rfl (lb rfl) (sv (d:=.int _ 0) rfl)) <|aC ?_)
          refine aZ ?_
          refine cR (α:=Nat × Int × Int) (fun z=>⟨[(1,.slice false (a1.map (eInt .i64).d)),(5,.ref 1 0),(8,.osl 3 (eInt .i64).sz x40.length),(9,.osl 4 aM.sz x41.length),(10,.int .i64 v96),(11,.osl 5 (eInt .i64).sz x155.length),(12,.int .i64 z.2.1),(13,.int .i64 z.2.2)],[(1,.blk 60 (mixD aB.toEnc0 (w20 v22 v23 v24 v25 v26) v27 [.int .i64 v28,.osl 2 (eInt .i64).sz v29.length])),(3,.blk 3 (D.flat (x40.map (eInt .i64).d))),(4,.blk 40 (D.flat (x41.map aM.d))),(5,.blk 3 (D.flat (x155.map (eInt .i64).d))),(2,.blk 3 (D.flat (v29.map (eInt .i64).d)))]⟩) (fun z=>cL a1 x40 x41 v96 (bY a1 v22 v23 v24 v25 v26 v27 v28 v29 x40 x41 n1) x155 z.1 z.2.1 z.2.2 = some r) (fun z=>z.1) (fuel,0,0) (fun i=>i) ⟨(.sames rfl rfl),(.cons (EntW.mix aB rfl (SubC.of_eq rfl) (SubC.of_eq rfl) rfl rfl) (.cons (EntW.lst rfl) (.cons (EntW.lst rfl) (.cons (EntW.lst rfl) (.cons (EntW.lst rfl) .nil))))),bA [1,3,4,5,2] rfl (by decide),fun _ _=>rfl⟩ ?_ ?_
          ·exact h
          ·
           rintro ⟨n2,v165,v166⟩ h
           cases n2 with
           | zero=>exact absurd h (by unfold cL; exact nofun)
           | succ n2 =>
            unfold cL at h
            refine aS ?_
            obtain ⟨x176,hx176,h⟩:=aX h
            refine aD (aA rfl (mvI rfl rfl rfl rfl) <|aA rfl (aP rfl rfl (lb rfl) (sv (d:=.osl _ _ _) rfl)) <|aA rfl (iY rfl rfl (lb rfl) Try.underlying24 (sv (d:=.osl _ _ _) rfl)) <|aA rfl (aQ rfl rfl (lb rfl) (svI rfl) (svI rfl) rfl hx176) <|aC ?_)
            refine aW (b:=_) rfl (fun hc177=>?_) (fun hc177=>?_)
            ·
             replace h:=cE h hc177
             refine aR ?_
             refine aL ?_
             refine aS ?_
             refine aZ ?_
             obtain ⟨x178,hx178,h⟩:=aT h
             obtain ⟨x179,hx179,h⟩:=aT h
             obtain ⟨x180,hx180,h⟩:=aT h
             refine aD (aA rfl (aP rfl rfl (lb rfl) (sv (d:=.osl _ _ _) rfl)) <|aA rfl (aP rfl rfl (lb rfl) (sv (d:=.osl _ _ _) rfl)) <|aA rfl (mvI rfl rfl rfl rfl) <|aA rfl (gR (eInt .i64).toEnc0 rfl rfl (lb rfl) Try.underlying24 ti3 (sv (d:=.osl _ _ _) rfl) rfl (svI rfl) hx178) <|aA rfl (fN (eInt .i64).toEnc0 (d:=.int _ _) rfl rfl (lb rfl) Try.underlying3 ag3 ti3 (by decide) (svR rfl) rfl hx179 (nle rfl) rfl) <|aA rfl (iO (r:=.bool x180) rfl rfl (lb rfl) cl16 (.cons (sv (d:=.osl _ _ _) rfl) (.cons (svI rfl) .nil)) (.cons (FDT (eInt .i64) rfl rfl) (.all _)) rfl rfl (kT _ _ _ hx180)) <|aC ?_)
             refine aW (b:=_) rfl (fun hc181=>?_) (fun hc181=>?_)
             ·
              replace h:=cE h hc181
              obtain ⟨x182,hx182,h⟩:=aX h
              refine aV (aA rfl (mvI rfl rfl rfl rfl) <|aA rfl (cO rfl rfl (lb rfl) (svI rfl) (sv (d:=.int _ 1) rfl) rfl hx182) <|aA rfl (asI rfl rfl rfl rfl) <|bM ?_)
              refine bO ?_
              refine aL ?_
              obtain ⟨x183,hx183,h⟩:=aX h
              refine aV (aA rfl (mvI rfl rfl rfl rfl) <|aA rfl (cO rfl rfl (lb rfl) (svI rfl) (sv (d:=.int _ 1) rfl) rfl hx183) <|aA rfl (asI rfl rfl rfl rfl) <|bM ?_)
              refine aL ⟨(n2,x182,x183),(fun i=>i),⟨(.sames rfl rfl),(.cons (EntW.mix aB rfl (SubC.of_eq rfl) (SubC.of_eq rfl) rfl rfl) (.cons (EntW.lst rfl) (.cons (EntW.lst rfl) (.cons (EntW.lst rfl) (.cons (EntW.lst rfl) .nil))))),bA [1,3,4,5,2] rfl (by decide),fun _ _=>rfl⟩,?_,?_⟩
              exact h
              exact Nat.lt_succ_self _
             ·
              replace h:=cF h hc181
              refine aR ?_
              refine bO ?_
              refine aL ?_
              obtain ⟨x184,hx184,h⟩:=aX h
              refine aV (aA rfl (mvI rfl rfl rfl rfl) <|aA rfl (cO rfl rfl (lb rfl) (svI rfl) (sv (d:=.int _ 1) rfl) rfl hx184) <|aA rfl (asI rfl rfl rfl rfl) <|bM ?_)
              refine aL ⟨(n2,v165,x184),(fun i=>i),⟨(.sames rfl rfl),(.cons (EntW.mix aB rfl (SubC.of_eq rfl) (SubC.of_eq rfl) rfl rfl) (.cons (EntW.lst rfl) (.cons (EntW.lst rfl) (.cons (EntW.lst rfl) (.cons (EntW.lst rfl) .nil))))),bA [1,3,4,5,2] rfl (by decide),fun _ _=>rfl⟩,?_,?_⟩
              exact h
              exact Nat.lt_succ_self _
            ·
             replace h:=cF h hc177
             refine dB ?_
             refine bT ?_
             refine bT ?_
             refine dC ?_
             refine aL ?_
             obtain ⟨x185,hx185,h⟩:=aT h
             obtain ⟨x186,hx186,h⟩:=aT h
             obtain ⟨x187,hx187,h⟩:=aT h
             obtain ⟨x188,hx188,h⟩:=aT h
             obtain ⟨x189,hx189,h⟩:=aT h
             obtain ⟨x190,hx190,h⟩:=aX h
             refine aD (aA rfl (mvL rfl rfl rfl rfl) <|aA rfl (aP rfl rfl (lb rfl) (sv (d:=.osl _ _ _) rfl)) <|aA rfl (mvI rfl rfl rfl rfl) <|aA rfl (gR aM.toEnc0 rfl rfl (lb rfl) Try.underlying28 ti40 (sv (d:=.osl _ _ _) rfl) rfl (svI rfl) hx185) <|aA rfl (lM rfl rfl (lb rfl) Try.underlying40 rfl ti3 (by decide) (svR rfl) (k':=0) rfl) <|aA rfl (fN aM.toEnc0 (d:=.int _ _) rfl rfl (lb rfl) Try.underlying3 ag3 ti3 (by decide) (svR rfl) rfl hx186 (nle rfl) rfl) <|aA rfl (dF (r:=.bool _) rfl rfl (lb rfl) cl16 (.cons (svL rfl) (.cons (svI rfl) .nil)) rfl (kT _ _ _ hx187)) <|aA rfl (mvB rfl rfl rfl rfl) <|aJ rfl rfl (.one rfl) rfl (by decide) (fun hb=>(aP rfl rfl (lb rfl) (sv (d:=.osl _ _ _) rfl))) <|aJ rfl rfl (.one rfl) rfl (by decide) (fun hb=>(mvI rfl rfl rfl rfl)) <|aJ rfl rfl (.one rfl) rfl (by decide) (fun hb=>(gR aM.toEnc0 rfl rfl (lb rfl) Try.underlying28 ti40 (svc (d:=.osl _ _ _) rfl hb) rfl (svcI rfl hb) (gd_t hx188 hb))) <|aJ rfl rfl (.one rfl) rfl (by decide) (fun hb=>(lM rfl rfl (lb rfl) Try.underlying40 rfl ti4 (by decide) (svcR rfl hb) (k':=3) rfl)) <|aJ rfl rfl (.one rfl) rfl (by decide) (fun hb=>(fN aM.toEnc0 (d:=.bool _) rfl rfl (lb rfl) Try.underlying4 ag4 ti4 (by decide) (svcR rfl hb) rfl (gd_t hx189 hb) (nle rfl) rfl)) <|aJ rfl rfl (.one rfl) rfl (by decide) (fun hb=>(fB rfl rfl (lb rfl) (svcB rfl hb))) <|aA rfl (cD rfl rfl (lb rfl) (svB rfl) rfl rfl hx190) <|aA rfl (asB rfl rfl rfl rfl) <|aC ?_)
             obtain ⟨x191,hx191,h⟩:=aT h
             obtain ⟨x192,hx192,h⟩:=aT h
             obtain ⟨x193,hx193,h⟩:=aT h
             refine aD (aA rfl (aP rfl rfl (lb rfl) (sv (d:=.osl _ _ _) rfl)) <|aA rfl (aP rfl rfl (lb rfl) (sv (d:=.osl _ _ _) rfl)) <|aA rfl (mvI rfl rfl rfl rfl) <|aA rfl (gR aM.toEnc0 rfl rfl (lb rfl) Try.underlying28 ti40 (sv (d:=.osl _ _ _) rfl) rfl (svI rfl) hx191) <|aA rfl (lM rfl rfl (lb rfl) Try.underlying40 rfl ti3 (by decide) (svR rfl) (k':=0) rfl) <|aA rfl (fN aM.toEnc0 (d:=.int _ _) rfl rfl (lb rfl) Try.underlying3 ag3 ti3 (by decide) (svR rfl) rfl hx192 (nle rfl) rfl) <|aA rfl (iO (r:=.bool x193) rfl rfl (lb rfl) cl16 (.cons (sv (d:=.osl _ _ _) rfl) (.cons (svI rfl) .nil)) (.cons (FDT (eInt .i64) rfl rfl) (.all _)) rfl rfl (kT _ _ _ hx193)) <|aA rfl (asB rfl rfl rfl rfl) <|aC ?_)
             obtain ⟨x194,hx194,h⟩:=aX h
             obtain ⟨x195,hx195,h⟩:=aX h
             obtain ⟨x196,hx196,h⟩:=aX h
             obtain ⟨x197,hx197,h⟩:=aX h
             obtain ⟨x198,hx198,h⟩:=aX h
             obtain ⟨x199,hx199,h⟩:=aX h
             obtain ⟨x200,hx200,h⟩:=aX h
             obtain ⟨x201,hx201,h⟩:=aX h
             obtain ⟨x202,hx202,h⟩:=aX h
             refine aD (aA rfl (mvB rfl rfl rfl rfl) <|aA rfl (mvB rfl rfl rfl rfl) <|aJ rfl rfl (.one rfl) rfl (by decide) (fun hb=>(mvB rfl rfl rfl rfl)) <|aJ rfl rfl (.one rfl) rfl (by decide) (fun hb=>(fB rfl rfl (lb rfl) (svcB rfl hb))) <|aJ rfl rfl (.one rfl) rfl (by decide) (fun hb=>(aP rfl rfl (lb rfl) (svcB rfl hb))) <|aJ rfl rfl (.two rfl) rfl (by decide) (fun hb=>(mvI rfl rfl rfl rfl)) <|aJ rfl rfl (.two rfl) rfl (by decide) (fun hb=>(aQ rfl rfl (lb rfl) (svcI rfl hb) (sv (d:=.int _ 0) rfl) rfl hx194)) <|aJ rfl rfl (.one rfl) rfl (by decide) (fun hb=>(zX rfl rfl (lb rfl) hb (svcB rfl hb) rfl rfl hx195)) <|aA rfl (cD rfl rfl (lb rfl) (svB rfl) rfl rfl hx196) <|aA rfl (mvB rfl rfl rfl rfl) <|aJ rfl rfl (.one rfl) rfl (by decide) (fun hb=>(mvB rfl rfl rfl rfl)) <|aJ rfl rfl (.one rfl) rfl (by decide) (fun hb=>(aP rfl rfl (lb rfl) (svcB rfl hb))) <|aJ rfl rfl (.two rfl) rfl (by decide) (fun hb=>(mvB rfl rfl rfl rfl)) <|aJ rfl rfl (.two rfl) rfl (by decide) (fun hb=>(fB rfl rfl (lb rfl) (svcB rfl hb))) <|aJ rfl rfl (.one rfl) rfl (by decide) (fun hb=>(tL rfl rfl (lb rfl) hb (svcB rfl hb) rfl rfl hx197)) <|aJ rfl rfl (.one rfl) rfl (by decide) (fun hb=>(aP rfl rfl (lb rfl) (svcB rfl hb))) <|aJ rfl rfl (.two rfl) rfl (by decide) (fun hb=>(mvI rfl rfl rfl rfl)) <|aJ rfl rfl (.two rfl) rfl (by decide) (fun hb=>(aQ rfl rfl (lb rfl) (svcI rfl hb) (sv (d:=.int _ 0) rfl) rfl hx198)) <|aJ rfl rfl (.one rfl) rfl (by decide) (fun hb=>(tL rfl rfl (lb rfl) hb (svcB rfl hb) rfl rfl hx199)) <|aA rfl (kG rfl rfl (lb rfl) (svB rfl) rfl rfl hx200) <|aA rfl (mvB rfl rfl rfl rfl) <|aJ rfl rfl (.one rfl) rfl (by decide) (fun hb=>(mvI rfl rfl rfl rfl)) <|aJ rfl rfl (.one rfl) rfl (by decide) (fun hb=>(aQ rfl rfl (lb rfl) (svcI rfl hb) (sv (d:=.int _ 1) rfl) rfl hx201)) <|aA rfl (kG rfl rfl (lb rfl) (svB rfl) rfl rfl hx202) <|aC ?_)
             refine aW (b:=_) rfl (fun hc203=>?_) (fun hc203=>?_)
             ·
              replace h:=cE h hc203
              refine aD (aA rfl (aG rfl rfl (lb rfl) (sv (d:=.bool false) rfl)) <|aC ?_)
              refine bB ?_
              refine dY ?_
              refine bR ?_
              refine bR ?_
              refine dY ?_
              refine bR ?_
              obtain rfl:=Option.some.inj h
              refine ⟨.inr rfl,(.cons (sv rfl) .nil)⟩
             ·
              replace h:=cF h hc203
              refine aR ?_
              refine bO ?_
              refine aL ?_
              obtain ⟨x204,hx204,h⟩:=aX h
              refine aV (aA rfl (mvI rfl rfl rfl rfl) <|aA rfl (cO rfl rfl (lb rfl) (svI rfl) (sv (d:=.int _ 1) rfl) rfl hx204) <|aA rfl (asI rfl rfl rfl rfl) <|bM ?_)
              refine aL ⟨(n1,x204),(fun i=>i),⟨(.sames rfl rfl),(.cons (EntW.mix aB rfl (SubC.of_eq rfl) (SubC.of_eq rfl) rfl rfl) (.cons (EntW.lst rfl) (.cons (EntW.lst rfl) (.cons (EntW.lst rfl) .nil)))),bA [1,3,4,2] rfl (by decide),fun _ _=>rfl⟩,?_,?_⟩
              exact h
              exact Nat.lt_succ_self _
         ·
          replace h:=cF h hc152
          refine dB ?_
          refine bT ?_
          refine bT ?_
          refine dC ?_
          refine aL ?_
          obtain ⟨x205,hx205,h⟩:=aT h
          refine aD (aA rfl (dF (r:=.bool _) rfl rfl (lb rfl) cl7 .nil rfl (lE  _ hx205)) <|aA rfl (asB rfl rfl rfl rfl) <|aC ?_)
          refine bB ?_
          obtain rfl:=Option.some.inj h
          refine ⟨.inr rfl,(.cons (sv rfl) .nil)⟩

end Go.Proofs.Ytdnjagkihgjpcaa
