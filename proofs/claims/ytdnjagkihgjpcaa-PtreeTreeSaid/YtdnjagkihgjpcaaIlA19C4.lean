/-
  A part of the proof: rules and plain facts. No condition.
-/
import Derived.Test.YtdnjagkihgjpcaaProg
import Derived.KernelRfl
import Derived.Test.YtdnjagkihgjpcaaIlBd
import Derived.Test.YtdnjagkihgjpcaaIlA19D
import Derived.Test.YtdnjagkihgjpcaaIlIt19
import Derived.Test.YtdnjagkihgjpcaaIlA19C3
set_option linter.all false
set_option maxRecDepth 8000
set_option maxHeartbeats 2000000
open Go Go.IL Go.Fn Go.Proofs
namespace Go.Proofs.Ytdnjagkihgjpcaa
theorem ti23 : TI Try.prog 23 (some (.agg #[.int .u8 0,.int .i64 0,.int .i64 0,.int .i64 0,.bool false])) 5 40:=by unfold TI; kernel_rfl
theorem ag23 : hM Try.prog 23 = true:=by kernel_rfl
theorem cl7 : bN Try.prog 7:=⟨Try.f7,Try.func7,rfl,rfl⟩
theorem cl8 : bN Try.prog 8:=⟨Try.f8,Try.func8,rfl,rfl⟩
theorem cl16 : bN Try.prog 16:=⟨Try.f16,Try.func16,rfl,rfl⟩
theorem nR (a0 : cC) (a1 : Int) (a2 : Int) (a3 : (List aH)) (a4 : Int) (a5 : Int) (a6 : (List aF)) (a7 : Int) (a8 : (List Int)) (r : (Int × Int × Int × (List aH) × Int × Int × (List aF) × Int × (List Int))) (h : iP a0 a1 a2 a3 a4 a5 a6 a7 a8 = some r) : FnH Try.prog 8 [.ref 1000 0,.agg (v0 a0)] [(1000,.blk 60 (mixD aB.toEnc0 (w20 a1 a2 a3 a4 a5) a6 [.int .i64 a7,.osl 1001 (eInt .i64).sz a8.length])),(1001,.blk 3 (D.flat (a8.map (eInt .i64).d)))] (.int .i64 r.1) [(1000,.blk 60 (mixD aB.toEnc0 (w20 r.2.1 r.2.2.1 r.2.2.2.1 r.2.2.2.2.1 r.2.2.2.2.2.1) r.2.2.2.2.2.2.1 [.int .i64 r.2.2.2.2.2.2.2.1,.osl 0 (eInt .i64).sz r.2.2.2.2.2.2.2.2.length])),(0,.blk 3 (D.flat (r.2.2.2.2.2.2.2.2.map (eInt .i64).d)))]:=by
 refine dJ (rs:=[.int .i64 r.1]) Try.func8 rfl Try.ntmps8 (nle rfl) fun O hO=>?_
 show IWP _ _ _ _ ⟨[(0,.ref 1000 0),(1,.agg (v0 a0))],[(1000,.blk 60 (mixD aB.toEnc0 (w20 a1 a2 a3 a4 a5) a6 [.int .i64 a7,.osl 1001 (eInt .i64).sz a8.length])),(1001,.blk 3 (D.flat (a8.map (eInt .i64).d)))]⟩ _
 unfold iP at h
 refine aD (aA rfl (dV (cs:=q8) 0 rfl rfl (lb rfl) rfl (svA q8 rfl) rfl rfl) <|aA rfl (aG rfl rfl (lb rfl) (sv (d:=.int _ 0) rfl)) <|aC ?_)
 refine aT ?_
 obtain ⟨x1,hx1,h⟩:=aR h
 refine aD (aA rfl (faR 0 rfl rfl rfl Try.underlying23 rfl ti5 (lb rfl) rfl rfl) <|aA rfl (aL (d:=.int _ _) rfl rfl (lb rfl) Try.underlying5 ag5 ti5 (by decide) (svR rfl) rfl (nle rfl) rfl) <|aA rfl (sG rfl rfl (lb rfl) (svI rfl) (sv (d:=.int _ 6) rfl) hx1) <|aC ?_)
 refine aZ ?_
 refine jN (α:=Bool) (fun z=>⟨[(0,.ref 1000 0),(3,.ref 0 0),(7,.int .u8 x1),(8,.bool z)],[(1000,.blk 60 (mixD aB.toEnc0 (w20 a1 a2 a3 a4 a5) a6 [.int .i64 a7,.osl 1001 (eInt .i64).sz a8.length])),(0,.blk 23 (v0 a0)),(1001,.blk 3 (D.flat (a8.map (eInt .i64).d)))]⟩) (fun z=>gR a0 a1 a2 a3 a4 a5 a6 a7 a8 x1 z = some r) ?_ ?_
 ·
  obtain ⟨x21,hx21,h⟩:=aV h
  refine aD (aA rfl (aQ rfl rfl (lb rfl) (svI rfl) (sv (d:=.int _ 0) rfl) rfl hx21) <|aA rfl (asB rfl rfl rfl rfl) <|aC ?_)
  refine aW (b:=_) rfl (fun hc22=>?_) (fun hc22=>?_)
  ·
   replace h:=cE h hc22
   refine aS ?_
   refine aM ⟨x21,(fun i=>i),⟨(.sames rfl rfl),(.cons (EntW.mix aB rfl (SubC.of_eq rfl) (SubC.of_eq rfl) rfl rfl) (.cons (.blk rfl rfl rfl) (.cons (EntW.lst rfl) .nil))),bB [1000,0,1001] rfl (by decide),fun _ _=>rfl⟩,?_⟩
   exact h
  ·
   replace h:=cF h hc22
   obtain ⟨x23,hx23,h⟩:=aV h
   refine aY (aA rfl (aQ rfl rfl (lb rfl) (svI rfl) (sv (d:=.int _ 1) rfl) rfl hx23) <|aA rfl (asB rfl rfl rfl rfl) <|bQ ?_)
   refine aM ⟨x23,(fun i=>i),⟨(.sames rfl rfl),(.cons (EntW.mix aB rfl (SubC.of_eq rfl) (SubC.of_eq rfl) rfl rfl) (.cons (.blk rfl rfl rfl) (.cons (EntW.lst rfl) .nil))),bB [1000,0,1001] rfl (by decide),fun _ _=>rfl⟩,?_⟩
   exact h
 ·
  rintro v5 h
  unfold gR at h
  refine aW (b:=_) rfl (fun hc6=>?_) (fun hc6=>?_)
  ·
   replace h:=cE h hc6
   obtain ⟨x7,hx7,h⟩:=aR h
   refine aD (aA rfl (mvR rfl rfl rfl rfl) <|aA rfl (faR 1 rfl rfl rfl Try.underlying23 rfl ti3 (lb rfl) rfl rfl) <|aA rfl (aL (d:=.int _ _) rfl rfl (lb rfl) Try.underlying3 ag3 ti3 (by decide) (svR rfl) rfl (nle rfl) rfl) <|aA rfl (faR 2 rfl rfl rfl Try.underlying23 rfl ti3 (lb rfl) rfl rfl) <|aA rfl (aL (d:=.int _ _) rfl rfl (lb rfl) Try.underlying3 ag3 ti3 (by decide) (svR rfl) rfl (nle rfl) rfl) <|aA rfl (faR 3 rfl rfl rfl Try.underlying23 rfl ti3 (lb rfl) rfl rfl) <|aA rfl (aL (d:=.int _ _) rfl rfl (lb rfl) Try.underlying3 ag3 ti3 (by decide) (svR rfl) rfl (nle rfl) rfl) <|aA rfl (faR 4 rfl rfl rfl Try.underlying23 rfl ti4 (lb rfl) rfl rfl) <|aA rfl (aL (d:=.bool _) rfl rfl (lb rfl) Try.underlying4 ag4 ti4 (by decide) (svR rfl) rfl (nle rfl) rfl) <|aA rfl (bO (r':=.int .i64 x7.1) (H1':=[(1000,.blk 60 (mixD aB.toEnc0 (w20 x7.2.1 x7.2.2.1 x7.2.2.2.1 x7.2.2.2.2.1 x7.2.2.2.2.2.1) x7.2.2.2.2.2.2.1 [.int .i64 x7.2.2.2.2.2.2.2.1,.osl 1 (eInt .i64).sz x7.2.2.2.2.2.2.2.2.length])),(1,.blk 3 (D.flat (x7.2.2.2.2.2.2.2.2.map (eInt .i64).d)))]) 1 [1000,1001] rfl rfl (lb rfl) cl18 (.cons (svR rfl) (.cons (svI rfl) (.cons (svI rfl) (.cons (svI rfl) (.cons (svB rfl) .nil))))) rfl rfl ⟨rfl,rfl,by decide,rfl,List.forall_mem_cons.2 ⟨⟨rfl,rfl,(fF aB rfl rfl rfl),(bJ aB rfl rfl)⟩,List.forall_mem_cons.2 ⟨⟨rfl,rfl,(eP (eInt .i64) rfl),(bD (eInt .i64))⟩,List.forall_mem_nil _⟩⟩⟩ (fZ _ _ _ _ _ _ _ _ _ _ _ _ _ hx7) rfl rfl (List.forall_mem_cons.2 ⟨⟨rfl,(bJ aB rfl rfl)⟩,List.forall_mem_cons.2 ⟨⟨rfl,(bD (eInt .i64))⟩,List.forall_mem_nil _⟩⟩) (by simp only [List.map_cons,List.map_nil,Ent.ren,bE,bK,bP]; rfl)) <|aA rfl (asI rfl rfl rfl rfl) <|aC ?_)
   refine bA ?_
   refine cS ?_
   refine bH ?_
   obtain rfl:=Option.some.inj h
   refine ⟨.inr rfl,(fun i=>if i = 0 then 1 else i),⟨.nil,(.cons (EntW.mix aB rfl (SubC.of_eq rfl) (SubC.of_eq rfl) rfl rfl) (.cons (EntW.lst rfl) .nil)),bB [1000,1] rfl (by decide),(fun i hi=>by first | rfl | (show (if _ then _ else _) = _; (repeat' split) <;> omega))⟩,(.cons (sv rfl) .nil),rfl⟩
  ·
   replace h:=cF h hc6
   refine jN (α:=Bool) (fun z=>⟨[(0,.ref 1000 0),(3,.ref 0 0),(7,.int .u8 x1),(21,.bool z)],[(1000,.blk 60 (mixD aB.toEnc0 (w20 a1 a2 a3 a4 a5) a6 [.int .i64 a7,.osl 1001 (eInt .i64).sz a8.length])),(0,.blk 23 (v0 a0)),(1001,.blk 3 (D.flat (a8.map (eInt .i64).d)))]⟩) (fun z=>gQ a0 a1 a2 a3 a4 a5 a6 a7 a8 x1 z = some r) ?_ ?_
   ·
    obtain ⟨x18,hx18,h⟩:=aV h
    refine aD (aA rfl (aQ rfl rfl (lb rfl) (svI rfl) (sv (d:=.int _ 2) rfl) rfl hx18) <|aA rfl (asB rfl rfl rfl rfl) <|aC ?_)
    refine aW (b:=_) rfl (fun hc19=>?_) (fun hc19=>?_)
    ·
     replace h:=cE h hc19
     refine aS ?_
     refine aM ⟨x18,(fun i=>i),⟨(.sames rfl rfl),(.cons (EntW.mix aB rfl (SubC.of_eq rfl) (SubC.of_eq rfl) rfl rfl) (.cons (.blk rfl rfl rfl) (.cons (EntW.lst rfl) .nil))),bB [1000,0,1001] rfl (by decide),fun _ _=>rfl⟩,?_⟩
     exact h
    ·
     replace h:=cF h hc19
     obtain ⟨x20,hx20,h⟩:=aV h
     refine aY (aA rfl (aQ rfl rfl (lb rfl) (svI rfl) (sv (d:=.int _ 3) rfl) rfl hx20) <|aA rfl (asB rfl rfl rfl rfl) <|bQ ?_)
     refine aM ⟨x20,(fun i=>i),⟨(.sames rfl rfl),(.cons (EntW.mix aB rfl (SubC.of_eq rfl) (SubC.of_eq rfl) rfl rfl) (.cons (.blk rfl rfl rfl) (.cons (EntW.lst rfl) .nil))),bB [1000,0,1001] rfl (by decide),fun _ _=>rfl⟩,?_⟩
     exact h
   ·
    rintro v11 h
    unfold gQ at h
    refine aW (b:=_) rfl (fun hc12=>?_) (fun hc12=>?_)
    ·
     replace h:=cE h hc12
     obtain ⟨x13,hx13,h⟩:=aR h
     refine aD (aA rfl (mvR rfl rfl rfl rfl) <|aA rfl (faR 1 rfl rfl rfl Try.underlying23 rfl ti3 (lb rfl) rfl rfl) <|aA rfl (aL (d:=.int _ _) rfl rfl (lb rfl) Try.underlying3 ag3 ti3 (by decide) (svR rfl) rfl (nle rfl) rfl) <|aA rfl (faR 2 rfl rfl rfl Try.underlying23 rfl ti3 (lb rfl) rfl rfl) <|aA rfl (aL (d:=.int _ _) rfl rfl (lb rfl) Try.underlying3 ag3 ti3 (by decide) (svR rfl) rfl (nle rfl) rfl) <|aA rfl (faR 3 rfl rfl rfl Try.underlying23 rfl ti3 (lb rfl) rfl rfl) <|aA rfl (aL (d:=.int _ _) rfl rfl (lb rfl) Try.underlying3 ag3 ti3 (by decide) (svR rfl) rfl (nle rfl) rfl) <|aA rfl (faR 4 rfl rfl rfl Try.underlying23 rfl ti4 (lb rfl) rfl rfl) <|aA rfl (aL (d:=.bool _) rfl rfl (lb rfl) Try.underlying4 ag4 ti4 (by decide) (svR rfl) rfl (nle rfl) rfl) <|aA rfl (bO (r':=.int .i64 x13.1) (H1':=[(1000,.blk 60 (mixD aB.toEnc0 (w20 x13.2.1 x13.2.2.1 x13.2.2.2.1 x13.2.2.2.2.1 x13.2.2.2.2.2.1) x13.2.2.2.2.2.2.1 [.int .i64 x13.2.2.2.2.2.2.2.1,.osl 1 (eInt .i64).sz x13.2.2.2.2.2.2.2.2.length])),(1,.blk 3 (D.flat (x13.2.2.2.2.2.2.2.2.map (eInt .i64).d)))]) 1 [1000,1001] rfl rfl (lb rfl) cl17 (.cons (svR rfl) (.cons (svI rfl) (.cons (svI rfl) (.cons (svI rfl) (.cons (svB rfl) .nil))))) rfl rfl ⟨rfl,rfl,by decide,rfl,List.forall_mem_cons.2 ⟨⟨rfl,rfl,(fF aB rfl rfl rfl),(bJ aB rfl rfl)⟩,List.forall_mem_cons.2 ⟨⟨rfl,rfl,(eP (eInt .i64) rfl),(bD (eInt .i64))⟩,List.forall_mem_nil _⟩⟩⟩ (lH _ _ _ _ _ _ _ _ _ _ _ _ _ hx13) rfl rfl (List.forall_mem_cons.2 ⟨⟨rfl,(bJ aB rfl rfl)⟩,List.forall_mem_cons.2 ⟨⟨rfl,(bD (eInt .i64))⟩,List.forall_mem_nil _⟩⟩) (by simp only [List.map_cons,List.map_nil,Ent.ren,bE,bK,bP]; rfl)) <|aA rfl (asI rfl rfl rfl rfl) <|aC ?_)
     refine bA ?_
     refine cS ?_
     refine bH ?_
     obtain rfl:=Option.some.inj h
     refine ⟨.inr rfl,(fun i=>if i = 0 then 1 else i),⟨.nil,(.cons (EntW.mix aB rfl (SubC.of_eq rfl) (SubC.of_eq rfl) rfl rfl) (.cons (EntW.lst rfl) .nil)),bB [1000,1] rfl (by decide),(fun i hi=>by first | rfl | (show (if _ then _ else _) = _; (repeat' split) <;> omega))⟩,(.cons (sv rfl) .nil),rfl⟩
    ·
     replace h:=cF h hc12
     obtain ⟨x14,hx14,h⟩:=aV h
     refine aD (aA rfl (aQ rfl rfl (lb rfl) (svI rfl) (sv (d:=.int _ 4) rfl) rfl hx14) <|aA rfl (asB rfl rfl rfl rfl) <|aC ?_)
     refine aW (b:=_) rfl (fun hc15=>?_) (fun hc15=>?_)
     ·
      replace h:=cE h hc15
      obtain ⟨x16,hx16,h⟩:=aR h
      refine aD (aA rfl (mvR rfl rfl rfl rfl) <|aA rfl (faR 1 rfl rfl rfl Try.underlying23 rfl ti3 (lb rfl) rfl rfl) <|aA rfl (aL (d:=.int _ _) rfl rfl (lb rfl) Try.underlying3 ag3 ti3 (by decide) (svR rfl) rfl (nle rfl) rfl) <|aA rfl (bO (r':=.int .i64 x16.1) (H1':=[(1000,.blk 60 (mixD aB.toEnc0 (w20 x16.2.1 x16.2.2.1 x16.2.2.2.1 x16.2.2.2.2.1 x16.2.2.2.2.2.1) x16.2.2.2.2.2.2.1 [.int .i64 x16.2.2.2.2.2.2.2.1,.osl 1 (eInt .i64).sz x16.2.2.2.2.2.2.2.2.length])),(1,.blk 3 (D.flat (x16.2.2.2.2.2.2.2.2.map (eInt .i64).d)))]) 1 [1000,1001] rfl rfl (lb rfl) cl20 (.cons (svR rfl) (.cons (svI rfl) .nil)) rfl rfl ⟨rfl,rfl,by decide,rfl,List.forall_mem_cons.2 ⟨⟨rfl,rfl,(fF aB rfl rfl rfl),(bJ aB rfl rfl)⟩,List.forall_mem_cons.2 ⟨⟨rfl,rfl,(eP (eInt .i64) rfl),(bD (eInt .i64))⟩,List.forall_mem_nil _⟩⟩⟩ (jJ _ _ _ _ _ _ _ _ _ _ hx16) rfl rfl (List.forall_mem_cons.2 ⟨⟨rfl,(bJ aB rfl rfl)⟩,List.forall_mem_cons.2 ⟨⟨rfl,(bD (eInt .i64))⟩,List.forall_mem_nil _⟩⟩) (by simp only [List.map_cons,List.map_nil,Ent.ren,bE,bK,bP]; rfl)) <|aA rfl (asI rfl rfl rfl rfl) <|aC ?_)
      refine bA ?_
      refine cS ?_
      refine bH ?_
      obtain rfl:=Option.some.inj h
      refine ⟨.inr rfl,(fun i=>if i = 0 then 1 else i),⟨.nil,(.cons (EntW.mix aB rfl (SubC.of_eq rfl) (SubC.of_eq rfl) rfl rfl) (.cons (EntW.lst rfl) .nil)),bB [1000,1] rfl (by decide),(fun i hi=>by first | rfl | (show (if _ then _ else _) = _; (repeat' split) <;> omega))⟩,(.cons (sv rfl) .nil),rfl⟩
     ·
      replace h:=cF h hc15
      refine aS ?_
      refine bR ?_
      refine aM ?_
      obtain ⟨x17,hx17,h⟩:=aR h
      refine aD (aA rfl (mvR rfl rfl rfl rfl) <|aA rfl (faR 1 rfl rfl rfl Try.underlying23 rfl ti3 (lb rfl) rfl rfl) <|aA rfl (aL (d:=.int _ _) rfl rfl (lb rfl) Try.underlying3 ag3 ti3 (by decide) (svR rfl) rfl (nle rfl) rfl) <|aA rfl (bO (r':=.int .i64 x17.1) (H1':=[(1000,.blk 60 (mixD aB.toEnc0 (w20 x17.2.1 x17.2.2.1 x17.2.2.2.1 x17.2.2.2.2.1 x17.2.2.2.2.2.1) x17.2.2.2.2.2.2.1 [.int .i64 x17.2.2.2.2.2.2.2.1,.osl 1 (eInt .i64).sz x17.2.2.2.2.2.2.2.2.length])),(1,.blk 3 (D.flat (x17.2.2.2.2.2.2.2.2.map (eInt .i64).d)))]) 1 [1000,1001] rfl rfl (lb rfl) cl21 (.cons (svR rfl) (.cons (svI rfl) .nil)) rfl rfl ⟨rfl,rfl,by decide,rfl,List.forall_mem_cons.2 ⟨⟨rfl,rfl,(fF aB rfl rfl rfl),(bJ aB rfl rfl)⟩,List.forall_mem_cons.2 ⟨⟨rfl,rfl,(eP (eInt .i64) rfl),(bD (eInt .i64))⟩,List.forall_mem_nil _⟩⟩⟩ (kR _ _ _ _ _ _ _ _ _ _ hx17) rfl rfl (List.forall_mem_cons.2 ⟨⟨rfl,(bJ aB rfl rfl)⟩,List.forall_mem_cons.2 ⟨⟨rfl,(bD (eInt .i64))⟩,List.forall_mem_nil _⟩⟩) (by simp only [List.map_cons,List.map_nil,Ent.ren,bE,bK,bP]; rfl)) <|aA rfl (asI rfl rfl rfl rfl) <|aC ?_)
      refine bA ?_
      obtain rfl:=Option.some.inj h
      refine ⟨.inr rfl,(fun i=>if i = 0 then 1 else i),⟨.nil,(.cons (EntW.mix aB rfl (SubC.of_eq rfl) (SubC.of_eq rfl) rfl rfl) (.cons (EntW.lst rfl) .nil)),bB [1000,1] rfl (by decide),(fun i hi=>by first | rfl | (show (if _ then _ else _) = _; (repeat' split) <;> omega))⟩,(.cons (sv rfl) .nil),rfl⟩

theorem mK (a0 : (List Int)) (a1 : Int) (r : Bool) (h : hZ a0 a1 = some r) : gB Try.prog 16 [.slice false (a0.map (eInt .i64).d),.int .i64 a1] (.bool r):=by
 refine dH (rs:=[.bool r]) Try.func16 rfl Try.ntmps16 (nle rfl) rfl fun O hO=>?_
 show IWP _ _ _ _ ⟨[(0,.slice false (a0.map (eInt .i64).d)),(1,.int .i64 a1)],[]⟩ _
 unfold hZ at h
 refine aD (aA rfl (aG rfl rfl (lb rfl) (sv (d:=.bool false) rfl)) <|aC ?_)
 refine aT ?_
 refine aD (aA rfl (aG rfl rfl (lb rfl) (sv (d:=.int _ 0) rfl)) <|aC ?_)
 refine aZ ?_
 refine cT (α:=Nat × Int) (fun z=>⟨[(0,.slice false (a0.map (eInt .i64).d)),(1,.int .i64 a1),(5,.int .i64 z.2)],[]⟩) (fun z=>eZ a0 a1 z.1 z.2 = some r) (fun z=>z.1) (fuel,0) (fun i=>i) ⟨(.sames rfl rfl),.nil,bB [] rfl (by decide),fun _ _=>rfl⟩ ?_ ?_
 ·exact h
 ·
  rintro ⟨n0,v7⟩ h
  cases n0 with
  | zero=>exact absurd h (by unfold eZ; exact nofun)
  | succ n0 =>
   unfold eZ at h
   refine aT ?_
   obtain ⟨x14,hx14,h⟩:=aV h
   refine aD (aA rfl (mvI rfl rfl rfl rfl) <|aA rfl (mvL rfl rfl rfl rfl) <|aA rfl (eR (eInt .i64) (l:=a0) rfl rfl (lb rfl) Try.underlying24 (svL rfl)) <|aA rfl (aQ rfl rfl (lb rfl) (svI rfl) (svI rfl) rfl hx14) <|aC ?_)
   refine aW (b:=_) rfl (fun hc15=>?_) (fun hc15=>?_)
   ·
    replace h:=cE h hc15
    refine aS ?_
    refine aM ?_
    refine aT ?_
    refine aZ ?_
    obtain ⟨x16,hx16,h⟩:=aR h
    obtain ⟨x17,hx17,h⟩:=aV h
    refine aD (aA rfl (mvL rfl rfl rfl rfl) <|aA rfl (mvI rfl rfl rfl rfl) <|aA rfl (gV (eInt .i64) (cs:=[.int _ _]) rfl rfl (lb rfl) Try.underlying24 ti3 (svL rfl) (svI rfl) hx16 rfl rfl) <|aA rfl (gD rfl rfl (lb rfl) Try.underlying3 ag3 ti3 (by decide) (sv (d:=.fptr [.int _ _]) rfl) (nle rfl)) <|aA rfl (mvI rfl rfl rfl rfl) <|aA rfl (aQ rfl rfl (lb rfl) (svI rfl) (svI rfl) rfl hx17) <|aC ?_)
    refine aW (b:=_) rfl (fun hc18=>?_) (fun hc18=>?_)
    ·
     replace h:=cE h hc18
     refine aD (aA rfl (aG rfl rfl (lb rfl) (sv (d:=.bool true) rfl)) <|aC ?_)
     refine bA ?_
     refine cS ?_
     refine bH ?_
     refine bH ?_
     refine cS ?_
     refine bH ?_
     obtain rfl:=Option.some.inj h
     refine ⟨.inr rfl,(.cons (sv rfl) .nil)⟩
    ·
     replace h:=cF h hc18
     refine aS ?_
     refine bR ?_
     refine aM ?_
     obtain ⟨x19,hx19,h⟩:=aV h
     refine aY (aA rfl (mvI rfl rfl rfl rfl) <|aA rfl (cP rfl rfl (lb rfl) (svI rfl) (sv (d:=.int _ 1) rfl) rfl hx19) <|aA rfl (asI rfl rfl rfl rfl) <|bQ ?_)
     refine aM ⟨(n0,x19),(fun i=>i),⟨(.sames rfl rfl),.nil,bB [] rfl (by decide),fun _ _=>rfl⟩,?_,?_⟩
     exact h
     exact Nat.lt_succ_self _
   ·
    replace h:=cF h hc15
    refine cZ ?_
    refine bT ?_
    refine bT ?_
    refine dA ?_
    refine aM ?_
    refine aD (aA rfl (aG rfl rfl (lb rfl) (sv (d:=.bool false) rfl)) <|aC ?_)
    refine bA ?_
    obtain rfl:=Option.some.inj h
    refine ⟨.inr rfl,(.cons (sv rfl) .nil)⟩

theorem mF (a0 : (List cC)) (a1 : Int) (r : Bool) (h : fX a0 a1 = some r) : gB Try.prog 4 [.slice false (a0.map cK.d), .int .u8 a1] (.bool r) := by
 refine dH (rs:=[.bool r]) Try.func4 rfl Try.ntmps4 (nle rfl) rfl fun O hO=>?_
 show IWP _ _ _ _ ⟨[(0,.slice false (a0.map cK.d)),(1,.int .u8 a1)],[]⟩ _
 unfold fX at h
 refine aD (aA rfl (aG rfl rfl (lb rfl) (sv (d:=.bool false) rfl)) <|aC ?_)
 refine aT ?_
 obtain ⟨x1,hx1,h⟩:=aV h
 refine aD (aA rfl (mvL rfl rfl rfl rfl) <|aA rfl (eR cK (l:=a0) rfl rfl (lb rfl) Try.underlying35 (svL rfl)) <|aA rfl (aQ rfl rfl (lb rfl) (svI rfl) (sv (d:=.int _ 60) rfl) rfl hx1) <|aC ?_)
 refine aW (b:=_) rfl (fun hc2=>?_) (fun hc2=>?_)
 ·
  replace h:=cE h hc2
  obtain ⟨x3,hx3,h⟩:=aR h
  refine aD (aA rfl (dF (r:=.bool _) rfl rfl (lb rfl) cl7 .nil rfl (lE  _ hx3)) <|aA rfl (asB rfl rfl rfl rfl) <|aC ?_)
  refine bA ?_
  refine bH ?_
  obtain rfl:=Option.some.inj h
  refine ⟨.inr rfl,(.cons (sv rfl) .nil)⟩
 ·
  replace h:=cF h hc2
  refine aS ?_
  refine aM ?_
  obtain ⟨x4,hx4,h⟩:=aR h
  obtain ⟨x5,hx5,h⟩:=aV h
  refine aD (aA rfl (mvI rfl rfl rfl rfl) <|aA rfl (sG rfl rfl (lb rfl) (svI rfl) (sv (d:=.int _ 10) rfl) hx4) <|aA rfl (oU rfl rfl (lb rfl) ⟨_,Try.underlying5⟩ Try.underlying3 (svI rfl) hx5) <|?_)
  refine eG (S':=⟨[(0,.slice false (a0.map cK.d)),(1,.int .u8 a1),(21,.int .i64 x5)],[]⟩) (fun i=>i) ⟨(.sames rfl rfl),.nil,bB [] rfl (by decide),fun _ _=>rfl⟩ ?_
  refine hD 1 0 rfl rfl rfl (by decide) cl15 Try.func15 rfl (.cons (sv (d:=.int _ 9) rfl) (.cons (svI rfl) .nil)) Try.ntmps15 (nle rfl) rfl hO.semiL fun O1 hO1=>?_
  show IWP _ _ _ _ ⟨[(0,.int .i64 9),(1,.int .i64 x5)],[(0,.kept 1 [.slice false (a0.map cK.d),.int .u8 a1,.dead,.dead,.dead,.dead,.dead,.dead,.dead,.dead,.dead,.dead,.dead,.dead,.dead,.dead,.dead,.dead,.dead,.dead,.dead,.int .i64 x5,.dead,.dead,.dead,.dead,.dead,.dead,.dead,.dead,.dead,.dead,.dead,.dead,.dead,.dead,.dead,.dead,.dead,.dead,.dead,.dead,.dead,.dead,.dead,.dead,.dead,.dead,.dead,.dead,.dead,.dead,.dead,.dead,.dead,.dead,.dead,.dead,.dead,.dead,.dead,.dead,.dead,.dead,.dead,.dead,.dead,.dead,.dead,.dead,.dead,.dead,.dead,.dead,.dead,.dead,.dead,.dead,.dead,.dead,.dead,.dead,.dead,.dead,.dead,.dead,.dead,.dead,.dead,.dead,.dead,.dead,.dead,.dead,.dead,.dead,.dead,.dead,.dead,.dead,.dead,.dead,.dead,.dead,.dead,.dead,.dead,.dead,.dead,.dead,.dead,.dead,.dead,.dead,.dead,.dead,.dead,.dead,.dead,.dead,.dead,.dead,.dead,.dead,.dead,.dead,.dead,.dead,.dead,.dead,.dead,.dead,.dead,.dead,.dead,.dead,.dead,.dead,.dead,.dead,.dead,.dead,.dead,.dead,.dead,.dead,.dead,.dead,.dead,.dead,.dead,.dead,.dead,.dead,.dead,.dead,.dead,.dead,.dead,.dead,.dead,.dead,.dead,.dead,.dead,.dead,.dead,.dead,.dead,.dead,.dead,.dead,.dead,.dead,.dead,.dead,.dead,.dead,.dead,.dead,.dead,.dead,.dead,.dead,.dead,.dead,.dead,.dead,.dead,.dead,.dead,.dead,.dead,.dead,.dead,.dead,.dead,.dead])]⟩ _
  refine aD (aA rfl (aG rfl rfl (lb rfl) (sv (d:=.nilp) rfl)) <|aA rfl (aG rfl rfl (lb rfl) (sv (d:=.int _ 0) rfl)) <|aC ?_)
  refine aT ?_
  obtain ⟨x6,hx6,h⟩:=aR h
  obtain ⟨x7,hx7,h⟩:=aR h
  obtain ⟨x8,hx8,h⟩:=aV h
  refine aD (aA rfl (mvI rfl rfl rfl rfl) <|aA rfl (dF (r:=.bool _) rfl rfl (lb rfl) cl31 (.cons (svI rfl) (.cons (sv (d:=.int _ 1) rfl) (.cons (sv (d:=.int _ 24) rfl) .nil))) rfl (jE _ _ _ _ hx6)) <|aA rfl (gA rfl rfl (lb rfl) (svB rfl)) <|aA rfl (mvB rfl rfl rfl rfl) <|aK rfl rfl (.one rfl) rfl (by decide) (fun hb=>(mvI rfl rfl rfl rfl)) <|aK rfl rfl (.one rfl) rfl (by decide) (fun hb=>(mvI rfl rfl rfl rfl)) <|aK rfl rfl (.one rfl) rfl (by decide) (fun hb=>(dF (r:=.bool _) rfl rfl (lb rfl) cl31 (.cons (svcI rfl hb) (.cons (sv (d:=.int _ 0) rfl) (.cons (svcI rfl hb) .nil))) rfl (jE _ _ _ _ (gd_t hx7 hb)))) <|aK rfl rfl (.one rfl) rfl (by decide) (fun hb=>(gA rfl rfl (lb rfl) (svcB rfl hb))) <|aA rfl (iM rfl rfl (lb rfl) (svB rfl) rfl rfl hx8) <|aC ?_)
  refine aW (b:=_) rfl (fun hc9=>?_) (fun hc9=>?_)
  ·
   replace h:=cE h hc9
   refine aD (aA rfl (aG rfl rfl (lb rfl) (sv (d:=.nilp) rfl)) <|aA rfl (aG rfl rfl (lb rfl) (sv (d:=.int _ 8) rfl)) <|aC ?_)
   refine bA ?_
   refine bH ?_
   refine ⟨.inr rfl,0,_,[.nilp,.int .i64 8],(.cons (sv rfl) (.cons (sv rfl) .nil)),rfl,rfl,⟨[(0,.slice false (a0.map cK.d)),(1,.int .u8 a1),(22,.tuple [.nilp,.int .i64 8])],[]⟩,(fun i=>i),⟨(.sames rfl rfl),.nil,bB [] rfl (by decide),fun _ _=>rfl⟩,?_⟩
   refine aA rfl (aN rfl rfl (lb rfl) (sv (d:=.tuple [.nilp,.int _ _]) rfl)) <|aA rfl (dI (d:=.nilp) rfl rfl (lb rfl) (sv (d:=.tuple [.nilp,.int _ _]) rfl) rfl) <|aA rfl (dI (d:=.int _ _) rfl rfl (lb rfl) (sv (d:=.tuple [.nilp,.int _ _]) rfl) rfl) <|aA rfl (aG rfl rfl (lb rfl) (sv (d:=.nilp) rfl)) <|aA rfl (asI rfl rfl rfl rfl) <|aC ?_
   refine aT ?_
   obtain ⟨x10,hx10,h⟩:=aV h
   obtain ⟨x11,hx11,h⟩:=aV h
   refine aD (aA rfl (mvI rfl rfl rfl rfl) <|aA rfl (aQ rfl rfl (lb rfl) (svI rfl) (sv (d:=.int _ 0) rfl) rfl hx10) <|aA rfl (mvB rfl rfl rfl rfl) <|aK rfl rfl (.one rfl) rfl (by decide) (fun hb=>(aN rfl rfl (lb rfl) (sv (d:=.nilp) rfl))) <|aK rfl rfl (.one rfl) rfl (by decide) (fun hb=>(vI rfl rfl (lb rfl) Try.underlying26 (svc (d:=.nilp) rfl hb) (sv (d:=.nilp) rfl))) <|aA rfl (iM rfl rfl (lb rfl) (svB rfl) rfl rfl hx11) <|aC ?_)
   refine rJ rfl (or_tt hx11) ?_
   refine aD (aA rfl (aG rfl rfl (lb rfl) (sv (d:=.bool false) rfl)) <|aC ?_)
   refine bA ?_
   refine bH ?_
   obtain rfl:=Option.some.inj h
   refine ⟨.inr rfl,(.cons (sv rfl) .nil)⟩
  ·
   replace h:=cF h hc9
   refine aS ?_
   refine aM ?_
   obtain ⟨x12,hx12,h⟩:=aR h
   refine aD (aA rfl (mvI rfl rfl rfl rfl) <|aA rfl (mvI rfl rfl rfl rfl) <|aA rfl (dF (r:=.agg q10) rfl rfl (lb rfl) cl32 .nil rfl (nG  _ hx12)) <|aA rfl (cD (cs:=(mixD aB.toEnc0 q7 (List.replicate 64 (⟨0,0,0,0,0,false⟩ : aF) : (List aF)) [.int _ _,.nils])) rfl rfl (lb rfl) Try.underlying60 ti60 pl60 rfl (.cons (svI rfl) (.cons (svI rfl) (.cons (svA q10 rfl) (.cons (sv (d:=.int _ (-1)) rfl) .nil)))) (by kernel_rfl)) <|aA rfl (dV (cs:=(mixD aB.toEnc0 q7 (List.replicate 64 (⟨0,0,0,0,0,false⟩ : aF) : (List aF)) [.int _ _,.nils])) 1 rfl rfl (lb rfl) rfl (sv (d:=.agg (mixD aB.toEnc0 q7 (List.replicate 64 (⟨0,0,0,0,0,false⟩ : aF) : (List aF)) [.int _ _,.nils])) rfl) rfl rfl) <|eG (S':=⟨[(0,.int .i64 9),(1,.int .i64 x5),(4,.nilp),(5,.int .i64 0),(6,.int .i64 9),(7,.bool x6),(8,.bool (!x6)),(9,.bool (!x6)),(14,.bool x8),(15,.int .i64 9),(16,.int .i64 x5),(17,.agg (v1 x12)),(18,.agg (mixD aB.toEnc0 (w20 9 x5 x12.Cells x12.Free x12.Used) (List.replicate 64 (⟨0,0,0,0,0,false⟩ : aF) : (List aF)) [.int .i64 (-1),.nils])),(19,.ref 1 0)],[(2,.blk 3 (D.flat (([] : (List Int)).map (eInt .i64).d))),(0,.kept 1 [.slice false (a0.map cK.d),.int .u8 a1,.dead,.dead,.dead,.dead,.dead,.dead,.dead,.dead,.dead,.dead,.dead,.dead,.dead,.dead,.dead,.dead,.dead,.dead,.dead,.int .i64 x5,.dead,.dead,.dead,.dead,.dead,.dead,.dead,.dead,.dead,.dead,.dead,.dead,.dead,.dead,.dead,.dead,.dead,.dead,.dead,.dead,.dead,.dead,.dead,.dead,.dead,.dead,.dead,.dead,.dead,.dead,.dead,.dead,.dead,.dead,.dead,.dead,.dead,.dead,.dead,.dead,.dead,.dead,.dead,.dead,.dead,.dead,.dead,.dead,.dead,.dead,.dead,.dead,.dead,.dead,.dead,.dead,.dead,.dead,.dead,.dead,.dead,.dead,.dead,.dead,.dead,.dead,.dead,.dead,.dead,.dead,.dead,.dead,.dead,.dead,.dead,.dead,.dead,.dead,.dead,.dead,.dead,.dead,.dead,.dead,.dead,.dead,.dead,.dead,.dead,.dead,.dead,.dead,.dead,.dead,.dead,.dead,.dead,.dead,.dead,.dead,.dead,.dead,.dead,.dead,.dead,.dead,.dead,.dead,.dead,.dead,.dead,.dead,.dead,.dead,.dead,.dead,.dead,.dead,.dead,.dead,.dead,.dead,.dead,.dead,.dead,.dead,.dead,.dead,.dead,.dead,.dead,.dead,.dead,.dead,.dead,.dead,.dead,.dead,.dead,.dead,.dead,.dead,.dead,.dead,.dead,.dead,.dead,.dead,.dead,.dead,.dead,.dead,.dead,.dead,.dead,.dead,.dead,.dead,.dead,.dead,.dead,.dead,.dead,.dead,.dead,.dead,.dead,.dead,.dead,.dead,.dead,.dead,.dead,.dead,.dead,.dead]),(1,.blk 60 (mixD aB.toEnc0 (w20 9 x5 x12.Cells x12.Free x12.Used) (List.replicate 64 (⟨0,0,0,0,0,false⟩ : aF) : (List aF)) [.int .i64 (-1),.osl 2 (eInt .i64).sz 0]))]⟩) (fun i=>if i = 2 then 54 else i) ⟨(.sames rfl rfl),(.cons (.nilb rfl) (.cons (.kept rfl rfl rfl) (.cons (EntW.mix aB rfl (SubC.of_eq rfl) (.same (.nilo .nil)) rfl rfl) .nil))),bB [54,0,1] rfl (by decide),(fun i hi=>by first | rfl | (show (if _ then _ else _) = _; (repeat' split) <;> omega))⟩ <|aA rfl (aG rfl rfl (lb rfl) (svR rfl)) <|aA rfl (aG rfl rfl (lb rfl) (sv (d:=.int _ 0) rfl)) <|aC ?_)
   refine bA ?_
   refine ⟨.inr rfl,0,_,[.ref 1 0,.int .i64 0],(.cons (sv rfl) (.cons (sv rfl) .nil)),rfl,rfl,⟨[(0,.slice false (a0.map cK.d)),(1,.int .u8 a1),(22,.tuple [.ref 1 0,.int .i64 0])],[(1,.blk 60 (mixD aB.toEnc0 (w20 9 x5 x12.Cells x12.Free x12.Used) (List.replicate 64 (⟨0,0,0,0,0,false⟩ : aF) : (List aF)) [.int .i64 (-1),.osl 2 (eInt .i64).sz 0])),(2,.blk 3 (D.flat (([] : (List Int)).map (eInt .i64).d)))]⟩,(fun i=>i),⟨(.sames rfl rfl),(.cons (EntW.mix aB rfl (SubC.of_eq rfl) (SubC.of_eq rfl) rfl rfl) (.cons (EntW.lst rfl) .nil)),bB [1,2] rfl (by decide),fun _ _=>rfl⟩,?_⟩
   refine aA rfl (aN rfl rfl (lb rfl) (sv (d:=.tuple q17) rfl)) <|aA rfl (dI (d:=.ref _ _) rfl rfl (lb rfl) (sv (d:=.tuple q17) rfl) rfl) <|aA rfl (dI (d:=.int _ _) rfl rfl (lb rfl) (sv (d:=.tuple q17) rfl) rfl) <|aA rfl (aG rfl rfl (lb rfl) (svR rfl)) <|aA rfl (asI rfl rfl rfl rfl) <|aC ?_
   refine aT ?_
   obtain ⟨x13,hx13,h⟩:=aV h
   obtain ⟨x14,hx14,h⟩:=aV h
   refine aD (aA rfl (mvI rfl rfl rfl rfl) <|aA rfl (aQ rfl rfl (lb rfl) (svI rfl) (sv (d:=.int _ 0) rfl) rfl hx13) <|aA rfl (mvB rfl rfl rfl rfl) <|aK rfl rfl (.one rfl) rfl (by decide) (fun hb=>(mvR rfl rfl rfl rfl)) <|aK rfl rfl (.one rfl) rfl (by decide) (fun hb=>(kU rfl rfl (lb rfl) Try.underlying26 (svcR rfl hb) (sv (d:=.nilp) rfl))) <|aA rfl (iM rfl rfl (lb rfl) (svB rfl) rfl rfl hx14) <|aC ?_)
   refine aW (b:=_) rfl (fun hc15=>?_) (fun hc15=>?_)
   ·
    replace h:=cE h hc15
    refine aD (aA rfl (aG rfl rfl (lb rfl) (sv (d:=.bool false) rfl)) <|aC ?_)
    refine bA ?_
    refine bH ?_
    obtain rfl:=Option.some.inj h
    refine ⟨.inr rfl,(.cons (sv rfl) .nil)⟩
   ·
    replace h:=cF h hc15
    refine aS ?_
    refine aM ?_
    refine aT ?_
    refine aD (aA rfl (aG rfl rfl (lb rfl) (sv (d:=.int _ 0) rfl)) <|aC ?_)
    refine aZ ?_
    refine cT (α:=Nat × Int × Int × Int × (List aH) × Int × Int × (List aF) × Int × (List Int)) (fun z=>⟨[(0,.slice false (a0.map cK.d)),(1,.int .u8 a1),(5,.ref 1 0),(7,.int .i64 z.2.1)],[(1,.blk 60 (mixD aB.toEnc0 (w20 z.2.2.1 z.2.2.2.1 z.2.2.2.2.1 z.2.2.2.2.2.1 z.2.2.2.2.2.2.1) z.2.2.2.2.2.2.2.1 [.int .i64 z.2.2.2.2.2.2.2.2.1,.osl 2 (eInt .i64).sz z.2.2.2.2.2.2.2.2.2.length])),(2,.blk 3 (D.flat (z.2.2.2.2.2.2.2.2.2.map (eInt .i64).d)))]⟩) (fun z=>bY a0 a1 z.1 z.2.1 z.2.2.1 z.2.2.2.1 z.2.2.2.2.1 z.2.2.2.2.2.1 z.2.2.2.2.2.2.1 z.2.2.2.2.2.2.2.1 z.2.2.2.2.2.2.2.2.1 z.2.2.2.2.2.2.2.2.2 = some r) (fun z=>z.1) (fuel,0,9,x5,x12.Cells,x12.Free,x12.Used,(List.replicate 64 (⟨0,0,0,0,0,false⟩ : aF) : (List aF)),(-1),([] : (List Int))) (fun i=>i) ⟨(.sames rfl rfl),(.cons (EntW.mix aB rfl (SubC.of_eq rfl) (SubC.of_eq rfl) rfl rfl) (.cons (EntW.lst rfl) .nil)),bB [1,2] rfl (by decide),fun _ _=>rfl⟩ ?_ ?_
    ·exact h
    ·
     rintro ⟨n0,v229,v230,v231,v232,v233,v234,v235,v236,v237⟩ h
     cases n0 with
     | zero=>exact absurd h (by unfold bY; exact nofun)
     | succ n0 =>
      unfold bY at h
      refine aT ?_
      obtain ⟨x451,hx451,h⟩:=aV h
      refine aD (aA rfl (mvI rfl rfl rfl rfl) <|aA rfl (mvL rfl rfl rfl rfl) <|aA rfl (eR cK (l:=a0) rfl rfl (lb rfl) Try.underlying35 (svL rfl)) <|aA rfl (aQ rfl rfl (lb rfl) (svI rfl) (svI rfl) rfl hx451) <|aC ?_)
      refine aW (b:=_) rfl (fun hc452=>?_) (fun hc452=>?_)
      ·
       replace h:=cE h hc452
       refine aS ?_
       refine aM ?_
       refine aT ?_
       refine aZ ?_
       obtain ⟨x453,hx453,h⟩:=aR h
       obtain ⟨x454,hx454,h⟩:=aR h
       refine aD (aA rfl (mvR rfl rfl rfl rfl) <|aA rfl (mvL rfl rfl rfl rfl) <|aA rfl (mvI rfl rfl rfl rfl) <|aA rfl (gV cK (cs:=q8) rfl rfl (lb rfl) Try.underlying35 ti23 (svL rfl) (svI rfl) hx453 rfl rfl) <|aA rfl (jR (cs:=q8) rfl rfl (lb rfl) Try.underlying23 ag23 ti23 (by decide) (sv (d:=.fptr q8) rfl) (nle rfl) rfl) <|aA rfl (bO (r':=.int .i64 x454.1) (H1':=[(1,.blk 60 (mixD aB.toEnc0 (w20 x454.2.1 x454.2.2.1 x454.2.2.2.1 x454.2.2.2.2.1 x454.2.2.2.2.2.1) x454.2.2.2.2.2.2.1 [.int .i64 x454.2.2.2.2.2.2.2.1,.osl 3 (eInt .i64).sz x454.2.2.2.2.2.2.2.2.length])),(3,.blk 3 (D.flat (x454.2.2.2.2.2.2.2.2.map (eInt .i64).d)))]) 3 [1,2] rfl rfl (lb rfl) cl8 (.cons (svR rfl) (.cons (svA q8 rfl) .nil)) rfl rfl ⟨rfl,rfl,by decide,rfl,List.forall_mem_cons.2 ⟨⟨rfl,rfl,(fF aB rfl rfl rfl),(bJ aB rfl rfl)⟩,List.forall_mem_cons.2 ⟨⟨rfl,rfl,(eP (eInt .i64) rfl),(bD (eInt .i64))⟩,List.forall_mem_nil _⟩⟩⟩ (nR _ _ _ _ _ _ _ _ _ _ hx454) rfl rfl (List.forall_mem_cons.2 ⟨⟨rfl,(bJ aB rfl rfl)⟩,List.forall_mem_cons.2 ⟨⟨rfl,(bD (eInt .i64))⟩,List.forall_mem_nil _⟩⟩) (by simp only [List.map_cons,List.map_nil,Ent.ren,bE,bK,bP]; rfl)) <|aC ?_)
       obtain ⟨x455,hx455,h⟩:=aR h
       refine aD (aA rfl (mvR rfl rfl rfl rfl) <|aA rfl (bO (r':=.osl 4 aJ.sz x455.length) (H1':=[(1,.blk 60 (mixD aB.toEnc0 (w20 x454.2.1 x454.2.2.1 x454.2.2.2.1 x454.2.2.2.2.1 x454.2.2.2.2.2.1) x454.2.2.2.2.2.2.1 [.int .i64 x454.2.2.2.2.2.2.2.1,.osl 3 (eInt .i64).sz x454.2.2.2.2.2.2.2.2.length])),(3,.blk 3 (D.flat (x454.2.2.2.2.2.2.2.2.map (eInt .i64).d))),(4,.blk 40 (D.flat (x455.map aJ.d)))]) 4 [1,3] rfl rfl (lb rfl) cl9 (.cons (svR rfl) .nil) rfl rfl ⟨rfl,rfl,by decide,rfl,List.forall_mem_cons.2 ⟨⟨rfl,rfl,(fF aB rfl rfl rfl),(bJ aB rfl rfl)⟩,List.forall_mem_cons.2 ⟨⟨rfl,rfl,(eP (eInt .i64) rfl),(bD (eInt .i64))⟩,List.forall_mem_nil _⟩⟩⟩ (kX _ _ _ _ _ _ _ _ _ hx455) rfl rfl (List.forall_mem_cons.2 ⟨⟨rfl,(bJ aB rfl rfl)⟩,List.forall_mem_cons.2 ⟨⟨rfl,(bD (eInt .i64))⟩,List.forall_mem_cons.2 ⟨⟨rfl,(bD aJ)⟩,List.forall_mem_nil _⟩⟩⟩) (by simp only [List.map_cons,List.map_nil,Ent.ren,bE,bK,bP]; rfl)) <|aA rfl (aG rfl rfl (lb rfl) (sv (d:=.osl _ _ _) rfl)) <|aC ?_)
       obtain ⟨x456,hx456,h⟩:=aR h
       refine aD (aA rfl (mvR rfl rfl rfl rfl) <|aA rfl (bO (r':=.osl 5 (eInt .i64).sz x456.length) (H1':=[(1,.blk 60 (mixD aB.toEnc0 (w20 x454.2.1 x454.2.2.1 x454.2.2.2.1 x454.2.2.2.2.1 x454.2.2.2.2.2.1) x454.2.2.2.2.2.2.1 [.int .i64 x454.2.2.2.2.2.2.2.1,.osl 3 (eInt .i64).sz x454.2.2.2.2.2.2.2.2.length])),(3,.blk 3 (D.flat (x454.2.2.2.2.2.2.2.2.map (eInt .i64).d))),(5,.blk 3 (D.flat (x456.map (eInt .i64).d)))]) 5 [1,3] rfl rfl (lb rfl) cl10 (.cons (svR rfl) .nil) rfl rfl ⟨rfl,rfl,by decide,rfl,List.forall_mem_cons.2 ⟨⟨rfl,rfl,(fF aB rfl rfl rfl),(bJ aB rfl rfl)⟩,List.forall_mem_cons.2 ⟨⟨rfl,rfl,(eP (eInt .i64) rfl),(bD (eInt .i64))⟩,List.forall_mem_nil _⟩⟩⟩ (iZ _ _ _ _ _ _ _ _ _ hx456) rfl rfl (List.forall_mem_cons.2 ⟨⟨rfl,(bJ aB rfl rfl)⟩,List.forall_mem_cons.2 ⟨⟨rfl,(bD (eInt .i64))⟩,List.forall_mem_cons.2 ⟨⟨rfl,(bD (eInt .i64))⟩,List.forall_mem_nil _⟩⟩⟩) (by simp only [List.map_cons,List.map_nil,Ent.ren,bE,bK,bP]; rfl)) <|aA rfl (aG rfl rfl (lb rfl) (sv (d:=.osl _ _ _) rfl)) <|aC ?_)
       refine aT ?_
       obtain ⟨x457,hx457,h⟩:=aV h
       obtain ⟨x458,hx458,h⟩:=aR h
       obtain ⟨x459,hx459,h⟩:=aV h
       obtain ⟨x460,hx460,h⟩:=aV h
       obtain ⟨x461,hx461,h⟩:=aV h
       obtain ⟨x462,hx462,h⟩:=aR h
       obtain ⟨x463,hx463,h⟩:=aV h
       obtain ⟨x464,hx464,h⟩:=aV h
       refine aD (aA rfl (aN rfl rfl (lb rfl) (sv (d:=.osl _ _ _) rfl)) <|aA rfl (fJ rfl rfl (lb rfl) Try.underlying28 (sv (d:=.osl _ _ _) rfl)) <|aA rfl (aQ rfl rfl (lb rfl) (svI rfl) (sv (d:=.int _ 9) rfl) rfl hx457) <|aA rfl (mvB rfl rfl rfl rfl) <|aK rfl rfl (.one rfl) rfl (by decide) (fun hb=>(aN rfl rfl (lb rfl) (sv (d:=.osl _ _ _) rfl))) <|aK rfl rfl (.one rfl) rfl (by decide) (fun hb=>(fJ rfl rfl (lb rfl) Try.underlying24 (svc (d:=.osl _ _ _) rfl hb))) <|aK rfl rfl (.one rfl) rfl (by decide) (fun hb=>(mvI rfl rfl rfl rfl)) <|aK rfl rfl (.one rfl) rfl (by decide) (fun hb=>(sG rfl rfl (lb rfl) (svcI rfl hb) (sv (d:=.int _ 10) rfl) (gd_t hx458 hb))) <|aK rfl rfl (.one rfl) rfl (by decide) (fun hb=>(oU rfl rfl (lb rfl) ⟨_,Try.underlying5⟩ Try.underlying3 (svcI rfl hb) hx459)) <|aK rfl rfl (.one rfl) rfl (by decide) (fun hb=>(aQ rfl rfl (lb rfl) (svcI rfl hb) (svcI rfl hb) rfl hx460)) <|aA rfl (iM rfl rfl (lb rfl) (svB rfl) rfl rfl hx461) <|aA rfl (mvB rfl rfl rfl rfl) <|aK rfl rfl (.one rfl) rfl (by decide) (fun hb=>(mvR rfl rfl rfl rfl)) <|aK rfl rfl (.one rfl) rfl (by decide) (fun hb=>(fE (r':=.int .i64 x462) (V:=[(1,.blk 60 (mixD aB.toEnc0 (w20 x454.2.1 x454.2.2.1 x454.2.2.2.1 x454.2.2.2.2.1 x454.2.2.2.2.2.1) x454.2.2.2.2.2.2.1 [.int .i64 x454.2.2.2.2.2.2.2.1,.osl 3 (eInt .i64).sz x454.2.2.2.2.2.2.2.2.length])),(3,.blk 3 (D.flat (x454.2.2.2.2.2.2.2.2.map (eInt .i64).d)))]) 6 [1,3] rfl rfl (lb rfl) cl14 (.cons (svcR rfl hb) .nil) rfl rfl rfl ⟨by decide,rfl,List.forall_mem_cons.2 ⟨⟨rfl,rfl,(fF aB rfl rfl rfl),(bJ aB rfl rfl)⟩,List.forall_mem_cons.2 ⟨⟨rfl,rfl,(eP (eInt .i64) rfl),(bD (eInt .i64))⟩,List.forall_mem_nil _⟩⟩⟩ (iV _ _ _ _ _ _ _ _ _ (gd_t hx462 hb)) rfl rfl (List.forall_mem_cons.2 ⟨⟨rfl,(bJ aB rfl rfl)⟩,List.forall_mem_cons.2 ⟨⟨rfl,(bD (eInt .i64))⟩,List.forall_mem_nil _⟩⟩) (by simp only [List.map_cons,List.map_nil,Ent.ren,bE,bK,bP]; rfl) (List.forall_mem_cons.2 ⟨rfl,List.forall_mem_cons.2 ⟨rfl,List.forall_mem_nil _⟩⟩) rfl)) <|aK rfl rfl (.one rfl) rfl (by decide) (fun hb=>(aN rfl rfl (lb rfl) (sv (d:=.osl _ _ _) rfl))) <|aK rfl rfl (.one rfl) rfl (by decide) (fun hb=>(fJ rfl rfl (lb rfl) Try.underlying28 (svc (d:=.osl _ _ _) rfl hb))) <|aK rfl rfl (.one rfl) rfl (by decide) (fun hb=>(aQ rfl rfl (lb rfl) (svcI rfl hb) (svcI rfl hb) rfl hx463)) <|aA rfl (iM rfl rfl (lb rfl) (svB rfl) rfl rfl hx464) <|aC ?_)
       refine aW (b:=_) rfl (fun hc465=>?_) (fun hc465=>?_)
       ·
        replace h:=cE h hc465
        refine aD (aA rfl (aG rfl rfl (lb rfl) (sv (d:=.bool false) rfl)) <|aC ?_)
        refine bA ?_
        refine bH ?_
        refine cS ?_
        refine bH ?_
        refine bH ?_
        refine cS ?_
        refine bH ?_
        obtain rfl:=Option.some.inj h
        refine ⟨.inr rfl,(.cons (sv rfl) .nil)⟩
       ·
        replace h:=cF h hc465
        refine aS ?_
        refine aM ?_
        obtain ⟨x466,hx466,h⟩:=aR h
        refine aD (aA rfl (mvR rfl rfl rfl rfl) <|aA rfl (bO (r':=.osl 6 (eInt .i64).sz x466.length) (H1':=[(1,.blk 60 (mixD aB.toEnc0 (w20 x454.2.1 x454.2.2.1 x454.2.2.2.1 x454.2.2.2.2.1 x454.2.2.2.2.2.1) x454.2.2.2.2.2.2.1 [.int .i64 x454.2.2.2.2.2.2.2.1,.osl 3 (eInt .i64).sz x454.2.2.2.2.2.2.2.2.length])),(3,.blk 3 (D.flat (x454.2.2.2.2.2.2.2.2.map (eInt .i64).d))),(6,.blk 3 (D.flat (x466.map (eInt .i64).d)))]) 6 [1,3] rfl rfl (lb rfl) cl12 (.cons (svR rfl) (.cons (sv (d:=.int _ 0) rfl) .nil)) rfl rfl ⟨rfl,rfl,by decide,rfl,List.forall_mem_cons.2 ⟨⟨rfl,rfl,(fF aB rfl rfl rfl),(bJ aB rfl rfl)⟩,List.forall_mem_cons.2 ⟨⟨rfl,rfl,(eP (eInt .i64) rfl),(bD (eInt .i64))⟩,List.forall_mem_nil _⟩⟩⟩ (jP _ _ _ _ _ _ _ _ _ _ hx466) rfl rfl (List.forall_mem_cons.2 ⟨⟨rfl,(bJ aB rfl rfl)⟩,List.forall_mem_cons.2 ⟨⟨rfl,(bD (eInt .i64))⟩,List.forall_mem_cons.2 ⟨⟨rfl,(bD (eInt .i64))⟩,List.forall_mem_nil _⟩⟩⟩) (by simp only [List.map_cons,List.map_nil,Ent.ren,bE,bK,bP]; rfl)) <|aA rfl (fJ rfl rfl (lb rfl) Try.underlying24 (sv (d:=.osl _ _ _) rfl)) <|aA rfl (asI rfl rfl rfl rfl) <|aA rfl (aG rfl rfl (lb rfl) (sv (d:=.int _ 0) rfl)) <|aC ?_)
        refine aT ?_
        refine aD (aA rfl (aG rfl rfl (lb rfl) (sv (d:=.int _ 0) rfl)) <|aC ?_)
        refine aZ ?_
        refine cT (α:=Nat × Int × Int × Int) (fun z=>⟨[(0,.slice false (a0.map cK.d)),(1,.int .u8 a1),(5,.ref 1 0),(7,.int .i64 v229),(8,.osl 4 aJ.sz x455.length),(9,.osl 5 (eInt .i64).sz x456.length),(10,.int .i64 z.2.1),(11,.int .i64 z.2.2.1),(12,.int .i64 z.2.2.2)],[(1,.blk 60 (mixD aB.toEnc0 (w20 x454.2.1 x454.2.2.1 x454.2.2.2.1 x454.2.2.2.2.1 x454.2.2.2.2.2.1) x454.2.2.2.2.2.2.1 [.int .i64 x454.2.2.2.2.2.2.2.1,.osl 3 (eInt .i64).sz x454.2.2.2.2.2.2.2.2.length])),(4,.blk 40 (D.flat (x455.map aJ.d))),(5,.blk 3 (D.flat (x456.map (eInt .i64).d))),(3,.blk 3 (D.flat (x454.2.2.2.2.2.2.2.2.map (eInt .i64).d)))]⟩) (fun z=>bW v229 (bY a0 a1 n0) x454 x455 x456 z.1 z.2.1 z.2.2.1 z.2.2.2 = some r) (fun z=>z.1) (fuel,(x466.length : Int),0,0) (fun i=>i) ⟨(.sames rfl rfl),(.cons (EntW.mix aB rfl (SubC.of_eq rfl) (SubC.of_eq rfl) rfl rfl) (.cons (EntW.lst rfl) (.cons (EntW.lst rfl) (.cons (EntW.lst rfl) .nil)))),bB [1,4,5,3] rfl (by decide),fun _ _=>rfl⟩ ?_ ?_
        ·exact h
        ·
         rintro ⟨n1,v530,v531,v532⟩ h
         cases n1 with
         | zero=>exact absurd h (by unfold bW; exact nofun)
         | succ n1 =>
          unfold bW at h
          refine aT ?_
          obtain ⟨x596,hx596,h⟩:=aV h
          refine aD (aA rfl (mvI rfl rfl rfl rfl) <|aA rfl (aN rfl rfl (lb rfl) (sv (d:=.osl _ _ _) rfl)) <|aA rfl (fJ rfl rfl (lb rfl) Try.underlying28 (sv (d:=.osl _ _ _) rfl)) <|aA rfl (aQ rfl rfl (lb rfl) (svI rfl) (svI rfl) rfl hx596) <|aC ?_)
          refine aW (b:=_) rfl (fun hc597=>?_) (fun hc597=>?_)
          ·
           replace h:=cE h hc597
           refine aS ?_
           refine aM ?_
           refine aT ?_
           refine aZ ?_
           obtain ⟨x598,hx598,h⟩:=aR h
           obtain ⟨x599,hx599,h⟩:=aR h
           obtain ⟨x600,hx600,h⟩:=aR h
           refine aD (aA rfl (mvR rfl rfl rfl rfl) <|aA rfl (aN rfl rfl (lb rfl) (sv (d:=.osl _ _ _) rfl)) <|aA rfl (mvI rfl rfl rfl rfl) <|aA rfl (eS aJ.toEnc0 rfl rfl (lb rfl) Try.underlying28 ti40 (sv (d:=.osl _ _ _) rfl) rfl (svI rfl) hx598) <|aA rfl (fR rfl rfl (lb rfl) Try.underlying40 rfl ti3 (by decide) (svR rfl) (k':=0) rfl) <|aA rfl (dQ aJ.toEnc0 (d:=.int _ _) rfl rfl (lb rfl) Try.underlying3 ag3 ti3 (by decide) (svR rfl) rfl hx599 (nle rfl) rfl) <|aA rfl (bO (r':=.osl 6 (eInt .i64).sz x600.length) (H1':=[(1,.blk 60 (mixD aB.toEnc0 (w20 x454.2.1 x454.2.2.1 x454.2.2.2.1 x454.2.2.2.2.1 x454.2.2.2.2.2.1) x454.2.2.2.2.2.2.1 [.int .i64 x454.2.2.2.2.2.2.2.1,.osl 3 (eInt .i64).sz x454.2.2.2.2.2.2.2.2.length])),(3,.blk 3 (D.flat (x454.2.2.2.2.2.2.2.2.map (eInt .i64).d))),(6,.blk 3 (D.flat (x600.map (eInt .i64).d)))]) 6 [1,3] rfl rfl (lb rfl) cl11 (.cons (svR rfl) (.cons (svI rfl) .nil)) rfl rfl ⟨rfl,rfl,by decide,rfl,List.forall_mem_cons.2 ⟨⟨rfl,rfl,(fF aB rfl rfl rfl),(bJ aB rfl rfl)⟩,List.forall_mem_cons.2 ⟨⟨rfl,rfl,(eP (eInt .i64) rfl),(bD (eInt .i64))⟩,List.forall_mem_nil _⟩⟩⟩ (lG _ _ _ _ _ _ _ _ _ _ hx600) rfl rfl (List.forall_mem_cons.2 ⟨⟨rfl,(bJ aB rfl rfl)⟩,List.forall_mem_cons.2 ⟨⟨rfl,(bD (eInt .i64))⟩,List.forall_mem_cons.2 ⟨⟨rfl,(bD (eInt .i64))⟩,List.forall_mem_nil _⟩⟩⟩) (by simp only [List.map_cons,List.map_nil,Ent.ren,bE,bK,bP]; rfl)) <|aA rfl (aG rfl rfl (lb rfl) (sv (d:=.osl _ _ _) rfl)) <|aC ?_)
           obtain ⟨x601,hx601,h⟩:=aR h
           obtain ⟨x602,hx602,h⟩:=aR h
           obtain ⟨x603,hx603,h⟩:=aR h
           obtain ⟨x604,hx604,h⟩:=aV h
           refine aD (aA rfl (mvI rfl rfl rfl rfl) <|aA rfl (mvR rfl rfl rfl rfl) <|aA rfl (aN rfl rfl (lb rfl) (sv (d:=.osl _ _ _) rfl)) <|aA rfl (mvI rfl rfl rfl rfl) <|aA rfl (eS aJ.toEnc0 rfl rfl (lb rfl) Try.underlying28 ti40 (sv (d:=.osl _ _ _) rfl) rfl (svI rfl) hx601) <|aA rfl (fR rfl rfl (lb rfl) Try.underlying40 rfl ti3 (by decide) (svR rfl) (k':=0) rfl) <|aA rfl (dQ aJ.toEnc0 (d:=.int _ _) rfl rfl (lb rfl) Try.underlying3 ag3 ti3 (by decide) (svR rfl) rfl hx602 (nle rfl) rfl) <|aA rfl (bO (r':=.osl 7 (eInt .i64).sz x603.length) (H1':=[(1,.blk 60 (mixD aB.toEnc0 (w20 x454.2.1 x454.2.2.1 x454.2.2.2.1 x454.2.2.2.2.1 x454.2.2.2.2.2.1) x454.2.2.2.2.2.2.1 [.int .i64 x454.2.2.2.2.2.2.2.1,.osl 3 (eInt .i64).sz x454.2.2.2.2.2.2.2.2.length])),(3,.blk 3 (D.flat (x454.2.2.2.2.2.2.2.2.map (eInt .i64).d))),(7,.blk 3 (D.flat (x603.map (eInt .i64).d)))]) 7 [1,3] rfl rfl (lb rfl) cl12 (.cons (svR rfl) (.cons (svI rfl) .nil)) rfl rfl ⟨rfl,rfl,by decide,rfl,List.forall_mem_cons.2 ⟨⟨rfl,rfl,(fF aB rfl rfl rfl),(bJ aB rfl rfl)⟩,List.forall_mem_cons.2 ⟨⟨rfl,rfl,(eP (eInt .i64) rfl),(bD (eInt .i64))⟩,List.forall_mem_nil _⟩⟩⟩ (jP _ _ _ _ _ _ _ _ _ _ hx603) rfl rfl (List.forall_mem_cons.2 ⟨⟨rfl,(bJ aB rfl rfl)⟩,List.forall_mem_cons.2 ⟨⟨rfl,(bD (eInt .i64))⟩,List.forall_mem_cons.2 ⟨⟨rfl,(bD (eInt .i64))⟩,List.forall_mem_nil _⟩⟩⟩) (by simp only [List.map_cons,List.map_nil,Ent.ren,bE,bK,bP]; rfl)) <|aA rfl (fJ rfl rfl (lb rfl) Try.underlying24 (sv (d:=.osl _ _ _) rfl)) <|aA rfl (cP rfl rfl (lb rfl) (svI rfl) (svI rfl) rfl hx604) <|aA rfl (asI rfl rfl rfl rfl) <|aC ?_)
           refine aT ?_
           obtain ⟨x605,hx605,h⟩:=aV h
           obtain ⟨x606,hx606,h⟩:=aV h
           obtain ⟨x607,hx607,h⟩:=aR h
           obtain ⟨x608,hx608,h⟩:=aR h
           obtain ⟨x609,hx609,h⟩:=aR h
           obtain ⟨x610,hx610,h⟩:=aR h
           obtain ⟨x611,hx611,h⟩:=aV h
           obtain ⟨x612,hx612,h⟩:=aV h
           obtain ⟨x613,hx613,h⟩:=aR h
           obtain ⟨x614,hx614,h⟩:=aR h
           obtain ⟨x615,hx615,h⟩:=aV h
           obtain ⟨x616,hx616,h⟩:=aV h
           obtain ⟨x617,hx617,h⟩:=aR h
           obtain ⟨x618,hx618,h⟩:=aR h
           obtain ⟨x619,hx619,h⟩:=aV h
           obtain ⟨x620,hx620,h⟩:=aV h
           obtain ⟨x621,hx621,h⟩:=aV h
           obtain ⟨x622,hx622,h⟩:=aV h
           obtain ⟨x623,hx623,h⟩:=aR h
           obtain ⟨x624,hx624,h⟩:=aR h
           obtain ⟨x625,hx625,h⟩:=aR h
           obtain ⟨x626,hx626,h⟩:=aR h
           obtain ⟨x627,hx627,h⟩:=aR h
           obtain ⟨x628,hx628,h⟩:=aV h
           obtain ⟨x629,hx629,h⟩:=aV h
           obtain ⟨x630,hx630,h⟩:=aR h
           obtain ⟨x631,hx631,h⟩:=aR h
           obtain ⟨x632,hx632,h⟩:=aR h
           obtain ⟨x633,hx633,h⟩:=aV h
           refine kB rfl [⟨[12],[],[(91,.int .i64 v532)],[]⟩,
            ⟨[91],[],[(92,.bool x605)],[]⟩,
            ⟨[92],[],[(93,.bool x605)],[]⟩,
            ⟨[8,93],[],[(94,.cnd (x605 == true) (.osl 4 aJ.sz x455.length))],[]⟩,
            ⟨[12,93],[],[(95,.cnd (x605 == true) (.int .i64 v532))],[]⟩,
            ⟨[93,95],[],[(96,.cnd (x605 == true) (.int .i64 x606))],[]⟩,
            ⟨[93,94,96],[],[(97,.cnd (x605 == true) (.ref 4 (((x606 : Int).toNat) * aJ.sz + 0)))],[]⟩,
            ⟨[93,97],[],[(98,.cnd (x605 == true) (.ref 4 (((x606 : Int).toNat) * aJ.sz + 0)))],[]⟩,
            ⟨[93,98],[4],[(99,.cnd (x605 == true) (.int .i64 x608.ID))],[]⟩,
            ⟨[8,93],[],[(100,.cnd (x605 == true) (.osl 4 aJ.sz x455.length))],[]⟩,
            ⟨[12,93],[],[(101,.cnd (x605 == true) (.int .i64 v532))],[]⟩,
            ⟨[93,100,101],[],[(102,.cnd (x605 == true) (.ref 4 (((v532 : Int).toNat) * aJ.sz + 0)))],[]⟩,
            ⟨[93,102],[],[(103,.cnd (x605 == true) (.ref 4 (((v532 : Int).toNat) * aJ.sz + 0)))],[]⟩,
            ⟨[93,103],[4],[(104,.cnd (x605 == true) (.int .i64 x610.ID))],[]⟩,
            ⟨[93,99,104],[],[(105,.cnd (x605 == true) (.bool x611))],[]⟩,
            ⟨[93,105],[],[(106,.bool x612)],[]⟩,
            ⟨[106],[],[(107,.bool x612)],[]⟩,
            ⟨[8,107],[],[(108,.cnd (x612 == false) (.osl 4 aJ.sz x455.length))],[]⟩,
            ⟨[12,107],[],[(109,.cnd (x612 == false) (.int .i64 v532))],[]⟩,
            ⟨[107,108,109],[],[(110,.cnd (x612 == false) (.ref 4 (((v532 : Int).toNat) * aJ.sz + 0)))],[]⟩,
            ⟨[107,110],[],[(111,.cnd (x612 == false) (.ref 4 (((v532 : Int).toNat) * aJ.sz + 2)))],[]⟩,
            ⟨[107,111],[4],[(112,.cnd (x612 == false) (.int .i64 x614.Weight))],[]⟩,
            ⟨[107,112],[],[(113,.cnd (x612 == false) (.bool x615))],[]⟩,
            ⟨[107,113],[],[(114,.bool x616)],[]⟩,
            ⟨[114],[],[(115,.bool x616)],[]⟩,
            ⟨[8,115],[],[(116,.cnd (x616 == false) (.osl 4 aJ.sz x455.length))],[]⟩,
            ⟨[12,115],[],[(117,.cnd (x616 == false) (.int .i64 v532))],[]⟩,
            ⟨[115,116,117],[],[(118,.cnd (x616 == false) (.ref 4 (((v532 : Int).toNat) * aJ.sz + 0)))],[]⟩,
            ⟨[115,118],[],[(119,.cnd (x616 == false) (.ref 4 (((v532 : Int).toNat) * aJ.sz + 2)))],[]⟩,
            ⟨[115,119],[4],[(120,.cnd (x616 == false) (.int .i64 x618.Weight))],[]⟩,
            ⟨[115,120],[],[(121,.cnd (x616 == false) (.bool x619))],[]⟩,
            ⟨[115,121],[],[(122,.bool x620)],[]⟩,
            ⟨[122],[],[(123,.bool x620)],[]⟩,
            ⟨[13,123],[],[(124,.cnd (x620 == false) (.osl 6 (eInt .i64).sz x600.length))],[]⟩,
            ⟨[123,124],[],[(125,.cnd (x620 == false) (.int .i64 (x600.length : Int)))],[]⟩,
            ⟨[8,123],[],[(126,.cnd (x620 == false) (.osl 4 aJ.sz x455.length))],[]⟩,
            ⟨[123,126],[],[(127,.cnd (x620 == false) (.int .i64 (x455.length : Int)))],[]⟩,
            ⟨[123,125,127],[],[(128,.cnd (x620 == false) (.bool x621))],[]⟩,
            ⟨[123,128],[],[(129,.bool x622)],[]⟩,
            ⟨[129],[],[(130,.bool x622)],[]⟩,
            ⟨[8,130],[],[(131,.cnd (x622 == false) (.osl 4 aJ.sz x455.length))],[]⟩,
            ⟨[12,130],[],[(132,.cnd (x622 == false) (.int .i64 v532))],[]⟩,
            ⟨[130,131,132],[],[(133,.cnd (x622 == false) (.ref 4 (((v532 : Int).toNat) * aJ.sz + 0)))],[]⟩,
            ⟨[130,133],[],[(134,.cnd (x622 == false) (.ref 4 (((v532 : Int).toNat) * aJ.sz + 3)))],[]⟩,
            ⟨[130,134],[4],[(135,.cnd (x622 == false) (.bool x624.Closed))],[]⟩,
            ⟨[9,130],[],[(136,.cnd (x622 == false) (.osl 5 (eInt .i64).sz x456.length))],[]⟩,
            ⟨[8,130],[],[(137,.cnd (x622 == false) (.osl 4 aJ.sz x455.length))],[]⟩,
            ⟨[12,130],[],[(138,.cnd (x622 == false) (.int .i64 v532))],[]⟩,
            ⟨[130,137,138],[],[(139,.cnd (x622 == false) (.ref 4 (((v532 : Int).toNat) * aJ.sz + 0)))],[]⟩,
            ⟨[130,139],[],[(140,.cnd (x622 == false) (.ref 4 (((v532 : Int).toNat) * aJ.sz + 0)))],[]⟩,
            ⟨[130,140],[4],[(141,.cnd (x622 == false) (.int .i64 x626.ID))],[]⟩,
            ⟨[130,136,141],[5],[(142,.cnd (x622 == false) (.bool x627))],[]⟩,
            ⟨[130,135,142],[],[(143,.cnd (x622 == false) (.bool x628))],[]⟩,
            ⟨[130,143],[],[(144,.bool x629)],[]⟩,
            ⟨[144],[],[(145,.bool x629)],[]⟩,
            ⟨[13,145],[],[(146,.cnd (x629 == false) (.osl 6 (eInt .i64).sz x600.length))],[]⟩,
            ⟨[8,145],[],[(147,.cnd (x629 == false) (.osl 4 aJ.sz x455.length))],[]⟩,
            ⟨[12,145],[],[(148,.cnd (x629 == false) (.int .i64 v532))],[]⟩,
            ⟨[145,147,148],[],[(149,.cnd (x629 == false) (.ref 4 (((v532 : Int).toNat) * aJ.sz + 0)))],[]⟩,
            ⟨[145,149],[],[(150,.cnd (x629 == false) (.ref 4 (((v532 : Int).toNat) * aJ.sz + 0)))],[]⟩,
            ⟨[145,150],[4],[(151,.cnd (x629 == false) (.int .i64 x631.ID))],[]⟩,
            ⟨[145,146,151],[6],[(152,.cnd (x629 == false) (.bool x632))],[]⟩,
            ⟨[145,152],[],[(153,.bool x633)],[]⟩] rfl ?_ (by kernel_rfl) ?_
           ·refine .cons (lop rfl rfl fun S hA=>(aN rfl rfl (lb rfl) (svaI hA rfl rfl))) ?_
            refine .cons (lop rfl rfl fun S hA=>(aQ rfl rfl (lb rfl) (svaI hA rfl rfl) (sv (d:=.int _ 0) rfl) rfl hx605)) ?_
            refine .cons (lop rfl rfl fun S hA=>(aN rfl rfl (lb rfl) (svaB hA rfl rfl))) ?_
            refine .cons (lopg rfl rfl rfl rfl (by decide) (fun S hA=>grd1 hA rfl rfl) (fun S hA hb=>(aN rfl rfl (lb rfl) (sv (d:=.osl _ _ _) (agr hA rfl rfl))))) ?_
            refine .cons (lopg rfl rfl rfl rfl (by decide) (fun S hA=>grd1 hA rfl rfl) (fun S hA hb=>(aN rfl rfl (lb rfl) (svaI hA rfl rfl)))) ?_
            refine .cons (lopg rfl rfl rfl rfl (by decide) (fun S hA=>grd1 hA rfl rfl) (fun S hA hb=>(cP rfl rfl (lb rfl) (svc (d:=.int _ _) (agr hA rfl rfl) hb) (sv (d:=.int _ 1) rfl) rfl hx606))) ?_
            refine .cons (lopg rfl rfl rfl rfl (by decide) (fun S hA=>grd1 hA rfl rfl) (fun S hA hb=>(eS aJ.toEnc0 rfl rfl (lb rfl) Try.underlying28 ti40 (svc (d:=.osl _ _ _) (agr hA rfl rfl) hb) rfl (svc (d:=.int _ _) (agr hA rfl rfl) hb) (gd_t hx607 hb)))) ?_
            refine .cons (lopg rfl rfl rfl rfl (by decide) (fun S hA=>grd1 hA rfl rfl) (fun S hA hb=>(fR rfl rfl (lb rfl) Try.underlying40 rfl ti3 (by decide) (svc (d:=.ref _ _) (agr hA rfl rfl) hb) (k':=0) rfl))) ?_
            refine .cons (lopg rfl rfl rfl rfl (by decide) (fun S hA=>grd1 hA rfl rfl) (fun S hA hb=>(dQ aJ.toEnc0 (d:=.int _ _) rfl rfl (lb rfl) Try.underlying3 ag3 ti3 (by decide) (svc (d:=.ref _ _) (agr hA rfl rfl) hb) (agi hA rfl rfl) (gd_t hx608 hb) (nle rfl) rfl))) ?_
            refine .cons (lopg rfl rfl rfl rfl (by decide) (fun S hA=>grd1 hA rfl rfl) (fun S hA hb=>(aN rfl rfl (lb rfl) (sv (d:=.osl _ _ _) (agr hA rfl rfl))))) ?_
            refine .cons (lopg rfl rfl rfl rfl (by decide) (fun S hA=>grd1 hA rfl rfl) (fun S hA hb=>(aN rfl rfl (lb rfl) (svaI hA rfl rfl)))) ?_
            refine .cons (lopg rfl rfl rfl rfl (by decide) (fun S hA=>grd1 hA rfl rfl) (fun S hA hb=>(eS aJ.toEnc0 rfl rfl (lb rfl) Try.underlying28 ti40 (svc (d:=.osl _ _ _) (agr hA rfl rfl) hb) rfl (svc (d:=.int _ _) (agr hA rfl rfl) hb) (gd_t hx609 hb)))) ?_
            refine .cons (lopg rfl rfl rfl rfl (by decide) (fun S hA=>grd1 hA rfl rfl) (fun S hA hb=>(fR rfl rfl (lb rfl) Try.underlying40 rfl ti3 (by decide) (svc (d:=.ref _ _) (agr hA rfl rfl) hb) (k':=0) rfl))) ?_
            refine .cons (lopg rfl rfl rfl rfl (by decide) (fun S hA=>grd1 hA rfl rfl) (fun S hA hb=>(dQ aJ.toEnc0 (d:=.int _ _) rfl rfl (lb rfl) Try.underlying3 ag3 ti3 (by decide) (svc (d:=.ref _ _) (agr hA rfl rfl) hb) (agi hA rfl rfl) (gd_t hx610 hb) (nle rfl) rfl))) ?_
            refine .cons (lopg rfl rfl rfl rfl (by decide) (fun S hA=>grd1 hA rfl rfl) (fun S hA hb=>(aQ rfl rfl (lb rfl) (svc (d:=.int _ _) (agr hA rfl rfl) hb) (svc (d:=.int _ _) (agr hA rfl rfl) hb) rfl hx611))) ?_
            refine .cons (lop rfl rfl fun S hA=>(cH rfl rfl (lb rfl) (svaB hA rfl rfl) (agr hA rfl rfl) rfl hx612)) ?_
            refine .cons (lop rfl rfl fun S hA=>(aN rfl rfl (lb rfl) (svaB hA rfl rfl))) ?_
            refine .cons (lopg rfl rfl rfl rfl (by decide) (fun S hA=>grd1 hA rfl rfl) (fun S hA hb=>(aN rfl rfl (lb rfl) (sv (d:=.osl _ _ _) (agr hA rfl rfl))))) ?_
            refine .cons (lopg rfl rfl rfl rfl (by decide) (fun S hA=>grd1 hA rfl rfl) (fun S hA hb=>(aN rfl rfl (lb rfl) (svaI hA rfl rfl)))) ?_
            refine .cons (lopg rfl rfl rfl rfl (by decide) (fun S hA=>grd1 hA rfl rfl) (fun S hA hb=>(eS aJ.toEnc0 rfl rfl (lb rfl) Try.underlying28 ti40 (svc (d:=.osl _ _ _) (agr hA rfl rfl) hb) rfl (svc (d:=.int _ _) (agr hA rfl rfl) hb) (gd_t hx613 hb)))) ?_
            refine .cons (lopg rfl rfl rfl rfl (by decide) (fun S hA=>grd1 hA rfl rfl) (fun S hA hb=>(fR rfl rfl (lb rfl) Try.underlying40 rfl ti3 (by decide) (svc (d:=.ref _ _) (agr hA rfl rfl) hb) (k':=2) rfl))) ?_
            refine .cons (lopg rfl rfl rfl rfl (by decide) (fun S hA=>grd1 hA rfl rfl) (fun S hA hb=>(dQ aJ.toEnc0 (d:=.int _ _) rfl rfl (lb rfl) Try.underlying3 ag3 ti3 (by decide) (svc (d:=.ref _ _) (agr hA rfl rfl) hb) (agi hA rfl rfl) (gd_t hx614 hb) (nle rfl) rfl))) ?_
            refine .cons (lopg rfl rfl rfl rfl (by decide) (fun S hA=>grd1 hA rfl rfl) (fun S hA hb=>(aQ rfl rfl (lb rfl) (svc (d:=.int _ _) (agr hA rfl rfl) hb) (sv (d:=.int _ 1) rfl) rfl hx615))) ?_
            refine .cons (lop rfl rfl fun S hA=>(iM rfl rfl (lb rfl) (svaB hA rfl rfl) rfl (agr hA rfl rfl) hx616)) ?_
            refine .cons (lop rfl rfl fun S hA=>(aN rfl rfl (lb rfl) (svaB hA rfl rfl))) ?_
            refine .cons (lopg rfl rfl rfl rfl (by decide) (fun S hA=>grd1 hA rfl rfl) (fun S hA hb=>(aN rfl rfl (lb rfl) (sv (d:=.osl _ _ _) (agr hA rfl rfl))))) ?_
            refine .cons (lopg rfl rfl rfl rfl (by decide) (fun S hA=>grd1 hA rfl rfl) (fun S hA hb=>(aN rfl rfl (lb rfl) (svaI hA rfl rfl)))) ?_
            refine .cons (lopg rfl rfl rfl rfl (by decide) (fun S hA=>grd1 hA rfl rfl) (fun S hA hb=>(eS aJ.toEnc0 rfl rfl (lb rfl) Try.underlying28 ti40 (svc (d:=.osl _ _ _) (agr hA rfl rfl) hb) rfl (svc (d:=.int _ _) (agr hA rfl rfl) hb) (gd_t hx617 hb)))) ?_
            refine .cons (lopg rfl rfl rfl rfl (by decide) (fun S hA=>grd1 hA rfl rfl) (fun S hA hb=>(fR rfl rfl (lb rfl) Try.underlying40 rfl ti3 (by decide) (svc (d:=.ref _ _) (agr hA rfl rfl) hb) (k':=2) rfl))) ?_
            refine .cons (lopg rfl rfl rfl rfl (by decide) (fun S hA=>grd1 hA rfl rfl) (fun S hA hb=>(dQ aJ.toEnc0 (d:=.int _ _) rfl rfl (lb rfl) Try.underlying3 ag3 ti3 (by decide) (svc (d:=.ref _ _) (agr hA rfl rfl) hb) (agi hA rfl rfl) (gd_t hx618 hb) (nle rfl) rfl))) ?_
            refine .cons (lopg rfl rfl rfl rfl (by decide) (fun S hA=>grd1 hA rfl rfl) (fun S hA hb=>(aQ rfl rfl (lb rfl) (svc (d:=.int _ _) (agr hA rfl rfl) hb) (sv (d:=.int _ 256) rfl) rfl hx619))) ?_
            refine .cons (lop rfl rfl fun S hA=>(iM rfl rfl (lb rfl) (svaB hA rfl rfl) rfl (agr hA rfl rfl) hx620)) ?_
            refine .cons (lop rfl rfl fun S hA=>(aN rfl rfl (lb rfl) (svaB hA rfl rfl))) ?_
            refine .cons (lopg rfl rfl rfl rfl (by decide) (fun S hA=>grd1 hA rfl rfl) (fun S hA hb=>(aN rfl rfl (lb rfl) (sv (d:=.osl _ _ _) (agr hA rfl rfl))))) ?_
            refine .cons (lopg rfl rfl rfl rfl (by decide) (fun S hA=>grd1 hA rfl rfl) (fun S hA hb=>(fJ rfl rfl (lb rfl) Try.underlying24 (svc (d:=.osl _ _ _) (agr hA rfl rfl) hb)))) ?_
            refine .cons (lopg rfl rfl rfl rfl (by decide) (fun S hA=>grd1 hA rfl rfl) (fun S hA hb=>(aN rfl rfl (lb rfl) (sv (d:=.osl _ _ _) (agr hA rfl rfl))))) ?_
            refine .cons (lopg rfl rfl rfl rfl (by decide) (fun S hA=>grd1 hA rfl rfl) (fun S hA hb=>(fJ rfl rfl (lb rfl) Try.underlying28 (svc (d:=.osl _ _ _) (agr hA rfl rfl) hb)))) ?_
            refine .cons (lopg rfl rfl rfl rfl (by decide) (fun S hA=>grd1 hA rfl rfl) (fun S hA hb=>(aQ rfl rfl (lb rfl) (svc (d:=.int _ _) (agr hA rfl rfl) hb) (svc (d:=.int _ _) (agr hA rfl rfl) hb) rfl hx621))) ?_
            refine .cons (lop rfl rfl fun S hA=>(iM rfl rfl (lb rfl) (svaB hA rfl rfl) rfl (agr hA rfl rfl) hx622)) ?_
            refine .cons (lop rfl rfl fun S hA=>(aN rfl rfl (lb rfl) (svaB hA rfl rfl))) ?_
            refine .cons (lopg rfl rfl rfl rfl (by decide) (fun S hA=>grd1 hA rfl rfl) (fun S hA hb=>(aN rfl rfl (lb rfl) (sv (d:=.osl _ _ _) (agr hA rfl rfl))))) ?_
            refine .cons (lopg rfl rfl rfl rfl (by decide) (fun S hA=>grd1 hA rfl rfl) (fun S hA hb=>(aN rfl rfl (lb rfl) (svaI hA rfl rfl)))) ?_
            refine .cons (lopg rfl rfl rfl rfl (by decide) (fun S hA=>grd1 hA rfl rfl) (fun S hA hb=>(eS aJ.toEnc0 rfl rfl (lb rfl) Try.underlying28 ti40 (svc (d:=.osl _ _ _) (agr hA rfl rfl) hb) rfl (svc (d:=.int _ _) (agr hA rfl rfl) hb) (gd_t hx623 hb)))) ?_
            refine .cons (lopg rfl rfl rfl rfl (by decide) (fun S hA=>grd1 hA rfl rfl) (fun S hA hb=>(fR rfl rfl (lb rfl) Try.underlying40 rfl ti4 (by decide) (svc (d:=.ref _ _) (agr hA rfl rfl) hb) (k':=3) rfl))) ?_
            refine .cons (lopg rfl rfl rfl rfl (by decide) (fun S hA=>grd1 hA rfl rfl) (fun S hA hb=>(dQ aJ.toEnc0 (d:=.bool _) rfl rfl (lb rfl) Try.underlying4 ag4 ti4 (by decide) (svc (d:=.ref _ _) (agr hA rfl rfl) hb) (agi hA rfl rfl) (gd_t hx624 hb) (nle rfl) rfl))) ?_
            refine .cons (lopg rfl rfl rfl rfl (by decide) (fun S hA=>grd1 hA rfl rfl) (fun S hA hb=>(aN rfl rfl (lb rfl) (sv (d:=.osl _ _ _) (agr hA rfl rfl))))) ?_
            refine .cons (lopg rfl rfl rfl rfl (by decide) (fun S hA=>grd1 hA rfl rfl) (fun S hA hb=>(aN rfl rfl (lb rfl) (sv (d:=.osl _ _ _) (agr hA rfl rfl))))) ?_
            refine .cons (lopg rfl rfl rfl rfl (by decide) (fun S hA=>grd1 hA rfl rfl) (fun S hA hb=>(aN rfl rfl (lb rfl) (svaI hA rfl rfl)))) ?_
            refine .cons (lopg rfl rfl rfl rfl (by decide) (fun S hA=>grd1 hA rfl rfl) (fun S hA hb=>(eS aJ.toEnc0 rfl rfl (lb rfl) Try.underlying28 ti40 (svc (d:=.osl _ _ _) (agr hA rfl rfl) hb) rfl (svc (d:=.int _ _) (agr hA rfl rfl) hb) (gd_t hx625 hb)))) ?_
            refine .cons (lopg rfl rfl rfl rfl (by decide) (fun S hA=>grd1 hA rfl rfl) (fun S hA hb=>(fR rfl rfl (lb rfl) Try.underlying40 rfl ti3 (by decide) (svc (d:=.ref _ _) (agr hA rfl rfl) hb) (k':=0) rfl))) ?_
            refine .cons (lopg rfl rfl rfl rfl (by decide) (fun S hA=>grd1 hA rfl rfl) (fun S hA hb=>(dQ aJ.toEnc0 (d:=.int _ _) rfl rfl (lb rfl) Try.underlying3 ag3 ti3 (by decide) (svc (d:=.ref _ _) (agr hA rfl rfl) hb) (agi hA rfl rfl) (gd_t hx626 hb) (nle rfl) rfl))) ?_
            refine .cons (lopg rfl rfl rfl rfl (by decide) (fun S hA=>grd1 hA rfl rfl) (fun S hA hb=>(iR (r:=.bool x627) rfl rfl (lb rfl) cl16 (.cons (svc (d:=.osl _ _ _) (agr hA rfl rfl) hb) (.cons (svc (d:=.int _ _) (agr hA rfl rfl) hb) .nil)) (.cons (FDT (eInt .i64) (agi hA rfl rfl) rfl) (.all _)) rfl rfl (mK _ _ _ (gd_t hx627 hb))))) ?_
            refine .cons (lopg rfl rfl rfl rfl (by decide) (fun S hA=>grd1 hA rfl rfl) (fun S hA hb=>(vF rfl rfl (lb rfl) Try.underlying4 (svc (d:=.bool _) (agr hA rfl rfl) hb) (svc (d:=.bool _) (agr hA rfl rfl) hb) hx628))) ?_
            refine .cons (lop rfl rfl fun S hA=>(iM rfl rfl (lb rfl) (svaB hA rfl rfl) rfl (agr hA rfl rfl) hx629)) ?_
            refine .cons (lop rfl rfl fun S hA=>(aN rfl rfl (lb rfl) (svaB hA rfl rfl))) ?_
            refine .cons (lopg rfl rfl rfl rfl (by decide) (fun S hA=>grd1 hA rfl rfl) (fun S hA hb=>(aN rfl rfl (lb rfl) (sv (d:=.osl _ _ _) (agr hA rfl rfl))))) ?_
            refine .cons (lopg rfl rfl rfl rfl (by decide) (fun S hA=>grd1 hA rfl rfl) (fun S hA hb=>(aN rfl rfl (lb rfl) (sv (d:=.osl _ _ _) (agr hA rfl rfl))))) ?_
            refine .cons (lopg rfl rfl rfl rfl (by decide) (fun S hA=>grd1 hA rfl rfl) (fun S hA hb=>(aN rfl rfl (lb rfl) (svaI hA rfl rfl)))) ?_
            refine .cons (lopg rfl rfl rfl rfl (by decide) (fun S hA=>grd1 hA rfl rfl) (fun S hA hb=>(eS aJ.toEnc0 rfl rfl (lb rfl) Try.underlying28 ti40 (svc (d:=.osl _ _ _) (agr hA rfl rfl) hb) rfl (svc (d:=.int _ _) (agr hA rfl rfl) hb) (gd_t hx630 hb)))) ?_
            refine .cons (lopg rfl rfl rfl rfl (by decide) (fun S hA=>grd1 hA rfl rfl) (fun S hA hb=>(fR rfl rfl (lb rfl) Try.underlying40 rfl ti3 (by decide) (svc (d:=.ref _ _) (agr hA rfl rfl) hb) (k':=0) rfl))) ?_
            refine .cons (lopg rfl rfl rfl rfl (by decide) (fun S hA=>grd1 hA rfl rfl) (fun S hA hb=>(dQ aJ.toEnc0 (d:=.int _ _) rfl rfl (lb rfl) Try.underlying3 ag3 ti3 (by decide) (svc (d:=.ref _ _) (agr hA rfl rfl) hb) (agi hA rfl rfl) (gd_t hx631 hb) (nle rfl) rfl))) ?_
            refine .cons (lopg rfl rfl rfl rfl (by decide) (fun S hA=>grd1 hA rfl rfl) (fun S hA hb=>(iR (r:=.bool x632) rfl rfl (lb rfl) cl16 (.cons (svc (d:=.osl _ _ _) (agr hA rfl rfl) hb) (.cons (svc (d:=.int _ _) (agr hA rfl rfl) hb) .nil)) (.cons (FDT (eInt .i64) (agi hA rfl rfl) rfl) (.all _)) rfl rfl (mK _ _ _ (gd_t hx632 hb))))) ?_
            refine .cons (lop rfl rfl fun S hA=>(iM rfl rfl (lb rfl) (svaB hA rfl rfl) rfl (agr hA rfl rfl) hx633)) ?_
            exact .nil
           refine aW (b:=_) rfl (fun hc634=>?_) (fun hc634=>?_)
           ·
            replace h:=cE h hc634
            refine aD (aA rfl (aG rfl rfl (lb rfl) (sv (d:=.bool false) rfl)) <|aC ?_)
            refine bA ?_
            refine bH ?_
            refine cS ?_
            refine bH ?_
            refine bH ?_
            refine cS ?_
            refine bH ?_
            refine cS ?_
            refine bH ?_
            refine bH ?_
            refine cS ?_
            refine bH ?_
            obtain rfl:=Option.some.inj h
            refine ⟨.inr rfl,(.cons (sv rfl) .nil)⟩
           ·
            replace h:=cF h hc634
            refine aS ?_
            refine aM ?_
            refine jN (α:=Int) (fun z=>⟨[(0,.slice false (a0.map cK.d)),(1,.int .u8 a1),(5,.ref 1 0),(7,.int .i64 v229),(8,.osl 4 aJ.sz x455.length),(9,.osl 5 (eInt .i64).sz x456.length),(10,.int .i64 x604),(11,.int .i64 z),(12,.int .i64 v532),(13,.osl 6 (eInt .i64).sz x600.length)],[(1,.blk 60 (mixD aB.toEnc0 (w20 x454.2.1 x454.2.2.1 x454.2.2.2.1 x454.2.2.2.2.1 x454.2.2.2.2.2.1) x454.2.2.2.2.2.2.1 [.int .i64 x454.2.2.2.2.2.2.2.1,.osl 3 (eInt .i64).sz x454.2.2.2.2.2.2.2.2.length])),(4,.blk 40 (D.flat (x455.map aJ.d))),(5,.blk 3 (D.flat (x456.map (eInt .i64).d))),(6,.blk 3 (D.flat (x600.map (eInt .i64).d))),(3,.blk 3 (D.flat (x454.2.2.2.2.2.2.2.2.map (eInt .i64).d)))]⟩) (fun z=>eF (bW v229 (bY a0 a1 n0) x454 x455 x456 n1) x455 v532 x600 x604 z = some r) ?_ ?_
            ·
             obtain ⟨x655,hx655,h⟩:=aR h
             obtain ⟨x656,hx656,h⟩:=aR h
             refine aD (aA rfl (aN rfl rfl (lb rfl) (sv (d:=.osl _ _ _) rfl)) <|aA rfl (mvI rfl rfl rfl rfl) <|aA rfl (eS aJ.toEnc0 rfl rfl (lb rfl) Try.underlying28 ti40 (sv (d:=.osl _ _ _) rfl) rfl (svI rfl) hx655) <|aA rfl (fR rfl rfl (lb rfl) Try.underlying40 rfl ti4 (by decide) (svR rfl) (k':=3) rfl) <|aA rfl (dQ aJ.toEnc0 (d:=.bool _) rfl rfl (lb rfl) Try.underlying4 ag4 ti4 (by decide) (svR rfl) rfl hx656 (nle rfl) rfl) <|aC ?_)
             refine aW (b:=_) rfl (fun hc657=>?_) (fun hc657=>?_)
             ·
              replace h:=cE h hc657
              obtain ⟨x658,hx658,h⟩:=aV h
              refine aY (aA rfl (mvI rfl rfl rfl rfl) <|aA rfl (cP rfl rfl (lb rfl) (svI rfl) (sv (d:=.int _ 1) rfl) rfl hx658) <|aA rfl (asI rfl rfl rfl rfl) <|bQ ?_)
              refine aM ⟨x658,(fun i=>i),⟨(.sames rfl rfl),(.cons (EntW.mix aB rfl (SubC.of_eq rfl) (SubC.of_eq rfl) rfl rfl) (.cons (EntW.lst rfl) (.cons (EntW.lst rfl) (.cons (EntW.lst rfl) (.cons (EntW.lst rfl) .nil))))),bB [1,4,5,6,3] rfl (by decide),fun _ _=>rfl⟩,?_⟩
              exact h
             ·
              replace h:=cF h hc657
              refine aS ?_
              refine aM ⟨v531,(fun i=>i),⟨(.sames rfl rfl),(.cons (EntW.mix aB rfl (SubC.of_eq rfl) (SubC.of_eq rfl) rfl rfl) (.cons (EntW.lst rfl) (.cons (EntW.lst rfl) (.cons (EntW.lst rfl) (.cons (EntW.lst rfl) .nil))))),bB [1,4,5,6,3] rfl (by decide),fun _ _=>rfl⟩,?_⟩
              exact h
            ·
             rintro v639 h
             unfold eF at h
             obtain ⟨x640,hx640,h⟩:=aV h
             obtain ⟨x641,hx641,h⟩:=aR h
             obtain ⟨x642,hx642,h⟩:=aR h
             obtain ⟨x643,hx643,h⟩:=aV h
             obtain ⟨x644,hx644,h⟩:=aV h
             obtain ⟨x645,hx645,h⟩:=aV h
             obtain ⟨x646,hx646,h⟩:=aR h
             obtain ⟨x647,hx647,h⟩:=aR h
             obtain ⟨x648,hx648,h⟩:=aR h
             obtain ⟨x649,hx649,h⟩:=aR h
             obtain ⟨x650,hx650,h⟩:=aV h
             obtain ⟨x651,hx651,h⟩:=aV h
             obtain ⟨x652,hx652,h⟩:=aV h
             refine kB rfl [⟨[13],[],[(161,.osl 6 (eInt .i64).sz x600.length)],[]⟩,
              ⟨[161],[],[(162,.int .i64 (x600.length : Int))],[]⟩,
              ⟨[162],[],[(163,.bool x640)],[]⟩,
              ⟨[8],[],[(164,.osl 4 aJ.sz x455.length)],[]⟩,
              ⟨[12],[],[(165,.int .i64 v532)],[]⟩,
              ⟨[164,165],[],[(166,.ref 4 (((v532 : Int).toNat) * aJ.sz + 0))],[]⟩,
              ⟨[166],[],[(167,.ref 4 (((v532 : Int).toNat) * aJ.sz + 1))],[]⟩,
              ⟨[167],[4],[(168,.int .i64 x642.Parent)],[]⟩,
              ⟨[168],[],[(169,.bool x643)],[]⟩,
              ⟨[163,169],[],[(170,.bool x644)],[]⟩,
              ⟨[170],[],[(171,.bool x644)],[]⟩,
              ⟨[13,171],[],[(172,.cnd (x644 == false) (.osl 6 (eInt .i64).sz x600.length))],[]⟩,
              ⟨[171,172],[],[(173,.cnd (x644 == false) (.int .i64 (x600.length : Int)))],[]⟩,
              ⟨[171,173],[],[(174,.cnd (x644 == false) (.bool x645))],[]⟩,
              ⟨[171,174],[],[(175,.cnd (x644 == false) (.bool x645))],[]⟩,
              ⟨[13,175],[],[(176,.cnd (((x644 == false) && (x645 == true))) (.osl 6 (eInt .i64).sz x600.length))],[]⟩,
              ⟨[175,176],[],[(177,.cnd (((x644 == false) && (x645 == true))) (.ref 6 (((0 : Int).toNat) * (eInt .i64).sz + 0)))],[]⟩,
              ⟨[175,177],[6],[(178,.cnd (((x644 == false) && (x645 == true))) (.int .i64 x647))],[]⟩,
              ⟨[8,175],[],[(179,.cnd (((x644 == false) && (x645 == true))) (.osl 4 aJ.sz x455.length))],[]⟩,
              ⟨[12,175],[],[(180,.cnd (((x644 == false) && (x645 == true))) (.int .i64 v532))],[]⟩,
              ⟨[175,179,180],[],[(181,.cnd (((x644 == false) && (x645 == true))) (.ref 4 (((v532 : Int).toNat) * aJ.sz + 0)))],[]⟩,
              ⟨[175,181],[],[(182,.cnd (((x644 == false) && (x645 == true))) (.ref 4 (((v532 : Int).toNat) * aJ.sz + 1)))],[]⟩,
              ⟨[175,182],[4],[(183,.cnd (((x644 == false) && (x645 == true))) (.int .i64 x649.Parent))],[]⟩,
              ⟨[175,178,183],[],[(184,.cnd (((x644 == false) && (x645 == true))) (.bool x650))],[]⟩,
              ⟨[171,175,184],[],[(185,.cnd (x644 == false) (.bool x651))],[]⟩,
              ⟨[171,185],[],[(186,.bool x652)],[]⟩] rfl ?_ (by kernel_rfl) ?_
             ·refine .cons (lop rfl rfl fun S hA=>(aN rfl rfl (lb rfl) (sv (d:=.osl _ _ _) (agr hA rfl rfl)))) ?_
              refine .cons (lop rfl rfl fun S hA=>(fJ rfl rfl (lb rfl) Try.underlying24 (sv (d:=.osl _ _ _) (agr hA rfl rfl)))) ?_
              refine .cons (lop rfl rfl fun S hA=>(aQ rfl rfl (lb rfl) (svaI hA rfl rfl) (sv (d:=.int _ 0) rfl) rfl hx640)) ?_
              refine .cons (lop rfl rfl fun S hA=>(aN rfl rfl (lb rfl) (sv (d:=.osl _ _ _) (agr hA rfl rfl)))) ?_
              refine .cons (lop rfl rfl fun S hA=>(aN rfl rfl (lb rfl) (svaI hA rfl rfl))) ?_
              refine .cons (lop rfl rfl fun S hA=>(eS aJ.toEnc0 rfl rfl (lb rfl) Try.underlying28 ti40 (sv (d:=.osl _ _ _) (agr hA rfl rfl)) rfl (svaI hA rfl rfl) hx641)) ?_
              refine .cons (lop rfl rfl fun S hA=>(fR rfl rfl (lb rfl) Try.underlying40 rfl ti3 (by decide) (svaR hA rfl rfl) (k':=1) rfl)) ?_
              refine .cons (lop rfl rfl fun S hA=>(dQ aJ.toEnc0 (d:=.int _ _) rfl rfl (lb rfl) Try.underlying3 ag3 ti3 (by decide) (svaR hA rfl rfl) (agi hA rfl rfl) hx642 (nle rfl) rfl)) ?_
              refine .cons (lop rfl rfl fun S hA=>(aQ rfl rfl (lb rfl) (svaI hA rfl rfl) (sv (d:=.int _ 0) rfl) rfl hx643)) ?_
              refine .cons (lop rfl rfl fun S hA=>(vF rfl rfl (lb rfl) Try.underlying4 (svaB hA rfl rfl) (svaB hA rfl rfl) hx644)) ?_
              refine .cons (lop rfl rfl fun S hA=>(aN rfl rfl (lb rfl) (svaB hA rfl rfl))) ?_
              refine .cons (lopg rfl rfl rfl rfl (by decide) (fun S hA=>grd1 hA rfl rfl) (fun S hA hb=>(aN rfl rfl (lb rfl) (sv (d:=.osl _ _ _) (agr hA rfl rfl))))) ?_
              refine .cons (lopg rfl rfl rfl rfl (by decide) (fun S hA=>grd1 hA rfl rfl) (fun S hA hb=>(fJ rfl rfl (lb rfl) Try.underlying24 (svc (d:=.osl _ _ _) (agr hA rfl rfl) hb)))) ?_
              refine .cons (lopg rfl rfl rfl rfl (by decide) (fun S hA=>grd1 hA rfl rfl) (fun S hA hb=>(aQ rfl rfl (lb rfl) (svc (d:=.int _ _) (agr hA rfl rfl) hb) (sv (d:=.int _ 0) rfl) rfl hx645))) ?_
              refine .cons (lopg rfl rfl rfl rfl (by decide) (fun S hA=>grd1 hA rfl rfl) (fun S hA hb=>(aN rfl rfl (lb rfl) (svc (d:=.bool _) (agr hA rfl rfl) hb)))) ?_
              refine .cons (lopg rfl rfl rfl rfl (by decide) (fun S hA=>grd2 hA rfl rfl) (fun S hA hb=>(aN rfl rfl (lb rfl) (sv (d:=.osl _ _ _) (agr hA rfl rfl))))) ?_
              refine .cons (lopg rfl rfl rfl rfl (by decide) (fun S hA=>grd2 hA rfl rfl) (fun S hA hb=>(eS (eInt .i64).toEnc0 rfl rfl (lb rfl) Try.underlying24 ti3 (svc (d:=.osl _ _ _) (agr hA rfl rfl) hb) rfl (sv (d:=.int _ 0) rfl) (gd_t hx646 hb)))) ?_
              refine .cons (lopg rfl rfl rfl rfl (by decide) (fun S hA=>grd2 hA rfl rfl) (fun S hA hb=>(dQ (eInt .i64).toEnc0 (d:=.int _ _) rfl rfl (lb rfl) Try.underlying3 ag3 ti3 (by decide) (svc (d:=.ref _ _) (agr hA rfl rfl) hb) (agi hA rfl rfl) (gd_t hx647 hb) (nle rfl) rfl))) ?_
              refine .cons (lopg rfl rfl rfl rfl (by decide) (fun S hA=>grd2 hA rfl rfl) (fun S hA hb=>(aN rfl rfl (lb rfl) (sv (d:=.osl _ _ _) (agr hA rfl rfl))))) ?_
              refine .cons (lopg rfl rfl rfl rfl (by decide) (fun S hA=>grd2 hA rfl rfl) (fun S hA hb=>(aN rfl rfl (lb rfl) (svaI hA rfl rfl)))) ?_
              refine .cons (lopg rfl rfl rfl rfl (by decide) (fun S hA=>grd2 hA rfl rfl) (fun S hA hb=>(eS aJ.toEnc0 rfl rfl (lb rfl) Try.underlying28 ti40 (svc (d:=.osl _ _ _) (agr hA rfl rfl) hb) rfl (svc (d:=.int _ _) (agr hA rfl rfl) hb) (gd_t hx648 hb)))) ?_
              refine .cons (lopg rfl rfl rfl rfl (by decide) (fun S hA=>grd2 hA rfl rfl) (fun S hA hb=>(fR rfl rfl (lb rfl) Try.underlying40 rfl ti3 (by decide) (svc (d:=.ref _ _) (agr hA rfl rfl) hb) (k':=1) rfl))) ?_
              refine .cons (lopg rfl rfl rfl rfl (by decide) (fun S hA=>grd2 hA rfl rfl) (fun S hA hb=>(dQ aJ.toEnc0 (d:=.int _ _) rfl rfl (lb rfl) Try.underlying3 ag3 ti3 (by decide) (svc (d:=.ref _ _) (agr hA rfl rfl) hb) (agi hA rfl rfl) (gd_t hx649 hb) (nle rfl) rfl))) ?_
              refine .cons (lopg rfl rfl rfl rfl (by decide) (fun S hA=>grd2 hA rfl rfl) (fun S hA hb=>(aQ rfl rfl (lb rfl) (svc (d:=.int _ _) (agr hA rfl rfl) hb) (svc (d:=.int _ _) (agr hA rfl rfl) hb) rfl hx650))) ?_
              refine .cons (lopg rfl rfl rfl rfl (by decide) (fun S hA=>grd1 hA rfl rfl) (fun S hA hb=>(yJ rfl rfl (lb rfl) hb (svc (d:=.bool _) (agr hA rfl rfl) hb) (agr hA rfl rfl) rfl hx651))) ?_
              refine .cons (lop rfl rfl fun S hA=>(iM rfl rfl (lb rfl) (svaB hA rfl rfl) rfl (agr hA rfl rfl) hx652)) ?_
              exact .nil
             refine aW (b:=_) rfl (fun hc653=>?_) (fun hc653=>?_)
             ·
              replace h:=cE h hc653
              refine aD (aA rfl (aG rfl rfl (lb rfl) (sv (d:=.bool false) rfl)) <|aC ?_)
              refine bA ?_
              refine cS ?_
              refine bH ?_
              refine bH ?_
              refine cS ?_
              refine bH ?_
              refine cS ?_
              refine bH ?_
              refine bH ?_
              refine cS ?_
              refine bH ?_
              obtain rfl:=Option.some.inj h
              refine ⟨.inr rfl,(.cons (sv rfl) .nil)⟩
             ·
              replace h:=cF h hc653
              refine aS ?_
              refine bR ?_
              refine aM ?_
              obtain ⟨x654,hx654,h⟩:=aV h
              refine aY (aA rfl (mvI rfl rfl rfl rfl) <|aA rfl (cP rfl rfl (lb rfl) (svI rfl) (sv (d:=.int _ 1) rfl) rfl hx654) <|aA rfl (asI rfl rfl rfl rfl) <|bQ ?_)
              refine aM ⟨(n1,x604,v639,x654),(fun i=>i),⟨(.sames rfl rfl),(.cons (EntW.mix aB rfl (SubC.of_eq rfl) (SubC.of_eq rfl) rfl rfl) (.cons (EntW.lst rfl) (.cons (EntW.lst rfl) (.cons (EntW.lst rfl) .nil)))),bB [1,4,5,3] rfl (by decide),fun _ _=>rfl⟩,?_,?_⟩
              exact h
              exact Nat.lt_succ_self _
          ·
           replace h:=cF h hc597
           refine cZ ?_
           refine bT ?_
           refine bT ?_
           refine dA ?_
           refine aM ?_
           obtain ⟨x659,hx659,h⟩:=aV h
           obtain ⟨x660,hx660,h⟩:=aV h
           obtain ⟨x661,hx661,h⟩:=aV h
           refine aD (aA rfl (mvI rfl rfl rfl rfl) <|aA rfl (aN rfl rfl (lb rfl) (sv (d:=.osl _ _ _) rfl)) <|aA rfl (fJ rfl rfl (lb rfl) Try.underlying28 (sv (d:=.osl _ _ _) rfl)) <|aA rfl (aQ rfl rfl (lb rfl) (svI rfl) (svI rfl) rfl hx659) <|aA rfl (mvB rfl rfl rfl rfl) <|aK rfl rfl (.one rfl) rfl (by decide) (fun hb=>(mvI rfl rfl rfl rfl)) <|aK rfl rfl (.one rfl) rfl (by decide) (fun hb=>(aN rfl rfl (lb rfl) (sv (d:=.osl _ _ _) rfl))) <|aK rfl rfl (.one rfl) rfl (by decide) (fun hb=>(fJ rfl rfl (lb rfl) Try.underlying24 (svc (d:=.osl _ _ _) rfl hb))) <|aK rfl rfl (.one rfl) rfl (by decide) (fun hb=>(aQ rfl rfl (lb rfl) (svcI rfl hb) (svcI rfl hb) rfl hx660)) <|aA rfl (iM rfl rfl (lb rfl) (svB rfl) rfl rfl hx661) <|aC ?_)
           refine aW (b:=_) rfl (fun hc662=>?_) (fun hc662=>?_)
           ·
            replace h:=cE h hc662
            refine aD (aA rfl (aG rfl rfl (lb rfl) (sv (d:=.bool false) rfl)) <|aC ?_)
            refine bA ?_
            refine cS ?_
            refine bH ?_
            refine bH ?_
            refine cS ?_
            refine bH ?_
            obtain rfl:=Option.some.inj h
            refine ⟨.inr rfl,(.cons (sv rfl) .nil)⟩
           ·
            replace h:=cF h hc662
            refine aS ?_
            refine bR ?_
            refine aM ?_
            obtain ⟨x663,hx663,h⟩:=aV h
            refine aY (aA rfl (mvI rfl rfl rfl rfl) <|aA rfl (cP rfl rfl (lb rfl) (svI rfl) (sv (d:=.int _ 1) rfl) rfl hx663) <|aA rfl (asI rfl rfl rfl rfl) <|bQ ?_)
            refine aM ⟨(n0,x663,x454.2.1,x454.2.2.1,x454.2.2.2.1,x454.2.2.2.2.1,x454.2.2.2.2.2.1,x454.2.2.2.2.2.2.1,x454.2.2.2.2.2.2.2.1,x454.2.2.2.2.2.2.2.2),(fun i=>if i = 2 then 3 else i),⟨(.sames rfl rfl),(.cons (EntW.mix aB rfl (SubC.of_eq rfl) (SubC.of_eq rfl) rfl rfl) (.cons (EntW.lst rfl) .nil)),bB [1,3] rfl (by decide),(fun i hi=>by first | rfl | (show (if _ then _ else _) = _; (repeat' split) <;> omega))⟩,?_,?_⟩
            exact h
            exact Nat.lt_succ_self _
      ·
       replace h:=cF h hc452
       refine cZ ?_
       refine bT ?_
       refine bT ?_
       refine dA ?_
       refine aM ?_
       obtain ⟨x664,hx664,h⟩:=aR h
       refine aD (aA rfl (dF (r:=.bool _) rfl rfl (lb rfl) cl7 .nil rfl (lE  _ hx664)) <|aA rfl (asB rfl rfl rfl rfl) <|aC ?_)
       refine bA ?_
       obtain rfl:=Option.some.inj h
       refine ⟨.inr rfl,(.cons (sv rfl) .nil)⟩

end Go.Proofs.Ytdnjagkihgjpcaa
