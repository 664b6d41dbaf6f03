/-
  A part of the proof: rules and plain facts. No condition.
-/
import Derived.Test.YtnokcmkfkfeaiaaGreatProg
import Derived.KernelRfl
import Derived.Test.YtnokcmkfkfeaiaaGreatIlA25D
import Derived.Test.YtnokcmkfkfeaiaaGreatIlA25C3
set_option linter.all false
set_option linter.unusedSimpArgs false
set_option linter.unusedVariables false
set_option maxRecDepth 8000
set_option maxHeartbeats 2000000
open Go Go.IL Go.Fn Go.Proofs
namespace Go.Proofs.YtnokcmkfkfeaiaaGreat
theorem cl29 : bH Tryz.prog 29 := ⟨Tryz.f29, Tryz.func29, rfl, rfl⟩



theorem oK (a0 : Int) (a1 : (List cX)) (a2 : Int) (r : Bool) (h : fS a0 a1 a2 = some r) : cA Tryz.prog 6 [.int .u8 a0, .slice false (a1.map cR.d), .int .u8 a2] (.bool r) := by
 refine bA (rs := [.bool r]) Tryz.func6 rfl Tryz.ntmps6 (nle rfl) rfl fun O hO => ?_
 show IWP _ _ _ _ ⟨[(0, .int .u8 a0), (1, .slice false (a1.map cR.d)), (2, .int .u8 a2)], []⟩ _
 unfold fS at h
 refine aE (aA rfl (aH rfl rfl (lb rfl) (sv (d := .bool false) rfl)) <|
  aD ?_)
 refine bC ?_
 obtain ⟨x1, hx1, h⟩ := bE h
 refine aE (aA rfl (mvL rfl rfl rfl rfl) <|
  aA rfl (aS (r := .bool _) rfl rfl (lb rfl) cl7 (.cons (svL rfl) (.cons (sv (d := .int _ 60) rfl) .nil)) rfl (rB _ _ _ hx1)) <|
  aA rfl (cZ rfl rfl (lb rfl) (svB rfl)) <|
  aD ?_)
 refine aX (b := _) rfl (fun hc2 => ?_) (fun hc2 => ?_)
 ·
  replace h := cB h hc2
  obtain ⟨x3, hx3, h⟩ := bE h
  refine aE (aA rfl (aS (r := .bool _) rfl rfl (lb rfl) cl8 .nil rfl (lU  _ hx3)) <|
   aA rfl (asB rfl rfl rfl rfl) <|
   aD ?_)
  refine aT ?_
  refine bI ?_
  obtain rfl := Option.some.inj h
  refine ⟨.inr rfl, (.cons (sv rfl) .nil)⟩
 ·
  replace h := cC h hc2
  refine aY ?_
  refine aR ?_
  obtain ⟨x4, hx4, h⟩ := aQ h
  obtain ⟨x5, hx5, h⟩ := aQ h
  refine aE (aA rfl (mvI rfl rfl rfl rfl) <|
   aA rfl (iC rfl rfl (lb rfl) ⟨_, Tryz.underlying5⟩ Tryz.underlying3 (svI rfl) hx4) <|
   aA rfl (bM rfl rfl (lb rfl) (sv (d := .int _ 1) rfl) (svI rfl) rfl hx5) <|
   ?_)
  refine vJ (S' := ⟨[(1, .slice false (a1.map cR.d)), (2, .int .u8 a2), (39, .int .i64 x5)], []⟩) (fun i => i) ⟨(.sames rfl rfl), .nil, cK [] rfl (by decide), fun _ _ => rfl⟩ ?_
  refine aAr 1 0 rfl rfl rfl (by decide) cl9 Tryz.func9 rfl (.cons (svI rfl) .nil) Tryz.ntmps9 (nle rfl) rfl hO fun O1 hO1 => ?_
  show IWP _ _ _ _ ⟨[(0, .int .i64 x5)], [(0, .kept 1 [.dead, .slice false (a1.map cR.d), .int .u8 a2, .dead, .dead, .dead, .dead, .dead, .dead, .dead, .dead, .dead, .dead, .dead, .dead, .dead, .dead, .dead, .dead, .dead, .dead, .dead, .dead, .dead, .dead, .dead, .dead, .dead, .dead, .dead, .dead, .dead, .dead, .dead, .dead, .dead, .dead, .dead, .dead, .int .i64 x5, .dead, .dead, .dead, .dead, .dead, .dead, .dead, .dead, .dead, .dead, .dead, .dead, .dead, .dead, .dead, .dead, .dead, .dead, .dead, .dead, .dead, .dead, .dead, .dead, .dead, .dead, .dead, .dead, .dead, .dead, .dead, .dead, .dead, .dead, .dead, .dead, .dead, .dead, .dead, .dead, .dead, .dead, .dead, .dead, .dead, .dead, .dead, .dead, .dead, .dead, .dead, .dead, .dead, .dead, .dead, .dead, .dead, .dead, .dead, .dead, .dead, .dead, .dead, .dead, .dead, .dead, .dead, .dead, .dead, .dead, .dead, .dead, .dead, .dead, .dead, .dead, .dead, .dead, .dead, .dead, .dead, .dead, .dead, .dead, .dead, .dead, .dead, .dead, .dead, .dead, .dead, .dead, .dead, .dead, .dead, .dead, .dead, .dead, .dead, .dead, .dead, .dead, .dead, .dead, .dead, .dead, .dead, .dead, .dead, .dead, .dead, .dead, .dead, .dead, .dead, .dead, .dead, .dead, .dead, .dead, .dead, .dead, .dead, .dead, .dead, .dead, .dead, .dead, .dead, .dead, .dead, .dead, .dead, .dead, .dead, .dead, .dead, .dead, .dead, .dead, .dead, .dead, .dead, .dead, .dead, .dead, .dead, .dead, .dead, .dead, .dead, .dead, .dead, .dead, .dead, .dead])]⟩ _
  refine aE (aA rfl (aH rfl rfl (lb rfl) (sv (d := .nilp) rfl)) <|
   aA rfl (aH rfl rfl (lb rfl) (sv (d := .bool false) rfl)) <|
   aD ?_)
  obtain ⟨x6, hx6, h⟩ := bE h
  refine aE (aA rfl (mvI rfl rfl rfl rfl) <|
   aA rfl (mvI rfl rfl rfl rfl) <|
   aA rfl (aS (r := .tuple q39) rfl rfl (lb rfl) cl14 (.cons (sv (d := .int _ 5) rfl) (.cons (svI rfl) (.cons (svI rfl) .nil))) rfl (mY _ _ _ _ hx6)) <|
   aA rfl (aM rfl rfl (lb rfl) (sv (d := .tuple q39) rfl)) <|
   aA rfl (aW (d := .agg q13) rfl rfl (lb rfl) (sv (d := .tuple q39) rfl) rfl) <|
   aA rfl (aW (d := .int _ _) rfl rfl (lb rfl) (sv (d := .tuple q39) rfl) rfl) <|
   aA rfl (aZ (cs := q14) (cs' := [.int .i64 0, .int .i64 0, .str [], .int .i64 0, .nils, .nils, .bool false, .bool false, .bool false, .bool false, .int .i64 0, .str [], .nils, .int .i64 0, .int .i64 0, .int .i64 0, .int .i64 0, .int .i64 0, .int .i64 0, .int .i64 0, .int .i64 0, .int .i64 0, .int .i64 0, .int .i64 0]) 1 rfl rfl (lb rfl) rfl ti46 rfl rfl (.all _)) <|
   aA rfl (stA q13 q13 ti46 rfl rfl rfl rfl rfl rfl rfl rfl (nle rfl) rfl) <|
   aA rfl (asI rfl rfl rfl rfl) <|
   aD ?_)
  obtain ⟨x7, hx7, h⟩ := bE h
  refine aE (aA rfl (mvI rfl rfl rfl rfl) <|
   aA rfl (mvI rfl rfl rfl rfl) <|
   aA rfl (aS (r := .tuple q39) rfl rfl (lb rfl) cl14 (.cons (sv (d := .int _ 5) rfl) (.cons (svI rfl) (.cons (svI rfl) .nil))) rfl (mY _ _ _ _ hx7)) <|
   aA rfl (aM rfl rfl (lb rfl) (sv (d := .tuple q39) rfl)) <|
   aA rfl (aW (d := .agg q13) rfl rfl (lb rfl) (sv (d := .tuple q39) rfl) rfl) <|
   aA rfl (aW (d := .int _ _) rfl rfl (lb rfl) (sv (d := .tuple q39) rfl) rfl) <|
   aA rfl (aZ (cs := q14) (cs' := [.int .i64 0, .int .i64 0, .str [], .int .i64 0, .nils, .nils, .bool false, .bool false, .bool false, .bool false, .int .i64 0, .str [], .nils, .int .i64 0, .int .i64 0, .int .i64 0, .int .i64 0, .int .i64 0, .int .i64 0, .int .i64 0, .int .i64 0, .int .i64 0, .int .i64 0, .int .i64 0]) 2 rfl rfl (lb rfl) rfl ti46 rfl rfl (.all _)) <|
   aA rfl (stA q13 q13 ti46 rfl rfl rfl rfl rfl rfl rfl rfl (nle rfl) rfl) <|
   aA rfl (asI rfl rfl rfl rfl) <|
   aD ?_)
  obtain ⟨x8, hx8, h⟩ := aQ h
  obtain ⟨x9, hx9, h⟩ := aQ h
  obtain ⟨x10, hx10, h⟩ := aQ h
  refine aE (aA rfl (lra q13 la46 rfl rfl rfl rfl rfl (nle rfl) rfl) <|
   aA rfl (lra q13 la46 rfl rfl rfl rfl rfl (nle rfl) rfl) <|
   aA rfl (cF (cs := q12) rfl rfl (lb rfl) Tryz.underlying49 ti49 pl49 rfl (.cons (svA q13 rfl) (.cons (svA q13 rfl) .nil)) rfl) <|
   aA rfl (bN (cs := q12) 3 rfl rfl (lb rfl) rfl (svA q12 rfl) rfl rfl) <|
   aA rfl (mvI rfl rfl rfl rfl) <|
   aA rfl (aP rfl rfl (lb rfl) (svI rfl) (sv (d := .int _ 0) rfl) rfl hx8) <|
   aA rfl (mvB rfl rfl rfl rfl) <|
   aC rfl rfl (.one rfl) rfl (by decide) (fun hb => (mvI rfl rfl rfl rfl)) <|
   aC rfl rfl (.one rfl) rfl (by decide) (fun hb => (aP rfl rfl (lb rfl) (svcI rfl hb) (sv (d := .int _ 0) rfl) rfl hx9)) <|
   aA rfl (bU rfl rfl (lb rfl) (svB rfl) rfl rfl hx10) <|
   aA rfl (aH rfl rfl (lb rfl) (svR rfl)) <|
   aA rfl (asB rfl rfl rfl rfl) <|
   aD ?_)
  refine aT ?_
  refine ⟨.inr rfl, 0, _, [.ref 3 0, .bool x10], (.cons (sv rfl) (.cons (sv rfl) .nil)), rfl, rfl, ⟨[(1, .slice false (a1.map cR.d)), (2, .int .u8 a2), (40, .tuple [.ref 3 0, .bool x10])], [(3, .blk 49 [.int .i64 x6.1.ID, .int .i64 x6.1.Send.Base, .str x6.1.Send.Data, .int .i64 x6.1.Send.Next, .slice false (x6.1.Send.Pieces.map aB.d), .slice false (x6.1.Send.Lost.map aI.d), .bool x6.1.Send.Closed, .bool x6.1.Send.Sent, .bool x6.1.Send.Again, .bool x6.1.Send.Done, .int .i64 x6.1.Recv.Recv.Base, .str x6.1.Recv.Recv.Ready, .slice false (x6.1.Recv.Recv.Parts.map aL.d), .int .i64 x6.1.Recv.End, .int .i64 x6.1.Out.Window, .int .i64 x6.1.Out.Limit, .int .i64 x6.1.Out.Used, .int .i64 x6.1.Out.Read, .int .i64 x6.1.In.Window, .int .i64 x6.1.In.Limit, .int .i64 x6.1.In.Used, .int .i64 x6.1.In.Read, .int .i64 x6.1.Mine, .int .i64 x6.1.Hers, .int .i64 x7.1.ID, .int .i64 x7.1.Send.Base, .str x7.1.Send.Data, .int .i64 x7.1.Send.Next, .slice false (x7.1.Send.Pieces.map aB.d), .slice false (x7.1.Send.Lost.map aI.d), .bool x7.1.Send.Closed, .bool x7.1.Send.Sent, .bool x7.1.Send.Again, .bool x7.1.Send.Done, .int .i64 x7.1.Recv.Recv.Base, .str x7.1.Recv.Recv.Ready, .slice false (x7.1.Recv.Recv.Parts.map aL.d), .int .i64 x7.1.Recv.End, .int .i64 x7.1.Out.Window, .int .i64 x7.1.Out.Limit, .int .i64 x7.1.Out.Used, .int .i64 x7.1.Out.Read, .int .i64 x7.1.In.Window, .int .i64 x7.1.In.Limit, .int .i64 x7.1.In.Used, .int .i64 x7.1.In.Read, .int .i64 x7.1.Mine, .int .i64 x7.1.Hers, .nils, .str [], .str [], .int .i64 0, .bool false])]⟩, (fun i => i), ⟨(.sames rfl rfl), (.cons (.blk rfl rfl rfl) .nil), cK [3] rfl (by decide), fun _ _ => rfl⟩, ?_⟩
  refine aA rfl (aM rfl rfl (lb rfl) (sv (d := .tuple q29) rfl)) <|
   aA rfl (aW (d := .ref _ _) rfl rfl (lb rfl) (sv (d := .tuple q29) rfl) rfl) <|
   aA rfl (aW (d := .bool _) rfl rfl (lb rfl) (sv (d := .tuple q29) rfl) rfl) <|
   aA rfl (aH rfl rfl (lb rfl) (svR rfl)) <|
   aA rfl (asB rfl rfl rfl rfl) <|
   aD ?_
  refine bC ?_
  refine aE (aA rfl (mvB rfl rfl rfl rfl) <|
   aA rfl (cZ rfl rfl (lb rfl) (svB rfl)) <|
   aD ?_)
  refine aX (b := _) rfl (fun hc11 => ?_) (fun hc11 => ?_)
  ·
   replace h := cB h hc11
   refine aE (aA rfl (aH rfl rfl (lb rfl) (sv (d := .bool false) rfl)) <|
    aD ?_)
   refine aT ?_
   refine bI ?_
   obtain rfl := Option.some.inj h
   refine ⟨.inr rfl, (.cons (sv rfl) .nil)⟩
  ·
   replace h := cC h hc11
   refine aY ?_
   refine aR ?_
   refine bC ?_
   refine aE (aA rfl (aH rfl rfl (lb rfl) (sv (d := .int _ 0) rfl)) <|
    aD ?_)
   refine bW ?_
   refine dQ (α := Nat × Int × Int × Int × (List UInt8) × Int × (List aJ) × (List aF) × Bool × Bool × Bool × Bool × Int × (List UInt8) × (List aN) × Int × Int × Int × Int × Int × Int × Int × Int × Int × Int × Int × Int × Int × (List UInt8) × Int × (List aJ) × (List aF) × Bool × Bool × Bool × Bool × Int × (List UInt8) × (List aN) × Int × Int × Int × Int × Int × Int × Int × Int × Int × Int × Int × (List bX) × (List UInt8) × (List UInt8) × Int × Bool) (fun z => ⟨[(1, .slice false (a1.map cR.d)), (2, .int .u8 a2), (7, .ref 3 0), (9, .int .i64 z.2.1)], [(3, .blk 49 (w41 z.2.2.1 z.2.2.2.1 z.2.2.2.2.1 z.2.2.2.2.2.1 z.2.2.2.2.2.2.1 z.2.2.2.2.2.2.2.1 z.2.2.2.2.2.2.2.2.1 z.2.2.2.2.2.2.2.2.2.1 z.2.2.2.2.2.2.2.2.2.2.1 z.2.2.2.2.2.2.2.2.2.2.2.1 z.2.2.2.2.2.2.2.2.2.2.2.2.1 z.2.2.2.2.2.2.2.2.2.2.2.2.2.1 z.2.2.2.2.2.2.2.2.2.2.2.2.2.2.1 z.2.2.2.2.2.2.2.2.2.2.2.2.2.2.2.1 z.2.2.2.2.2.2.2.2.2.2.2.2.2.2.2.2.1 z.2.2.2.2.2.2.2.2.2.2.2.2.2.2.2.2.2.1 z.2.2.2.2.2.2.2.2.2.2.2.2.2.2.2.2.2.2.1 z.2.2.2.2.2.2.2.2.2.2.2.2.2.2.2.2.2.2.2.1 z.2.2.2.2.2.2.2.2.2.2.2.2.2.2.2.2.2.2.2.2.1 z.2.2.2.2.2.2.2.2.2.2.2.2.2.2.2.2.2.2.2.2.2.1 z.2.2.2.2.2.2.2.2.2.2.2.2.2.2.2.2.2.2.2.2.2.2.1 z.2.2.2.2.2.2.2.2.2.2.2.2.2.2.2.2.2.2.2.2.2.2.2.1 z.2.2.2.2.2.2.2.2.2.2.2.2.2.2.2.2.2.2.2.2.2.2.2.2.1 z.2.2.2.2.2.2.2.2.2.2.2.2.2.2.2.2.2.2.2.2.2.2.2.2.2.1 z.2.2.2.2.2.2.2.2.2.2.2.2.2.2.2.2.2.2.2.2.2.2.2.2.2.2.1 z.2.2.2.2.2.2.2.2.2.2.2.2.2.2.2.2.2.2.2.2.2.2.2.2.2.2.2.1 z.2.2.2.2.2.2.2.2.2.2.2.2.2.2.2.2.2.2.2.2.2.2.2.2.2.2.2.2.1 z.2.2.2.2.2.2.2.2.2.2.2.2.2.2.2.2.2.2.2.2.2.2.2.2.2.2.2.2.2.1 z.2.2.2.2.2.2.2.2.2.2.2.2.2.2.2.2.2.2.2.2.2.2.2.2.2.2.2.2.2.2.1 z.2.2.2.2.2.2.2.2.2.2.2.2.2.2.2.2.2.2.2.2.2.2.2.2.2.2.2.2.2.2.2.1 z.2.2.2.2.2.2.2.2.2.2.2.2.2.2.2.2.2.2.2.2.2.2.2.2.2.2.2.2.2.2.2.2.1 z.2.2.2.2.2.2.2.2.2.2.2.2.2.2.2.2.2.2.2.2.2.2.2.2.2.2.2.2.2.2.2.2.2.1 z.2.2.2.2.2.2.2.2.2.2.2.2.2.2.2.2.2.2.2.2.2.2.2.2.2.2.2.2.2.2.2.2.2.2.1 z.2.2.2.2.2.2.2.2.2.2.2.2.2.2.2.2.2.2.2.2.2.2.2.2.2.2.2.2.2.2.2.2.2.2.2.1 z.2.2.2.2.2.2.2.2.2.2.2.2.2.2.2.2.2.2.2.2.2.2.2.2.2.2.2.2.2.2.2.2.2.2.2.2.1 z.2.2.2.2.2.2.2.2.2.2.2.2.2.2.2.2.2.2.2.2.2.2.2.2.2.2.2.2.2.2.2.2.2.2.2.2.2.1 z.2.2.2.2.2.2.2.2.2.2.2.2.2.2.2.2.2.2.2.2.2.2.2.2.2.2.2.2.2.2.2.2.2.2.2.2.2.2.1 z.2.2.2.2.2.2.2.2.2.2.2.2.2.2.2.2.2.2.2.2.2.2.2.2.2.2.2.2.2.2.2.2.2.2.2.2.2.2.2.1 z.2.2.2.2.2.2.2.2.2.2.2.2.2.2.2.2.2.2.2.2.2.2.2.2.2.2.2.2.2.2.2.2.2.2.2.2.2.2.2.2.1 z.2.2.2.2.2.2.2.2.2.2.2.2.2.2.2.2.2.2.2.2.2.2.2.2.2.2.2.2.2.2.2.2.2.2.2.2.2.2.2.2.2.1 z.2.2.2.2.2.2.2.2.2.2.2.2.2.2.2.2.2.2.2.2.2.2.2.2.2.2.2.2.2.2.2.2.2.2.2.2.2.2.2.2.2.2.1 z.2.2.2.2.2.2.2.2.2.2.2.2.2.2.2.2.2.2.2.2.2.2.2.2.2.2.2.2.2.2.2.2.2.2.2.2.2.2.2.2.2.2.2.1 z.2.2.2.2.2.2.2.2.2.2.2.2.2.2.2.2.2.2.2.2.2.2.2.2.2.2.2.2.2.2.2.2.2.2.2.2.2.2.2.2.2.2.2.2.1 z.2.2.2.2.2.2.2.2.2.2.2.2.2.2.2.2.2.2.2.2.2.2.2.2.2.2.2.2.2.2.2.2.2.2.2.2.2.2.2.2.2.2.2.2.2.1 z.2.2.2.2.2.2.2.2.2.2.2.2.2.2.2.2.2.2.2.2.2.2.2.2.2.2.2.2.2.2.2.2.2.2.2.2.2.2.2.2.2.2.2.2.2.2.1 z.2.2.2.2.2.2.2.2.2.2.2.2.2.2.2.2.2.2.2.2.2.2.2.2.2.2.2.2.2.2.2.2.2.2.2.2.2.2.2.2.2.2.2.2.2.2.2.1 z.2.2.2.2.2.2.2.2.2.2.2.2.2.2.2.2.2.2.2.2.2.2.2.2.2.2.2.2.2.2.2.2.2.2.2.2.2.2.2.2.2.2.2.2.2.2.2.2.1 z.2.2.2.2.2.2.2.2.2.2.2.2.2.2.2.2.2.2.2.2.2.2.2.2.2.2.2.2.2.2.2.2.2.2.2.2.2.2.2.2.2.2.2.2.2.2.2.2.2.1 (.osl 25 bF.sz z.2.2.2.2.2.2.2.2.2.2.2.2.2.2.2.2.2.2.2.2.2.2.2.2.2.2.2.2.2.2.2.2.2.2.2.2.2.2.2.2.2.2.2.2.2.2.2.2.2.2.1.length) z.2.2.2.2.2.2.2.2.2.2.2.2.2.2.2.2.2.2.2.2.2.2.2.2.2.2.2.2.2.2.2.2.2.2.2.2.2.2.2.2.2.2.2.2.2.2.2.2.2.2.2.1 z.2.2.2.2.2.2.2.2.2.2.2.2.2.2.2.2.2.2.2.2.2.2.2.2.2.2.2.2.2.2.2.2.2.2.2.2.2.2.2.2.2.2.2.2.2.2.2.2.2.2.2.2.1 z.2.2.2.2.2.2.2.2.2.2.2.2.2.2.2.2.2.2.2.2.2.2.2.2.2.2.2.2.2.2.2.2.2.2.2.2.2.2.2.2.2.2.2.2.2.2.2.2.2.2.2.2.2.1 z.2.2.2.2.2.2.2.2.2.2.2.2.2.2.2.2.2.2.2.2.2.2.2.2.2.2.2.2.2.2.2.2.2.2.2.2.2.2.2.2.2.2.2.2.2.2.2.2.2.2.2.2.2.2)), (25, .blk 51 (D.flat (z.2.2.2.2.2.2.2.2.2.2.2.2.2.2.2.2.2.2.2.2.2.2.2.2.2.2.2.2.2.2.2.2.2.2.2.2.2.2.2.2.2.2.2.2.2.2.2.2.2.2.1.map bF.d)))]⟩) (fun z => dL a1 a2 z.1 z.2.1 z.2.2.1 z.2.2.2.1 z.2.2.2.2.1 z.2.2.2.2.2.1 z.2.2.2.2.2.2.1 z.2.2.2.2.2.2.2.1 z.2.2.2.2.2.2.2.2.1 z.2.2.2.2.2.2.2.2.2.1 z.2.2.2.2.2.2.2.2.2.2.1 z.2.2.2.2.2.2.2.2.2.2.2.1 z.2.2.2.2.2.2.2.2.2.2.2.2.1 z.2.2.2.2.2.2.2.2.2.2.2.2.2.1 z.2.2.2.2.2.2.2.2.2.2.2.2.2.2.1 z.2.2.2.2.2.2.2.2.2.2.2.2.2.2.2.1 z.2.2.2.2.2.2.2.2.2.2.2.2.2.2.2.2.1 z.2.2.2.2.2.2.2.2.2.2.2.2.2.2.2.2.2.1 z.2.2.2.2.2.2.2.2.2.2.2.2.2.2.2.2.2.2.1 z.2.2.2.2.2.2.2.2.2.2.2.2.2.2.2.2.2.2.2.1 z.2.2.2.2.2.2.2.2.2.2.2.2.2.2.2.2.2.2.2.2.1 z.2.2.2.2.2.2.2.2.2.2.2.2.2.2.2.2.2.2.2.2.2.1 z.2.2.2.2.2.2.2.2.2.2.2.2.2.2.2.2.2.2.2.2.2.2.1 z.2.2.2.2.2.2.2.2.2.2.2.2.2.2.2.2.2.2.2.2.2.2.2.1 z.2.2.2.2.2.2.2.2.2.2.2.2.2.2.2.2.2.2.2.2.2.2.2.2.1 z.2.2.2.2.2.2.2.2.2.2.2.2.2.2.2.2.2.2.2.2.2.2.2.2.2.1 z.2.2.2.2.2.2.2.2.2.2.2.2.2.2.2.2.2.2.2.2.2.2.2.2.2.2.1 z.2.2.2.2.2.2.2.2.2.2.2.2.2.2.2.2.2.2.2.2.2.2.2.2.2.2.2.1 z.2.2.2.2.2.2.2.2.2.2.2.2.2.2.2.2.2.2.2.2.2.2.2.2.2.2.2.2.1 z.2.2.2.2.2.2.2.2.2.2.2.2.2.2.2.2.2.2.2.2.2.2.2.2.2.2.2.2.2.1 z.2.2.2.2.2.2.2.2.2.2.2.2.2.2.2.2.2.2.2.2.2.2.2.2.2.2.2.2.2.2.1 z.2.2.2.2.2.2.2.2.2.2.2.2.2.2.2.2.2.2.2.2.2.2.2.2.2.2.2.2.2.2.2.1 z.2.2.2.2.2.2.2.2.2.2.2.2.2.2.2.2.2.2.2.2.2.2.2.2.2.2.2.2.2.2.2.2.1 z.2.2.2.2.2.2.2.2.2.2.2.2.2.2.2.2.2.2.2.2.2.2.2.2.2.2.2.2.2.2.2.2.2.1 z.2.2.2.2.2.2.2.2.2.2.2.2.2.2.2.2.2.2.2.2.2.2.2.2.2.2.2.2.2.2.2.2.2.2.1 z.2.2.2.2.2.2.2.2.2.2.2.2.2.2.2.2.2.2.2.2.2.2.2.2.2.2.2.2.2.2.2.2.2.2.2.1 z.2.2.2.2.2.2.2.2.2.2.2.2.2.2.2.2.2.2.2.2.2.2.2.2.2.2.2.2.2.2.2.2.2.2.2.2.1 z.2.2.2.2.2.2.2.2.2.2.2.2.2.2.2.2.2.2.2.2.2.2.2.2.2.2.2.2.2.2.2.2.2.2.2.2.2.1 z.2.2.2.2.2.2.2.2.2.2.2.2.2.2.2.2.2.2.2.2.2.2.2.2.2.2.2.2.2.2.2.2.2.2.2.2.2.2.1 z.2.2.2.2.2.2.2.2.2.2.2.2.2.2.2.2.2.2.2.2.2.2.2.2.2.2.2.2.2.2.2.2.2.2.2.2.2.2.2.1 z.2.2.2.2.2.2.2.2.2.2.2.2.2.2.2.2.2.2.2.2.2.2.2.2.2.2.2.2.2.2.2.2.2.2.2.2.2.2.2.2.1 z.2.2.2.2.2.2.2.2.2.2.2.2.2.2.2.2.2.2.2.2.2.2.2.2.2.2.2.2.2.2.2.2.2.2.2.2.2.2.2.2.2.1 z.2.2.2.2.2.2.2.2.2.2.2.2.2.2.2.2.2.2.2.2.2.2.2.2.2.2.2.2.2.2.2.2.2.2.2.2.2.2.2.2.2.2.1 z.2.2.2.2.2.2.2.2.2.2.2.2.2.2.2.2.2.2.2.2.2.2.2.2.2.2.2.2.2.2.2.2.2.2.2.2.2.2.2.2.2.2.2.1 z.2.2.2.2.2.2.2.2.2.2.2.2.2.2.2.2.2.2.2.2.2.2.2.2.2.2.2.2.2.2.2.2.2.2.2.2.2.2.2.2.2.2.2.2.1 z.2.2.2.2.2.2.2.2.2.2.2.2.2.2.2.2.2.2.2.2.2.2.2.2.2.2.2.2.2.2.2.2.2.2.2.2.2.2.2.2.2.2.2.2.2.1 z.2.2.2.2.2.2.2.2.2.2.2.2.2.2.2.2.2.2.2.2.2.2.2.2.2.2.2.2.2.2.2.2.2.2.2.2.2.2.2.2.2.2.2.2.2.2.1 z.2.2.2.2.2.2.2.2.2.2.2.2.2.2.2.2.2.2.2.2.2.2.2.2.2.2.2.2.2.2.2.2.2.2.2.2.2.2.2.2.2.2.2.2.2.2.2.1 z.2.2.2.2.2.2.2.2.2.2.2.2.2.2.2.2.2.2.2.2.2.2.2.2.2.2.2.2.2.2.2.2.2.2.2.2.2.2.2.2.2.2.2.2.2.2.2.2.1 z.2.2.2.2.2.2.2.2.2.2.2.2.2.2.2.2.2.2.2.2.2.2.2.2.2.2.2.2.2.2.2.2.2.2.2.2.2.2.2.2.2.2.2.2.2.2.2.2.2.1 z.2.2.2.2.2.2.2.2.2.2.2.2.2.2.2.2.2.2.2.2.2.2.2.2.2.2.2.2.2.2.2.2.2.2.2.2.2.2.2.2.2.2.2.2.2.2.2.2.2.2.1 z.2.2.2.2.2.2.2.2.2.2.2.2.2.2.2.2.2.2.2.2.2.2.2.2.2.2.2.2.2.2.2.2.2.2.2.2.2.2.2.2.2.2.2.2.2.2.2.2.2.2.2.1 z.2.2.2.2.2.2.2.2.2.2.2.2.2.2.2.2.2.2.2.2.2.2.2.2.2.2.2.2.2.2.2.2.2.2.2.2.2.2.2.2.2.2.2.2.2.2.2.2.2.2.2.2.1 z.2.2.2.2.2.2.2.2.2.2.2.2.2.2.2.2.2.2.2.2.2.2.2.2.2.2.2.2.2.2.2.2.2.2.2.2.2.2.2.2.2.2.2.2.2.2.2.2.2.2.2.2.2.1 z.2.2.2.2.2.2.2.2.2.2.2.2.2.2.2.2.2.2.2.2.2.2.2.2.2.2.2.2.2.2.2.2.2.2.2.2.2.2.2.2.2.2.2.2.2.2.2.2.2.2.2.2.2.2 = some r) (fun z => z.1) (fuel, 0, x6.1.ID, x6.1.Send.Base, x6.1.Send.Data, x6.1.Send.Next, x6.1.Send.Pieces, x6.1.Send.Lost, x6.1.Send.Closed, x6.1.Send.Sent, x6.1.Send.Again, x6.1.Send.Done, x6.1.Recv.Recv.Base, x6.1.Recv.Recv.Ready, x6.1.Recv.Recv.Parts, x6.1.Recv.End, x6.1.Out.Window, x6.1.Out.Limit, x6.1.Out.Used, x6.1.Out.Read, x6.1.In.Window, x6.1.In.Limit, x6.1.In.Used, x6.1.In.Read, x6.1.Mine, x6.1.Hers, x7.1.ID, x7.1.Send.Base, x7.1.Send.Data, x7.1.Send.Next, x7.1.Send.Pieces, x7.1.Send.Lost, x7.1.Send.Closed, x7.1.Send.Sent, x7.1.Send.Again, x7.1.Send.Done, x7.1.Recv.Recv.Base, x7.1.Recv.Recv.Ready, x7.1.Recv.Recv.Parts, x7.1.Recv.End, x7.1.Out.Window, x7.1.Out.Limit, x7.1.Out.Used, x7.1.Out.Read, x7.1.In.Window, x7.1.In.Limit, x7.1.In.Used, x7.1.In.Read, x7.1.Mine, x7.1.Hers, ([] : (List bX)), ([] : (List UInt8)), ([] : (List UInt8)), 0, false) (fun i => if i = 25 then 79 else i) ⟨(.sames rfl rfl), (.cons (.sub rfl (.same (.same (.same (.same (.same (.same (.same (.same (.same (.same (.same (.same (.same (.same (.same (.same (.same (.same (.same (.same (.same (.same (.same (.same (.same (.same (.same (.same (.same (.same (.same (.same (.same (.same (.same (.same (.same (.same (.same (.same (.same (.same (.same (.same (.same (.same (.same (.same (.nilo (.same (.same (.same (.same .nil))))))))))))))))))))))))))))))))))))))))))))))))))))) rfl) (.cons (.nilb rfl) .nil)), cK [3, 79] rfl (by decide), (fun i hi => by first | rfl | (show (if _ then _ else _) = _; (repeat' split) <;> omega))⟩ ?_ ?_
   ·exact h
   ·
    rintro ⟨n0, v17, v18, v19, v20, v21, v22, v23, v24, v25, v26, v27, v28, v29, v30, v31, v32, v33, v34, v35, v36, v37, v38, v39, v40, v41, v42, v43, v44, v45, v46, v47, v48, v49, v50, v51, v52, v53, v54, v55, v56, v57, v58, v59, v60, v61, v62, v63, v64, v65, v66, v67, v68, v69, v70⟩ h
    cases n0 with
    | zero => exact absurd h (by unfold dL; exact nofun)
    | succ n0 =>
     unfold dL at h
     refine bC ?_
     obtain ⟨x76, hx76, h⟩ := aQ h
     refine aE (aA rfl (mvI rfl rfl rfl rfl) <|
      aA rfl (mvL rfl rfl rfl rfl) <|
      aA rfl (dH cR (l := a1) rfl rfl (lb rfl) Tryz.underlying22 (svL rfl)) <|
      aA rfl (aP rfl rfl (lb rfl) (svI rfl) (svI rfl) rfl hx76) <|
      aD ?_)
     refine aX (b := _) rfl (fun hc77 => ?_) (fun hc77 => ?_)
     ·
      replace h := cB h hc77
      refine aY ?_
      refine aR ?_
      refine bC ?_
      refine bW ?_
      obtain ⟨x78, hx78, h⟩ := bE h
      obtain ⟨x79, hx79, h⟩ := bE h
      refine bL (aA rfl (mvR rfl rfl rfl rfl) <|
       aA rfl (mvL rfl rfl rfl rfl) <|
       aA rfl (mvI rfl rfl rfl rfl) <|
       aA rfl (dT cR (cs := q21) rfl rfl (lb rfl) Tryz.underlying22 ti30 (svL rfl) (svI rfl) hx78 rfl rfl) <|
       aA rfl (dF (cs := q21) rfl rfl (lb rfl) Tryz.underlying30 ag30 ti30 (by decide) (sv (d := .fptr q21) rfl) (nle rfl) rfl) <|
       aA rfl (eD (r' := .bool x79.1) (H1' := [(3, .blk 49 (w41 x79.2.1 x79.2.2.1 x79.2.2.2.1 x79.2.2.2.2.1 x79.2.2.2.2.2.1 x79.2.2.2.2.2.2.1 x79.2.2.2.2.2.2.2.1 x79.2.2.2.2.2.2.2.2.1 x79.2.2.2.2.2.2.2.2.2.1 x79.2.2.2.2.2.2.2.2.2.2.1 x79.2.2.2.2.2.2.2.2.2.2.2.1 x79.2.2.2.2.2.2.2.2.2.2.2.2.1 x79.2.2.2.2.2.2.2.2.2.2.2.2.2.1 x79.2.2.2.2.2.2.2.2.2.2.2.2.2.2.1 x79.2.2.2.2.2.2.2.2.2.2.2.2.2.2.2.1 x79.2.2.2.2.2.2.2.2.2.2.2.2.2.2.2.2.1 x79.2.2.2.2.2.2.2.2.2.2.2.2.2.2.2.2.2.1 x79.2.2.2.2.2.2.2.2.2.2.2.2.2.2.2.2.2.2.1 x79.2.2.2.2.2.2.2.2.2.2.2.2.2.2.2.2.2.2.2.1 x79.2.2.2.2.2.2.2.2.2.2.2.2.2.2.2.2.2.2.2.2.1 x79.2.2.2.2.2.2.2.2.2.2.2.2.2.2.2.2.2.2.2.2.2.1 x79.2.2.2.2.2.2.2.2.2.2.2.2.2.2.2.2.2.2.2.2.2.2.1 x79.2.2.2.2.2.2.2.2.2.2.2.2.2.2.2.2.2.2.2.2.2.2.2.1 x79.2.2.2.2.2.2.2.2.2.2.2.2.2.2.2.2.2.2.2.2.2.2.2.2.1 x79.2.2.2.2.2.2.2.2.2.2.2.2.2.2.2.2.2.2.2.2.2.2.2.2.2.1 x79.2.2.2.2.2.2.2.2.2.2.2.2.2.2.2.2.2.2.2.2.2.2.2.2.2.2.1 x79.2.2.2.2.2.2.2.2.2.2.2.2.2.2.2.2.2.2.2.2.2.2.2.2.2.2.2.1 x79.2.2.2.2.2.2.2.2.2.2.2.2.2.2.2.2.2.2.2.2.2.2.2.2.2.2.2.2.1 x79.2.2.2.2.2.2.2.2.2.2.2.2.2.2.2.2.2.2.2.2.2.2.2.2.2.2.2.2.2.1 x79.2.2.2.2.2.2.2.2.2.2.2.2.2.2.2.2.2.2.2.2.2.2.2.2.2.2.2.2.2.2.1 x79.2.2.2.2.2.2.2.2.2.2.2.2.2.2.2.2.2.2.2.2.2.2.2.2.2.2.2.2.2.2.2.1 x79.2.2.2.2.2.2.2.2.2.2.2.2.2.2.2.2.2.2.2.2.2.2.2.2.2.2.2.2.2.2.2.2.1 x79.2.2.2.2.2.2.2.2.2.2.2.2.2.2.2.2.2.2.2.2.2.2.2.2.2.2.2.2.2.2.2.2.2.1 x79.2.2.2.2.2.2.2.2.2.2.2.2.2.2.2.2.2.2.2.2.2.2.2.2.2.2.2.2.2.2.2.2.2.2.1 x79.2.2.2.2.2.2.2.2.2.2.2.2.2.2.2.2.2.2.2.2.2.2.2.2.2.2.2.2.2.2.2.2.2.2.2.1 x79.2.2.2.2.2.2.2.2.2.2.2.2.2.2.2.2.2.2.2.2.2.2.2.2.2.2.2.2.2.2.2.2.2.2.2.2.1 x79.2.2.2.2.2.2.2.2.2.2.2.2.2.2.2.2.2.2.2.2.2.2.2.2.2.2.2.2.2.2.2.2.2.2.2.2.2.1 x79.2.2.2.2.2.2.2.2.2.2.2.2.2.2.2.2.2.2.2.2.2.2.2.2.2.2.2.2.2.2.2.2.2.2.2.2.2.2.1 x79.2.2.2.2.2.2.2.2.2.2.2.2.2.2.2.2.2.2.2.2.2.2.2.2.2.2.2.2.2.2.2.2.2.2.2.2.2.2.2.1 x79.2.2.2.2.2.2.2.2.2.2.2.2.2.2.2.2.2.2.2.2.2.2.2.2.2.2.2.2.2.2.2.2.2.2.2.2.2.2.2.2.1 x79.2.2.2.2.2.2.2.2.2.2.2.2.2.2.2.2.2.2.2.2.2.2.2.2.2.2.2.2.2.2.2.2.2.2.2.2.2.2.2.2.2.1 x79.2.2.2.2.2.2.2.2.2.2.2.2.2.2.2.2.2.2.2.2.2.2.2.2.2.2.2.2.2.2.2.2.2.2.2.2.2.2.2.2.2.2.1 x79.2.2.2.2.2.2.2.2.2.2.2.2.2.2.2.2.2.2.2.2.2.2.2.2.2.2.2.2.2.2.2.2.2.2.2.2.2.2.2.2.2.2.2.1 x79.2.2.2.2.2.2.2.2.2.2.2.2.2.2.2.2.2.2.2.2.2.2.2.2.2.2.2.2.2.2.2.2.2.2.2.2.2.2.2.2.2.2.2.2.1 x79.2.2.2.2.2.2.2.2.2.2.2.2.2.2.2.2.2.2.2.2.2.2.2.2.2.2.2.2.2.2.2.2.2.2.2.2.2.2.2.2.2.2.2.2.2.1 x79.2.2.2.2.2.2.2.2.2.2.2.2.2.2.2.2.2.2.2.2.2.2.2.2.2.2.2.2.2.2.2.2.2.2.2.2.2.2.2.2.2.2.2.2.2.2.1 x79.2.2.2.2.2.2.2.2.2.2.2.2.2.2.2.2.2.2.2.2.2.2.2.2.2.2.2.2.2.2.2.2.2.2.2.2.2.2.2.2.2.2.2.2.2.2.2.1 x79.2.2.2.2.2.2.2.2.2.2.2.2.2.2.2.2.2.2.2.2.2.2.2.2.2.2.2.2.2.2.2.2.2.2.2.2.2.2.2.2.2.2.2.2.2.2.2.2.1 (.osl 26 bF.sz x79.2.2.2.2.2.2.2.2.2.2.2.2.2.2.2.2.2.2.2.2.2.2.2.2.2.2.2.2.2.2.2.2.2.2.2.2.2.2.2.2.2.2.2.2.2.2.2.2.2.1.length) x79.2.2.2.2.2.2.2.2.2.2.2.2.2.2.2.2.2.2.2.2.2.2.2.2.2.2.2.2.2.2.2.2.2.2.2.2.2.2.2.2.2.2.2.2.2.2.2.2.2.2.1 x79.2.2.2.2.2.2.2.2.2.2.2.2.2.2.2.2.2.2.2.2.2.2.2.2.2.2.2.2.2.2.2.2.2.2.2.2.2.2.2.2.2.2.2.2.2.2.2.2.2.2.2.1 x79.2.2.2.2.2.2.2.2.2.2.2.2.2.2.2.2.2.2.2.2.2.2.2.2.2.2.2.2.2.2.2.2.2.2.2.2.2.2.2.2.2.2.2.2.2.2.2.2.2.2.2.2.1 x79.2.2.2.2.2.2.2.2.2.2.2.2.2.2.2.2.2.2.2.2.2.2.2.2.2.2.2.2.2.2.2.2.2.2.2.2.2.2.2.2.2.2.2.2.2.2.2.2.2.2.2.2.2)), (26, .blk 51 (D.flat (x79.2.2.2.2.2.2.2.2.2.2.2.2.2.2.2.2.2.2.2.2.2.2.2.2.2.2.2.2.2.2.2.2.2.2.2.2.2.2.2.2.2.2.2.2.2.2.2.2.2.1.map bF.d)))]) 26 [3, 25] rfl rfl (lb rfl) cl10 (.cons (svR rfl) (.cons (svA q21 rfl) .nil)) rfl rfl ⟨rfl, rfl, by decide, rfl, List.forall_mem_cons.2 ⟨⟨rfl, rfl, rfl, rfl⟩, List.forall_mem_cons.2 ⟨⟨rfl, rfl, (wT bF rfl), (iO bF)⟩, List.forall_mem_nil _⟩⟩⟩ (lC _ _ _ _ _ _ _ _ _ _ _ _ _ _ _ _ _ _ _ _ _ _ _ _ _ _ _ _ _ _ _ _ _ _ _ _ _ _ _ _ _ _ _ _ _ _ _ _ _ _ _ _ _ _ _ hx79) rfl rfl (List.forall_mem_cons.2 ⟨⟨rfl, rfl⟩, List.forall_mem_cons.2 ⟨⟨rfl, (iO bF)⟩, List.forall_mem_nil _⟩⟩) (by simp only [List.map_cons, List.map_nil, Ent.ren, fB, gF]; rfl)) <|
       cN ?_)
      refine cP ?_
      refine aR ?_
      obtain ⟨x80, hx80, h⟩ := aQ h
      refine bL (aA rfl (mvI rfl rfl rfl rfl) <|
       aA rfl (bM rfl rfl (lb rfl) (svI rfl) (sv (d := .int _ 1) rfl) rfl hx80) <|
       aA rfl (asI rfl rfl rfl rfl) <|
       cN ?_)
      refine aR ⟨(n0, x80, x79.2.1, x79.2.2.1, x79.2.2.2.1, x79.2.2.2.2.1, x79.2.2.2.2.2.1, x79.2.2.2.2.2.2.1, x79.2.2.2.2.2.2.2.1, x79.2.2.2.2.2.2.2.2.1, x79.2.2.2.2.2.2.2.2.2.1, x79.2.2.2.2.2.2.2.2.2.2.1, x79.2.2.2.2.2.2.2.2.2.2.2.1, x79.2.2.2.2.2.2.2.2.2.2.2.2.1, x79.2.2.2.2.2.2.2.2.2.2.2.2.2.1, x79.2.2.2.2.2.2.2.2.2.2.2.2.2.2.1, x79.2.2.2.2.2.2.2.2.2.2.2.2.2.2.2.1, x79.2.2.2.2.2.2.2.2.2.2.2.2.2.2.2.2.1, x79.2.2.2.2.2.2.2.2.2.2.2.2.2.2.2.2.2.1, x79.2.2.2.2.2.2.2.2.2.2.2.2.2.2.2.2.2.2.1, x79.2.2.2.2.2.2.2.2.2.2.2.2.2.2.2.2.2.2.2.1, x79.2.2.2.2.2.2.2.2.2.2.2.2.2.2.2.2.2.2.2.2.1, x79.2.2.2.2.2.2.2.2.2.2.2.2.2.2.2.2.2.2.2.2.2.1, x79.2.2.2.2.2.2.2.2.2.2.2.2.2.2.2.2.2.2.2.2.2.2.1, x79.2.2.2.2.2.2.2.2.2.2.2.2.2.2.2.2.2.2.2.2.2.2.2.1, x79.2.2.2.2.2.2.2.2.2.2.2.2.2.2.2.2.2.2.2.2.2.2.2.2.1, x79.2.2.2.2.2.2.2.2.2.2.2.2.2.2.2.2.2.2.2.2.2.2.2.2.2.1, x79.2.2.2.2.2.2.2.2.2.2.2.2.2.2.2.2.2.2.2.2.2.2.2.2.2.2.1, x79.2.2.2.2.2.2.2.2.2.2.2.2.2.2.2.2.2.2.2.2.2.2.2.2.2.2.2.1, x79.2.2.2.2.2.2.2.2.2.2.2.2.2.2.2.2.2.2.2.2.2.2.2.2.2.2.2.2.1, x79.2.2.2.2.2.2.2.2.2.2.2.2.2.2.2.2.2.2.2.2.2.2.2.2.2.2.2.2.2.1, x79.2.2.2.2.2.2.2.2.2.2.2.2.2.2.2.2.2.2.2.2.2.2.2.2.2.2.2.2.2.2.1, x79.2.2.2.2.2.2.2.2.2.2.2.2.2.2.2.2.2.2.2.2.2.2.2.2.2.2.2.2.2.2.2.1, x79.2.2.2.2.2.2.2.2.2.2.2.2.2.2.2.2.2.2.2.2.2.2.2.2.2.2.2.2.2.2.2.2.1, x79.2.2.2.2.2.2.2.2.2.2.2.2.2.2.2.2.2.2.2.2.2.2.2.2.2.2.2.2.2.2.2.2.2.1, x79.2.2.2.2.2.2.2.2.2.2.2.2.2.2.2.2.2.2.2.2.2.2.2.2.2.2.2.2.2.2.2.2.2.2.1, x79.2.2.2.2.2.2.2.2.2.2.2.2.2.2.2.2.2.2.2.2.2.2.2.2.2.2.2.2.2.2.2.2.2.2.2.1, x79.2.2.2.2.2.2.2.2.2.2.2.2.2.2.2.2.2.2.2.2.2.2.2.2.2.2.2.2.2.2.2.2.2.2.2.2.1, x79.2.2.2.2.2.2.2.2.2.2.2.2.2.2.2.2.2.2.2.2.2.2.2.2.2.2.2.2.2.2.2.2.2.2.2.2.2.1, x79.2.2.2.2.2.2.2.2.2.2.2.2.2.2.2.2.2.2.2.2.2.2.2.2.2.2.2.2.2.2.2.2.2.2.2.2.2.2.1, x79.2.2.2.2.2.2.2.2.2.2.2.2.2.2.2.2.2.2.2.2.2.2.2.2.2.2.2.2.2.2.2.2.2.2.2.2.2.2.2.1, x79.2.2.2.2.2.2.2.2.2.2.2.2.2.2.2.2.2.2.2.2.2.2.2.2.2.2.2.2.2.2.2.2.2.2.2.2.2.2.2.2.1, x79.2.2.2.2.2.2.2.2.2.2.2.2.2.2.2.2.2.2.2.2.2.2.2.2.2.2.2.2.2.2.2.2.2.2.2.2.2.2.2.2.2.1, x79.2.2.2.2.2.2.2.2.2.2.2.2.2.2.2.2.2.2.2.2.2.2.2.2.2.2.2.2.2.2.2.2.2.2.2.2.2.2.2.2.2.2.1, x79.2.2.2.2.2.2.2.2.2.2.2.2.2.2.2.2.2.2.2.2.2.2.2.2.2.2.2.2.2.2.2.2.2.2.2.2.2.2.2.2.2.2.2.1, x79.2.2.2.2.2.2.2.2.2.2.2.2.2.2.2.2.2.2.2.2.2.2.2.2.2.2.2.2.2.2.2.2.2.2.2.2.2.2.2.2.2.2.2.2.1, x79.2.2.2.2.2.2.2.2.2.2.2.2.2.2.2.2.2.2.2.2.2.2.2.2.2.2.2.2.2.2.2.2.2.2.2.2.2.2.2.2.2.2.2.2.2.1, x79.2.2.2.2.2.2.2.2.2.2.2.2.2.2.2.2.2.2.2.2.2.2.2.2.2.2.2.2.2.2.2.2.2.2.2.2.2.2.2.2.2.2.2.2.2.2.1, x79.2.2.2.2.2.2.2.2.2.2.2.2.2.2.2.2.2.2.2.2.2.2.2.2.2.2.2.2.2.2.2.2.2.2.2.2.2.2.2.2.2.2.2.2.2.2.2.1, x79.2.2.2.2.2.2.2.2.2.2.2.2.2.2.2.2.2.2.2.2.2.2.2.2.2.2.2.2.2.2.2.2.2.2.2.2.2.2.2.2.2.2.2.2.2.2.2.2.1, x79.2.2.2.2.2.2.2.2.2.2.2.2.2.2.2.2.2.2.2.2.2.2.2.2.2.2.2.2.2.2.2.2.2.2.2.2.2.2.2.2.2.2.2.2.2.2.2.2.2.1, x79.2.2.2.2.2.2.2.2.2.2.2.2.2.2.2.2.2.2.2.2.2.2.2.2.2.2.2.2.2.2.2.2.2.2.2.2.2.2.2.2.2.2.2.2.2.2.2.2.2.2.1, x79.2.2.2.2.2.2.2.2.2.2.2.2.2.2.2.2.2.2.2.2.2.2.2.2.2.2.2.2.2.2.2.2.2.2.2.2.2.2.2.2.2.2.2.2.2.2.2.2.2.2.2.1, x79.2.2.2.2.2.2.2.2.2.2.2.2.2.2.2.2.2.2.2.2.2.2.2.2.2.2.2.2.2.2.2.2.2.2.2.2.2.2.2.2.2.2.2.2.2.2.2.2.2.2.2.2.1, x79.2.2.2.2.2.2.2.2.2.2.2.2.2.2.2.2.2.2.2.2.2.2.2.2.2.2.2.2.2.2.2.2.2.2.2.2.2.2.2.2.2.2.2.2.2.2.2.2.2.2.2.2.2), (fun i => if i = 25 then 26 else i), ⟨(.sames rfl rfl), (.cons (.blk rfl rfl rfl) (.cons (EntW.lst rfl) .nil)), cK [3, 26] rfl (by decide), (fun i hi => by first | rfl | (show (if _ then _ else _) = _; (repeat' split) <;> omega))⟩, ?_, ?_⟩
      exact h
      exact Nat.lt_succ_self _
     ·
      replace h := cC h hc77
      refine dZ ?_
      refine cT ?_
      refine cT ?_
      refine eA ?_
      refine aR ?_
      refine bC ?_
      refine aE (aA rfl (aH rfl rfl (lb rfl) (sv (d := .int _ 0) rfl)) <|
       aD ?_)
      refine bW ?_
      refine dQ (α := Nat × Int) (fun z => ⟨[(2, .int .u8 a2), (7, .ref 3 0), (10, .int .i64 z.2)], [(3, .blk 49 (w41 v18 v19 v20 v21 v22 v23 v24 v25 v26 v27 v28 v29 v30 v31 v32 v33 v34 v35 v36 v37 v38 v39 v40 v41 v42 v43 v44 v45 v46 v47 v48 v49 v50 v51 v52 v53 v54 v55 v56 v57 v58 v59 v60 v61 v62 v63 v64 v65 (.osl 25 bF.sz v66.length) v67 v68 v69 v70)), (25, .blk 51 (D.flat (v66.map bF.d)))]⟩) (fun z => cO a2 v18 v19 v20 v21 v22 v23 v24 v25 v26 v27 v28 v29 v30 v31 v32 v33 v34 v35 v36 v37 v38 v39 v40 v41 v42 v43 v44 v45 v46 v47 v48 v49 v50 v51 v52 v53 v54 v55 v56 v57 v58 v59 v60 v61 v62 v63 v64 v65 z.1 z.2 = some r) (fun z => z.1) (fuel, 0) (fun i => i) ⟨(.sames rfl rfl), (.cons (.blk rfl rfl rfl) (.cons (EntW.lst rfl) .nil)), cK [3, 25] rfl (by decide), fun _ _ => rfl⟩ ?_ ?_
      ·exact h
      ·
       rintro ⟨n1, v309⟩ h
       cases n1 with
       | zero => exact absurd h (by unfold cO; exact nofun)
       | succ n1 =>
        unfold cO at h
        refine bC ?_
        obtain ⟨x538, hx538, h⟩ := aQ h
        refine aE (aA rfl (mvI rfl rfl rfl rfl) <|
         aA rfl (aP rfl rfl (lb rfl) (svI rfl) (sv (d := .int _ 2) rfl) rfl hx538) <|
         aD ?_)
        refine aX (b := _) rfl (fun hc539 => ?_) (fun hc539 => ?_)
        ·
         replace h := cB h hc539
         refine aY ?_
         refine aR ?_
         refine bC ?_
         refine bW ?_
         refine aE (aA rfl (mvR rfl rfl rfl rfl) <|
          aA rfl (bD rfl rfl (lb rfl) (svR rfl)) <|
          aA rfl (faR 0 rfl rfl rfl Tryz.underlying49 rfl ti46 (lb rfl) rfl rfl) <|
          aA rfl (lra q13 la46 rfl rfl rfl rfl rfl (nle rfl) rfl) <|
          aA rfl (aZ (cs := q14) (cs' := (w42 0 0 [] 0 ([] : List aJ) ([] : List aF) false false false false 0 [] ([] : List aN) 0 0 0 0 0 0 0 0 0 0 0)) 26 rfl rfl (lb rfl) rfl ti46 rfl rfl (.k4 (.cons (.nils _) (.cons (.nils _) (.k4 (.k (.k (.cons (.nils _) (.all _))))))))) <|
          aA rfl (stA q13 q13 ti46 rfl rfl rfl rfl rfl rfl rfl rfl (nle rfl) rfl) <|
          aD ?_)
         refine kM (α := Int × Int × (List UInt8) × Int × (List aJ) × (List aF) × Bool × Bool × Bool × Bool × Int × (List UInt8) × (List aN) × Int × Int × Int × Int × Int × Int × Int × Int × Int × Int × Int) (fun z => ⟨[(2, .int .u8 a2), (7, .ref 3 0), (10, .int .i64 v309), (11, .ref 26 0)], [(3, .blk 49 (w41 v18 v19 v20 v21 v22 v23 v24 v25 v26 v27 v28 v29 v30 v31 v32 v33 v34 v35 v36 v37 v38 v39 v40 v41 v42 v43 v44 v45 v46 v47 v48 v49 v50 v51 v52 v53 v54 v55 v56 v57 v58 v59 v60 v61 v62 v63 v64 v65 (.osl 25 bF.sz v66.length) v67 v68 v69 v70)), (26, .blk 46 (w42 z.1 z.2.1 z.2.2.1 z.2.2.2.1 z.2.2.2.2.1 z.2.2.2.2.2.1 z.2.2.2.2.2.2.1 z.2.2.2.2.2.2.2.1 z.2.2.2.2.2.2.2.2.1 z.2.2.2.2.2.2.2.2.2.1 z.2.2.2.2.2.2.2.2.2.2.1 z.2.2.2.2.2.2.2.2.2.2.2.1 z.2.2.2.2.2.2.2.2.2.2.2.2.1 z.2.2.2.2.2.2.2.2.2.2.2.2.2.1 z.2.2.2.2.2.2.2.2.2.2.2.2.2.2.1 z.2.2.2.2.2.2.2.2.2.2.2.2.2.2.2.1 z.2.2.2.2.2.2.2.2.2.2.2.2.2.2.2.2.1 z.2.2.2.2.2.2.2.2.2.2.2.2.2.2.2.2.2.1 z.2.2.2.2.2.2.2.2.2.2.2.2.2.2.2.2.2.2.1 z.2.2.2.2.2.2.2.2.2.2.2.2.2.2.2.2.2.2.2.1 z.2.2.2.2.2.2.2.2.2.2.2.2.2.2.2.2.2.2.2.2.1 z.2.2.2.2.2.2.2.2.2.2.2.2.2.2.2.2.2.2.2.2.2.1 z.2.2.2.2.2.2.2.2.2.2.2.2.2.2.2.2.2.2.2.2.2.2.1 z.2.2.2.2.2.2.2.2.2.2.2.2.2.2.2.2.2.2.2.2.2.2.2)), (25, .blk 51 (D.flat (v66.map bF.d)))]⟩) (fun z => eH a2 v309 (cO a2 v18 v19 v20 v21 v22 v23 v24 v25 v26 v27 v28 v29 v30 v31 v32 v33 v34 v35 v36 v37 v38 v39 v40 v41 v42 v43 v44 v45 v46 v47 v48 v49 v50 v51 v52 v53 v54 v55 v56 v57 v58 v59 v60 v61 v62 v63 v64 v65 n1) z.1 z.2.1 z.2.2.1 z.2.2.2.1 z.2.2.2.2.1 z.2.2.2.2.2.1 z.2.2.2.2.2.2.1 z.2.2.2.2.2.2.2.1 z.2.2.2.2.2.2.2.2.1 z.2.2.2.2.2.2.2.2.2.1 z.2.2.2.2.2.2.2.2.2.2.1 z.2.2.2.2.2.2.2.2.2.2.2.1 z.2.2.2.2.2.2.2.2.2.2.2.2.1 z.2.2.2.2.2.2.2.2.2.2.2.2.2.1 z.2.2.2.2.2.2.2.2.2.2.2.2.2.2.1 z.2.2.2.2.2.2.2.2.2.2.2.2.2.2.2.1 z.2.2.2.2.2.2.2.2.2.2.2.2.2.2.2.2.1 z.2.2.2.2.2.2.2.2.2.2.2.2.2.2.2.2.2.1 z.2.2.2.2.2.2.2.2.2.2.2.2.2.2.2.2.2.2.1 z.2.2.2.2.2.2.2.2.2.2.2.2.2.2.2.2.2.2.2.1 z.2.2.2.2.2.2.2.2.2.2.2.2.2.2.2.2.2.2.2.2.1 z.2.2.2.2.2.2.2.2.2.2.2.2.2.2.2.2.2.2.2.2.2.1 z.2.2.2.2.2.2.2.2.2.2.2.2.2.2.2.2.2.2.2.2.2.2.1 z.2.2.2.2.2.2.2.2.2.2.2.2.2.2.2.2.2.2.2.2.2.2.2 = some r) ?_ ?_
         ·
          obtain ⟨x764, hx764, h⟩ := aQ h
          refine aE (aA rfl (mvI rfl rfl rfl rfl) <|
           aA rfl (aP rfl rfl (lb rfl) (svI rfl) (sv (d := .int _ 1) rfl) rfl hx764) <|
           aD ?_)
          refine aX (b := _) rfl (fun hc765 => ?_) (fun hc765 => ?_)
          ·
           replace h := cB h hc765
           refine bL (aA rfl (mvR rfl rfl rfl rfl) <|
            aA rfl (bD rfl rfl (lb rfl) (svR rfl)) <|
            aA rfl (faR 24 rfl rfl rfl Tryz.underlying49 rfl ti46 (lb rfl) rfl rfl) <|
            aA rfl (lra q13 la46 rfl rfl rfl rfl rfl (nle rfl) rfl) <|
            aA rfl (stA q13 q13 ti46 rfl rfl rfl rfl rfl rfl rfl rfl (nle rfl) rfl) <|
            cN ?_)
           refine aR ⟨(v42, v43, v44, v45, v46, v47, v48, v49, v50, v51, v52, v53, v54, v55, v56, v57, v58, v59, v60, v61, v62, v63, v64, v65), (fun i => i), ⟨(.sames rfl rfl), (.cons (.blk rfl rfl rfl) (.cons (.blk rfl rfl rfl) (.cons (EntW.lst rfl) .nil))), cK [3, 26, 25] rfl (by decide), fun _ _ => rfl⟩, ?_⟩
           exact h
          ·
           replace h := cC h hc765
           refine aY ?_
           refine aR ⟨(v18, v19, v20, v21, v22, v23, v24, v25, v26, v27, v28, v29, v30, v31, v32, v33, v34, v35, v36, v37, v38, v39, v40, v41), (fun i => i), ⟨(.sames rfl rfl), (.cons (.blk rfl rfl rfl) (.cons (.blk rfl rfl rfl) (.cons (EntW.lst rfl) .nil))), cK [3, 26, 25] rfl (by decide), fun _ _ => rfl⟩, ?_⟩
           exact h
         ·
          rintro ⟨v542, v543, v544, v545, v546, v547, v548, v549, v550, v551, v552, v553, v554, v555, v556, v557, v558, v559, v560, v561, v562, v563, v564, v565⟩ h
          unfold eH at h
          obtain ⟨x566, hx566, h⟩ := aQ h
          obtain ⟨x567, hx567, h⟩ := bE h
          obtain ⟨x568, hx568, h⟩ := aQ h
          obtain ⟨x569, hx569, h⟩ := bE h
          refine dE rfl [⟨[11], [26], [(71, .agg (w42 v542 v543 v544 v545 v546 v547 v548 v549 v550 v551 v552 v553 v554 v555 v556 v557 v558 v559 v560 v561 v562 v563 v564 v565))], []⟩,
           ⟨[2], [], [(72, .int .u8 a2)], []⟩,
           ⟨[72], [], [(73, .int .i64 x566)], []⟩,
           ⟨[71, 73], [], [(74, .agg (v1 x567))], []⟩,
           ⟨[11], [26], [(75, .agg (w42 v542 v543 v544 v545 v546 v547 v548 v549 v550 v551 v552 v553 v554 v555 v556 v557 v558 v559 v560 v561 v562 v563 v564 v565))], []⟩,
           ⟨[2], [], [(76, .int .u8 a2)], []⟩,
           ⟨[76], [], [(77, .int .i64 x568)], []⟩,
           ⟨[75, 77], [], [(78, .agg (v1 x569))], []⟩,
           ⟨[], [27], [(12, .ref 27 0)], [(27, .blk 46 (w42 0 0 [] 0 ([] : List aJ) ([] : List aF) false false false false 0 [] ([] : List aN) 0 0 0 0 0 0 0 0 0 0 0))]⟩,
           ⟨[], [28], [(13, .ref 28 0)], [(28, .blk 46 (w42 0 0 [] 0 ([] : List aJ) ([] : List aF) false false false false 0 [] ([] : List aN) 0 0 0 0 0 0 0 0 0 0 0))]⟩,
           ⟨[12, 74], [27], [], [(27, .blk 46 (v1 x567))]⟩,
           ⟨[13, 78], [28], [], [(28, .blk 46 (v1 x569))]⟩] rfl ?_ (by kernel_rfl) ?_
          ·refine .cons (lop rfl rfl fun S hA => (bJ (cs := q13) rfl rfl (lb rfl) Tryz.underlying46 ag46 ti46 (by decide) (svaR hA rfl rfl) (agi hA rfl rfl) (nle rfl) rfl)) ?_
           refine .cons (lop rfl rfl fun S hA => (aM rfl rfl (lb rfl) (svaI hA rfl rfl))) ?_
           refine .cons (lop rfl rfl fun S hA => (iC rfl rfl (lb rfl) ⟨_, Tryz.underlying5⟩ Tryz.underlying3 (svaI hA rfl rfl) hx566)) ?_
           refine .cons (lop rfl rfl fun S hA => (aS (r := .agg q13) rfl rfl (lb rfl) cl29 (.cons (svaA q13 hA rfl rfl) (.cons (svaI hA rfl rfl) .nil)) rfl (oI _ _ _ hx567))) ?_
           refine .cons (lop rfl rfl fun S hA => (bJ (cs := q13) rfl rfl (lb rfl) Tryz.underlying46 ag46 ti46 (by decide) (svaR hA rfl rfl) (agi hA rfl rfl) (nle rfl) rfl)) ?_
           refine .cons (lop rfl rfl fun S hA => (aM rfl rfl (lb rfl) (svaI hA rfl rfl))) ?_
           refine .cons (lop rfl rfl fun S hA => (iC rfl rfl (lb rfl) ⟨_, Tryz.underlying5⟩ Tryz.underlying3 (svaI hA rfl rfl) hx568)) ?_
           refine .cons (lop rfl rfl fun S hA => (aS (r := .agg q13) rfl rfl (lb rfl) cl30 (.cons (svaA q13 hA rfl rfl) (.cons (svaI hA rfl rfl) .nil)) rfl (kL _ _ _ hx569))) ?_
           refine .cons (lop rfl rfl fun S hA => (aZ (cs := q14) (cs' := (w42 0 0 [] 0 ([] : List aJ) ([] : List aF) false false false false 0 [] ([] : List aN) 0 0 0 0 0 0 0 0 0 0 0)) 27 rfl rfl (lb rfl) (agi hA rfl rfl) ti46 rfl rfl (.k4 (.cons (.nils _) (.cons (.nils _) (.k4 (.k (.k (.cons (.nils _) (.all _)))))))))) ?_
           refine .cons (lop rfl rfl fun S hA => (aZ (cs := q14) (cs' := (w42 0 0 [] 0 ([] : List aJ) ([] : List aF) false false false false 0 [] ([] : List aN) 0 0 0 0 0 0 0 0 0 0 0)) 28 rfl rfl (lb rfl) (agi hA rfl rfl) ti46 rfl rfl (.k4 (.cons (.nils _) (.cons (.nils _) (.k4 (.k (.k (.cons (.nils _) (.all _)))))))))) ?_
           refine .cons (lop rfl rfl fun S hA => (bK (ds' := q13) rfl rfl ti46 (svaR hA rfl rfl) (agi hA rfl rfl) (svaA q13 hA rfl rfl) rfl rfl rfl (nle rfl) rfl)) ?_
           refine .cons (lop rfl rfl fun S hA => (bK (ds' := q13) rfl rfl ti46 (svaR hA rfl rfl) (agi hA rfl rfl) (svaA q13 hA rfl rfl) rfl rfl rfl (nle rfl) rfl)) ?_
           exact .nil
          refine bC ?_
          refine aE (aA rfl (aH rfl rfl (lb rfl) (sv (d := .int _ 0) rfl)) <|
           aD ?_)
          refine bW ?_
          refine dQ (α := Nat × Int) (fun z => ⟨[(2, .int .u8 a2), (7, .ref 3 0), (10, .int .i64 v309), (12, .ref 27 0), (13, .ref 28 0), (14, .int .i64 z.2)], [(3, .blk 49 (w41 v18 v19 v20 v21 v22 v23 v24 v25 v26 v27 v28 v29 v30 v31 v32 v33 v34 v35 v36 v37 v38 v39 v40 v41 v42 v43 v44 v45 v46 v47 v48 v49 v50 v51 v52 v53 v54 v55 v56 v57 v58 v59 v60 v61 v62 v63 v64 v65 (.osl 25 bF.sz v66.length) v67 v68 v69 v70)), (27, .blk 46 (v1 x567)), (28, .blk 46 (v1 x569)), (25, .blk 51 (D.flat (v66.map bF.d)))]⟩) (fun z => bY v309 (cO a2 v18 v19 v20 v21 v22 v23 v24 v25 v26 v27 v28 v29 v30 v31 v32 v33 v34 v35 v36 v37 v38 v39 v40 v41 v42 v43 v44 v45 v46 v47 v48 v49 v50 v51 v52 v53 v54 v55 v56 v57 v58 v59 v60 v61 v62 v63 v64 v65 n1) x567 x569 z.1 z.2 = some r) (fun z => z.1) (fuel, 0) (fun i => i) ⟨(.sames rfl rfl), (.cons (.blk rfl rfl rfl) (.cons (.blk rfl rfl rfl) (.cons (.blk rfl rfl rfl) (.cons (EntW.lst rfl) .nil)))), cK [3, 27, 28, 25] rfl (by decide), fun _ _ => rfl⟩ ?_ ?_
          ·exact h
          ·
           rintro ⟨n3, v630⟩ h
           cases n3 with
           | zero => exact absurd h (by unfold bY; exact nofun)
           | succ n3 =>
            unfold bY at h
            refine bC ?_
            obtain ⟨x691, hx691, h⟩ := aQ h
            refine aE (aA rfl (mvI rfl rfl rfl rfl) <|
             aA rfl (aP rfl rfl (lb rfl) (svI rfl) (sv (d := .int _ 2) rfl) rfl hx691) <|
             aD ?_)
            refine aX (b := _) rfl (fun hc692 => ?_) (fun hc692 => ?_)
            ·
             replace h := cB h hc692
             refine aY ?_
             refine aR ?_
             refine bC ?_
             refine bW ?_
             refine aE (aA rfl (lra q13 la46 rfl rfl rfl rfl rfl (nle rfl) rfl) <|
              aA rfl (aZ (cs := q14) (cs' := (w42 0 0 [] 0 ([] : List aJ) ([] : List aF) false false false false 0 [] ([] : List aN) 0 0 0 0 0 0 0 0 0 0 0)) 29 rfl rfl (lb rfl) rfl ti46 rfl rfl (.k4 (.cons (.nils _) (.cons (.nils _) (.k4 (.k (.k (.cons (.nils _) (.all _))))))))) <|
              aA rfl (stA q13 q13 ti46 rfl rfl rfl rfl rfl rfl rfl rfl (nle rfl) rfl) <|
              aD ?_)
             refine kM (α := Int × Int × (List UInt8) × Int × (List aJ) × (List aF) × Bool × Bool × Bool × Bool × Int × (List UInt8) × (List aN) × Int × Int × Int × Int × Int × Int × Int × Int × Int × Int × Int) (fun z => ⟨[(2, .int .u8 a2), (7, .ref 3 0), (10, .int .i64 v309), (12, .ref 27 0), (13, .ref 28 0), (14, .int .i64 v630), (15, .ref 29 0)], [(3, .blk 49 (w41 v18 v19 v20 v21 v22 v23 v24 v25 v26 v27 v28 v29 v30 v31 v32 v33 v34 v35 v36 v37 v38 v39 v40 v41 v42 v43 v44 v45 v46 v47 v48 v49 v50 v51 v52 v53 v54 v55 v56 v57 v58 v59 v60 v61 v62 v63 v64 v65 (.osl 25 bF.sz v66.length) v67 v68 v69 v70)), (27, .blk 46 (v1 x567)), (28, .blk 46 (v1 x569)), (29, .blk 46 (w42 z.1 z.2.1 z.2.2.1 z.2.2.2.1 z.2.2.2.2.1 z.2.2.2.2.2.1 z.2.2.2.2.2.2.1 z.2.2.2.2.2.2.2.1 z.2.2.2.2.2.2.2.2.1 z.2.2.2.2.2.2.2.2.2.1 z.2.2.2.2.2.2.2.2.2.2.1 z.2.2.2.2.2.2.2.2.2.2.2.1 z.2.2.2.2.2.2.2.2.2.2.2.2.1 z.2.2.2.2.2.2.2.2.2.2.2.2.2.1 z.2.2.2.2.2.2.2.2.2.2.2.2.2.2.1 z.2.2.2.2.2.2.2.2.2.2.2.2.2.2.2.1 z.2.2.2.2.2.2.2.2.2.2.2.2.2.2.2.2.1 z.2.2.2.2.2.2.2.2.2.2.2.2.2.2.2.2.2.1 z.2.2.2.2.2.2.2.2.2.2.2.2.2.2.2.2.2.2.1 z.2.2.2.2.2.2.2.2.2.2.2.2.2.2.2.2.2.2.2.1 z.2.2.2.2.2.2.2.2.2.2.2.2.2.2.2.2.2.2.2.2.1 z.2.2.2.2.2.2.2.2.2.2.2.2.2.2.2.2.2.2.2.2.2.1 z.2.2.2.2.2.2.2.2.2.2.2.2.2.2.2.2.2.2.2.2.2.2.1 z.2.2.2.2.2.2.2.2.2.2.2.2.2.2.2.2.2.2.2.2.2.2.2)), (25, .blk 51 (D.flat (v66.map bF.d)))]⟩) (fun z => eG (bY v309 (cO a2 v18 v19 v20 v21 v22 v23 v24 v25 v26 v27 v28 v29 v30 v31 v32 v33 v34 v35 v36 v37 v38 v39 v40 v41 v42 v43 v44 v45 v46 v47 v48 v49 v50 v51 v52 v53 v54 v55 v56 v57 v58 v59 v60 v61 v62 v63 v64 v65 n1) x567 x569 n3) v630 z.1 z.2.1 z.2.2.1 z.2.2.2.1 z.2.2.2.2.1 z.2.2.2.2.2.1 z.2.2.2.2.2.2.1 z.2.2.2.2.2.2.2.1 z.2.2.2.2.2.2.2.2.1 z.2.2.2.2.2.2.2.2.2.1 z.2.2.2.2.2.2.2.2.2.2.1 z.2.2.2.2.2.2.2.2.2.2.2.1 z.2.2.2.2.2.2.2.2.2.2.2.2.1 z.2.2.2.2.2.2.2.2.2.2.2.2.2.1 z.2.2.2.2.2.2.2.2.2.2.2.2.2.2.1 z.2.2.2.2.2.2.2.2.2.2.2.2.2.2.2.1 z.2.2.2.2.2.2.2.2.2.2.2.2.2.2.2.2.1 z.2.2.2.2.2.2.2.2.2.2.2.2.2.2.2.2.2.1 z.2.2.2.2.2.2.2.2.2.2.2.2.2.2.2.2.2.2.1 z.2.2.2.2.2.2.2.2.2.2.2.2.2.2.2.2.2.2.2.1 z.2.2.2.2.2.2.2.2.2.2.2.2.2.2.2.2.2.2.2.2.1 z.2.2.2.2.2.2.2.2.2.2.2.2.2.2.2.2.2.2.2.2.2.1 z.2.2.2.2.2.2.2.2.2.2.2.2.2.2.2.2.2.2.2.2.2.2.1 z.2.2.2.2.2.2.2.2.2.2.2.2.2.2.2.2.2.2.2.2.2.2.2 = some r) ?_ ?_
             ·
              obtain ⟨x749, hx749, h⟩ := aQ h
              refine aE (aA rfl (mvI rfl rfl rfl rfl) <|
               aA rfl (aP rfl rfl (lb rfl) (svI rfl) (sv (d := .int _ 1) rfl) rfl hx749) <|
               aD ?_)
              refine aX (b := _) rfl (fun hc750 => ?_) (fun hc750 => ?_)
              ·
               replace h := cB h hc750
               refine bL (aA rfl (lra q13 la46 rfl rfl rfl rfl rfl (nle rfl) rfl) <|
                aA rfl (stA q13 q13 ti46 rfl rfl rfl rfl rfl rfl rfl rfl (nle rfl) rfl) <|
                cN ?_)
               refine aR ⟨(x569.ID, x569.Send.Base, x569.Send.Data, x569.Send.Next, x569.Send.Pieces, x569.Send.Lost, x569.Send.Closed, x569.Send.Sent, x569.Send.Again, x569.Send.Done, x569.Recv.Recv.Base, x569.Recv.Recv.Ready, x569.Recv.Recv.Parts, x569.Recv.End, x569.Out.Window, x569.Out.Limit, x569.Out.Used, x569.Out.Read, x569.In.Window, x569.In.Limit, x569.In.Used, x569.In.Read, x569.Mine, x569.Hers), (fun i => i), ⟨(.sames rfl rfl), (.cons (.blk rfl rfl rfl) (.cons (.blk rfl rfl rfl) (.cons (.blk rfl rfl rfl) (.cons (.blk rfl rfl rfl) (.cons (EntW.lst rfl) .nil))))), cK [3, 27, 28, 29, 25] rfl (by decide), fun _ _ => rfl⟩, ?_⟩
               exact h
              ·
               replace h := cC h hc750
               refine aY ?_
               refine aR ⟨(x567.ID, x567.Send.Base, x567.Send.Data, x567.Send.Next, x567.Send.Pieces, x567.Send.Lost, x567.Send.Closed, x567.Send.Sent, x567.Send.Again, x567.Send.Done, x567.Recv.Recv.Base, x567.Recv.Recv.Ready, x567.Recv.Recv.Parts, x567.Recv.End, x567.Out.Window, x567.Out.Limit, x567.Out.Used, x567.Out.Read, x567.In.Window, x567.In.Limit, x567.In.Used, x567.In.Read, x567.Mine, x567.Hers), (fun i => i), ⟨(.sames rfl rfl), (.cons (.blk rfl rfl rfl) (.cons (.blk rfl rfl rfl) (.cons (.blk rfl rfl rfl) (.cons (.blk rfl rfl rfl) (.cons (EntW.lst rfl) .nil))))), cK [3, 27, 28, 29, 25] rfl (by decide), fun _ _ => rfl⟩, ?_⟩
               exact h
             ·
              rintro ⟨v695, v696, v697, v698, v699, v700, v701, v702, v703, v704, v705, v706, v707, v708, v709, v710, v711, v712, v713, v714, v715, v716, v717, v718⟩ h
              unfold eG at h
              obtain ⟨x719, hx719, h⟩ := bE h
              refine aE (aA rfl (lra q13 la46 rfl rfl rfl rfl rfl (nle rfl) rfl) <|
               aA rfl (aS (r := .tuple q35) rfl rfl (lb rfl) cl31 (.cons (svA q13 rfl) (.cons (sv (d := .str [120]) rfl) .nil)) rfl (oH _ _ _ hx719)) <|
               aA rfl (aM rfl rfl (lb rfl) (sv (d := .tuple q35) rfl)) <|
               aA rfl (aW (d := .agg q13) rfl rfl (lb rfl) (sv (d := .tuple q35) rfl) rfl) <|
               aA rfl (aW (d := .int _ _) rfl rfl (lb rfl) (sv (d := .tuple q35) rfl) rfl) <|
               aA rfl (aW (d := .int _ _) rfl rfl (lb rfl) (sv (d := .tuple q35) rfl) rfl) <|
               aA rfl (aZ (cs := q14) (cs' := (w42 0 0 [] 0 ([] : List aJ) ([] : List aF) false false false false 0 [] ([] : List aN) 0 0 0 0 0 0 0 0 0 0 0)) 30 rfl rfl (lb rfl) rfl ti46 rfl rfl (.k4 (.cons (.nils _) (.cons (.nils _) (.k4 (.k (.k (.cons (.nils _) (.all _))))))))) <|
               aA rfl (stA q13 q13 ti46 rfl rfl rfl rfl rfl rfl rfl rfl (nle rfl) rfl) <|
               aA rfl (asI rfl rfl rfl rfl) <|
               aA rfl (asI rfl rfl rfl rfl) <|
               aD ?_)
              obtain ⟨x720, hx720, h⟩ := bE h
              refine aE (aA rfl (lra q13 la46 rfl rfl rfl rfl rfl (nle rfl) rfl) <|
               aA rfl (aS (r := .tuple q33) rfl rfl (lb rfl) cl32 (.cons (svA q13 rfl) (.cons (sv (d := .int _ 9) rfl) .nil)) rfl (nK _ _ _ hx720)) <|
               aA rfl (aM rfl rfl (lb rfl) (sv (d := .tuple q33) rfl)) <|
               aA rfl (aW (d := .agg q13) rfl rfl (lb rfl) (sv (d := .tuple q33) rfl) rfl) <|
               aA rfl (aW (d := .str _) rfl rfl (lb rfl) (sv (d := .tuple q33) rfl) rfl) <|
               aA rfl (aW (d := .bool _) rfl rfl (lb rfl) (sv (d := .tuple q33) rfl) rfl) <|
               aA rfl (aW (d := .int _ _) rfl rfl (lb rfl) (sv (d := .tuple q33) rfl) rfl) <|
               aA rfl (aZ (cs := q14) (cs' := (w42 0 0 [] 0 ([] : List aJ) ([] : List aF) false false false false 0 [] ([] : List aN) 0 0 0 0 0 0 0 0 0 0 0)) 31 rfl rfl (lb rfl) rfl ti46 rfl rfl (.k4 (.cons (.nils _) (.cons (.nils _) (.k4 (.k (.k (.cons (.nils _) (.all _))))))))) <|
               aA rfl (stA q13 q13 ti46 rfl rfl rfl rfl rfl rfl rfl rfl (nle rfl) rfl) <|
               aA rfl (aH rfl rfl (lb rfl) (sv (d := .str _) rfl)) <|
               aA rfl (asB rfl rfl rfl rfl) <|
               aA rfl (asI rfl rfl rfl rfl) <|
               aD ?_)
              obtain ⟨x721, hx721, h⟩ := bE h
              refine aE (aA rfl (lra q13 la46 rfl rfl rfl rfl rfl (nle rfl) rfl) <|
               aA rfl (aS (r := .tuple q35) rfl rfl (lb rfl) cl12 (.cons (svA q13 rfl) (.cons (sv (d := .int _ 0) rfl) (.cons (sv (d := .str [122, 122]) rfl) (.cons (sv (d := .bool true) rfl) .nil)))) rfl (lB _ _ _ _ _ hx721)) <|
               aA rfl (aM rfl rfl (lb rfl) (sv (d := .tuple q35) rfl)) <|
               aA rfl (aW (d := .agg q13) rfl rfl (lb rfl) (sv (d := .tuple q35) rfl) rfl) <|
               aA rfl (aW (d := .int _ _) rfl rfl (lb rfl) (sv (d := .tuple q35) rfl) rfl) <|
               aA rfl (aW (d := .int _ _) rfl rfl (lb rfl) (sv (d := .tuple q35) rfl) rfl) <|
               aA rfl (aZ (cs := q14) (cs' := (w42 0 0 [] 0 ([] : List aJ) ([] : List aF) false false false false 0 [] ([] : List aN) 0 0 0 0 0 0 0 0 0 0 0)) 32 rfl rfl (lb rfl) rfl ti46 rfl rfl (.k4 (.cons (.nils _) (.cons (.nils _) (.k4 (.k (.k (.cons (.nils _) (.all _))))))))) <|
               aA rfl (stA q13 q13 ti46 rfl rfl rfl rfl rfl rfl rfl rfl (nle rfl) rfl) <|
               aA rfl (asI rfl rfl rfl rfl) <|
               aA rfl (asI rfl rfl rfl rfl) <|
               aD ?_)
              obtain ⟨x722, hx722, h⟩ := bE h
              refine aE (aA rfl (lra q13 la46 rfl rfl rfl rfl rfl (nle rfl) rfl) <|
               aA rfl (aS (r := .tuple q39) rfl rfl (lb rfl) cl33 (.cons (svA q13 rfl) .nil) rfl (mC _ _ hx722)) <|
               aA rfl (aM rfl rfl (lb rfl) (sv (d := .tuple q39) rfl)) <|
               aA rfl (aW (d := .agg q13) rfl rfl (lb rfl) (sv (d := .tuple q39) rfl) rfl) <|
               aA rfl (aW (d := .int _ _) rfl rfl (lb rfl) (sv (d := .tuple q39) rfl) rfl) <|
               aA rfl (aZ (cs := q14) (cs' := (w42 0 0 [] 0 ([] : List aJ) ([] : List aF) false false false false 0 [] ([] : List aN) 0 0 0 0 0 0 0 0 0 0 0)) 33 rfl rfl (lb rfl) rfl ti46 rfl rfl (.k4 (.cons (.nils _) (.cons (.nils _) (.k4 (.k (.k (.cons (.nils _) (.all _))))))))) <|
               aA rfl (stA q13 q13 ti46 rfl rfl rfl rfl rfl rfl rfl rfl (nle rfl) rfl) <|
               aA rfl (asI rfl rfl rfl rfl) <|
               aD ?_)
              obtain ⟨x723, hx723, h⟩ := bE h
              refine aE (aA rfl (lra q13 la46 rfl rfl rfl rfl rfl (nle rfl) rfl) <|
               aA rfl (aS (r := .tuple q32) rfl rfl (lb rfl) cl34 (.cons (svA q13 rfl) (.cons (sv (d := .int _ 0) rfl) (.cons (sv (d := .int _ 9) rfl) (.cons (sv (d := .int _ 9) rfl) .nil)))) rfl (pL _ _ _ _ _ hx723)) <|
               aA rfl (aM rfl rfl (lb rfl) (sv (d := .tuple q32) rfl)) <|
               aA rfl (aW (d := .agg q13) rfl rfl (lb rfl) (sv (d := .tuple q32) rfl) rfl) <|
               aA rfl (aW (d := .agg q20) rfl rfl (lb rfl) (sv (d := .tuple q32) rfl) rfl) <|
               aA rfl (aW (d := .str _) rfl rfl (lb rfl) (sv (d := .tuple q32) rfl) rfl) <|
               aA rfl (aW (d := .bool _) rfl rfl (lb rfl) (sv (d := .tuple q32) rfl) rfl) <|
               aA rfl (aZ (cs := q14) (cs' := (w42 0 0 [] 0 ([] : List aJ) ([] : List aF) false false false false 0 [] ([] : List aN) 0 0 0 0 0 0 0 0 0 0 0)) 34 rfl rfl (lb rfl) rfl ti46 rfl rfl (.k4 (.cons (.nils _) (.cons (.nils _) (.k4 (.k (.k (.cons (.nils _) (.all _))))))))) <|
               aA rfl (aZ (cs := q20) (cs' := (w47 0 0 0 false)) 35 rfl rfl (lb rfl) rfl dD rfl rfl (.all _)) <|
               aA rfl (stA q13 q13 ti46 rfl rfl rfl rfl rfl rfl rfl rfl (nle rfl) rfl) <|
               aA rfl (stA q20 q20 dD rfl rfl rfl rfl rfl rfl rfl rfl (nle rfl) rfl) <|
               aA rfl (aH rfl rfl (lb rfl) (sv (d := .str _) rfl)) <|
               aA rfl (asB rfl rfl rfl rfl) <|
               aD ?_)
              obtain ⟨x724, hx724, h⟩ := aQ h
              obtain ⟨x725, hx725, h⟩ := aQ h
              obtain ⟨x726, hx726, h⟩ := aQ h
              obtain ⟨x727, hx727, h⟩ := aQ h
              obtain ⟨x728, hx728, h⟩ := aQ h
              obtain ⟨x729, hx729, h⟩ := aQ h
              obtain ⟨x730, hx730, h⟩ := aQ h
              obtain ⟨x731, hx731, h⟩ := aQ h
              obtain ⟨x732, hx732, h⟩ := aQ h
              obtain ⟨x733, hx733, h⟩ := aQ h
              obtain ⟨x734, hx734, h⟩ := aQ h
              obtain ⟨x735, hx735, h⟩ := aQ h
              obtain ⟨x736, hx736, h⟩ := aQ h
              obtain ⟨x737, hx737, h⟩ := aQ h
              obtain ⟨x738, hx738, h⟩ := aQ h
              obtain ⟨x739, hx739, h⟩ := bE h
              obtain ⟨x740, hx740, h⟩ := aQ h
              obtain ⟨x741, hx741, h⟩ := bE h
              obtain ⟨x742, hx742, h⟩ := aQ h
              obtain ⟨x743, hx743, h⟩ := bE h
              obtain ⟨x744, hx744, h⟩ := aQ h
              obtain ⟨x745, hx745, h⟩ := bE h
              obtain ⟨x746, hx746, h⟩ := aQ h
              refine aE (aA rfl (mvI rfl rfl rfl rfl) <|
               aA rfl (aP rfl rfl (lb rfl) (svI rfl) (sv (d := .int _ 0) rfl) rfl hx724) <|
               aA rfl (mvB rfl rfl rfl rfl) <|
               aC rfl rfl (.one rfl) rfl (by decide) (fun hb => (mvI rfl rfl rfl rfl)) <|
               aC rfl rfl (.one rfl) rfl (by decide) (fun hb => (aP rfl rfl (lb rfl) (svcI rfl hb) (sv (d := .int _ 15) rfl) rfl hx725)) <|
               aA rfl (cL rfl rfl (lb rfl) (svB rfl) rfl rfl hx726) <|
               aA rfl (mvB rfl rfl rfl rfl) <|
               aC rfl rfl (.one rfl) rfl (by decide) (fun hb => (aM rfl rfl (lb rfl) (sv (d := .str _) rfl))) <|
               aC rfl rfl (.one rfl) rfl (by decide) (fun hb => (kN rfl rfl (lb rfl) (svc (d := .str _) rfl hb) (sv (d := .str []) rfl) rfl hx727)) <|
               aA rfl (cL rfl rfl (lb rfl) (svB rfl) rfl rfl hx728) <|
               aA rfl (mvB rfl rfl rfl rfl) <|
               aC rfl rfl (.one rfl) rfl (by decide) (fun hb => (mvB rfl rfl rfl rfl)) <|
               aA rfl (cL rfl rfl (lb rfl) (svB rfl) rfl rfl hx729) <|
               aA rfl (mvB rfl rfl rfl rfl) <|
               aC rfl rfl (.one rfl) rfl (by decide) (fun hb => (mvI rfl rfl rfl rfl)) <|
               aC rfl rfl (.one rfl) rfl (by decide) (fun hb => (aP rfl rfl (lb rfl) (svcI rfl hb) (sv (d := .int _ 15) rfl) rfl hx730)) <|
               aA rfl (cL rfl rfl (lb rfl) (svB rfl) rfl rfl hx731) <|
               aA rfl (mvB rfl rfl rfl rfl) <|
               aC rfl rfl (.one rfl) rfl (by decide) (fun hb => (mvI rfl rfl rfl rfl)) <|
               aC rfl rfl (.one rfl) rfl (by decide) (fun hb => (aP rfl rfl (lb rfl) (svcI rfl hb) (sv (d := .int _ 0) rfl) rfl hx732)) <|
               aA rfl (cL rfl rfl (lb rfl) (svB rfl) rfl rfl hx733) <|
               aA rfl (mvB rfl rfl rfl rfl) <|
               aC rfl rfl (.one rfl) rfl (by decide) (fun hb => (mvI rfl rfl rfl rfl)) <|
               aC rfl rfl (.one rfl) rfl (by decide) (fun hb => (aP rfl rfl (lb rfl) (svcI rfl hb) (sv (d := .int _ 0) rfl) rfl hx734)) <|
               aA rfl (cL rfl rfl (lb rfl) (svB rfl) rfl rfl hx735) <|
               aA rfl (mvB rfl rfl rfl rfl) <|
               aC rfl rfl (.one rfl) rfl (by decide) (fun hb => (mvI rfl rfl rfl rfl)) <|
               aC rfl rfl (.one rfl) rfl (by decide) (fun hb => (aP rfl rfl (lb rfl) (svcI rfl hb) (sv (d := .int _ 0) rfl) rfl hx736)) <|
               aA rfl (cL rfl rfl (lb rfl) (svB rfl) rfl rfl hx737) <|
               aA rfl (mvB rfl rfl rfl rfl) <|
               aC rfl rfl (.one rfl) rfl (by decide) (fun hb => (mvB rfl rfl rfl rfl)) <|
               aA rfl (cL rfl rfl (lb rfl) (svB rfl) rfl rfl hx738) <|
               aA rfl (mvB rfl rfl rfl rfl) <|
               aC rfl rfl (.one rfl) rfl (by decide) (fun hb => (lra q13 la46 rfl rfl rfl rfl rfl (nle rfl) rfl)) <|
               aC rfl rfl (.one rfl) rfl (by decide) (fun hb => (aS (r := .bool _) rfl rfl (lb rfl) cl26 (.cons (svcA (w42 v695 v696 v697 v698 v699 v700 v701 v702 v703 v704 v705 v706 v707 v708 v709 v710 v711 v712 v713 v714 v715 v716 v717 v718) rfl hb) (.cons (sv (d := .int _ 9) rfl) .nil)) rfl (pK _ _ _ (gd_t hx739 hb)))) <|
               aA rfl (cL rfl rfl (lb rfl) (svB rfl) rfl rfl hx740) <|
               aA rfl (mvB rfl rfl rfl rfl) <|
               aC rfl rfl (.one rfl) rfl (by decide) (fun hb => (lra q13 la46 rfl rfl rfl rfl rfl (nle rfl) rfl)) <|
               aC rfl rfl (.one rfl) rfl (by decide) (fun hb => (aS (r := .bool _) rfl rfl (lb rfl) cl22 (.cons (svcA (w42 v695 v696 v697 v698 v699 v700 v701 v702 v703 v704 v705 v706 v707 v708 v709 v710 v711 v712 v713 v714 v715 v716 v717 v718) rfl hb) .nil) rfl (pM _ _ (gd_t hx741 hb)))) <|
               aC rfl rfl (.one rfl) rfl (by decide) (fun hb => (cZ rfl rfl (lb rfl) (svcB rfl hb))) <|
               aA rfl (cL rfl rfl (lb rfl) (svB rfl) rfl rfl hx742) <|
               aA rfl (mvB rfl rfl rfl rfl) <|
               aC rfl rfl (.one rfl) rfl (by decide) (fun hb => (lra q13 la46 rfl rfl rfl rfl rfl (nle rfl) rfl)) <|
               aC rfl rfl (.one rfl) rfl (by decide) (fun hb => (lra q13 la46 rfl rfl rfl rfl rfl (nle rfl) rfl)) <|
               aC rfl rfl (.one rfl) rfl (by decide) (fun hb => (aS (r := .bool _) rfl rfl (lb rfl) cl28 (.cons (svcA (v1 x720.1) rfl hb) (.cons (svcA (w42 v695 v696 v697 v698 v699 v700 v701 v702 v703 v704 v705 v706 v707 v708 v709 v710 v711 v712 v713 v714 v715 v716 v717 v718) rfl hb) .nil)) rfl (kG _ _ _ (gd_t hx743 hb)))) <|
               aC rfl rfl (.one rfl) rfl (by decide) (fun hb => (cZ rfl rfl (lb rfl) (svcB rfl hb))) <|
               aA rfl (cL rfl rfl (lb rfl) (svB rfl) rfl rfl hx744) <|
               aA rfl (mvB rfl rfl rfl rfl) <|
               aC rfl rfl (.one rfl) rfl (by decide) (fun hb => (lra q13 la46 rfl rfl rfl rfl rfl (nle rfl) rfl)) <|
               aC rfl rfl (.one rfl) rfl (by decide) (fun hb => (lra q13 la46 rfl rfl rfl rfl rfl (nle rfl) rfl)) <|
               aC rfl rfl (.one rfl) rfl (by decide) (fun hb => (aS (r := .bool _) rfl rfl (lb rfl) cl28 (.cons (svcA (v1 x721.1) rfl hb) (.cons (svcA (w42 v695 v696 v697 v698 v699 v700 v701 v702 v703 v704 v705 v706 v707 v708 v709 v710 v711 v712 v713 v714 v715 v716 v717 v718) rfl hb) .nil)) rfl (kG _ _ _ (gd_t hx745 hb)))) <|
               aC rfl rfl (.one rfl) rfl (by decide) (fun hb => (cZ rfl rfl (lb rfl) (svcB rfl hb))) <|
               aA rfl (cL rfl rfl (lb rfl) (svB rfl) rfl rfl hx746) <|
               aD ?_)
              refine aX (b := _) rfl (fun hc747 => ?_) (fun hc747 => ?_)
              ·
               replace h := cB h hc747
               refine aE (aA rfl (aH rfl rfl (lb rfl) (sv (d := .bool false) rfl)) <|
                aD ?_)
               refine aT ?_
               refine cS ?_
               refine bI ?_
               refine bI ?_
               refine cS ?_
               refine bI ?_
               refine cS ?_
               refine bI ?_
               refine bI ?_
               refine cS ?_
               refine bI ?_
               obtain rfl := Option.some.inj h
               refine ⟨.inr rfl, (.cons (sv rfl) .nil)⟩
              ·
               replace h := cC h hc747
               refine aY ?_
               refine cP ?_
               refine aR ?_
               obtain ⟨x748, hx748, h⟩ := aQ h
               refine bL (aA rfl (mvI rfl rfl rfl rfl) <|
                aA rfl (bM rfl rfl (lb rfl) (svI rfl) (sv (d := .int _ 1) rfl) rfl hx748) <|
                aA rfl (asI rfl rfl rfl rfl) <|
                cN ?_)
               refine aR ⟨(n3, x748), (fun i => i), ⟨(.sames rfl rfl), (.cons (.blk rfl rfl rfl) (.cons (.blk rfl rfl rfl) (.cons (.blk rfl rfl rfl) (.cons (EntW.lst rfl) .nil)))), cK [3, 27, 28, 25] rfl (by decide), fun _ _ => rfl⟩, ?_, ?_⟩
               exact h
               exact Nat.lt_succ_self _
            ·
             replace h := cC h hc692
             refine dZ ?_
             refine cT ?_
             refine cT ?_
             refine eA ?_
             refine aR ?_
             obtain ⟨x751, hx751, h⟩ := bE h
             obtain ⟨x752, hx752, h⟩ := bE h
             obtain ⟨x753, hx753, h⟩ := bE h
             obtain ⟨x754, hx754, h⟩ := bE h
             obtain ⟨x755, hx755, h⟩ := aQ h
             obtain ⟨x756, hx756, h⟩ := bE h
             obtain ⟨x757, hx757, h⟩ := aQ h
             obtain ⟨x758, hx758, h⟩ := aQ h
             obtain ⟨x759, hx759, h⟩ := bE h
             obtain ⟨x760, hx760, h⟩ := aQ h
             obtain ⟨x761, hx761, h⟩ := aQ h
             refine dE rfl [⟨[12], [27], [(171, .agg (v1 x567))], []⟩,
              ⟨[171], [], [(172, .agg (v1 x751))], []⟩,
              ⟨[12], [27], [(173, .agg (v1 x567))], []⟩,
              ⟨[172, 173], [], [(174, .bool x752)], []⟩,
              ⟨[174], [], [(175, .bool (!x752))], []⟩,
              ⟨[175], [], [(176, .bool (!x752))], []⟩,
              ⟨[13, 176], [28], [(177, .cnd ((!x752) == false) (.agg (v1 x569)))], []⟩,
              ⟨[176, 177], [], [(178, .cnd ((!x752) == false) (.agg (v1 x753)))], []⟩,
              ⟨[13, 176], [28], [(179, .cnd ((!x752) == false) (.agg (v1 x569)))], []⟩,
              ⟨[176, 178, 179], [], [(180, .cnd ((!x752) == false) (.bool x754))], []⟩,
              ⟨[176, 180], [], [(181, .cnd ((!x752) == false) (.bool (!x754)))], []⟩,
              ⟨[176, 181], [], [(182, .bool x755)], []⟩,
              ⟨[182], [], [(183, .bool x755)], []⟩,
              ⟨[12, 183], [27], [(184, .cnd (x755 == false) (.agg (v1 x567)))], []⟩,
              ⟨[183, 184], [], [(185, .cnd (x755 == false) (.agg (v1 x756)))], []⟩,
              ⟨[183, 185], [], [(186, .cnd (x755 == false) (.int .i64 x756.Hers))], []⟩,
              ⟨[183, 186], [], [(187, .cnd (x755 == false) (.bool x757))], []⟩,
              ⟨[183, 187], [], [(188, .bool x758)], []⟩,
              ⟨[188], [], [(189, .bool x758)], []⟩,
              ⟨[13, 189], [28], [(190, .cnd (x758 == false) (.agg (v1 x569)))], []⟩,
              ⟨[189, 190], [], [(191, .cnd (x758 == false) (.agg (v1 x759)))], []⟩,
              ⟨[189, 191], [], [(192, .cnd (x758 == false) (.int .i64 x759.Mine))], []⟩,
              ⟨[189, 192], [], [(193, .cnd (x758 == false) (.bool x760))], []⟩,
              ⟨[189, 193], [], [(194, .bool x761)], []⟩] rfl ?_ (by kernel_rfl) ?_
             ·refine .cons (lop rfl rfl fun S hA => (bJ (cs := q13) rfl rfl (lb rfl) Tryz.underlying46 ag46 ti46 (by decide) (svaR hA rfl rfl) (agi hA rfl rfl) (nle rfl) rfl)) ?_
              refine .cons (lop rfl rfl fun S hA => (aS (r := .agg q13) rfl rfl (lb rfl) cl29 (.cons (svaA q13 hA rfl rfl) (.cons (sv (d := .int _ 1) rfl) .nil)) rfl (oI _ _ _ hx751))) ?_
              refine .cons (lop rfl rfl fun S hA => (bJ (cs := q13) rfl rfl (lb rfl) Tryz.underlying46 ag46 ti46 (by decide) (svaR hA rfl rfl) (agi hA rfl rfl) (nle rfl) rfl)) ?_
              refine .cons (lop rfl rfl fun S hA => (aS (r := .bool _) rfl rfl (lb rfl) cl28 (.cons (svaA q13 hA rfl rfl) (.cons (svaA q13 hA rfl rfl) .nil)) rfl (kG _ _ _ hx752))) ?_
              refine .cons (lop rfl rfl fun S hA => (cZ rfl rfl (lb rfl) (svaB hA rfl rfl))) ?_
              refine .cons (lop rfl rfl fun S hA => (aM rfl rfl (lb rfl) (svaB hA rfl rfl))) ?_
              refine .cons (lopg rfl rfl rfl rfl (by decide) (fun S hA => grd1 hA rfl rfl) (fun S hA hb => (bJ (cs := q13) rfl rfl (lb rfl) Tryz.underlying46 ag46 ti46 (by decide) (svaR hA rfl rfl) (agi hA rfl rfl) (nle rfl) rfl))) ?_
              refine .cons (lopg rfl rfl rfl rfl (by decide) (fun S hA => grd1 hA rfl rfl) (fun S hA hb => (aS (r := .agg q13) rfl rfl (lb rfl) cl30 (.cons (svc (d := .agg (v1 x569)) (agr hA rfl rfl) hb) (.cons (sv (d := .int _ 1) rfl) .nil)) rfl (kL _ _ _ (gd_t hx753 hb))))) ?_
              refine .cons (lopg rfl rfl rfl rfl (by decide) (fun S hA => grd1 hA rfl rfl) (fun S hA hb => (bJ (cs := q13) rfl rfl (lb rfl) Tryz.underlying46 ag46 ti46 (by decide) (svaR hA rfl rfl) (agi hA rfl rfl) (nle rfl) rfl))) ?_
              refine .cons (lopg rfl rfl rfl rfl (by decide) (fun S hA => grd1 hA rfl rfl) (fun S hA hb => (aS (r := .bool _) rfl rfl (lb rfl) cl28 (.cons (svc (d := .agg (v1 x753)) (agr hA rfl rfl) hb) (.cons (svc (d := .agg (v1 x569)) (agr hA rfl rfl) hb) .nil)) rfl (kG _ _ _ (gd_t hx754 hb))))) ?_
              refine .cons (lopg rfl rfl rfl rfl (by decide) (fun S hA => grd1 hA rfl rfl) (fun S hA hb => (cZ rfl rfl (lb rfl) (svc (d := .bool _) (agr hA rfl rfl) hb)))) ?_
              refine .cons (lop rfl rfl fun S hA => (cL rfl rfl (lb rfl) (svaB hA rfl rfl) rfl (agr hA rfl rfl) hx755)) ?_
              refine .cons (lop rfl rfl fun S hA => (aM rfl rfl (lb rfl) (svaB hA rfl rfl))) ?_
              refine .cons (lopg rfl rfl rfl rfl (by decide) (fun S hA => grd1 hA rfl rfl) (fun S hA hb => (bJ (cs := q13) rfl rfl (lb rfl) Tryz.underlying46 ag46 ti46 (by decide) (svaR hA rfl rfl) (agi hA rfl rfl) (nle rfl) rfl))) ?_
              refine .cons (lopg rfl rfl rfl rfl (by decide) (fun S hA => grd1 hA rfl rfl) (fun S hA hb => (aS (r := .agg q13) rfl rfl (lb rfl) cl30 (.cons (svc (d := .agg (v1 x567)) (agr hA rfl rfl) hb) (.cons (sv (d := .int _ 7) rfl) .nil)) rfl (kL _ _ _ (gd_t hx756 hb))))) ?_
              refine .cons (lopg rfl rfl rfl rfl (by decide) (fun S hA => grd1 hA rfl rfl) (fun S hA hb => (tF (d := .int _ _) rfl rfl (lb rfl) Tryz.underlying46 rfl Tryz.underlying3 ag3 ti3 (by decide) (svc (d := .agg (v1 x756)) (agr hA rfl rfl) hb) (nle rfl) rfl))) ?_
              refine .cons (lopg rfl rfl rfl rfl (by decide) (fun S hA => grd1 hA rfl rfl) (fun S hA hb => (aP rfl rfl (lb rfl) (svc (d := .int _ _) (agr hA rfl rfl) hb) (sv (d := .int _ 7) rfl) rfl hx757))) ?_
              refine .cons (lop rfl rfl fun S hA => (cL rfl rfl (lb rfl) (svaB hA rfl rfl) rfl (agr hA rfl rfl) hx758)) ?_
              refine .cons (lop rfl rfl fun S hA => (aM rfl rfl (lb rfl) (svaB hA rfl rfl))) ?_
              refine .cons (lopg rfl rfl rfl rfl (by decide) (fun S hA => grd1 hA rfl rfl) (fun S hA hb => (bJ (cs := q13) rfl rfl (lb rfl) Tryz.underlying46 ag46 ti46 (by decide) (svaR hA rfl rfl) (agi hA rfl rfl) (nle rfl) rfl))) ?_
              refine .cons (lopg rfl rfl rfl rfl (by decide) (fun S hA => grd1 hA rfl rfl) (fun S hA hb => (aS (r := .agg q13) rfl rfl (lb rfl) cl29 (.cons (svc (d := .agg (v1 x569)) (agr hA rfl rfl) hb) (.cons (sv (d := .int _ 7) rfl) .nil)) rfl (oI _ _ _ (gd_t hx759 hb))))) ?_
              refine .cons (lopg rfl rfl rfl rfl (by decide) (fun S hA => grd1 hA rfl rfl) (fun S hA hb => (tF (d := .int _ _) rfl rfl (lb rfl) Tryz.underlying46 rfl Tryz.underlying3 ag3 ti3 (by decide) (svc (d := .agg (v1 x759)) (agr hA rfl rfl) hb) (nle rfl) rfl))) ?_
              refine .cons (lopg rfl rfl rfl rfl (by decide) (fun S hA => grd1 hA rfl rfl) (fun S hA hb => (aP rfl rfl (lb rfl) (svc (d := .int _ _) (agr hA rfl rfl) hb) (sv (d := .int _ (-1)) rfl) rfl hx760))) ?_
              refine .cons (lop rfl rfl fun S hA => (cL rfl rfl (lb rfl) (svaB hA rfl rfl) rfl (agr hA rfl rfl) hx761)) ?_
              exact .nil
             refine aX (b := _) rfl (fun hc762 => ?_) (fun hc762 => ?_)
             ·
              replace h := cB h hc762
              refine aE (aA rfl (aH rfl rfl (lb rfl) (sv (d := .bool false) rfl)) <|
               aD ?_)
              refine aT ?_
              refine cS ?_
              refine bI ?_
              refine bI ?_
              refine cS ?_
              refine bI ?_
              obtain rfl := Option.some.inj h
              refine ⟨.inr rfl, (.cons (sv rfl) .nil)⟩
             ·
              replace h := cC h hc762
              refine aY ?_
              refine cP ?_
              refine aR ?_
              obtain ⟨x763, hx763, h⟩ := aQ h
              refine bL (aA rfl (mvI rfl rfl rfl rfl) <|
               aA rfl (bM rfl rfl (lb rfl) (svI rfl) (sv (d := .int _ 1) rfl) rfl hx763) <|
               aA rfl (asI rfl rfl rfl rfl) <|
               cN ?_)
              refine aR ⟨(n1, x763), (fun i => i), ⟨(.sames rfl rfl), (.cons (.blk rfl rfl rfl) (.cons (EntW.lst rfl) .nil)), cK [3, 25] rfl (by decide), fun _ _ => rfl⟩, ?_, ?_⟩
              exact h
              exact Nat.lt_succ_self _
        ·
         replace h := cC h hc539
         refine dZ ?_
         refine cT ?_
         refine cT ?_
         refine eA ?_
         refine aR ?_
         obtain ⟨x766, hx766, h⟩ := bE h
         refine aE (aA rfl (aS (r := .bool _) rfl rfl (lb rfl) cl8 .nil rfl (lU  _ hx766)) <|
          aA rfl (asB rfl rfl rfl rfl) <|
          aD ?_)
         refine aT ?_
         obtain rfl := Option.some.inj h
         refine ⟨.inr rfl, (.cons (sv rfl) .nil)⟩
end Go.Proofs.YtnokcmkfkfeaiaaGreat
