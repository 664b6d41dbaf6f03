/-
  A part of the proof: rules and plain facts. No condition.
-/
import Derived.Test.YtmidijokooidcaaDoorProg
import Derived.KernelRfl
import Derived.Test.YtmidijokooidcaaDoorIlP108
import Derived.Test.YtmidijokooidcaaDoorIlPn
import Derived.Test.YtmidijokooidcaaDoorIlIt33
import Derived.Test.YtmidijokooidcaaDoorIlBd
import Derived.Test.YtmidijokooidcaaDoorIlA33bC1
set_option linter.all false
set_option linter.unusedSimpArgs false
set_option linter.unusedVariables false
set_option maxRecDepth 8000
set_option maxHeartbeats 2000000
open Go Go.IL Go.Fn Go.Proofs
namespace Go.Proofs.YtmidijokooidcaaDoor
theorem ti86 : TI Tryd.prog 86 (some (.pointer none)) 1 8 := by unfold TI; kernel_rfl
theorem ti87 : TI Tryd.prog 87 (some (.slice none 0 0)) 1 24 := by unfold TI; kernel_rfl
theorem ti89 : TI Tryd.prog 89 (some (.agg #[.pointer none, .slice none 0 0])) 2 32 := by unfold TI; kernel_rfl
theorem ag86 : aggOf Tryd.prog 86 = false := by kernel_rfl
theorem ag87 : aggOf Tryd.prog 87 = false := by kernel_rfl
theorem ex62 : ExternAt Tryd.prog 62 Extern.AbiNoEscape.same := ⟨Tryd.f62, Tryd.func62, by kernel_rfl, by kernel_rfl, by kernel_rfl, by kernel_rfl⟩
theorem st28 : Tryd.prog.stoodInHeld 28 = false ∧ Tryd.prog.eqGuardType Tryd.prog.depth 28 = false := ⟨by kernel_rfl, by kernel_rfl⟩
theorem cl8 : Callable Tryd.prog 8 := ⟨Tryd.f8, Tryd.func8, rfl, rfl⟩
theorem cl13 : Callable Tryd.prog 13 := ⟨Tryd.f13, Tryd.func13, rfl, rfl⟩
theorem cl14 : Callable Tryd.prog 14 := ⟨Tryd.f14, Tryd.func14, rfl, rfl⟩
theorem cl18 : Callable Tryd.prog 18 := ⟨Tryd.f18, Tryd.func18, rfl, rfl⟩
theorem cl42 : Callable Tryd.prog 42 := ⟨Tryd.f42, Tryd.func42, rfl, rfl⟩
theorem cl43 : Callable Tryd.prog 43 := ⟨Tryd.f43, Tryd.func43, rfl, rfl⟩
theorem cl53 : Callable Tryd.prog 53 := ⟨Tryd.f53, Tryd.func53, rfl, rfl⟩
theorem p_console_Lines (a0 : (List T_world_Step)) (r : ((List UInt8) × Int)) (h : console_Lines a0 = some r) : PureAt Tryd.prog 18 [.slice false (a0.map E_world_Step.d)] (retD [.str r.1, .int .i64 r.2]) := by
 refine pure_of_iwp (rs := [.str r.1, .int .i64 r.2]) Tryd.func18 rfl Tryd.ntmps18 (nle rfl) rfl fun O hO => ?_
 show IWP _ _ _ _ ⟨[(0, .slice false (a0.map E_world_Step.d))], []⟩ _
 unfold console_Lines at h
 refine iwp_reg (ils_cons rfl (iop_assign rfl rfl (lb rfl) (sv (d := .str []) rfl)) <|
  ils_cons rfl (iop_assign rfl rfl (lb rfl) (sv (d := .int _ 0) rfl)) <|
  ils_end ?_)
 refine iwp_reg (ils_cons rfl (iop_allocS (cs := [.nilp, .nils]) (cs' := [.nilp, .nils]) 0 rfl rfl (lb rfl) rfl ti89 rfl rfl (.all _)) <|
  ils_end ?_)
 refine iwp_seq ?_
 refine iwp_reg (ils_cons rfl (mvL rfl rfl rfl rfl) <|
  ils_cons rfl (iop_lenT E_world_Step (l := a0) rfl rfl (lb rfl) Tryd.underlying31 (svL rfl)) <|
  ils_cons rfl (iop_move rfl rfl (lb rfl) (sv (d := .int _ 0) rfl)) <|
  ils_end ?_)
 refine iwp_block ?_
 refine iwp_loop_of (lg_round ?_)
 obtain ⟨x1, hx1, h⟩ := bnd_e h
 refine iwp_reg (ils_cons rfl (iop_cmpx rfl rfl (lb rfl) (svI rfl) (svI rfl) rfl hx1) <|
  ils_end ?_)
 refine iwp_seq ?_
 refine iwp_cond (b := _) rfl (fun hc2 => ?_) (fun hc2 => ?_)
 ·
  replace h := bif_t h hc2
  refine iwp_skip ?_
  refine thenQ_n ?_
  refine iwp_seq ?_
  refine iwp_block ?_
  obtain ⟨x3, hx3, h⟩ := bno_e h
  refine iwp_reg (ils_cons rfl (iop_idxT E_world_Step (cs := q3) rfl rfl (lb rfl) Tryd.underlying31 ti24 (svL rfl) (svI rfl) hx3 rfl rfl) <|
   ils_cons rfl (iop_load_fa (cs := q3) rfl rfl (lb rfl) Tryd.underlying24 ag24 ti24 (by decide) (sv (d := .fptr q3) rfl) (nle rfl) rfl) <|
   ils_cons rfl (iop_allocS (cs := q3) (cs' := (w12 0 0 0 0 0 0 [] false)) 1 rfl rfl (lb rfl) rfl ti24 rfl rfl (.all _)) <|
   ils_cons rfl (stA q3 q3 ti24 rfl rfl rfl rfl rfl rfl rfl rfl (nle rfl) rfl) <|
   ils_end ?_)
  obtain ⟨x4, hx4, h⟩ := bno_e h
  refine iwp_reg (ils_cons rfl (lra q3 la24 rfl rfl rfl rfl rfl (nle rfl) rfl) <|
   ils_cons rfl (iop_call (r := .tuple q10) rfl rfl (lb rfl) cl15 (.cons (svA q3 rfl) .nil) rfl (p_console_Print _ _ hx4)) <|
   ils_cons rfl (iop_move rfl rfl (lb rfl) (sv (d := .tuple q10) rfl)) <|
   ils_cons rfl (iop_extract (d := .str _) rfl rfl (lb rfl) (sv (d := .tuple q10) rfl) rfl) <|
   ils_cons rfl (iop_extract (d := .int _ _) rfl rfl (lb rfl) (sv (d := .tuple q10) rfl) rfl) <|
   ils_cons rfl (iop_assign rfl rfl (lb rfl) (sv (d := .str _) rfl)) <|
   ils_cons rfl (asI rfl rfl rfl rfl) <|
   ils_end ?_)
  refine iwp_seq ?_
  obtain ⟨x5, hx5, h⟩ := bnd_e h
  refine iwp_reg (ils_cons rfl (mvI rfl rfl rfl rfl) <|
   ils_cons rfl (iop_cmpx rfl rfl (lb rfl) (svI rfl) (sv (d := .int _ 0) rfl) rfl hx5) <|
   ils_end ?_)
  refine iwp_cond (b := _) rfl (fun hc6 => ?_) (fun hc6 => ?_)
  ·
   replace h := bif_t h hc6
   refine iwp_reg (ils_cons rfl (mvI rfl rfl rfl rfl) <|
    ils_cons rfl (iop_assign rfl rfl (lb rfl) (sv (d := .str []) rfl)) <|
    ils_cons rfl (asI rfl rfl rfl rfl) <|
    ils_end ?_)
   refine iwp_ret ?_
   refine thenQ_r ?_
   refine blockQ_r ?_
   refine thenQ_r ?_
   refine thenQ_r ?_
   refine blockQ_r ?_
   refine thenQ_r ?_
   obtain rfl := Option.some.inj h
   refine ⟨.inr rfl, (.cons (sv rfl) (.cons (sv rfl) .nil))⟩
  ·
   replace h := bif_f h hc6
   refine iwp_skip ?_
   refine thenQ_n ?_
   obtain ⟨x7, hx7, h⟩ := bno_e h
   refine iwp_region (ils_cons rfl (iop_move rfl rfl (lb rfl) (sv (d := .str _) rfl)) <|
    ils_cons rfl (iop_catx rfl rfl (lb rfl) (sv (d := .str _) rfl) (sv (d := .str [10]) rfl) hx7) <|
    ?_)
   refine ils_weak (S' := ⟨[(4, .ref 0 0), (9, .slice false (a0.map E_world_Step.d)), (10, .int .i64 (a0.length : Int)), (11, .int .i64 0), (24, .str x7)], [(0, .blk 89 [.nilp, .nils])]⟩) (fun i => i) ⟨(.sames rfl rfl), (.cons (.blk rfl rfl rfl) .nil), nd_of [0] rfl (by decide), fun _ _ => rfl⟩ ?_
   refine ils_inl2 1 2 rfl rfl rfl (by decide) cl42 Tryd.func42 rfl (.cons (svR rfl) (.cons (sv (d := .str _) rfl) .nil)) Tryd.ntmps42 (nle rfl) rfl hO.semi fun O1 hO1 => ?_
   show IWP _ _ _ _ ⟨[(0, .ref 0 0), (1, .str x7)], [(2, .kept 1 [.dead, .dead, .dead, .dead, .ref 0 0, .dead, .dead, .dead, .dead, .slice false (a0.map E_world_Step.d), .int .i64 (a0.length : Int), .int .i64 0, .dead, .dead, .dead, .dead, .dead, .dead, .dead, .dead, .dead, .dead, .dead, .dead, .str x7, .dead, .dead, .dead]), (0, .blk 89 [.nilp, .nils])]⟩ _
   refine iwp_reg (ils_cons rfl (iop_assign rfl rfl (lb rfl) (sv (d := .int _ 0) rfl)) <|
    ils_cons rfl (iop_assign rfl rfl (lb rfl) (sv (d := .nili) rfl)) <|
    ils_end ?_)
   refine iwp_reg (ils_cons rfl (mvR rfl rfl rfl rfl) <|
    ?_)
   refine ils_weak (S' := ⟨[(0, .ref 0 0), (1, .str x7), (6, .ref 0 0)], [(0, .blk 89 [.nilp, .nils]), (2, .kept 1 [.dead, .dead, .dead, .dead, .ref 0 0, .dead, .dead, .dead, .dead, .slice false (a0.map E_world_Step.d), .int .i64 (a0.length : Int), .int .i64 0, .dead, .dead, .dead, .dead, .dead, .dead, .dead, .dead, .dead, .dead, .dead, .dead, .str x7, .dead, .dead, .dead])]⟩) (fun i => i) ⟨(.sames rfl rfl), (.cons (.blk rfl rfl rfl) (.cons (.kept rfl rfl rfl) .nil)), nd_of [0, 2] rfl (by decide), fun _ _ => rfl⟩ ?_
   refine ils_inl2 2 3 rfl rfl rfl (by decide) cl53 Tryd.func53 rfl (.cons (svR rfl) .nil) Tryd.ntmps53 (nle rfl) rfl hO1 fun O2 hO2 => ?_
   show IWP _ _ _ _ ⟨[(0, .ref 0 0)], [(3, .kept 2 [.ref 0 0, .str x7, .dead, .dead, .dead, .dead, .ref 0 0, .dead, .dead, .dead, .dead, .dead, .dead, .dead, .dead, .dead, .dead, .dead, .dead]), (0, .blk 89 [.nilp, .nils]), (2, .kept 1 [.dead, .dead, .dead, .dead, .ref 0 0, .dead, .dead, .dead, .dead, .slice false (a0.map E_world_Step.d), .int .i64 (a0.length : Int), .int .i64 0, .dead, .dead, .dead, .dead, .dead, .dead, .dead, .dead, .dead, .dead, .dead, .dead, .str x7, .dead, .dead, .dead])]⟩ _
   refine iwp_reg (ils_cons rfl (mvR rfl rfl rfl rfl) <|
    ils_cons rfl (iop_nilCheck_ref rfl rfl (lb rfl) (svR rfl)) <|
    ils_cons rfl (faR 0 rfl rfl rfl Tryd.underlying89 rfl ti86 (lb rfl) rfl rfl) <|
    ils_cons rfl (iop_load_rs (d := .nilp) rfl rfl (lb rfl) Tryd.underlying86 ag86 ti86 (by decide) (svR rfl) rfl (nle rfl) rfl) <|
    ils_cons rfl (iop_eqnn rfl rfl (lb rfl) Tryd.underlying86 (sv (d := .nilp) rfl) (sv (d := .nilp) rfl)) <|
    ils_end ?_)
   refine iwp_cond_t rfl rfl ?_
   refine iwp_region (ils_cons rfl (mvR rfl rfl rfl rfl) <|
    ils_cons rfl (mvR rfl rfl rfl rfl) <|
    ils_cons rfl (iop_ptou rfl rfl (lb rfl) Tryd.underlying86 Tryd.underlying110 ti89 (by decide) (svR rfl) rfl (nle rfl)) <|
    ils_cons rfl (iop_noesc rfl rfl (lb rfl) ex62 (svR rfl)) <|
    ils_cons rfl (iop_utop rfl rfl (lb rfl) Tryd.underlying110 Tryd.underlying86 ti89 (by decide) (svR rfl) rfl (nle rfl)) <|
    ils_cons rfl (iop_nilCheck_ref rfl rfl (lb rfl) (svR rfl)) <|
    ils_cons rfl (faR 0 rfl rfl rfl Tryd.underlying89 rfl ti86 (lb rfl) rfl rfl) <|
    ils_cons rfl (iop_store (ds' := [.ref _ _, .nils]) rfl rfl ti86 (svR rfl) rfl (svR rfl) rfl rfl rfl (nle rfl) rfl) <|
    ils_nil ?_)
   refine ⟨.inl rfl, 3, _, [], .nil, rfl, rfl, ⟨[(0, .ref 0 0), (1, .str x7)], [(0, .blk 89 [.ref 0 0, .nils]), (2, .kept 1 [.dead, .dead, .dead, .dead, .ref 0 0, .dead, .dead, .dead, .dead, .slice false (a0.map E_world_Step.d), .int .i64 (a0.length : Int), .int .i64 0, .dead, .dead, .dead, .dead, .dead, .dead, .dead, .dead, .dead, .dead, .dead, .dead, .str x7, .dead, .dead, .dead])]⟩, (fun i => i), ⟨(.sames rfl rfl), (.cons (.blk rfl rfl rfl) (.cons (.kept rfl rfl rfl) .nil)), nd_of [0, 2] rfl (by decide), fun _ _ => rfl⟩, ?_⟩
   refine ils_end ?_
   obtain ⟨x8, hx8, h⟩ := bno_e h
   refine iwp_reg (ils_cons rfl (mvR rfl rfl rfl rfl) <|
    ils_cons rfl (mvR rfl rfl rfl rfl) <|
    ils_cons rfl (iop_nilCheck_ref rfl rfl (lb rfl) (svR rfl)) <|
    ils_cons rfl (faR 1 rfl rfl rfl Tryd.underlying89 rfl ti87 (lb rfl) rfl rfl) <|
    ils_cons rfl (iop_load_rs (d := .nils) rfl rfl (lb rfl) Tryd.underlying87 ag87 ti87 (by decide) (svR rfl) rfl (nle rfl) rfl) <|
    ils_cons rfl (iop_move rfl rfl (lb rfl) (sv (d := .str _) rfl)) <|
    ils_cons rfl (iop_appSOn 4 rfl rfl (lb rfl) Tryd.underlying87 Tryd.underlying9 ti5 rfl rfl rfl (sv (d := .str _) rfl) hx8) <|
    ils_cons rfl (iop_nilCheck_ref rfl rfl (lb rfl) (svR rfl)) <|
    ils_cons rfl (faR 1 rfl rfl rfl Tryd.underlying89 rfl ti87 (lb rfl) rfl rfl) <|
    ils_cons rfl (iop_store (ds' := [.ref _ _, .osl _ _ _]) rfl rfl ti87 (svR rfl) rfl (sv (d := .osl _ _ _) rfl) rfl rfl rfl (nle rfl) rfl) <|
    ils_end ?_)
   refine iwp_reg (ils_cons rfl (iop_move rfl rfl (lb rfl) (sv (d := .str _) rfl)) <|
    ils_cons rfl (iop_len_str rfl rfl (lb rfl) Tryd.underlying9 (sv (d := .str _) rfl) rfl) <|
    ils_cons rfl (asI rfl rfl rfl rfl) <|
    ils_cons rfl (iop_assign rfl rfl (lb rfl) (sv (d := .nili) rfl)) <|
    ils_end ?_)
   refine iwp_ret ?_
   refine ⟨.inr rfl, 2, _, [.int .i64 (x7.length : Int), .nili], (.cons (sv rfl) (.cons (sv rfl) .nil)), rfl, rfl, ⟨[(4, .ref 0 0), (9, .slice false (a0.map E_world_Step.d)), (10, .int .i64 (a0.length : Int)), (11, .int .i64 0)], [(0, .blk 89 [.ref 0 0, .osl 4 eByte.sz x8.length]), (4, .blk 5 (D.flat (x8.map eByte.d)))]⟩, (fun i => i), ⟨(.sames rfl rfl), (.cons (.blk rfl rfl rfl) (.cons (EntW.lst rfl) .nil)), nd_of [0, 4] rfl (by decide), fun _ _ => rfl⟩, ?_⟩
   refine ils_nil ?_
   refine blockQ_n ?_
   refine thenQ_n ?_
   obtain ⟨x9, hx9, h⟩ := bnd_e h
   refine iwp_region (ils_cons rfl (iop_intx rfl rfl (lb rfl) (svI rfl) (sv (d := .int _ 1) rfl) rfl hx9) <|
    ils_cons rfl (mvI rfl rfl rfl rfl) <|
    ils_nil ?_)
   refine thenQ_n ?_
   refine lg_loopP (α := Nat × Int × (List UInt8)) (fun z => ⟨[(4, .ref 0 0), (9, .slice false (a0.map E_world_Step.d)), (10, .int .i64 (a0.length : Int)), (11, .int .i64 z.2.1)], [(0, .blk 89 [.ref 0 0, .osl 4 eByte.sz z.2.2.length]), (4, .blk 5 (D.flat (z.2.2.map eByte.d)))]⟩) (fun z => console_Lines_L0 a0 z.1 z.2.1 z.2.2 = some r) (fun z => z.1) (fuel, x9, x8) (fun i => i) ⟨(.sames rfl rfl), (.cons (.blk rfl rfl rfl) (.cons (EntW.lst rfl) .nil)), nd_of [0, 4] rfl (by decide), fun _ _ => rfl⟩ ?_ ?_
   ·exact h
   ·
    rintro ⟨n0, v19, v20⟩ h
    cases n0 with
    | zero => exact absurd h (by unfold console_Lines_L0; exact nofun)
    | succ n0 =>
     unfold console_Lines_L0 at h
     obtain ⟨x30, hx30, h⟩ := bnd_e h
     refine iwp_reg (ils_cons rfl (iop_cmpx rfl rfl (lb rfl) (svI rfl) (svI rfl) rfl hx30) <|
      ils_end ?_)
     refine iwp_seq ?_
     refine iwp_cond (b := _) rfl (fun hc31 => ?_) (fun hc31 => ?_)
     ·
      replace h := bif_t h hc31
      refine iwp_skip ?_
      refine thenQ_n ?_
      refine iwp_seq ?_
      refine iwp_block ?_
      obtain ⟨x32, hx32, h⟩ := bno_e h
      refine iwp_reg (ils_cons rfl (iop_idxT E_world_Step (cs := q3) rfl rfl (lb rfl) Tryd.underlying31 ti24 (svL rfl) (svI rfl) hx32 rfl rfl) <|
       ils_cons rfl (iop_load_fa (cs := q3) rfl rfl (lb rfl) Tryd.underlying24 ag24 ti24 (by decide) (sv (d := .fptr q3) rfl) (nle rfl) rfl) <|
       ils_cons rfl (iop_allocS (cs := q3) (cs' := (w12 0 0 0 0 0 0 [] false)) 5 rfl rfl (lb rfl) rfl ti24 rfl rfl (.all _)) <|
       ils_cons rfl (stA q3 q3 ti24 rfl rfl rfl rfl rfl rfl rfl rfl (nle rfl) rfl) <|
       ils_end ?_)
      obtain ⟨x33, hx33, h⟩ := bno_e h
      refine iwp_reg (ils_cons rfl (lra q3 la24 rfl rfl rfl rfl rfl (nle rfl) rfl) <|
       ils_cons rfl (iop_call (r := .tuple q10) rfl rfl (lb rfl) cl15 (.cons (svA q3 rfl) .nil) rfl (p_console_Print _ _ hx33)) <|
       ils_cons rfl (iop_move rfl rfl (lb rfl) (sv (d := .tuple q10) rfl)) <|
       ils_cons rfl (iop_extract (d := .str _) rfl rfl (lb rfl) (sv (d := .tuple q10) rfl) rfl) <|
       ils_cons rfl (iop_extract (d := .int _ _) rfl rfl (lb rfl) (sv (d := .tuple q10) rfl) rfl) <|
       ils_cons rfl (iop_assign rfl rfl (lb rfl) (sv (d := .str _) rfl)) <|
       ils_cons rfl (asI rfl rfl rfl rfl) <|
       ils_end ?_)
      refine iwp_seq ?_
      obtain ⟨x34, hx34, h⟩ := bnd_e h
      refine iwp_reg (ils_cons rfl (mvI rfl rfl rfl rfl) <|
       ils_cons rfl (iop_cmpx rfl rfl (lb rfl) (svI rfl) (sv (d := .int _ 0) rfl) rfl hx34) <|
       ils_end ?_)
      refine iwp_cond (b := _) rfl (fun hc35 => ?_) (fun hc35 => ?_)
      ·
       replace h := bif_t h hc35
       refine iwp_reg (ils_cons rfl (mvI rfl rfl rfl rfl) <|
        ils_cons rfl (iop_assign rfl rfl (lb rfl) (sv (d := .str []) rfl)) <|
        ils_cons rfl (asI rfl rfl rfl rfl) <|
        ils_end ?_)
       refine iwp_ret ?_
       refine thenQ_r ?_
       refine blockQ_r ?_
       refine thenQ_r ?_
       refine thenQ_r ?_
       refine blockQ_r ?_
       refine thenQ_r ?_
       obtain rfl := Option.some.inj h
       refine ⟨.inr rfl, (.cons (sv rfl) (.cons (sv rfl) .nil))⟩
      ·
       replace h := bif_f h hc35
       refine iwp_skip ?_
       refine thenQ_n ?_
       obtain ⟨x36, hx36, h⟩ := bno_e h
       refine iwp_region (ils_cons rfl (iop_move rfl rfl (lb rfl) (sv (d := .str _) rfl)) <|
        ils_cons rfl (iop_catx rfl rfl (lb rfl) (sv (d := .str _) rfl) (sv (d := .str [10]) rfl) hx36) <|
        ?_)
       refine ils_weak (S' := ⟨[(4, .ref 0 0), (9, .slice false (a0.map E_world_Step.d)), (10, .int .i64 (a0.length : Int)), (11, .int .i64 v19), (24, .str x36)], [(0, .blk 89 [.ref 0 0, .osl 4 eByte.sz v20.length]), (4, .blk 5 (D.flat (v20.map eByte.d)))]⟩) (fun i => i) ⟨(.sames rfl rfl), (.cons (.blk rfl rfl rfl) (.cons (EntW.lst rfl) .nil)), nd_of [0, 4] rfl (by decide), fun _ _ => rfl⟩ ?_
       refine ils_inl2 1 6 rfl rfl rfl (by decide) cl42 Tryd.func42 rfl (.cons (svR rfl) (.cons (sv (d := .str _) rfl) .nil)) Tryd.ntmps42 (nle rfl) rfl hO.semi fun O1 hO1 => ?_
       show IWP _ _ _ _ ⟨[(0, .ref 0 0), (1, .str x36)], [(6, .kept 1 [.dead, .dead, .dead, .dead, .ref 0 0, .dead, .dead, .dead, .dead, .slice false (a0.map E_world_Step.d), .int .i64 (a0.length : Int), .int .i64 v19, .dead, .dead, .dead, .dead, .dead, .dead, .dead, .dead, .dead, .dead, .dead, .dead, .str x36, .dead, .dead, .dead]), (0, .blk 89 [.ref 0 0, .osl 4 eByte.sz v20.length]), (4, .blk 5 (D.flat (v20.map eByte.d)))]⟩ _
       refine iwp_reg (ils_cons rfl (iop_assign rfl rfl (lb rfl) (sv (d := .int _ 0) rfl)) <|
        ils_cons rfl (iop_assign rfl rfl (lb rfl) (sv (d := .nili) rfl)) <|
        ils_end ?_)
       refine iwp_reg (ils_cons rfl (mvR rfl rfl rfl rfl) <|
        ?_)
       refine ils_weak (S' := ⟨[(0, .ref 0 0), (1, .str x36), (6, .ref 0 0)], [(0, .blk 89 [.ref 0 0, .osl 4 eByte.sz v20.length]), (4, .blk 5 (D.flat (v20.map eByte.d))), (6, .kept 1 [.dead, .dead, .dead, .dead, .ref 0 0, .dead, .dead, .dead, .dead, .slice false (a0.map E_world_Step.d), .int .i64 (a0.length : Int), .int .i64 v19, .dead, .dead, .dead, .dead, .dead, .dead, .dead, .dead, .dead, .dead, .dead, .dead, .str x36, .dead, .dead, .dead])]⟩) (fun i => i) ⟨(.sames rfl rfl), (.cons (.blk rfl rfl rfl) (.cons (EntW.lst rfl) (.cons (.kept rfl rfl rfl) .nil))), nd_of [0, 4, 6] rfl (by decide), fun _ _ => rfl⟩ ?_
       refine ils_inl2 2 7 rfl rfl rfl (by decide) cl53 Tryd.func53 rfl (.cons (svR rfl) .nil) Tryd.ntmps53 (nle rfl) rfl hO1 fun O2 hO2 => ?_
       show IWP _ _ _ _ ⟨[(0, .ref 0 0)], [(7, .kept 2 [.ref 0 0, .str x36, .dead, .dead, .dead, .dead, .ref 0 0, .dead, .dead, .dead, .dead, .dead, .dead, .dead, .dead, .dead, .dead, .dead, .dead]), (0, .blk 89 [.ref 0 0, .osl 4 eByte.sz v20.length]), (4, .blk 5 (D.flat (v20.map eByte.d))), (6, .kept 1 [.dead, .dead, .dead, .dead, .ref 0 0, .dead, .dead, .dead, .dead, .slice false (a0.map E_world_Step.d), .int .i64 (a0.length : Int), .int .i64 v19, .dead, .dead, .dead, .dead, .dead, .dead, .dead, .dead, .dead, .dead, .dead, .dead, .str x36, .dead, .dead, .dead])]⟩ _
       refine iwp_reg (ils_cons rfl (mvR rfl rfl rfl rfl) <|
        ils_cons rfl (iop_nilCheck_ref rfl rfl (lb rfl) (svR rfl)) <|
        ils_cons rfl (faR 0 rfl rfl rfl Tryd.underlying89 rfl ti86 (lb rfl) rfl rfl) <|
        ils_cons rfl (iop_load_rs (d := .ref _ _) rfl rfl (lb rfl) Tryd.underlying86 ag86 ti86 (by decide) (svR rfl) rfl (nle rfl) rfl) <|
        ils_cons rfl (iop_eqn rfl rfl (lb rfl) Tryd.underlying86 (svR rfl) (sv (d := .nilp) rfl)) <|
        ils_end ?_)
       refine iwp_cond_f rfl rfl ?_
       refine iwp_reg (ils_cons rfl (mvR rfl rfl rfl rfl) <|
        ils_cons rfl (iop_nilCheck_ref rfl rfl (lb rfl) (svR rfl)) <|
        ils_cons rfl (faR 0 rfl rfl rfl Tryd.underlying89 rfl ti86 (lb rfl) rfl rfl) <|
        ils_cons rfl (iop_load_rs (d := .ref _ _) rfl rfl (lb rfl) Tryd.underlying86 ag86 ti86 (by decide) (svR rfl) rfl (nle rfl) rfl) <|
        ils_cons rfl (mvR rfl rfl rfl rfl) <|
        ils_cons rfl (iop_nes1 rfl rfl (lb rfl) Tryd.underlying86 ti89 (svR rfl) (svR rfl)) <|
        ils_end ?_)
       refine iwp_cond_f rfl rfl ?_
       refine iwp_skip ?_
       refine ⟨.inl rfl, 7, _, [], .nil, rfl, rfl, ⟨[(0, .ref 0 0), (1, .str x36)], [(0, .blk 89 [.ref 0 0, .osl 4 eByte.sz v20.length]), (4, .blk 5 (D.flat (v20.map eByte.d))), (6, .kept 1 [.dead, .dead, .dead, .dead, .ref 0 0, .dead, .dead, .dead, .dead, .slice false (a0.map E_world_Step.d), .int .i64 (a0.length : Int), .int .i64 v19, .dead, .dead, .dead, .dead, .dead, .dead, .dead, .dead, .dead, .dead, .dead, .dead, .str x36, .dead, .dead, .dead])]⟩, (fun i => i), ⟨(.sames rfl rfl), (.cons (.blk rfl rfl rfl) (.cons (EntW.lst rfl) (.cons (.kept rfl rfl rfl) .nil))), nd_of [0, 4, 6] rfl (by decide), fun _ _ => rfl⟩, ?_⟩
       refine ils_end ?_
       obtain ⟨x37, hx37, h⟩ := bno_e h
       refine iwp_reg (ils_cons rfl (mvR rfl rfl rfl rfl) <|
        ils_cons rfl (mvR rfl rfl rfl rfl) <|
        ils_cons rfl (iop_nilCheck_ref rfl rfl (lb rfl) (svR rfl)) <|
        ils_cons rfl (faR 1 rfl rfl rfl Tryd.underlying89 rfl ti87 (lb rfl) rfl rfl) <|
        ils_cons rfl (iop_load_rs (d := .osl _ _ _) rfl rfl (lb rfl) Tryd.underlying87 ag87 ti87 (by decide) (svR rfl) rfl (nle rfl) rfl) <|
        ils_cons rfl (iop_move rfl rfl (lb rfl) (sv (d := .str _) rfl)) <|
        ils_cons rfl (iop_appSO 8 rfl rfl (lb rfl) Tryd.underlying87 Tryd.underlying9 ti5 rfl rfl rfl rfl rfl (sv (d := .str _) rfl) hx37) <|
        ils_cons rfl (iop_nilCheck_ref rfl rfl (lb rfl) (svR rfl)) <|
        ils_cons rfl (faR 1 rfl rfl rfl Tryd.underlying89 rfl ti87 (lb rfl) rfl rfl) <|
        ils_cons rfl (iop_store (ds' := [.ref _ _, .osl _ _ _]) rfl rfl ti87 (svR rfl) rfl (sv (d := .osl _ _ _) rfl) rfl rfl rfl (nle rfl) rfl) <|
        ils_end ?_)
       refine iwp_reg (ils_cons rfl (iop_move rfl rfl (lb rfl) (sv (d := .str _) rfl)) <|
        ils_cons rfl (iop_len_str rfl rfl (lb rfl) Tryd.underlying9 (sv (d := .str _) rfl) rfl) <|
        ils_cons rfl (asI rfl rfl rfl rfl) <|
        ils_cons rfl (iop_assign rfl rfl (lb rfl) (sv (d := .nili) rfl)) <|
        ils_end ?_)
       refine iwp_ret ?_
       refine ⟨.inr rfl, 6, _, [.int .i64 (x36.length : Int), .nili], (.cons (sv rfl) (.cons (sv rfl) .nil)), rfl, rfl, ⟨[(4, .ref 0 0), (9, .slice false (a0.map E_world_Step.d)), (10, .int .i64 (a0.length : Int)), (11, .int .i64 v19)], [(0, .blk 89 [.ref 0 0, .osl 8 eByte.sz x37.length]), (8, .blk 5 (D.flat (x37.map eByte.d)))]⟩, (fun i => i), ⟨(.sames rfl rfl), (.cons (.blk rfl rfl rfl) (.cons (EntW.lst rfl) .nil)), nd_of [0, 8] rfl (by decide), fun _ _ => rfl⟩, ?_⟩
       refine ils_nil ?_
       refine blockQ_n ?_
       refine thenQ_n ?_
       obtain ⟨x38, hx38, h⟩ := bnd_e h
       refine iwp_region (ils_cons rfl (iop_intx rfl rfl (lb rfl) (svI rfl) (sv (d := .int _ 1) rfl) rfl hx38) <|
        ils_cons rfl (mvI rfl rfl rfl rfl) <|
        ils_nil ?_)
       refine thenQ_n ⟨(n0, x38, x37), (fun i => if i = 4 then 8 else i), ⟨(.sames rfl rfl), (.cons (.blk rfl rfl rfl) (.cons (EntW.lst rfl) .nil)), nd_of [0, 8] rfl (by decide), (fun i hi => by first | rfl | (show (if _ then _ else _) = _; (repeat' split) <;> omega))⟩, ?_, ?_⟩
       exact h
       exact Nat.lt_succ_self _
     ·
      replace h := bif_f h hc31
      refine iwp_exit ?_
      refine thenQ_e ?_
      refine thenQ_e ?_
      refine blockQ_e ?_
      refine thenQ_n ?_
      refine iwp_reg (?_)
      refine ils_weak (S' := ⟨[(4, .ref 0 0)], [(0, .blk 89 [.ref 0 0, .osl 4 eByte.sz v20.length]), (4, .blk 5 (D.flat (v20.map eByte.d)))]⟩) (fun i => i) ⟨(.sames rfl rfl), (.cons (.blk rfl rfl rfl) (.cons (EntW.lst rfl) .nil)), nd_of [0, 4] rfl (by decide), fun _ _ => rfl⟩ ?_
      refine ils_inl2 1 5 rfl rfl rfl (by decide) cl43 Tryd.func43 rfl (.cons (svR rfl) .nil) Tryd.ntmps43 (nle rfl) rfl hO.semi fun O1 hO1 => ?_
      show IWP _ _ _ _ ⟨[(0, .ref 0 0)], [(5, .kept 1 [.dead, .dead, .dead, .dead, .ref 0 0, .dead, .dead, .dead, .dead, .dead, .dead, .dead, .dead, .dead, .dead, .dead, .dead, .dead, .dead, .dead, .dead, .dead, .dead, .dead, .dead, .dead, .dead, .dead]), (0, .blk 89 [.ref 0 0, .osl 4 eByte.sz v20.length]), (4, .blk 5 (D.flat (v20.map eByte.d)))]⟩ _
      refine iwp_reg (ils_cons rfl (iop_assign rfl rfl (lb rfl) (sv (d := .str []) rfl)) <|
       ils_end ?_)
      obtain ⟨hk39, h⟩ := chk_e h
      obtain ⟨hk40, h⟩ := chk_e h
      refine iwp_drw rfl [⟨[0], [], [(3, .ref 0 0)], []⟩,
       ⟨[3], [], [(4, .ref 0 0)], []⟩,
       ⟨[4], [], [(5, .ref 0 1)], []⟩,
       ⟨[5], [0], [(6, .osl 4 eByte.sz v20.length)], []⟩,
       ⟨[6], [], [(7, .ref 4 0)], []⟩,
       ⟨[0], [], [(8, .ref 0 0)], []⟩,
       ⟨[8], [], [(9, .ref 0 0)], []⟩,
       ⟨[9], [], [(10, .ref 0 1)], []⟩,
       ⟨[10], [0], [(11, .osl 4 eByte.sz v20.length)], []⟩,
       ⟨[11], [], [(12, .int .i64 (v20.length : Int))], []⟩,
       ⟨[7, 12], [4], [(13, .str v20)], [(4, .none)]⟩,
       ⟨[13], [], [(2, .str v20)], []⟩] rfl ?_ (by kernel_rfl) ?_
      ·refine .cons (lop rfl rfl fun S hA => (iop_move rfl rfl (lb rfl) (svaR hA rfl rfl))) ?_
       refine .cons (lop rfl rfl fun S hA => (iop_nilCheck_ref rfl rfl (lb rfl) (svaR hA rfl rfl))) ?_
       refine .cons (lop rfl rfl fun S hA => (iop_fieldAddr_ref rfl rfl (lb rfl) Tryd.underlying89 rfl ti87 (by decide) (svaR hA rfl rfl) (off' := 1) rfl)) ?_
       refine .cons (lop rfl rfl fun S hA => (iop_load_rs (d := .osl _ _ _) rfl rfl (lb rfl) Tryd.underlying87 ag87 ti87 (by decide) (svaR hA rfl rfl) (agi hA rfl rfl) (nle rfl) rfl)) ?_
       refine .cons (lop rfl rfl fun S hA => (iop_sdata rfl rfl (lb rfl) (agr hA rfl rfl) hk39)) ?_
       refine .cons (lop rfl rfl fun S hA => (iop_move rfl rfl (lb rfl) (svaR hA rfl rfl))) ?_
       refine .cons (lop rfl rfl fun S hA => (iop_nilCheck_ref rfl rfl (lb rfl) (svaR hA rfl rfl))) ?_
       refine .cons (lop rfl rfl fun S hA => (iop_fieldAddr_ref rfl rfl (lb rfl) Tryd.underlying89 rfl ti87 (by decide) (svaR hA rfl rfl) (off' := 1) rfl)) ?_
       refine .cons (lop rfl rfl fun S hA => (iop_load_rs (d := .osl _ _ _) rfl rfl (lb rfl) Tryd.underlying87 ag87 ti87 (by decide) (svaR hA rfl rfl) (agi hA rfl rfl) (nle rfl) rfl)) ?_
       refine .cons (lop rfl rfl fun S hA => (iop_lenO rfl rfl (lb rfl) Tryd.underlying87 (sv (d := .osl _ _ _) (agr hA rfl rfl)))) ?_
       refine .cons (lop rfl rfl fun S hA => (iop_ustr rfl rfl (lb rfl) Tryd.underlying104 ti5 (svaR hA rfl rfl) (svaI hA rfl rfl) rfl hk39 hk40 (agi hA rfl rfl))) ?_
       refine .cons (lop rfl rfl fun S hA => (iop_assign rfl rfl (lb rfl) (sv (d := .str _) (agr hA rfl rfl)))) ?_
       exact .nil
      refine iwp_ret ?_
      refine ⟨.inr rfl, 5, _, [.str v20], (.cons (sv rfl) .nil), rfl, rfl, ⟨[(27, .str v20)], []⟩, (fun i => i), ⟨(.sames rfl rfl), .nil, nd_of [] rfl (by decide), fun _ _ => rfl⟩, ?_⟩
      refine ils_cons rfl (iop_assign rfl rfl (lb rfl) (sv (d := .str _) rfl)) <|
       ils_cons rfl (iop_assign rfl rfl (lb rfl) (sv (d := .int _ 0) rfl)) <|
       ils_end ?_
      refine iwp_ret ?_
      obtain rfl := Option.some.inj h
      refine ⟨.inr rfl, (.cons (sv rfl) (.cons (sv rfl) .nil))⟩
 ·
  replace h := bif_f h hc2
  refine iwp_exit ?_
  refine thenQ_e ?_
  refine thenQ_e ?_
  refine blockQ_e ?_
  refine thenQ_n ?_
  refine iwp_reg (?_)
  refine ils_weak (S' := ⟨[(4, .ref 0 0)], [(0, .blk 89 [.nilp, .nils])]⟩) (fun i => i) ⟨(.sames rfl rfl), (.cons (.blk rfl rfl rfl) .nil), nd_of [0] rfl (by decide), fun _ _ => rfl⟩ ?_
  refine ils_inl2 1 1 rfl rfl rfl (by decide) cl43 Tryd.func43 rfl (.cons (svR rfl) .nil) Tryd.ntmps43 (nle rfl) rfl hO.semi fun O1 hO1 => ?_
  show IWP _ _ _ _ ⟨[(0, .ref 0 0)], [(1, .kept 1 [.dead, .dead, .dead, .dead, .ref 0 0, .dead, .dead, .dead, .dead, .dead, .dead, .dead, .dead, .dead, .dead, .dead, .dead, .dead, .dead, .dead, .dead, .dead, .dead, .dead, .dead, .dead, .dead, .dead]), (0, .blk 89 [.nilp, .nils])]⟩ _
  refine iwp_reg (ils_cons rfl (iop_assign rfl rfl (lb rfl) (sv (d := .str []) rfl)) <|
   ils_end ?_)
  refine iwp_drw rfl [⟨[0], [], [(3, .ref 0 0)], []⟩,
   ⟨[3], [], [(4, .ref 0 0)], []⟩,
   ⟨[4], [], [(5, .ref 0 1)], []⟩,
   ⟨[5], [0], [(6, .nils)], []⟩,
   ⟨[6], [], [(7, .nilp)], []⟩,
   ⟨[0], [], [(8, .ref 0 0)], []⟩,
   ⟨[8], [], [(9, .ref 0 0)], []⟩,
   ⟨[9], [], [(10, .ref 0 1)], []⟩,
   ⟨[10], [0], [(11, .nils)], []⟩,
   ⟨[11], [], [(12, .int .i64 (([] : (List UInt8)).length : Int))], []⟩,
   ⟨[7, 12], [], [(13, .str [])], []⟩,
   ⟨[13], [], [(2, .str [])], []⟩] rfl ?_ (by kernel_rfl) ?_
  ·refine .cons (lop rfl rfl fun S hA => (iop_move rfl rfl (lb rfl) (svaR hA rfl rfl))) ?_
   refine .cons (lop rfl rfl fun S hA => (iop_nilCheck_ref rfl rfl (lb rfl) (svaR hA rfl rfl))) ?_
   refine .cons (lop rfl rfl fun S hA => (iop_fieldAddr_ref rfl rfl (lb rfl) Tryd.underlying89 rfl ti87 (by decide) (svaR hA rfl rfl) (off' := 1) rfl)) ?_
   refine .cons (lop rfl rfl fun S hA => (iop_load_rs (d := .nils) rfl rfl (lb rfl) Tryd.underlying87 ag87 ti87 (by decide) (svaR hA rfl rfl) (agi hA rfl rfl) (nle rfl) rfl)) ?_
   refine .cons (lop rfl rfl fun S hA => (iop_sdata_nil rfl rfl (lb rfl) (agr hA rfl rfl))) ?_
   refine .cons (lop rfl rfl fun S hA => (iop_move rfl rfl (lb rfl) (svaR hA rfl rfl))) ?_
   refine .cons (lop rfl rfl fun S hA => (iop_nilCheck_ref rfl rfl (lb rfl) (svaR hA rfl rfl))) ?_
   refine .cons (lop rfl rfl fun S hA => (iop_fieldAddr_ref rfl rfl (lb rfl) Tryd.underlying89 rfl ti87 (by decide) (svaR hA rfl rfl) (off' := 1) rfl)) ?_
   refine .cons (lop rfl rfl fun S hA => (iop_load_rs (d := .nils) rfl rfl (lb rfl) Tryd.underlying87 ag87 ti87 (by decide) (svaR hA rfl rfl) (agi hA rfl rfl) (nle rfl) rfl)) ?_
   refine .cons (lop rfl rfl fun S hA => (iop_lenT eByte (l := ([] : (List UInt8))) rfl rfl (lb rfl) Tryd.underlying87 (svn (f := false) (agr hA rfl rfl)))) ?_
   refine .cons (lop rfl rfl fun S hA => (iop_ustr0 rfl rfl (lb rfl) (sv (d := .nilp) (agr hA rfl rfl)) (sv (d := .int .i64 0) (agr hA rfl rfl)))) ?_
   refine .cons (lop rfl rfl fun S hA => (iop_assign rfl rfl (lb rfl) (sv (d := .str _) (agr hA rfl rfl)))) ?_
   exact .nil
  refine iwp_ret ?_
  refine ⟨.inr rfl, 1, _, [.str []], (.cons (sv rfl) .nil), rfl, rfl, ⟨[(27, .str [])], []⟩, (fun i => i), ⟨(.sames rfl rfl), .nil, nd_of [] rfl (by decide), fun _ _ => rfl⟩, ?_⟩
  refine ils_cons rfl (iop_assign rfl rfl (lb rfl) (sv (d := .str _) rfl)) <|
   ils_cons rfl (iop_assign rfl rfl (lb rfl) (sv (d := .int _ 0) rfl)) <|
   ils_end ?_
  refine iwp_ret ?_
  obtain rfl := Option.some.inj h
  refine ⟨.inr rfl, (.cons (sv rfl) (.cons (sv rfl) .nil))⟩

theorem p_sennitlaw33_back (a0 : (List T_world_Step)) (r : (List T_world_Step)) (h : sennitlaw33_back a0 = some r) : PureAt Tryd.prog 14 [.slice false (a0.map E_world_Step.d)] (.slice false (r.map E_world_Step.d)) := by
 refine pure_of_iwp (rs := [.slice false (r.map E_world_Step.d)]) Tryd.func14 rfl Tryd.ntmps14 (nle rfl) rfl fun O hO => ?_
 show IWP _ _ _ _ ⟨[(0, .slice false (a0.map E_world_Step.d))], []⟩ _
 unfold sennitlaw33_back at h
 refine iwp_reg (ils_cons rfl (iop_assign rfl rfl (lb rfl) (sv (d := .nils) rfl)) <|
  ils_end ?_)
 refine iwp_reg (ils_cons rfl (iop_assign rfl rfl (lb rfl) (sv (d := .nils) rfl)) <|
  ils_end ?_)
 refine iwp_seq ?_
 refine iwp_reg (ils_cons rfl (iop_assign rfl rfl (lb rfl) (sv (d := .int _ 0) rfl)) <|
  ils_end ?_)
 refine iwp_block ?_
 refine iwp_loopP (α := Nat × (List T_world_Step) × Int) (fun z => ⟨[(0, .slice false (a0.map E_world_Step.d)), (3, .gsl 21 E_world_Step.sz (z.2.1.map E_world_Step.d)), (4, .int .i64 z.2.2)], [(21, .tail 28 E_world_Step.sz z.2.1.length)]⟩) (fun z => sennitlaw33_back_L0 a0 z.1 z.2.1 z.2.2 = some r) (fun z => z.1) (fuel, ([] : (List T_world_Step)), 0) (fun i => if i = 21 then 71 else i) ⟨(.s rfl rfl (.cons (.nils rfl) (.sames rfl rfl))), (.cons (.nils rfl) .nil), nd_of [71] rfl (by decide), (fun i hi => by first | rfl | (show (if _ then _ else _) = _; (repeat' split) <;> omega))⟩ ?_ ?_
 ·exact h
 ·
  rintro ⟨n0, v6, v7⟩ h
  cases n0 with
  | zero => exact absurd h (by unfold sennitlaw33_back_L0; exact nofun)
  | succ n0 =>
   unfold sennitlaw33_back_L0 at h
   refine iwp_seq ?_
   obtain ⟨x13, hx13, h⟩ := bnd_e h
   refine iwp_reg (ils_cons rfl (mvI rfl rfl rfl rfl) <|
    ils_cons rfl (mvL rfl rfl rfl rfl) <|
    ils_cons rfl (iop_lenT E_world_Step (l := a0) rfl rfl (lb rfl) Tryd.underlying31 (svL rfl)) <|
    ils_cons rfl (iop_cmpx rfl rfl (lb rfl) (svI rfl) (svI rfl) rfl hx13) <|
    ils_end ?_)
   refine iwp_cond (b := _) rfl (fun hc14 => ?_) (fun hc14 => ?_)
   ·
    replace h := bif_t h hc14
    refine iwp_skip ?_
    refine thenQ_n ?_
    refine iwp_seq ?_
    refine iwp_block ?_
    obtain ⟨x15, hx15, h⟩ := bno_e h
    obtain ⟨x16, hx16, h⟩ := bno_e h
    refine iwp_region (ils_cons rfl (iop_move rfl rfl (lb rfl) (sv (d := .gsl _ _ _) rfl)) <|
     ils_cons rfl (mvL rfl rfl rfl rfl) <|
     ils_cons rfl (mvI rfl rfl rfl rfl) <|
     ils_cons rfl (iop_idxT E_world_Step (cs := q3) rfl rfl (lb rfl) Tryd.underlying31 ti24 (svL rfl) (svI rfl) hx15 rfl rfl) <|
     ils_cons rfl (iop_load_fa (cs := q3) rfl rfl (lb rfl) Tryd.underlying24 ag24 ti24 (by decide) (sv (d := .fptr q3) rfl) (nle rfl) rfl) <|
     ils_cons rfl (iop_bsT E_world_Step ([x15] : (List T_world_Step)) 22 rfl rfl (lb rfl) Tryd.underlying34 ti28 rfl (.cons (svA q3 rfl) .nil) rfl rfl (by decide)) <|
     ils_cons rfl (iop_appT E_world_Step 23 rfl rfl (lb rfl) Tryd.underlying34 ti28 rfl rfl rfl rfl (svg rfl) hx16) <|
     ils_cons rfl (iop_assign rfl rfl (lb rfl) (sv (d := .gsl _ _ _) rfl)) <|
     ils_nil ?_)
    refine blockQ_n ?_
    refine thenQ_n ?_
    obtain ⟨x17, hx17, h⟩ := bnd_e h
    refine iwp_region (ils_cons rfl (mvI rfl rfl rfl rfl) <|
     ils_cons rfl (iop_intx rfl rfl (lb rfl) (svI rfl) (sv (d := .int _ 1) rfl) rfl hx17) <|
     ils_cons rfl (asI rfl rfl rfl rfl) <|
     ils_nil ?_)
    refine thenQ_n ⟨(n0, x16, x17), (fun i => if i = 21 then 23 else i), ⟨(.sames rfl rfl), (.cons (.tail rfl) .nil), nd_of [23] rfl (by decide), (fun i hi => by first | rfl | (show (if _ then _ else _) = _; (repeat' split) <;> omega))⟩, ?_, ?_⟩
    exact h
    exact Nat.lt_succ_self _
   ·
    replace h := bif_f h hc14
    refine iwp_exit ?_
    refine thenQ_e ?_
    refine thenQ_e ?_
    refine blockQ_e ?_
    refine thenQ_n ?_
    refine iwp_reg (ils_cons rfl (iop_move rfl rfl (lb rfl) (sv (d := .gsl _ _ _) rfl)) <|
     ils_cons rfl (iop_assign rfl rfl (lb rfl) (sv (d := .gsl _ _ _) rfl)) <|
     ils_end ?_)
    refine iwp_ret ?_
    obtain rfl := Option.some.inj h
    refine ⟨.inr rfl, (.cons (svg_of rfl rfl) .nil)⟩

theorem p_sennitref33_SameSteps (a0 : (List T_world_Step)) (a1 : (List T_world_Step)) (r : Bool) (h : sennitref33_SameSteps a0 a1 = some r) : PureAt Tryd.prog 13 [.slice false (a0.map E_world_Step.d), .slice false (a1.map E_world_Step.d)] (.bool r) := by
 refine pure_of_iwp (rs := [.bool r]) Tryd.func13 rfl Tryd.ntmps13 (nle rfl) rfl fun O hO => ?_
 show IWP _ _ _ _ ⟨[(0, .slice false (a0.map E_world_Step.d)), (1, .slice false (a1.map E_world_Step.d))], []⟩ _
 unfold sennitref33_SameSteps at h
 refine iwp_reg (ils_cons rfl (iop_assign rfl rfl (lb rfl) (sv (d := .bool false) rfl)) <|
  ils_end ?_)
 refine iwp_seq ?_
 obtain ⟨x1, hx1, h⟩ := bnd_e h
 refine iwp_reg (ils_cons rfl (mvL rfl rfl rfl rfl) <|
  ils_cons rfl (iop_lenT E_world_Step (l := a0) rfl rfl (lb rfl) Tryd.underlying34 (svL rfl)) <|
  ils_cons rfl (mvL rfl rfl rfl rfl) <|
  ils_cons rfl (iop_lenT E_world_Step (l := a1) rfl rfl (lb rfl) Tryd.underlying34 (svL rfl)) <|
  ils_cons rfl (iop_cmpx rfl rfl (lb rfl) (svI rfl) (svI rfl) rfl hx1) <|
  ils_end ?_)
 refine iwp_cond (b := _) rfl (fun hc2 => ?_) (fun hc2 => ?_)
 ·
  replace h := bif_t h hc2
  refine iwp_reg (ils_cons rfl (iop_assign rfl rfl (lb rfl) (sv (d := .bool false) rfl)) <|
   ils_end ?_)
  refine iwp_ret ?_
  refine thenQ_r ?_
  obtain rfl := Option.some.inj h
  refine ⟨.inr rfl, (.cons (sv rfl) .nil)⟩
 ·
  replace h := bif_f h hc2
  refine iwp_skip ?_
  refine thenQ_n ?_
  refine iwp_seq ?_
  refine iwp_reg (ils_cons rfl (iop_assign rfl rfl (lb rfl) (sv (d := .int _ 0) rfl)) <|
   ils_end ?_)
  refine iwp_block ?_
  refine iwp_loopP (α := Nat × Int) (fun z => ⟨[(0, .slice false (a0.map E_world_Step.d)), (1, .slice false (a1.map E_world_Step.d)), (5, .int .i64 z.2)], []⟩) (fun z => sennitref33_SameSteps_L0 a0 a1 z.1 z.2 = some r) (fun z => z.1) (fuel, 0) (fun i => i) ⟨(.sames rfl rfl), .nil, nd_of [] rfl (by decide), fun _ _ => rfl⟩ ?_ ?_
  ·exact h
  ·
   rintro ⟨n0, v10⟩ h
   cases n0 with
   | zero => exact absurd h (by unfold sennitref33_SameSteps_L0; exact nofun)
   | succ n0 =>
    unfold sennitref33_SameSteps_L0 at h
    refine iwp_seq ?_
    obtain ⟨x18, hx18, h⟩ := bnd_e h
    refine iwp_reg (ils_cons rfl (mvI rfl rfl rfl rfl) <|
     ils_cons rfl (mvL rfl rfl rfl rfl) <|
     ils_cons rfl (iop_lenT E_world_Step (l := a0) rfl rfl (lb rfl) Tryd.underlying34 (svL rfl)) <|
     ils_cons rfl (iop_cmpx rfl rfl (lb rfl) (svI rfl) (svI rfl) rfl hx18) <|
     ils_end ?_)
    refine iwp_cond (b := _) rfl (fun hc19 => ?_) (fun hc19 => ?_)
    ·
     replace h := bif_t h hc19
     refine iwp_skip ?_
     refine thenQ_n ?_
     refine iwp_seq ?_
     refine iwp_block ?_
     obtain ⟨x20, hx20, h⟩ := bno_e h
     obtain ⟨x21, hx21, h⟩ := bno_e h
     obtain ⟨x22, hx22, h⟩ := bnd_e h
     refine iwp_drw rfl [⟨[0], [], [(17, .slice false (a0.map E_world_Step.d))], []⟩,
      ⟨[5], [], [(18, .int .i64 v10)], []⟩,
      ⟨[17, 18], [], [(19, .fptr (v0 x20))], []⟩,
      ⟨[19], [], [(20, .agg (v0 x20))], []⟩,
      ⟨[1], [], [(21, .slice false (a1.map E_world_Step.d))], []⟩,
      ⟨[5], [], [(22, .int .i64 v10)], []⟩,
      ⟨[21, 22], [], [(23, .fptr (v0 x21))], []⟩,
      ⟨[23], [], [(24, .agg (v0 x21))], []⟩,
      ⟨[20, 24], [], [(25, .bool (!x22))], []⟩] rfl ?_ (by kernel_rfl) ?_
     ·refine .cons (lop rfl rfl fun S hA => (iop_move rfl rfl (lb rfl) (svaL hA rfl rfl))) ?_
      refine .cons (lop rfl rfl fun S hA => (iop_move rfl rfl (lb rfl) (svaI hA rfl rfl))) ?_
      refine .cons (lop rfl rfl fun S hA => (iop_idxT E_world_Step (cs := q3) rfl rfl (lb rfl) Tryd.underlying34 ti28 (svaL hA rfl rfl) (svaI hA rfl rfl) hx20 rfl rfl)) ?_
      refine .cons (lop rfl rfl fun S hA => (iop_load_fa (cs := q3) rfl rfl (lb rfl) Tryd.underlying28 ag28 ti28 (by decide) (sv (d := .fptr q3) (agr hA rfl rfl)) (nle rfl) rfl)) ?_
      refine .cons (lop rfl rfl fun S hA => (iop_move rfl rfl (lb rfl) (svaL hA rfl rfl))) ?_
      refine .cons (lop rfl rfl fun S hA => (iop_move rfl rfl (lb rfl) (svaI hA rfl rfl))) ?_
      refine .cons (lop rfl rfl fun S hA => (iop_idxT E_world_Step (cs := q3) rfl rfl (lb rfl) Tryd.underlying34 ti28 (svaL hA rfl rfl) (svaI hA rfl rfl) hx21 rfl rfl)) ?_
      refine .cons (lop rfl rfl fun S hA => (iop_load_fa (cs := q3) rfl rfl (lb rfl) Tryd.underlying28 ag28 ti28 (by decide) (sv (d := .fptr q3) (agr hA rfl rfl)) (nle rfl) rfl)) ?_
      refine .cons (lop rfl rfl fun S hA => (iop_nes rfl rfl (lb rfl) Tryd.underlying28 st28.1 st28.2 (svaA q3 hA rfl rfl) (svaA q3 hA rfl rfl) (congrArg some hx22))) ?_
      exact .nil
     refine iwp_cond (b := _) rfl (fun hc23 => ?_) (fun hc23 => ?_)
     ·
      replace h := bif_t h hc23
      refine iwp_reg (ils_cons rfl (iop_assign rfl rfl (lb rfl) (sv (d := .bool false) rfl)) <|
       ils_end ?_)
      refine iwp_ret ?_
      refine blockQ_r ?_
      refine thenQ_r ?_
      refine thenQ_r ?_
      refine blockQ_r ?_
      refine thenQ_r ?_
      obtain rfl := Option.some.inj h
      refine ⟨.inr rfl, (.cons (sv rfl) .nil)⟩
     ·
      replace h := bif_f h hc23
      refine iwp_skip ?_
      refine blockQ_n ?_
      refine thenQ_n ?_
      obtain ⟨x24, hx24, h⟩ := bnd_e h
      refine iwp_region (ils_cons rfl (mvI rfl rfl rfl rfl) <|
       ils_cons rfl (iop_intx rfl rfl (lb rfl) (svI rfl) (sv (d := .int _ 1) rfl) rfl hx24) <|
       ils_cons rfl (asI rfl rfl rfl rfl) <|
       ils_nil ?_)
      refine thenQ_n ⟨(n0, x24), (fun i => i), ⟨(.sames rfl rfl), .nil, nd_of [] rfl (by decide), fun _ _ => rfl⟩, ?_, ?_⟩
      exact h
      exact Nat.lt_succ_self _
    ·
     replace h := bif_f h hc19
     refine iwp_exit ?_
     refine thenQ_e ?_
     refine thenQ_e ?_
     refine blockQ_e ?_
     refine thenQ_n ?_
     refine iwp_reg (ils_cons rfl (iop_assign rfl rfl (lb rfl) (sv (d := .bool true) rfl)) <|
      ils_end ?_)
     refine iwp_ret ?_
     obtain rfl := Option.some.inj h
     refine ⟨.inr rfl, (.cons (sv rfl) .nil)⟩

theorem p_sennitlaw33_ConsoleBack (a0 : (List T_world_Step)) (r : Bool) (h : sennitlaw33_ConsoleBack a0 = some r) : PureAt Tryd.prog 7 [.slice false (a0.map E_world_Step.d)] (.bool r) := by
 refine pure_of_iwp (rs := [.bool r]) Tryd.func7 rfl Tryd.ntmps7 (nle rfl) rfl fun O hO => ?_
 show IWP _ _ _ _ ⟨[(0, .slice false (a0.map E_world_Step.d))], []⟩ _
 unfold sennitlaw33_ConsoleBack at h
 refine iwp_reg (ils_cons rfl (iop_assign rfl rfl (lb rfl) (sv (d := .bool false) rfl)) <|
  ils_end ?_)
 refine iwp_seq ?_
 obtain ⟨x1, hx1, h⟩ := bnd_e h
 refine iwp_reg (ils_cons rfl (mvL rfl rfl rfl rfl) <|
  ils_cons rfl (iop_lenT E_world_Step (l := a0) rfl rfl (lb rfl) Tryd.underlying34 (svL rfl)) <|
  ils_cons rfl (iop_cmpx rfl rfl (lb rfl) (svI rfl) (sv (d := .int _ 20) rfl) rfl hx1) <|
  ils_end ?_)
 refine iwp_cond (b := _) rfl (fun hc2 => ?_) (fun hc2 => ?_)
 ·
  replace h := bif_t h hc2
  obtain ⟨x3, hx3, h⟩ := bno_e h
  refine iwp_reg (ils_cons rfl (iop_call (r := .bool _) rfl rfl (lb rfl) cl8 .nil rfl (p_sennitlaw33_awake  _ hx3)) <|
   ils_cons rfl (asB rfl rfl rfl rfl) <|
   ils_end ?_)
  refine iwp_ret ?_
  refine thenQ_r ?_
  obtain rfl := Option.some.inj h
  refine ⟨.inr rfl, (.cons (sv rfl) .nil)⟩
 ·
  replace h := bif_f h hc2
  refine iwp_skip ?_
  refine thenQ_n ?_
  refine iwp_reg (ils_cons rfl (iop_assign rfl rfl (lb rfl) (sv (d := .nils) rfl)) <|
   ils_end ?_)
  refine iwp_seq ?_
  refine iwp_reg (ils_cons rfl (iop_assign rfl rfl (lb rfl) (sv (d := .int _ 0) rfl)) <|
   ils_end ?_)
  refine iwp_block ?_
  refine iwp_loopP (α := Nat × (List T_world_Step) × Int) (fun z => ⟨[(0, .slice false (a0.map E_world_Step.d)), (3, .gsl 21 E_world_Step.sz (z.2.1.map E_world_Step.d)), (4, .int .i64 z.2.2)], [(21, .tail 24 E_world_Step.sz z.2.1.length)]⟩) (fun z => sennitlaw33_ConsoleBack_L0 a0 z.1 z.2.1 z.2.2 = some r) (fun z => z.1) (fuel, ([] : (List T_world_Step)), 0) (fun i => if i = 21 then 71 else i) ⟨(.s rfl rfl (.cons (.nils rfl) (.sames rfl rfl))), (.cons (.nils rfl) .nil), nd_of [71] rfl (by decide), (fun i hi => by first | rfl | (show (if _ then _ else _) = _; (repeat' split) <;> omega))⟩ ?_ ?_
  ·exact h
  ·
   rintro ⟨n0, v25, v26⟩ h
   cases n0 with
   | zero => exact absurd h (by unfold sennitlaw33_ConsoleBack_L0; exact nofun)
   | succ n0 =>
    unfold sennitlaw33_ConsoleBack_L0 at h
    refine iwp_seq ?_
    obtain ⟨x48, hx48, h⟩ := bnd_e h
    refine iwp_reg (ils_cons rfl (mvI rfl rfl rfl rfl) <|
     ils_cons rfl (mvL rfl rfl rfl rfl) <|
     ils_cons rfl (iop_lenT E_world_Step (l := a0) rfl rfl (lb rfl) Tryd.underlying34 (svL rfl)) <|
     ils_cons rfl (iop_cmpx rfl rfl (lb rfl) (svI rfl) (svI rfl) rfl hx48) <|
     ils_end ?_)
    refine iwp_cond (b := _) rfl (fun hc49 => ?_) (fun hc49 => ?_)
    ·
     replace h := bif_t h hc49
     refine iwp_skip ?_
     refine thenQ_n ?_
     refine iwp_seq ?_
     refine iwp_block ?_
     refine iwp_seq ?_
     obtain ⟨x50, hx50, h⟩ := bno_e h
     obtain ⟨x51, hx51, h⟩ := bnd_e h
     refine iwp_reg (ils_cons rfl (mvL rfl rfl rfl rfl) <|
      ils_cons rfl (mvI rfl rfl rfl rfl) <|
      ils_cons rfl (iop_idxT E_world_Step (cs := q3) rfl rfl (lb rfl) Tryd.underlying34 ti28 (svL rfl) (svI rfl) hx50 rfl rfl) <|
      ils_cons rfl (iop_fieldAddr_fptr (cs' := [.str _]) rfl rfl (lb rfl) Tryd.underlying28 rfl ti9 (by decide) (sv (d := .fptr q3) rfl) rfl) <|
      ils_cons rfl (iop_load_fs rfl rfl (lb rfl) Tryd.underlying9 ag9 ti9 (by decide) (sv (d := .fptr [.str _]) rfl) (nle rfl)) <|
      ils_cons rfl (iop_len_str rfl rfl (lb rfl) Tryd.underlying9 (sv (d := .str _) rfl) rfl) <|
      ils_cons rfl (iop_cmpx rfl rfl (lb rfl) (svI rfl) (sv (d := .int _ 400) rfl) rfl hx51) <|
      ils_end ?_)
     refine iwp_cond (b := _) rfl (fun hc52 => ?_) (fun hc52 => ?_)
     ·
      replace h := bif_t h hc52
      obtain ⟨x53, hx53, h⟩ := bno_e h
      refine iwp_reg (ils_cons rfl (iop_call (r := .bool _) rfl rfl (lb rfl) cl8 .nil rfl (p_sennitlaw33_awake  _ hx53)) <|
       ils_cons rfl (asB rfl rfl rfl rfl) <|
       ils_end ?_)
      refine iwp_ret ?_
      refine thenQ_r ?_
      refine blockQ_r ?_
      refine thenQ_r ?_
      refine thenQ_r ?_
      refine blockQ_r ?_
      refine thenQ_r ?_
      obtain rfl := Option.some.inj h
      refine ⟨.inr rfl, (.cons (sv rfl) .nil)⟩
     ·
      replace h := bif_f h hc52
      refine iwp_skip ?_
      refine thenQ_n ?_
      obtain ⟨x54, hx54, h⟩ := bno_e h
      obtain ⟨x55, hx55, h⟩ := bno_e h
      refine iwp_reg (ils_cons rfl (mvL rfl rfl rfl rfl) <|
       ils_cons rfl (mvI rfl rfl rfl rfl) <|
       ils_cons rfl (iop_idxT E_world_Step (cs := q3) rfl rfl (lb rfl) Tryd.underlying34 ti28 (svL rfl) (svI rfl) hx54 rfl rfl) <|
       ils_cons rfl (iop_load_fa (cs := q3) rfl rfl (lb rfl) Tryd.underlying28 ag28 ti28 (by decide) (sv (d := .fptr q3) rfl) (nle rfl) rfl) <|
       ils_cons rfl (iop_call (r := .tuple q10) rfl rfl (lb rfl) cl15 (.cons (svA q3 rfl) .nil) rfl (p_console_Print _ _ hx55)) <|
       ils_cons rfl (iop_move rfl rfl (lb rfl) (sv (d := .tuple q10) rfl)) <|
       ils_cons rfl (iop_extract (d := .str _) rfl rfl (lb rfl) (sv (d := .tuple q10) rfl) rfl) <|
       ils_cons rfl (iop_extract (d := .int _ _) rfl rfl (lb rfl) (sv (d := .tuple q10) rfl) rfl) <|
       ils_cons rfl (iop_assign rfl rfl (lb rfl) (sv (d := .str _) rfl)) <|
       ils_cons rfl (asI rfl rfl rfl rfl) <|
       ils_end ?_)
      refine iwp_seq ?_
      obtain ⟨x56, hx56, h⟩ := bnd_e h
      refine iwp_reg (ils_cons rfl (mvI rfl rfl rfl rfl) <|
       ils_cons rfl (iop_cmpx rfl rfl (lb rfl) (svI rfl) (sv (d := .int _ 0) rfl) rfl hx56) <|
       ils_end ?_)
      refine iwp_cond (b := _) rfl (fun hc57 => ?_) (fun hc57 => ?_)
      ·
       replace h := bif_t h hc57
       refine iwp_seq ?_
       obtain ⟨x58, hx58, h⟩ := bnd_e h
       refine iwp_reg (ils_cons rfl (iop_move rfl rfl (lb rfl) (sv (d := .str _) rfl)) <|
        ils_cons rfl (iop_strx rfl rfl (lb rfl) (sv (d := .str _) rfl) (sv (d := .str []) rfl) rfl hx58) <|
        ils_end ?_)
       refine iwp_cond (b := _) rfl (fun hc59 => ?_) (fun hc59 => ?_)
       ·
        replace h := bif_t h hc59
        refine iwp_reg (ils_cons rfl (iop_assign rfl rfl (lb rfl) (sv (d := .bool false) rfl)) <|
         ils_end ?_)
        refine iwp_ret ?_
        refine thenQ_r ?_
        refine thenQ_r ?_
        refine blockQ_r ?_
        refine thenQ_r ?_
        refine thenQ_r ?_
        refine blockQ_r ?_
        refine thenQ_r ?_
        obtain rfl := Option.some.inj h
        refine ⟨.inr rfl, (.cons (sv rfl) .nil)⟩
       ·
        replace h := bif_f h hc59
        refine iwp_skip ?_
        refine thenQ_n ?_
        refine iwp_exit ?_
        refine thenQ_e ?_
        refine blockQ_e ?_
        refine thenQ_n ?_
        obtain ⟨x60, hx60, h⟩ := bnd_e h
        refine iwp_region (ils_cons rfl (mvI rfl rfl rfl rfl) <|
         ils_cons rfl (iop_intx rfl rfl (lb rfl) (svI rfl) (sv (d := .int _ 1) rfl) rfl hx60) <|
         ils_cons rfl (asI rfl rfl rfl rfl) <|
         ils_nil ?_)
        refine thenQ_n ⟨(n0, v25, x60), (fun i => i), ⟨(.sames rfl rfl), (.cons (.tail rfl) .nil), nd_of [21] rfl (by decide), fun _ _ => rfl⟩, ?_, ?_⟩
        exact h
        exact Nat.lt_succ_self _
      ·
       replace h := bif_f h hc57
       refine iwp_skip ?_
       refine thenQ_n ?_
       obtain ⟨x61, hx61, h⟩ := bno_e h
       refine iwp_reg (ils_cons rfl (iop_move rfl rfl (lb rfl) (sv (d := .str _) rfl)) <|
        ils_cons rfl (iop_call (r := .tuple q11) rfl rfl (lb rfl) cl9 (.cons (sv (d := .str _) rfl) .nil) rfl (p_console_Parse _ _ hx61)) <|
        ils_cons rfl (iop_move rfl rfl (lb rfl) (sv (d := .tuple q11) rfl)) <|
        ils_cons rfl (iop_extract (d := .agg q3) rfl rfl (lb rfl) (sv (d := .tuple q11) rfl) rfl) <|
        ils_cons rfl (iop_extract (d := .int _ _) rfl rfl (lb rfl) (sv (d := .tuple q11) rfl) rfl) <|
        ils_cons rfl (iop_allocS (cs := q3) (cs' := (w12 0 0 0 0 0 0 [] false)) 22 rfl rfl (lb rfl) rfl ti24 rfl rfl (.all _)) <|
        ils_cons rfl (stA q3 q3 ti24 rfl rfl rfl rfl rfl rfl rfl rfl (nle rfl) rfl) <|
        ils_cons rfl (asI rfl rfl rfl rfl) <|
        ils_end ?_)
       refine iwp_seq ?_
       obtain ⟨x62, hx62, h⟩ := bnd_e h
       obtain ⟨x63, hx63, h⟩ := bno_e h
       obtain ⟨x64, hx64, h⟩ := bnd_e h
       obtain ⟨x65, hx65, h⟩ := bnd_e h
       refine iwp_drw rfl [⟨[8], [], [(49, .int .i64 x61.2)], []⟩,
        ⟨[49], [], [(50, .bool x62)], []⟩,
        ⟨[50], [], [(51, .bool x62)], []⟩,
        ⟨[7, 51], [22], [(52, .cnd (x62 == false) (.agg (v0 x61.1)))], []⟩,
        ⟨[0, 51], [], [(53, .cnd (x62 == false) (.slice false (a0.map E_world_Step.d)))], []⟩,
        ⟨[4, 51], [], [(54, .cnd (x62 == false) (.int .i64 v26))], []⟩,
        ⟨[51, 53, 54], [], [(55, .cnd (x62 == false) (.fptr (v0 x63)))], []⟩,
        ⟨[51, 55], [], [(56, .cnd (x62 == false) (.agg (v0 x63)))], []⟩,
        ⟨[51, 52, 56], [], [(57, .cnd (x62 == false) (.bool (!x64)))], []⟩,
        ⟨[51, 57], [], [(58, .bool x65)], []⟩] rfl ?_ (by kernel_rfl) ?_
       ·refine .cons (lop rfl rfl fun S hA => (iop_move rfl rfl (lb rfl) (svaI hA rfl rfl))) ?_
        refine .cons (lop rfl rfl fun S hA => (iop_cmpx rfl rfl (lb rfl) (svaI hA rfl rfl) (sv (d := .int _ 0) rfl) rfl hx62)) ?_
        refine .cons (lop rfl rfl fun S hA => (iop_move rfl rfl (lb rfl) (svaB hA rfl rfl))) ?_
        refine .cons (lopg rfl rfl rfl rfl (by decide) (fun S hA => grd1 hA rfl rfl) (fun S hA hb => (iop_load_ra (cs := q3) rfl rfl (lb rfl) Tryd.underlying24 ag24 ti24 (by decide) (svaR hA rfl rfl) (agi hA rfl rfl) (nle rfl) rfl))) ?_
        refine .cons (lopg rfl rfl rfl rfl (by decide) (fun S hA => grd1 hA rfl rfl) (fun S hA hb => (iop_move rfl rfl (lb rfl) (svaL hA rfl rfl)))) ?_
        refine .cons (lopg rfl rfl rfl rfl (by decide) (fun S hA => grd1 hA rfl rfl) (fun S hA hb => (iop_move rfl rfl (lb rfl) (svaI hA rfl rfl)))) ?_
        refine .cons (lopg rfl rfl rfl rfl (by decide) (fun S hA => grd1 hA rfl rfl) (fun S hA hb => (iop_idxT E_world_Step (cs := q3) rfl rfl (lb rfl) Tryd.underlying34 ti28 (svc (d := .slice _ _) (agr hA rfl rfl) hb) (svc (d := .int _ _) (agr hA rfl rfl) hb) (gd_t hx63 hb) rfl rfl))) ?_
        refine .cons (lopg rfl rfl rfl rfl (by decide) (fun S hA => grd1 hA rfl rfl) (fun S hA hb => (iop_load_fa (cs := q3) rfl rfl (lb rfl) Tryd.underlying28 ag28 ti28 (by decide) (svc (d := .fptr q3) (agr hA rfl rfl) hb) (nle rfl) rfl))) ?_
        refine .cons (lopg rfl rfl rfl rfl (by decide) (fun S hA => grd1 hA rfl rfl) (fun S hA hb => (iop_nes rfl rfl (lb rfl) Tryd.underlying24 st24.1 st24.2 (svc (d := .agg (v0 x61.1)) (agr hA rfl rfl) hb) (svc (d := .agg (v0 x63)) (agr hA rfl rfl) hb) (congrArg some hx64)))) ?_
        refine .cons (lop rfl rfl fun S hA => (iop_orx rfl rfl (lb rfl) (svaB hA rfl rfl) rfl (agr hA rfl rfl) hx65)) ?_
        exact .nil
       refine iwp_cond (b := _) rfl (fun hc66 => ?_) (fun hc66 => ?_)
       ·
        replace h := bif_t h hc66
        refine iwp_reg (ils_cons rfl (iop_assign rfl rfl (lb rfl) (sv (d := .bool false) rfl)) <|
         ils_end ?_)
        refine iwp_ret ?_
        refine thenQ_r ?_
        refine blockQ_r ?_
        refine thenQ_r ?_
        refine thenQ_r ?_
        refine blockQ_r ?_
        refine thenQ_r ?_
        obtain rfl := Option.some.inj h
        refine ⟨.inr rfl, (.cons (sv rfl) .nil)⟩
       ·
        replace h := bif_f h hc66
        refine iwp_skip ?_
        refine thenQ_n ?_
        obtain ⟨x67, hx67, h⟩ := bno_e h
        refine iwp_region (ils_cons rfl (iop_move rfl rfl (lb rfl) (sv (d := .gsl _ _ _) rfl)) <|
         ils_cons rfl (lra q3 la24 rfl rfl rfl rfl rfl (nle rfl) rfl) <|
         ils_cons rfl (iop_bsT E_world_Step ([x61.1] : (List T_world_Step)) 23 rfl rfl (lb rfl) Tryd.underlying31 ti24 rfl (.cons (svA q3 rfl) .nil) rfl rfl (by decide)) <|
         ils_cons rfl (iop_appT E_world_Step 24 rfl rfl (lb rfl) Tryd.underlying31 ti24 rfl rfl rfl rfl (svg rfl) hx67) <|
         ils_cons rfl (iop_assign rfl rfl (lb rfl) (sv (d := .gsl _ _ _) rfl)) <|
         ils_nil ?_)
        refine blockQ_n ?_
        refine thenQ_n ?_
        obtain ⟨x68, hx68, h⟩ := bnd_e h
        refine iwp_region (ils_cons rfl (mvI rfl rfl rfl rfl) <|
         ils_cons rfl (iop_intx rfl rfl (lb rfl) (svI rfl) (sv (d := .int _ 1) rfl) rfl hx68) <|
         ils_cons rfl (asI rfl rfl rfl rfl) <|
         ils_nil ?_)
        refine thenQ_n ⟨(n0, x67, x68), (fun i => if i = 21 then 24 else i), ⟨(.sames rfl rfl), (.cons (.tail rfl) .nil), nd_of [24] rfl (by decide), (fun i hi => by first | rfl | (show (if _ then _ else _) = _; (repeat' split) <;> omega))⟩, ?_, ?_⟩
        exact h
        exact Nat.lt_succ_self _
    ·
     replace h := bif_f h hc49
     refine iwp_exit ?_
     refine thenQ_e ?_
     refine thenQ_e ?_
     refine blockQ_e ?_
     refine thenQ_n ?_
     obtain ⟨x69, hx69, h⟩ := bno_e h
     refine iwp_reg (ils_cons rfl (iop_move rfl rfl (lb rfl) (sv (d := .gsl _ _ _) rfl)) <|
      ils_cons rfl (iop_call (r := .tuple q10) rfl rfl (lb rfl) cl18 (.cons (svg rfl) .nil) rfl (p_console_Lines _ _ hx69)) <|
      ils_cons rfl (iop_move rfl rfl (lb rfl) (sv (d := .tuple q10) rfl)) <|
      ils_cons rfl (iop_extract (d := .str _) rfl rfl (lb rfl) (sv (d := .tuple q10) rfl) rfl) <|
      ils_cons rfl (iop_extract (d := .int _ _) rfl rfl (lb rfl) (sv (d := .tuple q10) rfl) rfl) <|
      ils_cons rfl (iop_assign rfl rfl (lb rfl) (sv (d := .str _) rfl)) <|
      ils_cons rfl (asI rfl rfl rfl rfl) <|
      ils_end ?_)
     obtain ⟨x70, hx70, h⟩ := bno_e h
     refine iwp_reg (ils_cons rfl (iop_move rfl rfl (lb rfl) (sv (d := .str _) rfl)) <|
      ils_cons rfl (iop_call (r := .tuple q6) rfl rfl (lb rfl) cl11 (.cons (sv (d := .str _) rfl) .nil) rfl (p_console_Script _ _ hx70)) <|
      ils_cons rfl (iop_move rfl rfl (lb rfl) (sv (d := .tuple q6) rfl)) <|
      ils_cons rfl (iop_extract (d := .slice _ _) rfl rfl (lb rfl) (sv (d := .tuple q6) rfl) rfl) <|
      ils_cons rfl (iop_extract (d := .int _ _) rfl rfl (lb rfl) (sv (d := .tuple q6) rfl) rfl) <|
      ils_cons rfl (iop_extract (d := .int _ _) rfl rfl (lb rfl) (sv (d := .tuple q6) rfl) rfl) <|
      ils_cons rfl (iop_assign rfl rfl (lb rfl) (svL rfl)) <|
      ils_cons rfl (asI rfl rfl rfl rfl) <|
      ils_cons rfl (asI rfl rfl rfl rfl) <|
      ils_end ?_)
     obtain ⟨x71, hx71, h⟩ := bnd_e h
     obtain ⟨x72, hx72, h⟩ := bnd_e h
     obtain ⟨x73, hx73, h⟩ := bnd_e h
     obtain ⟨x74, hx74, h⟩ := bnd_e h
     obtain ⟨x75, hx75, h⟩ := bnd_e h
     obtain ⟨x76, hx76, h⟩ := bno_e h
     obtain ⟨x77, hx77, h⟩ := bno_e h
     obtain ⟨x78, hx78, h⟩ := bno_e h
     obtain ⟨x79, hx79, h⟩ := bnd_e h
     obtain ⟨x80, hx80, h⟩ := bno_e h
     obtain ⟨x81, hx81, h⟩ := bnd_e h
     refine iwp_reg (ils_cons rfl (mvI rfl rfl rfl rfl) <|
      ils_cons rfl (iop_cmpx rfl rfl (lb rfl) (svI rfl) (sv (d := .int _ 0) rfl) rfl hx71) <|
      ils_cons rfl (mvB rfl rfl rfl rfl) <|
      ils_guard rfl rfl (.one rfl) rfl (by decide) (fun hb => (mvI rfl rfl rfl rfl)) <|
      ils_guard rfl rfl (.one rfl) rfl (by decide) (fun hb => (iop_cmpx rfl rfl (lb rfl) (svcI rfl hb) (sv (d := .int _ 0) rfl) rfl hx72)) <|
      ils_cons rfl (iop_andx rfl rfl (lb rfl) (svB rfl) rfl rfl hx73) <|
      ils_cons rfl (mvB rfl rfl rfl rfl) <|
      ils_guard rfl rfl (.one rfl) rfl (by decide) (fun hb => (mvI rfl rfl rfl rfl)) <|
      ils_guard rfl rfl (.one rfl) rfl (by decide) (fun hb => (iop_cmpx rfl rfl (lb rfl) (svcI rfl hb) (sv (d := .int _ 0) rfl) rfl hx74)) <|
      ils_cons rfl (iop_andx rfl rfl (lb rfl) (svB rfl) rfl rfl hx75) <|
      ils_cons rfl (mvB rfl rfl rfl rfl) <|
      ils_guard rfl rfl (.one rfl) rfl (by decide) (fun hb => (mvL rfl rfl rfl rfl)) <|
      ils_guard rfl rfl (.one rfl) rfl (by decide) (fun hb => (iop_call (r := .slice _ _) rfl rfl (lb rfl) cl14 (.cons (svcL rfl hb) .nil) rfl (p_sennitlaw33_back _ _ (gd_t hx76 hb)))) <|
      ils_guard rfl rfl (.one rfl) rfl (by decide) (fun hb => (iop_move rfl rfl (lb rfl) (sv (d := .gsl _ _ _) rfl))) <|
      ils_guard rfl rfl (.one rfl) rfl (by decide) (fun hb => (iop_call (r := .slice _ _) rfl rfl (lb rfl) cl14 (.cons (SV.gsls (svc (d := .gsl 21 E_world_Step.sz (v25.map E_world_Step.d)) rfl hb)) .nil) rfl (p_sennitlaw33_back _ _ (gd_t hx77 hb)))) <|
      ils_guard rfl rfl (.one rfl) rfl (by decide) (fun hb => (iop_call (r := .bool _) rfl rfl (lb rfl) cl13 (.cons (svcL rfl hb) (.cons (svcL rfl hb) .nil)) rfl (p_sennitref33_SameSteps _ _ _ (gd_t hx78 hb)))) <|
      ils_cons rfl (iop_andx rfl rfl (lb rfl) (svB rfl) rfl rfl hx79) <|
      ils_cons rfl (mvB rfl rfl rfl rfl) <|
      ils_guard rfl rfl (.one rfl) rfl (by decide) (fun hb => (iop_call (r := .bool _) rfl rfl (lb rfl) cl8 .nil rfl (p_sennitlaw33_awake  _ (gd_t hx80 hb)))) <|
      ils_cons rfl (iop_andx rfl rfl (lb rfl) (svB rfl) rfl rfl hx81) <|
      ils_cons rfl (asB rfl rfl rfl rfl) <|
      ils_end ?_)
     refine iwp_ret ?_
     obtain rfl := Option.some.inj h
     refine ⟨.inr rfl, (.cons (sv rfl) .nil)⟩
end Go.Proofs.YtmidijokooidcaaDoor
