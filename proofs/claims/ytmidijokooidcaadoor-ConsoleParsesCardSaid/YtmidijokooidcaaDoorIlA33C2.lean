/-
  A part of the proof: rules and plain facts. No condition.
-/
import Derived.Test.YtmidijokooidcaaDoorProg
import Derived.KernelRfl
import Derived.Test.YtmidijokooidcaaDoorIlP105
import Derived.Test.YtmidijokooidcaaDoorIlPn
import Derived.Test.YtmidijokooidcaaDoorIlIt33
import Derived.Test.YtmidijokooidcaaDoorIlA33C1
set_option linter.all false
set_option linter.unusedSimpArgs false
set_option linter.unusedVariables false
set_option maxRecDepth 8000
set_option maxHeartbeats 2000000
open Go Go.IL Go.Fn Go.Proofs
namespace Go.Proofs.YtmidijokooidcaaDoor
theorem ti28 : TI Tryd.prog 28 (some (.agg #[.int .u8 0, .int .i64 0, .int .i64 0, .int .i64 0, .int .i64 0, .int .i64 0, .string ⟨#[]⟩, .bool false])) 8 72 := by unfold TI; kernel_rfl
theorem ag28 : aggOf Tryd.prog 28 = true := by kernel_rfl
theorem pl28 : ∀ w, (Array.mapM (m := Sem) (fun (f : Field) => Functor.map (Prod.mk f.offset) (sizeOf f.type)) (fieldsOf Tryd.prog 28)).run Tryd.prog w = .ok #[(0, 1), (1, 1), (2, 1), (3, 1), (4, 1), (5, 1), (6, 1), (7, 1)] w := fun w => by kernel_rfl
theorem st28 : Tryd.prog.stoodInHeld 28 = false ∧ Tryd.prog.eqGuardType Tryd.prog.depth 28 = false := ⟨by kernel_rfl, by kernel_rfl⟩
theorem cl8 : Callable Tryd.prog 8 := ⟨Tryd.f8, Tryd.func8, rfl, rfl⟩
theorem cl10 : Callable Tryd.prog 10 := ⟨Tryd.f10, Tryd.func10, rfl, rfl⟩
theorem cl12 : Callable Tryd.prog 12 := ⟨Tryd.f12, Tryd.func12, rfl, rfl⟩
theorem cl13 : Callable Tryd.prog 13 := ⟨Tryd.f13, Tryd.func13, rfl, rfl⟩
theorem cl14 : Callable Tryd.prog 14 := ⟨Tryd.f14, Tryd.func14, rfl, rfl⟩
theorem cl20 : Callable Tryd.prog 20 := ⟨Tryd.f20, Tryd.func20, rfl, rfl⟩
theorem cl27 : Callable Tryd.prog 27 := ⟨Tryd.f27, Tryd.func27, rfl, rfl⟩
theorem cl28 : Callable Tryd.prog 28 := ⟨Tryd.f28, Tryd.func28, rfl, rfl⟩
theorem cl29 : Callable Tryd.prog 29 := ⟨Tryd.f29, Tryd.func29, rfl, rfl⟩
theorem cl47 : Callable Tryd.prog 47 := ⟨Tryd.f47, Tryd.func47, rfl, rfl⟩
theorem cl48 : Callable Tryd.prog 48 := ⟨Tryd.f48, Tryd.func48, rfl, rfl⟩
def la28 := LA.mk Tryd.underlying28 ag28 ti28 (by decide)


theorem p_sennitref33_number (a0 : (List UInt8)) (r : Int) (h : sennitref33_number a0 = some r) : PureAt Tryd.prog 48 [.str a0] (.int .i64 r) := by
 refine pure_of_iwp (rs := [.int .i64 r]) Tryd.func48 rfl Tryd.ntmps48 (nle rfl) rfl fun O hO => ?_
 show IWP _ _ _ _ ⟨[(0, .str a0)], []⟩ _
 unfold sennitref33_number at h
 refine iwp_reg (ils_cons rfl (iop_assign rfl rfl (lb rfl) (sv (d := .int _ 0) rfl)) <|
  ils_end ?_)
 refine iwp_seq ?_
 obtain ⟨x1, hx1, h⟩ := bnd_e h
 obtain ⟨x2, hx2, h⟩ := bnd_e h
 obtain ⟨x3, hx3, h⟩ := bnd_e h
 obtain ⟨x4, hx4, h⟩ := bno_e h
 obtain ⟨x5, hx5, h⟩ := bnd_e h
 obtain ⟨x6, hx6, h⟩ := bnd_e h
 obtain ⟨x7, hx7, h⟩ := bnd_e h
 obtain ⟨x8, hx8, h⟩ := bnd_e h
 refine iwp_reg (ils_cons rfl (iop_move rfl rfl (lb rfl) (sv (d := .str _) rfl)) <|
  ils_cons rfl (iop_strx rfl rfl (lb rfl) (sv (d := .str _) rfl) (sv (d := .str []) rfl) rfl hx1) <|
  ils_cons rfl (mvB rfl rfl rfl rfl) <|
  ils_guard rfl rfl (.one rfl) rfl (by decide) (fun hb => (iop_move rfl rfl (lb rfl) (sv (d := .str _) rfl))) <|
  ils_guard rfl rfl (.one rfl) rfl (by decide) (fun hb => (iop_len_str rfl rfl (lb rfl) Tryd.underlying9 (svc (d := .str _) rfl hb) rfl)) <|
  ils_guard rfl rfl (.one rfl) rfl (by decide) (fun hb => (iop_cmpx rfl rfl (lb rfl) (svcI rfl hb) (sv (d := .int _ 9) rfl) rfl hx2)) <|
  ils_cons rfl (iop_orx rfl rfl (lb rfl) (svB rfl) rfl rfl hx3) <|
  ils_cons rfl (mvB rfl rfl rfl rfl) <|
  ils_guard rfl rfl (.one rfl) rfl (by decide) (fun hb => (iop_move rfl rfl (lb rfl) (sv (d := .str _) rfl))) <|
  ils_guard rfl rfl (.one rfl) rfl (by decide) (fun hb => (iop_str_at rfl rfl (lb rfl) Tryd.underlying9 (svc (d := .str _) rfl hb) (sv (d := .int _ 0) rfl) (gd_t hx4 hb))) <|
  ils_guard rfl rfl (.one rfl) rfl (by decide) (fun hb => (iop_cmpx rfl rfl (lb rfl) (svcI rfl hb) (sv (d := .int _ 48) rfl) rfl hx5)) <|
  ils_guard rfl rfl (.one rfl) rfl (by decide) (fun hb => (iop_move rfl rfl (lb rfl) (svcB rfl hb))) <|
  ils_guard rfl rfl (.two rfl) rfl (by decide) (fun hb => (iop_move rfl rfl (lb rfl) (sv (d := .str _) rfl))) <|
  ils_guard rfl rfl (.two rfl) rfl (by decide) (fun hb => (iop_strx rfl rfl (lb rfl) (svc (d := .str _) rfl hb) (sv (d := .str [48]) rfl) rfl hx6)) <|
  ils_guard rfl rfl (.one rfl) rfl (by decide) (fun hb => (iop_and2x rfl rfl (lb rfl) hb (svcB rfl hb) rfl rfl hx7)) <|
  ils_cons rfl (iop_orx rfl rfl (lb rfl) (svB rfl) rfl rfl hx8) <|
  ils_end ?_)
 refine iwp_cond (b := _) rfl (fun hc9 => ?_) (fun hc9 => ?_)
 ·
  replace h := bif_t h hc9
  refine iwp_reg (ils_cons rfl (iop_assign rfl rfl (lb rfl) (sv (d := .int _ (-1)) rfl)) <|
   ils_end ?_)
  refine iwp_ret ?_
  refine thenQ_r ?_
  obtain rfl := Option.some.inj h
  refine ⟨.inr rfl, (.cons (sv rfl) .nil)⟩
 ·
  replace h := bif_f h hc9
  refine iwp_skip ?_
  refine thenQ_n ?_
  refine iwp_reg (ils_cons rfl (iop_assign rfl rfl (lb rfl) (sv (d := .int _ 0) rfl)) <|
   ils_end ?_)
  refine iwp_seq ?_
  refine iwp_reg (ils_cons rfl (iop_assign rfl rfl (lb rfl) (sv (d := .int _ 0) rfl)) <|
   ils_end ?_)
  refine iwp_block ?_
  refine iwp_loopP (α := Nat × Int × Int) (fun z => ⟨[(0, .str a0), (3, .int .i64 z.2.1), (4, .int .i64 z.2.2)], []⟩) (fun z => sennitref33_number_L0 a0 z.1 z.2.1 z.2.2 = some r) (fun z => z.1) (fuel, 0, 0) (fun i => i) ⟨(.sames rfl rfl), .nil, nd_of [] rfl (by decide), fun _ _ => rfl⟩ ?_ ?_
  ·exact h
  ·
   rintro ⟨n0, v24, v25⟩ h
   cases n0 with
   | zero => exact absurd h (by unfold sennitref33_number_L0; exact nofun)
   | succ n0 =>
    unfold sennitref33_number_L0 at h
    refine iwp_seq ?_
    obtain ⟨x40, hx40, h⟩ := bnd_e h
    refine iwp_reg (ils_cons rfl (mvI rfl rfl rfl rfl) <|
     ils_cons rfl (iop_move rfl rfl (lb rfl) (sv (d := .str _) rfl)) <|
     ils_cons rfl (iop_len_str rfl rfl (lb rfl) Tryd.underlying9 (sv (d := .str _) rfl) rfl) <|
     ils_cons rfl (iop_cmpx rfl rfl (lb rfl) (svI rfl) (svI rfl) rfl hx40) <|
     ils_end ?_)
    refine iwp_cond (b := _) rfl (fun hc41 => ?_) (fun hc41 => ?_)
    ·
     replace h := bif_t h hc41
     refine iwp_skip ?_
     refine thenQ_n ?_
     refine iwp_seq ?_
     refine iwp_block ?_
     refine iwp_seq ?_
     obtain ⟨x42, hx42, h⟩ := bno_e h
     obtain ⟨x43, hx43, h⟩ := bnd_e h
     obtain ⟨x44, hx44, h⟩ := bno_e h
     obtain ⟨x45, hx45, h⟩ := bnd_e h
     obtain ⟨x46, hx46, h⟩ := bnd_e h
     refine iwp_reg (ils_cons rfl (iop_move rfl rfl (lb rfl) (sv (d := .str _) rfl)) <|
      ils_cons rfl (mvI rfl rfl rfl rfl) <|
      ils_cons rfl (iop_str_at rfl rfl (lb rfl) Tryd.underlying9 (sv (d := .str _) rfl) (svI rfl) hx42) <|
      ils_cons rfl (iop_cmpx rfl rfl (lb rfl) (svI rfl) (sv (d := .int _ 48) rfl) rfl hx43) <|
      ils_cons rfl (mvB rfl rfl rfl rfl) <|
      ils_guard rfl rfl (.one rfl) rfl (by decide) (fun hb => (iop_move rfl rfl (lb rfl) (sv (d := .str _) rfl))) <|
      ils_guard rfl rfl (.one rfl) rfl (by decide) (fun hb => (mvI rfl rfl rfl rfl)) <|
      ils_guard rfl rfl (.one rfl) rfl (by decide) (fun hb => (iop_str_at rfl rfl (lb rfl) Tryd.underlying9 (svc (d := .str _) rfl hb) (svcI rfl hb) (gd_t hx44 hb))) <|
      ils_guard rfl rfl (.one rfl) rfl (by decide) (fun hb => (iop_cmpx rfl rfl (lb rfl) (svcI rfl hb) (sv (d := .int _ 57) rfl) rfl hx45)) <|
      ils_cons rfl (iop_orx rfl rfl (lb rfl) (svB rfl) rfl rfl hx46) <|
      ils_end ?_)
     refine iwp_cond (b := _) rfl (fun hc47 => ?_) (fun hc47 => ?_)
     ·
      replace h := bif_t h hc47
      refine iwp_reg (ils_cons rfl (iop_assign rfl rfl (lb rfl) (sv (d := .int _ (-1)) rfl)) <|
       ils_end ?_)
      refine iwp_ret ?_
      refine thenQ_r ?_
      refine blockQ_r ?_
      refine thenQ_r ?_
      refine thenQ_r ?_
      refine blockQ_r ?_
      refine thenQ_r ?_
      obtain rfl := Option.some.inj h
      refine ⟨.inr rfl, (.cons (sv rfl) .nil)⟩
     ·
      replace h := bif_f h hc47
      refine iwp_skip ?_
      refine thenQ_n ?_
      obtain ⟨x48, hx48, h⟩ := bnd_e h
      obtain ⟨x49, hx49, h⟩ := bno_e h
      obtain ⟨x50, hx50, h⟩ := bnd_e h
      obtain ⟨x51, hx51, h⟩ := bnd_e h
      obtain ⟨x52, hx52, h⟩ := bnd_e h
      refine iwp_region (ils_cons rfl (mvI rfl rfl rfl rfl) <|
       ils_cons rfl (iop_intx rfl rfl (lb rfl) (sv (d := .int _ 10) rfl) (svI rfl) rfl hx48) <|
       ils_cons rfl (iop_move rfl rfl (lb rfl) (sv (d := .str _) rfl)) <|
       ils_cons rfl (mvI rfl rfl rfl rfl) <|
       ils_cons rfl (iop_str_at rfl rfl (lb rfl) Tryd.underlying9 (sv (d := .str _) rfl) (svI rfl) hx49) <|
       ils_cons rfl (iop_intx rfl rfl (lb rfl) (svI rfl) (sv (d := .int _ 48) rfl) rfl hx50) <|
       ils_cons rfl (iop_int_conv rfl rfl (lb rfl) ⟨_, Tryd.underlying5⟩ Tryd.underlying3 (svI rfl) hx51) <|
       ils_cons rfl (iop_intx rfl rfl (lb rfl) (svI rfl) (svI rfl) rfl hx52) <|
       ils_cons rfl (asI rfl rfl rfl rfl) <|
       ils_nil ?_)
      refine blockQ_n ?_
      refine thenQ_n ?_
      obtain ⟨x53, hx53, h⟩ := bnd_e h
      refine iwp_region (ils_cons rfl (mvI rfl rfl rfl rfl) <|
       ils_cons rfl (iop_intx rfl rfl (lb rfl) (svI rfl) (sv (d := .int _ 1) rfl) rfl hx53) <|
       ils_cons rfl (asI rfl rfl rfl rfl) <|
       ils_nil ?_)
      refine thenQ_n ⟨(n0, x52, x53), (fun i => i), ⟨(.sames rfl rfl), .nil, nd_of [] rfl (by decide), fun _ _ => rfl⟩, ?_, ?_⟩
      exact h
      exact Nat.lt_succ_self _
    ·
     replace h := bif_f h hc41
     refine iwp_exit ?_
     refine thenQ_e ?_
     refine thenQ_e ?_
     refine blockQ_e ?_
     refine thenQ_n ?_
     refine iwp_reg (ils_cons rfl (mvI rfl rfl rfl rfl) <|
      ils_cons rfl (asI rfl rfl rfl rfl) <|
      ils_end ?_)
     refine iwp_ret ?_
     obtain rfl := Option.some.inj h
     refine ⟨.inr rfl, (.cons (sv rfl) .nil)⟩

theorem p_sennitref33_put (a0 : T_world_Step) (a1 : Int) (a2 : (List UInt8)) (r : (T_world_Step × Bool)) (h : sennitref33_put a0 a1 a2 = some r) : PureAt Tryd.prog 29 [.agg (v0 a0), .int .u8 a1, .str a2] (retD [.agg (v0 r.1), .bool r.2]) := by
 refine pure_of_iwp (rs := [.agg (v0 r.1), .bool r.2]) Tryd.func29 rfl Tryd.ntmps29 (nle rfl) rfl fun O hO => ?_
 show IWP _ _ _ _ ⟨[(0, .agg (v0 a0)), (1, .int .u8 a1), (2, .str a2)], []⟩ _
 unfold sennitref33_put at h
 refine iwp_reg (ils_cons rfl (iop_box' (cs := q2) 0 rfl rfl (lb rfl) rfl (svA q2 rfl) rfl rfl) <|
  ils_cons rfl (iop_allocS (cs := q2) (cs' := (w11 0 0 0 0 0 0 [] false)) 1 rfl rfl (lb rfl) rfl ti28 rfl rfl (.all _)) <|
  ils_cons rfl (iop_assign rfl rfl (lb rfl) (sv (d := .bool false) rfl)) <|
  ils_end ?_)
 refine iwp_seq ?_
 obtain ⟨x1, hx1, h⟩ := bnd_e h
 refine iwp_reg (ils_cons rfl (mvI rfl rfl rfl rfl) <|
  ils_cons rfl (iop_cmpx rfl rfl (lb rfl) (svI rfl) (sv (d := .int _ 116) rfl) rfl hx1) <|
  ils_end ?_)
 refine iwp_cond (b := _) rfl (fun hc2 => ?_) (fun hc2 => ?_)
 ·
  replace h := bif_t h hc2
  obtain ⟨x3, hx3, h⟩ := bno_e h
  refine iwp_reg (ils_cons rfl (iop_move rfl rfl (lb rfl) (sv (d := .str _) rfl)) <|
   ils_cons rfl (iop_call (r := .tuple [.str _, .bool _]) rfl rfl (lb rfl) cl47 (.cons (sv (d := .str _) rfl) .nil) rfl (p_sennitref33_unhex _ _ hx3)) <|
   ils_cons rfl (iop_move rfl rfl (lb rfl) (sv (d := .tuple [.str _, .bool _]) rfl)) <|
   ils_cons rfl (iop_extract (d := .str _) rfl rfl (lb rfl) (sv (d := .tuple [.str _, .bool _]) rfl) rfl) <|
   ils_cons rfl (iop_extract (d := .bool _) rfl rfl (lb rfl) (sv (d := .tuple [.str _, .bool _]) rfl) rfl) <|
   ils_cons rfl (iop_assign rfl rfl (lb rfl) (sv (d := .str _) rfl)) <|
   ils_cons rfl (asB rfl rfl rfl rfl) <|
   ils_end ?_)
  refine iwp_reg (ils_cons rfl (iop_move rfl rfl (lb rfl) (sv (d := .str _) rfl)) <|
   ils_cons rfl (faR 6 rfl rfl rfl Tryd.underlying28 rfl ti9 (lb rfl) rfl rfl) <|
   ils_cons rfl (iop_store (ds' := q2) rfl rfl ti9 (svR rfl) rfl (sv (d := .str _) rfl) rfl rfl rfl (nle rfl) rfl) <|
   ils_end ?_)
  refine iwp_reg (ils_cons rfl (lra q2 la28 rfl rfl rfl rfl rfl (nle rfl) rfl) <|
   ils_cons rfl (mvB rfl rfl rfl rfl) <|
   ils_cons rfl (stA q2 q2 ti28 rfl rfl rfl rfl rfl rfl rfl rfl (nle rfl) rfl) <|
   ils_cons rfl (asB rfl rfl rfl rfl) <|
   ils_end ?_)
  refine iwp_ret ?_
  refine thenQ_r ?_
  obtain rfl := Option.some.inj h
  refine ⟨.inr rfl, (.cons (rva la28 rfl rfl (nle rfl) rfl) (.cons (sv rfl) .nil))⟩
 ·
  replace h := bif_f h hc2
  refine iwp_skip ?_
  refine thenQ_n ?_
  refine iwp_seq ?_
  obtain ⟨x4, hx4, h⟩ := bnd_e h
  refine iwp_reg (ils_cons rfl (mvI rfl rfl rfl rfl) <|
   ils_cons rfl (iop_cmpx rfl rfl (lb rfl) (svI rfl) (sv (d := .int _ 102) rfl) rfl hx4) <|
   ils_end ?_)
  refine iwp_cond (b := _) rfl (fun hc5 => ?_) (fun hc5 => ?_)
  ·
   replace h := bif_t h hc5
   obtain ⟨x6, hx6, h⟩ := bnd_e h
   refine iwp_reg (ils_cons rfl (iop_move rfl rfl (lb rfl) (sv (d := .str _) rfl)) <|
    ils_cons rfl (iop_strx rfl rfl (lb rfl) (sv (d := .str _) rfl) (sv (d := .str [43]) rfl) rfl hx6) <|
    ils_cons rfl (faR 7 rfl rfl rfl Tryd.underlying28 rfl ti4 (lb rfl) rfl rfl) <|
    ils_cons rfl (iop_store (ds' := q2) rfl rfl ti4 (svR rfl) rfl (svB rfl) rfl rfl rfl (nle rfl) rfl) <|
    ils_end ?_)
   obtain ⟨x7, hx7, h⟩ := bnd_e h
   obtain ⟨x8, hx8, h⟩ := bnd_e h
   obtain ⟨x9, hx9, h⟩ := bnd_e h
   refine iwp_reg (ils_cons rfl (lra q2 la28 rfl rfl rfl rfl rfl (nle rfl) rfl) <|
    ils_cons rfl (iop_move rfl rfl (lb rfl) (sv (d := .str _) rfl)) <|
    ils_cons rfl (iop_strx rfl rfl (lb rfl) (sv (d := .str _) rfl) (sv (d := .str [43]) rfl) rfl hx7) <|
    ils_cons rfl (mvB rfl rfl rfl rfl) <|
    ils_guard rfl rfl (.one rfl) rfl (by decide) (fun hb => (iop_move rfl rfl (lb rfl) (sv (d := .str _) rfl))) <|
    ils_guard rfl rfl (.one rfl) rfl (by decide) (fun hb => (iop_strx rfl rfl (lb rfl) (svc (d := .str _) rfl hb) (sv (d := .str [45]) rfl) rfl hx8)) <|
    ils_cons rfl (iop_orx rfl rfl (lb rfl) (svB rfl) rfl rfl hx9) <|
    ils_cons rfl (stA q2 q2 ti28 rfl rfl rfl rfl rfl rfl rfl rfl (nle rfl) rfl) <|
    ils_cons rfl (asB rfl rfl rfl rfl) <|
    ils_end ?_)
   refine iwp_ret ?_
   refine thenQ_r ?_
   obtain rfl := Option.some.inj h
   refine ⟨.inr rfl, (.cons (rva la28 rfl rfl (nle rfl) rfl) (.cons (sv rfl) .nil))⟩
  ·
   replace h := bif_f h hc5
   refine iwp_skip ?_
   refine thenQ_n ?_
   obtain ⟨x10, hx10, h⟩ := bno_e h
   refine iwp_reg (ils_cons rfl (iop_move rfl rfl (lb rfl) (sv (d := .str _) rfl)) <|
    ils_cons rfl (iop_call (r := .int _ _) rfl rfl (lb rfl) cl48 (.cons (sv (d := .str _) rfl) .nil) rfl (p_sennitref33_number _ _ hx10)) <|
    ils_cons rfl (asI rfl rfl rfl rfl) <|
    ils_end ?_)
   refine iwp_join (α := Int × Int × Int × Int) (fun z => ⟨[(3, .ref 0 0), (6, .ref 1 0), (10, .int .i64 x10)], [(0, .blk 28 (w11 a0.Kind a0.Side z.1 z.2.1 z.2.2.1 z.2.2.2 a0.Text a0.Flag)), (1, .blk 28 (w11 0 0 0 0 0 0 [] false))]⟩) (fun z => sennitref33_put_J0 a0 x10 z.1 z.2.1 z.2.2.1 z.2.2.2 = some r) ?_ ?_
   ·
    refine iwp_reg (ils_cons rfl (mvI rfl rfl rfl rfl) <|
     ils_end ?_)
    refine iwp_block ?_
    obtain ⟨x27, hx27, h⟩ := bnd_e h
    refine iwp_reg (ils_cons rfl (iop_cmpx rfl rfl (lb rfl) (svI rfl) (sv (d := .int _ 115) rfl) rfl hx27) <|
     ils_cons rfl (asB rfl rfl rfl rfl) <|
     ils_end ?_)
    refine iwp_cond (b := _) rfl (fun hc28 => ?_) (fun hc28 => ?_)
    ·
     replace h := bif_t h hc28
     refine iwp_reg (ils_cons rfl (mvI rfl rfl rfl rfl) <|
      ils_cons rfl (faR 1 rfl rfl rfl Tryd.underlying28 rfl ti3 (lb rfl) rfl rfl) <|
      ils_cons rfl (iop_store (ds' := q2) rfl rfl ti3 (svR rfl) rfl (svI rfl) rfl rfl rfl (nle rfl) rfl) <|
      ils_end ?_)
     obtain ⟨x29, hx29, h⟩ := bnd_e h
     obtain ⟨x30, hx30, h⟩ := bnd_e h
     obtain ⟨x31, hx31, h⟩ := bnd_e h
     refine iwp_reg (ils_cons rfl (lra q2 la28 rfl rfl rfl rfl rfl (nle rfl) rfl) <|
      ils_cons rfl (mvI rfl rfl rfl rfl) <|
      ils_cons rfl (iop_cmpx rfl rfl (lb rfl) (svI rfl) (sv (d := .int _ 0) rfl) rfl hx29) <|
      ils_cons rfl (mvB rfl rfl rfl rfl) <|
      ils_guard rfl rfl (.one rfl) rfl (by decide) (fun hb => (mvI rfl rfl rfl rfl)) <|
      ils_guard rfl rfl (.one rfl) rfl (by decide) (fun hb => (iop_cmpx rfl rfl (lb rfl) (svcI rfl hb) (sv (d := .int _ 1) rfl) rfl hx30)) <|
      ils_cons rfl (iop_orx rfl rfl (lb rfl) (svB rfl) rfl rfl hx31) <|
      ils_cons rfl (stA q2 q2 ti28 rfl rfl rfl rfl rfl rfl rfl rfl (nle rfl) rfl) <|
      ils_cons rfl (asB rfl rfl rfl rfl) <|
      ils_end ?_)
     refine iwp_ret ?_
     refine blockQ_r ?_
     refine thenQ_r ?_
     obtain rfl := Option.some.inj h
     refine ⟨.inr rfl, (.cons (rva la28 rfl rfl (nle rfl) rfl) (.cons (sv rfl) .nil))⟩
    ·
     replace h := bif_f h hc28
     obtain ⟨x32, hx32, h⟩ := bnd_e h
     refine iwp_reg (ils_cons rfl (iop_cmpx rfl rfl (lb rfl) (svI rfl) (sv (d := .int _ 105) rfl) rfl hx32) <|
      ils_cons rfl (asB rfl rfl rfl rfl) <|
      ils_end ?_)
     refine iwp_cond (b := _) rfl (fun hc33 => ?_) (fun hc33 => ?_)
     ·
      replace h := bif_t h hc33
      refine iwp_region (ils_cons rfl (mvI rfl rfl rfl rfl) <|
       ils_cons rfl (faR 2 rfl rfl rfl Tryd.underlying28 rfl ti3 (lb rfl) rfl rfl) <|
       ils_cons rfl (iop_store (ds' := q2) rfl rfl ti3 (svR rfl) rfl (svI rfl) rfl rfl rfl (nle rfl) rfl) <|
       ils_nil ?_)
      refine blockQ_n ?_
      refine thenQ_n ⟨(x10, a0.N, a0.M, a0.Path), (fun i => i), ⟨(.sames rfl rfl), (.cons (.blk rfl rfl rfl) (.cons (.blk rfl rfl rfl) .nil)), nd_of [0, 1] rfl (by decide), fun _ _ => rfl⟩, ?_⟩
      exact h
     ·
      replace h := bif_f h hc33
      obtain ⟨x34, hx34, h⟩ := bnd_e h
      refine iwp_reg (ils_cons rfl (iop_cmpx rfl rfl (lb rfl) (svI rfl) (sv (d := .int _ 110) rfl) rfl hx34) <|
       ils_cons rfl (asB rfl rfl rfl rfl) <|
       ils_end ?_)
      refine iwp_cond (b := _) rfl (fun hc35 => ?_) (fun hc35 => ?_)
      ·
       replace h := bif_t h hc35
       refine iwp_region (ils_cons rfl (mvI rfl rfl rfl rfl) <|
        ils_cons rfl (faR 3 rfl rfl rfl Tryd.underlying28 rfl ti3 (lb rfl) rfl rfl) <|
        ils_cons rfl (iop_store (ds' := q2) rfl rfl ti3 (svR rfl) rfl (svI rfl) rfl rfl rfl (nle rfl) rfl) <|
        ils_nil ?_)
       refine blockQ_n ?_
       refine thenQ_n ⟨(a0.ID, x10, a0.M, a0.Path), (fun i => i), ⟨(.sames rfl rfl), (.cons (.blk rfl rfl rfl) (.cons (.blk rfl rfl rfl) .nil)), nd_of [0, 1] rfl (by decide), fun _ _ => rfl⟩, ?_⟩
       exact h
      ·
       replace h := bif_f h hc35
       obtain ⟨x36, hx36, h⟩ := bnd_e h
       refine iwp_reg (ils_cons rfl (iop_cmpx rfl rfl (lb rfl) (svI rfl) (sv (d := .int _ 109) rfl) rfl hx36) <|
        ils_cons rfl (asB rfl rfl rfl rfl) <|
        ils_end ?_)
       refine iwp_cond (b := _) rfl (fun hc37 => ?_) (fun hc37 => ?_)
       ·
        replace h := bif_t h hc37
        refine iwp_region (ils_cons rfl (mvI rfl rfl rfl rfl) <|
         ils_cons rfl (faR 4 rfl rfl rfl Tryd.underlying28 rfl ti3 (lb rfl) rfl rfl) <|
         ils_cons rfl (iop_store (ds' := q2) rfl rfl ti3 (svR rfl) rfl (svI rfl) rfl rfl rfl (nle rfl) rfl) <|
         ils_nil ?_)
        refine blockQ_n ?_
        refine thenQ_n ⟨(a0.ID, a0.N, x10, a0.Path), (fun i => i), ⟨(.sames rfl rfl), (.cons (.blk rfl rfl rfl) (.cons (.blk rfl rfl rfl) .nil)), nd_of [0, 1] rfl (by decide), fun _ _ => rfl⟩, ?_⟩
        exact h
       ·
        replace h := bif_f h hc37
        refine iwp_region (ils_cons rfl (mvI rfl rfl rfl rfl) <|
         ils_cons rfl (faR 5 rfl rfl rfl Tryd.underlying28 rfl ti3 (lb rfl) rfl rfl) <|
         ils_cons rfl (iop_store (ds' := q2) rfl rfl ti3 (svR rfl) rfl (svI rfl) rfl rfl rfl (nle rfl) rfl) <|
         ils_nil ?_)
        refine blockQ_n ?_
        refine thenQ_n ⟨(a0.ID, a0.N, a0.M, x10), (fun i => i), ⟨(.sames rfl rfl), (.cons (.blk rfl rfl rfl) (.cons (.blk rfl rfl rfl) .nil)), nd_of [0, 1] rfl (by decide), fun _ _ => rfl⟩, ?_⟩
        exact h
   ·
    rintro ⟨v22, v23, v24, v25⟩ h
    unfold sennitref33_put_J0 at h
    obtain ⟨x26, hx26, h⟩ := bnd_e h
    refine iwp_reg (ils_cons rfl (lra q2 la28 rfl rfl rfl rfl rfl (nle rfl) rfl) <|
     ils_cons rfl (mvI rfl rfl rfl rfl) <|
     ils_cons rfl (iop_cmpx rfl rfl (lb rfl) (svI rfl) (sv (d := .int _ 0) rfl) rfl hx26) <|
     ils_cons rfl (stA q2 q2 ti28 rfl rfl rfl rfl rfl rfl rfl rfl (nle rfl) rfl) <|
     ils_cons rfl (asB rfl rfl rfl rfl) <|
     ils_end ?_)
    refine iwp_ret ?_
    obtain rfl := Option.some.inj h
    refine ⟨.inr rfl, (.cons (rva la28 rfl rfl (nle rfl) rfl) (.cons (sv rfl) .nil))⟩

theorem p_sennitref33_Parse (a0 : (List UInt8)) (r : (T_world_Step × Int)) (h : sennitref33_Parse a0 = some r) : PureAt Tryd.prog 10 [.str a0] (retD [.agg (v0 r.1), .int .i64 r.2]) := by
 refine pure_of_iwp (rs := [.agg (v0 r.1), .int .i64 r.2]) Tryd.func10 rfl Tryd.ntmps10 (nle rfl) rfl fun O hO => ?_
 show IWP _ _ _ _ ⟨[(0, .str a0)], []⟩ _
 unfold sennitref33_Parse at h
 refine iwp_reg (ils_cons rfl (iop_allocS (cs := q2) (cs' := (w11 0 0 0 0 0 0 [] false)) 0 rfl rfl (lb rfl) rfl ti28 rfl rfl (.all _)) <|
  ils_cons rfl (iop_assign rfl rfl (lb rfl) (sv (d := .int _ 0) rfl)) <|
  ils_end ?_)
 refine iwp_seq ?_
 obtain ⟨x1, hx1, h⟩ := bnd_e h
 obtain ⟨x2, hx2, h⟩ := bno_e h
 obtain ⟨x3, hx3, h⟩ := bnd_e h
 obtain ⟨x4, hx4, h⟩ := bnd_e h
 refine iwp_reg (ils_cons rfl (iop_move rfl rfl (lb rfl) (sv (d := .str _) rfl)) <|
  ils_cons rfl (iop_strx rfl rfl (lb rfl) (sv (d := .str _) rfl) (sv (d := .str []) rfl) rfl hx1) <|
  ils_cons rfl (mvB rfl rfl rfl rfl) <|
  ils_guard rfl rfl (.one rfl) rfl (by decide) (fun hb => (iop_move rfl rfl (lb rfl) (sv (d := .str _) rfl))) <|
  ils_guard rfl rfl (.one rfl) rfl (by decide) (fun hb => (iop_str_at rfl rfl (lb rfl) Tryd.underlying9 (svc (d := .str _) rfl hb) (sv (d := .int _ 0) rfl) (gd_t hx2 hb))) <|
  ils_guard rfl rfl (.one rfl) rfl (by decide) (fun hb => (iop_cmpx rfl rfl (lb rfl) (svcI rfl hb) (sv (d := .int _ 35) rfl) rfl hx3)) <|
  ils_cons rfl (iop_orx rfl rfl (lb rfl) (svB rfl) rfl rfl hx4) <|
  ils_end ?_)
 refine iwp_cond (b := _) rfl (fun hc5 => ?_) (fun hc5 => ?_)
 ·
  replace h := bif_t h hc5
  refine iwp_reg (ils_cons rfl (iop_build_struct (cs := q2) rfl rfl (lb rfl) Tryd.underlying28 ti28 pl28 rfl .nil rfl) <|
   ils_cons rfl (stA q2 q2 ti28 rfl rfl rfl rfl rfl rfl rfl rfl (nle rfl) rfl) <|
   ils_cons rfl (iop_assign rfl rfl (lb rfl) (sv (d := .int _ 6) rfl)) <|
   ils_end ?_)
  refine iwp_ret ?_
  refine thenQ_r ?_
  obtain rfl := Option.some.inj h
  refine ⟨.inr rfl, (.cons (rva la28 rfl rfl (nle rfl) rfl) (.cons (sv rfl) .nil))⟩
 ·
  replace h := bif_f h hc5
  refine iwp_skip ?_
  refine thenQ_n ?_
  obtain ⟨x6, hx6, h⟩ := bno_e h
  refine iwp_reg (ils_cons rfl (iop_move rfl rfl (lb rfl) (sv (d := .str _) rfl)) <|
   ils_cons rfl (iop_call (r := .slice _ _) rfl rfl (lb rfl) cl27 (.cons (sv (d := .str _) rfl) .nil) rfl (p_sennitref33_words _ _ hx6)) <|
   ils_cons rfl (iop_assign rfl rfl (lb rfl) (svL rfl)) <|
   ils_end ?_)
  refine iwp_reg (ils_cons rfl (iop_assign rfl rfl (lb rfl) (sv (d := .int _ 16) rfl)) <|
   ils_end ?_)
  refine iwp_seq ?_
  refine iwp_reg (ils_cons rfl (iop_assign rfl rfl (lb rfl) (sv (d := .int _ 0) rfl)) <|
   ils_end ?_)
  refine iwp_block ?_
  refine iwp_loopP (α := Nat × Int × Int) (fun z => ⟨[(2, .ref 0 0), (4, .slice false (x6.map eStr.d)), (5, .int .u8 z.2.1), (6, .int .u8 z.2.2)], [(0, .blk 28 (w11 0 0 0 0 0 0 [] false))]⟩) (fun z => sennitref33_Parse_L0 x6 z.1 z.2.1 z.2.2 = some r) (fun z => z.1) (fuel, 16, 0) (fun i => i) ⟨(.sames rfl rfl), (.cons (.blk rfl rfl rfl) .nil), nd_of [0] rfl (by decide), fun _ _ => rfl⟩ ?_ ?_
  ·exact h
  ·
   rintro ⟨n0, v15, v16⟩ h
   cases n0 with
   | zero => exact absurd h (by unfold sennitref33_Parse_L0; exact nofun)
   | succ n0 =>
    unfold sennitref33_Parse_L0 at h
    refine iwp_seq ?_
    obtain ⟨x25, hx25, h⟩ := bnd_e h
    refine iwp_reg (ils_cons rfl (mvI rfl rfl rfl rfl) <|
     ils_cons rfl (iop_cmpx rfl rfl (lb rfl) (svI rfl) (sv (d := .int _ 16) rfl) rfl hx25) <|
     ils_end ?_)
    refine iwp_cond (b := _) rfl (fun hc26 => ?_) (fun hc26 => ?_)
    ·
     replace h := bif_t h hc26
     refine iwp_skip ?_
     refine thenQ_n ?_
     refine iwp_seq ?_
     refine iwp_block ?_
     obtain ⟨x27, hx27, h⟩ := bno_e h
     obtain ⟨x28, hx28, h⟩ := bno_e h
     obtain ⟨x29, hx29, h⟩ := bnd_e h
     refine iwp_drw rfl [⟨[6], [], [(26, .int .u8 v16)], []⟩,
      ⟨[26], [], [(27, .str x27)], []⟩,
      ⟨[4], [], [(28, .slice false (x6.map eStr.d))], []⟩,
      ⟨[28], [], [(29, .fptr [.str x28])], []⟩,
      ⟨[29], [], [(30, .str x28)], []⟩,
      ⟨[27, 30], [], [(31, .bool x29)], []⟩] rfl ?_ (by kernel_rfl) ?_
     ·refine .cons (lop rfl rfl fun S hA => (iop_move rfl rfl (lb rfl) (svaI hA rfl rfl))) ?_
      refine .cons (lop rfl rfl fun S hA => (iop_call (r := .str _) rfl rfl (lb rfl) cl20 (.cons (svaI hA rfl rfl) .nil) rfl (p_sennitref33_Name _ _ hx27))) ?_
      refine .cons (lop rfl rfl fun S hA => (iop_move rfl rfl (lb rfl) (svaL hA rfl rfl))) ?_
      refine .cons (lop rfl rfl fun S hA => (iop_idxT eStr (cs := [.str _]) rfl rfl (lb rfl) Tryd.underlying42 ti9 (svaL hA rfl rfl) (sv (d := .int _ 0) rfl) hx28 rfl rfl)) ?_
      refine .cons (lop rfl rfl fun S hA => (iop_load_fs rfl rfl (lb rfl) Tryd.underlying9 ag9 ti9 (by decide) (sv (d := .fptr [.str _]) (agr hA rfl rfl)) (nle rfl))) ?_
      refine .cons (lop rfl rfl fun S hA => (iop_strx rfl rfl (lb rfl) (sv (d := .str _) (agr hA rfl rfl)) (sv (d := .str _) (agr hA rfl rfl)) rfl hx29)) ?_
      exact .nil
     refine iwp_cond (b := _) rfl (fun hc30 => ?_) (fun hc30 => ?_)
     ·
      replace h := bif_t h hc30
      refine iwp_region (ils_cons rfl (mvI rfl rfl rfl rfl) <|
       ils_cons rfl (asI rfl rfl rfl rfl) <|
       ils_nil ?_)
      refine blockQ_n ?_
      refine thenQ_n ?_
      obtain ⟨x31, hx31, h⟩ := bnd_e h
      refine iwp_region (ils_cons rfl (mvI rfl rfl rfl rfl) <|
       ils_cons rfl (iop_intx rfl rfl (lb rfl) (svI rfl) (sv (d := .int _ 1) rfl) rfl hx31) <|
       ils_cons rfl (asI rfl rfl rfl rfl) <|
       ils_nil ?_)
      refine thenQ_n ⟨(n0, v16, x31), (fun i => i), ⟨(.sames rfl rfl), (.cons (.blk rfl rfl rfl) .nil), nd_of [0] rfl (by decide), fun _ _ => rfl⟩, ?_, ?_⟩
      exact h
      exact Nat.lt_succ_self _
     ·
      replace h := bif_f h hc30
      refine iwp_skip ?_
      refine blockQ_n ?_
      refine thenQ_n ?_
      obtain ⟨x32, hx32, h⟩ := bnd_e h
      refine iwp_region (ils_cons rfl (mvI rfl rfl rfl rfl) <|
       ils_cons rfl (iop_intx rfl rfl (lb rfl) (svI rfl) (sv (d := .int _ 1) rfl) rfl hx32) <|
       ils_cons rfl (asI rfl rfl rfl rfl) <|
       ils_nil ?_)
      refine thenQ_n ⟨(n0, v15, x32), (fun i => i), ⟨(.sames rfl rfl), (.cons (.blk rfl rfl rfl) .nil), nd_of [0] rfl (by decide), fun _ _ => rfl⟩, ?_, ?_⟩
      exact h
      exact Nat.lt_succ_self _
    ·
     replace h := bif_f h hc26
     refine iwp_exit ?_
     refine thenQ_e ?_
     refine thenQ_e ?_
     refine blockQ_e ?_
     refine thenQ_n ?_
     refine iwp_seq ?_
     obtain ⟨x33, hx33, h⟩ := bnd_e h
     refine iwp_reg (ils_cons rfl (mvI rfl rfl rfl rfl) <|
      ils_cons rfl (iop_cmpx rfl rfl (lb rfl) (svI rfl) (sv (d := .int _ 16) rfl) rfl hx33) <|
      ils_end ?_)
     refine iwp_cond (b := _) rfl (fun hc34 => ?_) (fun hc34 => ?_)
     ·
      replace h := bif_t h hc34
      refine iwp_reg (ils_cons rfl (iop_build_struct (cs := q2) rfl rfl (lb rfl) Tryd.underlying28 ti28 pl28 rfl .nil rfl) <|
       ils_cons rfl (stA q2 q2 ti28 rfl rfl rfl rfl rfl rfl rfl rfl (nle rfl) rfl) <|
       ils_cons rfl (iop_assign rfl rfl (lb rfl) (sv (d := .int _ 12) rfl)) <|
       ils_end ?_)
      refine iwp_ret ?_
      refine thenQ_r ?_
      obtain rfl := Option.some.inj h
      refine ⟨.inr rfl, (.cons (rva la28 rfl rfl (nle rfl) rfl) (.cons (sv rfl) .nil))⟩
     ·
      replace h := bif_f h hc34
      refine iwp_skip ?_
      refine thenQ_n ?_
      obtain ⟨x35, hx35, h⟩ := bno_e h
      refine iwp_reg (ils_cons rfl (mvI rfl rfl rfl rfl) <|
       ils_cons rfl (iop_call (r := .str _) rfl rfl (lb rfl) cl28 (.cons (svI rfl) .nil) rfl (p_sennitref33_fields _ _ hx35)) <|
       ils_cons rfl (iop_assign rfl rfl (lb rfl) (sv (d := .str _) rfl)) <|
       ils_end ?_)
      refine iwp_reg (ils_cons rfl (mvI rfl rfl rfl rfl) <|
       ils_cons rfl (iop_build_struct (cs := q2) rfl rfl (lb rfl) Tryd.underlying28 ti28 pl28 rfl (.cons (svI rfl) .nil) rfl) <|
       ils_cons rfl (iop_allocS (cs := q2) (cs' := (w11 0 0 0 0 0 0 [] false)) 1 rfl rfl (lb rfl) rfl ti28 rfl rfl (.all _)) <|
       ils_cons rfl (stA q2 q2 ti28 rfl rfl rfl rfl rfl rfl rfl rfl (nle rfl) rfl) <|
       ils_end ?_)
      refine iwp_seq ?_
      obtain ⟨x36, hx36, h⟩ := bnd_e h
      obtain ⟨x37, hx37, h⟩ := bnd_e h
      refine iwp_reg (ils_cons rfl (mvL rfl rfl rfl rfl) <|
       ils_cons rfl (iop_lenT eStr (l := x6) rfl rfl (lb rfl) Tryd.underlying42 (svL rfl)) <|
       ils_cons rfl (iop_move rfl rfl (lb rfl) (sv (d := .str _) rfl)) <|
       ils_cons rfl (iop_len_str rfl rfl (lb rfl) Tryd.underlying9 (sv (d := .str _) rfl) rfl) <|
       ils_cons rfl (iop_intx rfl rfl (lb rfl) (svI rfl) (sv (d := .int _ 1) rfl) rfl hx36) <|
       ils_cons rfl (iop_cmpx rfl rfl (lb rfl) (svI rfl) (svI rfl) rfl hx37) <|
       ils_end ?_)
      refine iwp_cond (b := _) rfl (fun hc38 => ?_) (fun hc38 => ?_)
      ·
       replace h := bif_t h hc38
       refine iwp_reg (ils_cons rfl (iop_build_struct (cs := q2) rfl rfl (lb rfl) Tryd.underlying28 ti28 pl28 rfl .nil rfl) <|
        ils_cons rfl (stA q2 q2 ti28 rfl rfl rfl rfl rfl rfl rfl rfl (nle rfl) rfl) <|
        ils_cons rfl (iop_assign rfl rfl (lb rfl) (sv (d := .int _ 60) rfl)) <|
        ils_end ?_)
       refine iwp_ret ?_
       refine thenQ_r ?_
       obtain rfl := Option.some.inj h
       refine ⟨.inr rfl, (.cons (rva la28 rfl rfl (nle rfl) rfl) (.cons (sv rfl) .nil))⟩
      ·
       replace h := bif_f h hc38
       refine iwp_skip ?_
       refine thenQ_n ?_
       refine iwp_seq ?_
       refine iwp_reg (ils_cons rfl (iop_assign rfl rfl (lb rfl) (sv (d := .int _ 0) rfl)) <|
        ils_end ?_)
       refine iwp_block ?_
       refine iwp_loopP (α := Nat × Int × Int × Int × Int × Int × Int × Int × (List UInt8) × Bool) (fun z => ⟨[(2, .ref 0 0), (4, .slice false (x6.map eStr.d)), (7, .str x35), (8, .ref 1 0), (9, .int .i64 z.2.1)], [(0, .blk 28 (w11 0 0 0 0 0 0 [] false)), (1, .blk 28 (w11 z.2.2.1 z.2.2.2.1 z.2.2.2.2.1 z.2.2.2.2.2.1 z.2.2.2.2.2.2.1 z.2.2.2.2.2.2.2.1 z.2.2.2.2.2.2.2.2.1 z.2.2.2.2.2.2.2.2.2))]⟩) (fun z => sennitref33_Parse_L1 x6 x35 z.1 z.2.1 z.2.2.1 z.2.2.2.1 z.2.2.2.2.1 z.2.2.2.2.2.1 z.2.2.2.2.2.2.1 z.2.2.2.2.2.2.2.1 z.2.2.2.2.2.2.2.2.1 z.2.2.2.2.2.2.2.2.2 = some r) (fun z => z.1) (fuel, 0, v15, 0, 0, 0, 0, 0, ([] : (List UInt8)), false) (fun i => i) ⟨(.sames rfl rfl), (.cons (.blk rfl rfl rfl) (.cons (.blk rfl rfl rfl) .nil)), nd_of [0, 1] rfl (by decide), fun _ _ => rfl⟩ ?_ ?_
       ·exact h
       ·
        rintro ⟨n1, v50, v51, v52, v53, v54, v55, v56, v57, v58⟩ h
        cases n1 with
        | zero => exact absurd h (by unfold sennitref33_Parse_L1; exact nofun)
        | succ n1 =>
         unfold sennitref33_Parse_L1 at h
         refine iwp_seq ?_
         obtain ⟨x70, hx70, h⟩ := bnd_e h
         obtain ⟨x71, hx71, h⟩ := bnd_e h
         obtain ⟨x72, hx72, h⟩ := bnd_e h
         obtain ⟨x73, hx73, h⟩ := bnd_e h
         refine iwp_reg (ils_cons rfl (mvI rfl rfl rfl rfl) <|
          ils_cons rfl (iop_move rfl rfl (lb rfl) (sv (d := .str _) rfl)) <|
          ils_cons rfl (iop_len_str rfl rfl (lb rfl) Tryd.underlying9 (sv (d := .str _) rfl) rfl) <|
          ils_cons rfl (iop_cmpx rfl rfl (lb rfl) (svI rfl) (svI rfl) rfl hx70) <|
          ils_cons rfl (mvB rfl rfl rfl rfl) <|
          ils_guard rfl rfl (.one rfl) rfl (by decide) (fun hb => (mvI rfl rfl rfl rfl)) <|
          ils_guard rfl rfl (.one rfl) rfl (by decide) (fun hb => (iop_intx rfl rfl (lb rfl) (svcI rfl hb) (sv (d := .int _ 1) rfl) rfl hx71)) <|
          ils_guard rfl rfl (.one rfl) rfl (by decide) (fun hb => (mvL rfl rfl rfl rfl)) <|
          ils_guard rfl rfl (.one rfl) rfl (by decide) (fun hb => (iop_lenT eStr (l := x6) rfl rfl (lb rfl) Tryd.underlying42 (svcL rfl hb))) <|
          ils_guard rfl rfl (.one rfl) rfl (by decide) (fun hb => (iop_cmpx rfl rfl (lb rfl) (svcI rfl hb) (svcI rfl hb) rfl hx72)) <|
          ils_cons rfl (iop_andx rfl rfl (lb rfl) (svB rfl) rfl rfl hx73) <|
          ils_end ?_)
         refine iwp_cond (b := _) rfl (fun hc74 => ?_) (fun hc74 => ?_)
         ·
          replace h := bif_t h hc74
          refine iwp_skip ?_
          refine thenQ_n ?_
          refine iwp_seq ?_
          refine iwp_block ?_
          obtain ⟨x75, hx75, h⟩ := bno_e h
          obtain ⟨x76, hx76, h⟩ := bnd_e h
          obtain ⟨x77, hx77, h⟩ := bno_e h
          obtain ⟨x78, hx78, h⟩ := bno_e h
          refine iwp_drw rfl [⟨[8], [1], [(61, .agg (w11 v51 v52 v53 v54 v55 v56 v57 v58))], []⟩,
           ⟨[7], [], [(62, .str x35)], []⟩,
           ⟨[9], [], [(63, .int .i64 v50)], []⟩,
           ⟨[62, 63], [], [(64, .int .u8 (x75.toNat : Int))], []⟩,
           ⟨[4], [], [(65, .slice false (x6.map eStr.d))], []⟩,
           ⟨[9], [], [(66, .int .i64 v50)], []⟩,
           ⟨[66], [], [(67, .int .i64 x76)], []⟩,
           ⟨[65, 67], [], [(68, .fptr [.str x77])], []⟩,
           ⟨[68], [], [(69, .str x77)], []⟩,
           ⟨[61, 64, 69], [], [(70, .tuple [.agg (v0 x78.1), .bool x78.2])], []⟩,
           ⟨[70], [], [(60, .tuple [.agg (v0 x78.1), .bool x78.2])], []⟩,
           ⟨[60], [], [(71, .agg (v0 x78.1))], []⟩,
           ⟨[60], [], [(72, .bool x78.2)], []⟩,
           ⟨[], [2], [(10, .ref 2 0)], [(2, .blk 28 (w11 0 0 0 0 0 0 [] false))]⟩,
           ⟨[10, 71], [2], [], [(2, .blk 28 (v0 x78.1))]⟩,
           ⟨[72], [], [(11, .bool x78.2)], []⟩] rfl ?_ (by kernel_rfl) ?_
          ·refine .cons (lop rfl rfl fun S hA => (iop_load_ra (cs := q2) rfl rfl (lb rfl) Tryd.underlying28 ag28 ti28 (by decide) (svaR hA rfl rfl) (agi hA rfl rfl) (nle rfl) rfl)) ?_
           refine .cons (lop rfl rfl fun S hA => (iop_move rfl rfl (lb rfl) (sv (d := .str _) (agr hA rfl rfl)))) ?_
           refine .cons (lop rfl rfl fun S hA => (iop_move rfl rfl (lb rfl) (svaI hA rfl rfl))) ?_
           refine .cons (lop rfl rfl fun S hA => (iop_str_at rfl rfl (lb rfl) Tryd.underlying9 (sv (d := .str _) (agr hA rfl rfl)) (svaI hA rfl rfl) hx75)) ?_
           refine .cons (lop rfl rfl fun S hA => (iop_move rfl rfl (lb rfl) (svaL hA rfl rfl))) ?_
           refine .cons (lop rfl rfl fun S hA => (iop_move rfl rfl (lb rfl) (svaI hA rfl rfl))) ?_
           refine .cons (lop rfl rfl fun S hA => (iop_intx rfl rfl (lb rfl) (svaI hA rfl rfl) (sv (d := .int _ 1) rfl) rfl hx76)) ?_
           refine .cons (lop rfl rfl fun S hA => (iop_idxT eStr (cs := [.str _]) rfl rfl (lb rfl) Tryd.underlying42 ti9 (svaL hA rfl rfl) (svaI hA rfl rfl) hx77 rfl rfl)) ?_
           refine .cons (lop rfl rfl fun S hA => (iop_load_fs rfl rfl (lb rfl) Tryd.underlying9 ag9 ti9 (by decide) (sv (d := .fptr [.str _]) (agr hA rfl rfl)) (nle rfl))) ?_
           refine .cons (lop rfl rfl fun S hA => (iop_call (r := .tuple q10) rfl rfl (lb rfl) cl29 (.cons (svaA q2 hA rfl rfl) (.cons (svaI hA rfl rfl) (.cons (sv (d := .str _) (agr hA rfl rfl)) .nil))) rfl (p_sennitref33_put _ _ _ _ hx78))) ?_
           refine .cons (lop rfl rfl fun S hA => (iop_move rfl rfl (lb rfl) (sv (d := .tuple q10) (agr hA rfl rfl)))) ?_
           refine .cons (lop rfl rfl fun S hA => (iop_extract (d := .agg q2) rfl rfl (lb rfl) (sv (d := .tuple q10) (agr hA rfl rfl)) rfl)) ?_
           refine .cons (lop rfl rfl fun S hA => (iop_extract (d := .bool _) rfl rfl (lb rfl) (sv (d := .tuple q10) (agr hA rfl rfl)) rfl)) ?_
           refine .cons (lop rfl rfl fun S hA => (iop_allocS (cs := q2) (cs' := (w11 0 0 0 0 0 0 [] false)) 2 rfl rfl (lb rfl) (agi hA rfl rfl) ti28 rfl rfl (.all _))) ?_
           refine .cons (lop rfl rfl fun S hA => (iop_store (ds' := q2) rfl rfl ti28 (svaR hA rfl rfl) (agi hA rfl rfl) (svaA q2 hA rfl rfl) rfl rfl rfl (nle rfl) rfl)) ?_
           refine .cons (lop rfl rfl fun S hA => (iop_assign rfl rfl (lb rfl) (svaB hA rfl rfl))) ?_
           exact .nil
          refine iwp_seq ?_
          refine iwp_reg (ils_cons rfl (mvB rfl rfl rfl rfl) <|
           ils_cons rfl (iop_not rfl rfl (lb rfl) (svB rfl)) <|
           ils_end ?_)
          refine iwp_cond (b := _) rfl (fun hc79 => ?_) (fun hc79 => ?_)
          ·
           replace h := bif_t h hc79
           refine iwp_reg (ils_cons rfl (iop_build_struct (cs := q2) rfl rfl (lb rfl) Tryd.underlying28 ti28 pl28 rfl .nil rfl) <|
            ils_cons rfl (stA q2 q2 ti28 rfl rfl rfl rfl rfl rfl rfl rfl (nle rfl) rfl) <|
            ils_cons rfl (iop_assign rfl rfl (lb rfl) (sv (d := .int _ 60) rfl)) <|
            ils_end ?_)
           refine iwp_ret ?_
           refine thenQ_r ?_
           refine blockQ_r ?_
           refine thenQ_r ?_
           refine thenQ_r ?_
           refine blockQ_r ?_
           refine thenQ_r ?_
           obtain rfl := Option.some.inj h
           refine ⟨.inr rfl, (.cons (rva la28 rfl rfl (nle rfl) rfl) (.cons (sv rfl) .nil))⟩
          ·
           replace h := bif_f h hc79
           refine iwp_skip ?_
           refine thenQ_n ?_
           refine iwp_region (ils_cons rfl (lra q2 la28 rfl rfl rfl rfl rfl (nle rfl) rfl) <|
            ils_cons rfl (stA q2 q2 ti28 rfl rfl rfl rfl rfl rfl rfl rfl (nle rfl) rfl) <|
            ils_nil ?_)
           refine blockQ_n ?_
           refine thenQ_n ?_
           obtain ⟨x80, hx80, h⟩ := bnd_e h
           refine iwp_region (ils_cons rfl (mvI rfl rfl rfl rfl) <|
            ils_cons rfl (iop_intx rfl rfl (lb rfl) (svI rfl) (sv (d := .int _ 1) rfl) rfl hx80) <|
            ils_cons rfl (asI rfl rfl rfl rfl) <|
            ils_nil ?_)
           refine thenQ_n ⟨(n1, x80, x78.1.Kind, x78.1.Side, x78.1.ID, x78.1.N, x78.1.M, x78.1.Path, x78.1.Text, x78.1.Flag), (fun i => i), ⟨(.sames rfl rfl), (.cons (.blk rfl rfl rfl) (.cons (.blk rfl rfl rfl) .nil)), nd_of [0, 1] rfl (by decide), fun _ _ => rfl⟩, ?_, ?_⟩
           exact h
           exact Nat.lt_succ_self _
         ·
          replace h := bif_f h hc74
          refine iwp_exit ?_
          refine thenQ_e ?_
          refine thenQ_e ?_
          refine blockQ_e ?_
          refine thenQ_n ?_
          refine iwp_seq ?_
          obtain ⟨x81, hx81, h⟩ := bnd_e h
          refine iwp_reg (ils_cons rfl (faR 6 rfl rfl rfl Tryd.underlying28 rfl ti9 (lb rfl) rfl rfl) <|
           ils_cons rfl (iop_load_rs (d := .str _) rfl rfl (lb rfl) Tryd.underlying9 ag9 ti9 (by decide) (svR rfl) rfl (nle rfl) rfl) <|
           ils_cons rfl (iop_len_str rfl rfl (lb rfl) Tryd.underlying9 (sv (d := .str _) rfl) rfl) <|
           ils_cons rfl (iop_cmpx rfl rfl (lb rfl) (svI rfl) (sv (d := .int _ 300) rfl) rfl hx81) <|
           ils_end ?_)
          refine iwp_cond (b := _) rfl (fun hc82 => ?_) (fun hc82 => ?_)
          ·
           replace h := bif_t h hc82
           refine iwp_reg (ils_cons rfl (iop_build_struct (cs := q2) rfl rfl (lb rfl) Tryd.underlying28 ti28 pl28 rfl .nil rfl) <|
            ils_cons rfl (stA q2 q2 ti28 rfl rfl rfl rfl rfl rfl rfl rfl (nle rfl) rfl) <|
            ils_cons rfl (iop_assign rfl rfl (lb rfl) (sv (d := .int _ 5) rfl)) <|
            ils_end ?_)
           refine iwp_ret ?_
           refine thenQ_r ?_
           obtain rfl := Option.some.inj h
           refine ⟨.inr rfl, (.cons (rva la28 rfl rfl (nle rfl) rfl) (.cons (sv rfl) .nil))⟩
          ·
           replace h := bif_f h hc82
           refine iwp_skip ?_
           refine thenQ_n ?_
           refine iwp_reg (ils_cons rfl (lra q2 la28 rfl rfl rfl rfl rfl (nle rfl) rfl) <|
            ils_cons rfl (stA q2 q2 ti28 rfl rfl rfl rfl rfl rfl rfl rfl (nle rfl) rfl) <|
            ils_cons rfl (iop_assign rfl rfl (lb rfl) (sv (d := .int _ 0) rfl)) <|
            ils_end ?_)
           refine iwp_ret ?_
           obtain rfl := Option.some.inj h
           refine ⟨.inr rfl, (.cons (rva la28 rfl rfl (nle rfl) rfl) (.cons (sv rfl) .nil))⟩

theorem p_sennitref33_Script (a0 : (List UInt8)) (r : ((List T_world_Step) × Int × Int)) (h : sennitref33_Script a0 = some r) : PureAt Tryd.prog 12 [.str a0] (retD [.slice false (r.1.map E_world_Step.d), .int .i64 r.2.1, .int .i64 r.2.2]) := by
 refine pure_of_iwp (rs := [.slice false (r.1.map E_world_Step.d), .int .i64 r.2.1, .int .i64 r.2.2]) Tryd.func12 rfl Tryd.ntmps12 (nle rfl) rfl fun O hO => ?_
 show IWP _ _ _ _ ⟨[(0, .str a0)], []⟩ _
 unfold sennitref33_Script at h
 refine iwp_reg (ils_cons rfl (iop_assign rfl rfl (lb rfl) (sv (d := .nils) rfl)) <|
  ils_cons rfl (iop_assign rfl rfl (lb rfl) (sv (d := .int _ 0) rfl)) <|
  ils_cons rfl (iop_assign rfl rfl (lb rfl) (sv (d := .int _ 0) rfl)) <|
  ils_end ?_)
 refine iwp_reg (ils_cons rfl (iop_assign rfl rfl (lb rfl) (sv (d := .nils) rfl)) <|
  ils_end ?_)
 refine iwp_reg (ils_cons rfl (iop_assign rfl rfl (lb rfl) (sv (d := .str []) rfl)) <|
  ils_cons rfl (iop_assign rfl rfl (lb rfl) (sv (d := .int _ 0) rfl)) <|
  ils_end ?_)
 refine iwp_join (α := (List T_world_Step)) (fun z => ⟨[(5, .gsl 21 E_world_Step.sz (z.map E_world_Step.d))], [(21, .tail 28 E_world_Step.sz z.length)]⟩) (fun z => sennitref33_Script_J1 z = some r) ?_ ?_
 ·
  refine iwp_reg (ils_cons rfl (iop_assign rfl rfl (lb rfl) (sv (d := .int _ 0) rfl)) <|
   ils_end ?_)
  refine iwp_block ?_
  refine iwp_loopP (α := Nat × (List T_world_Step) × (List UInt8) × Int × Int) (fun z => ⟨[(0, .str a0), (5, .gsl 21 E_world_Step.sz (z.2.1.map E_world_Step.d)), (6, .str z.2.2.1), (7, .int .i64 z.2.2.2.1), (8, .int .i64 z.2.2.2.2)], [(21, .tail 28 E_world_Step.sz z.2.1.length)]⟩) (fun z => sennitref33_Script_L2 a0 z.1 z.2.1 z.2.2.1 z.2.2.2.1 z.2.2.2.2 = some r) (fun z => z.1) (fuel, ([] : (List T_world_Step)), ([] : (List UInt8)), 0, 0) (fun i => if i = 21 then 71 else i) ⟨(.s rfl rfl (.cons (.nils rfl) (.sames rfl rfl))), (.cons (.nils rfl) .nil), nd_of [71] rfl (by decide), (fun i hi => by first | rfl | (show (if _ then _ else _) = _; (repeat' split) <;> omega))⟩ ?_ ?_
  ·exact h
  ·
   rintro ⟨n2, v110, v111, v112, v113⟩ h
   cases n2 with
   | zero => exact absurd h (by unfold sennitref33_Script_L2; exact nofun)
   | succ n2 =>
    unfold sennitref33_Script_L2 at h
    refine iwp_seq ?_
    obtain ⟨x140, hx140, h⟩ := bnd_e h
    refine iwp_reg (ils_cons rfl (mvI rfl rfl rfl rfl) <|
     ils_cons rfl (iop_move rfl rfl (lb rfl) (sv (d := .str _) rfl)) <|
     ils_cons rfl (iop_len_str rfl rfl (lb rfl) Tryd.underlying9 (sv (d := .str _) rfl) rfl) <|
     ils_cons rfl (iop_cmpx rfl rfl (lb rfl) (svI rfl) (svI rfl) rfl hx140) <|
     ils_end ?_)
    refine iwp_cond (b := _) rfl (fun hc141 => ?_) (fun hc141 => ?_)
    ·
     replace h := bif_t h hc141
     refine iwp_skip ?_
     refine thenQ_n ?_
     refine iwp_seq ?_
     refine iwp_block ?_
     refine iwp_seq ?_
     obtain ⟨x142, hx142, h⟩ := bnd_e h
     obtain ⟨x143, hx143, h⟩ := bno_e h
     obtain ⟨x144, hx144, h⟩ := bnd_e h
     obtain ⟨x145, hx145, h⟩ := bnd_e h
     refine iwp_reg (ils_cons rfl (mvI rfl rfl rfl rfl) <|
      ils_cons rfl (iop_move rfl rfl (lb rfl) (sv (d := .str _) rfl)) <|
      ils_cons rfl (iop_len_str rfl rfl (lb rfl) Tryd.underlying9 (sv (d := .str _) rfl) rfl) <|
      ils_cons rfl (iop_cmpx rfl rfl (lb rfl) (svI rfl) (svI rfl) rfl hx142) <|
      ils_cons rfl (mvB rfl rfl rfl rfl) <|
      ils_guard rfl rfl (.one rfl) rfl (by decide) (fun hb => (iop_move rfl rfl (lb rfl) (sv (d := .str _) rfl))) <|
      ils_guard rfl rfl (.one rfl) rfl (by decide) (fun hb => (mvI rfl rfl rfl rfl)) <|
      ils_guard rfl rfl (.one rfl) rfl (by decide) (fun hb => (iop_str_at rfl rfl (lb rfl) Tryd.underlying9 (svc (d := .str _) rfl hb) (svcI rfl hb) (gd_t hx143 hb))) <|
      ils_guard rfl rfl (.one rfl) rfl (by decide) (fun hb => (iop_cmpx rfl rfl (lb rfl) (svcI rfl hb) (sv (d := .int _ 10) rfl) rfl hx144)) <|
      ils_cons rfl (iop_andx rfl rfl (lb rfl) (svB rfl) rfl rfl hx145) <|
      ils_end ?_)
     refine iwp_cond (b := _) rfl (fun hc146 => ?_) (fun hc146 => ?_)
     ·
      replace h := bif_t h hc146
      obtain ⟨x147, hx147, h⟩ := bnd_e h
      obtain ⟨x148, hx148, h⟩ := bno_e h
      obtain ⟨x149, hx149, h⟩ := bno_e h
      refine iwp_reg (ils_cons rfl (iop_move rfl rfl (lb rfl) (sv (d := .str _) rfl)) <|
       ils_cons rfl (iop_move rfl rfl (lb rfl) (sv (d := .str _) rfl)) <|
       ils_cons rfl (mvI rfl rfl rfl rfl) <|
       ils_cons rfl (mvI rfl rfl rfl rfl) <|
       ils_cons rfl (iop_intx rfl rfl (lb rfl) (svI rfl) (sv (d := .int _ 1) rfl) rfl hx147) <|
       ils_cons rfl (iop_cutS rfl rfl (lb rfl) Tryd.underlying9 (sv (d := .str _) rfl) ⟨_, (svI rfl)⟩ ⟨_, (svI rfl)⟩ hx148) <|
       ils_cons rfl (iop_catx rfl rfl (lb rfl) (sv (d := .str _) rfl) (sv (d := .str _) rfl) hx149) <|
       ils_cons rfl (iop_assign rfl rfl (lb rfl) (sv (d := .str _) rfl)) <|
       ils_end ?_)
      refine iwp_exit ?_
      refine thenQ_e ?_
      refine blockQ_e ?_
      refine thenQ_n ?_
      obtain ⟨x150, hx150, h⟩ := bnd_e h
      refine iwp_region (ils_cons rfl (mvI rfl rfl rfl rfl) <|
       ils_cons rfl (iop_intx rfl rfl (lb rfl) (svI rfl) (sv (d := .int _ 1) rfl) rfl hx150) <|
       ils_cons rfl (asI rfl rfl rfl rfl) <|
       ils_nil ?_)
      refine thenQ_n ⟨(n2, v110, x149, v112, x150), (fun i => i), ⟨(.sames rfl rfl), (.cons (.tail rfl) .nil), nd_of [21] rfl (by decide), fun _ _ => rfl⟩, ?_, ?_⟩
      exact h
      exact Nat.lt_succ_self _
     ·
      replace h := bif_f h hc146
      refine iwp_skip ?_
      refine thenQ_n ?_
      refine iwp_seq ?_
      obtain ⟨x151, hx151, h⟩ := bnd_e h
      obtain ⟨x152, hx152, h⟩ := bnd_e h
      obtain ⟨x153, hx153, h⟩ := bnd_e h
      refine iwp_reg (ils_cons rfl (mvI rfl rfl rfl rfl) <|
       ils_cons rfl (iop_move rfl rfl (lb rfl) (sv (d := .str _) rfl)) <|
       ils_cons rfl (iop_len_str rfl rfl (lb rfl) Tryd.underlying9 (sv (d := .str _) rfl) rfl) <|
       ils_cons rfl (iop_cmpx rfl rfl (lb rfl) (svI rfl) (svI rfl) rfl hx151) <|
       ils_cons rfl (mvB rfl rfl rfl rfl) <|
       ils_guard rfl rfl (.one rfl) rfl (by decide) (fun hb => (iop_move rfl rfl (lb rfl) (sv (d := .str _) rfl))) <|
       ils_guard rfl rfl (.one rfl) rfl (by decide) (fun hb => (iop_strx rfl rfl (lb rfl) (svc (d := .str _) rfl hb) (sv (d := .str []) rfl) rfl hx152)) <|
       ils_cons rfl (iop_andx rfl rfl (lb rfl) (svB rfl) rfl rfl hx153) <|
       ils_end ?_)
      refine iwp_cond (b := _) rfl (fun hc154 => ?_) (fun hc154 => ?_)
      ·
       replace h := bif_t h hc154
       refine iwp_exit ?_
       refine thenQ_e ?_
       refine blockQ_x rfl ?_
       refine thenQ_e ?_
       refine thenQ_e ?_
       refine blockQ_e ?_
       refine thenQ_n ⟨v110, (fun i => i), ⟨(.sames rfl rfl), (.cons (.tail rfl) .nil), nd_of [21] rfl (by decide), fun _ _ => rfl⟩, ?_⟩
       exact h
      ·
       replace h := bif_f h hc154
       refine iwp_skip ?_
       refine thenQ_n ?_
       obtain ⟨x155, hx155, h⟩ := bnd_e h
       refine iwp_reg (ils_cons rfl (mvI rfl rfl rfl rfl) <|
        ils_cons rfl (iop_intx rfl rfl (lb rfl) (svI rfl) (sv (d := .int _ 1) rfl) rfl hx155) <|
        ils_cons rfl (asI rfl rfl rfl rfl) <|
        ils_end ?_)
       obtain ⟨x156, hx156, h⟩ := bno_e h
       refine iwp_reg (ils_cons rfl (iop_move rfl rfl (lb rfl) (sv (d := .str _) rfl)) <|
        ils_cons rfl (iop_call (r := .tuple q9) rfl rfl (lb rfl) cl10 (.cons (sv (d := .str _) rfl) .nil) rfl (p_sennitref33_Parse _ _ hx156)) <|
        ils_cons rfl (iop_move rfl rfl (lb rfl) (sv (d := .tuple q9) rfl)) <|
        ils_cons rfl (iop_extract (d := .agg q2) rfl rfl (lb rfl) (sv (d := .tuple q9) rfl) rfl) <|
        ils_cons rfl (iop_extract (d := .int _ _) rfl rfl (lb rfl) (sv (d := .tuple q9) rfl) rfl) <|
        ils_cons rfl (iop_allocS (cs := q2) (cs' := (w11 0 0 0 0 0 0 [] false)) 22 rfl rfl (lb rfl) rfl ti28 rfl rfl (.all _)) <|
        ils_cons rfl (stA q2 q2 ti28 rfl rfl rfl rfl rfl rfl rfl rfl (nle rfl) rfl) <|
        ils_cons rfl (asI rfl rfl rfl rfl) <|
        ils_end ?_)
       refine iwp_seq ?_
       obtain ⟨x157, hx157, h⟩ := bnd_e h
       obtain ⟨x158, hx158, h⟩ := bnd_e h
       obtain ⟨x159, hx159, h⟩ := bnd_e h
       refine iwp_reg (ils_cons rfl (mvI rfl rfl rfl rfl) <|
        ils_cons rfl (iop_cmpx rfl rfl (lb rfl) (svI rfl) (sv (d := .int _ 0) rfl) rfl hx157) <|
        ils_cons rfl (mvB rfl rfl rfl rfl) <|
        ils_guard rfl rfl (.one rfl) rfl (by decide) (fun hb => (mvI rfl rfl rfl rfl)) <|
        ils_guard rfl rfl (.one rfl) rfl (by decide) (fun hb => (iop_cmpx rfl rfl (lb rfl) (svcI rfl hb) (sv (d := .int _ 6) rfl) rfl hx158)) <|
        ils_cons rfl (iop_andx rfl rfl (lb rfl) (svB rfl) rfl rfl hx159) <|
        ils_end ?_)
       refine iwp_cond (b := _) rfl (fun hc160 => ?_) (fun hc160 => ?_)
       ·
        replace h := bif_t h hc160
        refine iwp_reg (ils_cons rfl (mvI rfl rfl rfl rfl) <|
         ils_cons rfl (mvI rfl rfl rfl rfl) <|
         ils_cons rfl (iop_assign rfl rfl (lb rfl) (sv (d := .nils) rfl)) <|
         ils_cons rfl (asI rfl rfl rfl rfl) <|
         ils_cons rfl (asI rfl rfl rfl rfl) <|
         ils_end ?_)
        refine iwp_ret ?_
        refine thenQ_r ?_
        refine blockQ_r ?_
        refine thenQ_r ?_
        refine thenQ_r ?_
        refine blockQ_r ?_
        refine thenQ_r ?_
        obtain rfl := Option.some.inj h
        refine ⟨.inr rfl, (.cons (svn_of rfl rfl) (.cons (sv rfl) (.cons (sv rfl) .nil)))⟩
       ·
        replace h := bif_f h hc160
        refine iwp_skip ?_
        refine thenQ_n ?_
        refine iwp_seq ?_
        obtain ⟨x161, hx161, h⟩ := bnd_e h
        refine iwp_reg (ils_cons rfl (mvI rfl rfl rfl rfl) <|
         ils_cons rfl (iop_cmpx rfl rfl (lb rfl) (svI rfl) (sv (d := .int _ 0) rfl) rfl hx161) <|
         ils_end ?_)
        refine iwp_cond (b := _) rfl (fun hc162 => ?_) (fun hc162 => ?_)
        ·
         replace h := bif_t h hc162
         obtain ⟨x163, hx163, h⟩ := bno_e h
         refine iwp_region (ils_cons rfl (iop_move rfl rfl (lb rfl) (sv (d := .gsl _ _ _) rfl)) <|
          ils_cons rfl (lra q2 la28 rfl rfl rfl rfl rfl (nle rfl) rfl) <|
          ils_cons rfl (iop_bsT E_world_Step ([x156.1] : (List T_world_Step)) 23 rfl rfl (lb rfl) Tryd.underlying34 ti28 rfl (.cons (svA q2 rfl) .nil) rfl rfl (by decide)) <|
          ils_cons rfl (iop_appT E_world_Step 24 rfl rfl (lb rfl) Tryd.underlying34 ti28 rfl rfl rfl rfl (svg rfl) hx163) <|
          ils_cons rfl (iop_assign rfl rfl (lb rfl) (sv (d := .gsl _ _ _) rfl)) <|
          ils_nil ?_)
         refine thenQ_n ?_
         refine iwp_region (ils_cons rfl (iop_assign rfl rfl (lb rfl) (sv (d := .str []) rfl)) <|
          ils_nil ?_)
         refine blockQ_n ?_
         refine thenQ_n ?_
         obtain ⟨x164, hx164, h⟩ := bnd_e h
         refine iwp_region (ils_cons rfl (mvI rfl rfl rfl rfl) <|
          ils_cons rfl (iop_intx rfl rfl (lb rfl) (svI rfl) (sv (d := .int _ 1) rfl) rfl hx164) <|
          ils_cons rfl (asI rfl rfl rfl rfl) <|
          ils_nil ?_)
         refine thenQ_n ⟨(n2, x163, ([] : (List UInt8)), x155, x164), (fun i => if i = 21 then 24 else i), ⟨(.sames rfl rfl), (.cons (.tail rfl) .nil), nd_of [24] rfl (by decide), (fun i hi => by first | rfl | (show (if _ then _ else _) = _; (repeat' split) <;> omega))⟩, ?_, ?_⟩
         exact h
         exact Nat.lt_succ_self _
        ·
         replace h := bif_f h hc162
         refine iwp_skip ?_
         refine thenQ_n ?_
         refine iwp_region (ils_cons rfl (iop_assign rfl rfl (lb rfl) (sv (d := .str []) rfl)) <|
          ils_nil ?_)
         refine blockQ_n ?_
         refine thenQ_n ?_
         obtain ⟨x165, hx165, h⟩ := bnd_e h
         refine iwp_region (ils_cons rfl (mvI rfl rfl rfl rfl) <|
          ils_cons rfl (iop_intx rfl rfl (lb rfl) (svI rfl) (sv (d := .int _ 1) rfl) rfl hx165) <|
          ils_cons rfl (asI rfl rfl rfl rfl) <|
          ils_nil ?_)
         refine thenQ_n ⟨(n2, v110, ([] : (List UInt8)), x155, x165), (fun i => i), ⟨(.sames rfl rfl), (.cons (.tail rfl) .nil), nd_of [21] rfl (by decide), fun _ _ => rfl⟩, ?_, ?_⟩
         exact h
         exact Nat.lt_succ_self _
    ·
     replace h := bif_f h hc141
     refine iwp_exit ?_
     refine thenQ_e ?_
     refine thenQ_e ?_
     refine blockQ_e ?_
     refine thenQ_n ⟨v110, (fun i => i), ⟨(.sames rfl rfl), (.cons (.tail rfl) .nil), nd_of [21] rfl (by decide), fun _ _ => rfl⟩, ?_⟩
     exact h
 ·
  rintro v83 h
  unfold sennitref33_Script_J1 at h
  refine iwp_reg (ils_cons rfl (iop_move rfl rfl (lb rfl) (sv (d := .gsl _ _ _) rfl)) <|
   ils_cons rfl (iop_assign rfl rfl (lb rfl) (sv (d := .gsl _ _ _) rfl)) <|
   ils_cons rfl (iop_assign rfl rfl (lb rfl) (sv (d := .int _ 0) rfl)) <|
   ils_cons rfl (iop_assign rfl rfl (lb rfl) (sv (d := .int _ 0) rfl)) <|
   ils_end ?_)
  refine iwp_ret ?_
  obtain rfl := Option.some.inj h
  refine ⟨.inr rfl, (.cons (svg_of rfl rfl) (.cons (sv rfl) (.cons (sv rfl) .nil)))⟩

theorem p_sennitlaw33_back (a0 : (List T_world_Step)) (r : (List T_world_Step)) (h : sennitlaw33_back a0 = some r) : PureAt Tryd.prog 14 [.slice false (a0.map E_world_Step.d)] (.slice false (r.map E_world_Step.d)) := by
 refine pure_of_iwp (rs := [.slice false (r.map E_world_Step.d)]) Tryd.func14 rfl Tryd.ntmps14 (nle rfl) rfl fun O hO => ?_
 show IWP _ _ _ _ ⟨[(0, .slice false (a0.map E_world_Step.d))], []⟩ _
 unfold sennitlaw33_back at h
 refine iwp_reg (ils_cons rfl (iop_assign rfl rfl (lb rfl) (sv (d := .nils) rfl)) <|
  ils_end ?_)
 refine iwp_reg (ils_cons rfl (iop_assign rfl rfl (lb rfl) (sv (d := .nils) rfl)) <|
  ils_end ?_)
 refine iwp_seq ?_
 refine iwp_reg (ils_cons rfl (iop_assign rfl rfl (lb rfl) (sv (d := .int _ 0) rfl)) <|
  ils_end ?_)
 refine iwp_block ?_
 refine iwp_loopP (α := Nat × (List T_world_Step) × Int) (fun z => ⟨[(0, .slice false (a0.map E_world_Step.d)), (3, .gsl 21 E_world_Step.sz (z.2.1.map E_world_Step.d)), (4, .int .i64 z.2.2)], [(21, .tail 28 E_world_Step.sz z.2.1.length)]⟩) (fun z => sennitlaw33_back_L0 a0 z.1 z.2.1 z.2.2 = some r) (fun z => z.1) (fuel, ([] : (List T_world_Step)), 0) (fun i => if i = 21 then 71 else i) ⟨(.s rfl rfl (.cons (.nils rfl) (.sames rfl rfl))), (.cons (.nils rfl) .nil), nd_of [71] rfl (by decide), (fun i hi => by first | rfl | (show (if _ then _ else _) = _; (repeat' split) <;> omega))⟩ ?_ ?_
 ·exact h
 ·
  rintro ⟨n0, v6, v7⟩ h
  cases n0 with
  | zero => exact absurd h (by unfold sennitlaw33_back_L0; exact nofun)
  | succ n0 =>
   unfold sennitlaw33_back_L0 at h
   refine iwp_seq ?_
   obtain ⟨x13, hx13, h⟩ := bnd_e h
   refine iwp_reg (ils_cons rfl (mvI rfl rfl rfl rfl) <|
    ils_cons rfl (mvL rfl rfl rfl rfl) <|
    ils_cons rfl (iop_lenT E_world_Step (l := a0) rfl rfl (lb rfl) Tryd.underlying31 (svL rfl)) <|
    ils_cons rfl (iop_cmpx rfl rfl (lb rfl) (svI rfl) (svI rfl) rfl hx13) <|
    ils_end ?_)
   refine iwp_cond (b := _) rfl (fun hc14 => ?_) (fun hc14 => ?_)
   ·
    replace h := bif_t h hc14
    refine iwp_skip ?_
    refine thenQ_n ?_
    refine iwp_seq ?_
    refine iwp_block ?_
    obtain ⟨x15, hx15, h⟩ := bno_e h
    obtain ⟨x16, hx16, h⟩ := bno_e h
    refine iwp_region (ils_cons rfl (iop_move rfl rfl (lb rfl) (sv (d := .gsl _ _ _) rfl)) <|
     ils_cons rfl (mvL rfl rfl rfl rfl) <|
     ils_cons rfl (mvI rfl rfl rfl rfl) <|
     ils_cons rfl (iop_idxT E_world_Step (cs := q2) rfl rfl (lb rfl) Tryd.underlying31 ti24 (svL rfl) (svI rfl) hx15 rfl rfl) <|
     ils_cons rfl (iop_load_fa (cs := q2) rfl rfl (lb rfl) Tryd.underlying24 ag24 ti24 (by decide) (sv (d := .fptr q2) rfl) (nle rfl) rfl) <|
     ils_cons rfl (iop_bsT E_world_Step ([x15] : (List T_world_Step)) 22 rfl rfl (lb rfl) Tryd.underlying34 ti28 rfl (.cons (svA q2 rfl) .nil) rfl rfl (by decide)) <|
     ils_cons rfl (iop_appT E_world_Step 23 rfl rfl (lb rfl) Tryd.underlying34 ti28 rfl rfl rfl rfl (svg rfl) hx16) <|
     ils_cons rfl (iop_assign rfl rfl (lb rfl) (sv (d := .gsl _ _ _) rfl)) <|
     ils_nil ?_)
    refine blockQ_n ?_
    refine thenQ_n ?_
    obtain ⟨x17, hx17, h⟩ := bnd_e h
    refine iwp_region (ils_cons rfl (mvI rfl rfl rfl rfl) <|
     ils_cons rfl (iop_intx rfl rfl (lb rfl) (svI rfl) (sv (d := .int _ 1) rfl) rfl hx17) <|
     ils_cons rfl (asI rfl rfl rfl rfl) <|
     ils_nil ?_)
    refine thenQ_n ⟨(n0, x16, x17), (fun i => if i = 21 then 23 else i), ⟨(.sames rfl rfl), (.cons (.tail rfl) .nil), nd_of [23] rfl (by decide), (fun i hi => by first | rfl | (show (if _ then _ else _) = _; (repeat' split) <;> omega))⟩, ?_, ?_⟩
    exact h
    exact Nat.lt_succ_self _
   ·
    replace h := bif_f h hc14
    refine iwp_exit ?_
    refine thenQ_e ?_
    refine thenQ_e ?_
    refine blockQ_e ?_
    refine thenQ_n ?_
    refine iwp_reg (ils_cons rfl (iop_move rfl rfl (lb rfl) (sv (d := .gsl _ _ _) rfl)) <|
     ils_cons rfl (iop_assign rfl rfl (lb rfl) (sv (d := .gsl _ _ _) rfl)) <|
     ils_end ?_)
    refine iwp_ret ?_
    obtain rfl := Option.some.inj h
    refine ⟨.inr rfl, (.cons (svg_of rfl rfl) .nil)⟩

theorem p_sennitref33_SameSteps (a0 : (List T_world_Step)) (a1 : (List T_world_Step)) (r : Bool) (h : sennitref33_SameSteps a0 a1 = some r) : PureAt Tryd.prog 13 [.slice false (a0.map E_world_Step.d), .slice false (a1.map E_world_Step.d)] (.bool r) := by
 refine pure_of_iwp (rs := [.bool r]) Tryd.func13 rfl Tryd.ntmps13 (nle rfl) rfl fun O hO => ?_
 show IWP _ _ _ _ ⟨[(0, .slice false (a0.map E_world_Step.d)), (1, .slice false (a1.map E_world_Step.d))], []⟩ _
 unfold sennitref33_SameSteps at h
 refine iwp_reg (ils_cons rfl (iop_assign rfl rfl (lb rfl) (sv (d := .bool false) rfl)) <|
  ils_end ?_)
 refine iwp_seq ?_
 obtain ⟨x1, hx1, h⟩ := bnd_e h
 refine iwp_reg (ils_cons rfl (mvL rfl rfl rfl rfl) <|
  ils_cons rfl (iop_lenT E_world_Step (l := a0) rfl rfl (lb rfl) Tryd.underlying34 (svL rfl)) <|
  ils_cons rfl (mvL rfl rfl rfl rfl) <|
  ils_cons rfl (iop_lenT E_world_Step (l := a1) rfl rfl (lb rfl) Tryd.underlying34 (svL rfl)) <|
  ils_cons rfl (iop_cmpx rfl rfl (lb rfl) (svI rfl) (svI rfl) rfl hx1) <|
  ils_end ?_)
 refine iwp_cond (b := _) rfl (fun hc2 => ?_) (fun hc2 => ?_)
 ·
  replace h := bif_t h hc2
  refine iwp_reg (ils_cons rfl (iop_assign rfl rfl (lb rfl) (sv (d := .bool false) rfl)) <|
   ils_end ?_)
  refine iwp_ret ?_
  refine thenQ_r ?_
  obtain rfl := Option.some.inj h
  refine ⟨.inr rfl, (.cons (sv rfl) .nil)⟩
 ·
  replace h := bif_f h hc2
  refine iwp_skip ?_
  refine thenQ_n ?_
  refine iwp_seq ?_
  refine iwp_reg (ils_cons rfl (iop_assign rfl rfl (lb rfl) (sv (d := .int _ 0) rfl)) <|
   ils_end ?_)
  refine iwp_block ?_
  refine iwp_loopP (α := Nat × Int) (fun z => ⟨[(0, .slice false (a0.map E_world_Step.d)), (1, .slice false (a1.map E_world_Step.d)), (5, .int .i64 z.2)], []⟩) (fun z => sennitref33_SameSteps_L0 a0 a1 z.1 z.2 = some r) (fun z => z.1) (fuel, 0) (fun i => i) ⟨(.sames rfl rfl), .nil, nd_of [] rfl (by decide), fun _ _ => rfl⟩ ?_ ?_
  ·exact h
  ·
   rintro ⟨n0, v10⟩ h
   cases n0 with
   | zero => exact absurd h (by unfold sennitref33_SameSteps_L0; exact nofun)
   | succ n0 =>
    unfold sennitref33_SameSteps_L0 at h
    refine iwp_seq ?_
    obtain ⟨x18, hx18, h⟩ := bnd_e h
    refine iwp_reg (ils_cons rfl (mvI rfl rfl rfl rfl) <|
     ils_cons rfl (mvL rfl rfl rfl rfl) <|
     ils_cons rfl (iop_lenT E_world_Step (l := a0) rfl rfl (lb rfl) Tryd.underlying34 (svL rfl)) <|
     ils_cons rfl (iop_cmpx rfl rfl (lb rfl) (svI rfl) (svI rfl) rfl hx18) <|
     ils_end ?_)
    refine iwp_cond (b := _) rfl (fun hc19 => ?_) (fun hc19 => ?_)
    ·
     replace h := bif_t h hc19
     refine iwp_skip ?_
     refine thenQ_n ?_
     refine iwp_seq ?_
     refine iwp_block ?_
     obtain ⟨x20, hx20, h⟩ := bno_e h
     obtain ⟨x21, hx21, h⟩ := bno_e h
     obtain ⟨x22, hx22, h⟩ := bnd_e h
     refine iwp_drw rfl [⟨[0], [], [(17, .slice false (a0.map E_world_Step.d))], []⟩,
      ⟨[5], [], [(18, .int .i64 v10)], []⟩,
      ⟨[17, 18], [], [(19, .fptr (v0 x20))], []⟩,
      ⟨[19], [], [(20, .agg (v0 x20))], []⟩,
      ⟨[1], [], [(21, .slice false (a1.map E_world_Step.d))], []⟩,
      ⟨[5], [], [(22, .int .i64 v10)], []⟩,
      ⟨[21, 22], [], [(23, .fptr (v0 x21))], []⟩,
      ⟨[23], [], [(24, .agg (v0 x21))], []⟩,
      ⟨[20, 24], [], [(25, .bool (!x22))], []⟩] rfl ?_ (by kernel_rfl) ?_
     ·refine .cons (lop rfl rfl fun S hA => (iop_move rfl rfl (lb rfl) (svaL hA rfl rfl))) ?_
      refine .cons (lop rfl rfl fun S hA => (iop_move rfl rfl (lb rfl) (svaI hA rfl rfl))) ?_
      refine .cons (lop rfl rfl fun S hA => (iop_idxT E_world_Step (cs := q2) rfl rfl (lb rfl) Tryd.underlying34 ti28 (svaL hA rfl rfl) (svaI hA rfl rfl) hx20 rfl rfl)) ?_
      refine .cons (lop rfl rfl fun S hA => (iop_load_fa (cs := q2) rfl rfl (lb rfl) Tryd.underlying28 ag28 ti28 (by decide) (sv (d := .fptr q2) (agr hA rfl rfl)) (nle rfl) rfl)) ?_
      refine .cons (lop rfl rfl fun S hA => (iop_move rfl rfl (lb rfl) (svaL hA rfl rfl))) ?_
      refine .cons (lop rfl rfl fun S hA => (iop_move rfl rfl (lb rfl) (svaI hA rfl rfl))) ?_
      refine .cons (lop rfl rfl fun S hA => (iop_idxT E_world_Step (cs := q2) rfl rfl (lb rfl) Tryd.underlying34 ti28 (svaL hA rfl rfl) (svaI hA rfl rfl) hx21 rfl rfl)) ?_
      refine .cons (lop rfl rfl fun S hA => (iop_load_fa (cs := q2) rfl rfl (lb rfl) Tryd.underlying28 ag28 ti28 (by decide) (sv (d := .fptr q2) (agr hA rfl rfl)) (nle rfl) rfl)) ?_
      refine .cons (lop rfl rfl fun S hA => (iop_nes rfl rfl (lb rfl) Tryd.underlying28 st28.1 st28.2 (svaA q2 hA rfl rfl) (svaA q2 hA rfl rfl) (congrArg some hx22))) ?_
      exact .nil
     refine iwp_cond (b := _) rfl (fun hc23 => ?_) (fun hc23 => ?_)
     ·
      replace h := bif_t h hc23
      refine iwp_reg (ils_cons rfl (iop_assign rfl rfl (lb rfl) (sv (d := .bool false) rfl)) <|
       ils_end ?_)
      refine iwp_ret ?_
      refine blockQ_r ?_
      refine thenQ_r ?_
      refine thenQ_r ?_
      refine blockQ_r ?_
      refine thenQ_r ?_
      obtain rfl := Option.some.inj h
      refine ⟨.inr rfl, (.cons (sv rfl) .nil)⟩
     ·
      replace h := bif_f h hc23
      refine iwp_skip ?_
      refine blockQ_n ?_
      refine thenQ_n ?_
      obtain ⟨x24, hx24, h⟩ := bnd_e h
      refine iwp_region (ils_cons rfl (mvI rfl rfl rfl rfl) <|
       ils_cons rfl (iop_intx rfl rfl (lb rfl) (svI rfl) (sv (d := .int _ 1) rfl) rfl hx24) <|
       ils_cons rfl (asI rfl rfl rfl rfl) <|
       ils_nil ?_)
      refine thenQ_n ⟨(n0, x24), (fun i => i), ⟨(.sames rfl rfl), .nil, nd_of [] rfl (by decide), fun _ _ => rfl⟩, ?_, ?_⟩
      exact h
      exact Nat.lt_succ_self _
    ·
     replace h := bif_f h hc19
     refine iwp_exit ?_
     refine thenQ_e ?_
     refine thenQ_e ?_
     refine blockQ_e ?_
     refine thenQ_n ?_
     refine iwp_reg (ils_cons rfl (iop_assign rfl rfl (lb rfl) (sv (d := .bool true) rfl)) <|
      ils_end ?_)
     refine iwp_ret ?_
     obtain rfl := Option.some.inj h
     refine ⟨.inr rfl, (.cons (sv rfl) .nil)⟩

theorem p_sennitlaw33_ConsoleParses (a0 : (List UInt8)) (r : Bool) (h : sennitlaw33_ConsoleParses a0 = some r) : PureAt Tryd.prog 3 [.str a0] (.bool r) := by
 refine pure_of_iwp (rs := [.bool r]) Tryd.func3 rfl Tryd.ntmps3 (nle rfl) rfl fun O hO => ?_
 show IWP _ _ _ _ ⟨[(0, .str a0)], []⟩ _
 unfold sennitlaw33_ConsoleParses at h
 refine iwp_reg (ils_cons rfl (iop_assign rfl rfl (lb rfl) (sv (d := .bool false) rfl)) <|
  ils_end ?_)
 refine iwp_seq ?_
 obtain ⟨x1, hx1, h⟩ := bnd_e h
 refine iwp_reg (ils_cons rfl (iop_move rfl rfl (lb rfl) (sv (d := .str _) rfl)) <|
  ils_cons rfl (iop_len_str rfl rfl (lb rfl) Tryd.underlying9 (sv (d := .str _) rfl) rfl) <|
  ils_cons rfl (iop_cmpx rfl rfl (lb rfl) (svI rfl) (sv (d := .int _ 700) rfl) rfl hx1) <|
  ils_end ?_)
 refine iwp_cond (b := _) rfl (fun hc2 => ?_) (fun hc2 => ?_)
 ·
  replace h := bif_t h hc2
  obtain ⟨x3, hx3, h⟩ := bno_e h
  refine iwp_reg (ils_cons rfl (iop_call (r := .bool _) rfl rfl (lb rfl) cl8 .nil rfl (p_sennitlaw33_awake  _ hx3)) <|
   ils_cons rfl (asB rfl rfl rfl rfl) <|
   ils_end ?_)
  refine iwp_ret ?_
  refine thenQ_r ?_
  obtain rfl := Option.some.inj h
  refine ⟨.inr rfl, (.cons (sv rfl) .nil)⟩
 ·
  replace h := bif_f h hc2
  refine iwp_skip ?_
  refine thenQ_n ?_
  obtain ⟨x4, hx4, h⟩ := bno_e h
  refine iwp_reg (ils_cons rfl (iop_move rfl rfl (lb rfl) (sv (d := .str _) rfl)) <|
   ils_cons rfl (iop_call (r := .tuple q9) rfl rfl (lb rfl) cl9 (.cons (sv (d := .str _) rfl) .nil) rfl (p_console_Parse _ _ hx4)) <|
   ils_cons rfl (iop_move rfl rfl (lb rfl) (sv (d := .tuple q9) rfl)) <|
   ils_cons rfl (iop_extract (d := .agg q2) rfl rfl (lb rfl) (sv (d := .tuple q9) rfl) rfl) <|
   ils_cons rfl (iop_extract (d := .int _ _) rfl rfl (lb rfl) (sv (d := .tuple q9) rfl) rfl) <|
   ils_cons rfl (iop_allocS (cs := q2) (cs' := (w11 0 0 0 0 0 0 [] false)) 0 rfl rfl (lb rfl) rfl ti24 rfl rfl (.all _)) <|
   ils_cons rfl (stA q2 q2 ti24 rfl rfl rfl rfl rfl rfl rfl rfl (nle rfl) rfl) <|
   ils_cons rfl (asI rfl rfl rfl rfl) <|
   ils_end ?_)
  obtain ⟨x5, hx5, h⟩ := bno_e h
  refine iwp_reg (ils_cons rfl (iop_move rfl rfl (lb rfl) (sv (d := .str _) rfl)) <|
   ils_cons rfl (iop_call (r := .tuple q9) rfl rfl (lb rfl) cl10 (.cons (sv (d := .str _) rfl) .nil) rfl (p_sennitref33_Parse _ _ hx5)) <|
   ils_cons rfl (iop_move rfl rfl (lb rfl) (sv (d := .tuple q9) rfl)) <|
   ils_cons rfl (iop_extract (d := .agg q2) rfl rfl (lb rfl) (sv (d := .tuple q9) rfl) rfl) <|
   ils_cons rfl (iop_extract (d := .int _ _) rfl rfl (lb rfl) (sv (d := .tuple q9) rfl) rfl) <|
   ils_cons rfl (iop_allocS (cs := q2) (cs' := (w11 0 0 0 0 0 0 [] false)) 1 rfl rfl (lb rfl) rfl ti28 rfl rfl (.all _)) <|
   ils_cons rfl (stA q2 q2 ti28 rfl rfl rfl rfl rfl rfl rfl rfl (nle rfl) rfl) <|
   ils_cons rfl (asI rfl rfl rfl rfl) <|
   ils_end ?_)
  obtain ⟨x6, hx6, h⟩ := bno_e h
  refine iwp_reg (ils_cons rfl (iop_move rfl rfl (lb rfl) (sv (d := .str _) rfl)) <|
   ils_cons rfl (iop_call (r := .tuple q4) rfl rfl (lb rfl) cl11 (.cons (sv (d := .str _) rfl) .nil) rfl (p_console_Script _ _ hx6)) <|
   ils_cons rfl (iop_move rfl rfl (lb rfl) (sv (d := .tuple q4) rfl)) <|
   ils_cons rfl (iop_extract (d := .slice _ _) rfl rfl (lb rfl) (sv (d := .tuple q4) rfl) rfl) <|
   ils_cons rfl (iop_extract (d := .int _ _) rfl rfl (lb rfl) (sv (d := .tuple q4) rfl) rfl) <|
   ils_cons rfl (iop_extract (d := .int _ _) rfl rfl (lb rfl) (sv (d := .tuple q4) rfl) rfl) <|
   ils_cons rfl (iop_assign rfl rfl (lb rfl) (svL rfl)) <|
   ils_cons rfl (asI rfl rfl rfl rfl) <|
   ils_cons rfl (asI rfl rfl rfl rfl) <|
   ils_end ?_)
  obtain ⟨x7, hx7, h⟩ := bno_e h
  refine iwp_reg (ils_cons rfl (iop_move rfl rfl (lb rfl) (sv (d := .str _) rfl)) <|
   ils_cons rfl (iop_call (r := .tuple q4) rfl rfl (lb rfl) cl12 (.cons (sv (d := .str _) rfl) .nil) rfl (p_sennitref33_Script _ _ hx7)) <|
   ils_cons rfl (iop_move rfl rfl (lb rfl) (sv (d := .tuple q4) rfl)) <|
   ils_cons rfl (iop_extract (d := .slice _ _) rfl rfl (lb rfl) (sv (d := .tuple q4) rfl) rfl) <|
   ils_cons rfl (iop_extract (d := .int _ _) rfl rfl (lb rfl) (sv (d := .tuple q4) rfl) rfl) <|
   ils_cons rfl (iop_extract (d := .int _ _) rfl rfl (lb rfl) (sv (d := .tuple q4) rfl) rfl) <|
   ils_cons rfl (iop_assign rfl rfl (lb rfl) (svL rfl)) <|
   ils_cons rfl (asI rfl rfl rfl rfl) <|
   ils_cons rfl (asI rfl rfl rfl rfl) <|
   ils_end ?_)
  obtain ⟨x8, hx8, h⟩ := bnd_e h
  obtain ⟨x9, hx9, h⟩ := bnd_e h
  obtain ⟨x10, hx10, h⟩ := bnd_e h
  obtain ⟨x11, hx11, h⟩ := bno_e h
  obtain ⟨x12, hx12, h⟩ := bno_e h
  obtain ⟨x13, hx13, h⟩ := bnd_e h
  obtain ⟨x14, hx14, h⟩ := bnd_e h
  obtain ⟨x15, hx15, h⟩ := bnd_e h
  obtain ⟨x16, hx16, h⟩ := bnd_e h
  obtain ⟨x17, hx17, h⟩ := bnd_e h
  obtain ⟨x18, hx18, h⟩ := bno_e h
  obtain ⟨x19, hx19, h⟩ := bnd_e h
  refine iwp_reg (ils_cons rfl (lra q2 la24 rfl rfl rfl rfl rfl (nle rfl) rfl) <|
   ils_cons rfl (lra q2 la28 rfl rfl rfl rfl rfl (nle rfl) rfl) <|
   ils_cons rfl (iop_eqs rfl rfl (lb rfl) Tryd.underlying28 st28.1 st28.2 (svA q2 rfl) (svA q2 rfl) (congrArg some hx8)) <|
   ils_cons rfl (mvB rfl rfl rfl rfl) <|
   ils_guard rfl rfl (.one rfl) rfl (by decide) (fun hb => (mvI rfl rfl rfl rfl)) <|
   ils_guard rfl rfl (.one rfl) rfl (by decide) (fun hb => (mvI rfl rfl rfl rfl)) <|
   ils_guard rfl rfl (.one rfl) rfl (by decide) (fun hb => (iop_cmpx rfl rfl (lb rfl) (svcI rfl hb) (svcI rfl hb) rfl hx9)) <|
   ils_cons rfl (iop_andx rfl rfl (lb rfl) (svB rfl) rfl rfl hx10) <|
   ils_cons rfl (mvB rfl rfl rfl rfl) <|
   ils_guard rfl rfl (.one rfl) rfl (by decide) (fun hb => (mvL rfl rfl rfl rfl)) <|
   ils_guard rfl rfl (.one rfl) rfl (by decide) (fun hb => (iop_call (r := .slice _ _) rfl rfl (lb rfl) cl14 (.cons (svcL rfl hb) .nil) rfl (p_sennitlaw33_back _ _ (gd_t hx11 hb)))) <|
   ils_guard rfl rfl (.one rfl) rfl (by decide) (fun hb => (mvL rfl rfl rfl rfl)) <|
   ils_guard rfl rfl (.one rfl) rfl (by decide) (fun hb => (iop_call (r := .bool _) rfl rfl (lb rfl) cl13 (.cons (svcL rfl hb) (.cons (svcL rfl hb) .nil)) rfl (p_sennitref33_SameSteps _ _ _ (gd_t hx12 hb)))) <|
   ils_cons rfl (iop_andx rfl rfl (lb rfl) (svB rfl) rfl rfl hx13) <|
   ils_cons rfl (mvB rfl rfl rfl rfl) <|
   ils_guard rfl rfl (.one rfl) rfl (by decide) (fun hb => (mvI rfl rfl rfl rfl)) <|
   ils_guard rfl rfl (.one rfl) rfl (by decide) (fun hb => (mvI rfl rfl rfl rfl)) <|
   ils_guard rfl rfl (.one rfl) rfl (by decide) (fun hb => (iop_cmpx rfl rfl (lb rfl) (svcI rfl hb) (svcI rfl hb) rfl hx14)) <|
   ils_cons rfl (iop_andx rfl rfl (lb rfl) (svB rfl) rfl rfl hx15) <|
   ils_cons rfl (mvB rfl rfl rfl rfl) <|
   ils_guard rfl rfl (.one rfl) rfl (by decide) (fun hb => (mvI rfl rfl rfl rfl)) <|
   ils_guard rfl rfl (.one rfl) rfl (by decide) (fun hb => (mvI rfl rfl rfl rfl)) <|
   ils_guard rfl rfl (.one rfl) rfl (by decide) (fun hb => (iop_cmpx rfl rfl (lb rfl) (svcI rfl hb) (svcI rfl hb) rfl hx16)) <|
   ils_cons rfl (iop_andx rfl rfl (lb rfl) (svB rfl) rfl rfl hx17) <|
   ils_cons rfl (mvB rfl rfl rfl rfl) <|
   ils_guard rfl rfl (.one rfl) rfl (by decide) (fun hb => (iop_call (r := .bool _) rfl rfl (lb rfl) cl8 .nil rfl (p_sennitlaw33_awake  _ (gd_t hx18 hb)))) <|
   ils_cons rfl (iop_andx rfl rfl (lb rfl) (svB rfl) rfl rfl hx19) <|
   ils_cons rfl (asB rfl rfl rfl rfl) <|
   ils_end ?_)
  refine iwp_ret ?_
  obtain rfl := Option.some.inj h
  refine ⟨.inr rfl, (.cons (sv rfl) .nil)⟩

end Go.Proofs.YtmidijokooidcaaDoor
