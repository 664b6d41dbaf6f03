/-
  A part of the proof: rules and plain facts. No condition.
-/
import Derived.Test.YtmidijokooidcaaDoorProg
import Derived.KernelRfl
import Derived.Test.YtmidijokooidcaaDoorIlA33bD
import Derived.Test.YtmidijokooidcaaDoorIlPn
import Derived.Test.YtmidijokooidcaaDoorIlIt33
import Derived.Test.YtmidijokooidcaaDoorIlBd
import Derived.Test.YtmidijokooidcaaDoorIlA33bC1
set_option linter.all false
set_option linter.unusedSimpArgs false
set_option linter.unusedVariables false
set_option maxRecDepth 8000
set_option maxHeartbeats 2000000
open Go Go.IL Go.Fn Go.Proofs
namespace Go.Proofs.YtmidijokooidcaaDoor
theorem ti45 : TI Tryd.prog 45 (some (.slice none 0 0)) 1 24 := by unfold TI; kernel_rfl
theorem ti47 : TI Tryd.prog 47 (some (.agg #[.int .i64 0, .int .i64 0, .string ⟨#[]⟩, .bool false, .slice none 0 0])) 5 64 := by unfold TI; kernel_rfl
theorem ti55 : TI Tryd.prog 55 (some (.agg #[.int .i64 0, .int .i64 0, .int .i64 0])) 3 24 := by unfold TI; kernel_rfl
theorem ti86 : TI Tryd.prog 86 (some (.pointer none)) 1 8 := by unfold TI; kernel_rfl
theorem ti87 : TI Tryd.prog 87 (some (.slice none 0 0)) 1 24 := by unfold TI; kernel_rfl
theorem ti89 : TI Tryd.prog 89 (some (.agg #[.pointer none, .slice none 0 0])) 2 32 := by unfold TI; kernel_rfl
theorem ag45 : aggOf Tryd.prog 45 = false := by kernel_rfl
theorem ag47 : aggOf Tryd.prog 47 = true := by kernel_rfl
theorem ag52 : aggOf Tryd.prog 52 = true := by kernel_rfl
theorem ag55 : aggOf Tryd.prog 55 = true := by kernel_rfl
theorem ag86 : aggOf Tryd.prog 86 = false := by kernel_rfl
theorem ag87 : aggOf Tryd.prog 87 = false := by kernel_rfl
theorem ex62 : ExternAt Tryd.prog 62 Extern.AbiNoEscape.same := ⟨Tryd.f62, Tryd.func62, by kernel_rfl, by kernel_rfl, by kernel_rfl, by kernel_rfl⟩
theorem cl8 : Callable Tryd.prog 8 := ⟨Tryd.f8, Tryd.func8, rfl, rfl⟩
theorem cl17 : Callable Tryd.prog 17 := ⟨Tryd.f17, Tryd.func17, rfl, rfl⟩
theorem cl18 : Callable Tryd.prog 18 := ⟨Tryd.f18, Tryd.func18, rfl, rfl⟩
theorem cl19 : Callable Tryd.prog 19 := ⟨Tryd.f19, Tryd.func19, rfl, rfl⟩
theorem cl20 : Callable Tryd.prog 20 := ⟨Tryd.f20, Tryd.func20, rfl, rfl⟩
theorem cl22 : Callable Tryd.prog 22 := ⟨Tryd.f22, Tryd.func22, rfl, rfl⟩
theorem cl37 : Callable Tryd.prog 37 := ⟨Tryd.f37, Tryd.func37, rfl, rfl⟩
theorem cl38 : Callable Tryd.prog 38 := ⟨Tryd.f38, Tryd.func38, rfl, rfl⟩
theorem cl39 : Callable Tryd.prog 39 := ⟨Tryd.f39, Tryd.func39, rfl, rfl⟩
theorem cl40 : Callable Tryd.prog 40 := ⟨Tryd.f40, Tryd.func40, rfl, rfl⟩
theorem cl42 : Callable Tryd.prog 42 := ⟨Tryd.f42, Tryd.func42, rfl, rfl⟩
theorem cl43 : Callable Tryd.prog 43 := ⟨Tryd.f43, Tryd.func43, rfl, rfl⟩
theorem cl53 : Callable Tryd.prog 53 := ⟨Tryd.f53, Tryd.func53, rfl, rfl⟩
def la28 := LA.mk Tryd.underlying28 ag28 ti28 (by decide)
def la45 := LA.mk Tryd.underlying45 ag45 ti45 (by decide)


theorem p_sennitref33_Digits (a0 : Int) (r : (List UInt8)) (h : sennitref33_Digits a0 = some r) : PureAt Tryd.prog 40 [.int .i64 a0] (.str r) := by
 refine pure_of_iwp (rs := [.str r]) Tryd.func40 rfl Tryd.ntmps40 (nle rfl) rfl fun O hO => ?_
 show IWP _ _ _ _ ⟨[(0, .int .i64 a0)], []⟩ _
 unfold sennitref33_Digits at h
 refine iwp_reg (ils_cons rfl (iop_assign rfl rfl (lb rfl) (sv (d := .str []) rfl)) <|
  ils_end ?_)
 refine iwp_seq ?_
 obtain ⟨x1, hx1, h⟩ := bnd_e h
 refine iwp_reg (ils_cons rfl (mvI rfl rfl rfl rfl) <|
  ils_cons rfl (iop_cmpx rfl rfl (lb rfl) (svI rfl) (sv (d := .int _ 0) rfl) rfl hx1) <|
  ils_end ?_)
 refine iwp_cond (b := _) rfl (fun hc2 => ?_) (fun hc2 => ?_)
 ·
  replace h := bif_t h hc2
  refine iwp_reg (ils_cons rfl (iop_assign rfl rfl (lb rfl) (sv (d := .str []) rfl)) <|
   ils_end ?_)
  refine iwp_seq ?_
  refine iwp_reg (ils_cons rfl (mvI rfl rfl rfl rfl) <|
   ils_cons rfl (asI rfl rfl rfl rfl) <|
   ils_end ?_)
  refine iwp_block ?_
  refine iwp_loopP (α := Nat × (List UInt8) × Int) (fun z => ⟨[(3, .str z.2.1), (4, .int .i64 z.2.2)], []⟩) (fun z => sennitref33_Digits_L0 z.1 z.2.1 z.2.2 = some r) (fun z => z.1) (fuel, ([] : (List UInt8)), a0) (fun i => i) ⟨(.sames rfl rfl), .nil, nd_of [] rfl (by decide), fun _ _ => rfl⟩ ?_ ?_
  ·exact h
  ·
   rintro ⟨n0, v11, v12⟩ h
   cases n0 with
   | zero => exact absurd h (by unfold sennitref33_Digits_L0; exact nofun)
   | succ n0 =>
    unfold sennitref33_Digits_L0 at h
    refine iwp_seq ?_
    obtain ⟨x21, hx21, h⟩ := bnd_e h
    refine iwp_reg (ils_cons rfl (mvI rfl rfl rfl rfl) <|
     ils_cons rfl (iop_cmpx rfl rfl (lb rfl) (svI rfl) (sv (d := .int _ 0) rfl) rfl hx21) <|
     ils_end ?_)
    refine iwp_cond (b := _) rfl (fun hc22 => ?_) (fun hc22 => ?_)
    ·
     replace h := bif_t h hc22
     refine iwp_skip ?_
     refine thenQ_n ?_
     refine iwp_seq ?_
     refine iwp_block ?_
     obtain ⟨x23, hx23, h⟩ := bno_e h
     obtain ⟨x24, hx24, h⟩ := bnd_e h
     obtain ⟨x25, hx25, h⟩ := bnd_e h
     obtain ⟨x26, hx26, h⟩ := bno_e h
     obtain ⟨x27, hx27, h⟩ := bno_e h
     refine iwp_region (ils_cons rfl (mvI rfl rfl rfl rfl) <|
      ils_cons rfl (iop_remx rfl rfl (lb rfl) (svI rfl) (sv (d := .int _ 10) rfl) hx23) <|
      ils_cons rfl (iop_intx rfl rfl (lb rfl) (sv (d := .int _ 48) rfl) (svI rfl) rfl hx24) <|
      ils_cons rfl (iop_int_conv rfl rfl (lb rfl) ⟨_, Tryd.underlying3⟩ Tryd.underlying5 (svI rfl) hx25) <|
      ils_cons rfl (iop_bsT eByte ([x26] : (List UInt8)) 0 rfl rfl (lb rfl) Tryd.underlying87 ti5 rfl (.cons (sv_int (svI rfl) (toU8_e hx26)) .nil) rfl rfl (by decide)) <|
      ils_cons rfl (iop_bytes_str (l := ([x26] : (List UInt8))) rfl rfl (lb rfl) Tryd.underlying87 Tryd.underlying5 Tryd.underlying9 (svg rfl)) <|
      ils_cons rfl (iop_move rfl rfl (lb rfl) (sv (d := .str _) rfl)) <|
      ils_cons rfl (iop_catx rfl rfl (lb rfl) (sv (d := .str _) rfl) (sv (d := .str _) rfl) hx27) <|
      ils_cons rfl (iop_assign rfl rfl (lb rfl) (sv (d := .str _) rfl)) <|
      ils_nil ?_)
     refine blockQ_n ?_
     refine thenQ_n ?_
     obtain ⟨x28, hx28, h⟩ := bno_e h
     refine iwp_region (ils_cons rfl (mvI rfl rfl rfl rfl) <|
      ils_cons rfl (iop_quox rfl rfl (lb rfl) (svI rfl) (sv (d := .int _ 10) rfl) hx28) <|
      ils_cons rfl (asI rfl rfl rfl rfl) <|
      ils_nil ?_)
     refine thenQ_n ⟨(n0, x27, x28), (fun i => i), ⟨(.sames rfl rfl), .nil, nd_of [] rfl (by decide), fun _ _ => rfl⟩, ?_, ?_⟩
     exact h
     exact Nat.lt_succ_self _
    ·
     replace h := bif_f h hc22
     refine iwp_exit ?_
     refine thenQ_e ?_
     refine thenQ_e ?_
     refine blockQ_e ?_
     refine thenQ_n ?_
     obtain ⟨x29, hx29, h⟩ := bno_e h
     refine iwp_reg (ils_cons rfl (iop_move rfl rfl (lb rfl) (sv (d := .str _) rfl)) <|
      ils_cons rfl (iop_catx rfl rfl (lb rfl) (sv (d := .str [45]) rfl) (sv (d := .str _) rfl) hx29) <|
      ils_cons rfl (iop_assign rfl rfl (lb rfl) (sv (d := .str _) rfl)) <|
      ils_end ?_)
     refine iwp_ret ?_
     refine thenQ_r ?_
     obtain rfl := Option.some.inj h
     refine ⟨.inr rfl, (.cons (sv rfl) .nil)⟩
 ·
  replace h := bif_f h hc2
  refine iwp_skip ?_
  refine thenQ_n ?_
  refine iwp_reg (ils_cons rfl (iop_assign rfl rfl (lb rfl) (sv (d := .str []) rfl)) <|
   ils_end ?_)
  refine iwp_seq ?_
  refine iwp_reg (ils_cons rfl (mvI rfl rfl rfl rfl) <|
   ils_cons rfl (asI rfl rfl rfl rfl) <|
   ils_end ?_)
  refine iwp_block ?_
  refine iwp_loopP (α := Nat × (List UInt8) × Int) (fun z => ⟨[(5, .str z.2.1), (6, .int .i64 z.2.2)], []⟩) (fun z => sennitref33_Digits_L1 z.1 z.2.1 z.2.2 = some r) (fun z => z.1) (fuel, ([] : (List UInt8)), a0) (fun i => i) ⟨(.sames rfl rfl), .nil, nd_of [] rfl (by decide), fun _ _ => rfl⟩ ?_ ?_
  ·exact h
  ·
   rintro ⟨n1, v40, v41⟩ h
   cases n1 with
   | zero => exact absurd h (by unfold sennitref33_Digits_L1; exact nofun)
   | succ n1 =>
    unfold sennitref33_Digits_L1 at h
    refine iwp_seq ?_
    obtain ⟨x52, hx52, h⟩ := bnd_e h
    obtain ⟨x53, hx53, h⟩ := bnd_e h
    obtain ⟨x54, hx54, h⟩ := bnd_e h
    refine iwp_reg (ils_cons rfl (mvI rfl rfl rfl rfl) <|
     ils_cons rfl (iop_cmpx rfl rfl (lb rfl) (svI rfl) (sv (d := .int _ 0) rfl) rfl hx52) <|
     ils_cons rfl (mvB rfl rfl rfl rfl) <|
     ils_guard rfl rfl (.one rfl) rfl (by decide) (fun hb => (iop_move rfl rfl (lb rfl) (sv (d := .str _) rfl))) <|
     ils_guard rfl rfl (.one rfl) rfl (by decide) (fun hb => (iop_strx rfl rfl (lb rfl) (svc (d := .str _) rfl hb) (sv (d := .str []) rfl) rfl hx53)) <|
     ils_cons rfl (iop_orx rfl rfl (lb rfl) (svB rfl) rfl rfl hx54) <|
     ils_end ?_)
    refine iwp_cond (b := _) rfl (fun hc55 => ?_) (fun hc55 => ?_)
    ·
     replace h := bif_t h hc55
     refine iwp_skip ?_
     refine thenQ_n ?_
     refine iwp_seq ?_
     refine iwp_block ?_
     obtain ⟨x56, hx56, h⟩ := bno_e h
     obtain ⟨x57, hx57, h⟩ := bnd_e h
     obtain ⟨x58, hx58, h⟩ := bnd_e h
     obtain ⟨x59, hx59, h⟩ := bno_e h
     obtain ⟨x60, hx60, h⟩ := bno_e h
     refine iwp_region (ils_cons rfl (mvI rfl rfl rfl rfl) <|
      ils_cons rfl (iop_remx rfl rfl (lb rfl) (svI rfl) (sv (d := .int _ 10) rfl) hx56) <|
      ils_cons rfl (iop_intx rfl rfl (lb rfl) (sv (d := .int _ 48) rfl) (svI rfl) rfl hx57) <|
      ils_cons rfl (iop_int_conv rfl rfl (lb rfl) ⟨_, Tryd.underlying3⟩ Tryd.underlying5 (svI rfl) hx58) <|
      ils_cons rfl (iop_bsT eByte ([x59] : (List UInt8)) 0 rfl rfl (lb rfl) Tryd.underlying87 ti5 rfl (.cons (sv_int (svI rfl) (toU8_e hx59)) .nil) rfl rfl (by decide)) <|
      ils_cons rfl (iop_bytes_str (l := ([x59] : (List UInt8))) rfl rfl (lb rfl) Tryd.underlying87 Tryd.underlying5 Tryd.underlying9 (svg rfl)) <|
      ils_cons rfl (iop_move rfl rfl (lb rfl) (sv (d := .str _) rfl)) <|
      ils_cons rfl (iop_catx rfl rfl (lb rfl) (sv (d := .str _) rfl) (sv (d := .str _) rfl) hx60) <|
      ils_cons rfl (iop_assign rfl rfl (lb rfl) (sv (d := .str _) rfl)) <|
      ils_nil ?_)
     refine blockQ_n ?_
     refine thenQ_n ?_
     obtain ⟨x61, hx61, h⟩ := bno_e h
     refine iwp_region (ils_cons rfl (mvI rfl rfl rfl rfl) <|
      ils_cons rfl (iop_quox rfl rfl (lb rfl) (svI rfl) (sv (d := .int _ 10) rfl) hx61) <|
      ils_cons rfl (asI rfl rfl rfl rfl) <|
      ils_nil ?_)
     refine thenQ_n ⟨(n1, x60, x61), (fun i => i), ⟨(.sames rfl rfl), .nil, nd_of [] rfl (by decide), fun _ _ => rfl⟩, ?_, ?_⟩
     exact h
     exact Nat.lt_succ_self _
    ·
     replace h := bif_f h hc55
     refine iwp_exit ?_
     refine thenQ_e ?_
     refine thenQ_e ?_
     refine blockQ_e ?_
     refine thenQ_n ?_
     refine iwp_reg (ils_cons rfl (iop_move rfl rfl (lb rfl) (sv (d := .str _) rfl)) <|
      ils_cons rfl (iop_assign rfl rfl (lb rfl) (sv (d := .str _) rfl)) <|
      ils_end ?_)
     refine iwp_ret ?_
     obtain rfl := Option.some.inj h
     refine ⟨.inr rfl, (.cons (sv rfl) .nil)⟩

theorem p_sennitref33_Print (a0 : T_world_Step) (r : ((List UInt8) × Int)) (h : sennitref33_Print a0 = some r) : PureAt Tryd.prog 17 [.agg (v0 a0)] (retD [.str r.1, .int .i64 r.2]) := by
 refine pure_of_iwp (rs := [.str r.1, .int .i64 r.2]) Tryd.func17 rfl Tryd.ntmps17 (nle rfl) rfl fun O hO => ?_
 show IWP _ _ _ _ ⟨[(0, .agg (v0 a0))], []⟩ _
 unfold sennitref33_Print at h
 refine iwp_reg (ils_cons rfl (iop_box' (cs := q3) 0 rfl rfl (lb rfl) rfl (svA q3 rfl) rfl rfl) <|
  ils_cons rfl (iop_assign rfl rfl (lb rfl) (sv (d := .str []) rfl)) <|
  ils_cons rfl (iop_assign rfl rfl (lb rfl) (sv (d := .int _ 0) rfl)) <|
  ils_end ?_)
 refine iwp_seq ?_
 refine iwp_block ?_
 obtain ⟨x1, hx1, h⟩ := bnd_e h
 refine iwp_reg (ils_cons rfl (faR 0 rfl rfl rfl Tryd.underlying28 rfl ti5 (lb rfl) rfl rfl) <|
  ils_cons rfl (iop_load_rs (d := .int _ _) rfl rfl (lb rfl) Tryd.underlying5 ag5 ti5 (by decide) (svR rfl) rfl (nle rfl) rfl) <|
  ils_cons rfl (iop_cmpx rfl rfl (lb rfl) (svI rfl) (sv (d := .int _ 16) rfl) rfl hx1) <|
  ils_cons rfl (asB rfl rfl rfl rfl) <|
  ils_end ?_)
 refine iwp_cond (b := _) rfl (fun hc2 => ?_) (fun hc2 => ?_)
 ·
  replace h := bif_t h hc2
  refine iwp_reg (ils_cons rfl (iop_assign rfl rfl (lb rfl) (sv (d := .str []) rfl)) <|
   ils_cons rfl (iop_assign rfl rfl (lb rfl) (sv (d := .int _ 12) rfl)) <|
   ils_end ?_)
  refine iwp_ret ?_
  refine blockQ_r ?_
  refine thenQ_r ?_
  obtain rfl := Option.some.inj h
  refine ⟨.inr rfl, (.cons (sv rfl) (.cons (sv rfl) .nil))⟩
 ·
  replace h := bif_f h hc2
  obtain ⟨x3, hx3, h⟩ := bno_e h
  refine iwp_reg (ils_cons rfl (lra q3 la28 rfl rfl rfl rfl rfl (nle rfl) rfl) <|
   ils_cons rfl (iop_call (r := .bool _) rfl rfl (lb rfl) cl37 (.cons (svA q3 rfl) .nil) rfl (p_sennitref33_odd _ _ hx3)) <|
   ils_cons rfl (asB rfl rfl rfl rfl) <|
   ils_end ?_)
  refine iwp_cond (b := _) rfl (fun hc4 => ?_) (fun hc4 => ?_)
  ·
   replace h := bif_t h hc4
   refine iwp_reg (ils_cons rfl (iop_assign rfl rfl (lb rfl) (sv (d := .str []) rfl)) <|
    ils_cons rfl (iop_assign rfl rfl (lb rfl) (sv (d := .int _ 2) rfl)) <|
    ils_end ?_)
   refine iwp_ret ?_
   refine blockQ_r ?_
   refine thenQ_r ?_
   obtain rfl := Option.some.inj h
   refine ⟨.inr rfl, (.cons (sv rfl) (.cons (sv rfl) .nil))⟩
  ·
   replace h := bif_f h hc4
   obtain ⟨x5, hx5, h⟩ := bnd_e h
   refine iwp_reg (ils_cons rfl (faR 6 rfl rfl rfl Tryd.underlying28 rfl ti9 (lb rfl) rfl rfl) <|
    ils_cons rfl (iop_load_rs (d := .str _) rfl rfl (lb rfl) Tryd.underlying9 ag9 ti9 (by decide) (svR rfl) rfl (nle rfl) rfl) <|
    ils_cons rfl (iop_len_str rfl rfl (lb rfl) Tryd.underlying9 (sv (d := .str _) rfl) rfl) <|
    ils_cons rfl (iop_cmpx rfl rfl (lb rfl) (svI rfl) (sv (d := .int _ 300) rfl) rfl hx5) <|
    ils_cons rfl (asB rfl rfl rfl rfl) <|
    ils_end ?_)
   refine iwp_cond (b := _) rfl (fun hc6 => ?_) (fun hc6 => ?_)
   ·
    replace h := bif_t h hc6
    refine iwp_reg (ils_cons rfl (iop_assign rfl rfl (lb rfl) (sv (d := .str []) rfl)) <|
     ils_cons rfl (iop_assign rfl rfl (lb rfl) (sv (d := .int _ 5) rfl)) <|
     ils_end ?_)
    refine iwp_ret ?_
    refine blockQ_r ?_
    refine thenQ_r ?_
    obtain rfl := Option.some.inj h
    refine ⟨.inr rfl, (.cons (sv rfl) (.cons (sv rfl) .nil))⟩
   ·
    replace h := bif_f h hc6
    refine iwp_skip ?_
    refine blockQ_n ?_
    refine thenQ_n ?_
    obtain ⟨x7, hx7, h⟩ := bno_e h
    refine iwp_reg (ils_cons rfl (faR 0 rfl rfl rfl Tryd.underlying28 rfl ti5 (lb rfl) rfl rfl) <|
     ils_cons rfl (iop_load_rs (d := .int _ _) rfl rfl (lb rfl) Tryd.underlying5 ag5 ti5 (by decide) (svR rfl) rfl (nle rfl) rfl) <|
     ils_cons rfl (iop_call (r := .str _) rfl rfl (lb rfl) cl20 (.cons (svI rfl) .nil) rfl (p_sennitref33_Name _ _ hx7)) <|
     ils_cons rfl (iop_assign rfl rfl (lb rfl) (sv (d := .str _) rfl)) <|
     ils_end ?_)
    obtain ⟨x8, hx8, h⟩ := bno_e h
    refine iwp_reg (ils_cons rfl (faR 0 rfl rfl rfl Tryd.underlying28 rfl ti5 (lb rfl) rfl rfl) <|
     ils_cons rfl (iop_load_rs (d := .int _ _) rfl rfl (lb rfl) Tryd.underlying5 ag5 ti5 (by decide) (svR rfl) rfl (nle rfl) rfl) <|
     ils_cons rfl (iop_call (r := .str _) rfl rfl (lb rfl) cl28 (.cons (svI rfl) .nil) rfl (p_sennitref33_fields _ _ hx8)) <|
     ils_cons rfl (iop_assign rfl rfl (lb rfl) (sv (d := .str _) rfl)) <|
     ils_end ?_)
    refine iwp_seq ?_
    refine iwp_reg (ils_cons rfl (iop_assign rfl rfl (lb rfl) (sv (d := .int _ 0) rfl)) <|
     ils_end ?_)
    refine iwp_block ?_
    refine iwp_loopP (α := Nat × (List UInt8) × Int) (fun z => ⟨[(1, .ref 0 0), (4, .str z.2.1), (5, .str x8), (6, .int .i64 z.2.2)], [(0, .blk 28 (v0 a0))]⟩) (fun z => sennitref33_Print_L0 a0 x8 z.1 z.2.1 z.2.2 = some r) (fun z => z.1) (fuel, x7, 0) (fun i => i) ⟨(.sames rfl rfl), (.cons (.blk rfl rfl rfl) .nil), nd_of [0] rfl (by decide), fun _ _ => rfl⟩ ?_ ?_
    ·exact h
    ·
     rintro ⟨n0, v30, v31⟩ h
     cases n0 with
     | zero => exact absurd h (by unfold sennitref33_Print_L0; exact nofun)
     | succ n0 =>
      unfold sennitref33_Print_L0 at h
      refine iwp_seq ?_
      obtain ⟨x53, hx53, h⟩ := bnd_e h
      refine iwp_reg (ils_cons rfl (mvI rfl rfl rfl rfl) <|
       ils_cons rfl (iop_move rfl rfl (lb rfl) (sv (d := .str _) rfl)) <|
       ils_cons rfl (iop_len_str rfl rfl (lb rfl) Tryd.underlying9 (sv (d := .str _) rfl) rfl) <|
       ils_cons rfl (iop_cmpx rfl rfl (lb rfl) (svI rfl) (svI rfl) rfl hx53) <|
       ils_end ?_)
      refine iwp_cond (b := _) rfl (fun hc54 => ?_) (fun hc54 => ?_)
      ·
       replace h := bif_t h hc54
       refine iwp_skip ?_
       refine thenQ_n ?_
       refine iwp_seq ?_
       refine iwp_block ?_
       obtain ⟨x55, hx55, h⟩ := bno_e h
       refine iwp_reg (ils_cons rfl (iop_move rfl rfl (lb rfl) (sv (d := .str _) rfl)) <|
        ils_cons rfl (mvI rfl rfl rfl rfl) <|
        ils_cons rfl (iop_str_at rfl rfl (lb rfl) Tryd.underlying9 (sv (d := .str _) rfl) (svI rfl) hx55) <|
        ils_end ?_)
       refine iwp_block ?_
       obtain ⟨x56, hx56, h⟩ := bnd_e h
       refine iwp_reg (ils_cons rfl (iop_cmpx rfl rfl (lb rfl) (svI rfl) (sv (d := .int _ 116) rfl) rfl hx56) <|
        ils_cons rfl (asB rfl rfl rfl rfl) <|
        ils_end ?_)
       refine iwp_cond (b := _) rfl (fun hc57 => ?_) (fun hc57 => ?_)
       ·
        replace h := bif_t h hc57
        obtain ⟨x58, hx58, h⟩ := bno_e h
        obtain ⟨x59, hx59, h⟩ := bno_e h
        obtain ⟨x60, hx60, h⟩ := bno_e h
        refine iwp_region (ils_cons rfl (iop_move rfl rfl (lb rfl) (sv (d := .str _) rfl)) <|
         ils_cons rfl (iop_catx rfl rfl (lb rfl) (sv (d := .str _) rfl) (sv (d := .str [32]) rfl) hx58) <|
         ils_cons rfl (faR 6 rfl rfl rfl Tryd.underlying28 rfl ti9 (lb rfl) rfl rfl) <|
         ils_cons rfl (iop_load_rs (d := .str _) rfl rfl (lb rfl) Tryd.underlying9 ag9 ti9 (by decide) (svR rfl) rfl (nle rfl) rfl) <|
         ils_cons rfl (iop_call (r := .str _) rfl rfl (lb rfl) cl38 (.cons (sv (d := .str _) rfl) .nil) rfl (p_sennitref33_hex _ _ hx59)) <|
         ils_cons rfl (iop_catx rfl rfl (lb rfl) (sv (d := .str _) rfl) (sv (d := .str _) rfl) hx60) <|
         ils_cons rfl (iop_assign rfl rfl (lb rfl) (sv (d := .str _) rfl)) <|
         ils_nil ?_)
        refine blockQ_n ?_
        refine blockQ_n ?_
        refine thenQ_n ?_
        obtain ⟨x61, hx61, h⟩ := bnd_e h
        refine iwp_region (ils_cons rfl (mvI rfl rfl rfl rfl) <|
         ils_cons rfl (iop_intx rfl rfl (lb rfl) (svI rfl) (sv (d := .int _ 1) rfl) rfl hx61) <|
         ils_cons rfl (asI rfl rfl rfl rfl) <|
         ils_nil ?_)
        refine thenQ_n ⟨(n0, x60, x61), (fun i => i), ⟨(.sames rfl rfl), (.cons (.blk rfl rfl rfl) .nil), nd_of [0] rfl (by decide), fun _ _ => rfl⟩, ?_, ?_⟩
        exact h
        exact Nat.lt_succ_self _
       ·
        replace h := bif_f h hc57
        obtain ⟨x62, hx62, h⟩ := bnd_e h
        refine iwp_reg (ils_cons rfl (iop_cmpx rfl rfl (lb rfl) (svI rfl) (sv (d := .int _ 102) rfl) rfl hx62) <|
         ils_cons rfl (asB rfl rfl rfl rfl) <|
         ils_end ?_)
        refine iwp_cond (b := _) rfl (fun hc63 => ?_) (fun hc63 => ?_)
        ·
         replace h := bif_t h hc63
         obtain ⟨x64, hx64, h⟩ := bno_e h
         obtain ⟨x65, hx65, h⟩ := bno_e h
         obtain ⟨x66, hx66, h⟩ := bno_e h
         refine iwp_region (ils_cons rfl (iop_move rfl rfl (lb rfl) (sv (d := .str _) rfl)) <|
          ils_cons rfl (iop_catx rfl rfl (lb rfl) (sv (d := .str _) rfl) (sv (d := .str [32]) rfl) hx64) <|
          ils_cons rfl (faR 7 rfl rfl rfl Tryd.underlying28 rfl ti4 (lb rfl) rfl rfl) <|
          ils_cons rfl (iop_load_rs (d := .bool _) rfl rfl (lb rfl) Tryd.underlying4 ag4 ti4 (by decide) (svR rfl) rfl (nle rfl) rfl) <|
          ils_cons rfl (iop_call (r := .str _) rfl rfl (lb rfl) cl39 (.cons (svB rfl) .nil) rfl (p_sennitref33_mark _ _ hx65)) <|
          ils_cons rfl (iop_catx rfl rfl (lb rfl) (sv (d := .str _) rfl) (sv (d := .str _) rfl) hx66) <|
          ils_cons rfl (iop_assign rfl rfl (lb rfl) (sv (d := .str _) rfl)) <|
          ils_nil ?_)
         refine blockQ_n ?_
         refine blockQ_n ?_
         refine thenQ_n ?_
         obtain ⟨x67, hx67, h⟩ := bnd_e h
         refine iwp_region (ils_cons rfl (mvI rfl rfl rfl rfl) <|
          ils_cons rfl (iop_intx rfl rfl (lb rfl) (svI rfl) (sv (d := .int _ 1) rfl) rfl hx67) <|
          ils_cons rfl (asI rfl rfl rfl rfl) <|
          ils_nil ?_)
         refine thenQ_n ⟨(n0, x66, x67), (fun i => i), ⟨(.sames rfl rfl), (.cons (.blk rfl rfl rfl) .nil), nd_of [0] rfl (by decide), fun _ _ => rfl⟩, ?_, ?_⟩
         exact h
         exact Nat.lt_succ_self _
        ·
         replace h := bif_f h hc63
         obtain ⟨x68, hx68, h⟩ := bno_e h
         obtain ⟨x69, hx69, h⟩ := bno_e h
         obtain ⟨x70, hx70, h⟩ := bno_e h
         obtain ⟨x71, hx71, h⟩ := bno_e h
         obtain ⟨x72, hx72, h⟩ := bno_e h
         refine iwp_draw rfl [⟨[4], [], [(34, .str v30)], []⟩,
          ⟨[34], [], [(35, .str x68)], []⟩,
          ⟨[1], [0], [(36, .agg (v0 a0))], []⟩,
          ⟨[5], [], [(37, .str x8)], []⟩,
          ⟨[6], [], [(38, .int .i64 v31)], []⟩,
          ⟨[37, 38], [], [(39, .int .u8 (x69.toNat : Int))], []⟩,
          ⟨[36, 39], [], [(40, .int .i64 x70)], []⟩,
          ⟨[40], [], [(41, .str x71)], []⟩,
          ⟨[35, 41], [], [(42, .str x72)], []⟩,
          ⟨[42], [], [(4, .str x72)], []⟩] rfl ?_ (by kernel_rfl) ?_
         ·refine .cons (lop rfl rfl fun S hA => (iop_move rfl rfl (lb rfl) (sv (d := .str _) (agr hA rfl rfl)))) ?_
          refine .cons (lop rfl rfl fun S hA => (iop_catx rfl rfl (lb rfl) (sv (d := .str _) (agr hA rfl rfl)) (sv (d := .str [32]) rfl) hx68)) ?_
          refine .cons (lop rfl rfl fun S hA => (iop_load_ra (cs := q3) rfl rfl (lb rfl) Tryd.underlying28 ag28 ti28 (by decide) (svaR hA rfl rfl) (agi hA rfl rfl) (nle rfl) rfl)) ?_
          refine .cons (lop rfl rfl fun S hA => (iop_move rfl rfl (lb rfl) (sv (d := .str _) (agr hA rfl rfl)))) ?_
          refine .cons (lop rfl rfl fun S hA => (iop_move rfl rfl (lb rfl) (svaI hA rfl rfl))) ?_
          refine .cons (lop rfl rfl fun S hA => (iop_str_at rfl rfl (lb rfl) Tryd.underlying9 (sv (d := .str _) (agr hA rfl rfl)) (svaI hA rfl rfl) hx69)) ?_
          refine .cons (lop rfl rfl fun S hA => (iop_call (r := .int _ _) rfl rfl (lb rfl) cl41 (.cons (svaA q3 hA rfl rfl) (.cons (svaI hA rfl rfl) .nil)) rfl (p_sennitref33_value _ _ _ hx70))) ?_
          refine .cons (lop rfl rfl fun S hA => (iop_call (r := .str _) rfl rfl (lb rfl) cl40 (.cons (svaI hA rfl rfl) .nil) rfl (p_sennitref33_Digits _ _ hx71))) ?_
          refine .cons (lop rfl rfl fun S hA => (iop_catx rfl rfl (lb rfl) (sv (d := .str _) (agr hA rfl rfl)) (sv (d := .str _) (agr hA rfl rfl)) hx72)) ?_
          refine .cons (lop rfl rfl fun S hA => (iop_assign rfl rfl (lb rfl) (sv (d := .str _) (agr hA rfl rfl)))) ?_
          exact .nil
         refine blockQ_n ?_
         refine blockQ_n ?_
         refine thenQ_n ?_
         obtain ⟨x73, hx73, h⟩ := bnd_e h
         refine iwp_region (ils_cons rfl (mvI rfl rfl rfl rfl) <|
          ils_cons rfl (iop_intx rfl rfl (lb rfl) (svI rfl) (sv (d := .int _ 1) rfl) rfl hx73) <|
          ils_cons rfl (asI rfl rfl rfl rfl) <|
          ils_nil ?_)
         refine thenQ_n ⟨(n0, x72, x73), (fun i => i), ⟨(.sames rfl rfl), (.cons (.blk rfl rfl rfl) .nil), nd_of [0] rfl (by decide), fun _ _ => rfl⟩, ?_, ?_⟩
         exact h
         exact Nat.lt_succ_self _
      ·
       replace h := bif_f h hc54
       refine iwp_exit ?_
       refine thenQ_e ?_
       refine thenQ_e ?_
       refine blockQ_e ?_
       refine thenQ_n ?_
       refine iwp_reg (ils_cons rfl (iop_move rfl rfl (lb rfl) (sv (d := .str _) rfl)) <|
        ils_cons rfl (iop_assign rfl rfl (lb rfl) (sv (d := .str _) rfl)) <|
        ils_cons rfl (iop_assign rfl rfl (lb rfl) (sv (d := .int _ 0) rfl)) <|
        ils_end ?_)
       refine iwp_ret ?_
       obtain rfl := Option.some.inj h
       refine ⟨.inr rfl, (.cons (sv rfl) (.cons (sv rfl) .nil))⟩

theorem p_console_Lines (a0 : (List T_world_Step)) (r : ((List UInt8) × Int)) (h : console_Lines a0 = some r) : PureAt Tryd.prog 18 [.slice false (a0.map E_world_Step.d)] (retD [.str r.1, .int .i64 r.2]) := by
 refine pure_of_iwp (rs := [.str r.1, .int .i64 r.2]) Tryd.func18 rfl Tryd.ntmps18 (nle rfl) rfl fun O hO => ?_
 show IWP _ _ _ _ ⟨[(0, .slice false (a0.map E_world_Step.d))], []⟩ _
 unfold console_Lines at h
 refine iwp_reg (ils_cons rfl (iop_assign rfl rfl (lb rfl) (sv (d := .str []) rfl)) <|
  ils_cons rfl (iop_assign rfl rfl (lb rfl) (sv (d := .int _ 0) rfl)) <|
  ils_end ?_)
 refine iwp_reg (ils_cons rfl (iop_allocS (cs := [.nilp, .nils]) (cs' := [.nilp, .nils]) 0 rfl rfl (lb rfl) rfl ti89 rfl rfl (.all _)) <|
  ils_end ?_)
 refine iwp_seq ?_
 refine iwp_reg (ils_cons rfl (mvL rfl rfl rfl rfl) <|
  ils_cons rfl (iop_lenT E_world_Step (l := a0) rfl rfl (lb rfl) Tryd.underlying31 (svL rfl)) <|
  ils_cons rfl (iop_move rfl rfl (lb rfl) (sv (d := .int _ 0) rfl)) <|
  ils_end ?_)
 refine iwp_block ?_
 refine iwp_loop_of (lg_round ?_)
 obtain ⟨x1, hx1, h⟩ := bnd_e h
 refine iwp_reg (ils_cons rfl (iop_cmpx rfl rfl (lb rfl) (svI rfl) (svI rfl) rfl hx1) <|
  ils_end ?_)
 refine iwp_seq ?_
 refine iwp_cond (b := _) rfl (fun hc2 => ?_) (fun hc2 => ?_)
 ·
  replace h := bif_t h hc2
  refine iwp_skip ?_
  refine thenQ_n ?_
  refine iwp_seq ?_
  refine iwp_block ?_
  obtain ⟨x3, hx3, h⟩ := bno_e h
  refine iwp_reg (ils_cons rfl (iop_idxT E_world_Step (cs := q3) rfl rfl (lb rfl) Tryd.underlying31 ti24 (svL rfl) (svI rfl) hx3 rfl rfl) <|
   ils_cons rfl (iop_load_fa (cs := q3) rfl rfl (lb rfl) Tryd.underlying24 ag24 ti24 (by decide) (sv (d := .fptr q3) rfl) (nle rfl) rfl) <|
   ils_cons rfl (iop_allocS (cs := q3) (cs' := (w12 0 0 0 0 0 0 [] false)) 1 rfl rfl (lb rfl) rfl ti24 rfl rfl (.all _)) <|
   ils_cons rfl (stA q3 q3 ti24 rfl rfl rfl rfl rfl rfl rfl rfl (nle rfl) rfl) <|
   ils_end ?_)
  obtain ⟨x4, hx4, h⟩ := bno_e h
  refine iwp_reg (ils_cons rfl (lra q3 la24 rfl rfl rfl rfl rfl (nle rfl) rfl) <|
   ils_cons rfl (iop_call (r := .tuple q10) rfl rfl (lb rfl) cl15 (.cons (svA q3 rfl) .nil) rfl (p_console_Print _ _ hx4)) <|
   ils_cons rfl (iop_move rfl rfl (lb rfl) (sv (d := .tuple q10) rfl)) <|
   ils_cons rfl (iop_extract (d := .str _) rfl rfl (lb rfl) (sv (d := .tuple q10) rfl) rfl) <|
   ils_cons rfl (iop_extract (d := .int _ _) rfl rfl (lb rfl) (sv (d := .tuple q10) rfl) rfl) <|
   ils_cons rfl (iop_assign rfl rfl (lb rfl) (sv (d := .str _) rfl)) <|
   ils_cons rfl (asI rfl rfl rfl rfl) <|
   ils_end ?_)
  refine iwp_seq ?_
  obtain ⟨x5, hx5, h⟩ := bnd_e h
  refine iwp_reg (ils_cons rfl (mvI rfl rfl rfl rfl) <|
   ils_cons rfl (iop_cmpx rfl rfl (lb rfl) (svI rfl) (sv (d := .int _ 0) rfl) rfl hx5) <|
   ils_end ?_)
  refine iwp_cond (b := _) rfl (fun hc6 => ?_) (fun hc6 => ?_)
  ·
   replace h := bif_t h hc6
   refine iwp_reg (ils_cons rfl (mvI rfl rfl rfl rfl) <|
    ils_cons rfl (iop_assign rfl rfl (lb rfl) (sv (d := .str []) rfl)) <|
    ils_cons rfl (asI rfl rfl rfl rfl) <|
    ils_end ?_)
   refine iwp_ret ?_
   refine thenQ_r ?_
   refine blockQ_r ?_
   refine thenQ_r ?_
   refine thenQ_r ?_
   refine blockQ_r ?_
   refine thenQ_r ?_
   obtain rfl := Option.some.inj h
   refine ⟨.inr rfl, (.cons (sv rfl) (.cons (sv rfl) .nil))⟩
  ·
   replace h := bif_f h hc6
   refine iwp_skip ?_
   refine thenQ_n ?_
   obtain ⟨x7, hx7, h⟩ := bno_e h
   refine iwp_region (ils_cons rfl (iop_move rfl rfl (lb rfl) (sv (d := .str _) rfl)) <|
    ils_cons rfl (iop_catx rfl rfl (lb rfl) (sv (d := .str _) rfl) (sv (d := .str [10]) rfl) hx7) <|
    ?_)
   refine ils_weak (S' := ⟨[(4, .ref 0 0), (9, .slice false (a0.map E_world_Step.d)), (10, .int .i64 (a0.length : Int)), (11, .int .i64 0), (24, .str x7)], [(0, .blk 89 [.nilp, .nils])]⟩) (fun i => i) ⟨(.sames rfl rfl), (.cons (.blk rfl rfl rfl) .nil), nd_of [0] rfl (by decide), fun _ _ => rfl⟩ ?_
   refine ils_inl2 1 2 rfl rfl rfl (by decide) cl42 Tryd.func42 rfl (.cons (svR rfl) (.cons (sv (d := .str _) rfl) .nil)) Tryd.ntmps42 (nle rfl) rfl hO.semi fun O1 hO1 => ?_
   show IWP _ _ _ _ ⟨[(0, .ref 0 0), (1, .str x7)], [(2, .kept 1 [.dead, .dead, .dead, .dead, .ref 0 0, .dead, .dead, .dead, .dead, .slice false (a0.map E_world_Step.d), .int .i64 (a0.length : Int), .int .i64 0, .dead, .dead, .dead, .dead, .dead, .dead, .dead, .dead, .dead, .dead, .dead, .dead, .str x7, .dead, .dead, .dead]), (0, .blk 89 [.nilp, .nils])]⟩ _
   refine iwp_reg (ils_cons rfl (iop_assign rfl rfl (lb rfl) (sv (d := .int _ 0) rfl)) <|
    ils_cons rfl (iop_assign rfl rfl (lb rfl) (sv (d := .nili) rfl)) <|
    ils_end ?_)
   refine iwp_reg (ils_cons rfl (mvR rfl rfl rfl rfl) <|
    ?_)
   refine ils_weak (S' := ⟨[(0, .ref 0 0), (1, .str x7), (6, .ref 0 0)], [(0, .blk 89 [.nilp, .nils]), (2, .kept 1 [.dead, .dead, .dead, .dead, .ref 0 0, .dead, .dead, .dead, .dead, .slice false (a0.map E_world_Step.d), .int .i64 (a0.length : Int), .int .i64 0, .dead, .dead, .dead, .dead, .dead, .dead, .dead, .dead, .dead, .dead, .dead, .dead, .str x7, .dead, .dead, .dead])]⟩) (fun i => i) ⟨(.sames rfl rfl), (.cons (.blk rfl rfl rfl) (.cons (.kept rfl rfl rfl) .nil)), nd_of [0, 2] rfl (by decide), fun _ _ => rfl⟩ ?_
   refine ils_inl2 2 3 rfl rfl rfl (by decide) cl53 Tryd.func53 rfl (.cons (svR rfl) .nil) Tryd.ntmps53 (nle rfl) rfl hO1 fun O2 hO2 => ?_
   show IWP _ _ _ _ ⟨[(0, .ref 0 0)], [(3, .kept 2 [.ref 0 0, .str x7, .dead, .dead, .dead, .dead, .ref 0 0, .dead, .dead, .dead, .dead, .dead, .dead, .dead, .dead, .dead, .dead, .dead, .dead]), (0, .blk 89 [.nilp, .nils]), (2, .kept 1 [.dead, .dead, .dead, .dead, .ref 0 0, .dead, .dead, .dead, .dead, .slice false (a0.map E_world_Step.d), .int .i64 (a0.length : Int), .int .i64 0, .dead, .dead, .dead, .dead, .dead, .dead, .dead, .dead, .dead, .dead, .dead, .dead, .str x7, .dead, .dead, .dead])]⟩ _
   refine iwp_reg (ils_cons rfl (mvR rfl rfl rfl rfl) <|
    ils_cons rfl (iop_nilCheck_ref rfl rfl (lb rfl) (svR rfl)) <|
    ils_cons rfl (faR 0 rfl rfl rfl Tryd.underlying89 rfl ti86 (lb rfl) rfl rfl) <|
    ils_cons rfl (iop_load_rs (d := .nilp) rfl rfl (lb rfl) Tryd.underlying86 ag86 ti86 (by decide) (svR rfl) rfl (nle rfl) rfl) <|
    ils_cons rfl (iop_eqnn rfl rfl (lb rfl) Tryd.underlying86 (sv (d := .nilp) rfl) (sv (d := .nilp) rfl)) <|
    ils_end ?_)
   refine iwp_cond_t rfl rfl ?_
   refine iwp_region (ils_cons rfl (mvR rfl rfl rfl rfl) <|
    ils_cons rfl (mvR rfl rfl rfl rfl) <|
    ils_cons rfl (iop_ptou rfl rfl (lb rfl) Tryd.underlying86 Tryd.underlying110 ti89 (by decide) (svR rfl) rfl (nle rfl)) <|
    ils_cons rfl (iop_noesc rfl rfl (lb rfl) ex62 (svR rfl)) <|
    ils_cons rfl (iop_utop rfl rfl (lb rfl) Tryd.underlying110 Tryd.underlying86 ti89 (by decide) (svR rfl) rfl (nle rfl)) <|
    ils_cons rfl (iop_nilCheck_ref rfl rfl (lb rfl) (svR rfl)) <|
    ils_cons rfl (faR 0 rfl rfl rfl Tryd.underlying89 rfl ti86 (lb rfl) rfl rfl) <|
    ils_cons rfl (iop_store (ds' := [.ref _ _, .nils]) rfl rfl ti86 (svR rfl) rfl (svR rfl) rfl rfl rfl (nle rfl) rfl) <|
    ils_nil ?_)
   refine ⟨.inl rfl, 3, _, [], .nil, rfl, rfl, ⟨[(0, .ref 0 0), (1, .str x7)], [(0, .blk 89 [.ref 0 0, .nils]), (2, .kept 1 [.dead, .dead, .dead, .dead, .ref 0 0, .dead, .dead, .dead, .dead, .slice false (a0.map E_world_Step.d), .int .i64 (a0.length : Int), .int .i64 0, .dead, .dead, .dead, .dead, .dead, .dead, .dead, .dead, .dead, .dead, .dead, .dead, .str x7, .dead, .dead, .dead])]⟩, (fun i => i), ⟨(.sames rfl rfl), (.cons (.blk rfl rfl rfl) (.cons (.kept rfl rfl rfl) .nil)), nd_of [0, 2] rfl (by decide), fun _ _ => rfl⟩, ?_⟩
   refine ils_end ?_
   obtain ⟨x8, hx8, h⟩ := bno_e h
   refine iwp_reg (ils_cons rfl (mvR rfl rfl rfl rfl) <|
    ils_cons rfl (mvR rfl rfl rfl rfl) <|
    ils_cons rfl (iop_nilCheck_ref rfl rfl (lb rfl) (svR rfl)) <|
    ils_cons rfl (faR 1 rfl rfl rfl Tryd.underlying89 rfl ti87 (lb rfl) rfl rfl) <|
    ils_cons rfl (iop_load_rs (d := .nils) rfl rfl (lb rfl) Tryd.underlying87 ag87 ti87 (by decide) (svR rfl) rfl (nle rfl) rfl) <|
    ils_cons rfl (iop_move rfl rfl (lb rfl) (sv (d := .str _) rfl)) <|
    ils_cons rfl (iop_appSOn 4 rfl rfl (lb rfl) Tryd.underlying87 Tryd.underlying9 ti5 rfl rfl rfl (sv (d := .str _) rfl) hx8) <|
    ils_cons rfl (iop_nilCheck_ref rfl rfl (lb rfl) (svR rfl)) <|
    ils_cons rfl (faR 1 rfl rfl rfl Tryd.underlying89 rfl ti87 (lb rfl) rfl rfl) <|
    ils_cons rfl (iop_store (ds' := [.ref _ _, .osl _ _ _]) rfl rfl ti87 (svR rfl) rfl (sv (d := .osl _ _ _) rfl) rfl rfl rfl (nle rfl) rfl) <|
    ils_end ?_)
   refine iwp_reg (ils_cons rfl (iop_move rfl rfl (lb rfl) (sv (d := .str _) rfl)) <|
    ils_cons rfl (iop_len_str rfl rfl (lb rfl) Tryd.underlying9 (sv (d := .str _) rfl) rfl) <|
    ils_cons rfl (asI rfl rfl rfl rfl) <|
    ils_cons rfl (iop_assign rfl rfl (lb rfl) (sv (d := .nili) rfl)) <|
    ils_end ?_)
   refine iwp_ret ?_
   refine ⟨.inr rfl, 2, _, [.int .i64 (x7.length : Int), .nili], (.cons (sv rfl) (.cons (sv rfl) .nil)), rfl, rfl, ⟨[(4, .ref 0 0), (9, .slice false (a0.map E_world_Step.d)), (10, .int .i64 (a0.length : Int)), (11, .int .i64 0)], [(0, .blk 89 [.ref 0 0, .osl 4 eByte.sz x8.length]), (4, .blk 5 (D.flat (x8.map eByte.d)))]⟩, (fun i => i), ⟨(.sames rfl rfl), (.cons (.blk rfl rfl rfl) (.cons (EntW.lst rfl) .nil)), nd_of [0, 4] rfl (by decide), fun _ _ => rfl⟩, ?_⟩
   refine ils_nil ?_
   refine blockQ_n ?_
   refine thenQ_n ?_
   obtain ⟨x9, hx9, h⟩ := bnd_e h
   refine iwp_region (ils_cons rfl (iop_intx rfl rfl (lb rfl) (svI rfl) (sv (d := .int _ 1) rfl) rfl hx9) <|
    ils_cons rfl (mvI rfl rfl rfl rfl) <|
    ils_nil ?_)
   refine thenQ_n ?_
   refine lg_loopP (α := Nat × Int × (List UInt8)) (fun z => ⟨[(4, .ref 0 0), (9, .slice false (a0.map E_world_Step.d)), (10, .int .i64 (a0.length : Int)), (11, .int .i64 z.2.1)], [(0, .blk 89 [.ref 0 0, .osl 4 eByte.sz z.2.2.length]), (4, .blk 5 (D.flat (z.2.2.map eByte.d)))]⟩) (fun z => console_Lines_L0 a0 z.1 z.2.1 z.2.2 = some r) (fun z => z.1) (fuel, x9, x8) (fun i => i) ⟨(.sames rfl rfl), (.cons (.blk rfl rfl rfl) (.cons (EntW.lst rfl) .nil)), nd_of [0, 4] rfl (by decide), fun _ _ => rfl⟩ ?_ ?_
   ·exact h
   ·
    rintro ⟨n0, v19, v20⟩ h
    cases n0 with
    | zero => exact absurd h (by unfold console_Lines_L0; exact nofun)
    | succ n0 =>
     unfold console_Lines_L0 at h
     obtain ⟨x30, hx30, h⟩ := bnd_e h
     refine iwp_reg (ils_cons rfl (iop_cmpx rfl rfl (lb rfl) (svI rfl) (svI rfl) rfl hx30) <|
      ils_end ?_)
     refine iwp_seq ?_
     refine iwp_cond (b := _) rfl (fun hc31 => ?_) (fun hc31 => ?_)
     ·
      replace h := bif_t h hc31
      refine iwp_skip ?_
      refine thenQ_n ?_
      refine iwp_seq ?_
      refine iwp_block ?_
      obtain ⟨x32, hx32, h⟩ := bno_e h
      refine iwp_reg (ils_cons rfl (iop_idxT E_world_Step (cs := q3) rfl rfl (lb rfl) Tryd.underlying31 ti24 (svL rfl) (svI rfl) hx32 rfl rfl) <|
       ils_cons rfl (iop_load_fa (cs := q3) rfl rfl (lb rfl) Tryd.underlying24 ag24 ti24 (by decide) (sv (d := .fptr q3) rfl) (nle rfl) rfl) <|
       ils_cons rfl (iop_allocS (cs := q3) (cs' := (w12 0 0 0 0 0 0 [] false)) 5 rfl rfl (lb rfl) rfl ti24 rfl rfl (.all _)) <|
       ils_cons rfl (stA q3 q3 ti24 rfl rfl rfl rfl rfl rfl rfl rfl (nle rfl) rfl) <|
       ils_end ?_)
      obtain ⟨x33, hx33, h⟩ := bno_e h
      refine iwp_reg (ils_cons rfl (lra q3 la24 rfl rfl rfl rfl rfl (nle rfl) rfl) <|
       ils_cons rfl (iop_call (r := .tuple q10) rfl rfl (lb rfl) cl15 (.cons (svA q3 rfl) .nil) rfl (p_console_Print _ _ hx33)) <|
       ils_cons rfl (iop_move rfl rfl (lb rfl) (sv (d := .tuple q10) rfl)) <|
       ils_cons rfl (iop_extract (d := .str _) rfl rfl (lb rfl) (sv (d := .tuple q10) rfl) rfl) <|
       ils_cons rfl (iop_extract (d := .int _ _) rfl rfl (lb rfl) (sv (d := .tuple q10) rfl) rfl) <|
       ils_cons rfl (iop_assign rfl rfl (lb rfl) (sv (d := .str _) rfl)) <|
       ils_cons rfl (asI rfl rfl rfl rfl) <|
       ils_end ?_)
      refine iwp_seq ?_
      obtain ⟨x34, hx34, h⟩ := bnd_e h
      refine iwp_reg (ils_cons rfl (mvI rfl rfl rfl rfl) <|
       ils_cons rfl (iop_cmpx rfl rfl (lb rfl) (svI rfl) (sv (d := .int _ 0) rfl) rfl hx34) <|
       ils_end ?_)
      refine iwp_cond (b := _) rfl (fun hc35 => ?_) (fun hc35 => ?_)
      ·
       replace h := bif_t h hc35
       refine iwp_reg (ils_cons rfl (mvI rfl rfl rfl rfl) <|
        ils_cons rfl (iop_assign rfl rfl (lb rfl) (sv (d := .str []) rfl)) <|
        ils_cons rfl (asI rfl rfl rfl rfl) <|
        ils_end ?_)
       refine iwp_ret ?_
       refine thenQ_r ?_
       refine blockQ_r ?_
       refine thenQ_r ?_
       refine thenQ_r ?_
       refine blockQ_r ?_
       refine thenQ_r ?_
       obtain rfl := Option.some.inj h
       refine ⟨.inr rfl, (.cons (sv rfl) (.cons (sv rfl) .nil))⟩
      ·
       replace h := bif_f h hc35
       refine iwp_skip ?_
       refine thenQ_n ?_
       obtain ⟨x36, hx36, h⟩ := bno_e h
       refine iwp_region (ils_cons rfl (iop_move rfl rfl (lb rfl) (sv (d := .str _) rfl)) <|
        ils_cons rfl (iop_catx rfl rfl (lb rfl) (sv (d := .str _) rfl) (sv (d := .str [10]) rfl) hx36) <|
        ?_)
       refine ils_weak (S' := ⟨[(4, .ref 0 0), (9, .slice false (a0.map E_world_Step.d)), (10, .int .i64 (a0.length : Int)), (11, .int .i64 v19), (24, .str x36)], [(0, .blk 89 [.ref 0 0, .osl 4 eByte.sz v20.length]), (4, .blk 5 (D.flat (v20.map eByte.d)))]⟩) (fun i => i) ⟨(.sames rfl rfl), (.cons (.blk rfl rfl rfl) (.cons (EntW.lst rfl) .nil)), nd_of [0, 4] rfl (by decide), fun _ _ => rfl⟩ ?_
       refine ils_inl2 1 6 rfl rfl rfl (by decide) cl42 Tryd.func42 rfl (.cons (svR rfl) (.cons (sv (d := .str _) rfl) .nil)) Tryd.ntmps42 (nle rfl) rfl hO.semi fun O1 hO1 => ?_
       show IWP _ _ _ _ ⟨[(0, .ref 0 0), (1, .str x36)], [(6, .kept 1 [.dead, .dead, .dead, .dead, .ref 0 0, .dead, .dead, .dead, .dead, .slice false (a0.map E_world_Step.d), .int .i64 (a0.length : Int), .int .i64 v19, .dead, .dead, .dead, .dead, .dead, .dead, .dead, .dead, .dead, .dead, .dead, .dead, .str x36, .dead, .dead, .dead]), (0, .blk 89 [.ref 0 0, .osl 4 eByte.sz v20.length]), (4, .blk 5 (D.flat (v20.map eByte.d)))]⟩ _
       refine iwp_reg (ils_cons rfl (iop_assign rfl rfl (lb rfl) (sv (d := .int _ 0) rfl)) <|
        ils_cons rfl (iop_assign rfl rfl (lb rfl) (sv (d := .nili) rfl)) <|
        ils_end ?_)
       refine iwp_reg (ils_cons rfl (mvR rfl rfl rfl rfl) <|
        ?_)
       refine ils_weak (S' := ⟨[(0, .ref 0 0), (1, .str x36), (6, .ref 0 0)], [(0, .blk 89 [.ref 0 0, .osl 4 eByte.sz v20.length]), (4, .blk 5 (D.flat (v20.map eByte.d))), (6, .kept 1 [.dead, .dead, .dead, .dead, .ref 0 0, .dead, .dead, .dead, .dead, .slice false (a0.map E_world_Step.d), .int .i64 (a0.length : Int), .int .i64 v19, .dead, .dead, .dead, .dead, .dead, .dead, .dead, .dead, .dead, .dead, .dead, .dead, .str x36, .dead, .dead, .dead])]⟩) (fun i => i) ⟨(.sames rfl rfl), (.cons (.blk rfl rfl rfl) (.cons (EntW.lst rfl) (.cons (.kept rfl rfl rfl) .nil))), nd_of [0, 4, 6] rfl (by decide), fun _ _ => rfl⟩ ?_
       refine ils_inl2 2 7 rfl rfl rfl (by decide) cl53 Tryd.func53 rfl (.cons (svR rfl) .nil) Tryd.ntmps53 (nle rfl) rfl hO1 fun O2 hO2 => ?_
       show IWP _ _ _ _ ⟨[(0, .ref 0 0)], [(7, .kept 2 [.ref 0 0, .str x36, .dead, .dead, .dead, .dead, .ref 0 0, .dead, .dead, .dead, .dead, .dead, .dead, .dead, .dead, .dead, .dead, .dead, .dead]), (0, .blk 89 [.ref 0 0, .osl 4 eByte.sz v20.length]), (4, .blk 5 (D.flat (v20.map eByte.d))), (6, .kept 1 [.dead, .dead, .dead, .dead, .ref 0 0, .dead, .dead, .dead, .dead, .slice false (a0.map E_world_Step.d), .int .i64 (a0.length : Int), .int .i64 v19, .dead, .dead, .dead, .dead, .dead, .dead, .dead, .dead, .dead, .dead, .dead, .dead, .str x36, .dead, .dead, .dead])]⟩ _
       refine iwp_reg (ils_cons rfl (mvR rfl rfl rfl rfl) <|
        ils_cons rfl (iop_nilCheck_ref rfl rfl (lb rfl) (svR rfl)) <|
        ils_cons rfl (faR 0 rfl rfl rfl Tryd.underlying89 rfl ti86 (lb rfl) rfl rfl) <|
        ils_cons rfl (iop_load_rs (d := .ref _ _) rfl rfl (lb rfl) Tryd.underlying86 ag86 ti86 (by decide) (svR rfl) rfl (nle rfl) rfl) <|
        ils_cons rfl (iop_eqn rfl rfl (lb rfl) Tryd.underlying86 (svR rfl) (sv (d := .nilp) rfl)) <|
        ils_end ?_)
       refine iwp_cond_f rfl rfl ?_
       refine iwp_reg (ils_cons rfl (mvR rfl rfl rfl rfl) <|
        ils_cons rfl (iop_nilCheck_ref rfl rfl (lb rfl) (svR rfl)) <|
        ils_cons rfl (faR 0 rfl rfl rfl Tryd.underlying89 rfl ti86 (lb rfl) rfl rfl) <|
        ils_cons rfl (iop_load_rs (d := .ref _ _) rfl rfl (lb rfl) Tryd.underlying86 ag86 ti86 (by decide) (svR rfl) rfl (nle rfl) rfl) <|
        ils_cons rfl (mvR rfl rfl rfl rfl) <|
        ils_cons rfl (iop_nes1 rfl rfl (lb rfl) Tryd.underlying86 ti89 (svR rfl) (svR rfl)) <|
        ils_end ?_)
       refine iwp_cond_f rfl rfl ?_
       refine iwp_skip ?_
       refine ⟨.inl rfl, 7, _, [], .nil, rfl, rfl, ⟨[(0, .ref 0 0), (1, .str x36)], [(0, .blk 89 [.ref 0 0, .osl 4 eByte.sz v20.length]), (4, .blk 5 (D.flat (v20.map eByte.d))), (6, .kept 1 [.dead, .dead, .dead, .dead, .ref 0 0, .dead, .dead, .dead, .dead, .slice false (a0.map E_world_Step.d), .int .i64 (a0.length : Int), .int .i64 v19, .dead, .dead, .dead, .dead, .dead, .dead, .dead, .dead, .dead, .dead, .dead, .dead, .str x36, .dead, .dead, .dead])]⟩, (fun i => i), ⟨(.sames rfl rfl), (.cons (.blk rfl rfl rfl) (.cons (EntW.lst rfl) (.cons (.kept rfl rfl rfl) .nil))), nd_of [0, 4, 6] rfl (by decide), fun _ _ => rfl⟩, ?_⟩
       refine ils_end ?_
       obtain ⟨x37, hx37, h⟩ := bno_e h
       refine iwp_reg (ils_cons rfl (mvR rfl rfl rfl rfl) <|
        ils_cons rfl (mvR rfl rfl rfl rfl) <|
        ils_cons rfl (iop_nilCheck_ref rfl rfl (lb rfl) (svR rfl)) <|
        ils_cons rfl (faR 1 rfl rfl rfl Tryd.underlying89 rfl ti87 (lb rfl) rfl rfl) <|
        ils_cons rfl (iop_load_rs (d := .osl _ _ _) rfl rfl (lb rfl) Tryd.underlying87 ag87 ti87 (by decide) (svR rfl) rfl (nle rfl) rfl) <|
        ils_cons rfl (iop_move rfl rfl (lb rfl) (sv (d := .str _) rfl)) <|
        ils_cons rfl (iop_appSO 8 rfl rfl (lb rfl) Tryd.underlying87 Tryd.underlying9 ti5 rfl rfl rfl rfl rfl (sv (d := .str _) rfl) hx37) <|
        ils_cons rfl (iop_nilCheck_ref rfl rfl (lb rfl) (svR rfl)) <|
        ils_cons rfl (faR 1 rfl rfl rfl Tryd.underlying89 rfl ti87 (lb rfl) rfl rfl) <|
        ils_cons rfl (iop_store (ds' := [.ref _ _, .osl _ _ _]) rfl rfl ti87 (svR rfl) rfl (sv (d := .osl _ _ _) rfl) rfl rfl rfl (nle rfl) rfl) <|
        ils_end ?_)
       refine iwp_reg (ils_cons rfl (iop_move rfl rfl (lb rfl) (sv (d := .str _) rfl)) <|
        ils_cons rfl (iop_len_str rfl rfl (lb rfl) Tryd.underlying9 (sv (d := .str _) rfl) rfl) <|
        ils_cons rfl (asI rfl rfl rfl rfl) <|
        ils_cons rfl (iop_assign rfl rfl (lb rfl) (sv (d := .nili) rfl)) <|
        ils_end ?_)
       refine iwp_ret ?_
       refine ⟨.inr rfl, 6, _, [.int .i64 (x36.length : Int), .nili], (.cons (sv rfl) (.cons (sv rfl) .nil)), rfl, rfl, ⟨[(4, .ref 0 0), (9, .slice false (a0.map E_world_Step.d)), (10, .int .i64 (a0.length : Int)), (11, .int .i64 v19)], [(0, .blk 89 [.ref 0 0, .osl 8 eByte.sz x37.length]), (8, .blk 5 (D.flat (x37.map eByte.d)))]⟩, (fun i => i), ⟨(.sames rfl rfl), (.cons (.blk rfl rfl rfl) (.cons (EntW.lst rfl) .nil)), nd_of [0, 8] rfl (by decide), fun _ _ => rfl⟩, ?_⟩
       refine ils_nil ?_
       refine blockQ_n ?_
       refine thenQ_n ?_
       obtain ⟨x38, hx38, h⟩ := bnd_e h
       refine iwp_region (ils_cons rfl (iop_intx rfl rfl (lb rfl) (svI rfl) (sv (d := .int _ 1) rfl) rfl hx38) <|
        ils_cons rfl (mvI rfl rfl rfl rfl) <|
        ils_nil ?_)
       refine thenQ_n ⟨(n0, x38, x37), (fun i => if i = 4 then 8 else i), ⟨(.sames rfl rfl), (.cons (.blk rfl rfl rfl) (.cons (EntW.lst rfl) .nil)), nd_of [0, 8] rfl (by decide), (fun i hi => by first | rfl | (show (if _ then _ else _) = _; (repeat' split) <;> omega))⟩, ?_, ?_⟩
       exact h
       exact Nat.lt_succ_self _
     ·
      replace h := bif_f h hc31
      refine iwp_exit ?_
      refine thenQ_e ?_
      refine thenQ_e ?_
      refine blockQ_e ?_
      refine thenQ_n ?_
      refine iwp_reg (?_)
      refine ils_weak (S' := ⟨[(4, .ref 0 0)], [(0, .blk 89 [.ref 0 0, .osl 4 eByte.sz v20.length]), (4, .blk 5 (D.flat (v20.map eByte.d)))]⟩) (fun i => i) ⟨(.sames rfl rfl), (.cons (.blk rfl rfl rfl) (.cons (EntW.lst rfl) .nil)), nd_of [0, 4] rfl (by decide), fun _ _ => rfl⟩ ?_
      refine ils_inl2 1 5 rfl rfl rfl (by decide) cl43 Tryd.func43 rfl (.cons (svR rfl) .nil) Tryd.ntmps43 (nle rfl) rfl hO.semi fun O1 hO1 => ?_
      show IWP _ _ _ _ ⟨[(0, .ref 0 0)], [(5, .kept 1 [.dead, .dead, .dead, .dead, .ref 0 0, .dead, .dead, .dead, .dead, .dead, .dead, .dead, .dead, .dead, .dead, .dead, .dead, .dead, .dead, .dead, .dead, .dead, .dead, .dead, .dead, .dead, .dead, .dead]), (0, .blk 89 [.ref 0 0, .osl 4 eByte.sz v20.length]), (4, .blk 5 (D.flat (v20.map eByte.d)))]⟩ _
      refine iwp_reg (ils_cons rfl (iop_assign rfl rfl (lb rfl) (sv (d := .str []) rfl)) <|
       ils_end ?_)
      obtain ⟨hk39, h⟩ := chk_e h
      obtain ⟨hk40, h⟩ := chk_e h
      refine iwp_drw rfl [⟨[0], [], [(3, .ref 0 0)], []⟩,
       ⟨[3], [], [(4, .ref 0 0)], []⟩,
       ⟨[4], [], [(5, .ref 0 1)], []⟩,
       ⟨[5], [0], [(6, .osl 4 eByte.sz v20.length)], []⟩,
       ⟨[6], [], [(7, .ref 4 0)], []⟩,
       ⟨[0], [], [(8, .ref 0 0)], []⟩,
       ⟨[8], [], [(9, .ref 0 0)], []⟩,
       ⟨[9], [], [(10, .ref 0 1)], []⟩,
       ⟨[10], [0], [(11, .osl 4 eByte.sz v20.length)], []⟩,
       ⟨[11], [], [(12, .int .i64 (v20.length : Int))], []⟩,
       ⟨[7, 12], [4], [(13, .str v20)], [(4, .none)]⟩,
       ⟨[13], [], [(2, .str v20)], []⟩] rfl ?_ (by kernel_rfl) ?_
      ·refine .cons (lop rfl rfl fun S hA => (iop_move rfl rfl (lb rfl) (svaR hA rfl rfl))) ?_
       refine .cons (lop rfl rfl fun S hA => (iop_nilCheck_ref rfl rfl (lb rfl) (svaR hA rfl rfl))) ?_
       refine .cons (lop rfl rfl fun S hA => (iop_fieldAddr_ref rfl rfl (lb rfl) Tryd.underlying89 rfl ti87 (by decide) (svaR hA rfl rfl) (off' := 1) rfl)) ?_
       refine .cons (lop rfl rfl fun S hA => (iop_load_rs (d := .osl _ _ _) rfl rfl (lb rfl) Tryd.underlying87 ag87 ti87 (by decide) (svaR hA rfl rfl) (agi hA rfl rfl) (nle rfl) rfl)) ?_
       refine .cons (lop rfl rfl fun S hA => (iop_sdata rfl rfl (lb rfl) (agr hA rfl rfl) hk39)) ?_
       refine .cons (lop rfl rfl fun S hA => (iop_move rfl rfl (lb rfl) (svaR hA rfl rfl))) ?_
       refine .cons (lop rfl rfl fun S hA => (iop_nilCheck_ref rfl rfl (lb rfl) (svaR hA rfl rfl))) ?_
       refine .cons (lop rfl rfl fun S hA => (iop_fieldAddr_ref rfl rfl (lb rfl) Tryd.underlying89 rfl ti87 (by decide) (svaR hA rfl rfl) (off' := 1) rfl)) ?_
       refine .cons (lop rfl rfl fun S hA => (iop_load_rs (d := .osl _ _ _) rfl rfl (lb rfl) Tryd.underlying87 ag87 ti87 (by decide) (svaR hA rfl rfl) (agi hA rfl rfl) (nle rfl) rfl)) ?_
       refine .cons (lop rfl rfl fun S hA => (iop_lenO rfl rfl (lb rfl) Tryd.underlying87 (sv (d := .osl _ _ _) (agr hA rfl rfl)))) ?_
       refine .cons (lop rfl rfl fun S hA => (iop_ustr rfl rfl (lb rfl) Tryd.underlying104 ti5 (svaR hA rfl rfl) (svaI hA rfl rfl) rfl hk39 hk40 (agi hA rfl rfl))) ?_
       refine .cons (lop rfl rfl fun S hA => (iop_assign rfl rfl (lb rfl) (sv (d := .str _) (agr hA rfl rfl)))) ?_
       exact .nil
      refine iwp_ret ?_
      refine ⟨.inr rfl, 5, _, [.str v20], (.cons (sv rfl) .nil), rfl, rfl, ⟨[(27, .str v20)], []⟩, (fun i => i), ⟨(.sames rfl rfl), .nil, nd_of [] rfl (by decide), fun _ _ => rfl⟩, ?_⟩
      refine ils_cons rfl (iop_assign rfl rfl (lb rfl) (sv (d := .str _) rfl)) <|
       ils_cons rfl (iop_assign rfl rfl (lb rfl) (sv (d := .int _ 0) rfl)) <|
       ils_end ?_
      refine iwp_ret ?_
      obtain rfl := Option.some.inj h
      refine ⟨.inr rfl, (.cons (sv rfl) (.cons (sv rfl) .nil))⟩
 ·
  replace h := bif_f h hc2
  refine iwp_exit ?_
  refine thenQ_e ?_
  refine thenQ_e ?_
  refine blockQ_e ?_
  refine thenQ_n ?_
  refine iwp_reg (?_)
  refine ils_weak (S' := ⟨[(4, .ref 0 0)], [(0, .blk 89 [.nilp, .nils])]⟩) (fun i => i) ⟨(.sames rfl rfl), (.cons (.blk rfl rfl rfl) .nil), nd_of [0] rfl (by decide), fun _ _ => rfl⟩ ?_
  refine ils_inl2 1 1 rfl rfl rfl (by decide) cl43 Tryd.func43 rfl (.cons (svR rfl) .nil) Tryd.ntmps43 (nle rfl) rfl hO.semi fun O1 hO1 => ?_
  show IWP _ _ _ _ ⟨[(0, .ref 0 0)], [(1, .kept 1 [.dead, .dead, .dead, .dead, .ref 0 0, .dead, .dead, .dead, .dead, .dead, .dead, .dead, .dead, .dead, .dead, .dead, .dead, .dead, .dead, .dead, .dead, .dead, .dead, .dead, .dead, .dead, .dead, .dead]), (0, .blk 89 [.nilp, .nils])]⟩ _
  refine iwp_reg (ils_cons rfl (iop_assign rfl rfl (lb rfl) (sv (d := .str []) rfl)) <|
   ils_end ?_)
  refine iwp_drw rfl [⟨[0], [], [(3, .ref 0 0)], []⟩,
   ⟨[3], [], [(4, .ref 0 0)], []⟩,
   ⟨[4], [], [(5, .ref 0 1)], []⟩,
   ⟨[5], [0], [(6, .nils)], []⟩,
   ⟨[6], [], [(7, .nilp)], []⟩,
   ⟨[0], [], [(8, .ref 0 0)], []⟩,
   ⟨[8], [], [(9, .ref 0 0)], []⟩,
   ⟨[9], [], [(10, .ref 0 1)], []⟩,
   ⟨[10], [0], [(11, .nils)], []⟩,
   ⟨[11], [], [(12, .int .i64 (([] : (List UInt8)).length : Int))], []⟩,
   ⟨[7, 12], [], [(13, .str [])], []⟩,
   ⟨[13], [], [(2, .str [])], []⟩] rfl ?_ (by kernel_rfl) ?_
  ·refine .cons (lop rfl rfl fun S hA => (iop_move rfl rfl (lb rfl) (svaR hA rfl rfl))) ?_
   refine .cons (lop rfl rfl fun S hA => (iop_nilCheck_ref rfl rfl (lb rfl) (svaR hA rfl rfl))) ?_
   refine .cons (lop rfl rfl fun S hA => (iop_fieldAddr_ref rfl rfl (lb rfl) Tryd.underlying89 rfl ti87 (by decide) (svaR hA rfl rfl) (off' := 1) rfl)) ?_
   refine .cons (lop rfl rfl fun S hA => (iop_load_rs (d := .nils) rfl rfl (lb rfl) Tryd.underlying87 ag87 ti87 (by decide) (svaR hA rfl rfl) (agi hA rfl rfl) (nle rfl) rfl)) ?_
   refine .cons (lop rfl rfl fun S hA => (iop_sdata_nil rfl rfl (lb rfl) (agr hA rfl rfl))) ?_
   refine .cons (lop rfl rfl fun S hA => (iop_move rfl rfl (lb rfl) (svaR hA rfl rfl))) ?_
   refine .cons (lop rfl rfl fun S hA => (iop_nilCheck_ref rfl rfl (lb rfl) (svaR hA rfl rfl))) ?_
   refine .cons (lop rfl rfl fun S hA => (iop_fieldAddr_ref rfl rfl (lb rfl) Tryd.underlying89 rfl ti87 (by decide) (svaR hA rfl rfl) (off' := 1) rfl)) ?_
   refine .cons (lop rfl rfl fun S hA => (iop_load_rs (d := .nils) rfl rfl (lb rfl) Tryd.underlying87 ag87 ti87 (by decide) (svaR hA rfl rfl) (agi hA rfl rfl) (nle rfl) rfl)) ?_
   refine .cons (lop rfl rfl fun S hA => (iop_lenT eByte (l := ([] : (List UInt8))) rfl rfl (lb rfl) Tryd.underlying87 (svn (f := false) (agr hA rfl rfl)))) ?_
   refine .cons (lop rfl rfl fun S hA => (iop_ustr0 rfl rfl (lb rfl) (sv (d := .nilp) (agr hA rfl rfl)) (sv (d := .int .i64 0) (agr hA rfl rfl)))) ?_
   refine .cons (lop rfl rfl fun S hA => (iop_assign rfl rfl (lb rfl) (sv (d := .str _) (agr hA rfl rfl)))) ?_
   exact .nil
  refine iwp_ret ?_
  refine ⟨.inr rfl, 1, _, [.str []], (.cons (sv rfl) .nil), rfl, rfl, ⟨[(27, .str [])], []⟩, (fun i => i), ⟨(.sames rfl rfl), .nil, nd_of [] rfl (by decide), fun _ _ => rfl⟩, ?_⟩
  refine ils_cons rfl (iop_assign rfl rfl (lb rfl) (sv (d := .str _) rfl)) <|
   ils_cons rfl (iop_assign rfl rfl (lb rfl) (sv (d := .int _ 0) rfl)) <|
   ils_end ?_
  refine iwp_ret ?_
  obtain rfl := Option.some.inj h
  refine ⟨.inr rfl, (.cons (sv rfl) (.cons (sv rfl) .nil))⟩

theorem p_sennitref33_Lines (a0 : (List T_world_Step)) (r : ((List UInt8) × Int)) (h : sennitref33_Lines a0 = some r) : PureAt Tryd.prog 19 [.slice false (a0.map E_world_Step.d)] (retD [.str r.1, .int .i64 r.2]) := by
 refine pure_of_iwp (rs := [.str r.1, .int .i64 r.2]) Tryd.func19 rfl Tryd.ntmps19 (nle rfl) rfl fun O hO => ?_
 show IWP _ _ _ _ ⟨[(0, .slice false (a0.map E_world_Step.d))], []⟩ _
 unfold sennitref33_Lines at h
 refine iwp_reg (ils_cons rfl (iop_assign rfl rfl (lb rfl) (sv (d := .str []) rfl)) <|
  ils_cons rfl (iop_assign rfl rfl (lb rfl) (sv (d := .int _ 0) rfl)) <|
  ils_end ?_)
 refine iwp_reg (ils_cons rfl (iop_assign rfl rfl (lb rfl) (sv (d := .str []) rfl)) <|
  ils_end ?_)
 refine iwp_seq ?_
 refine iwp_reg (ils_cons rfl (iop_assign rfl rfl (lb rfl) (sv (d := .int _ 0) rfl)) <|
  ils_end ?_)
 refine iwp_block ?_
 refine iwp_loopP (α := Nat × (List UInt8) × Int) (fun z => ⟨[(0, .slice false (a0.map E_world_Step.d)), (4, .str z.2.1), (5, .int .i64 z.2.2)], []⟩) (fun z => sennitref33_Lines_L0 a0 z.1 z.2.1 z.2.2 = some r) (fun z => z.1) (fuel, ([] : (List UInt8)), 0) (fun i => i) ⟨(.sames rfl rfl), .nil, nd_of [] rfl (by decide), fun _ _ => rfl⟩ ?_ ?_
 ·exact h
 ·
  rintro ⟨n0, v10, v11⟩ h
  cases n0 with
  | zero => exact absurd h (by unfold sennitref33_Lines_L0; exact nofun)
  | succ n0 =>
   unfold sennitref33_Lines_L0 at h
   refine iwp_seq ?_
   obtain ⟨x21, hx21, h⟩ := bnd_e h
   refine iwp_reg (ils_cons rfl (mvI rfl rfl rfl rfl) <|
    ils_cons rfl (mvL rfl rfl rfl rfl) <|
    ils_cons rfl (iop_lenT E_world_Step (l := a0) rfl rfl (lb rfl) Tryd.underlying34 (svL rfl)) <|
    ils_cons rfl (iop_cmpx rfl rfl (lb rfl) (svI rfl) (svI rfl) rfl hx21) <|
    ils_end ?_)
   refine iwp_cond (b := _) rfl (fun hc22 => ?_) (fun hc22 => ?_)
   ·
    replace h := bif_t h hc22
    refine iwp_skip ?_
    refine thenQ_n ?_
    refine iwp_seq ?_
    refine iwp_block ?_
    obtain ⟨x23, hx23, h⟩ := bno_e h
    obtain ⟨x24, hx24, h⟩ := bno_e h
    refine iwp_reg (ils_cons rfl (mvL rfl rfl rfl rfl) <|
     ils_cons rfl (mvI rfl rfl rfl rfl) <|
     ils_cons rfl (iop_idxT E_world_Step (cs := q3) rfl rfl (lb rfl) Tryd.underlying34 ti28 (svL rfl) (svI rfl) hx23 rfl rfl) <|
     ils_cons rfl (iop_load_fa (cs := q3) rfl rfl (lb rfl) Tryd.underlying28 ag28 ti28 (by decide) (sv (d := .fptr q3) rfl) (nle rfl) rfl) <|
     ils_cons rfl (iop_call (r := .tuple q10) rfl rfl (lb rfl) cl17 (.cons (svA q3 rfl) .nil) rfl (p_sennitref33_Print _ _ hx24)) <|
     ils_cons rfl (iop_move rfl rfl (lb rfl) (sv (d := .tuple q10) rfl)) <|
     ils_cons rfl (iop_extract (d := .str _) rfl rfl (lb rfl) (sv (d := .tuple q10) rfl) rfl) <|
     ils_cons rfl (iop_extract (d := .int _ _) rfl rfl (lb rfl) (sv (d := .tuple q10) rfl) rfl) <|
     ils_cons rfl (iop_assign rfl rfl (lb rfl) (sv (d := .str _) rfl)) <|
     ils_cons rfl (asI rfl rfl rfl rfl) <|
     ils_end ?_)
    refine iwp_seq ?_
    obtain ⟨x25, hx25, h⟩ := bnd_e h
    refine iwp_reg (ils_cons rfl (mvI rfl rfl rfl rfl) <|
     ils_cons rfl (iop_cmpx rfl rfl (lb rfl) (svI rfl) (sv (d := .int _ 0) rfl) rfl hx25) <|
     ils_end ?_)
    refine iwp_cond (b := _) rfl (fun hc26 => ?_) (fun hc26 => ?_)
    ·
     replace h := bif_t h hc26
     refine iwp_reg (ils_cons rfl (mvI rfl rfl rfl rfl) <|
      ils_cons rfl (iop_assign rfl rfl (lb rfl) (sv (d := .str []) rfl)) <|
      ils_cons rfl (asI rfl rfl rfl rfl) <|
      ils_end ?_)
     refine iwp_ret ?_
     refine thenQ_r ?_
     refine blockQ_r ?_
     refine thenQ_r ?_
     refine thenQ_r ?_
     refine blockQ_r ?_
     refine thenQ_r ?_
     obtain rfl := Option.some.inj h
     refine ⟨.inr rfl, (.cons (sv rfl) (.cons (sv rfl) .nil))⟩
    ·
     replace h := bif_f h hc26
     refine iwp_skip ?_
     refine thenQ_n ?_
     obtain ⟨x27, hx27, h⟩ := bno_e h
     obtain ⟨x28, hx28, h⟩ := bno_e h
     refine iwp_region (ils_cons rfl (iop_move rfl rfl (lb rfl) (sv (d := .str _) rfl)) <|
      ils_cons rfl (iop_move rfl rfl (lb rfl) (sv (d := .str _) rfl)) <|
      ils_cons rfl (iop_catx rfl rfl (lb rfl) (sv (d := .str _) rfl) (sv (d := .str _) rfl) hx27) <|
      ils_cons rfl (iop_catx rfl rfl (lb rfl) (sv (d := .str _) rfl) (sv (d := .str [10]) rfl) hx28) <|
      ils_cons rfl (iop_assign rfl rfl (lb rfl) (sv (d := .str _) rfl)) <|
      ils_nil ?_)
     refine blockQ_n ?_
     refine thenQ_n ?_
     obtain ⟨x29, hx29, h⟩ := bnd_e h
     refine iwp_region (ils_cons rfl (mvI rfl rfl rfl rfl) <|
      ils_cons rfl (iop_intx rfl rfl (lb rfl) (svI rfl) (sv (d := .int _ 1) rfl) rfl hx29) <|
      ils_cons rfl (asI rfl rfl rfl rfl) <|
      ils_nil ?_)
     refine thenQ_n ⟨(n0, x28, x29), (fun i => i), ⟨(.sames rfl rfl), .nil, nd_of [] rfl (by decide), fun _ _ => rfl⟩, ?_, ?_⟩
     exact h
     exact Nat.lt_succ_self _
   ·
    replace h := bif_f h hc22
    refine iwp_exit ?_
    refine thenQ_e ?_
    refine thenQ_e ?_
    refine blockQ_e ?_
    refine thenQ_n ?_
    refine iwp_reg (ils_cons rfl (iop_move rfl rfl (lb rfl) (sv (d := .str _) rfl)) <|
     ils_cons rfl (iop_assign rfl rfl (lb rfl) (sv (d := .str _) rfl)) <|
     ils_cons rfl (iop_assign rfl rfl (lb rfl) (sv (d := .int _ 0) rfl)) <|
     ils_end ?_)
    refine iwp_ret ?_
    obtain rfl := Option.some.inj h
    refine ⟨.inr rfl, (.cons (sv rfl) (.cons (sv rfl) .nil))⟩

theorem p_sennitref33_Tell (a0 : T_world_Answer) (r : (List UInt8)) (h : sennitref33_Tell a0 = some r) : PureAt Tryd.prog 22 [.agg (v1 a0)] (.str r) := by
 refine pure_of_iwp (rs := [.str r]) Tryd.func22 rfl Tryd.ntmps22 (nle rfl) rfl fun O hO => ?_
 show IWP _ _ _ _ ⟨[(0, .agg (v1 a0))], []⟩ _
 unfold sennitref33_Tell at h
 refine iwp_reg (ils_cons rfl (iop_box' (cs := q4) 0 rfl rfl (lb rfl) rfl (svA q4 rfl) rfl rfl) <|
  ils_cons rfl (iop_assign rfl rfl (lb rfl) (sv (d := .str []) rfl)) <|
  ils_end ?_)
 obtain ⟨x1, hx1, h⟩ := bno_e h
 obtain ⟨x2, hx2, h⟩ := bno_e h
 obtain ⟨x3, hx3, h⟩ := bno_e h
 obtain ⟨x4, hx4, h⟩ := bno_e h
 obtain ⟨x5, hx5, h⟩ := bno_e h
 obtain ⟨x6, hx6, h⟩ := bno_e h
 obtain ⟨x7, hx7, h⟩ := bno_e h
 obtain ⟨x8, hx8, h⟩ := bno_e h
 obtain ⟨x9, hx9, h⟩ := bno_e h
 obtain ⟨x10, hx10, h⟩ := bno_e h
 refine iwp_drw rfl [⟨[1], [], [(6, .ref 0 0)], []⟩,
  ⟨[6], [0], [(7, .int .i64 a0.N)], []⟩,
  ⟨[7], [], [(8, .str x1)], []⟩,
  ⟨[8], [], [(9, .str x2)], []⟩,
  ⟨[1], [], [(10, .ref 0 1)], []⟩,
  ⟨[10], [0], [(11, .int .i64 a0.E)], []⟩,
  ⟨[11], [], [(12, .str x3)], []⟩,
  ⟨[9, 12], [], [(13, .str x4)], []⟩,
  ⟨[13], [], [(14, .str x5)], []⟩,
  ⟨[1], [], [(15, .ref 0 2)], []⟩,
  ⟨[15], [0], [(16, .str a0.Text)], []⟩,
  ⟨[16], [], [(17, .str x6)], []⟩,
  ⟨[14, 17], [], [(18, .str x7)], []⟩,
  ⟨[18], [], [(19, .str x8)], []⟩,
  ⟨[1], [], [(20, .ref 0 3)], []⟩,
  ⟨[20], [0], [(21, .bool a0.End)], []⟩,
  ⟨[21], [], [(22, .str x9)], []⟩,
  ⟨[19, 22], [], [(23, .str x10)], []⟩,
  ⟨[23], [], [(3, .str x10)], []⟩] rfl ?_ (by kernel_rfl) ?_
 ·refine .cons (lop rfl rfl fun S hA => (iop_fieldAddr_ref rfl rfl (lb rfl) Tryd.underlying47 rfl ti3 (by decide) (svaR hA rfl rfl) (off' := 0) rfl)) ?_
  refine .cons (lop rfl rfl fun S hA => (iop_load_rs (d := .int _ _) rfl rfl (lb rfl) Tryd.underlying3 ag3 ti3 (by decide) (svaR hA rfl rfl) (agi hA rfl rfl) (nle rfl) rfl)) ?_
  refine .cons (lop rfl rfl fun S hA => (iop_call (r := .str _) rfl rfl (lb rfl) cl40 (.cons (svaI hA rfl rfl) .nil) rfl (p_sennitref33_Digits _ _ hx1))) ?_
  refine .cons (lop rfl rfl fun S hA => (iop_catx rfl rfl (lb rfl) (sv (d := .str _) (agr hA rfl rfl)) (sv (d := .str [32]) rfl) hx2)) ?_
  refine .cons (lop rfl rfl fun S hA => (iop_fieldAddr_ref rfl rfl (lb rfl) Tryd.underlying47 rfl ti3 (by decide) (svaR hA rfl rfl) (off' := 1) rfl)) ?_
  refine .cons (lop rfl rfl fun S hA => (iop_load_rs (d := .int _ _) rfl rfl (lb rfl) Tryd.underlying3 ag3 ti3 (by decide) (svaR hA rfl rfl) (agi hA rfl rfl) (nle rfl) rfl)) ?_
  refine .cons (lop rfl rfl fun S hA => (iop_call (r := .str _) rfl rfl (lb rfl) cl40 (.cons (svaI hA rfl rfl) .nil) rfl (p_sennitref33_Digits _ _ hx3))) ?_
  refine .cons (lop rfl rfl fun S hA => (iop_catx rfl rfl (lb rfl) (sv (d := .str _) (agr hA rfl rfl)) (sv (d := .str _) (agr hA rfl rfl)) hx4)) ?_
  refine .cons (lop rfl rfl fun S hA => (iop_catx rfl rfl (lb rfl) (sv (d := .str _) (agr hA rfl rfl)) (sv (d := .str [32]) rfl) hx5)) ?_
  refine .cons (lop rfl rfl fun S hA => (iop_fieldAddr_ref rfl rfl (lb rfl) Tryd.underlying47 rfl ti9 (by decide) (svaR hA rfl rfl) (off' := 2) rfl)) ?_
  refine .cons (lop rfl rfl fun S hA => (iop_load_rs (d := .str _) rfl rfl (lb rfl) Tryd.underlying9 ag9 ti9 (by decide) (svaR hA rfl rfl) (agi hA rfl rfl) (nle rfl) rfl)) ?_
  refine .cons (lop rfl rfl fun S hA => (iop_call (r := .str _) rfl rfl (lb rfl) cl38 (.cons (sv (d := .str _) (agr hA rfl rfl)) .nil) rfl (p_sennitref33_hex _ _ hx6))) ?_
  refine .cons (lop rfl rfl fun S hA => (iop_catx rfl rfl (lb rfl) (sv (d := .str _) (agr hA rfl rfl)) (sv (d := .str _) (agr hA rfl rfl)) hx7)) ?_
  refine .cons (lop rfl rfl fun S hA => (iop_catx rfl rfl (lb rfl) (sv (d := .str _) (agr hA rfl rfl)) (sv (d := .str [32]) rfl) hx8)) ?_
  refine .cons (lop rfl rfl fun S hA => (iop_fieldAddr_ref rfl rfl (lb rfl) Tryd.underlying47 rfl ti4 (by decide) (svaR hA rfl rfl) (off' := 3) rfl)) ?_
  refine .cons (lop rfl rfl fun S hA => (iop_load_rs (d := .bool _) rfl rfl (lb rfl) Tryd.underlying4 ag4 ti4 (by decide) (svaR hA rfl rfl) (agi hA rfl rfl) (nle rfl) rfl)) ?_
  refine .cons (lop rfl rfl fun S hA => (iop_call (r := .str _) rfl rfl (lb rfl) cl39 (.cons (svaB hA rfl rfl) .nil) rfl (p_sennitref33_mark _ _ hx9))) ?_
  refine .cons (lop rfl rfl fun S hA => (iop_catx rfl rfl (lb rfl) (sv (d := .str _) (agr hA rfl rfl)) (sv (d := .str _) (agr hA rfl rfl)) hx10)) ?_
  refine .cons (lop rfl rfl fun S hA => (iop_assign rfl rfl (lb rfl) (sv (d := .str _) (agr hA rfl rfl)))) ?_
  exact .nil
 refine iwp_seq ?_
 refine iwp_reg (ils_cons rfl (iop_assign rfl rfl (lb rfl) (sv (d := .int _ 0) rfl)) <|
  ils_end ?_)
 refine iwp_block ?_
 refine iwp_loopP (α := Nat × (List UInt8) × Int) (fun z => ⟨[(1, .ref 0 0), (3, .str z.2.1), (4, .int .i64 z.2.2)], [(0, .blk 47 (v1 a0))]⟩) (fun z => sennitref33_Tell_L0 a0 z.1 z.2.1 z.2.2 = some r) (fun z => z.1) (fuel, x10, 0) (fun i => i) ⟨(.sames rfl rfl), (.cons (.blk rfl rfl rfl) .nil), nd_of [0] rfl (by decide), fun _ _ => rfl⟩ ?_ ?_
 ·exact h
 ·
  rintro ⟨n0, v24, v25⟩ h
  cases n0 with
  | zero => exact absurd h (by unfold sennitref33_Tell_L0; exact nofun)
  | succ n0 =>
   unfold sennitref33_Tell_L0 at h
   refine iwp_seq ?_
   obtain ⟨x39, hx39, h⟩ := bnd_e h
   refine iwp_reg (ils_cons rfl (mvI rfl rfl rfl rfl) <|
    ils_cons rfl (faR 4 rfl rfl rfl Tryd.underlying47 rfl ti45 (lb rfl) rfl rfl) <|
    ils_cons rfl (lrL la45 rfl rfl rfl rfl rfl (nle rfl) rfl) <|
    ils_cons rfl (iop_lenT E_session_Event (l := a0.Events) rfl rfl (lb rfl) Tryd.underlying45 (svL rfl)) <|
    ils_cons rfl (iop_cmpx rfl rfl (lb rfl) (svI rfl) (svI rfl) rfl hx39) <|
    ils_end ?_)
   refine iwp_cond (b := _) rfl (fun hc40 => ?_) (fun hc40 => ?_)
   ·
    replace h := bif_t h hc40
    refine iwp_skip ?_
    refine thenQ_n ?_
    refine iwp_seq ?_
    refine iwp_block ?_
    obtain ⟨x41, hx41, h⟩ := bno_e h
    refine iwp_reg (ils_cons rfl (faR 4 rfl rfl rfl Tryd.underlying47 rfl ti45 (lb rfl) rfl rfl) <|
     ils_cons rfl (lrL la45 rfl rfl rfl rfl rfl (nle rfl) rfl) <|
     ils_cons rfl (mvI rfl rfl rfl rfl) <|
     ils_cons rfl (iop_idxT E_session_Event (cs := q7) rfl rfl (lb rfl) Tryd.underlying45 ti55 (svL rfl) (svI rfl) hx41 rfl rfl) <|
     ils_cons rfl (iop_load_fa (cs := q7) rfl rfl (lb rfl) Tryd.underlying55 ag55 ti55 (by decide) (sv (d := .fptr q7) rfl) (nle rfl) rfl) <|
     ils_cons rfl (iop_allocS (cs := q7) (cs' := [.int .i64 0, .int .i64 0, .int .i64 0]) 1 rfl rfl (lb rfl) rfl ti55 rfl rfl (.all _)) <|
     ils_cons rfl (stA q7 q7 ti55 rfl rfl rfl rfl rfl rfl rfl rfl (nle rfl) rfl) <|
     ils_end ?_)
    obtain ⟨x42, hx42, h⟩ := bno_e h
    obtain ⟨x43, hx43, h⟩ := bno_e h
    obtain ⟨x44, hx44, h⟩ := bno_e h
    obtain ⟨x45, hx45, h⟩ := bno_e h
    obtain ⟨x46, hx46, h⟩ := bno_e h
    obtain ⟨x47, hx47, h⟩ := bno_e h
    obtain ⟨x48, hx48, h⟩ := bno_e h
    obtain ⟨x49, hx49, h⟩ := bno_e h
    obtain ⟨x50, hx50, h⟩ := bno_e h
    refine iwp_draw rfl [⟨[3], [], [(36, .str v24)], []⟩,
     ⟨[36], [], [(37, .str x42)], []⟩,
     ⟨[5], [], [(38, .ref 1 0)], []⟩,
     ⟨[38], [1], [(39, .int .i64 x41.Kind)], []⟩,
     ⟨[39], [], [(40, .str x43)], []⟩,
     ⟨[37, 40], [], [(41, .str x44)], []⟩,
     ⟨[41], [], [(42, .str x45)], []⟩,
     ⟨[5], [], [(43, .ref 1 1)], []⟩,
     ⟨[43], [1], [(44, .int .i64 x41.ID)], []⟩,
     ⟨[44], [], [(45, .str x46)], []⟩,
     ⟨[42, 45], [], [(46, .str x47)], []⟩,
     ⟨[46], [], [(47, .str x48)], []⟩,
     ⟨[5], [], [(48, .ref 1 2)], []⟩,
     ⟨[48], [1], [(49, .int .i64 x41.Code)], []⟩,
     ⟨[49], [], [(50, .str x49)], []⟩,
     ⟨[47, 50], [], [(51, .str x50)], []⟩,
     ⟨[51], [], [(3, .str x50)], []⟩] rfl ?_ (by kernel_rfl) ?_
    ·refine .cons (lop rfl rfl fun S hA => (iop_move rfl rfl (lb rfl) (sv (d := .str _) (agr hA rfl rfl)))) ?_
     refine .cons (lop rfl rfl fun S hA => (iop_catx rfl rfl (lb rfl) (sv (d := .str _) (agr hA rfl rfl)) (sv (d := .str [32]) rfl) hx42)) ?_
     refine .cons (lop rfl rfl fun S hA => (iop_fieldAddr_ref rfl rfl (lb rfl) Tryd.underlying55 rfl ti3 (by decide) (svaR hA rfl rfl) (off' := 0) rfl)) ?_
     refine .cons (lop rfl rfl fun S hA => (iop_load_rs (d := .int _ _) rfl rfl (lb rfl) Tryd.underlying3 ag3 ti3 (by decide) (svaR hA rfl rfl) (agi hA rfl rfl) (nle rfl) rfl)) ?_
     refine .cons (lop rfl rfl fun S hA => (iop_call (r := .str _) rfl rfl (lb rfl) cl40 (.cons (svaI hA rfl rfl) .nil) rfl (p_sennitref33_Digits _ _ hx43))) ?_
     refine .cons (lop rfl rfl fun S hA => (iop_catx rfl rfl (lb rfl) (sv (d := .str _) (agr hA rfl rfl)) (sv (d := .str _) (agr hA rfl rfl)) hx44)) ?_
     refine .cons (lop rfl rfl fun S hA => (iop_catx rfl rfl (lb rfl) (sv (d := .str _) (agr hA rfl rfl)) (sv (d := .str [58]) rfl) hx45)) ?_
     refine .cons (lop rfl rfl fun S hA => (iop_fieldAddr_ref rfl rfl (lb rfl) Tryd.underlying55 rfl ti3 (by decide) (svaR hA rfl rfl) (off' := 1) rfl)) ?_
     refine .cons (lop rfl rfl fun S hA => (iop_load_rs (d := .int _ _) rfl rfl (lb rfl) Tryd.underlying3 ag3 ti3 (by decide) (svaR hA rfl rfl) (agi hA rfl rfl) (nle rfl) rfl)) ?_
     refine .cons (lop rfl rfl fun S hA => (iop_call (r := .str _) rfl rfl (lb rfl) cl40 (.cons (svaI hA rfl rfl) .nil) rfl (p_sennitref33_Digits _ _ hx46))) ?_
     refine .cons (lop rfl rfl fun S hA => (iop_catx rfl rfl (lb rfl) (sv (d := .str _) (agr hA rfl rfl)) (sv (d := .str _) (agr hA rfl rfl)) hx47)) ?_
     refine .cons (lop rfl rfl fun S hA => (iop_catx rfl rfl (lb rfl) (sv (d := .str _) (agr hA rfl rfl)) (sv (d := .str [58]) rfl) hx48)) ?_
     refine .cons (lop rfl rfl fun S hA => (iop_fieldAddr_ref rfl rfl (lb rfl) Tryd.underlying55 rfl ti3 (by decide) (svaR hA rfl rfl) (off' := 2) rfl)) ?_
     refine .cons (lop rfl rfl fun S hA => (iop_load_rs (d := .int _ _) rfl rfl (lb rfl) Tryd.underlying3 ag3 ti3 (by decide) (svaR hA rfl rfl) (agi hA rfl rfl) (nle rfl) rfl)) ?_
     refine .cons (lop rfl rfl fun S hA => (iop_call (r := .str _) rfl rfl (lb rfl) cl40 (.cons (svaI hA rfl rfl) .nil) rfl (p_sennitref33_Digits _ _ hx49))) ?_
     refine .cons (lop rfl rfl fun S hA => (iop_catx rfl rfl (lb rfl) (sv (d := .str _) (agr hA rfl rfl)) (sv (d := .str _) (agr hA rfl rfl)) hx50)) ?_
     refine .cons (lop rfl rfl fun S hA => (iop_assign rfl rfl (lb rfl) (sv (d := .str _) (agr hA rfl rfl)))) ?_
     exact .nil
    refine blockQ_n ?_
    refine thenQ_n ?_
    obtain ⟨x51, hx51, h⟩ := bnd_e h
    refine iwp_region (ils_cons rfl (mvI rfl rfl rfl rfl) <|
     ils_cons rfl (iop_intx rfl rfl (lb rfl) (svI rfl) (sv (d := .int _ 1) rfl) rfl hx51) <|
     ils_cons rfl (asI rfl rfl rfl rfl) <|
     ils_nil ?_)
    refine thenQ_n ⟨(n0, x50, x51), (fun i => i), ⟨(.sames rfl rfl), (.cons (.blk rfl rfl rfl) .nil), nd_of [0] rfl (by decide), fun _ _ => rfl⟩, ?_, ?_⟩
    exact h
    exact Nat.lt_succ_self _
   ·
    replace h := bif_f h hc40
    refine iwp_exit ?_
    refine thenQ_e ?_
    refine thenQ_e ?_
    refine blockQ_e ?_
    refine thenQ_n ?_
    refine iwp_reg (ils_cons rfl (iop_move rfl rfl (lb rfl) (sv (d := .str _) rfl)) <|
     ils_cons rfl (iop_assign rfl rfl (lb rfl) (sv (d := .str _) rfl)) <|
     ils_end ?_)
    refine iwp_ret ?_
    obtain rfl := Option.some.inj h
    refine ⟨.inr rfl, (.cons (sv rfl) .nil)⟩

theorem p_sennitlaw33_ConsolePrints (a0 : (List T_world_Step)) (a1 : T_world_Answer) (r : Bool) (h : sennitlaw33_ConsolePrints a0 a1 = some r) : PureAt Tryd.prog 6 [.slice false (a0.map E_world_Step.d), .agg (v1 a1)] (.bool r) := by
 refine pure_of_iwp (rs := [.bool r]) Tryd.func6 rfl Tryd.ntmps6 (nle rfl) rfl fun O hO => ?_
 show IWP _ _ _ _ ⟨[(0, .slice false (a0.map E_world_Step.d)), (1, .agg (v1 a1))], []⟩ _
 unfold sennitlaw33_ConsolePrints at h
 refine iwp_reg (ils_cons rfl (iop_box' (cs := q4) 0 rfl rfl (lb rfl) rfl (svA q4 rfl) rfl rfl) <|
  ils_cons rfl (iop_assign rfl rfl (lb rfl) (sv (d := .bool false) rfl)) <|
  ils_end ?_)
 refine iwp_seq ?_
 obtain ⟨x1, hx1, h⟩ := bnd_e h
 obtain ⟨x2, hx2, h⟩ := bnd_e h
 obtain ⟨x3, hx3, h⟩ := bnd_e h
 obtain ⟨x4, hx4, h⟩ := bnd_e h
 obtain ⟨x5, hx5, h⟩ := bnd_e h
 refine iwp_reg (ils_cons rfl (mvL rfl rfl rfl rfl) <|
  ils_cons rfl (iop_lenT E_world_Step (l := a0) rfl rfl (lb rfl) Tryd.underlying34 (svL rfl)) <|
  ils_cons rfl (iop_cmpx rfl rfl (lb rfl) (svI rfl) (sv (d := .int _ 20) rfl) rfl hx1) <|
  ils_cons rfl (mvB rfl rfl rfl rfl) <|
  ils_guard rfl rfl (.one rfl) rfl (by decide) (fun hb => (faR 4 rfl rfl rfl Tryd.underlying47 rfl ti45 (lb rfl) rfl rfl)) <|
  ils_guard rfl rfl (.one rfl) rfl (by decide) (fun hb => (iop_load_rs (d := .slice _ _) rfl rfl (lb rfl) Tryd.underlying45 ag45 ti45 (by decide) (svcR rfl hb) rfl (nle rfl) rfl)) <|
  ils_guard rfl rfl (.one rfl) rfl (by decide) (fun hb => (iop_lenT E_session_Event (l := a1.Events) rfl rfl (lb rfl) Tryd.underlying45 (svcL rfl hb))) <|
  ils_guard rfl rfl (.one rfl) rfl (by decide) (fun hb => (iop_cmpx rfl rfl (lb rfl) (svcI rfl hb) (sv (d := .int _ 20) rfl) rfl hx2)) <|
  ils_cons rfl (iop_orx rfl rfl (lb rfl) (svB rfl) rfl rfl hx3) <|
  ils_cons rfl (mvB rfl rfl rfl rfl) <|
  ils_guard rfl rfl (.one rfl) rfl (by decide) (fun hb => (faR 2 rfl rfl rfl Tryd.underlying47 rfl ti9 (lb rfl) rfl rfl)) <|
  ils_guard rfl rfl (.one rfl) rfl (by decide) (fun hb => (iop_load_rs (d := .str _) rfl rfl (lb rfl) Tryd.underlying9 ag9 ti9 (by decide) (svcR rfl hb) rfl (nle rfl) rfl)) <|
  ils_guard rfl rfl (.one rfl) rfl (by decide) (fun hb => (iop_len_str rfl rfl (lb rfl) Tryd.underlying9 (svc (d := .str _) rfl hb) rfl)) <|
  ils_guard rfl rfl (.one rfl) rfl (by decide) (fun hb => (iop_cmpx rfl rfl (lb rfl) (svcI rfl hb) (sv (d := .int _ 400) rfl) rfl hx4)) <|
  ils_cons rfl (iop_orx rfl rfl (lb rfl) (svB rfl) rfl rfl hx5) <|
  ils_end ?_)
 refine iwp_cond (b := _) rfl (fun hc6 => ?_) (fun hc6 => ?_)
 ·
  replace h := bif_t h hc6
  obtain ⟨x7, hx7, h⟩ := bno_e h
  refine iwp_reg (ils_cons rfl (iop_call (r := .bool _) rfl rfl (lb rfl) cl8 .nil rfl (p_sennitlaw33_awake  _ hx7)) <|
   ils_cons rfl (asB rfl rfl rfl rfl) <|
   ils_end ?_)
  refine iwp_ret ?_
  refine thenQ_r ?_
  obtain rfl := Option.some.inj h
  refine ⟨.inr rfl, (.cons (sv rfl) .nil)⟩
 ·
  replace h := bif_f h hc6
  refine iwp_skip ?_
  refine thenQ_n ?_
  refine iwp_reg (ils_cons rfl (iop_assign rfl rfl (lb rfl) (sv (d := .nils) rfl)) <|
   ils_end ?_)
  refine iwp_seq ?_
  refine iwp_reg (ils_cons rfl (iop_assign rfl rfl (lb rfl) (sv (d := .int _ 0) rfl)) <|
   ils_end ?_)
  refine iwp_block ?_
  refine iwp_loopP (α := Nat × (List T_world_Step) × Int) (fun z => ⟨[(0, .slice false (a0.map E_world_Step.d)), (3, .ref 0 0), (5, .gsl 22 E_world_Step.sz (z.2.1.map E_world_Step.d)), (6, .int .i64 z.2.2)], [(0, .blk 47 (v1 a1)), (22, .tail 24 E_world_Step.sz z.2.1.length)]⟩) (fun z => sennitlaw33_ConsolePrints_L0 a0 a1 z.1 z.2.1 z.2.2 = some r) (fun z => z.1) (fuel, ([] : (List T_world_Step)), 0) (fun i => if i = 22 then 73 else i) ⟨(.s rfl rfl (.s rfl rfl (.cons (.nils rfl) (.sames rfl rfl)))), (.cons (.blk rfl rfl rfl) (.cons (.nils rfl) .nil)), nd_of [0, 73] rfl (by decide), (fun i hi => by first | rfl | (show (if _ then _ else _) = _; (repeat' split) <;> omega))⟩ ?_ ?_
  ·exact h
  ·
   rintro ⟨n0, v25, v26⟩ h
   cases n0 with
   | zero => exact absurd h (by unfold sennitlaw33_ConsolePrints_L0; exact nofun)
   | succ n0 =>
    unfold sennitlaw33_ConsolePrints_L0 at h
    refine iwp_seq ?_
    obtain ⟨x44, hx44, h⟩ := bnd_e h
    refine iwp_reg (ils_cons rfl (mvI rfl rfl rfl rfl) <|
     ils_cons rfl (mvL rfl rfl rfl rfl) <|
     ils_cons rfl (iop_lenT E_world_Step (l := a0) rfl rfl (lb rfl) Tryd.underlying34 (svL rfl)) <|
     ils_cons rfl (iop_cmpx rfl rfl (lb rfl) (svI rfl) (svI rfl) rfl hx44) <|
     ils_end ?_)
    refine iwp_cond (b := _) rfl (fun hc45 => ?_) (fun hc45 => ?_)
    ·
     replace h := bif_t h hc45
     refine iwp_skip ?_
     refine thenQ_n ?_
     refine iwp_seq ?_
     refine iwp_block ?_
     refine iwp_seq ?_
     obtain ⟨x46, hx46, h⟩ := bno_e h
     obtain ⟨x47, hx47, h⟩ := bnd_e h
     refine iwp_reg (ils_cons rfl (mvL rfl rfl rfl rfl) <|
      ils_cons rfl (mvI rfl rfl rfl rfl) <|
      ils_cons rfl (iop_idxT E_world_Step (cs := q3) rfl rfl (lb rfl) Tryd.underlying34 ti28 (svL rfl) (svI rfl) hx46 rfl rfl) <|
      ils_cons rfl (iop_fieldAddr_fptr (cs' := [.str _]) rfl rfl (lb rfl) Tryd.underlying28 rfl ti9 (by decide) (sv (d := .fptr q3) rfl) rfl) <|
      ils_cons rfl (iop_load_fs rfl rfl (lb rfl) Tryd.underlying9 ag9 ti9 (by decide) (sv (d := .fptr [.str _]) rfl) (nle rfl)) <|
      ils_cons rfl (iop_len_str rfl rfl (lb rfl) Tryd.underlying9 (sv (d := .str _) rfl) rfl) <|
      ils_cons rfl (iop_cmpx rfl rfl (lb rfl) (svI rfl) (sv (d := .int _ 400) rfl) rfl hx47) <|
      ils_end ?_)
     refine iwp_cond (b := _) rfl (fun hc48 => ?_) (fun hc48 => ?_)
     ·
      replace h := bif_t h hc48
      obtain ⟨x49, hx49, h⟩ := bno_e h
      refine iwp_reg (ils_cons rfl (iop_call (r := .bool _) rfl rfl (lb rfl) cl8 .nil rfl (p_sennitlaw33_awake  _ hx49)) <|
       ils_cons rfl (asB rfl rfl rfl rfl) <|
       ils_end ?_)
      refine iwp_ret ?_
      refine thenQ_r ?_
      refine blockQ_r ?_
      refine thenQ_r ?_
      refine thenQ_r ?_
      refine blockQ_r ?_
      refine thenQ_r ?_
      obtain rfl := Option.some.inj h
      refine ⟨.inr rfl, (.cons (sv rfl) .nil)⟩
     ·
      replace h := bif_f h hc48
      refine iwp_skip ?_
      refine thenQ_n ?_
      obtain ⟨x50, hx50, h⟩ := bno_e h
      obtain ⟨x51, hx51, h⟩ := bno_e h
      refine iwp_reg (ils_cons rfl (iop_move rfl rfl (lb rfl) (sv (d := .gsl _ _ _) rfl)) <|
       ils_cons rfl (mvL rfl rfl rfl rfl) <|
       ils_cons rfl (mvI rfl rfl rfl rfl) <|
       ils_cons rfl (iop_idxT E_world_Step (cs := q3) rfl rfl (lb rfl) Tryd.underlying34 ti28 (svL rfl) (svI rfl) hx50 rfl rfl) <|
       ils_cons rfl (iop_load_fa (cs := q3) rfl rfl (lb rfl) Tryd.underlying28 ag28 ti28 (by decide) (sv (d := .fptr q3) rfl) (nle rfl) rfl) <|
       ils_cons rfl (iop_bsT E_world_Step ([x50] : (List T_world_Step)) 23 rfl rfl (lb rfl) Tryd.underlying31 ti24 rfl (.cons (svA q3 rfl) .nil) rfl rfl (by decide)) <|
       ils_cons rfl (iop_appT E_world_Step 24 rfl rfl (lb rfl) Tryd.underlying31 ti24 rfl rfl rfl rfl (svg rfl) hx51) <|
       ils_cons rfl (iop_assign rfl rfl (lb rfl) (sv (d := .gsl _ _ _) rfl)) <|
       ils_end ?_)
      obtain ⟨x52, hx52, h⟩ := bno_e h
      obtain ⟨x53, hx53, h⟩ := bno_e h
      refine iwp_reg (ils_cons rfl (mvL rfl rfl rfl rfl) <|
       ils_cons rfl (mvI rfl rfl rfl rfl) <|
       ils_cons rfl (iop_idxT E_world_Step (cs := q3) rfl rfl (lb rfl) Tryd.underlying34 ti28 (svL rfl) (svI rfl) hx52 rfl rfl) <|
       ils_cons rfl (iop_load_fa (cs := q3) rfl rfl (lb rfl) Tryd.underlying28 ag28 ti28 (by decide) (sv (d := .fptr q3) rfl) (nle rfl) rfl) <|
       ils_cons rfl (iop_call (r := .tuple q10) rfl rfl (lb rfl) cl15 (.cons (svA q3 rfl) .nil) rfl (p_console_Print _ _ hx53)) <|
       ils_cons rfl (iop_move rfl rfl (lb rfl) (sv (d := .tuple q10) rfl)) <|
       ils_cons rfl (iop_extract (d := .str _) rfl rfl (lb rfl) (sv (d := .tuple q10) rfl) rfl) <|
       ils_cons rfl (iop_extract (d := .int _ _) rfl rfl (lb rfl) (sv (d := .tuple q10) rfl) rfl) <|
       ils_cons rfl (iop_assign rfl rfl (lb rfl) (sv (d := .str _) rfl)) <|
       ils_cons rfl (asI rfl rfl rfl rfl) <|
       ils_end ?_)
      obtain ⟨x54, hx54, h⟩ := bno_e h
      obtain ⟨x55, hx55, h⟩ := bno_e h
      refine iwp_reg (ils_cons rfl (mvL rfl rfl rfl rfl) <|
       ils_cons rfl (mvI rfl rfl rfl rfl) <|
       ils_cons rfl (iop_idxT E_world_Step (cs := q3) rfl rfl (lb rfl) Tryd.underlying34 ti28 (svL rfl) (svI rfl) hx54 rfl rfl) <|
       ils_cons rfl (iop_load_fa (cs := q3) rfl rfl (lb rfl) Tryd.underlying28 ag28 ti28 (by decide) (sv (d := .fptr q3) rfl) (nle rfl) rfl) <|
       ils_cons rfl (iop_call (r := .tuple q10) rfl rfl (lb rfl) cl17 (.cons (svA q3 rfl) .nil) rfl (p_sennitref33_Print _ _ hx55)) <|
       ils_cons rfl (iop_move rfl rfl (lb rfl) (sv (d := .tuple q10) rfl)) <|
       ils_cons rfl (iop_extract (d := .str _) rfl rfl (lb rfl) (sv (d := .tuple q10) rfl) rfl) <|
       ils_cons rfl (iop_extract (d := .int _ _) rfl rfl (lb rfl) (sv (d := .tuple q10) rfl) rfl) <|
       ils_cons rfl (iop_assign rfl rfl (lb rfl) (sv (d := .str _) rfl)) <|
       ils_cons rfl (asI rfl rfl rfl rfl) <|
       ils_end ?_)
      obtain ⟨x56, hx56, h⟩ := bnd_e h
      obtain ⟨x57, hx57, h⟩ := bnd_e h
      obtain ⟨x58, hx58, h⟩ := bnd_e h
      refine iwp_reg (ils_cons rfl (iop_move rfl rfl (lb rfl) (sv (d := .str _) rfl)) <|
       ils_cons rfl (iop_move rfl rfl (lb rfl) (sv (d := .str _) rfl)) <|
       ils_cons rfl (iop_strx rfl rfl (lb rfl) (sv (d := .str _) rfl) (sv (d := .str _) rfl) rfl hx56) <|
       ils_cons rfl (mvB rfl rfl rfl rfl) <|
       ils_guard rfl rfl (.one rfl) rfl (by decide) (fun hb => (mvI rfl rfl rfl rfl)) <|
       ils_guard rfl rfl (.one rfl) rfl (by decide) (fun hb => (mvI rfl rfl rfl rfl)) <|
       ils_guard rfl rfl (.one rfl) rfl (by decide) (fun hb => (iop_cmpx rfl rfl (lb rfl) (svcI rfl hb) (svcI rfl hb) rfl hx57)) <|
       ils_cons rfl (iop_orx rfl rfl (lb rfl) (svB rfl) rfl rfl hx58) <|
       ils_end ?_)
      refine iwp_cond (b := _) rfl (fun hc59 => ?_) (fun hc59 => ?_)
      ·
       replace h := bif_t h hc59
       refine iwp_reg (ils_cons rfl (iop_assign rfl rfl (lb rfl) (sv (d := .bool false) rfl)) <|
        ils_end ?_)
       refine iwp_ret ?_
       refine blockQ_r ?_
       refine thenQ_r ?_
       refine thenQ_r ?_
       refine blockQ_r ?_
       refine thenQ_r ?_
       obtain rfl := Option.some.inj h
       refine ⟨.inr rfl, (.cons (sv rfl) .nil)⟩
      ·
       replace h := bif_f h hc59
       refine iwp_skip ?_
       refine blockQ_n ?_
       refine thenQ_n ?_
       obtain ⟨x60, hx60, h⟩ := bnd_e h
       refine iwp_region (ils_cons rfl (mvI rfl rfl rfl rfl) <|
        ils_cons rfl (iop_intx rfl rfl (lb rfl) (svI rfl) (sv (d := .int _ 1) rfl) rfl hx60) <|
        ils_cons rfl (asI rfl rfl rfl rfl) <|
        ils_nil ?_)
       refine thenQ_n ⟨(n0, x51, x60), (fun i => if i = 22 then 24 else i), ⟨(.sames rfl rfl), (.cons (.blk rfl rfl rfl) (.cons (.tail rfl) .nil)), nd_of [0, 24] rfl (by decide), (fun i hi => by first | rfl | (show (if _ then _ else _) = _; (repeat' split) <;> omega))⟩, ?_, ?_⟩
       exact h
       exact Nat.lt_succ_self _
    ·
     replace h := bif_f h hc45
     refine iwp_exit ?_
     refine thenQ_e ?_
     refine thenQ_e ?_
     refine blockQ_e ?_
     refine thenQ_n ?_
     refine iwp_reg (ils_cons rfl (faR 0 rfl rfl rfl Tryd.underlying47 rfl ti3 (lb rfl) rfl rfl) <|
      ils_cons rfl (iop_load_rs (d := .int _ _) rfl rfl (lb rfl) Tryd.underlying3 ag3 ti3 (by decide) (svR rfl) rfl (nle rfl) rfl) <|
      ils_cons rfl (faR 1 rfl rfl rfl Tryd.underlying47 rfl ti3 (lb rfl) rfl rfl) <|
      ils_cons rfl (iop_load_rs (d := .int _ _) rfl rfl (lb rfl) Tryd.underlying3 ag3 ti3 (by decide) (svR rfl) rfl (nle rfl) rfl) <|
      ils_cons rfl (faR 2 rfl rfl rfl Tryd.underlying47 rfl ti9 (lb rfl) rfl rfl) <|
      ils_cons rfl (iop_load_rs (d := .str _) rfl rfl (lb rfl) Tryd.underlying9 ag9 ti9 (by decide) (svR rfl) rfl (nle rfl) rfl) <|
      ils_cons rfl (faR 3 rfl rfl rfl Tryd.underlying47 rfl ti4 (lb rfl) rfl rfl) <|
      ils_cons rfl (iop_load_rs (d := .bool _) rfl rfl (lb rfl) Tryd.underlying4 ag4 ti4 (by decide) (svR rfl) rfl (nle rfl) rfl) <|
      ils_cons rfl (iop_build_struct (cs := q5) rfl rfl (lb rfl) Tryd.underlying52 ti52 pl52 rfl (.cons (svI rfl) (.cons (svI rfl) (.cons (sv (d := .str _) rfl) (.cons (svB rfl) .nil)))) rfl) <|
      ils_cons rfl (iop_allocS (cs := q5) (cs' := [.int .i64 0, .int .i64 0, .str [], .bool false, .nils]) 23 rfl rfl (lb rfl) rfl ti52 rfl rfl (.all _)) <|
      ils_cons rfl (stA q5 q5 ti52 rfl rfl rfl rfl rfl rfl rfl rfl (nle rfl) rfl) <|
      ils_end ?_)
     refine iwp_seq ?_
     refine iwp_reg (ils_cons rfl (iop_assign rfl rfl (lb rfl) (sv (d := .int _ 0) rfl)) <|
      ils_end ?_)
     refine iwp_block ?_
     refine iwp_loopP (α := Nat × Int × (List T_session_Event)) (fun z => ⟨[(0, .slice false (a0.map E_world_Step.d)), (3, .ref 0 0), (5, .gsl 22 E_world_Step.sz (v25.map E_world_Step.d)), (11, .ref 23 0), (12, .int .i64 z.2.1)], [(0, .blk 47 (v1 a1)), (22, .tail 24 E_world_Step.sz v25.length), (23, .blk 52 [.int .i64 a1.N, .int .i64 a1.E, .str a1.Text, .bool a1.End, .gsl 45 E_session_Event.sz (z.2.2.map E_session_Event.d)]), (45, .tail 54 E_session_Event.sz z.2.2.length)]⟩) (fun z => sennitlaw33_ConsolePrints_L1 a0 a1 v25 z.1 z.2.1 z.2.2 = some r) (fun z => z.1) (fuel, 0, ([] : (List T_session_Event))) (fun i => if i = 45 then 119 else i) ⟨(.sames rfl rfl), (.cons (.blk rfl rfl rfl) (.cons (.tail rfl) (.cons (.sub rfl (.same (.same (.same (.same (.nilg .nil))))) rfl) (.cons (.nils rfl) .nil)))), nd_of [0, 22, 23, 119] rfl (by decide), (fun i hi => by first | rfl | (show (if _ then _ else _) = _; (repeat' split) <;> omega))⟩ ?_ ?_
     ·exact h
     ·
      rintro ⟨n1, v66, v67⟩ h
      cases n1 with
      | zero => exact absurd h (by unfold sennitlaw33_ConsolePrints_L1; exact nofun)
      | succ n1 =>
       unfold sennitlaw33_ConsolePrints_L1 at h
       refine iwp_seq ?_
       obtain ⟨x73, hx73, h⟩ := bnd_e h
       refine iwp_reg (ils_cons rfl (mvI rfl rfl rfl rfl) <|
        ils_cons rfl (faR 4 rfl rfl rfl Tryd.underlying47 rfl ti45 (lb rfl) rfl rfl) <|
        ils_cons rfl (lrL la45 rfl rfl rfl rfl rfl (nle rfl) rfl) <|
        ils_cons rfl (iop_lenT E_session_Event (l := a1.Events) rfl rfl (lb rfl) Tryd.underlying45 (svL rfl)) <|
        ils_cons rfl (iop_cmpx rfl rfl (lb rfl) (svI rfl) (svI rfl) rfl hx73) <|
        ils_end ?_)
       refine iwp_cond (b := _) rfl (fun hc74 => ?_) (fun hc74 => ?_)
       ·
        replace h := bif_t h hc74
        refine iwp_skip ?_
        refine thenQ_n ?_
        refine iwp_seq ?_
        refine iwp_block ?_
        obtain ⟨x75, hx75, h⟩ := bno_e h
        obtain ⟨x76, hx76, h⟩ := bno_e h
        refine iwp_draw rfl [⟨[11], [], [(96, .ref 23 4)], []⟩,
         ⟨[96], [23], [(97, .gsl 45 E_session_Event.sz (v67.map E_session_Event.d))], []⟩,
         ⟨[3], [], [(98, .ref 0 4)], []⟩,
         ⟨[98], [0], [(99, .slice false (a1.Events.map E_session_Event.d))], []⟩,
         ⟨[12], [], [(100, .int .i64 v66)], []⟩,
         ⟨[99, 100], [], [(101, .fptr (v2 x75))], []⟩,
         ⟨[101], [], [(102, .agg (v2 x75))], []⟩,
         ⟨[102], [46], [(103, .gsl 46 E_session_Event.sz (([x75] : (List T_session_Event)).map E_session_Event.d))], [(46, .tail 54 E_session_Event.sz ([x75] : (List T_session_Event)).length)]⟩,
         ⟨[97, 103], [45, 47], [(104, .gsl 47 E_session_Event.sz (x76.map E_session_Event.d))], [(47, .tail 54 E_session_Event.sz x76.length), (45, .none)]⟩,
         ⟨[11], [], [(105, .ref 23 4)], []⟩,
         ⟨[104, 105], [23], [], [(23, .blk 52 [.int .i64 a1.N, .int .i64 a1.E, .str a1.Text, .bool a1.End, .gsl 47 E_session_Event.sz (x76.map E_session_Event.d)])]⟩] rfl ?_ (by kernel_rfl) ?_
        ·refine .cons (lop rfl rfl fun S hA => (iop_fieldAddr_ref rfl rfl (lb rfl) Tryd.underlying52 rfl ti50 (by decide) (svaR hA rfl rfl) (off' := 4) rfl)) ?_
         refine .cons (lop rfl rfl fun S hA => (iop_load_rs (d := .gsl _ _ _) rfl rfl (lb rfl) Tryd.underlying50 ag50 ti50 (by decide) (svaR hA rfl rfl) (agi hA rfl rfl) (nle rfl) rfl)) ?_
         refine .cons (lop rfl rfl fun S hA => (iop_fieldAddr_ref rfl rfl (lb rfl) Tryd.underlying47 rfl ti45 (by decide) (svaR hA rfl rfl) (off' := 4) rfl)) ?_
         refine .cons (lop rfl rfl fun S hA => (iop_load_rs (d := .slice _ _) rfl rfl (lb rfl) Tryd.underlying45 ag45 ti45 (by decide) (svaR hA rfl rfl) (agi hA rfl rfl) (nle rfl) rfl)) ?_
         refine .cons (lop rfl rfl fun S hA => (iop_move rfl rfl (lb rfl) (svaI hA rfl rfl))) ?_
         refine .cons (lop rfl rfl fun S hA => (iop_idxT E_session_Event (cs := q7) rfl rfl (lb rfl) Tryd.underlying45 ti55 (svaL hA rfl rfl) (svaI hA rfl rfl) hx75 rfl rfl)) ?_
         refine .cons (lop rfl rfl fun S hA => (iop_load_fa (cs := q7) rfl rfl (lb rfl) Tryd.underlying55 ag55 ti55 (by decide) (sv (d := .fptr q7) (agr hA rfl rfl)) (nle rfl) rfl)) ?_
         refine .cons (lop rfl rfl fun S hA => (iop_bsT E_session_Event ([x75] : (List T_session_Event)) 46 rfl rfl (lb rfl) Tryd.underlying50 ti54 (agi hA rfl rfl) (.cons (svaA q7 hA rfl rfl) .nil) rfl rfl (by decide))) ?_
         refine .cons (lop rfl rfl fun S hA => (iop_appT E_session_Event 47 rfl rfl (lb rfl) Tryd.underlying50 ti54 rfl (agr hA rfl rfl) (agi hA rfl rfl) (agi hA rfl rfl) (svg (agr hA rfl rfl)) hx76)) ?_
         refine .cons (lop rfl rfl fun S hA => (iop_fieldAddr_ref rfl rfl (lb rfl) Tryd.underlying52 rfl ti50 (by decide) (svaR hA rfl rfl) (off' := 4) rfl)) ?_
         refine .cons (lop rfl rfl fun S hA => (iop_store (ds' := [.int _ _, .int _ _, .str _, .bool _, .gsl _ _ _]) rfl rfl ti50 (svaR hA rfl rfl) (agi hA rfl rfl) (sv (d := .gsl _ _ _) (agr hA rfl rfl)) rfl rfl rfl (nle rfl) rfl)) ?_
         exact .nil
        refine blockQ_n ?_
        refine thenQ_n ?_
        obtain ⟨x77, hx77, h⟩ := bnd_e h
        refine iwp_region (ils_cons rfl (mvI rfl rfl rfl rfl) <|
         ils_cons rfl (iop_intx rfl rfl (lb rfl) (svI rfl) (sv (d := .int _ 1) rfl) rfl hx77) <|
         ils_cons rfl (asI rfl rfl rfl rfl) <|
         ils_nil ?_)
        refine thenQ_n ⟨(n1, x77, x76), (fun i => if i = 45 then 47 else i), ⟨(.sames rfl rfl), (.cons (.blk rfl rfl rfl) (.cons (.tail rfl) (.cons (.blk rfl rfl rfl) (.cons (.tail rfl) .nil)))), nd_of [0, 22, 23, 47] rfl (by decide), (fun i hi => by first | rfl | (show (if _ then _ else _) = _; (repeat' split) <;> omega))⟩, ?_, ?_⟩
        exact h
        exact Nat.lt_succ_self _
       ·
        replace h := bif_f h hc74
        refine iwp_exit ?_
        refine thenQ_e ?_
        refine thenQ_e ?_
        refine blockQ_e ?_
        refine thenQ_n ?_
        obtain ⟨x78, hx78, h⟩ := bno_e h
        refine iwp_reg (ils_cons rfl (iop_move rfl rfl (lb rfl) (sv (d := .gsl _ _ _) rfl)) <|
         ils_cons rfl (iop_call (r := .tuple q10) rfl rfl (lb rfl) cl18 (.cons (svg rfl) .nil) rfl (p_console_Lines _ _ hx78)) <|
         ils_cons rfl (iop_move rfl rfl (lb rfl) (sv (d := .tuple q10) rfl)) <|
         ils_cons rfl (iop_extract (d := .str _) rfl rfl (lb rfl) (sv (d := .tuple q10) rfl) rfl) <|
         ils_cons rfl (iop_extract (d := .int _ _) rfl rfl (lb rfl) (sv (d := .tuple q10) rfl) rfl) <|
         ils_cons rfl (iop_assign rfl rfl (lb rfl) (sv (d := .str _) rfl)) <|
         ils_cons rfl (asI rfl rfl rfl rfl) <|
         ils_end ?_)
        obtain ⟨x79, hx79, h⟩ := bno_e h
        refine iwp_reg (ils_cons rfl (mvL rfl rfl rfl rfl) <|
         ils_cons rfl (iop_call (r := .tuple q10) rfl rfl (lb rfl) cl19 (.cons (svL rfl) .nil) rfl (p_sennitref33_Lines _ _ hx79)) <|
         ils_cons rfl (iop_move rfl rfl (lb rfl) (sv (d := .tuple q10) rfl)) <|
         ils_cons rfl (iop_extract (d := .str _) rfl rfl (lb rfl) (sv (d := .tuple q10) rfl) rfl) <|
         ils_cons rfl (iop_extract (d := .int _ _) rfl rfl (lb rfl) (sv (d := .tuple q10) rfl) rfl) <|
         ils_cons rfl (iop_assign rfl rfl (lb rfl) (sv (d := .str _) rfl)) <|
         ils_cons rfl (asI rfl rfl rfl rfl) <|
         ils_end ?_)
        obtain ⟨x80, hx80, h⟩ := bno_e h
        refine iwp_reg (ils_cons rfl (iop_call (r := .slice _ _) rfl rfl (lb rfl) cl16 .nil rfl (p_console_Names  _ hx80)) <|
         ils_cons rfl (iop_assign rfl rfl (lb rfl) (svL rfl)) <|
         ils_end ?_)
        refine iwp_seq ?_
        refine iwp_reg (ils_cons rfl (iop_assign rfl rfl (lb rfl) (sv (d := .int _ 0) rfl)) <|
         ils_end ?_)
        refine iwp_block ?_
        refine iwp_loopP (α := Nat × Int) (fun z => ⟨[(3, .ref 0 0), (11, .ref 23 0), (13, .str x78.1), (14, .int .i64 x78.2), (15, .str x79.1), (16, .int .i64 x79.2), (17, .slice false (x80.map eStr.d)), (18, .int .i64 z.2)], [(0, .blk 47 (v1 a1)), (23, .blk 52 [.int .i64 a1.N, .int .i64 a1.E, .str a1.Text, .bool a1.End, .gsl 45 E_session_Event.sz (v67.map E_session_Event.d)]), (45, .tail 54 E_session_Event.sz v67.length)]⟩) (fun z => sennitlaw33_ConsolePrints_L2 a1 v67 x78 x79 x80 z.1 z.2 = some r) (fun z => z.1) (fuel, 0) (fun i => i) ⟨(.sames rfl rfl), (.cons (.blk rfl rfl rfl) (.cons (.blk rfl rfl rfl) (.cons (.tail rfl) .nil))), nd_of [0, 23, 45] rfl (by decide), fun _ _ => rfl⟩ ?_ ?_
        ·exact h
        ·
         rintro ⟨n2, v91⟩ h
         cases n2 with
         | zero => exact absurd h (by unfold sennitlaw33_ConsolePrints_L2; exact nofun)
         | succ n2 =>
          unfold sennitlaw33_ConsolePrints_L2 at h
          refine iwp_seq ?_
          obtain ⟨x102, hx102, h⟩ := bnd_e h
          obtain ⟨x103, hx103, h⟩ := bnd_e h
          obtain ⟨x104, hx104, h⟩ := bnd_e h
          refine iwp_reg (ils_cons rfl (mvI rfl rfl rfl rfl) <|
           ils_cons rfl (mvL rfl rfl rfl rfl) <|
           ils_cons rfl (iop_lenT eStr (l := x80) rfl rfl (lb rfl) Tryd.underlying42 (svL rfl)) <|
           ils_cons rfl (iop_cmpx rfl rfl (lb rfl) (svI rfl) (svI rfl) rfl hx102) <|
           ils_cons rfl (mvB rfl rfl rfl rfl) <|
           ils_guard rfl rfl (.one rfl) rfl (by decide) (fun hb => (mvI rfl rfl rfl rfl)) <|
           ils_guard rfl rfl (.one rfl) rfl (by decide) (fun hb => (iop_cmpx rfl rfl (lb rfl) (svcI rfl hb) (sv (d := .int _ 16) rfl) rfl hx103)) <|
           ils_cons rfl (iop_andx rfl rfl (lb rfl) (svB rfl) rfl rfl hx104) <|
           ils_end ?_)
          refine iwp_cond (b := _) rfl (fun hc105 => ?_) (fun hc105 => ?_)
          ·
           replace h := bif_t h hc105
           refine iwp_skip ?_
           refine thenQ_n ?_
           refine iwp_seq ?_
           refine iwp_block ?_
           obtain ⟨x106, hx106, h⟩ := bno_e h
           obtain ⟨x107, hx107, h⟩ := bnd_e h
           obtain ⟨x108, hx108, h⟩ := bno_e h
           obtain ⟨x109, hx109, h⟩ := bnd_e h
           refine iwp_drw rfl [⟨[17], [], [(127, .slice false (x80.map eStr.d))], []⟩,
            ⟨[18], [], [(128, .int .i64 v91)], []⟩,
            ⟨[127, 128], [], [(129, .fptr [.str x106])], []⟩,
            ⟨[129], [], [(130, .str x106)], []⟩,
            ⟨[18], [], [(131, .int .i64 v91)], []⟩,
            ⟨[131], [], [(132, .int .u8 x107)], []⟩,
            ⟨[132], [], [(133, .str x108)], []⟩,
            ⟨[130, 133], [], [(134, .bool x109)], []⟩] rfl ?_ (by kernel_rfl) ?_
           ·refine .cons (lop rfl rfl fun S hA => (iop_move rfl rfl (lb rfl) (svaL hA rfl rfl))) ?_
            refine .cons (lop rfl rfl fun S hA => (iop_move rfl rfl (lb rfl) (svaI hA rfl rfl))) ?_
            refine .cons (lop rfl rfl fun S hA => (iop_idxT eStr (cs := [.str _]) rfl rfl (lb rfl) Tryd.underlying42 ti9 (svaL hA rfl rfl) (svaI hA rfl rfl) hx106 rfl rfl)) ?_
            refine .cons (lop rfl rfl fun S hA => (iop_load_fs rfl rfl (lb rfl) Tryd.underlying9 ag9 ti9 (by decide) (sv (d := .fptr [.str _]) (agr hA rfl rfl)) (nle rfl))) ?_
            refine .cons (lop rfl rfl fun S hA => (iop_move rfl rfl (lb rfl) (svaI hA rfl rfl))) ?_
            refine .cons (lop rfl rfl fun S hA => (iop_int_conv rfl rfl (lb rfl) ⟨_, Tryd.underlying3⟩ Tryd.underlying5 (svaI hA rfl rfl) hx107)) ?_
            refine .cons (lop rfl rfl fun S hA => (iop_call (r := .str _) rfl rfl (lb rfl) cl20 (.cons (svaI hA rfl rfl) .nil) rfl (p_sennitref33_Name _ _ hx108))) ?_
            refine .cons (lop rfl rfl fun S hA => (iop_strx rfl rfl (lb rfl) (sv (d := .str _) (agr hA rfl rfl)) (sv (d := .str _) (agr hA rfl rfl)) rfl hx109)) ?_
            exact .nil
           refine iwp_cond (b := _) rfl (fun hc110 => ?_) (fun hc110 => ?_)
           ·
            replace h := bif_t h hc110
            refine iwp_reg (ils_cons rfl (iop_assign rfl rfl (lb rfl) (sv (d := .bool false) rfl)) <|
             ils_end ?_)
            refine iwp_ret ?_
            refine blockQ_r ?_
            refine thenQ_r ?_
            refine thenQ_r ?_
            refine blockQ_r ?_
            refine thenQ_r ?_
            obtain rfl := Option.some.inj h
            refine ⟨.inr rfl, (.cons (sv rfl) .nil)⟩
           ·
            replace h := bif_f h hc110
            refine iwp_skip ?_
            refine blockQ_n ?_
            refine thenQ_n ?_
            obtain ⟨x111, hx111, h⟩ := bnd_e h
            refine iwp_region (ils_cons rfl (mvI rfl rfl rfl rfl) <|
             ils_cons rfl (iop_intx rfl rfl (lb rfl) (svI rfl) (sv (d := .int _ 1) rfl) rfl hx111) <|
             ils_cons rfl (asI rfl rfl rfl rfl) <|
             ils_nil ?_)
            refine thenQ_n ⟨(n2, x111), (fun i => i), ⟨(.sames rfl rfl), (.cons (.blk rfl rfl rfl) (.cons (.blk rfl rfl rfl) (.cons (.tail rfl) .nil))), nd_of [0, 23, 45] rfl (by decide), fun _ _ => rfl⟩, ?_, ?_⟩
            exact h
            exact Nat.lt_succ_self _
          ·
           replace h := bif_f h hc105
           refine iwp_exit ?_
           refine thenQ_e ?_
           refine thenQ_e ?_
           refine blockQ_e ?_
           refine thenQ_n ?_
           obtain ⟨x112, hx112, h⟩ := bnd_e h
           obtain ⟨x113, hx113, h⟩ := bnd_e h
           obtain ⟨x114, hx114, h⟩ := bnd_e h
           obtain ⟨x115, hx115, h⟩ := bno_e h
           obtain ⟨x116, hx116, h⟩ := bno_e h
           obtain ⟨x117, hx117, h⟩ := bnd_e h
           obtain ⟨x118, hx118, h⟩ := bnd_e h
           obtain ⟨x119, hx119, h⟩ := bnd_e h
           obtain ⟨x120, hx120, h⟩ := bnd_e h
           obtain ⟨x121, hx121, h⟩ := bno_e h
           obtain ⟨x122, hx122, h⟩ := bnd_e h
           refine iwp_drw rfl [⟨[13], [], [(135, .str x78.1)], []⟩,
            ⟨[15], [], [(136, .str x79.1)], []⟩,
            ⟨[135, 136], [], [(137, .bool x112)], []⟩,
            ⟨[137], [], [(138, .bool x112)], []⟩,
            ⟨[14, 138], [], [(139, .cnd (x112 == true) (.int .i64 x78.2))], []⟩,
            ⟨[16, 138], [], [(140, .cnd (x112 == true) (.int .i64 x79.2))], []⟩,
            ⟨[138, 139, 140], [], [(141, .cnd (x112 == true) (.bool x113))], []⟩,
            ⟨[138, 141], [], [(142, .bool x114)], []⟩,
            ⟨[142], [], [(143, .bool x114)], []⟩,
            ⟨[11, 143], [23], [(144, .cnd (x114 == true) (.agg [.int .i64 a1.N, .int .i64 a1.E, .str a1.Text, .bool a1.End, .gsl 45 E_session_Event.sz (v67.map E_session_Event.d)]))], []⟩,
            ⟨[143, 144], [], [(145, .cnd (x114 == true) (.str x115))], []⟩,
            ⟨[3, 143], [0], [(146, .cnd (x114 == true) (.agg (v1 a1)))], []⟩,
            ⟨[143, 146], [], [(147, .cnd (x114 == true) (.str x116))], []⟩,
            ⟨[143, 145, 147], [], [(148, .cnd (x114 == true) (.bool x117))], []⟩,
            ⟨[143, 148], [], [(149, .bool x118)], []⟩,
            ⟨[149], [], [(150, .bool x118)], []⟩,
            ⟨[17, 150], [], [(151, .cnd (x118 == true) (.slice false (x80.map eStr.d)))], []⟩,
            ⟨[150, 151], [], [(152, .cnd (x118 == true) (.int .i64 (x80.length : Int)))], []⟩,
            ⟨[150, 152], [], [(153, .cnd (x118 == true) (.bool x119))], []⟩,
            ⟨[150, 153], [], [(154, .bool x120)], []⟩,
            ⟨[154], [], [(155, .bool x120)], []⟩,
            ⟨[155], [], [(156, .cnd (x120 == true) (.bool x121))], []⟩,
            ⟨[155, 156], [], [(157, .bool x122)], []⟩,
            ⟨[157], [], [(4, .bool x122)], []⟩] rfl ?_ (by kernel_rfl) ?_
           ·refine .cons (lop rfl rfl fun S hA => (iop_move rfl rfl (lb rfl) (sv (d := .str _) (agr hA rfl rfl)))) ?_
            refine .cons (lop rfl rfl fun S hA => (iop_move rfl rfl (lb rfl) (sv (d := .str _) (agr hA rfl rfl)))) ?_
            refine .cons (lop rfl rfl fun S hA => (iop_strx rfl rfl (lb rfl) (sv (d := .str _) (agr hA rfl rfl)) (sv (d := .str _) (agr hA rfl rfl)) rfl hx112)) ?_
            refine .cons (lop rfl rfl fun S hA => (iop_move rfl rfl (lb rfl) (svaB hA rfl rfl))) ?_
            refine .cons (lopg rfl rfl rfl rfl (by decide) (fun S hA => grd1 hA rfl rfl) (fun S hA hb => (iop_move rfl rfl (lb rfl) (svaI hA rfl rfl)))) ?_
            refine .cons (lopg rfl rfl rfl rfl (by decide) (fun S hA => grd1 hA rfl rfl) (fun S hA hb => (iop_move rfl rfl (lb rfl) (svaI hA rfl rfl)))) ?_
            refine .cons (lopg rfl rfl rfl rfl (by decide) (fun S hA => grd1 hA rfl rfl) (fun S hA hb => (iop_cmpx rfl rfl (lb rfl) (svc (d := .int _ _) (agr hA rfl rfl) hb) (svc (d := .int _ _) (agr hA rfl rfl) hb) rfl hx113))) ?_
            refine .cons (lop rfl rfl fun S hA => (iop_andx rfl rfl (lb rfl) (svaB hA rfl rfl) (agr hA rfl rfl) rfl hx114)) ?_
            refine .cons (lop rfl rfl fun S hA => (iop_move rfl rfl (lb rfl) (svaB hA rfl rfl))) ?_
            refine .cons (lopg rfl rfl rfl rfl (by decide) (fun S hA => grd1 hA rfl rfl) (fun S hA hb => (iop_load_ra (cs := [.int _ _, .int _ _, .str _, .bool _, .gsl _ _ _]) rfl rfl (lb rfl) Tryd.underlying52 ag52 ti52 (by decide) (svaR hA rfl rfl) (agi hA rfl rfl) (nle rfl) rfl))) ?_
            refine .cons (lopg rfl rfl rfl rfl (by decide) (fun S hA => grd1 hA rfl rfl) (fun S hA hb => (iop_call (r := .str _) rfl rfl (lb rfl) cl21 (.cons (SV.sub (svc (d := .agg [.int .i64 a1.N, .int .i64 a1.E, .str a1.Text, .bool a1.End, .gsl 45 E_session_Event.sz (v67.map E_session_Event.d)]) (agr hA rfl rfl) hb) (.agg (.k4 (.cons (.gsl _ _ _) .nil)))) .nil) rfl (p_console_Tell _ _ (gd_t hx115 hb))))) ?_
            refine .cons (lopg rfl rfl rfl rfl (by decide) (fun S hA => grd1 hA rfl rfl) (fun S hA hb => (iop_load_ra (cs := q4) rfl rfl (lb rfl) Tryd.underlying47 ag47 ti47 (by decide) (svaR hA rfl rfl) (agi hA rfl rfl) (nle rfl) rfl))) ?_
            refine .cons (lopg rfl rfl rfl rfl (by decide) (fun S hA => grd1 hA rfl rfl) (fun S hA hb => (iop_call (r := .str _) rfl rfl (lb rfl) cl22 (.cons (svc (d := .agg (v1 a1)) (agr hA rfl rfl) hb) .nil) rfl (p_sennitref33_Tell _ _ (gd_t hx116 hb))))) ?_
            refine .cons (lopg rfl rfl rfl rfl (by decide) (fun S hA => grd1 hA rfl rfl) (fun S hA hb => (iop_strx rfl rfl (lb rfl) (svc (d := .str _) (agr hA rfl rfl) hb) (svc (d := .str _) (agr hA rfl rfl) hb) rfl hx117))) ?_
            refine .cons (lop rfl rfl fun S hA => (iop_andx rfl rfl (lb rfl) (svaB hA rfl rfl) (agr hA rfl rfl) rfl hx118)) ?_
            refine .cons (lop rfl rfl fun S hA => (iop_move rfl rfl (lb rfl) (svaB hA rfl rfl))) ?_
            refine .cons (lopg rfl rfl rfl rfl (by decide) (fun S hA => grd1 hA rfl rfl) (fun S hA hb => (iop_move rfl rfl (lb rfl) (svaL hA rfl rfl)))) ?_
            refine .cons (lopg rfl rfl rfl rfl (by decide) (fun S hA => grd1 hA rfl rfl) (fun S hA hb => (iop_lenT eStr (l := x80) rfl rfl (lb rfl) Tryd.underlying42 (svc (d := .slice _ _) (agr hA rfl rfl) hb)))) ?_
            refine .cons (lopg rfl rfl rfl rfl (by decide) (fun S hA => grd1 hA rfl rfl) (fun S hA hb => (iop_cmpx rfl rfl (lb rfl) (svc (d := .int _ _) (agr hA rfl rfl) hb) (sv (d := .int _ 16) rfl) rfl hx119))) ?_
            refine .cons (lop rfl rfl fun S hA => (iop_andx rfl rfl (lb rfl) (svaB hA rfl rfl) (agr hA rfl rfl) rfl hx120)) ?_
            refine .cons (lop rfl rfl fun S hA => (iop_move rfl rfl (lb rfl) (svaB hA rfl rfl))) ?_
            refine .cons (lopg rfl rfl rfl rfl (by decide) (fun S hA => grd1 hA rfl rfl) (fun S hA hb => (iop_call (r := .bool _) rfl rfl (lb rfl) cl8 .nil rfl (p_sennitlaw33_awake  _ (gd_t hx121 hb))))) ?_
            refine .cons (lop rfl rfl fun S hA => (iop_andx rfl rfl (lb rfl) (svaB hA rfl rfl) (agr hA rfl rfl) rfl hx122)) ?_
            refine .cons (lop rfl rfl fun S hA => (iop_assign rfl rfl (lb rfl) (svaB hA rfl rfl))) ?_
            exact .nil
           refine iwp_ret ?_
           obtain rfl := Option.some.inj h
           refine ⟨.inr rfl, (.cons (sv rfl) .nil)⟩

end Go.Proofs.YtmidijokooidcaaDoor
