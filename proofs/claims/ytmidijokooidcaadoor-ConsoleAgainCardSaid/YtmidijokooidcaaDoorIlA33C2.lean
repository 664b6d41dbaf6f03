/-
  A part of the proof: rules and plain facts. No condition.
-/
import Derived.Test.YtmidijokooidcaaDoorProg
import Derived.KernelRfl
import Derived.Test.YtmidijokooidcaaDoorIlP108
import Derived.Test.YtmidijokooidcaaDoorIlPn
import Derived.Test.YtmidijokooidcaaDoorIlIt33
import Derived.Test.YtmidijokooidcaaDoorIlA33C1
set_option linter.all false
set_option linter.unusedSimpArgs false
set_option linter.unusedVariables false
set_option maxRecDepth 8000
set_option maxHeartbeats 2000000
open Go Go.IL Go.Fn Go.Proofs
namespace Go.Proofs.YtmidijokooidcaaDoor
theorem cl8 : Callable Tryd.prog 8 := ⟨Tryd.f8, Tryd.func8, rfl, rfl⟩
theorem p_sennitlaw33_ConsoleAgain (a0 : (List UInt8)) (r : Bool) (h : sennitlaw33_ConsoleAgain a0 = some r) : PureAt Tryd.prog 4 [.str a0] (.bool r) := by
 refine pure_of_iwp (rs := [.bool r]) Tryd.func4 rfl Tryd.ntmps4 (nle rfl) rfl fun O hO => ?_
 show IWP _ _ _ _ ⟨[(0, .str a0)], []⟩ _
 unfold sennitlaw33_ConsoleAgain at h
 refine iwp_reg (ils_cons rfl (iop_assign rfl rfl (lb rfl) (sv (d := .bool false) rfl)) <|
  ils_end ?_)
 refine iwp_seq ?_
 obtain ⟨x1, hx1, h⟩ := bnd_e h
 refine iwp_reg (ils_cons rfl (iop_move rfl rfl (lb rfl) (sv (d := .str _) rfl)) <|
  ils_cons rfl (iop_len_str rfl rfl (lb rfl) Tryd.underlying9 (sv (d := .str _) rfl) rfl) <|
  ils_cons rfl (iop_cmpx rfl rfl (lb rfl) (svI rfl) (sv (d := .int _ 700) rfl) rfl hx1) <|
  ils_end ?_)
 refine iwp_cond (b := _) rfl (fun hc2 => ?_) (fun hc2 => ?_)
 ·
  replace h := bif_t h hc2
  obtain ⟨x3, hx3, h⟩ := bno_e h
  refine iwp_reg (ils_cons rfl (iop_call (r := .bool _) rfl rfl (lb rfl) cl8 .nil rfl (p_sennitlaw33_awake  _ hx3)) <|
   ils_cons rfl (asB rfl rfl rfl rfl) <|
   ils_end ?_)
  refine iwp_ret ?_
  refine thenQ_r ?_
  obtain rfl := Option.some.inj h
  refine ⟨.inr rfl, (.cons (sv rfl) .nil)⟩
 ·
  replace h := bif_f h hc2
  refine iwp_skip ?_
  refine thenQ_n ?_
  obtain ⟨x4, hx4, h⟩ := bno_e h
  refine iwp_reg (ils_cons rfl (iop_move rfl rfl (lb rfl) (sv (d := .str _) rfl)) <|
   ils_cons rfl (iop_call (r := .tuple q9) rfl rfl (lb rfl) cl9 (.cons (sv (d := .str _) rfl) .nil) rfl (p_console_Parse _ _ hx4)) <|
   ils_cons rfl (iop_move rfl rfl (lb rfl) (sv (d := .tuple q9) rfl)) <|
   ils_cons rfl (iop_extract (d := .agg q2) rfl rfl (lb rfl) (sv (d := .tuple q9) rfl) rfl) <|
   ils_cons rfl (iop_extract (d := .int _ _) rfl rfl (lb rfl) (sv (d := .tuple q9) rfl) rfl) <|
   ils_cons rfl (iop_allocS (cs := q2) (cs' := (w11 0 0 0 0 0 0 [] false)) 0 rfl rfl (lb rfl) rfl ti24 rfl rfl (.all _)) <|
   ils_cons rfl (stA q2 q2 ti24 rfl rfl rfl rfl rfl rfl rfl rfl (nle rfl) rfl) <|
   ils_cons rfl (asI rfl rfl rfl rfl) <|
   ils_end ?_)
  refine iwp_seq ?_
  obtain ⟨x5, hx5, h⟩ := bnd_e h
  refine iwp_reg (ils_cons rfl (mvI rfl rfl rfl rfl) <|
   ils_cons rfl (iop_cmpx rfl rfl (lb rfl) (svI rfl) (sv (d := .int _ 0) rfl) rfl hx5) <|
   ils_end ?_)
  refine iwp_cond (b := _) rfl (fun hc6 => ?_) (fun hc6 => ?_)
  ·
   replace h := bif_t h hc6
   obtain ⟨x7, hx7, h⟩ := bnd_e h
   obtain ⟨x8, hx8, h⟩ := bno_e h
   obtain ⟨x9, hx9, h⟩ := bnd_e h
   refine iwp_reg (ils_cons rfl (lra q2 la24 rfl rfl rfl rfl rfl (nle rfl) rfl) <|
    ils_cons rfl (iop_build_struct (cs := q2) rfl rfl (lb rfl) Tryd.underlying24 ti24 pl24 rfl .nil rfl) <|
    ils_cons rfl (iop_eqs rfl rfl (lb rfl) Tryd.underlying24 st24.1 st24.2 (svA q2 rfl) (svA q2 rfl) (congrArg some hx7)) <|
    ils_cons rfl (mvB rfl rfl rfl rfl) <|
    ils_guard rfl rfl (.one rfl) rfl (by decide) (fun hb => (iop_call (r := .bool _) rfl rfl (lb rfl) cl8 .nil rfl (p_sennitlaw33_awake  _ (gd_t hx8 hb)))) <|
    ils_cons rfl (iop_andx rfl rfl (lb rfl) (svB rfl) rfl rfl hx9) <|
    ils_cons rfl (asB rfl rfl rfl rfl) <|
    ils_end ?_)
   refine iwp_ret ?_
   refine thenQ_r ?_
   obtain rfl := Option.some.inj h
   refine ⟨.inr rfl, (.cons (sv rfl) .nil)⟩
  ·
   replace h := bif_f h hc6
   refine iwp_skip ?_
   refine thenQ_n ?_
   obtain ⟨x10, hx10, h⟩ := bno_e h
   refine iwp_reg (ils_cons rfl (lra q2 la24 rfl rfl rfl rfl rfl (nle rfl) rfl) <|
    ils_cons rfl (iop_call (r := .tuple q8) rfl rfl (lb rfl) cl15 (.cons (svA q2 rfl) .nil) rfl (p_console_Print _ _ hx10)) <|
    ils_cons rfl (iop_move rfl rfl (lb rfl) (sv (d := .tuple q8) rfl)) <|
    ils_cons rfl (iop_extract (d := .str _) rfl rfl (lb rfl) (sv (d := .tuple q8) rfl) rfl) <|
    ils_cons rfl (iop_extract (d := .int _ _) rfl rfl (lb rfl) (sv (d := .tuple q8) rfl) rfl) <|
    ils_cons rfl (iop_assign rfl rfl (lb rfl) (sv (d := .str _) rfl)) <|
    ils_cons rfl (asI rfl rfl rfl rfl) <|
    ils_end ?_)
   obtain ⟨x11, hx11, h⟩ := bnd_e h
   obtain ⟨x12, hx12, h⟩ := bnd_e h
   obtain ⟨x13, hx13, h⟩ := bnd_e h
   obtain ⟨x14, hx14, h⟩ := bno_e h
   obtain ⟨x15, hx15, h⟩ := bnd_e h
   refine iwp_reg (ils_cons rfl (mvI rfl rfl rfl rfl) <|
    ils_cons rfl (iop_cmpx rfl rfl (lb rfl) (svI rfl) (sv (d := .int _ 0) rfl) rfl hx11) <|
    ils_cons rfl (mvB rfl rfl rfl rfl) <|
    ils_guard rfl rfl (.one rfl) rfl (by decide) (fun hb => (iop_move rfl rfl (lb rfl) (sv (d := .str _) rfl))) <|
    ils_guard rfl rfl (.one rfl) rfl (by decide) (fun hb => (iop_move rfl rfl (lb rfl) (sv (d := .str _) rfl))) <|
    ils_guard rfl rfl (.one rfl) rfl (by decide) (fun hb => (iop_strx rfl rfl (lb rfl) (svc (d := .str _) rfl hb) (svc (d := .str _) rfl hb) rfl hx12)) <|
    ils_cons rfl (iop_andx rfl rfl (lb rfl) (svB rfl) rfl rfl hx13) <|
    ils_cons rfl (mvB rfl rfl rfl rfl) <|
    ils_guard rfl rfl (.one rfl) rfl (by decide) (fun hb => (iop_call (r := .bool _) rfl rfl (lb rfl) cl8 .nil rfl (p_sennitlaw33_awake  _ (gd_t hx14 hb)))) <|
    ils_cons rfl (iop_andx rfl rfl (lb rfl) (svB rfl) rfl rfl hx15) <|
    ils_cons rfl (asB rfl rfl rfl rfl) <|
    ils_end ?_)
   refine iwp_ret ?_
   obtain rfl := Option.some.inj h
   refine ⟨.inr rfl, (.cons (sv rfl) .nil)⟩

end Go.Proofs.YtmidijokooidcaaDoor
