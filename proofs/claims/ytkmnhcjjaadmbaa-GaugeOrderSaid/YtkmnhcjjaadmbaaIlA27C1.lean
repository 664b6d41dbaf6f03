/-
  A part of the proof: rules and plain facts. No condition.
-/
import Derived.Test.YtkmnhcjjaadmbaaProg
import Derived.KernelRfl
import Derived.Test.YtkmnhcjjaadmbaaIlAr
import Derived.Test.YtkmnhcjjaadmbaaIlA27D
set_option linter.all false
set_option linter.unusedSimpArgs false
set_option linter.unusedVariables false
open Go Go.IL Go.Fn Go.Proofs
namespace Go.Proofs.Ytkmnhcjjaadmbaa
theorem ti3 : TI Try.prog 3 (some (.int .i64 0)) 1 8 := by unfold TI; kernel_rfl
theorem ti22 : TI Try.prog 22 (some (.int .u64 0)) 1 8 := by unfold TI; kernel_rfl
theorem ti24 : TI Try.prog 24 (some (.float .f64 0)) 1 8 := by unfold TI; kernel_rfl
theorem ti35 : TI Try.prog 35 (some (.slice none 0 0)) 1 24 := by unfold TI; kernel_rfl
theorem ag3 : aggOf Try.prog 3 = false := by kernel_rfl
theorem ag22 : aggOf Try.prog 22 = false := by kernel_rfl
theorem ag24 : aggOf Try.prog 24 = false := by kernel_rfl
theorem ag35 : aggOf Try.prog 35 = false := by kernel_rfl
theorem ex29 : ExternAt Try.prog 29 Extern.MathFloatBits.float64frombits := ⟨Try.f29, Try.func29, by kernel_rfl, by kernel_rfl, by kernel_rfl, by kernel_rfl⟩
theorem ex34 : ExternAt Try.prog 34 Extern.MathFloatBits.float64bits := ⟨Try.f34, Try.func34, by kernel_rfl, by kernel_rfl, by kernel_rfl, by kernel_rfl⟩
theorem cl8 : Callable Try.prog 8 := ⟨Try.f8, Try.func8, rfl, rfl⟩
theorem cl9 : Callable Try.prog 9 := ⟨Try.f9, Try.func9, rfl, rfl⟩
theorem cl10 : Callable Try.prog 10 := ⟨Try.f10, Try.func10, rfl, rfl⟩
theorem cl11 : Callable Try.prog 11 := ⟨Try.f11, Try.func11, rfl, rfl⟩
theorem cl12 : Callable Try.prog 12 := ⟨Try.f12, Try.func12, rfl, rfl⟩
theorem cl13 : Callable Try.prog 13 := ⟨Try.f13, Try.func13, rfl, rfl⟩
theorem cl14 : Callable Try.prog 14 := ⟨Try.f14, Try.func14, rfl, rfl⟩
theorem cl15 : Callable Try.prog 15 := ⟨Try.f15, Try.func15, rfl, rfl⟩
theorem cl16 : Callable Try.prog 16 := ⟨Try.f16, Try.func16, rfl, rfl⟩
theorem cl17 : Callable Try.prog 17 := ⟨Try.f17, Try.func17, rfl, rfl⟩
theorem cl18 : Callable Try.prog 18 := ⟨Try.f18, Try.func18, rfl, rfl⟩
theorem cl19 : Callable Try.prog 19 := ⟨Try.f19, Try.func19, rfl, rfl⟩
theorem cl20 : Callable Try.prog 20 := ⟨Try.f20, Try.func20, rfl, rfl⟩
theorem cl22 : Callable Try.prog 22 := ⟨Try.f22, Try.func22, rfl, rfl⟩
theorem cl24 : Callable Try.prog 24 := ⟨Try.f24, Try.func24, rfl, rfl⟩
theorem cl25 : Callable Try.prog 25 := ⟨Try.f25, Try.func25, rfl, rfl⟩
theorem cl27 : Callable Try.prog 27 := ⟨Try.f27, Try.func27, rfl, rfl⟩
theorem cl30 : Callable Try.prog 30 := ⟨Try.f30, Try.func30, rfl, rfl⟩
theorem cl31 : Callable Try.prog 31 := ⟨Try.f31, Try.func31, rfl, rfl⟩
theorem cl32 : Callable Try.prog 32 := ⟨Try.f32, Try.func32, rfl, rfl⟩
theorem cl33 : Callable Try.prog 33 := ⟨Try.f33, Try.func33, rfl, rfl⟩
theorem cl35 : Callable Try.prog 35 := ⟨Try.f35, Try.func35, rfl, rfl⟩
theorem cl36 : Callable Try.prog 36 := ⟨Try.f36, Try.func36, rfl, rfl⟩
theorem cl37 : Callable Try.prog 37 := ⟨Try.f37, Try.func37, rfl, rfl⟩
theorem cl38 : Callable Try.prog 38 := ⟨Try.f38, Try.func38, rfl, rfl⟩
theorem cl39 : Callable Try.prog 39 := ⟨Try.f39, Try.func39, rfl, rfl⟩
theorem cl40 : Callable Try.prog 40 := ⟨Try.f40, Try.func40, rfl, rfl⟩
theorem cl41 : Callable Try.prog 41 := ⟨Try.f41, Try.func41, rfl, rfl⟩
theorem cl42 : Callable Try.prog 42 := ⟨Try.f42, Try.func42, rfl, rfl⟩
theorem cl43 : Callable Try.prog 43 := ⟨Try.f43, Try.func43, rfl, rfl⟩
theorem cl44 : Callable Try.prog 44 := ⟨Try.f44, Try.func44, rfl, rfl⟩

set_option maxRecDepth 8000 in
set_option maxHeartbeats 2000000 in
theorem p_sennitref27_Of (a0 : Int) (r : Nat) (h : sennitref27_Of a0 = some r) : PureAt Try.prog 8 [.int .u64 a0] (.float .f64 r) := by
  refine pure_of_iwp (rs := [.float .f64 r]) Try.func8 rfl Try.ntmps8 (nle rfl) rfl fun O hO => ?_
  show IWP _ _ _ _ ⟨[(0, .int .u64 a0)], []⟩ _
  unfold sennitref27_Of at h
  refine iwp_reg (ils_cons rfl (iop_assign rfl rfl (by decide) (sv (d := .float _ _) rfl)) <|
    ils_end ?_)
  obtain ⟨x1, hx1, h⟩ := bnd_e h
  refine iwp_reg (ils_cons rfl (iop_move rfl rfl (by decide) (sv (d := .int _ _) rfl)) <|
    ils_cons rfl (iop_ffrom rfl rfl (by decide) ex29 (sv (d := .int _ _) rfl) hx1) <|
    ils_cons rfl (iop_assign rfl rfl (by decide) (sv (d := .float _ _) rfl)) <|
    ils_end ?_)
  refine iwp_ret ?_
  obtain rfl := Option.some.inj h
  refine ⟨.inr rfl, (.cons (sv rfl) .nil)⟩

set_option maxRecDepth 8000 in
set_option maxHeartbeats 2000000 in
theorem p_math_IsNaN (a0 : Nat) (r : Bool) (h : math_IsNaN a0 = some r) : PureAt Try.prog 30 [.float .f64 a0] (.bool r) := by
  refine pure_of_iwp (rs := [.bool r]) Try.func30 rfl Try.ntmps30 (nle rfl) rfl fun O hO => ?_
  show IWP _ _ _ _ ⟨[(0, .float .f64 a0)], []⟩ _
  unfold math_IsNaN at h
  refine iwp_reg (ils_cons rfl (iop_assign rfl rfl (by decide) (sv (d := .bool false) rfl)) <|
    ils_end ?_)
  obtain ⟨x1, hx1, h⟩ := bnd_e h
  refine iwp_reg (ils_cons rfl (iop_move rfl rfl (by decide) (sv (d := .float _ _) rfl)) <|
    ils_cons rfl (iop_move rfl rfl (by decide) (sv (d := .float _ _) rfl)) <|
    ils_cons rfl (iop_fcmpx rfl rfl (by decide) (sv (d := .float _ _) rfl) (sv (d := .float _ _) rfl) rfl hx1) <|
    ils_cons rfl (iop_assign rfl rfl (by decide) (sv (d := .bool _) rfl)) <|
    ils_end ?_)
  refine iwp_ret ?_
  obtain rfl := Option.some.inj h
  refine ⟨.inr rfl, (.cons (sv rfl) .nil)⟩

set_option maxRecDepth 8000 in
set_option maxHeartbeats 2000000 in
theorem p_math_Abs (a0 : Nat) (r : Nat) (h : math_Abs a0 = some r) : PureAt Try.prog 39 [.float .f64 a0] (.float .f64 r) := by
  refine pure_of_iwp (rs := [.float .f64 r]) Try.func39 rfl Try.ntmps39 (nle rfl) rfl fun O hO => ?_
  show IWP _ _ _ _ ⟨[(0, .float .f64 a0)], []⟩ _
  unfold math_Abs at h
  refine iwp_reg (ils_cons rfl (iop_assign rfl rfl (by decide) (sv (d := .float _ _) rfl)) <|
    ils_end ?_)
  obtain ⟨x1, hx1, h⟩ := bno_e h
  obtain ⟨x2, hx2, h⟩ := bnd_e h
  obtain ⟨x3, hx3, h⟩ := bnd_e h
  refine iwp_reg (ils_cons rfl (iop_move rfl rfl (by decide) (sv (d := .float _ _) rfl)) <|
    ils_cons rfl (iop_fbits rfl rfl (by decide) ex34 (sv (d := .float _ _) rfl) hx1) <|
    ils_cons rfl (iop_intx rfl rfl (by decide) (sv (d := .int _ _) rfl) (sv (d := .int _ 9223372036854775808) rfl) rfl hx2) <|
    ils_cons rfl (iop_ffrom rfl rfl (by decide) ex29 (sv (d := .int _ _) rfl) hx3) <|
    ils_cons rfl (iop_assign rfl rfl (by decide) (sv (d := .float _ _) rfl)) <|
    ils_end ?_)
  refine iwp_ret ?_
  obtain rfl := Option.some.inj h
  refine ⟨.inr rfl, (.cons (sv rfl) .nil)⟩

set_option maxRecDepth 8000 in
set_option maxHeartbeats 2000000 in
theorem p_math_IsInf (a0 : Nat) (a1 : Int) (r : Bool) (h : math_IsInf a0 a1 = some r) : PureAt Try.prog 31 [.float .f64 a0, .int .i64 a1] (.bool r) := by
  refine pure_of_iwp (rs := [.bool r]) Try.func31 rfl Try.ntmps31 (nle rfl) rfl fun O hO => ?_
  show IWP _ _ _ _ ⟨[(0, .float .f64 a0), (1, .int .i64 a1)], []⟩ _
  unfold math_IsInf at h
  refine iwp_reg (ils_cons rfl (iop_assign rfl rfl (by decide) (sv (d := .bool false) rfl)) <|
    ils_end ?_)
  refine iwp_seq ?_
  obtain ⟨x1, hx1, h⟩ := bnd_e h
  refine iwp_reg (ils_cons rfl (iop_move rfl rfl (by decide) (sv (d := .int _ _) rfl)) <|
    ils_cons rfl (iop_cmpx rfl rfl (by decide) (sv (d := .int _ _) rfl) (sv (d := .int _ 0) rfl) rfl hx1) <|
    ils_end ?_)
  refine iwp_cond (b := _) rfl (fun hc2 => ?_) (fun hc2 => ?_)
  ·
    replace h := bif_t h hc2
    obtain ⟨x3, hx3, h⟩ := bno_e h
    refine iwp_region (ils_cons rfl (iop_move rfl rfl (by decide) (sv (d := .float _ _) rfl)) <|
      ils_cons rfl (iop_call (r := .float _ _) rfl rfl (by decide) cl39 (.cons (sv (d := .float _ _) rfl) .nil) rfl (p_math_Abs _ _ hx3)) <|
      ils_cons rfl (iop_assign rfl rfl (by decide) (sv (d := .float _ _) rfl)) <|
      ils_nil ?_)
    refine thenQ_n ?_
    obtain ⟨x4, hx4, h⟩ := bnd_e h
    refine iwp_reg (ils_cons rfl (iop_move rfl rfl (by decide) (sv (d := .float _ _) rfl)) <|
      ils_cons rfl (iop_fcmpx rfl rfl (by decide) (sv (d := .float _ _) rfl) (sv (d := .float _ _) rfl) rfl hx4) <|
      ils_cons rfl (iop_assign rfl rfl (by decide) (sv (d := .bool _) rfl)) <|
      ils_end ?_)
    refine iwp_ret ?_
    obtain rfl := Option.some.inj h
    refine ⟨.inr rfl, (.cons (sv rfl) .nil)⟩
  ·
    replace h := bif_f h hc2
    obtain ⟨x5, hx5, h⟩ := bnd_e h
    refine iwp_reg (ils_cons rfl (iop_move rfl rfl (by decide) (sv (d := .int _ _) rfl)) <|
      ils_cons rfl (iop_cmpx rfl rfl (by decide) (sv (d := .int _ _) rfl) (sv (d := .int _ 0) rfl) rfl hx5) <|
      ils_end ?_)
    refine iwp_cond (b := _) rfl (fun hc6 => ?_) (fun hc6 => ?_)
    ·
      replace h := bif_t h hc6
      obtain ⟨x7, hx7, h⟩ := bnd_e h
      refine iwp_region (ils_cons rfl (iop_move rfl rfl (by decide) (sv (d := .float _ _) rfl)) <|
        ils_cons rfl (iop_fneg rfl rfl (by decide) (sv (d := .float _ _) rfl) hx7) <|
        ils_cons rfl (iop_assign rfl rfl (by decide) (sv (d := .float _ _) rfl)) <|
        ils_nil ?_)
      refine thenQ_n ?_
      obtain ⟨x8, hx8, h⟩ := bnd_e h
      refine iwp_reg (ils_cons rfl (iop_move rfl rfl (by decide) (sv (d := .float _ _) rfl)) <|
        ils_cons rfl (iop_fcmpx rfl rfl (by decide) (sv (d := .float _ _) rfl) (sv (d := .float _ _) rfl) rfl hx8) <|
        ils_cons rfl (iop_assign rfl rfl (by decide) (sv (d := .bool _) rfl)) <|
        ils_end ?_)
      refine iwp_ret ?_
      obtain rfl := Option.some.inj h
      refine ⟨.inr rfl, (.cons (sv rfl) .nil)⟩
    ·
      replace h := bif_f h hc6
      refine iwp_skip ?_
      refine thenQ_n ?_
      obtain ⟨x9, hx9, h⟩ := bnd_e h
      refine iwp_reg (ils_cons rfl (iop_move rfl rfl (by decide) (sv (d := .float _ _) rfl)) <|
        ils_cons rfl (iop_fcmpx rfl rfl (by decide) (sv (d := .float _ _) rfl) (sv (d := .float _ _) rfl) rfl hx9) <|
        ils_cons rfl (iop_assign rfl rfl (by decide) (sv (d := .bool _) rfl)) <|
        ils_end ?_)
      refine iwp_ret ?_
      obtain rfl := Option.some.inj h
      refine ⟨.inr rfl, (.cons (sv rfl) .nil)⟩

set_option maxRecDepth 8000 in
set_option maxHeartbeats 2000000 in
theorem p_math_Signbit (a0 : Nat) (r : Bool) (h : math_Signbit a0 = some r) : PureAt Try.prog 32 [.float .f64 a0] (.bool r) := by
  refine pure_of_iwp (rs := [.bool r]) Try.func32 rfl Try.ntmps32 (nle rfl) rfl fun O hO => ?_
  show IWP _ _ _ _ ⟨[(0, .float .f64 a0)], []⟩ _
  unfold math_Signbit at h
  refine iwp_reg (ils_cons rfl (iop_assign rfl rfl (by decide) (sv (d := .bool false) rfl)) <|
    ils_end ?_)
  obtain ⟨x1, hx1, h⟩ := bno_e h
  obtain ⟨x2, hx2, h⟩ := bnd_e h
  obtain ⟨x3, hx3, h⟩ := bnd_e h
  refine iwp_reg (ils_cons rfl (iop_move rfl rfl (by decide) (sv (d := .float _ _) rfl)) <|
    ils_cons rfl (iop_fbits rfl rfl (by decide) ex34 (sv (d := .float _ _) rfl) hx1) <|
    ils_cons rfl (iop_int_conv rfl rfl (by decide) ⟨_, Try.underlying22⟩ Try.underlying2 (sv (d := .int _ _) rfl) hx2) <|
    ils_cons rfl (iop_cmpx rfl rfl (by decide) (sv (d := .int _ _) rfl) (sv (d := .int _ 0) rfl) rfl hx3) <|
    ils_cons rfl (iop_assign rfl rfl (by decide) (sv (d := .bool _) rfl)) <|
    ils_end ?_)
  refine iwp_ret ?_
  obtain rfl := Option.some.inj h
  refine ⟨.inr rfl, (.cons (sv rfl) .nil)⟩

set_option maxRecDepth 8000 in
set_option maxHeartbeats 2000000 in
theorem p_gauge_Kind (a0 : Nat) (r : Int) (h : gauge_Kind a0 = some r) : PureAt Try.prog 9 [.float .f64 a0] (.int .i64 r) := by
  refine pure_of_iwp (rs := [.int .i64 r]) Try.func9 rfl Try.ntmps9 (nle rfl) rfl fun O hO => ?_
  show IWP _ _ _ _ ⟨[(0, .float .f64 a0)], []⟩ _
  unfold gauge_Kind at h
  refine iwp_reg (ils_cons rfl (iop_assign rfl rfl (by decide) (sv (d := .int _ 0) rfl)) <|
    ils_end ?_)
  refine iwp_reg (ils_cons rfl (iop_assign rfl rfl (by decide) (sv (d := .int _ 4) rfl)) <|
    ils_end ?_)
  refine iwp_join (α := Int) (fun z => ⟨[(0, .float .f64 a0), (3, .int .i64 z)], []⟩) (fun z => gauge_Kind_J0 a0 z = some r) ?_ ?_
  ·
    refine iwp_block ?_
    refine iwp_seq ?_
    refine iwp_block ?_
    refine iwp_seq ?_
    refine iwp_block ?_
    refine iwp_seq ?_
    refine iwp_block ?_
    refine iwp_seq ?_
    refine iwp_block ?_
    refine iwp_seq ?_
    refine iwp_seq ?_
    obtain ⟨x11, hx11, h⟩ := bno_e h
    refine iwp_reg (ils_cons rfl (iop_move rfl rfl (by decide) (sv (d := .float _ _) rfl)) <|
      ils_cons rfl (iop_call (r := .bool _) rfl rfl (by decide) cl30 (.cons (sv (d := .float _ _) rfl) .nil) rfl (p_math_IsNaN _ _ hx11)) <|
      ils_cons rfl (iop_assign rfl rfl (by decide) (sv (d := .bool _) rfl)) <|
      ils_end ?_)
    refine iwp_cond (b := _) rfl (fun hc12 => ?_) (fun hc12 => ?_)
    ·
      replace h := bif_t h hc12
      refine iwp_exit ?_
      refine thenQ_e ?_
      refine thenQ_e ?_
      refine blockQ_e ?_
      refine thenQ_n ?_
      refine iwp_seq ?_
      refine iwp_reg (ils_cons rfl (iop_assign rfl rfl (by decide) (sv (d := .int _ 0) rfl)) <|
        ils_end ?_)
      refine iwp_ret ?_
      refine thenQ_r ?_
      refine blockQ_r ?_
      refine thenQ_r ?_
      refine blockQ_r ?_
      refine thenQ_r ?_
      refine blockQ_r ?_
      refine thenQ_r ?_
      refine blockQ_r ?_
      refine thenQ_r ?_
      obtain rfl := Option.some.inj h
      refine ⟨.inr rfl, (.cons (sv rfl) .nil)⟩
    ·
      replace h := bif_f h hc12
      refine iwp_skip ?_
      refine thenQ_n ?_
      refine iwp_seq ?_
      obtain ⟨x13, hx13, h⟩ := bno_e h
      refine iwp_reg (ils_cons rfl (iop_move rfl rfl (by decide) (sv (d := .float _ _) rfl)) <|
        ils_cons rfl (iop_call (r := .bool _) rfl rfl (by decide) cl31 (.cons (sv (d := .float _ _) rfl) (.cons (sv (d := .int _ 0) rfl) .nil)) rfl (p_math_IsInf _ _ _ hx13)) <|
        ils_cons rfl (iop_assign rfl rfl (by decide) (sv (d := .bool _) rfl)) <|
        ils_end ?_)
      refine iwp_cond (b := _) rfl (fun hc14 => ?_) (fun hc14 => ?_)
      ·
        replace h := bif_t h hc14
        refine iwp_exit ?_
        refine thenQ_e ?_
        refine thenQ_e ?_
        refine blockQ_x rfl ?_
        refine thenQ_e ?_
        refine blockQ_e ?_
        refine thenQ_n ?_
        refine iwp_reg (ils_cons rfl (iop_assign rfl rfl (by decide) (sv (d := .int _ 6) rfl)) <|
          ils_end ?_)
        refine iwp_exit ?_
        refine blockQ_x rfl ?_
        refine thenQ_e ?_
        refine blockQ_x rfl ?_
        refine thenQ_e ?_
        refine blockQ_e ?_
        refine thenQ_n ⟨6, (fun i => i), ⟨(.cons (.same rfl rfl) (.cons (.same rfl rfl) .nil)), .nil, nd_of [] rfl (by decide), (fun i hi => by first | rfl | (show (if _ then _ else _) = _; (repeat' split) <;> omega))⟩, ?_⟩
        exact h
      ·
        replace h := bif_f h hc14
        refine iwp_skip ?_
        refine thenQ_n ?_
        obtain ⟨x15, hx15, h⟩ := bnd_e h
        refine iwp_reg (ils_cons rfl (iop_move rfl rfl (by decide) (sv (d := .float _ _) rfl)) <|
          ils_cons rfl (iop_fcmpx rfl rfl (by decide) (sv (d := .float _ _) rfl) (sv (d := .float _ _) rfl) rfl hx15) <|
          ils_cons rfl (iop_assign rfl rfl (by decide) (sv (d := .bool _) rfl)) <|
          ils_end ?_)
        refine iwp_cond (b := _) rfl (fun hc16 => ?_) (fun hc16 => ?_)
        ·
          replace h := bif_t h hc16
          refine iwp_exit ?_
          refine thenQ_e ?_
          refine blockQ_x rfl ?_
          refine thenQ_e ?_
          refine blockQ_x rfl ?_
          refine thenQ_e ?_
          refine blockQ_e ?_
          refine thenQ_n ?_
          refine iwp_region (ils_cons rfl (iop_assign rfl rfl (by decide) (sv (d := .int _ 5) rfl)) <|
            ils_nil ?_)
          refine blockQ_n ?_
          refine thenQ_n ?_
          refine iwp_exit ?_
          refine blockQ_e ?_
          refine thenQ_n ⟨5, (fun i => i), ⟨(.cons (.same rfl rfl) (.cons (.same rfl rfl) .nil)), .nil, nd_of [] rfl (by decide), (fun i hi => by first | rfl | (show (if _ then _ else _) = _; (repeat' split) <;> omega))⟩, ?_⟩
          exact h
        ·
          replace h := bif_f h hc16
          refine iwp_skip ?_
          refine thenQ_n ?_
          refine iwp_exit ?_
          refine blockQ_x rfl ?_
          refine thenQ_e ?_
          refine blockQ_x rfl ?_
          refine thenQ_e ?_
          refine blockQ_x rfl ?_
          refine thenQ_e ?_
          refine blockQ_e ?_
          refine thenQ_n ?_
          refine iwp_exit ?_
          refine blockQ_e ?_
          refine thenQ_n ⟨4, (fun i => i), ⟨(.cons (.same rfl rfl) (.cons (.same rfl rfl) .nil)), .nil, nd_of [] rfl (by decide), (fun i hi => by first | rfl | (show (if _ then _ else _) = _; (repeat' split) <;> omega))⟩, ?_⟩
          exact h
  ·
    rintro v7 h
    unfold gauge_Kind_J0 at h
    refine iwp_seq ?_
    obtain ⟨x8, hx8, h⟩ := bno_e h
    refine iwp_reg (ils_cons rfl (iop_move rfl rfl (by decide) (sv (d := .float _ _) rfl)) <|
      ils_cons rfl (iop_call (r := .bool _) rfl rfl (by decide) cl32 (.cons (sv (d := .float _ _) rfl) .nil) rfl (p_math_Signbit _ _ hx8)) <|
      ils_cons rfl (iop_not rfl rfl (by decide) (sv (d := .bool _) rfl)) <|
      ils_end ?_)
    refine iwp_cond (b := _) rfl (fun hc9 => ?_) (fun hc9 => ?_)
    ·
      replace h := bif_t h hc9
      refine iwp_reg (ils_cons rfl (iop_move rfl rfl (by decide) (sv (d := .int _ _) rfl)) <|
        ils_cons rfl (iop_assign rfl rfl (by decide) (sv (d := .int _ _) rfl)) <|
        ils_end ?_)
      refine iwp_ret ?_
      refine thenQ_r ?_
      obtain rfl := Option.some.inj h
      refine ⟨.inr rfl, (.cons (sv rfl) .nil)⟩
    ·
      replace h := bif_f h hc9
      refine iwp_skip ?_
      refine thenQ_n ?_
      obtain ⟨x10, hx10, h⟩ := bnd_e h
      refine iwp_reg (ils_cons rfl (iop_move rfl rfl (by decide) (sv (d := .int _ _) rfl)) <|
        ils_cons rfl (iop_intx rfl rfl (by decide) (sv (d := .int _ 7) rfl) (sv (d := .int _ _) rfl) rfl hx10) <|
        ils_cons rfl (iop_assign rfl rfl (by decide) (sv (d := .int _ _) rfl)) <|
        ils_end ?_)
      refine iwp_ret ?_
      obtain rfl := Option.some.inj h
      refine ⟨.inr rfl, (.cons (sv rfl) .nil)⟩

set_option maxRecDepth 8000 in
set_option maxHeartbeats 2000000 in
theorem p_sennitref27_nan (a0 : Nat) (r : Bool) (h : sennitref27_nan a0 = some r) : PureAt Try.prog 33 [.float .f64 a0] (.bool r) := by
  refine pure_of_iwp (rs := [.bool r]) Try.func33 rfl Try.ntmps33 (nle rfl) rfl fun O hO => ?_
  show IWP _ _ _ _ ⟨[(0, .float .f64 a0)], []⟩ _
  unfold sennitref27_nan at h
  refine iwp_reg (ils_cons rfl (iop_assign rfl rfl (by decide) (sv (d := .bool false) rfl)) <|
    ils_end ?_)
  obtain ⟨x1, hx1, h⟩ := bnd_e h
  refine iwp_reg (ils_cons rfl (iop_move rfl rfl (by decide) (sv (d := .float _ _) rfl)) <|
    ils_cons rfl (iop_move rfl rfl (by decide) (sv (d := .float _ _) rfl)) <|
    ils_cons rfl (iop_fcmpx rfl rfl (by decide) (sv (d := .float _ _) rfl) (sv (d := .float _ _) rfl) rfl hx1) <|
    ils_cons rfl (iop_assign rfl rfl (by decide) (sv (d := .bool _) rfl)) <|
    ils_end ?_)
  refine iwp_ret ?_
  obtain rfl := Option.some.inj h
  refine ⟨.inr rfl, (.cons (sv rfl) .nil)⟩

set_option maxRecDepth 8000 in
set_option maxHeartbeats 2000000 in
theorem p_sennitref27_Kind (a0 : Nat) (r : Int) (h : sennitref27_Kind a0 = some r) : PureAt Try.prog 10 [.float .f64 a0] (.int .i64 r) := by
  refine pure_of_iwp (rs := [.int .i64 r]) Try.func10 rfl Try.ntmps10 (nle rfl) rfl fun O hO => ?_
  show IWP _ _ _ _ ⟨[(0, .float .f64 a0)], []⟩ _
  unfold sennitref27_Kind at h
  refine iwp_reg (ils_cons rfl (iop_assign rfl rfl (by decide) (sv (d := .int _ 0) rfl)) <|
    ils_end ?_)
  refine iwp_seq ?_
  refine iwp_block ?_
  obtain ⟨x1, hx1, h⟩ := bno_e h
  refine iwp_reg (ils_cons rfl (iop_move rfl rfl (by decide) (sv (d := .float _ _) rfl)) <|
    ils_cons rfl (iop_call (r := .bool _) rfl rfl (by decide) cl33 (.cons (sv (d := .float _ _) rfl) .nil) rfl (p_sennitref27_nan _ _ hx1)) <|
    ils_cons rfl (iop_assign rfl rfl (by decide) (sv (d := .bool _) rfl)) <|
    ils_end ?_)
  refine iwp_cond (b := _) rfl (fun hc2 => ?_) (fun hc2 => ?_)
  ·
    replace h := bif_t h hc2
    refine iwp_reg (ils_cons rfl (iop_assign rfl rfl (by decide) (sv (d := .int _ 0) rfl)) <|
      ils_end ?_)
    refine iwp_ret ?_
    refine blockQ_r ?_
    refine thenQ_r ?_
    obtain rfl := Option.some.inj h
    refine ⟨.inr rfl, (.cons (sv rfl) .nil)⟩
  ·
    replace h := bif_f h hc2
    obtain ⟨x3, hx3, h⟩ := bnd_e h
    refine iwp_reg (ils_cons rfl (iop_move rfl rfl (by decide) (sv (d := .float _ _) rfl)) <|
      ils_cons rfl (iop_fcmpx rfl rfl (by decide) (sv (d := .float _ _) rfl) (sv (d := .float _ _) rfl) rfl hx3) <|
      ils_cons rfl (iop_assign rfl rfl (by decide) (sv (d := .bool _) rfl)) <|
      ils_end ?_)
    refine iwp_cond (b := _) rfl (fun hc4 => ?_) (fun hc4 => ?_)
    ·
      replace h := bif_t h hc4
      refine iwp_reg (ils_cons rfl (iop_assign rfl rfl (by decide) (sv (d := .int _ 1) rfl)) <|
        ils_end ?_)
      refine iwp_ret ?_
      refine blockQ_r ?_
      refine thenQ_r ?_
      obtain rfl := Option.some.inj h
      refine ⟨.inr rfl, (.cons (sv rfl) .nil)⟩
    ·
      replace h := bif_f h hc4
      obtain ⟨x5, hx5, h⟩ := bnd_e h
      refine iwp_reg (ils_cons rfl (iop_move rfl rfl (by decide) (sv (d := .float _ _) rfl)) <|
        ils_cons rfl (iop_fcmpx rfl rfl (by decide) (sv (d := .float _ _) rfl) (sv (d := .float _ _) rfl) rfl hx5) <|
        ils_cons rfl (iop_assign rfl rfl (by decide) (sv (d := .bool _) rfl)) <|
        ils_end ?_)
      refine iwp_cond (b := _) rfl (fun hc6 => ?_) (fun hc6 => ?_)
      ·
        replace h := bif_t h hc6
        refine iwp_reg (ils_cons rfl (iop_assign rfl rfl (by decide) (sv (d := .int _ 2) rfl)) <|
          ils_end ?_)
        refine iwp_ret ?_
        refine blockQ_r ?_
        refine thenQ_r ?_
        obtain rfl := Option.some.inj h
        refine ⟨.inr rfl, (.cons (sv rfl) .nil)⟩
      ·
        replace h := bif_f h hc6
        obtain ⟨x7, hx7, h⟩ := bnd_e h
        refine iwp_reg (ils_cons rfl (iop_move rfl rfl (by decide) (sv (d := .float _ _) rfl)) <|
          ils_cons rfl (iop_fcmpx rfl rfl (by decide) (sv (d := .float _ _) rfl) (sv (d := .float _ _) rfl) rfl hx7) <|
          ils_cons rfl (iop_assign rfl rfl (by decide) (sv (d := .bool _) rfl)) <|
          ils_end ?_)
        refine iwp_cond (b := _) rfl (fun hc8 => ?_) (fun hc8 => ?_)
        ·
          replace h := bif_t h hc8
          refine iwp_reg (ils_cons rfl (iop_assign rfl rfl (by decide) (sv (d := .int _ 6) rfl)) <|
            ils_end ?_)
          refine iwp_ret ?_
          refine blockQ_r ?_
          refine thenQ_r ?_
          obtain rfl := Option.some.inj h
          refine ⟨.inr rfl, (.cons (sv rfl) .nil)⟩
        ·
          replace h := bif_f h hc8
          obtain ⟨x9, hx9, h⟩ := bnd_e h
          refine iwp_reg (ils_cons rfl (iop_move rfl rfl (by decide) (sv (d := .float _ _) rfl)) <|
            ils_cons rfl (iop_fcmpx rfl rfl (by decide) (sv (d := .float _ _) rfl) (sv (d := .float _ _) rfl) rfl hx9) <|
            ils_cons rfl (iop_assign rfl rfl (by decide) (sv (d := .bool _) rfl)) <|
            ils_end ?_)
          refine iwp_cond (b := _) rfl (fun hc10 => ?_) (fun hc10 => ?_)
          ·
            replace h := bif_t h hc10
            refine iwp_reg (ils_cons rfl (iop_assign rfl rfl (by decide) (sv (d := .int _ 5) rfl)) <|
              ils_end ?_)
            refine iwp_ret ?_
            refine blockQ_r ?_
            refine thenQ_r ?_
            obtain rfl := Option.some.inj h
            refine ⟨.inr rfl, (.cons (sv rfl) .nil)⟩
          ·
            replace h := bif_f h hc10
            obtain ⟨x11, hx11, h⟩ := bno_e h
            obtain ⟨x12, hx12, h⟩ := bnd_e h
            refine iwp_reg (ils_cons rfl (iop_move rfl rfl (by decide) (sv (d := .float _ _) rfl)) <|
              ils_cons rfl (iop_fbits rfl rfl (by decide) ex34 (sv (d := .float _ _) rfl) hx11) <|
              ils_cons rfl (iop_cmpx rfl rfl (by decide) (sv (d := .int _ _) rfl) (sv (d := .int _ 0) rfl) rfl hx12) <|
              ils_cons rfl (iop_assign rfl rfl (by decide) (sv (d := .bool _) rfl)) <|
              ils_end ?_)
            refine iwp_cond (b := _) rfl (fun hc13 => ?_) (fun hc13 => ?_)
            ·
              replace h := bif_t h hc13
              refine iwp_reg (ils_cons rfl (iop_assign rfl rfl (by decide) (sv (d := .int _ 3) rfl)) <|
                ils_end ?_)
              refine iwp_ret ?_
              refine blockQ_r ?_
              refine thenQ_r ?_
              obtain rfl := Option.some.inj h
              refine ⟨.inr rfl, (.cons (sv rfl) .nil)⟩
            ·
              replace h := bif_f h hc13
              refine iwp_skip ?_
              refine blockQ_n ?_
              refine thenQ_n ?_
              refine iwp_reg (ils_cons rfl (iop_assign rfl rfl (by decide) (sv (d := .int _ 4) rfl)) <|
                ils_end ?_)
              refine iwp_ret ?_
              obtain rfl := Option.some.inj h
              refine ⟨.inr rfl, (.cons (sv rfl) .nil)⟩

set_option maxRecDepth 8000 in
set_option maxHeartbeats 2000000 in
theorem p_gauge_Bits (a0 : Nat) (r : Int) (h : gauge_Bits a0 = some r) : PureAt Try.prog 11 [.float .f64 a0] (.int .u64 r) := by
  refine pure_of_iwp (rs := [.int .u64 r]) Try.func11 rfl Try.ntmps11 (nle rfl) rfl fun O hO => ?_
  show IWP _ _ _ _ ⟨[(0, .float .f64 a0)], []⟩ _
  unfold gauge_Bits at h
  refine iwp_reg (ils_cons rfl (iop_assign rfl rfl (by decide) (sv (d := .int _ 0) rfl)) <|
    ils_end ?_)
  refine iwp_seq ?_
  obtain ⟨x1, hx1, h⟩ := bno_e h
  refine iwp_reg (ils_cons rfl (iop_move rfl rfl (by decide) (sv (d := .float _ _) rfl)) <|
    ils_cons rfl (iop_call (r := .bool _) rfl rfl (by decide) cl30 (.cons (sv (d := .float _ _) rfl) .nil) rfl (p_math_IsNaN _ _ hx1)) <|
    ils_end ?_)
  refine iwp_cond (b := _) rfl (fun hc2 => ?_) (fun hc2 => ?_)
  ·
    replace h := bif_t h hc2
    refine iwp_reg (ils_cons rfl (iop_assign rfl rfl (by decide) (sv (d := .int _ 9221120237041090561) rfl)) <|
      ils_end ?_)
    refine iwp_ret ?_
    refine thenQ_r ?_
    obtain rfl := Option.some.inj h
    refine ⟨.inr rfl, (.cons (sv rfl) .nil)⟩
  ·
    replace h := bif_f h hc2
    refine iwp_skip ?_
    refine thenQ_n ?_
    obtain ⟨x3, hx3, h⟩ := bno_e h
    refine iwp_reg (ils_cons rfl (iop_move rfl rfl (by decide) (sv (d := .float _ _) rfl)) <|
      ils_cons rfl (iop_fbits rfl rfl (by decide) ex34 (sv (d := .float _ _) rfl) hx3) <|
      ils_cons rfl (iop_assign rfl rfl (by decide) (sv (d := .int _ _) rfl)) <|
      ils_end ?_)
    refine iwp_ret ?_
    obtain rfl := Option.some.inj h
    refine ⟨.inr rfl, (.cons (sv rfl) .nil)⟩

set_option maxRecDepth 8000 in
set_option maxHeartbeats 2000000 in
theorem p_sennitref27_Bits (a0 : Nat) (r : Int) (h : sennitref27_Bits a0 = some r) : PureAt Try.prog 12 [.float .f64 a0] (.int .u64 r) := by
  refine pure_of_iwp (rs := [.int .u64 r]) Try.func12 rfl Try.ntmps12 (nle rfl) rfl fun O hO => ?_
  show IWP _ _ _ _ ⟨[(0, .float .f64 a0)], []⟩ _
  unfold sennitref27_Bits at h
  refine iwp_reg (ils_cons rfl (iop_assign rfl rfl (by decide) (sv (d := .int _ 0) rfl)) <|
    ils_end ?_)
  refine iwp_seq ?_
  obtain ⟨x1, hx1, h⟩ := bno_e h
  refine iwp_reg (ils_cons rfl (iop_move rfl rfl (by decide) (sv (d := .float _ _) rfl)) <|
    ils_cons rfl (iop_call (r := .bool _) rfl rfl (by decide) cl33 (.cons (sv (d := .float _ _) rfl) .nil) rfl (p_sennitref27_nan _ _ hx1)) <|
    ils_end ?_)
  refine iwp_cond (b := _) rfl (fun hc2 => ?_) (fun hc2 => ?_)
  ·
    replace h := bif_t h hc2
    refine iwp_reg (ils_cons rfl (iop_assign rfl rfl (by decide) (sv (d := .int _ 9221120237041090561) rfl)) <|
      ils_end ?_)
    refine iwp_ret ?_
    refine thenQ_r ?_
    obtain rfl := Option.some.inj h
    refine ⟨.inr rfl, (.cons (sv rfl) .nil)⟩
  ·
    replace h := bif_f h hc2
    refine iwp_skip ?_
    refine thenQ_n ?_
    obtain ⟨x3, hx3, h⟩ := bno_e h
    refine iwp_reg (ils_cons rfl (iop_move rfl rfl (by decide) (sv (d := .float _ _) rfl)) <|
      ils_cons rfl (iop_fbits rfl rfl (by decide) ex34 (sv (d := .float _ _) rfl) hx3) <|
      ils_cons rfl (iop_assign rfl rfl (by decide) (sv (d := .int _ _) rfl)) <|
      ils_end ?_)
    refine iwp_ret ?_
    obtain rfl := Option.some.inj h
    refine ⟨.inr rfl, (.cons (sv rfl) .nil)⟩

set_option maxRecDepth 8000 in
set_option maxHeartbeats 2000000 in
theorem p_gauge_Same (a0 : Nat) (a1 : Nat) (r : Bool) (h : gauge_Same a0 a1 = some r) : PureAt Try.prog 13 [.float .f64 a0, .float .f64 a1] (.bool r) := by
  refine pure_of_iwp (rs := [.bool r]) Try.func13 rfl Try.ntmps13 (nle rfl) rfl fun O hO => ?_
  show IWP _ _ _ _ ⟨[(0, .float .f64 a0), (1, .float .f64 a1)], []⟩ _
  unfold gauge_Same at h
  refine iwp_reg (ils_cons rfl (iop_assign rfl rfl (by decide) (sv (d := .bool false) rfl)) <|
    ils_end ?_)
  obtain ⟨x1, hx1, h⟩ := bno_e h
  obtain ⟨x2, hx2, h⟩ := bno_e h
  obtain ⟨x3, hx3, h⟩ := bnd_e h
  refine iwp_reg (ils_cons rfl (iop_move rfl rfl (by decide) (sv (d := .float _ _) rfl)) <|
    ils_cons rfl (iop_call (r := .int _ _) rfl rfl (by decide) cl11 (.cons (sv (d := .float _ _) rfl) .nil) rfl (p_gauge_Bits _ _ hx1)) <|
    ils_cons rfl (iop_move rfl rfl (by decide) (sv (d := .float _ _) rfl)) <|
    ils_cons rfl (iop_call (r := .int _ _) rfl rfl (by decide) cl11 (.cons (sv (d := .float _ _) rfl) .nil) rfl (p_gauge_Bits _ _ hx2)) <|
    ils_cons rfl (iop_cmpx rfl rfl (by decide) (sv (d := .int _ _) rfl) (sv (d := .int _ _) rfl) rfl hx3) <|
    ils_cons rfl (iop_assign rfl rfl (by decide) (sv (d := .bool _) rfl)) <|
    ils_end ?_)
  refine iwp_ret ?_
  obtain rfl := Option.some.inj h
  refine ⟨.inr rfl, (.cons (sv rfl) .nil)⟩

set_option maxRecDepth 8000 in
set_option maxHeartbeats 2000000 in
theorem p_gauge_Compare (a0 : Nat) (a1 : Nat) (r : Int) (h : gauge_Compare a0 a1 = some r) : PureAt Try.prog 14 [.float .f64 a0, .float .f64 a1] (.int .i64 r) := by
  refine pure_of_iwp (rs := [.int .i64 r]) Try.func14 rfl Try.ntmps14 (nle rfl) rfl fun O hO => ?_
  show IWP _ _ _ _ ⟨[(0, .float .f64 a0), (1, .float .f64 a1)], []⟩ _
  unfold gauge_Compare at h
  refine iwp_reg (ils_cons rfl (iop_assign rfl rfl (by decide) (sv (d := .int _ 0) rfl)) <|
    ils_end ?_)
  refine iwp_seq ?_
  refine iwp_block ?_
  refine iwp_join (α := Bool) (fun z => ⟨[(0, .float .f64 a0), (1, .float .f64 a1), (5, .bool z)], []⟩) (fun z => gauge_Compare_J0 a0 a1 z = some r) ?_ ?_
  ·
    obtain ⟨x14, hx14, h⟩ := bnd_e h
    refine iwp_reg (ils_cons rfl (iop_move rfl rfl (by decide) (sv (d := .float _ _) rfl)) <|
      ils_cons rfl (iop_move rfl rfl (by decide) (sv (d := .float _ _) rfl)) <|
      ils_cons rfl (iop_fcmpx rfl rfl (by decide) (sv (d := .float _ _) rfl) (sv (d := .float _ _) rfl) rfl hx14) <|
      ils_cons rfl (iop_assign rfl rfl (by decide) (sv (d := .bool _) rfl)) <|
      ils_end ?_)
    refine iwp_cond (b := _) rfl (fun hc15 => ?_) (fun hc15 => ?_)
    ·
      replace h := bif_t h hc15
      refine iwp_skip ?_
      refine thenQ_n ⟨x14, (fun i => i), ⟨(.cons (.same rfl rfl) (.cons (.same rfl rfl) (.cons (.same rfl rfl) .nil))), .nil, nd_of [] rfl (by decide), (fun i hi => by first | rfl | (show (if _ then _ else _) = _; (repeat' split) <;> omega))⟩, ?_⟩
      exact h
    ·
      replace h := bif_f h hc15
      obtain ⟨x16, hx16, h⟩ := bno_e h
      obtain ⟨x17, hx17, h⟩ := bno_e h
      obtain ⟨x18, hx18, h⟩ := bnd_e h
      refine iwp_region (ils_cons rfl (iop_move rfl rfl (by decide) (sv (d := .float _ _) rfl)) <|
        ils_cons rfl (iop_call (r := .bool _) rfl rfl (by decide) cl30 (.cons (sv (d := .float _ _) rfl) .nil) rfl (p_math_IsNaN _ _ hx16)) <|
        ils_cons rfl (iop_move rfl rfl (by decide) (sv (d := .bool _) rfl)) <|
        ils_guard rfl rfl (.one rfl) rfl (by decide) (fun hb => (iop_move rfl rfl (by decide) (sv (d := .float _ _) rfl))) <|
        ils_guard rfl rfl (.one rfl) rfl (by decide) (fun hb => (iop_call (r := .bool _) rfl rfl (by decide) cl30 (.cons (svc (d := .float _ _) rfl hb) .nil) rfl (p_math_IsNaN _ _ (gd_t hx17 hb)))) <|
        ils_guard rfl rfl (.one rfl) rfl (by decide) (fun hb => (iop_not rfl rfl (by decide) (svc (d := .bool _) rfl hb))) <|
        ils_cons rfl (iop_andx rfl rfl (by decide) (sv (d := .bool _) rfl) rfl rfl hx18) <|
        ils_cons rfl (iop_assign rfl rfl (by decide) (sv (d := .bool _) rfl)) <|
        ils_nil ?_)
      refine thenQ_n ⟨x18, (fun i => i), ⟨(.cons (.same rfl rfl) (.cons (.same rfl rfl) (.cons (.same rfl rfl) .nil))), .nil, nd_of [] rfl (by decide), (fun i hi => by first | rfl | (show (if _ then _ else _) = _; (repeat' split) <;> omega))⟩, ?_⟩
      exact h
  ·
    rintro v6 h
    unfold gauge_Compare_J0 at h
    refine iwp_cond (b := _) rfl (fun hc7 => ?_) (fun hc7 => ?_)
    ·
      replace h := bif_t h hc7
      refine iwp_reg (ils_cons rfl (iop_assign rfl rfl (by decide) (sv (d := .int _ (-1)) rfl)) <|
        ils_end ?_)
      refine iwp_ret ?_
      refine blockQ_r ?_
      refine thenQ_r ?_
      obtain rfl := Option.some.inj h
      refine ⟨.inr rfl, (.cons (sv rfl) .nil)⟩
    ·
      replace h := bif_f h hc7
      refine iwp_seq ?_
      obtain ⟨x8, hx8, h⟩ := bnd_e h
      refine iwp_reg (ils_cons rfl (iop_move rfl rfl (by decide) (sv (d := .float _ _) rfl)) <|
        ils_cons rfl (iop_move rfl rfl (by decide) (sv (d := .float _ _) rfl)) <|
        ils_cons rfl (iop_fcmpx rfl rfl (by decide) (sv (d := .float _ _) rfl) (sv (d := .float _ _) rfl) rfl hx8) <|
        ils_cons rfl (iop_assign rfl rfl (by decide) (sv (d := .bool _) rfl)) <|
        ils_end ?_)
      refine iwp_cond (b := _) rfl (fun hc9 => ?_) (fun hc9 => ?_)
      ·
        replace h := bif_t h hc9
        refine iwp_skip ?_
        refine thenQ_n ?_
        refine iwp_cond_t rfl hc9 ?_
        refine iwp_reg (ils_cons rfl (iop_assign rfl rfl (by decide) (sv (d := .int _ 1) rfl)) <|
          ils_end ?_)
        refine iwp_ret ?_
        refine blockQ_r ?_
        refine thenQ_r ?_
        obtain rfl := Option.some.inj h
        refine ⟨.inr rfl, (.cons (sv rfl) .nil)⟩
      ·
        replace h := bif_f h hc9
        obtain ⟨x10, hx10, h⟩ := bno_e h
        obtain ⟨x11, hx11, h⟩ := bno_e h
        obtain ⟨x12, hx12, h⟩ := bnd_e h
        refine iwp_region (ils_cons rfl (iop_move rfl rfl (by decide) (sv (d := .float _ _) rfl)) <|
          ils_cons rfl (iop_call (r := .bool _) rfl rfl (by decide) cl30 (.cons (sv (d := .float _ _) rfl) .nil) rfl (p_math_IsNaN _ _ hx10)) <|
          ils_cons rfl (iop_move rfl rfl (by decide) (sv (d := .bool _) rfl)) <|
          ils_guard rfl rfl (.one rfl) rfl (by decide) (fun hb => (iop_move rfl rfl (by decide) (sv (d := .float _ _) rfl))) <|
          ils_guard rfl rfl (.one rfl) rfl (by decide) (fun hb => (iop_call (r := .bool _) rfl rfl (by decide) cl30 (.cons (svc (d := .float _ _) rfl hb) .nil) rfl (p_math_IsNaN _ _ (gd_t hx11 hb)))) <|
          ils_guard rfl rfl (.one rfl) rfl (by decide) (fun hb => (iop_not rfl rfl (by decide) (svc (d := .bool _) rfl hb))) <|
          ils_cons rfl (iop_andx rfl rfl (by decide) (sv (d := .bool _) rfl) rfl rfl hx12) <|
          ils_cons rfl (iop_assign rfl rfl (by decide) (sv (d := .bool _) rfl)) <|
          ils_nil ?_)
        refine thenQ_n ?_
        refine iwp_cond (b := _) rfl (fun hc13 => ?_) (fun hc13 => ?_)
        ·
          replace h := bif_t h hc13
          refine iwp_reg (ils_cons rfl (iop_assign rfl rfl (by decide) (sv (d := .int _ 1) rfl)) <|
            ils_end ?_)
          refine iwp_ret ?_
          refine blockQ_r ?_
          refine thenQ_r ?_
          obtain rfl := Option.some.inj h
          refine ⟨.inr rfl, (.cons (sv rfl) .nil)⟩
        ·
          replace h := bif_f h hc13
          refine iwp_skip ?_
          refine blockQ_n ?_
          refine thenQ_n ?_
          refine iwp_reg (ils_cons rfl (iop_assign rfl rfl (by decide) (sv (d := .int _ 0) rfl)) <|
            ils_end ?_)
          refine iwp_ret ?_
          obtain rfl := Option.some.inj h
          refine ⟨.inr rfl, (.cons (sv rfl) .nil)⟩

set_option maxRecDepth 8000 in
set_option maxHeartbeats 2000000 in
theorem p_sennitref27_Compare (a0 : Nat) (a1 : Nat) (r : Int) (h : sennitref27_Compare a0 a1 = some r) : PureAt Try.prog 15 [.float .f64 a0, .float .f64 a1] (.int .i64 r) := by
  refine pure_of_iwp (rs := [.int .i64 r]) Try.func15 rfl Try.ntmps15 (nle rfl) rfl fun O hO => ?_
  show IWP _ _ _ _ ⟨[(0, .float .f64 a0), (1, .float .f64 a1)], []⟩ _
  unfold sennitref27_Compare at h
  refine iwp_reg (ils_cons rfl (iop_assign rfl rfl (by decide) (sv (d := .int _ 0) rfl)) <|
    ils_end ?_)
  refine iwp_seq ?_
  refine iwp_block ?_
  obtain ⟨x1, hx1, h⟩ := bno_e h
  obtain ⟨x2, hx2, h⟩ := bno_e h
  obtain ⟨x3, hx3, h⟩ := bnd_e h
  refine iwp_reg (ils_cons rfl (iop_move rfl rfl (by decide) (sv (d := .float _ _) rfl)) <|
    ils_cons rfl (iop_call (r := .bool _) rfl rfl (by decide) cl33 (.cons (sv (d := .float _ _) rfl) .nil) rfl (p_sennitref27_nan _ _ hx1)) <|
    ils_cons rfl (iop_move rfl rfl (by decide) (sv (d := .bool _) rfl)) <|
    ils_guard rfl rfl (.one rfl) rfl (by decide) (fun hb => (iop_move rfl rfl (by decide) (sv (d := .float _ _) rfl))) <|
    ils_guard rfl rfl (.one rfl) rfl (by decide) (fun hb => (iop_call (r := .bool _) rfl rfl (by decide) cl33 (.cons (svc (d := .float _ _) rfl hb) .nil) rfl (p_sennitref27_nan _ _ (gd_t hx2 hb)))) <|
    ils_cons rfl (iop_andx rfl rfl (by decide) (sv (d := .bool _) rfl) rfl rfl hx3) <|
    ils_cons rfl (iop_assign rfl rfl (by decide) (sv (d := .bool _) rfl)) <|
    ils_end ?_)
  refine iwp_cond (b := _) rfl (fun hc4 => ?_) (fun hc4 => ?_)
  ·
    replace h := bif_t h hc4
    refine iwp_reg (ils_cons rfl (iop_assign rfl rfl (by decide) (sv (d := .int _ 0) rfl)) <|
      ils_end ?_)
    refine iwp_ret ?_
    refine blockQ_r ?_
    refine thenQ_r ?_
    obtain rfl := Option.some.inj h
    refine ⟨.inr rfl, (.cons (sv rfl) .nil)⟩
  ·
    replace h := bif_f h hc4
    obtain ⟨x5, hx5, h⟩ := bno_e h
    obtain ⟨x6, hx6, h⟩ := bnd_e h
    obtain ⟨x7, hx7, h⟩ := bnd_e h
    refine iwp_reg (ils_cons rfl (iop_move rfl rfl (by decide) (sv (d := .float _ _) rfl)) <|
      ils_cons rfl (iop_call (r := .bool _) rfl rfl (by decide) cl33 (.cons (sv (d := .float _ _) rfl) .nil) rfl (p_sennitref27_nan _ _ hx5)) <|
      ils_cons rfl (iop_move rfl rfl (by decide) (sv (d := .bool _) rfl)) <|
      ils_guard rfl rfl (.one rfl) rfl (by decide) (fun hb => (iop_move rfl rfl (by decide) (sv (d := .float _ _) rfl))) <|
      ils_guard rfl rfl (.one rfl) rfl (by decide) (fun hb => (iop_move rfl rfl (by decide) (sv (d := .float _ _) rfl))) <|
      ils_guard rfl rfl (.one rfl) rfl (by decide) (fun hb => (iop_fcmpx rfl rfl (by decide) (svc (d := .float _ _) rfl hb) (svc (d := .float _ _) rfl hb) rfl hx6)) <|
      ils_cons rfl (iop_orx rfl rfl (by decide) (sv (d := .bool _) rfl) rfl rfl hx7) <|
      ils_cons rfl (iop_assign rfl rfl (by decide) (sv (d := .bool _) rfl)) <|
      ils_end ?_)
    refine iwp_cond (b := _) rfl (fun hc8 => ?_) (fun hc8 => ?_)
    ·
      replace h := bif_t h hc8
      refine iwp_reg (ils_cons rfl (iop_assign rfl rfl (by decide) (sv (d := .int _ (-1)) rfl)) <|
        ils_end ?_)
      refine iwp_ret ?_
      refine blockQ_r ?_
      refine thenQ_r ?_
      obtain rfl := Option.some.inj h
      refine ⟨.inr rfl, (.cons (sv rfl) .nil)⟩
    ·
      replace h := bif_f h hc8
      obtain ⟨x9, hx9, h⟩ := bno_e h
      obtain ⟨x10, hx10, h⟩ := bnd_e h
      obtain ⟨x11, hx11, h⟩ := bnd_e h
      refine iwp_reg (ils_cons rfl (iop_move rfl rfl (by decide) (sv (d := .float _ _) rfl)) <|
        ils_cons rfl (iop_call (r := .bool _) rfl rfl (by decide) cl33 (.cons (sv (d := .float _ _) rfl) .nil) rfl (p_sennitref27_nan _ _ hx9)) <|
        ils_cons rfl (iop_move rfl rfl (by decide) (sv (d := .bool _) rfl)) <|
        ils_guard rfl rfl (.one rfl) rfl (by decide) (fun hb => (iop_move rfl rfl (by decide) (sv (d := .float _ _) rfl))) <|
        ils_guard rfl rfl (.one rfl) rfl (by decide) (fun hb => (iop_move rfl rfl (by decide) (sv (d := .float _ _) rfl))) <|
        ils_guard rfl rfl (.one rfl) rfl (by decide) (fun hb => (iop_fcmpx rfl rfl (by decide) (svc (d := .float _ _) rfl hb) (svc (d := .float _ _) rfl hb) rfl hx10)) <|
        ils_cons rfl (iop_orx rfl rfl (by decide) (sv (d := .bool _) rfl) rfl rfl hx11) <|
        ils_cons rfl (iop_assign rfl rfl (by decide) (sv (d := .bool _) rfl)) <|
        ils_end ?_)
      refine iwp_cond (b := _) rfl (fun hc12 => ?_) (fun hc12 => ?_)
      ·
        replace h := bif_t h hc12
        refine iwp_reg (ils_cons rfl (iop_assign rfl rfl (by decide) (sv (d := .int _ 1) rfl)) <|
          ils_end ?_)
        refine iwp_ret ?_
        refine blockQ_r ?_
        refine thenQ_r ?_
        obtain rfl := Option.some.inj h
        refine ⟨.inr rfl, (.cons (sv rfl) .nil)⟩
      ·
        replace h := bif_f h hc12
        refine iwp_skip ?_
        refine blockQ_n ?_
        refine thenQ_n ?_
        refine iwp_reg (ils_cons rfl (iop_assign rfl rfl (by decide) (sv (d := .int _ 0) rfl)) <|
          ils_end ?_)
        refine iwp_ret ?_
        obtain rfl := Option.some.inj h
        refine ⟨.inr rfl, (.cons (sv rfl) .nil)⟩

set_option maxRecDepth 8000 in
set_option maxHeartbeats 2000000 in
theorem p_gauge_Smooth (a0 : Nat) (a1 : Nat) (r : Nat) (h : gauge_Smooth a0 a1 = some r) : PureAt Try.prog 16 [.float .f64 a0, .float .f64 a1] (.float .f64 r) := by
  refine pure_of_iwp (rs := [.float .f64 r]) Try.func16 rfl Try.ntmps16 (nle rfl) rfl fun O hO => ?_
  show IWP _ _ _ _ ⟨[(0, .float .f64 a0), (1, .float .f64 a1)], []⟩ _
  unfold gauge_Smooth at h
  refine iwp_reg (ils_cons rfl (iop_assign rfl rfl (by decide) (sv (d := .float _ _) rfl)) <|
    ils_end ?_)
  refine iwp_seq ?_
  obtain ⟨x1, hx1, h⟩ := bno_e h
  refine iwp_reg (ils_cons rfl (iop_move rfl rfl (by decide) (sv (d := .float _ _) rfl)) <|
    ils_cons rfl (iop_call (r := .bool _) rfl rfl (by decide) cl30 (.cons (sv (d := .float _ _) rfl) .nil) rfl (p_math_IsNaN _ _ hx1)) <|
    ils_end ?_)
  refine iwp_cond (b := _) rfl (fun hc2 => ?_) (fun hc2 => ?_)
  ·
    replace h := bif_t h hc2
    refine iwp_reg (ils_cons rfl (iop_move rfl rfl (by decide) (sv (d := .float _ _) rfl)) <|
      ils_cons rfl (iop_assign rfl rfl (by decide) (sv (d := .float _ _) rfl)) <|
      ils_end ?_)
    refine iwp_ret ?_
    refine thenQ_r ?_
    obtain rfl := Option.some.inj h
    refine ⟨.inr rfl, (.cons (sv rfl) .nil)⟩
  ·
    replace h := bif_f h hc2
    refine iwp_skip ?_
    refine thenQ_n ?_
    obtain ⟨x3, hx3, h⟩ := bnd_e h
    refine iwp_reg (ils_cons rfl (iop_move rfl rfl (by decide) (sv (d := .float _ _) rfl)) <|
      ils_cons rfl (iop_move rfl rfl (by decide) (sv (d := .float _ _) rfl)) <|
      ils_cons rfl (iop_farx rfl rfl (by decide) (sv (d := .float _ _) rfl) (sv (d := .float _ _) rfl) rfl hx3) <|
      ils_cons rfl (iop_assign rfl rfl (by decide) (sv (d := .float _ _) rfl)) <|
      ils_end ?_)
    refine iwp_seq ?_
    obtain ⟨x4, hx4, h⟩ := bno_e h
    obtain ⟨x5, hx5, h⟩ := bno_e h
    obtain ⟨x6, hx6, h⟩ := bnd_e h
    obtain ⟨x7, hx7, h⟩ := bno_e h
    obtain ⟨x8, hx8, h⟩ := bnd_e h
    refine iwp_reg (ils_cons rfl (iop_move rfl rfl (by decide) (sv (d := .float _ _) rfl)) <|
      ils_cons rfl (iop_call (r := .bool _) rfl rfl (by decide) cl30 (.cons (sv (d := .float _ _) rfl) .nil) rfl (p_math_IsNaN _ _ hx4)) <|
      ils_cons rfl (iop_move rfl rfl (by decide) (sv (d := .bool _) rfl)) <|
      ils_guard rfl rfl (.one rfl) rfl (by decide) (fun hb => (iop_move rfl rfl (by decide) (sv (d := .float _ _) rfl))) <|
      ils_guard rfl rfl (.one rfl) rfl (by decide) (fun hb => (iop_call (r := .bool _) rfl rfl (by decide) cl31 (.cons (svc (d := .float _ _) rfl hb) (.cons (sv (d := .int _ 0) rfl) .nil)) rfl (p_math_IsInf _ _ _ (gd_t hx5 hb)))) <|
      ils_cons rfl (iop_orx rfl rfl (by decide) (sv (d := .bool _) rfl) rfl rfl hx6) <|
      ils_cons rfl (iop_move rfl rfl (by decide) (sv (d := .bool _) rfl)) <|
      ils_guard rfl rfl (.one rfl) rfl (by decide) (fun hb => (iop_move rfl rfl (by decide) (sv (d := .float _ _) rfl))) <|
      ils_guard rfl rfl (.one rfl) rfl (by decide) (fun hb => (iop_call (r := .bool _) rfl rfl (by decide) cl31 (.cons (svc (d := .float _ _) rfl hb) (.cons (sv (d := .int _ 0) rfl) .nil)) rfl (p_math_IsInf _ _ _ (gd_t hx7 hb)))) <|
      ils_cons rfl (iop_orx rfl rfl (by decide) (sv (d := .bool _) rfl) rfl rfl hx8) <|
      ils_end ?_)
    refine iwp_cond (b := _) rfl (fun hc9 => ?_) (fun hc9 => ?_)
    ·
      replace h := bif_t h hc9
      refine iwp_reg (ils_cons rfl (iop_move rfl rfl (by decide) (sv (d := .float _ _) rfl)) <|
        ils_cons rfl (iop_assign rfl rfl (by decide) (sv (d := .float _ _) rfl)) <|
        ils_end ?_)
      refine iwp_ret ?_
      refine thenQ_r ?_
      obtain rfl := Option.some.inj h
      refine ⟨.inr rfl, (.cons (sv rfl) .nil)⟩
    ·
      replace h := bif_f h hc9
      refine iwp_skip ?_
      refine thenQ_n ?_
      obtain ⟨x10, hx10, h⟩ := bnd_e h
      obtain ⟨x11, hx11, h⟩ := bnd_e h
      refine iwp_reg (ils_cons rfl (iop_move rfl rfl (by decide) (sv (d := .float _ _) rfl)) <|
        ils_cons rfl (iop_move rfl rfl (by decide) (sv (d := .float _ _) rfl)) <|
        ils_cons rfl (iop_farx rfl rfl (by decide) (sv (d := .float _ _) rfl) (sv (d := .float _ _) rfl) rfl hx10) <|
        ils_cons rfl (iop_farx rfl rfl (by decide) (sv (d := .float _ _) rfl) (sv (d := .float _ _) rfl) rfl hx11) <|
        ils_cons rfl (iop_assign rfl rfl (by decide) (sv (d := .float _ _) rfl)) <|
        ils_end ?_)
      refine iwp_ret ?_
      obtain rfl := Option.some.inj h
      refine ⟨.inr rfl, (.cons (sv rfl) .nil)⟩

set_option maxRecDepth 8000 in
set_option maxHeartbeats 2000000 in
theorem p_sennitref27_infinite (a0 : Nat) (r : Bool) (h : sennitref27_infinite a0 = some r) : PureAt Try.prog 35 [.float .f64 a0] (.bool r) := by
  refine pure_of_iwp (rs := [.bool r]) Try.func35 rfl Try.ntmps35 (nle rfl) rfl fun O hO => ?_
  show IWP _ _ _ _ ⟨[(0, .float .f64 a0)], []⟩ _
  unfold sennitref27_infinite at h
  refine iwp_reg (ils_cons rfl (iop_assign rfl rfl (by decide) (sv (d := .bool false) rfl)) <|
    ils_end ?_)
  obtain ⟨x1, hx1, h⟩ := bnd_e h
  obtain ⟨x2, hx2, h⟩ := bnd_e h
  obtain ⟨x3, hx3, h⟩ := bnd_e h
  refine iwp_reg (ils_cons rfl (iop_move rfl rfl (by decide) (sv (d := .float _ _) rfl)) <|
    ils_cons rfl (iop_fcmpx rfl rfl (by decide) (sv (d := .float _ _) rfl) (sv (d := .float _ _) rfl) rfl hx1) <|
    ils_cons rfl (iop_move rfl rfl (by decide) (sv (d := .bool _) rfl)) <|
    ils_guard rfl rfl (.one rfl) rfl (by decide) (fun hb => (iop_move rfl rfl (by decide) (sv (d := .float _ _) rfl))) <|
    ils_guard rfl rfl (.one rfl) rfl (by decide) (fun hb => (iop_fcmpx rfl rfl (by decide) (svc (d := .float _ _) rfl hb) (sv (d := .float _ _) rfl) rfl hx2)) <|
    ils_cons rfl (iop_orx rfl rfl (by decide) (sv (d := .bool _) rfl) rfl rfl hx3) <|
    ils_cons rfl (iop_assign rfl rfl (by decide) (sv (d := .bool _) rfl)) <|
    ils_end ?_)
  refine iwp_ret ?_
  obtain rfl := Option.some.inj h
  refine ⟨.inr rfl, (.cons (sv rfl) .nil)⟩

set_option maxRecDepth 8000 in
set_option maxHeartbeats 2000000 in
theorem p_sennitref27_Smooth (a0 : Nat) (a1 : Nat) (r : Nat) (h : sennitref27_Smooth a0 a1 = some r) : PureAt Try.prog 17 [.float .f64 a0, .float .f64 a1] (.float .f64 r) := by
  refine pure_of_iwp (rs := [.float .f64 r]) Try.func17 rfl Try.ntmps17 (nle rfl) rfl fun O hO => ?_
  show IWP _ _ _ _ ⟨[(0, .float .f64 a0), (1, .float .f64 a1)], []⟩ _
  unfold sennitref27_Smooth at h
  refine iwp_reg (ils_cons rfl (iop_assign rfl rfl (by decide) (sv (d := .float _ _) rfl)) <|
    ils_end ?_)
  refine iwp_seq ?_
  refine iwp_block ?_
  obtain ⟨x1, hx1, h⟩ := bno_e h
  refine iwp_reg (ils_cons rfl (iop_move rfl rfl (by decide) (sv (d := .float _ _) rfl)) <|
    ils_cons rfl (iop_call (r := .bool _) rfl rfl (by decide) cl33 (.cons (sv (d := .float _ _) rfl) .nil) rfl (p_sennitref27_nan _ _ hx1)) <|
    ils_cons rfl (iop_assign rfl rfl (by decide) (sv (d := .bool _) rfl)) <|
    ils_end ?_)
  refine iwp_cond (b := _) rfl (fun hc2 => ?_) (fun hc2 => ?_)
  ·
    replace h := bif_t h hc2
    refine iwp_reg (ils_cons rfl (iop_move rfl rfl (by decide) (sv (d := .float _ _) rfl)) <|
      ils_cons rfl (iop_assign rfl rfl (by decide) (sv (d := .float _ _) rfl)) <|
      ils_end ?_)
    refine iwp_ret ?_
    refine blockQ_r ?_
    refine thenQ_r ?_
    obtain rfl := Option.some.inj h
    refine ⟨.inr rfl, (.cons (sv rfl) .nil)⟩
  ·
    replace h := bif_f h hc2
    obtain ⟨x3, hx3, h⟩ := bno_e h
    refine iwp_reg (ils_cons rfl (iop_move rfl rfl (by decide) (sv (d := .float _ _) rfl)) <|
      ils_cons rfl (iop_call (r := .bool _) rfl rfl (by decide) cl33 (.cons (sv (d := .float _ _) rfl) .nil) rfl (p_sennitref27_nan _ _ hx3)) <|
      ils_cons rfl (iop_assign rfl rfl (by decide) (sv (d := .bool _) rfl)) <|
      ils_end ?_)
    refine iwp_cond (b := _) rfl (fun hc4 => ?_) (fun hc4 => ?_)
    ·
      replace h := bif_t h hc4
      refine iwp_reg (ils_cons rfl (iop_move rfl rfl (by decide) (sv (d := .float _ _) rfl)) <|
        ils_cons rfl (iop_assign rfl rfl (by decide) (sv (d := .float _ _) rfl)) <|
        ils_end ?_)
      refine iwp_ret ?_
      refine blockQ_r ?_
      refine thenQ_r ?_
      obtain rfl := Option.some.inj h
      refine ⟨.inr rfl, (.cons (sv rfl) .nil)⟩
    ·
      replace h := bif_f h hc4
      obtain ⟨x5, hx5, h⟩ := bno_e h
      obtain ⟨x6, hx6, h⟩ := bno_e h
      obtain ⟨x7, hx7, h⟩ := bnd_e h
      refine iwp_reg (ils_cons rfl (iop_move rfl rfl (by decide) (sv (d := .float _ _) rfl)) <|
        ils_cons rfl (iop_call (r := .bool _) rfl rfl (by decide) cl35 (.cons (sv (d := .float _ _) rfl) .nil) rfl (p_sennitref27_infinite _ _ hx5)) <|
        ils_cons rfl (iop_move rfl rfl (by decide) (sv (d := .bool _) rfl)) <|
        ils_guard rfl rfl (.one rfl) rfl (by decide) (fun hb => (iop_move rfl rfl (by decide) (sv (d := .float _ _) rfl))) <|
        ils_guard rfl rfl (.one rfl) rfl (by decide) (fun hb => (iop_call (r := .bool _) rfl rfl (by decide) cl35 (.cons (svc (d := .float _ _) rfl hb) .nil) rfl (p_sennitref27_infinite _ _ (gd_t hx6 hb)))) <|
        ils_cons rfl (iop_orx rfl rfl (by decide) (sv (d := .bool _) rfl) rfl rfl hx7) <|
        ils_cons rfl (iop_assign rfl rfl (by decide) (sv (d := .bool _) rfl)) <|
        ils_end ?_)
      refine iwp_cond (b := _) rfl (fun hc8 => ?_) (fun hc8 => ?_)
      ·
        replace h := bif_t h hc8
        refine iwp_reg (ils_cons rfl (iop_move rfl rfl (by decide) (sv (d := .float _ _) rfl)) <|
          ils_cons rfl (iop_assign rfl rfl (by decide) (sv (d := .float _ _) rfl)) <|
          ils_end ?_)
        refine iwp_ret ?_
        refine blockQ_r ?_
        refine thenQ_r ?_
        obtain rfl := Option.some.inj h
        refine ⟨.inr rfl, (.cons (sv rfl) .nil)⟩
      ·
        replace h := bif_f h hc8
        refine iwp_skip ?_
        refine blockQ_n ?_
        refine thenQ_n ?_
        obtain ⟨x9, hx9, h⟩ := bnd_e h
        refine iwp_reg (ils_cons rfl (iop_move rfl rfl (by decide) (sv (d := .float _ _) rfl)) <|
          ils_cons rfl (iop_move rfl rfl (by decide) (sv (d := .float _ _) rfl)) <|
          ils_cons rfl (iop_farx rfl rfl (by decide) (sv (d := .float _ _) rfl) (sv (d := .float _ _) rfl) rfl hx9) <|
          ils_cons rfl (iop_assign rfl rfl (by decide) (sv (d := .float _ _) rfl)) <|
          ils_end ?_)
        refine iwp_seq ?_
        obtain ⟨x10, hx10, h⟩ := bno_e h
        refine iwp_reg (ils_cons rfl (iop_move rfl rfl (by decide) (sv (d := .float _ _) rfl)) <|
          ils_cons rfl (iop_call (r := .bool _) rfl rfl (by decide) cl35 (.cons (sv (d := .float _ _) rfl) .nil) rfl (p_sennitref27_infinite _ _ hx10)) <|
          ils_end ?_)
        refine iwp_cond (b := _) rfl (fun hc11 => ?_) (fun hc11 => ?_)
        ·
          replace h := bif_t h hc11
          refine iwp_reg (ils_cons rfl (iop_move rfl rfl (by decide) (sv (d := .float _ _) rfl)) <|
            ils_cons rfl (iop_assign rfl rfl (by decide) (sv (d := .float _ _) rfl)) <|
            ils_end ?_)
          refine iwp_ret ?_
          refine thenQ_r ?_
          obtain rfl := Option.some.inj h
          refine ⟨.inr rfl, (.cons (sv rfl) .nil)⟩
        ·
          replace h := bif_f h hc11
          refine iwp_skip ?_
          refine thenQ_n ?_
          obtain ⟨x12, hx12, h⟩ := bnd_e h
          refine iwp_reg (ils_cons rfl (iop_move rfl rfl (by decide) (sv (d := .float _ _) rfl)) <|
            ils_cons rfl (iop_farx rfl rfl (by decide) (sv (d := .float _ _) rfl) (sv (d := .float _ _) rfl) rfl hx12) <|
            ils_cons rfl (iop_assign rfl rfl (by decide) (sv (d := .float _ _) rfl)) <|
            ils_end ?_)
          obtain ⟨x13, hx13, h⟩ := bnd_e h
          refine iwp_reg (ils_cons rfl (iop_move rfl rfl (by decide) (sv (d := .float _ _) rfl)) <|
            ils_cons rfl (iop_move rfl rfl (by decide) (sv (d := .float _ _) rfl)) <|
            ils_cons rfl (iop_farx rfl rfl (by decide) (sv (d := .float _ _) rfl) (sv (d := .float _ _) rfl) rfl hx13) <|
            ils_cons rfl (iop_assign rfl rfl (by decide) (sv (d := .float _ _) rfl)) <|
            ils_end ?_)
          refine iwp_ret ?_
          obtain rfl := Option.some.inj h
          refine ⟨.inr rfl, (.cons (sv rfl) .nil)⟩

set_option maxRecDepth 8000 in
set_option maxHeartbeats 2000000 in
theorem p_gauge_Rate (a0 : Int) (a1 : Int) (r : Nat) (h : gauge_Rate a0 a1 = some r) : PureAt Try.prog 18 [.int .i64 a0, .int .i64 a1] (.float .f64 r) := by
  refine pure_of_iwp (rs := [.float .f64 r]) Try.func18 rfl Try.ntmps18 (nle rfl) rfl fun O hO => ?_
  show IWP _ _ _ _ ⟨[(0, .int .i64 a0), (1, .int .i64 a1)], []⟩ _
  unfold gauge_Rate at h
  refine iwp_reg (ils_cons rfl (iop_assign rfl rfl (by decide) (sv (d := .float _ _) rfl)) <|
    ils_end ?_)
  obtain ⟨x1, hx1, h⟩ := bnd_e h
  obtain ⟨x2, hx2, h⟩ := bnd_e h
  refine iwp_reg (ils_cons rfl (iop_move rfl rfl (by decide) (sv (d := .int _ _) rfl)) <|
    ils_cons rfl (iop_fintx rfl rfl (by decide) ⟨_, Try.underlying3⟩ Try.underlying24 (sv (d := .int _ _) rfl) hx1) <|
    ils_cons rfl (iop_move rfl rfl (by decide) (sv (d := .int _ _) rfl)) <|
    ils_cons rfl (iop_fintx rfl rfl (by decide) ⟨_, Try.underlying3⟩ Try.underlying24 (sv (d := .int _ _) rfl) hx2) <|
    ils_cons rfl (iop_assign rfl rfl (by decide) (sv (d := .float _ _) rfl)) <|
    ils_cons rfl (iop_assign rfl rfl (by decide) (sv (d := .float _ _) rfl)) <|
    ils_end ?_)
  obtain ⟨x3, hx3, h⟩ := bnd_e h
  refine iwp_reg (ils_cons rfl (iop_move rfl rfl (by decide) (sv (d := .float _ _) rfl)) <|
    ils_cons rfl (iop_move rfl rfl (by decide) (sv (d := .float _ _) rfl)) <|
    ils_cons rfl (iop_farx rfl rfl (by decide) (sv (d := .float _ _) rfl) (sv (d := .float _ _) rfl) rfl hx3) <|
    ils_cons rfl (iop_assign rfl rfl (by decide) (sv (d := .float _ _) rfl)) <|
    ils_end ?_)
  refine iwp_ret ?_
  obtain rfl := Option.some.inj h
  refine ⟨.inr rfl, (.cons (sv rfl) .nil)⟩

set_option maxRecDepth 8000 in
set_option maxHeartbeats 2000000 in
theorem p_sennitref27_Rate (a0 : Int) (a1 : Int) (r : Nat) (h : sennitref27_Rate a0 a1 = some r) : PureAt Try.prog 19 [.int .i64 a0, .int .i64 a1] (.float .f64 r) := by
  refine pure_of_iwp (rs := [.float .f64 r]) Try.func19 rfl Try.ntmps19 (nle rfl) rfl fun O hO => ?_
  show IWP _ _ _ _ ⟨[(0, .int .i64 a0), (1, .int .i64 a1)], []⟩ _
  unfold sennitref27_Rate at h
  refine iwp_reg (ils_cons rfl (iop_assign rfl rfl (by decide) (sv (d := .float _ _) rfl)) <|
    ils_end ?_)
  obtain ⟨x1, hx1, h⟩ := bnd_e h
  obtain ⟨x2, hx2, h⟩ := bnd_e h
  obtain ⟨x3, hx3, h⟩ := bnd_e h
  refine iwp_reg (ils_cons rfl (iop_move rfl rfl (by decide) (sv (d := .int _ _) rfl)) <|
    ils_cons rfl (iop_fintx rfl rfl (by decide) ⟨_, Try.underlying3⟩ Try.underlying24 (sv (d := .int _ _) rfl) hx1) <|
    ils_cons rfl (iop_move rfl rfl (by decide) (sv (d := .int _ _) rfl)) <|
    ils_cons rfl (iop_fintx rfl rfl (by decide) ⟨_, Try.underlying3⟩ Try.underlying24 (sv (d := .int _ _) rfl) hx2) <|
    ils_cons rfl (iop_farx rfl rfl (by decide) (sv (d := .float _ _) rfl) (sv (d := .float _ _) rfl) rfl hx3) <|
    ils_cons rfl (iop_assign rfl rfl (by decide) (sv (d := .float _ _) rfl)) <|
    ils_end ?_)
  refine iwp_ret ?_
  obtain rfl := Option.some.inj h
  refine ⟨.inr rfl, (.cons (sv rfl) .nil)⟩

set_option maxRecDepth 8000 in
set_option maxHeartbeats 2000000 in
theorem p_gauge_Order_1 (a0 : Int) (a1 : Int) (a2 : (List Nat)) (r : Int) (h : gauge_Order_1 a0 a1 a2 = some r) : PureAt Try.prog 37 [.int .i64 a0, .int .i64 a1, .fptr [.slice false (a2.map (eFlt .f64).d)]] (.int .i64 r) := by
  refine pure_of_iwp (rs := [.int .i64 r]) Try.func37 rfl Try.ntmps37 (nle rfl) rfl fun O hO => ?_
  show IWP _ _ _ _ ⟨[(0, .int .i64 a0), (1, .int .i64 a1), (2, .fptr [.slice false (a2.map (eFlt .f64).d)])], []⟩ _
  unfold gauge_Order_1 at h
  refine iwp_reg (ils_cons rfl (iop_assign rfl rfl (by decide) (sv (d := .int _ 0) rfl)) <|
    ils_end ?_)
  obtain ⟨x1, hx1, h⟩ := bno_e h
  obtain ⟨x2, hx2, h⟩ := bno_e h
  obtain ⟨x3, hx3, h⟩ := bno_e h
  refine iwp_drw rfl [⟨[2], [], [(6, .slice false (a2.map (eFlt .f64).d))], []⟩,
    ⟨[1], [], [(7, .int .i64 a1)], []⟩,
    ⟨[6, 7], [], [(8, .fptr [.float .f64 x1])], []⟩,
    ⟨[8], [], [(9, .float .f64 x1)], []⟩,
    ⟨[2], [], [(10, .slice false (a2.map (eFlt .f64).d))], []⟩,
    ⟨[0], [], [(11, .int .i64 a0)], []⟩,
    ⟨[10, 11], [], [(12, .fptr [.float .f64 x2])], []⟩,
    ⟨[12], [], [(13, .float .f64 x2)], []⟩,
    ⟨[9, 13], [], [(14, .int .i64 x3)], []⟩,
    ⟨[14], [], [(5, .int .i64 x3)], []⟩] rfl ?_ (by kernel_rfl) ?_
  · refine .cons (lop rfl rfl fun S hA => (iop_load_fs rfl rfl (by decide) Try.underlying35 ag35 ti35 (by decide) (sv (d := .fptr [.slice _ _]) (agr hA rfl rfl)) (nle rfl))) ?_
    refine .cons (lop rfl rfl fun S hA => (iop_move rfl rfl (by decide) (sv (d := .int _ _) (agr hA rfl rfl)))) ?_
    refine .cons (lop rfl rfl fun S hA => (iop_idxT (eFlt .f64) (cs := [.float _ _]) rfl rfl (by decide) Try.underlying35 ti24 (sv (d := .slice _ _) (agr hA rfl rfl)) (sv (d := .int _ _) (agr hA rfl rfl)) hx1 rfl rfl)) ?_
    refine .cons (lop rfl rfl fun S hA => (iop_load_fs rfl rfl (by decide) Try.underlying24 ag24 ti24 (by decide) (sv (d := .fptr [.float _ _]) (agr hA rfl rfl)) (nle rfl))) ?_
    refine .cons (lop rfl rfl fun S hA => (iop_load_fs rfl rfl (by decide) Try.underlying35 ag35 ti35 (by decide) (sv (d := .fptr [.slice _ _]) (agr hA rfl rfl)) (nle rfl))) ?_
    refine .cons (lop rfl rfl fun S hA => (iop_move rfl rfl (by decide) (sv (d := .int _ _) (agr hA rfl rfl)))) ?_
    refine .cons (lop rfl rfl fun S hA => (iop_idxT (eFlt .f64) (cs := [.float _ _]) rfl rfl (by decide) Try.underlying35 ti24 (sv (d := .slice _ _) (agr hA rfl rfl)) (sv (d := .int _ _) (agr hA rfl rfl)) hx2 rfl rfl)) ?_
    refine .cons (lop rfl rfl fun S hA => (iop_load_fs rfl rfl (by decide) Try.underlying24 ag24 ti24 (by decide) (sv (d := .fptr [.float _ _]) (agr hA rfl rfl)) (nle rfl))) ?_
    refine .cons (lop rfl rfl fun S hA => (iop_call (r := .int _ _) rfl rfl (by decide) cl14 (.cons (sv (d := .float _ _) (agr hA rfl rfl)) (.cons (sv (d := .float _ _) (agr hA rfl rfl)) .nil)) rfl (p_gauge_Compare _ _ _ hx3))) ?_
    refine .cons (lop rfl rfl fun S hA => (iop_assign rfl rfl (by decide) (sv (d := .int _ _) (agr hA rfl rfl)))) ?_
    exact .nil
  refine iwp_ret ?_
  obtain rfl := Option.some.inj h
  refine ⟨.inr rfl, (.cons (sv rfl) .nil)⟩

set_option maxRecDepth 8000 in
set_option maxHeartbeats 2000000 in
theorem p_slices_insertionSortCmpFunc_int_h_Order_1 (a0 : Int) (a1 : Int) (a2 : (List Int)) (a3 : (List Nat)) (r : (List Int)) (h : slices_insertionSortCmpFunc_int_h_Order_1 a0 a1 a2 a3 = some r) : FnH Try.prog 41 [.osl 1000 (eInt .i64).sz a2.length, .int .i64 a0, .int .i64 a1, .fn 37 [.ref 1001 0]] [(1000, .blk 3 (D.flat (a2.map (eInt .i64).d))), (1001, .blk 35 [.slice false (a3.map (eFlt .f64).d)])] (retD []) [(1000, .blk 3 (D.flat (r.map (eInt .i64).d))), (1001, .blk 35 [.slice false (a3.map (eFlt .f64).d)])] := by
  refine fnh_of_iwp (rs := []) Try.func41 rfl Try.ntmps41 (nle rfl) fun O hO => ?_
  show IWP _ _ _ _ ⟨[(0, .osl 1000 (eInt .i64).sz a2.length), (1, .int .i64 a0), (2, .int .i64 a1), (3, .fn 37 [.ref 1001 0])], [(1000, .blk 3 (D.flat (a2.map (eInt .i64).d))), (1001, .blk 35 [.slice false (a3.map (eFlt .f64).d)])]⟩ _
  unfold slices_insertionSortCmpFunc_int_h_Order_1 at h
  obtain ⟨x1, hx1, h⟩ := bnd_e h
  refine iwp_reg (ils_cons rfl (iop_move rfl rfl (by decide) (sv (d := .int _ _) rfl)) <|
    ils_cons rfl (iop_intx rfl rfl (by decide) (sv (d := .int _ _) rfl) (sv (d := .int _ 1) rfl) rfl hx1) <|
    ils_cons rfl (iop_assign rfl rfl (by decide) (sv (d := .int _ _) rfl)) <|
    ils_end ?_)
  refine iwp_block ?_
  refine iwp_loopP (α := Nat × (List Int) × Int) (fun z => ⟨[(0, .osl 1000 (eInt .i64).sz z.2.1.length), (1, .int .i64 a0), (2, .int .i64 a1), (3, .fn 37 [.ref 1001 0]), (8, .int .i64 z.2.2)], [(1000, .blk 3 (D.flat (z.2.1.map (eInt .i64).d))), (1001, .blk 35 [.slice false (a3.map (eFlt .f64).d)])]⟩) (fun z => slices_insertionSortCmpFunc_int_h_Order_1_L0 a0 a1 a3 z.1 z.2.1 z.2.2 = some r) (fun z => z.1) (fuel, a2, x1) (fun i => i) ⟨(.cons (.same rfl rfl) (.cons (.same rfl rfl) (.cons (.same rfl rfl) (.cons (.same rfl rfl) (.cons (.same rfl rfl) .nil))))), (.cons (EntW.lst rfl) (.cons (.blk rfl rfl rfl) .nil)), nd_of [1000, 1001] rfl (by decide), (fun i hi => by first | rfl | (show (if _ then _ else _) = _; (repeat' split) <;> omega))⟩ ?_ ?_
  · exact h
  ·
    rintro ⟨n0, v76, v77⟩ h
    cases n0 with
    | zero => exact absurd h (by unfold slices_insertionSortCmpFunc_int_h_Order_1_L0; exact nofun)
    | succ n0 =>
      unfold slices_insertionSortCmpFunc_int_h_Order_1_L0 at h
      refine iwp_seq ?_
      obtain ⟨x152, hx152, h⟩ := bnd_e h
      refine iwp_reg (ils_cons rfl (iop_move rfl rfl (by decide) (sv (d := .int _ _) rfl)) <|
        ils_cons rfl (iop_move rfl rfl (by decide) (sv (d := .int _ _) rfl)) <|
        ils_cons rfl (iop_cmpx rfl rfl (by decide) (sv (d := .int _ _) rfl) (sv (d := .int _ _) rfl) rfl hx152) <|
        ils_end ?_)
      refine iwp_cond (b := _) rfl (fun hc153 => ?_) (fun hc153 => ?_)
      ·
        replace h := bif_t h hc153
        refine iwp_skip ?_
        refine thenQ_n ?_
        refine iwp_seq ?_
        refine iwp_block ?_
        refine iwp_reg (ils_cons rfl (iop_move rfl rfl (by decide) (sv (d := .int _ _) rfl)) <|
          ils_cons rfl (iop_assign rfl rfl (by decide) (sv (d := .int _ _) rfl)) <|
          ils_end ?_)
        refine iwp_block ?_
        refine iwp_loopP (α := Nat × (List Int) × Int) (fun z => ⟨[(0, .osl 1000 (eInt .i64).sz z.2.1.length), (1, .int .i64 a0), (2, .int .i64 a1), (3, .fn 37 [.ref 1001 0]), (8, .int .i64 v77), (9, .int .i64 z.2.2)], [(1000, .blk 3 (D.flat (z.2.1.map (eInt .i64).d))), (1001, .blk 35 [.slice false (a3.map (eFlt .f64).d)])]⟩) (fun z => slices_insertionSortCmpFunc_int_h_Order_1_L1 a0 a3 v77 (slices_insertionSortCmpFunc_int_h_Order_1_L0 a0 a1 a3 n0) z.1 z.2.1 z.2.2 = some r) (fun z => z.1) (fuel, v76, v77) (fun i => i) ⟨(.cons (.same rfl rfl) (.cons (.same rfl rfl) (.cons (.same rfl rfl) (.cons (.same rfl rfl) (.cons (.same rfl rfl) (.cons (.same rfl rfl) .nil)))))), (.cons (EntW.lst rfl) (.cons (.blk rfl rfl rfl) .nil)), nd_of [1000, 1001] rfl (by decide), (fun i hi => by first | rfl | (show (if _ then _ else _) = _; (repeat' split) <;> omega))⟩ ?_ ?_
        · exact h
        ·
          rintro ⟨n1, v177, v178⟩ h
          cases n1 with
          | zero => exact absurd h (by unfold slices_insertionSortCmpFunc_int_h_Order_1_L1; exact nofun)
          | succ n1 =>
            unfold slices_insertionSortCmpFunc_int_h_Order_1_L1 at h
            refine iwp_seq ?_
            obtain ⟨x202, hx202, h⟩ := bnd_e h
            obtain ⟨x203, hx203, h⟩ := bno_e h
            obtain ⟨x204, hx204, h⟩ := bno_e h
            obtain ⟨x205, hx205, h⟩ := bnd_e h
            obtain ⟨x206, hx206, h⟩ := bno_e h
            obtain ⟨x207, hx207, h⟩ := bno_e h
            obtain ⟨x208, hx208, h⟩ := bno_e h
            obtain ⟨x209, hx209, h⟩ := bnd_e h
            obtain ⟨x210, hx210, h⟩ := bnd_e h
            refine iwp_drw rfl [⟨[9], [], [(18, .int .i64 v178)], []⟩,
              ⟨[1], [], [(19, .int .i64 a0)], []⟩,
              ⟨[18, 19], [], [(20, .bool x202)], []⟩,
              ⟨[20], [], [(21, .bool x202)], []⟩,
              ⟨[3, 21], [], [(22, .cnd (x202 == true) (.fn 37 [.ref 1001 0]))], []⟩,
              ⟨[0, 21], [], [(23, .cnd (x202 == true) (.osl 1000 (eInt .i64).sz v177.length))], []⟩,
              ⟨[9, 21], [], [(24, .cnd (x202 == true) (.int .i64 v178))], []⟩,
              ⟨[21, 23, 24], [], [(25, .cnd (x202 == true) (.ref 1000 (((v178 : Int).toNat) * (eInt .i64).sz + 0)))], []⟩,
              ⟨[21, 25], [1000], [(26, .cnd (x202 == true) (.int .i64 x204))], []⟩,
              ⟨[0, 21], [], [(27, .cnd (x202 == true) (.osl 1000 (eInt .i64).sz v177.length))], []⟩,
              ⟨[9, 21], [], [(28, .cnd (x202 == true) (.int .i64 v178))], []⟩,
              ⟨[21, 28], [], [(29, .cnd (x202 == true) (.int .i64 x205))], []⟩,
              ⟨[21, 27, 29], [], [(30, .cnd (x202 == true) (.ref 1000 (((x205 : Int).toNat) * (eInt .i64).sz + 0)))], []⟩,
              ⟨[21, 30], [1000], [(31, .cnd (x202 == true) (.int .i64 x207))], []⟩,
              ⟨[21, 22, 26, 31], [1001], [(32, .cnd (x202 == true) (.int .i64 x208))], []⟩,
              ⟨[21, 32], [], [(33, .cnd (x202 == true) (.bool x209))], []⟩,
              ⟨[21, 33], [], [(34, .bool x210)], []⟩] rfl ?_ (by kernel_rfl) ?_
            · refine .cons (lop rfl rfl fun S hA => (iop_move rfl rfl (by decide) (sv (d := .int _ _) (agr hA rfl rfl)))) ?_
              refine .cons (lop rfl rfl fun S hA => (iop_move rfl rfl (by decide) (sv (d := .int _ _) (agr hA rfl rfl)))) ?_
              refine .cons (lop rfl rfl fun S hA => (iop_cmpx rfl rfl (by decide) (sv (d := .int _ _) (agr hA rfl rfl)) (sv (d := .int _ _) (agr hA rfl rfl)) rfl hx202)) ?_
              refine .cons (lop rfl rfl fun S hA => (iop_move rfl rfl (by decide) (sv (d := .bool _) (agr hA rfl rfl)))) ?_
              refine .cons (lopg rfl rfl rfl rfl (by decide) (fun S hA => grd1 hA rfl rfl) (fun S hA hb => (iop_move rfl rfl (by decide) (sv (d := .fn 37 [.ref _ _]) (agr hA rfl rfl))))) ?_
              refine .cons (lopg rfl rfl rfl rfl (by decide) (fun S hA => grd1 hA rfl rfl) (fun S hA hb => (iop_move rfl rfl (by decide) (sv (d := .osl _ _ _) (agr hA rfl rfl))))) ?_
              refine .cons (lopg rfl rfl rfl rfl (by decide) (fun S hA => grd1 hA rfl rfl) (fun S hA hb => (iop_move rfl rfl (by decide) (sv (d := .int _ _) (agr hA rfl rfl))))) ?_
              refine .cons (lopg rfl rfl rfl rfl (by decide) (fun S hA => grd1 hA rfl rfl) (fun S hA hb => (iop_idxO (eInt .i64).toEnc0 rfl rfl (by decide) Try.underlying39 ti3 (svc (d := .osl _ _ _) (agr hA rfl rfl) hb) rfl (svc (d := .int _ _) (agr hA rfl rfl) hb) (gd_t hx203 hb)))) ?_
              refine .cons (lopg rfl rfl rfl rfl (by decide) (fun S hA => grd1 hA rfl rfl) (fun S hA hb => (iop_loadEs (eInt .i64).toEnc0 (d := .int _ _) rfl rfl (by decide) Try.underlying3 ag3 ti3 (by decide) (svc (d := .ref _ _) (agr hA rfl rfl) hb) (agi hA rfl rfl) (gd_t hx204 hb) (nle rfl) rfl))) ?_
              refine .cons (lopg rfl rfl rfl rfl (by decide) (fun S hA => grd1 hA rfl rfl) (fun S hA hb => (iop_move rfl rfl (by decide) (sv (d := .osl _ _ _) (agr hA rfl rfl))))) ?_
              refine .cons (lopg rfl rfl rfl rfl (by decide) (fun S hA => grd1 hA rfl rfl) (fun S hA hb => (iop_move rfl rfl (by decide) (sv (d := .int _ _) (agr hA rfl rfl))))) ?_
              refine .cons (lopg rfl rfl rfl rfl (by decide) (fun S hA => grd1 hA rfl rfl) (fun S hA hb => (iop_intx rfl rfl (by decide) (svc (d := .int _ _) (agr hA rfl rfl) hb) (sv (d := .int _ 1) rfl) rfl hx205))) ?_
              refine .cons (lopg rfl rfl rfl rfl (by decide) (fun S hA => grd1 hA rfl rfl) (fun S hA hb => (iop_idxO (eInt .i64).toEnc0 rfl rfl (by decide) Try.underlying39 ti3 (svc (d := .osl _ _ _) (agr hA rfl rfl) hb) rfl (svc (d := .int _ _) (agr hA rfl rfl) hb) (gd_t hx206 hb)))) ?_
              refine .cons (lopg rfl rfl rfl rfl (by decide) (fun S hA => grd1 hA rfl rfl) (fun S hA hb => (iop_loadEs (eInt .i64).toEnc0 (d := .int _ _) rfl rfl (by decide) Try.underlying3 ag3 ti3 (by decide) (svc (d := .ref _ _) (agr hA rfl rfl) hb) (agi hA rfl rfl) (gd_t hx207 hb) (nle rfl) rfl))) ?_
              refine .cons (lopg rfl rfl rfl rfl (by decide) (fun S hA => grd1 hA rfl rfl) (fun S hA hb => (iop_callvp (r := .int .i64 x208) rfl rfl (by decide) cl37 (svc (d := .fn 37 [.ref _ _]) (agr hA rfl rfl) hb) (.cons (svc (d := .int _ _) (agr hA rfl rfl) hb) (.cons (svc (d := .int _ _) (agr hA rfl rfl) hb) .nil)) (.cons (.refl _) (.cons (.refl _) (.cons (.ref (agi hA rfl rfl) rfl (fdl_refl _) rfl) .nil))) rfl rfl (p_gauge_Order_1 _ _ _ _ (gd_t hx208 hb))))) ?_
              refine .cons (lopg rfl rfl rfl rfl (by decide) (fun S hA => grd1 hA rfl rfl) (fun S hA hb => (iop_cmpx rfl rfl (by decide) (svc (d := .int _ _) (agr hA rfl rfl) hb) (sv (d := .int _ 0) rfl) rfl hx209))) ?_
              refine .cons (lop rfl rfl fun S hA => (iop_andx rfl rfl (by decide) (sv (d := .bool _) (agr hA rfl rfl)) (agr hA rfl rfl) rfl hx210)) ?_
              exact .nil
            refine iwp_cond (b := _) rfl (fun hc211 => ?_) (fun hc211 => ?_)
            ·
              replace h := bif_t h hc211
              refine iwp_skip ?_
              refine thenQ_n ?_
              refine iwp_seq ?_
              refine iwp_block ?_
              obtain ⟨x212, hx212, h⟩ := bnd_e h
              obtain ⟨x213, hx213, h⟩ := bnd_e h
              obtain ⟨x214, hx214, h⟩ := bno_e h
              obtain ⟨x215, hx215, h⟩ := bno_e h
              obtain ⟨x216, hx216, h⟩ := bno_e h
              obtain ⟨x217, hx217, h⟩ := bno_e h
              obtain ⟨x218, hx218, h⟩ := bno_e h
              obtain ⟨x219, hx219, h⟩ := bno_e h
              obtain ⟨x220, hx220, h⟩ := bnd_e h
              obtain ⟨x221, hx221, h⟩ := bno_e h
              obtain ⟨x222, hx222, h⟩ := bno_e h
              obtain ⟨x223, hx223, h⟩ := bnd_e h
              refine iwp_draw rfl [⟨[0], [], [(37, .osl 1000 (eInt .i64).sz v177.length)], []⟩,
                ⟨[9], [], [(38, .int .i64 v178)], []⟩,
                ⟨[0], [], [(39, .osl 1000 (eInt .i64).sz v177.length)], []⟩,
                ⟨[9], [], [(40, .int .i64 v178)], []⟩,
                ⟨[40], [], [(41, .int .i64 x212)], []⟩,
                ⟨[0], [], [(42, .osl 1000 (eInt .i64).sz v177.length)], []⟩,
                ⟨[9], [], [(43, .int .i64 v178)], []⟩,
                ⟨[43], [], [(44, .int .i64 x213)], []⟩,
                ⟨[42, 44], [], [(45, .ref 1000 (((x213 : Int).toNat) * (eInt .i64).sz + 0))], []⟩,
                ⟨[45], [1000], [(46, .int .i64 x215)], []⟩,
                ⟨[0], [], [(47, .osl 1000 (eInt .i64).sz v177.length)], []⟩,
                ⟨[9], [], [(48, .int .i64 v178)], []⟩,
                ⟨[47, 48], [], [(49, .ref 1000 (((v178 : Int).toNat) * (eInt .i64).sz + 0))], []⟩,
                ⟨[49], [1000], [(50, .int .i64 x217)], []⟩,
                ⟨[37, 38], [], [(51, .ref 1000 (((v178 : Int).toNat) * (eInt .i64).sz + 0))], []⟩,
                ⟨[46, 51], [1000], [], [(1000, .blk 3 (D.flat (x220.map (eInt .i64).d)))]⟩,
                ⟨[39, 41], [], [(52, .ref 1000 (((x212 : Int).toNat) * (eInt .i64).sz + 0))], []⟩,
                ⟨[50, 52], [1000], [], [(1000, .blk 3 (D.flat (x223.map (eInt .i64).d)))]⟩] rfl ?_ (by kernel_rfl) ?_
              · refine .cons (lop rfl rfl fun S hA => (iop_move rfl rfl (by decide) (sv (d := .osl _ _ _) (agr hA rfl rfl)))) ?_
                refine .cons (lop rfl rfl fun S hA => (iop_move rfl rfl (by decide) (sv (d := .int _ _) (agr hA rfl rfl)))) ?_
                refine .cons (lop rfl rfl fun S hA => (iop_move rfl rfl (by decide) (sv (d := .osl _ _ _) (agr hA rfl rfl)))) ?_
                refine .cons (lop rfl rfl fun S hA => (iop_move rfl rfl (by decide) (sv (d := .int _ _) (agr hA rfl rfl)))) ?_
                refine .cons (lop rfl rfl fun S hA => (iop_intx rfl rfl (by decide) (sv (d := .int _ _) (agr hA rfl rfl)) (sv (d := .int _ 1) rfl) rfl hx212)) ?_
                refine .cons (lop rfl rfl fun S hA => (iop_move rfl rfl (by decide) (sv (d := .osl _ _ _) (agr hA rfl rfl)))) ?_
                refine .cons (lop rfl rfl fun S hA => (iop_move rfl rfl (by decide) (sv (d := .int _ _) (agr hA rfl rfl)))) ?_
                refine .cons (lop rfl rfl fun S hA => (iop_intx rfl rfl (by decide) (sv (d := .int _ _) (agr hA rfl rfl)) (sv (d := .int _ 1) rfl) rfl hx213)) ?_
                refine .cons (lop rfl rfl fun S hA => (iop_idxO (eInt .i64).toEnc0 rfl rfl (by decide) Try.underlying39 ti3 (sv (d := .osl _ _ _) (agr hA rfl rfl)) rfl (sv (d := .int _ _) (agr hA rfl rfl)) hx214)) ?_
                refine .cons (lop rfl rfl fun S hA => (iop_loadEs (eInt .i64).toEnc0 (d := .int _ _) rfl rfl (by decide) Try.underlying3 ag3 ti3 (by decide) (sv (d := .ref _ _) (agr hA rfl rfl)) (agi hA rfl rfl) hx215 (nle rfl) rfl)) ?_
                refine .cons (lop rfl rfl fun S hA => (iop_move rfl rfl (by decide) (sv (d := .osl _ _ _) (agr hA rfl rfl)))) ?_
                refine .cons (lop rfl rfl fun S hA => (iop_move rfl rfl (by decide) (sv (d := .int _ _) (agr hA rfl rfl)))) ?_
                refine .cons (lop rfl rfl fun S hA => (iop_idxO (eInt .i64).toEnc0 rfl rfl (by decide) Try.underlying39 ti3 (sv (d := .osl _ _ _) (agr hA rfl rfl)) rfl (sv (d := .int _ _) (agr hA rfl rfl)) hx216)) ?_
                refine .cons (lop rfl rfl fun S hA => (iop_loadEs (eInt .i64).toEnc0 (d := .int _ _) rfl rfl (by decide) Try.underlying3 ag3 ti3 (by decide) (sv (d := .ref _ _) (agr hA rfl rfl)) (agi hA rfl rfl) hx217 (nle rfl) rfl)) ?_
                refine .cons (lop rfl rfl fun S hA => (iop_idxO (eInt .i64).toEnc0 rfl rfl (by decide) Try.underlying39 ti3 (sv (d := .osl _ _ _) (agr hA rfl rfl)) rfl (sv (d := .int _ _) (agr hA rfl rfl)) hx218)) ?_
                refine .cons (lop rfl rfl fun S hA => (iop_storeE (eInt .i64).toEnc0 (a' := x215) rfl rfl ti3 (sv (d := .ref _ _) (agr hA rfl rfl)) (agi hA rfl rfl) (sv (d := .int _ _) (agr hA rfl rfl)) rfl rfl rfl hx219 (nle rfl) rfl hx220)) ?_
                refine .cons (lop rfl rfl fun S hA => (iop_idxO (eInt .i64).toEnc0 rfl rfl (by decide) Try.underlying39 ti3 (sv (d := .osl _ _ _) (agr hA rfl rfl)) (len_set hx220 rfl) (sv (d := .int _ _) (agr hA rfl rfl)) hx221)) ?_
                refine .cons (lop rfl rfl fun S hA => (iop_storeE (eInt .i64).toEnc0 (a' := x217) rfl rfl ti3 (sv (d := .ref _ _) (agr hA rfl rfl)) (agi hA rfl rfl) (sv (d := .int _ _) (agr hA rfl rfl)) rfl rfl rfl hx222 (nle rfl) rfl hx223)) ?_
                exact .nil
              refine blockQ_n ?_
              refine thenQ_n ?_
              obtain ⟨x224, hx224, h⟩ := bnd_e h
              refine iwp_region (ils_cons rfl (iop_move rfl rfl (by decide) (sv (d := .int _ _) rfl)) <|
                ils_cons rfl (iop_intx rfl rfl (by decide) (sv (d := .int _ _) rfl) (sv (d := .int _ 1) rfl) rfl hx224) <|
                ils_cons rfl (iop_assign rfl rfl (by decide) (sv (d := .int _ _) rfl)) <|
                ils_nil ?_)
              refine thenQ_n ⟨(n1, x223, x224), (fun i => i), ⟨(.cons (.same (congrArg (D.osl _ _) (len_set hx223 (len_set hx220 rfl)).symm) rfl) (.cons (.same rfl rfl) (.cons (.same rfl rfl) (.cons (.same rfl rfl) (.cons (.same rfl rfl) (.cons (.same rfl rfl) .nil)))))), (.cons (EntW.lst rfl) (.cons (.blk rfl rfl rfl) .nil)), nd_of [1000, 1001] rfl (by decide), (fun i hi => by first | rfl | (show (if _ then _ else _) = _; (repeat' split) <;> omega))⟩, ?_, ?_⟩
              exact h
              exact Nat.lt_succ_self _
            ·
              replace h := bif_f h hc211
              refine iwp_exit ?_
              refine thenQ_e ?_
              refine thenQ_e ?_
              refine blockQ_e ?_
              refine blockQ_n ?_
              refine thenQ_n ?_
              obtain ⟨x225, hx225, h⟩ := bnd_e h
              refine iwp_region (ils_cons rfl (iop_move rfl rfl (by decide) (sv (d := .int _ _) rfl)) <|
                ils_cons rfl (iop_intx rfl rfl (by decide) (sv (d := .int _ _) rfl) (sv (d := .int _ 1) rfl) rfl hx225) <|
                ils_cons rfl (iop_assign rfl rfl (by decide) (sv (d := .int _ _) rfl)) <|
                ils_nil ?_)
              refine thenQ_n ⟨(n0, v177, x225), (fun i => i), ⟨(.cons (.same rfl rfl) (.cons (.same rfl rfl) (.cons (.same rfl rfl) (.cons (.same rfl rfl) (.cons (.same rfl rfl) .nil))))), (.cons (EntW.lst rfl) (.cons (.blk rfl rfl rfl) .nil)), nd_of [1000, 1001] rfl (by decide), (fun i hi => by first | rfl | (show (if _ then _ else _) = _; (repeat' split) <;> omega))⟩, ?_, ?_⟩
              exact h
              exact Nat.lt_succ_self _
      ·
        replace h := bif_f h hc153
        refine iwp_exit ?_
        refine thenQ_e ?_
        refine thenQ_e ?_
        refine blockQ_e ?_
        obtain rfl := Option.some.inj h
        refine ⟨.inl rfl, (fun i => i), ⟨.nil, (.cons (EntW.lst rfl) (.cons (.blk rfl rfl rfl) .nil)), nd_of [1000, 1001] rfl (by decide), (fun i hi => by first | rfl | (show (if _ then _ else _) = _; (repeat' split) <;> omega))⟩, .nil, rfl⟩

set_option maxRecDepth 8000 in
set_option maxHeartbeats 2000000 in
theorem p_slices_swapRangeCmpFunc_int_h_Order_1 (a0 : Int) (a1 : Int) (a2 : Int) (a3 : (List Int)) (a4 : (List Nat)) (r : (List Int)) (h : slices_swapRangeCmpFunc_int_h_Order_1 a0 a1 a2 a3 a4 = some r) : FnH Try.prog 44 [.osl 1000 (eInt .i64).sz a3.length, .int .i64 a0, .int .i64 a1, .int .i64 a2, .fn 37 [.ref 1001 0]] [(1000, .blk 3 (D.flat (a3.map (eInt .i64).d))), (1001, .blk 35 [.slice false (a4.map (eFlt .f64).d)])] (retD []) [(1000, .blk 3 (D.flat (r.map (eInt .i64).d))), (1001, .blk 35 [.slice false (a4.map (eFlt .f64).d)])] := by
  refine fnh_of_iwp (rs := []) Try.func44 rfl Try.ntmps44 (nle rfl) fun O hO => ?_
  show IWP _ _ _ _ ⟨[(0, .osl 1000 (eInt .i64).sz a3.length), (1, .int .i64 a0), (2, .int .i64 a1), (3, .int .i64 a2), (4, .fn 37 [.ref 1001 0])], [(1000, .blk 3 (D.flat (a3.map (eInt .i64).d))), (1001, .blk 35 [.slice false (a4.map (eFlt .f64).d)])]⟩ _
  unfold slices_swapRangeCmpFunc_int_h_Order_1 at h
  refine iwp_reg (ils_cons rfl (iop_assign rfl rfl (by decide) (sv (d := .int _ 0) rfl)) <|
    ils_end ?_)
  refine iwp_block ?_
  refine iwp_loopP (α := Nat × (List Int) × Int) (fun z => ⟨[(0, .osl 1000 (eInt .i64).sz z.2.1.length), (1, .int .i64 a0), (2, .int .i64 a1), (3, .int .i64 a2), (10, .int .i64 z.2.2)], [(1000, .blk 3 (D.flat (z.2.1.map (eInt .i64).d))), (1001, .blk 35 [.slice false (a4.map (eFlt .f64).d)])]⟩) (fun z => slices_swapRangeCmpFunc_int_h_Order_1_L0 a0 a1 a2 z.1 z.2.1 z.2.2 = some r) (fun z => z.1) (fuel, a3, 0) (fun i => i) ⟨(.cons (.same rfl rfl) (.cons (.same rfl rfl) (.cons (.same rfl rfl) (.cons (.same rfl rfl) (.cons (.same rfl rfl) .nil))))), (.cons (EntW.lst rfl) (.cons (.blk rfl rfl rfl) .nil)), nd_of [1000, 1001] rfl (by decide), (fun i hi => by first | rfl | (show (if _ then _ else _) = _; (repeat' split) <;> omega))⟩ ?_ ?_
  · exact h
  ·
    rintro ⟨n0, v18, v19⟩ h
    cases n0 with
    | zero => exact absurd h (by unfold slices_swapRangeCmpFunc_int_h_Order_1_L0; exact nofun)
    | succ n0 =>
      unfold slices_swapRangeCmpFunc_int_h_Order_1_L0 at h
      refine iwp_seq ?_
      obtain ⟨x37, hx37, h⟩ := bnd_e h
      refine iwp_reg (ils_cons rfl (iop_move rfl rfl (by decide) (sv (d := .int _ _) rfl)) <|
        ils_cons rfl (iop_move rfl rfl (by decide) (sv (d := .int _ _) rfl)) <|
        ils_cons rfl (iop_cmpx rfl rfl (by decide) (sv (d := .int _ _) rfl) (sv (d := .int _ _) rfl) rfl hx37) <|
        ils_end ?_)
      refine iwp_cond (b := _) rfl (fun hc38 => ?_) (fun hc38 => ?_)
      ·
        replace h := bif_t h hc38
        refine iwp_skip ?_
        refine thenQ_n ?_
        refine iwp_seq ?_
        refine iwp_block ?_
        obtain ⟨x39, hx39, h⟩ := bnd_e h
        obtain ⟨x40, hx40, h⟩ := bnd_e h
        obtain ⟨x41, hx41, h⟩ := bnd_e h
        obtain ⟨x42, hx42, h⟩ := bno_e h
        obtain ⟨x43, hx43, h⟩ := bno_e h
        obtain ⟨x44, hx44, h⟩ := bnd_e h
        obtain ⟨x45, hx45, h⟩ := bno_e h
        obtain ⟨x46, hx46, h⟩ := bno_e h
        obtain ⟨x47, hx47, h⟩ := bno_e h
        obtain ⟨x48, hx48, h⟩ := bno_e h
        obtain ⟨x49, hx49, h⟩ := bnd_e h
        obtain ⟨x50, hx50, h⟩ := bno_e h
        obtain ⟨x51, hx51, h⟩ := bno_e h
        obtain ⟨x52, hx52, h⟩ := bnd_e h
        refine iwp_draw rfl [⟨[0], [], [(16, .osl 1000 (eInt .i64).sz v18.length)], []⟩,
          ⟨[1], [], [(17, .int .i64 a0)], []⟩,
          ⟨[10], [], [(18, .int .i64 v19)], []⟩,
          ⟨[17, 18], [], [(19, .int .i64 x39)], []⟩,
          ⟨[0], [], [(20, .osl 1000 (eInt .i64).sz v18.length)], []⟩,
          ⟨[2], [], [(21, .int .i64 a1)], []⟩,
          ⟨[10], [], [(22, .int .i64 v19)], []⟩,
          ⟨[21, 22], [], [(23, .int .i64 x40)], []⟩,
          ⟨[0], [], [(24, .osl 1000 (eInt .i64).sz v18.length)], []⟩,
          ⟨[2], [], [(25, .int .i64 a1)], []⟩,
          ⟨[10], [], [(26, .int .i64 v19)], []⟩,
          ⟨[25, 26], [], [(27, .int .i64 x41)], []⟩,
          ⟨[24, 27], [], [(28, .ref 1000 (((x41 : Int).toNat) * (eInt .i64).sz + 0))], []⟩,
          ⟨[28], [1000], [(29, .int .i64 x43)], []⟩,
          ⟨[0], [], [(30, .osl 1000 (eInt .i64).sz v18.length)], []⟩,
          ⟨[1], [], [(31, .int .i64 a0)], []⟩,
          ⟨[10], [], [(32, .int .i64 v19)], []⟩,
          ⟨[31, 32], [], [(33, .int .i64 x44)], []⟩,
          ⟨[30, 33], [], [(34, .ref 1000 (((x44 : Int).toNat) * (eInt .i64).sz + 0))], []⟩,
          ⟨[34], [1000], [(35, .int .i64 x46)], []⟩,
          ⟨[16, 19], [], [(36, .ref 1000 (((x39 : Int).toNat) * (eInt .i64).sz + 0))], []⟩,
          ⟨[29, 36], [1000], [], [(1000, .blk 3 (D.flat (x49.map (eInt .i64).d)))]⟩,
          ⟨[20, 23], [], [(37, .ref 1000 (((x40 : Int).toNat) * (eInt .i64).sz + 0))], []⟩,
          ⟨[35, 37], [1000], [], [(1000, .blk 3 (D.flat (x52.map (eInt .i64).d)))]⟩] rfl ?_ (by kernel_rfl) ?_
        · refine .cons (lop rfl rfl fun S hA => (iop_move rfl rfl (by decide) (sv (d := .osl _ _ _) (agr hA rfl rfl)))) ?_
          refine .cons (lop rfl rfl fun S hA => (iop_move rfl rfl (by decide) (sv (d := .int _ _) (agr hA rfl rfl)))) ?_
          refine .cons (lop rfl rfl fun S hA => (iop_move rfl rfl (by decide) (sv (d := .int _ _) (agr hA rfl rfl)))) ?_
          refine .cons (lop rfl rfl fun S hA => (iop_intx rfl rfl (by decide) (sv (d := .int _ _) (agr hA rfl rfl)) (sv (d := .int _ _) (agr hA rfl rfl)) rfl hx39)) ?_
          refine .cons (lop rfl rfl fun S hA => (iop_move rfl rfl (by decide) (sv (d := .osl _ _ _) (agr hA rfl rfl)))) ?_
          refine .cons (lop rfl rfl fun S hA => (iop_move rfl rfl (by decide) (sv (d := .int _ _) (agr hA rfl rfl)))) ?_
          refine .cons (lop rfl rfl fun S hA => (iop_move rfl rfl (by decide) (sv (d := .int _ _) (agr hA rfl rfl)))) ?_
          refine .cons (lop rfl rfl fun S hA => (iop_intx rfl rfl (by decide) (sv (d := .int _ _) (agr hA rfl rfl)) (sv (d := .int _ _) (agr hA rfl rfl)) rfl hx40)) ?_
          refine .cons (lop rfl rfl fun S hA => (iop_move rfl rfl (by decide) (sv (d := .osl _ _ _) (agr hA rfl rfl)))) ?_
          refine .cons (lop rfl rfl fun S hA => (iop_move rfl rfl (by decide) (sv (d := .int _ _) (agr hA rfl rfl)))) ?_
          refine .cons (lop rfl rfl fun S hA => (iop_move rfl rfl (by decide) (sv (d := .int _ _) (agr hA rfl rfl)))) ?_
          refine .cons (lop rfl rfl fun S hA => (iop_intx rfl rfl (by decide) (sv (d := .int _ _) (agr hA rfl rfl)) (sv (d := .int _ _) (agr hA rfl rfl)) rfl hx41)) ?_
          refine .cons (lop rfl rfl fun S hA => (iop_idxO (eInt .i64).toEnc0 rfl rfl (by decide) Try.underlying39 ti3 (sv (d := .osl _ _ _) (agr hA rfl rfl)) rfl (sv (d := .int _ _) (agr hA rfl rfl)) hx42)) ?_
          refine .cons (lop rfl rfl fun S hA => (iop_loadEs (eInt .i64).toEnc0 (d := .int _ _) rfl rfl (by decide) Try.underlying3 ag3 ti3 (by decide) (sv (d := .ref _ _) (agr hA rfl rfl)) (agi hA rfl rfl) hx43 (nle rfl) rfl)) ?_
          refine .cons (lop rfl rfl fun S hA => (iop_move rfl rfl (by decide) (sv (d := .osl _ _ _) (agr hA rfl rfl)))) ?_
          refine .cons (lop rfl rfl fun S hA => (iop_move rfl rfl (by decide) (sv (d := .int _ _) (agr hA rfl rfl)))) ?_
          refine .cons (lop rfl rfl fun S hA => (iop_move rfl rfl (by decide) (sv (d := .int _ _) (agr hA rfl rfl)))) ?_
          refine .cons (lop rfl rfl fun S hA => (iop_intx rfl rfl (by decide) (sv (d := .int _ _) (agr hA rfl rfl)) (sv (d := .int _ _) (agr hA rfl rfl)) rfl hx44)) ?_
          refine .cons (lop rfl rfl fun S hA => (iop_idxO (eInt .i64).toEnc0 rfl rfl (by decide) Try.underlying39 ti3 (sv (d := .osl _ _ _) (agr hA rfl rfl)) rfl (sv (d := .int _ _) (agr hA rfl rfl)) hx45)) ?_
          refine .cons (lop rfl rfl fun S hA => (iop_loadEs (eInt .i64).toEnc0 (d := .int _ _) rfl rfl (by decide) Try.underlying3 ag3 ti3 (by decide) (sv (d := .ref _ _) (agr hA rfl rfl)) (agi hA rfl rfl) hx46 (nle rfl) rfl)) ?_
          refine .cons (lop rfl rfl fun S hA => (iop_idxO (eInt .i64).toEnc0 rfl rfl (by decide) Try.underlying39 ti3 (sv (d := .osl _ _ _) (agr hA rfl rfl)) rfl (sv (d := .int _ _) (agr hA rfl rfl)) hx47)) ?_
          refine .cons (lop rfl rfl fun S hA => (iop_storeE (eInt .i64).toEnc0 (a' := x43) rfl rfl ti3 (sv (d := .ref _ _) (agr hA rfl rfl)) (agi hA rfl rfl) (sv (d := .int _ _) (agr hA rfl rfl)) rfl rfl rfl hx48 (nle rfl) rfl hx49)) ?_
          refine .cons (lop rfl rfl fun S hA => (iop_idxO (eInt .i64).toEnc0 rfl rfl (by decide) Try.underlying39 ti3 (sv (d := .osl _ _ _) (agr hA rfl rfl)) (len_set hx49 rfl) (sv (d := .int _ _) (agr hA rfl rfl)) hx50)) ?_
          refine .cons (lop rfl rfl fun S hA => (iop_storeE (eInt .i64).toEnc0 (a' := x46) rfl rfl ti3 (sv (d := .ref _ _) (agr hA rfl rfl)) (agi hA rfl rfl) (sv (d := .int _ _) (agr hA rfl rfl)) rfl rfl rfl hx51 (nle rfl) rfl hx52)) ?_
          exact .nil
        refine blockQ_n ?_
        refine thenQ_n ?_
        obtain ⟨x53, hx53, h⟩ := bnd_e h
        refine iwp_region (ils_cons rfl (iop_move rfl rfl (by decide) (sv (d := .int _ _) rfl)) <|
          ils_cons rfl (iop_intx rfl rfl (by decide) (sv (d := .int _ _) rfl) (sv (d := .int _ 1) rfl) rfl hx53) <|
          ils_cons rfl (iop_assign rfl rfl (by decide) (sv (d := .int _ _) rfl)) <|
          ils_nil ?_)
        refine thenQ_n ⟨(n0, x52, x53), (fun i => i), ⟨(.cons (.same (congrArg (D.osl _ _) (len_set hx52 (len_set hx49 rfl)).symm) rfl) (.cons (.same rfl rfl) (.cons (.same rfl rfl) (.cons (.same rfl rfl) (.cons (.same rfl rfl) .nil))))), (.cons (EntW.lst rfl) (.cons (.blk rfl rfl rfl) .nil)), nd_of [1000, 1001] rfl (by decide), (fun i hi => by first | rfl | (show (if _ then _ else _) = _; (repeat' split) <;> omega))⟩, ?_, ?_⟩
        exact h
        exact Nat.lt_succ_self _
      ·
        replace h := bif_f h hc38
        refine iwp_exit ?_
        refine thenQ_e ?_
        refine thenQ_e ?_
        refine blockQ_e ?_
        obtain rfl := Option.some.inj h
        refine ⟨.inl rfl, (fun i => i), ⟨.nil, (.cons (EntW.lst rfl) (.cons (.blk rfl rfl rfl) .nil)), nd_of [1000, 1001] rfl (by decide), (fun i hi => by first | rfl | (show (if _ then _ else _) = _; (repeat' split) <;> omega))⟩, .nil, rfl⟩

set_option maxRecDepth 8000 in
set_option maxHeartbeats 2000000 in
theorem p_slices_rotateCmpFunc_int_h_Order_1 (a0 : Int) (a1 : Int) (a2 : Int) (a3 : (List Int)) (a4 : (List Nat)) (r : (List Int)) (h : slices_rotateCmpFunc_int_h_Order_1 a0 a1 a2 a3 a4 = some r) : FnH Try.prog 43 [.osl 1000 (eInt .i64).sz a3.length, .int .i64 a0, .int .i64 a1, .int .i64 a2, .fn 37 [.ref 1001 0]] [(1000, .blk 3 (D.flat (a3.map (eInt .i64).d))), (1001, .blk 35 [.slice false (a4.map (eFlt .f64).d)])] (retD []) [(1000, .blk 3 (D.flat (r.map (eInt .i64).d))), (1001, .blk 35 [.slice false (a4.map (eFlt .f64).d)])] := by
  refine fnh_of_iwp (rs := []) Try.func43 rfl Try.ntmps43 (nle rfl) fun O hO => ?_
  show IWP _ _ _ _ ⟨[(0, .osl 1000 (eInt .i64).sz a3.length), (1, .int .i64 a0), (2, .int .i64 a1), (3, .int .i64 a2), (4, .fn 37 [.ref 1001 0])], [(1000, .blk 3 (D.flat (a3.map (eInt .i64).d))), (1001, .blk 35 [.slice false (a4.map (eFlt .f64).d)])]⟩ _
  unfold slices_rotateCmpFunc_int_h_Order_1 at h
  obtain ⟨x1, hx1, h⟩ := bnd_e h
  refine iwp_reg (ils_cons rfl (iop_move rfl rfl (by decide) (sv (d := .int _ _) rfl)) <|
    ils_cons rfl (iop_move rfl rfl (by decide) (sv (d := .int _ _) rfl)) <|
    ils_cons rfl (iop_intx rfl rfl (by decide) (sv (d := .int _ _) rfl) (sv (d := .int _ _) rfl) rfl hx1) <|
    ils_cons rfl (iop_assign rfl rfl (by decide) (sv (d := .int _ _) rfl)) <|
    ils_end ?_)
  obtain ⟨x2, hx2, h⟩ := bnd_e h
  refine iwp_reg (ils_cons rfl (iop_move rfl rfl (by decide) (sv (d := .int _ _) rfl)) <|
    ils_cons rfl (iop_move rfl rfl (by decide) (sv (d := .int _ _) rfl)) <|
    ils_cons rfl (iop_intx rfl rfl (by decide) (sv (d := .int _ _) rfl) (sv (d := .int _ _) rfl) rfl hx2) <|
    ils_cons rfl (iop_assign rfl rfl (by decide) (sv (d := .int _ _) rfl)) <|
    ils_end ?_)
  refine iwp_seq ?_
  refine iwp_block ?_
  refine iwp_loopP (α := Nat × (List Int) × Int × Int) (fun z => ⟨[(0, .osl 1000 (eInt .i64).sz z.2.1.length), (2, .int .i64 a1), (4, .fn 37 [.ref 1001 0]), (10, .int .i64 z.2.2.1), (11, .int .i64 z.2.2.2)], [(1000, .blk 3 (D.flat (z.2.1.map (eInt .i64).d))), (1001, .blk 35 [.slice false (a4.map (eFlt .f64).d)])]⟩) (fun z => slices_rotateCmpFunc_int_h_Order_1_L0 a1 a4 z.1 z.2.1 z.2.2.1 z.2.2.2 = some r) (fun z => z.1) (fuel, a3, x1, x2) (fun i => i) ⟨(.cons (.same rfl rfl) (.cons (.same rfl rfl) (.cons (.same rfl rfl) (.cons (.same rfl rfl) (.cons (.same rfl rfl) .nil))))), (.cons (EntW.lst rfl) (.cons (.blk rfl rfl rfl) .nil)), nd_of [1000, 1001] rfl (by decide), (fun i hi => by first | rfl | (show (if _ then _ else _) = _; (repeat' split) <;> omega))⟩ ?_ ?_
  · exact h
  ·
    rintro ⟨n0, v17, v18, v19⟩ h
    cases n0 with
    | zero => exact absurd h (by unfold slices_rotateCmpFunc_int_h_Order_1_L0; exact nofun)
    | succ n0 =>
      unfold slices_rotateCmpFunc_int_h_Order_1_L0 at h
      refine iwp_seq ?_
      obtain ⟨x34, hx34, h⟩ := bnd_e h
      refine iwp_reg (ils_cons rfl (iop_move rfl rfl (by decide) (sv (d := .int _ _) rfl)) <|
        ils_cons rfl (iop_move rfl rfl (by decide) (sv (d := .int _ _) rfl)) <|
        ils_cons rfl (iop_cmpx rfl rfl (by decide) (sv (d := .int _ _) rfl) (sv (d := .int _ _) rfl) rfl hx34) <|
        ils_end ?_)
      refine iwp_cond (b := _) rfl (fun hc35 => ?_) (fun hc35 => ?_)
      ·
        replace h := bif_t h hc35
        refine iwp_skip ?_
        refine thenQ_n ?_
        refine iwp_block ?_
        obtain ⟨x36, hx36, h⟩ := bnd_e h
        refine iwp_reg (ils_cons rfl (iop_move rfl rfl (by decide) (sv (d := .int _ _) rfl)) <|
          ils_cons rfl (iop_move rfl rfl (by decide) (sv (d := .int _ _) rfl)) <|
          ils_cons rfl (iop_cmpx rfl rfl (by decide) (sv (d := .int _ _) rfl) (sv (d := .int _ _) rfl) rfl hx36) <|
          ils_end ?_)
        refine iwp_cond (b := _) rfl (fun hc37 => ?_) (fun hc37 => ?_)
        ·
          replace h := bif_t h hc37
          obtain ⟨x38, hx38, h⟩ := bnd_e h
          obtain ⟨x39, hx39, h⟩ := bno_e h
          obtain ⟨hk40, h⟩ := chk_e h
          refine iwp_reg (ils_cons rfl (iop_move rfl rfl (by decide) (sv (d := .osl _ _ _) rfl)) <|
            ils_cons rfl (iop_move rfl rfl (by decide) (sv (d := .int _ _) rfl)) <|
            ils_cons rfl (iop_move rfl rfl (by decide) (sv (d := .int _ _) rfl)) <|
            ils_cons rfl (iop_intx rfl rfl (by decide) (sv (d := .int _ _) rfl) (sv (d := .int _ _) rfl) rfl hx38) <|
            ils_cons rfl (iop_move rfl rfl (by decide) (sv (d := .int _ _) rfl)) <|
            ils_cons rfl (iop_move rfl rfl (by decide) (sv (d := .int _ _) rfl)) <|
            ils_cons rfl (iop_move rfl rfl (by decide) (sv (d := .fn 37 [.ref _ _]) rfl)) <|
            ils_cons rfl (iop_callh2 (r' := .tuple []) (H1' := [(1000, .blk 3 (D.flat (x39.map (eInt .i64).d))), (1001, .blk 35 [.slice false (a4.map (eFlt .f64).d)])]) 0 [1000, 1001] rfl rfl (by decide) cl44 (.cons (sv (d := .osl _ _ _) rfl) (.cons (sv (d := .int _ _) rfl) (.cons (sv (d := .int _ _) rfl) (.cons (sv (d := .int _ _) rfl) (.cons (sv (d := .fn 37 [.ref _ _]) rfl) .nil))))) rfl rfl ⟨rfl, rfl, by decide, rfl, List.forall_mem_cons.2 ⟨⟨rfl, rfl, (handL (eInt .i64) rfl), (handLr (eInt .i64))⟩, List.forall_mem_cons.2 ⟨⟨rfl, rfl, rfl, rfl⟩, List.forall_mem_nil _⟩⟩⟩ (p_slices_swapRangeCmpFunc_int_h_Order_1 _ _ _ _ _ _ hx39) rfl rfl (List.forall_mem_cons.2 ⟨⟨rfl, (handLr (eInt .i64))⟩, List.forall_mem_cons.2 ⟨⟨rfl, rfl⟩, List.forall_mem_nil _⟩⟩) (by simp only [List.map_cons, List.map_nil, Ent.ren, renL_flat, renL_ref]; rfl)) <|
            ils_end ?_)
          obtain ⟨x41, hx41, h⟩ := bnd_e h
          refine iwp_region (ils_cons rfl (iop_move rfl rfl (by decide) (sv (d := .int _ _) rfl)) <|
            ils_cons rfl (iop_move rfl rfl (by decide) (sv (d := .int _ _) rfl)) <|
            ils_cons rfl (iop_intx rfl rfl (by decide) (sv (d := .int _ _) rfl) (sv (d := .int _ _) rfl) rfl hx41) <|
            ils_cons rfl (iop_assign rfl rfl (by decide) (sv (d := .int _ _) rfl)) <|
            ils_nil ?_)
          refine blockQ_n ?_
          refine thenQ_n ⟨(n0, x39, x41, v19), (fun i => i), ⟨(.cons (.same (congrArg (D.osl _ _) hk40.symm) rfl) (.cons (.same rfl rfl) (.cons (.same rfl rfl) (.cons (.same rfl rfl) (.cons (.same rfl rfl) .nil))))), (.cons (EntW.lst rfl) (.cons (.blk rfl rfl rfl) .nil)), nd_of [1000, 1001] rfl (by decide), (fun i hi => by first | rfl | (show (if _ then _ else _) = _; (repeat' split) <;> omega))⟩, ?_, ?_⟩
          exact h
          exact Nat.lt_succ_self _
        ·
          replace h := bif_f h hc37
          obtain ⟨x42, hx42, h⟩ := bnd_e h
          obtain ⟨x43, hx43, h⟩ := bnd_e h
          obtain ⟨x44, hx44, h⟩ := bnd_e h
          obtain ⟨x45, hx45, h⟩ := bno_e h
          obtain ⟨hk46, h⟩ := chk_e h
          refine iwp_reg (ils_cons rfl (iop_move rfl rfl (by decide) (sv (d := .osl _ _ _) rfl)) <|
            ils_cons rfl (iop_move rfl rfl (by decide) (sv (d := .int _ _) rfl)) <|
            ils_cons rfl (iop_move rfl rfl (by decide) (sv (d := .int _ _) rfl)) <|
            ils_cons rfl (iop_intx rfl rfl (by decide) (sv (d := .int _ _) rfl) (sv (d := .int _ _) rfl) rfl hx42) <|
            ils_cons rfl (iop_move rfl rfl (by decide) (sv (d := .int _ _) rfl)) <|
            ils_cons rfl (iop_move rfl rfl (by decide) (sv (d := .int _ _) rfl)) <|
            ils_cons rfl (iop_intx rfl rfl (by decide) (sv (d := .int _ _) rfl) (sv (d := .int _ _) rfl) rfl hx43) <|
            ils_cons rfl (iop_move rfl rfl (by decide) (sv (d := .int _ _) rfl)) <|
            ils_cons rfl (iop_intx rfl rfl (by decide) (sv (d := .int _ _) rfl) (sv (d := .int _ _) rfl) rfl hx44) <|
            ils_cons rfl (iop_move rfl rfl (by decide) (sv (d := .int _ _) rfl)) <|
            ils_cons rfl (iop_move rfl rfl (by decide) (sv (d := .fn 37 [.ref _ _]) rfl)) <|
            ils_cons rfl (iop_callh2 (r' := .tuple []) (H1' := [(1000, .blk 3 (D.flat (x45.map (eInt .i64).d))), (1001, .blk 35 [.slice false (a4.map (eFlt .f64).d)])]) 0 [1000, 1001] rfl rfl (by decide) cl44 (.cons (sv (d := .osl _ _ _) rfl) (.cons (sv (d := .int _ _) rfl) (.cons (sv (d := .int _ _) rfl) (.cons (sv (d := .int _ _) rfl) (.cons (sv (d := .fn 37 [.ref _ _]) rfl) .nil))))) rfl rfl ⟨rfl, rfl, by decide, rfl, List.forall_mem_cons.2 ⟨⟨rfl, rfl, (handL (eInt .i64) rfl), (handLr (eInt .i64))⟩, List.forall_mem_cons.2 ⟨⟨rfl, rfl, rfl, rfl⟩, List.forall_mem_nil _⟩⟩⟩ (p_slices_swapRangeCmpFunc_int_h_Order_1 _ _ _ _ _ _ hx45) rfl rfl (List.forall_mem_cons.2 ⟨⟨rfl, (handLr (eInt .i64))⟩, List.forall_mem_cons.2 ⟨⟨rfl, rfl⟩, List.forall_mem_nil _⟩⟩) (by simp only [List.map_cons, List.map_nil, Ent.ren, renL_flat, renL_ref]; rfl)) <|
            ils_end ?_)
          obtain ⟨x47, hx47, h⟩ := bnd_e h
          refine iwp_region (ils_cons rfl (iop_move rfl rfl (by decide) (sv (d := .int _ _) rfl)) <|
            ils_cons rfl (iop_move rfl rfl (by decide) (sv (d := .int _ _) rfl)) <|
            ils_cons rfl (iop_intx rfl rfl (by decide) (sv (d := .int _ _) rfl) (sv (d := .int _ _) rfl) rfl hx47) <|
            ils_cons rfl (iop_assign rfl rfl (by decide) (sv (d := .int _ _) rfl)) <|
            ils_nil ?_)
          refine blockQ_n ?_
          refine thenQ_n ⟨(n0, x45, v18, x47), (fun i => i), ⟨(.cons (.same (congrArg (D.osl _ _) hk46.symm) rfl) (.cons (.same rfl rfl) (.cons (.same rfl rfl) (.cons (.same rfl rfl) (.cons (.same rfl rfl) .nil))))), (.cons (EntW.lst rfl) (.cons (.blk rfl rfl rfl) .nil)), nd_of [1000, 1001] rfl (by decide), (fun i hi => by first | rfl | (show (if _ then _ else _) = _; (repeat' split) <;> omega))⟩, ?_, ?_⟩
          exact h
          exact Nat.lt_succ_self _
      ·
        replace h := bif_f h hc35
        refine iwp_exit ?_
        refine thenQ_e ?_
        refine thenQ_e ?_
        refine blockQ_e ?_
        refine thenQ_n ?_
        obtain ⟨x48, hx48, h⟩ := bnd_e h
        obtain ⟨x49, hx49, h⟩ := bno_e h
        obtain ⟨hk50, h⟩ := chk_e h
        refine iwp_region (ils_cons rfl (iop_move rfl rfl (by decide) (sv (d := .osl _ _ _) rfl)) <|
          ils_cons rfl (iop_move rfl rfl (by decide) (sv (d := .int _ _) rfl)) <|
          ils_cons rfl (iop_move rfl rfl (by decide) (sv (d := .int _ _) rfl)) <|
          ils_cons rfl (iop_intx rfl rfl (by decide) (sv (d := .int _ _) rfl) (sv (d := .int _ _) rfl) rfl hx48) <|
          ils_cons rfl (iop_move rfl rfl (by decide) (sv (d := .int _ _) rfl)) <|
          ils_cons rfl (iop_move rfl rfl (by decide) (sv (d := .int _ _) rfl)) <|
          ils_cons rfl (iop_move rfl rfl (by decide) (sv (d := .fn 37 [.ref _ _]) rfl)) <|
          ils_cons rfl (iop_callh2 (r' := .tuple []) (H1' := [(1000, .blk 3 (D.flat (x49.map (eInt .i64).d))), (1001, .blk 35 [.slice false (a4.map (eFlt .f64).d)])]) 0 [1000, 1001] rfl rfl (by decide) cl44 (.cons (sv (d := .osl _ _ _) rfl) (.cons (sv (d := .int _ _) rfl) (.cons (sv (d := .int _ _) rfl) (.cons (sv (d := .int _ _) rfl) (.cons (sv (d := .fn 37 [.ref _ _]) rfl) .nil))))) rfl rfl ⟨rfl, rfl, by decide, rfl, List.forall_mem_cons.2 ⟨⟨rfl, rfl, (handL (eInt .i64) rfl), (handLr (eInt .i64))⟩, List.forall_mem_cons.2 ⟨⟨rfl, rfl, rfl, rfl⟩, List.forall_mem_nil _⟩⟩⟩ (p_slices_swapRangeCmpFunc_int_h_Order_1 _ _ _ _ _ _ hx49) rfl rfl (List.forall_mem_cons.2 ⟨⟨rfl, (handLr (eInt .i64))⟩, List.forall_mem_cons.2 ⟨⟨rfl, rfl⟩, List.forall_mem_nil _⟩⟩) (by simp only [List.map_cons, List.map_nil, Ent.ren, renL_flat, renL_ref]; rfl)) <|
          ils_nil ?_)
        obtain rfl := Option.some.inj h
        refine ⟨.inl rfl, (fun i => i), ⟨.nil, (.cons (EntW.lst rfl) (.cons (.blk rfl rfl rfl) .nil)), nd_of [1000, 1001] rfl (by decide), (fun i hi => by first | rfl | (show (if _ then _ else _) = _; (repeat' split) <;> omega))⟩, .nil, rfl⟩

set_option maxRecDepth 8000 in
set_option maxHeartbeats 2000000 in
theorem p_slices_symMergeCmpFunc_int_h_Order_1 (nr : Nat) : ∀ (a0 : Int) (a1 : Int) (a2 : Int) (a3 : (List Int)) (a4 : (List Nat)) (r : (List Int)) (h : slices_symMergeCmpFunc_int_h_Order_1 nr a0 a1 a2 a3 a4 = some r), FnH Try.prog 42 [.osl 1000 (eInt .i64).sz a3.length, .int .i64 a0, .int .i64 a1, .int .i64 a2, .fn 37 [.ref 1001 0]] [(1000, .blk 3 (D.flat (a3.map (eInt .i64).d))), (1001, .blk 35 [.slice false (a4.map (eFlt .f64).d)])] (retD []) [(1000, .blk 3 (D.flat (r.map (eInt .i64).d))), (1001, .blk 35 [.slice false (a4.map (eFlt .f64).d)])] := by
  induction nr with
  | zero => intro a0 a1 a2 a3 a4 r h; cases h
  | succ nr ih =>
  intro a0 a1 a2 a3 a4 r h
  replace h : slices_symMergeCmpFunc_int_h_Order_1_B (slices_symMergeCmpFunc_int_h_Order_1 nr) a0 a1 a2 a3 a4 = some r := h
  refine fnh_of_iwp (rs := []) Try.func42 rfl Try.ntmps42 (nle rfl) fun O hO => ?_
  show IWP _ _ _ _ ⟨[(0, .osl 1000 (eInt .i64).sz a3.length), (1, .int .i64 a0), (2, .int .i64 a1), (3, .int .i64 a2), (4, .fn 37 [.ref 1001 0])], [(1000, .blk 3 (D.flat (a3.map (eInt .i64).d))), (1001, .blk 35 [.slice false (a4.map (eFlt .f64).d)])]⟩ _
  unfold slices_symMergeCmpFunc_int_h_Order_1_B at h
  refine iwp_seq ?_
  obtain ⟨x1, hx1, h⟩ := bnd_e h
  obtain ⟨x2, hx2, h⟩ := bnd_e h
  refine iwp_reg (ils_cons rfl (iop_move rfl rfl (by decide) (sv (d := .int _ _) rfl)) <|
    ils_cons rfl (iop_move rfl rfl (by decide) (sv (d := .int _ _) rfl)) <|
    ils_cons rfl (iop_intx rfl rfl (by decide) (sv (d := .int _ _) rfl) (sv (d := .int _ _) rfl) rfl hx1) <|
    ils_cons rfl (iop_cmpx rfl rfl (by decide) (sv (d := .int _ _) rfl) (sv (d := .int _ 1) rfl) rfl hx2) <|
    ils_end ?_)
  refine iwp_cond (b := _) rfl (fun hc3 => ?_) (fun hc3 => ?_)
  ·
    replace h := bif_t h hc3
    refine iwp_reg (ils_cons rfl (iop_move rfl rfl (by decide) (sv (d := .int _ _) rfl)) <|
      ils_cons rfl (iop_assign rfl rfl (by decide) (sv (d := .int _ _) rfl)) <|
      ils_end ?_)
    refine iwp_reg (ils_cons rfl (iop_move rfl rfl (by decide) (sv (d := .int _ _) rfl)) <|
      ils_cons rfl (iop_assign rfl rfl (by decide) (sv (d := .int _ _) rfl)) <|
      ils_end ?_)
    refine iwp_seq ?_
    refine iwp_block ?_
    refine iwp_loopP (α := Nat × Int × Int) (fun z => ⟨[(0, .osl 1000 (eInt .i64).sz a3.length), (1, .int .i64 a0), (4, .fn 37 [.ref 1001 0]), (10, .int .i64 z.2.1), (11, .int .i64 z.2.2)], [(1000, .blk 3 (D.flat (a3.map (eInt .i64).d))), (1001, .blk 35 [.slice false (a4.map (eFlt .f64).d)])]⟩) (fun z => slices_symMergeCmpFunc_int_h_Order_1_L0 a0 a3 a4 z.1 z.2.1 z.2.2 = some r) (fun z => z.1) (fuel, a1, a2) (fun i => i) ⟨(.cons (.same rfl rfl) (.cons (.same rfl rfl) (.cons (.same rfl rfl) (.cons (.same rfl rfl) (.cons (.same rfl rfl) .nil))))), (.cons (EntW.lst rfl) (.cons (.blk rfl rfl rfl) .nil)), nd_of [1000, 1001] rfl (by decide), (fun i hi => by first | rfl | (show (if _ then _ else _) = _; (repeat' split) <;> omega))⟩ ?_ ?_
    · exact h
    ·
      rintro ⟨n0, v18, v19⟩ h
      cases n0 with
      | zero => exact absurd h (by unfold slices_symMergeCmpFunc_int_h_Order_1_L0; exact nofun)
      | succ n0 =>
        unfold slices_symMergeCmpFunc_int_h_Order_1_L0 at h
        refine iwp_seq ?_
        obtain ⟨x34, hx34, h⟩ := bnd_e h
        refine iwp_reg (ils_cons rfl (iop_move rfl rfl (by decide) (sv (d := .int _ _) rfl)) <|
          ils_cons rfl (iop_move rfl rfl (by decide) (sv (d := .int _ _) rfl)) <|
          ils_cons rfl (iop_cmpx rfl rfl (by decide) (sv (d := .int _ _) rfl) (sv (d := .int _ _) rfl) rfl hx34) <|
          ils_end ?_)
        refine iwp_cond (b := _) rfl (fun hc35 => ?_) (fun hc35 => ?_)
        ·
          replace h := bif_t h hc35
          refine iwp_skip ?_
          refine thenQ_n ?_
          refine iwp_block ?_
          obtain ⟨x36, hx36, h⟩ := bnd_e h
          obtain ⟨x37, hx37, h⟩ := bnd_e h
          obtain ⟨x38, hx38, h⟩ := bno_e h
          obtain ⟨x39, hx39, h⟩ := bnd_e h
          refine iwp_reg (ils_cons rfl (iop_move rfl rfl (by decide) (sv (d := .int _ _) rfl)) <|
            ils_cons rfl (iop_move rfl rfl (by decide) (sv (d := .int _ _) rfl)) <|
            ils_cons rfl (iop_intx rfl rfl (by decide) (sv (d := .int _ _) rfl) (sv (d := .int _ _) rfl) rfl hx36) <|
            ils_cons rfl (iop_int_conv rfl rfl (by decide) ⟨_, Try.underlying3⟩ Try.underlying59 (sv (d := .int _ _) rfl) hx37) <|
            ils_cons rfl (iop_shrx rfl rfl (by decide) (sv (d := .int _ _) rfl) (sv (d := .int _ 1) rfl) hx38) <|
            ils_cons rfl (iop_int_conv rfl rfl (by decide) ⟨_, Try.underlying59⟩ Try.underlying3 (sv (d := .int _ _) rfl) hx39) <|
            ils_cons rfl (iop_assign rfl rfl (by decide) (sv (d := .int _ _) rfl)) <|
            ils_end ?_)
          obtain ⟨x40, hx40, h⟩ := bno_e h
          obtain ⟨x41, hx41, h⟩ := bno_e h
          obtain ⟨x42, hx42, h⟩ := bno_e h
          obtain ⟨x43, hx43, h⟩ := bno_e h
          obtain ⟨x44, hx44, h⟩ := bno_e h
          obtain ⟨x45, hx45, h⟩ := bnd_e h
          refine iwp_drw rfl [⟨[4], [], [(40, .fn 37 [.ref 1001 0])], []⟩,
            ⟨[0], [], [(41, .osl 1000 (eInt .i64).sz a3.length)], []⟩,
            ⟨[12], [], [(42, .int .i64 x39)], []⟩,
            ⟨[41, 42], [], [(43, .ref 1000 (((x39 : Int).toNat) * (eInt .i64).sz + 0))], []⟩,
            ⟨[43], [1000], [(44, .int .i64 x41)], []⟩,
            ⟨[0], [], [(45, .osl 1000 (eInt .i64).sz a3.length)], []⟩,
            ⟨[1], [], [(46, .int .i64 a0)], []⟩,
            ⟨[45, 46], [], [(47, .ref 1000 (((a0 : Int).toNat) * (eInt .i64).sz + 0))], []⟩,
            ⟨[47], [1000], [(48, .int .i64 x43)], []⟩,
            ⟨[40, 44, 48], [1001], [(49, .int .i64 x44)], []⟩,
            ⟨[49], [], [(50, .bool x45)], []⟩] rfl ?_ (by kernel_rfl) ?_
          · refine .cons (lop rfl rfl fun S hA => (iop_move rfl rfl (by decide) (sv (d := .fn 37 [.ref _ _]) (agr hA rfl rfl)))) ?_
            refine .cons (lop rfl rfl fun S hA => (iop_move rfl rfl (by decide) (sv (d := .osl _ _ _) (agr hA rfl rfl)))) ?_
            refine .cons (lop rfl rfl fun S hA => (iop_move rfl rfl (by decide) (sv (d := .int _ _) (agr hA rfl rfl)))) ?_
            refine .cons (lop rfl rfl fun S hA => (iop_idxO (eInt .i64).toEnc0 rfl rfl (by decide) Try.underlying39 ti3 (sv (d := .osl _ _ _) (agr hA rfl rfl)) rfl (sv (d := .int _ _) (agr hA rfl rfl)) hx40)) ?_
            refine .cons (lop rfl rfl fun S hA => (iop_loadEs (eInt .i64).toEnc0 (d := .int _ _) rfl rfl (by decide) Try.underlying3 ag3 ti3 (by decide) (sv (d := .ref _ _) (agr hA rfl rfl)) (agi hA rfl rfl) hx41 (nle rfl) rfl)) ?_
            refine .cons (lop rfl rfl fun S hA => (iop_move rfl rfl (by decide) (sv (d := .osl _ _ _) (agr hA rfl rfl)))) ?_
            refine .cons (lop rfl rfl fun S hA => (iop_move rfl rfl (by decide) (sv (d := .int _ _) (agr hA rfl rfl)))) ?_
            refine .cons (lop rfl rfl fun S hA => (iop_idxO (eInt .i64).toEnc0 rfl rfl (by decide) Try.underlying39 ti3 (sv (d := .osl _ _ _) (agr hA rfl rfl)) rfl (sv (d := .int _ _) (agr hA rfl rfl)) hx42)) ?_
            refine .cons (lop rfl rfl fun S hA => (iop_loadEs (eInt .i64).toEnc0 (d := .int _ _) rfl rfl (by decide) Try.underlying3 ag3 ti3 (by decide) (sv (d := .ref _ _) (agr hA rfl rfl)) (agi hA rfl rfl) hx43 (nle rfl) rfl)) ?_
            refine .cons (lop rfl rfl fun S hA => (iop_callvp (r := .int .i64 x44) rfl rfl (by decide) cl37 (sv (d := .fn 37 [.ref _ _]) (agr hA rfl rfl)) (.cons (sv (d := .int _ _) (agr hA rfl rfl)) (.cons (sv (d := .int _ _) (agr hA rfl rfl)) .nil)) (.cons (.refl _) (.cons (.refl _) (.cons (.ref (agi hA rfl rfl) rfl (fdl_refl _) rfl) .nil))) rfl rfl (p_gauge_Order_1 _ _ _ _ hx44))) ?_
            refine .cons (lop rfl rfl fun S hA => (iop_cmpx rfl rfl (by decide) (sv (d := .int _ _) (agr hA rfl rfl)) (sv (d := .int _ 0) rfl) rfl hx45)) ?_
            exact .nil
          refine iwp_cond (b := _) rfl (fun hc46 => ?_) (fun hc46 => ?_)
          ·
            replace h := bif_t h hc46
            obtain ⟨x47, hx47, h⟩ := bnd_e h
            refine iwp_region (ils_cons rfl (iop_move rfl rfl (by decide) (sv (d := .int _ _) rfl)) <|
              ils_cons rfl (iop_intx rfl rfl (by decide) (sv (d := .int _ _) rfl) (sv (d := .int _ 1) rfl) rfl hx47) <|
              ils_cons rfl (iop_assign rfl rfl (by decide) (sv (d := .int _ _) rfl)) <|
              ils_nil ?_)
            refine blockQ_n ?_
            refine thenQ_n ⟨(n0, x47, v19), (fun i => i), ⟨(.cons (.same rfl rfl) (.cons (.same rfl rfl) (.cons (.same rfl rfl) (.cons (.same rfl rfl) (.cons (.same rfl rfl) .nil))))), (.cons (EntW.lst rfl) (.cons (.blk rfl rfl rfl) .nil)), nd_of [1000, 1001] rfl (by decide), (fun i hi => by first | rfl | (show (if _ then _ else _) = _; (repeat' split) <;> omega))⟩, ?_, ?_⟩
            exact h
            exact Nat.lt_succ_self _
          ·
            replace h := bif_f h hc46
            refine iwp_region (ils_cons rfl (iop_move rfl rfl (by decide) (sv (d := .int _ _) rfl)) <|
              ils_cons rfl (iop_assign rfl rfl (by decide) (sv (d := .int _ _) rfl)) <|
              ils_nil ?_)
            refine blockQ_n ?_
            refine thenQ_n ⟨(n0, v18, x39), (fun i => i), ⟨(.cons (.same rfl rfl) (.cons (.same rfl rfl) (.cons (.same rfl rfl) (.cons (.same rfl rfl) (.cons (.same rfl rfl) .nil))))), (.cons (EntW.lst rfl) (.cons (.blk rfl rfl rfl) .nil)), nd_of [1000, 1001] rfl (by decide), (fun i hi => by first | rfl | (show (if _ then _ else _) = _; (repeat' split) <;> omega))⟩, ?_, ?_⟩
            exact h
            exact Nat.lt_succ_self _
        ·
          replace h := bif_f h hc35
          refine iwp_exit ?_
          refine thenQ_e ?_
          refine thenQ_e ?_
          refine blockQ_e ?_
          refine thenQ_n ?_
          refine iwp_seq ?_
          refine iwp_reg (ils_cons rfl (iop_move rfl rfl (by decide) (sv (d := .int _ _) rfl)) <|
            ils_cons rfl (iop_assign rfl rfl (by decide) (sv (d := .int _ _) rfl)) <|
            ils_end ?_)
          refine iwp_block ?_
          refine iwp_loopP (α := Nat × (List Int) × Int) (fun z => ⟨[(0, .osl 1000 (eInt .i64).sz z.2.1.length), (10, .int .i64 v18), (13, .int .i64 z.2.2)], [(1000, .blk 3 (D.flat (z.2.1.map (eInt .i64).d))), (1001, .blk 35 [.slice false (a4.map (eFlt .f64).d)])]⟩) (fun z => slices_symMergeCmpFunc_int_h_Order_1_L1 v18 z.1 z.2.1 z.2.2 = some r) (fun z => z.1) (fuel, a3, a0) (fun i => i) ⟨(.cons (.same rfl rfl) (.cons (.same rfl rfl) (.cons (.same rfl rfl) .nil))), (.cons (EntW.lst rfl) (.cons (.blk rfl rfl rfl) .nil)), nd_of [1000, 1001] rfl (by decide), (fun i hi => by first | rfl | (show (if _ then _ else _) = _; (repeat' split) <;> omega))⟩ ?_ ?_
          · exact h
          ·
            rintro ⟨n1, v64, v65⟩ h
            cases n1 with
            | zero => exact absurd h (by unfold slices_symMergeCmpFunc_int_h_Order_1_L1; exact nofun)
            | succ n1 =>
              unfold slices_symMergeCmpFunc_int_h_Order_1_L1 at h
              refine iwp_seq ?_
              obtain ⟨x82, hx82, h⟩ := bnd_e h
              obtain ⟨x83, hx83, h⟩ := bnd_e h
              refine iwp_reg (ils_cons rfl (iop_move rfl rfl (by decide) (sv (d := .int _ _) rfl)) <|
                ils_cons rfl (iop_move rfl rfl (by decide) (sv (d := .int _ _) rfl)) <|
                ils_cons rfl (iop_intx rfl rfl (by decide) (sv (d := .int _ _) rfl) (sv (d := .int _ 1) rfl) rfl hx82) <|
                ils_cons rfl (iop_cmpx rfl rfl (by decide) (sv (d := .int _ _) rfl) (sv (d := .int _ _) rfl) rfl hx83) <|
                ils_end ?_)
              refine iwp_cond (b := _) rfl (fun hc84 => ?_) (fun hc84 => ?_)
              ·
                replace h := bif_t h hc84
                refine iwp_skip ?_
                refine thenQ_n ?_
                refine iwp_seq ?_
                refine iwp_block ?_
                obtain ⟨x85, hx85, h⟩ := bnd_e h
                obtain ⟨x86, hx86, h⟩ := bnd_e h
                obtain ⟨x87, hx87, h⟩ := bno_e h
                obtain ⟨x88, hx88, h⟩ := bno_e h
                obtain ⟨x89, hx89, h⟩ := bno_e h
                obtain ⟨x90, hx90, h⟩ := bno_e h
                obtain ⟨x91, hx91, h⟩ := bno_e h
                obtain ⟨x92, hx92, h⟩ := bno_e h
                obtain ⟨x93, hx93, h⟩ := bnd_e h
                obtain ⟨x94, hx94, h⟩ := bno_e h
                obtain ⟨x95, hx95, h⟩ := bno_e h
                obtain ⟨x96, hx96, h⟩ := bnd_e h
                refine iwp_draw rfl [⟨[0], [], [(61, .osl 1000 (eInt .i64).sz v64.length)], []⟩,
                  ⟨[13], [], [(62, .int .i64 v65)], []⟩,
                  ⟨[0], [], [(63, .osl 1000 (eInt .i64).sz v64.length)], []⟩,
                  ⟨[13], [], [(64, .int .i64 v65)], []⟩,
                  ⟨[64], [], [(65, .int .i64 x85)], []⟩,
                  ⟨[0], [], [(66, .osl 1000 (eInt .i64).sz v64.length)], []⟩,
                  ⟨[13], [], [(67, .int .i64 v65)], []⟩,
                  ⟨[67], [], [(68, .int .i64 x86)], []⟩,
                  ⟨[66, 68], [], [(69, .ref 1000 (((x86 : Int).toNat) * (eInt .i64).sz + 0))], []⟩,
                  ⟨[69], [1000], [(70, .int .i64 x88)], []⟩,
                  ⟨[0], [], [(71, .osl 1000 (eInt .i64).sz v64.length)], []⟩,
                  ⟨[13], [], [(72, .int .i64 v65)], []⟩,
                  ⟨[71, 72], [], [(73, .ref 1000 (((v65 : Int).toNat) * (eInt .i64).sz + 0))], []⟩,
                  ⟨[73], [1000], [(74, .int .i64 x90)], []⟩,
                  ⟨[61, 62], [], [(75, .ref 1000 (((v65 : Int).toNat) * (eInt .i64).sz + 0))], []⟩,
                  ⟨[70, 75], [1000], [], [(1000, .blk 3 (D.flat (x93.map (eInt .i64).d)))]⟩,
                  ⟨[63, 65], [], [(76, .ref 1000 (((x85 : Int).toNat) * (eInt .i64).sz + 0))], []⟩,
                  ⟨[74, 76], [1000], [], [(1000, .blk 3 (D.flat (x96.map (eInt .i64).d)))]⟩] rfl ?_ (by kernel_rfl) ?_
                · refine .cons (lop rfl rfl fun S hA => (iop_move rfl rfl (by decide) (sv (d := .osl _ _ _) (agr hA rfl rfl)))) ?_
                  refine .cons (lop rfl rfl fun S hA => (iop_move rfl rfl (by decide) (sv (d := .int _ _) (agr hA rfl rfl)))) ?_
                  refine .cons (lop rfl rfl fun S hA => (iop_move rfl rfl (by decide) (sv (d := .osl _ _ _) (agr hA rfl rfl)))) ?_
                  refine .cons (lop rfl rfl fun S hA => (iop_move rfl rfl (by decide) (sv (d := .int _ _) (agr hA rfl rfl)))) ?_
                  refine .cons (lop rfl rfl fun S hA => (iop_intx rfl rfl (by decide) (sv (d := .int _ _) (agr hA rfl rfl)) (sv (d := .int _ 1) rfl) rfl hx85)) ?_
                  refine .cons (lop rfl rfl fun S hA => (iop_move rfl rfl (by decide) (sv (d := .osl _ _ _) (agr hA rfl rfl)))) ?_
                  refine .cons (lop rfl rfl fun S hA => (iop_move rfl rfl (by decide) (sv (d := .int _ _) (agr hA rfl rfl)))) ?_
                  refine .cons (lop rfl rfl fun S hA => (iop_intx rfl rfl (by decide) (sv (d := .int _ _) (agr hA rfl rfl)) (sv (d := .int _ 1) rfl) rfl hx86)) ?_
                  refine .cons (lop rfl rfl fun S hA => (iop_idxO (eInt .i64).toEnc0 rfl rfl (by decide) Try.underlying39 ti3 (sv (d := .osl _ _ _) (agr hA rfl rfl)) rfl (sv (d := .int _ _) (agr hA rfl rfl)) hx87)) ?_
                  refine .cons (lop rfl rfl fun S hA => (iop_loadEs (eInt .i64).toEnc0 (d := .int _ _) rfl rfl (by decide) Try.underlying3 ag3 ti3 (by decide) (sv (d := .ref _ _) (agr hA rfl rfl)) (agi hA rfl rfl) hx88 (nle rfl) rfl)) ?_
                  refine .cons (lop rfl rfl fun S hA => (iop_move rfl rfl (by decide) (sv (d := .osl _ _ _) (agr hA rfl rfl)))) ?_
                  refine .cons (lop rfl rfl fun S hA => (iop_move rfl rfl (by decide) (sv (d := .int _ _) (agr hA rfl rfl)))) ?_
                  refine .cons (lop rfl rfl fun S hA => (iop_idxO (eInt .i64).toEnc0 rfl rfl (by decide) Try.underlying39 ti3 (sv (d := .osl _ _ _) (agr hA rfl rfl)) rfl (sv (d := .int _ _) (agr hA rfl rfl)) hx89)) ?_
                  refine .cons (lop rfl rfl fun S hA => (iop_loadEs (eInt .i64).toEnc0 (d := .int _ _) rfl rfl (by decide) Try.underlying3 ag3 ti3 (by decide) (sv (d := .ref _ _) (agr hA rfl rfl)) (agi hA rfl rfl) hx90 (nle rfl) rfl)) ?_
                  refine .cons (lop rfl rfl fun S hA => (iop_idxO (eInt .i64).toEnc0 rfl rfl (by decide) Try.underlying39 ti3 (sv (d := .osl _ _ _) (agr hA rfl rfl)) rfl (sv (d := .int _ _) (agr hA rfl rfl)) hx91)) ?_
                  refine .cons (lop rfl rfl fun S hA => (iop_storeE (eInt .i64).toEnc0 (a' := x88) rfl rfl ti3 (sv (d := .ref _ _) (agr hA rfl rfl)) (agi hA rfl rfl) (sv (d := .int _ _) (agr hA rfl rfl)) rfl rfl rfl hx92 (nle rfl) rfl hx93)) ?_
                  refine .cons (lop rfl rfl fun S hA => (iop_idxO (eInt .i64).toEnc0 rfl rfl (by decide) Try.underlying39 ti3 (sv (d := .osl _ _ _) (agr hA rfl rfl)) (len_set hx93 rfl) (sv (d := .int _ _) (agr hA rfl rfl)) hx94)) ?_
                  refine .cons (lop rfl rfl fun S hA => (iop_storeE (eInt .i64).toEnc0 (a' := x90) rfl rfl ti3 (sv (d := .ref _ _) (agr hA rfl rfl)) (agi hA rfl rfl) (sv (d := .int _ _) (agr hA rfl rfl)) rfl rfl rfl hx95 (nle rfl) rfl hx96)) ?_
                  exact .nil
                refine blockQ_n ?_
                refine thenQ_n ?_
                obtain ⟨x97, hx97, h⟩ := bnd_e h
                refine iwp_region (ils_cons rfl (iop_move rfl rfl (by decide) (sv (d := .int _ _) rfl)) <|
                  ils_cons rfl (iop_intx rfl rfl (by decide) (sv (d := .int _ _) rfl) (sv (d := .int _ 1) rfl) rfl hx97) <|
                  ils_cons rfl (iop_assign rfl rfl (by decide) (sv (d := .int _ _) rfl)) <|
                  ils_nil ?_)
                refine thenQ_n ⟨(n1, x96, x97), (fun i => i), ⟨(.cons (.same (congrArg (D.osl _ _) (len_set hx96 (len_set hx93 rfl)).symm) rfl) (.cons (.same rfl rfl) (.cons (.same rfl rfl) .nil))), (.cons (EntW.lst rfl) (.cons (.blk rfl rfl rfl) .nil)), nd_of [1000, 1001] rfl (by decide), (fun i hi => by first | rfl | (show (if _ then _ else _) = _; (repeat' split) <;> omega))⟩, ?_, ?_⟩
                exact h
                exact Nat.lt_succ_self _
              ·
                replace h := bif_f h hc84
                refine iwp_exit ?_
                refine thenQ_e ?_
                refine thenQ_e ?_
                refine blockQ_e ?_
                refine thenQ_n ?_
                refine iwp_ret ?_
                refine thenQ_r ?_
                obtain rfl := Option.some.inj h
                refine ⟨.inr rfl, (fun i => i), ⟨.nil, (.cons (EntW.lst rfl) (.cons (.blk rfl rfl rfl) .nil)), nd_of [1000, 1001] rfl (by decide), (fun i hi => by first | rfl | (show (if _ then _ else _) = _; (repeat' split) <;> omega))⟩, .nil, rfl⟩
  ·
    replace h := bif_f h hc3
    refine iwp_skip ?_
    refine thenQ_n ?_
    refine iwp_seq ?_
    obtain ⟨x98, hx98, h⟩ := bnd_e h
    obtain ⟨x99, hx99, h⟩ := bnd_e h
    refine iwp_reg (ils_cons rfl (iop_move rfl rfl (by decide) (sv (d := .int _ _) rfl)) <|
      ils_cons rfl (iop_move rfl rfl (by decide) (sv (d := .int _ _) rfl)) <|
      ils_cons rfl (iop_intx rfl rfl (by decide) (sv (d := .int _ _) rfl) (sv (d := .int _ _) rfl) rfl hx98) <|
      ils_cons rfl (iop_cmpx rfl rfl (by decide) (sv (d := .int _ _) rfl) (sv (d := .int _ 1) rfl) rfl hx99) <|
      ils_end ?_)
    refine iwp_cond (b := _) rfl (fun hc100 => ?_) (fun hc100 => ?_)
    ·
      replace h := bif_t h hc100
      refine iwp_reg (ils_cons rfl (iop_move rfl rfl (by decide) (sv (d := .int _ _) rfl)) <|
        ils_cons rfl (iop_assign rfl rfl (by decide) (sv (d := .int _ _) rfl)) <|
        ils_end ?_)
      refine iwp_reg (ils_cons rfl (iop_move rfl rfl (by decide) (sv (d := .int _ _) rfl)) <|
        ils_cons rfl (iop_assign rfl rfl (by decide) (sv (d := .int _ _) rfl)) <|
        ils_end ?_)
      refine iwp_seq ?_
      refine iwp_block ?_
      refine iwp_loopP (α := Nat × Int × Int) (fun z => ⟨[(0, .osl 1000 (eInt .i64).sz a3.length), (2, .int .i64 a1), (4, .fn 37 [.ref 1001 0]), (14, .int .i64 z.2.1), (15, .int .i64 z.2.2)], [(1000, .blk 3 (D.flat (a3.map (eInt .i64).d))), (1001, .blk 35 [.slice false (a4.map (eFlt .f64).d)])]⟩) (fun z => slices_symMergeCmpFunc_int_h_Order_1_L2 a1 a3 a4 z.1 z.2.1 z.2.2 = some r) (fun z => z.1) (fuel, a0, a1) (fun i => i) ⟨(.cons (.same rfl rfl) (.cons (.same rfl rfl) (.cons (.same rfl rfl) (.cons (.same rfl rfl) (.cons (.same rfl rfl) .nil))))), (.cons (EntW.lst rfl) (.cons (.blk rfl rfl rfl) .nil)), nd_of [1000, 1001] rfl (by decide), (fun i hi => by first | rfl | (show (if _ then _ else _) = _; (repeat' split) <;> omega))⟩ ?_ ?_
      · exact h
      ·
        rintro ⟨n2, v115, v116⟩ h
        cases n2 with
        | zero => exact absurd h (by unfold slices_symMergeCmpFunc_int_h_Order_1_L2; exact nofun)
        | succ n2 =>
          unfold slices_symMergeCmpFunc_int_h_Order_1_L2 at h
          refine iwp_seq ?_
          obtain ⟨x131, hx131, h⟩ := bnd_e h
          refine iwp_reg (ils_cons rfl (iop_move rfl rfl (by decide) (sv (d := .int _ _) rfl)) <|
            ils_cons rfl (iop_move rfl rfl (by decide) (sv (d := .int _ _) rfl)) <|
            ils_cons rfl (iop_cmpx rfl rfl (by decide) (sv (d := .int _ _) rfl) (sv (d := .int _ _) rfl) rfl hx131) <|
            ils_end ?_)
          refine iwp_cond (b := _) rfl (fun hc132 => ?_) (fun hc132 => ?_)
          ·
            replace h := bif_t h hc132
            refine iwp_skip ?_
            refine thenQ_n ?_
            refine iwp_block ?_
            obtain ⟨x133, hx133, h⟩ := bnd_e h
            obtain ⟨x134, hx134, h⟩ := bnd_e h
            obtain ⟨x135, hx135, h⟩ := bno_e h
            obtain ⟨x136, hx136, h⟩ := bnd_e h
            refine iwp_reg (ils_cons rfl (iop_move rfl rfl (by decide) (sv (d := .int _ _) rfl)) <|
              ils_cons rfl (iop_move rfl rfl (by decide) (sv (d := .int _ _) rfl)) <|
              ils_cons rfl (iop_intx rfl rfl (by decide) (sv (d := .int _ _) rfl) (sv (d := .int _ _) rfl) rfl hx133) <|
              ils_cons rfl (iop_int_conv rfl rfl (by decide) ⟨_, Try.underlying3⟩ Try.underlying59 (sv (d := .int _ _) rfl) hx134) <|
              ils_cons rfl (iop_shrx rfl rfl (by decide) (sv (d := .int _ _) rfl) (sv (d := .int _ 1) rfl) hx135) <|
              ils_cons rfl (iop_int_conv rfl rfl (by decide) ⟨_, Try.underlying59⟩ Try.underlying3 (sv (d := .int _ _) rfl) hx136) <|
              ils_cons rfl (iop_assign rfl rfl (by decide) (sv (d := .int _ _) rfl)) <|
              ils_end ?_)
            obtain ⟨x137, hx137, h⟩ := bno_e h
            obtain ⟨x138, hx138, h⟩ := bno_e h
            obtain ⟨x139, hx139, h⟩ := bno_e h
            obtain ⟨x140, hx140, h⟩ := bno_e h
            obtain ⟨x141, hx141, h⟩ := bno_e h
            obtain ⟨x142, hx142, h⟩ := bnd_e h
            refine iwp_drw rfl [⟨[4], [], [(92, .fn 37 [.ref 1001 0])], []⟩,
              ⟨[0], [], [(93, .osl 1000 (eInt .i64).sz a3.length)], []⟩,
              ⟨[2], [], [(94, .int .i64 a1)], []⟩,
              ⟨[93, 94], [], [(95, .ref 1000 (((a1 : Int).toNat) * (eInt .i64).sz + 0))], []⟩,
              ⟨[95], [1000], [(96, .int .i64 x138)], []⟩,
              ⟨[0], [], [(97, .osl 1000 (eInt .i64).sz a3.length)], []⟩,
              ⟨[16], [], [(98, .int .i64 x136)], []⟩,
              ⟨[97, 98], [], [(99, .ref 1000 (((x136 : Int).toNat) * (eInt .i64).sz + 0))], []⟩,
              ⟨[99], [1000], [(100, .int .i64 x140)], []⟩,
              ⟨[92, 96, 100], [1001], [(101, .int .i64 x141)], []⟩,
              ⟨[101], [], [(102, .bool x142)], []⟩,
              ⟨[102], [], [(103, .bool (!x142))], []⟩] rfl ?_ (by kernel_rfl) ?_
            · refine .cons (lop rfl rfl fun S hA => (iop_move rfl rfl (by decide) (sv (d := .fn 37 [.ref _ _]) (agr hA rfl rfl)))) ?_
              refine .cons (lop rfl rfl fun S hA => (iop_move rfl rfl (by decide) (sv (d := .osl _ _ _) (agr hA rfl rfl)))) ?_
              refine .cons (lop rfl rfl fun S hA => (iop_move rfl rfl (by decide) (sv (d := .int _ _) (agr hA rfl rfl)))) ?_
              refine .cons (lop rfl rfl fun S hA => (iop_idxO (eInt .i64).toEnc0 rfl rfl (by decide) Try.underlying39 ti3 (sv (d := .osl _ _ _) (agr hA rfl rfl)) rfl (sv (d := .int _ _) (agr hA rfl rfl)) hx137)) ?_
              refine .cons (lop rfl rfl fun S hA => (iop_loadEs (eInt .i64).toEnc0 (d := .int _ _) rfl rfl (by decide) Try.underlying3 ag3 ti3 (by decide) (sv (d := .ref _ _) (agr hA rfl rfl)) (agi hA rfl rfl) hx138 (nle rfl) rfl)) ?_
              refine .cons (lop rfl rfl fun S hA => (iop_move rfl rfl (by decide) (sv (d := .osl _ _ _) (agr hA rfl rfl)))) ?_
              refine .cons (lop rfl rfl fun S hA => (iop_move rfl rfl (by decide) (sv (d := .int _ _) (agr hA rfl rfl)))) ?_
              refine .cons (lop rfl rfl fun S hA => (iop_idxO (eInt .i64).toEnc0 rfl rfl (by decide) Try.underlying39 ti3 (sv (d := .osl _ _ _) (agr hA rfl rfl)) rfl (sv (d := .int _ _) (agr hA rfl rfl)) hx139)) ?_
              refine .cons (lop rfl rfl fun S hA => (iop_loadEs (eInt .i64).toEnc0 (d := .int _ _) rfl rfl (by decide) Try.underlying3 ag3 ti3 (by decide) (sv (d := .ref _ _) (agr hA rfl rfl)) (agi hA rfl rfl) hx140 (nle rfl) rfl)) ?_
              refine .cons (lop rfl rfl fun S hA => (iop_callvp (r := .int .i64 x141) rfl rfl (by decide) cl37 (sv (d := .fn 37 [.ref _ _]) (agr hA rfl rfl)) (.cons (sv (d := .int _ _) (agr hA rfl rfl)) (.cons (sv (d := .int _ _) (agr hA rfl rfl)) .nil)) (.cons (.refl _) (.cons (.refl _) (.cons (.ref (agi hA rfl rfl) rfl (fdl_refl _) rfl) .nil))) rfl rfl (p_gauge_Order_1 _ _ _ _ hx141))) ?_
              refine .cons (lop rfl rfl fun S hA => (iop_cmpx rfl rfl (by decide) (sv (d := .int _ _) (agr hA rfl rfl)) (sv (d := .int _ 0) rfl) rfl hx142)) ?_
              refine .cons (lop rfl rfl fun S hA => (iop_not rfl rfl (by decide) (sv (d := .bool _) (agr hA rfl rfl)))) ?_
              exact .nil
            refine iwp_cond (b := _) rfl (fun hc143 => ?_) (fun hc143 => ?_)
            ·
              replace h := bif_t h hc143
              obtain ⟨x144, hx144, h⟩ := bnd_e h
              refine iwp_region (ils_cons rfl (iop_move rfl rfl (by decide) (sv (d := .int _ _) rfl)) <|
                ils_cons rfl (iop_intx rfl rfl (by decide) (sv (d := .int _ _) rfl) (sv (d := .int _ 1) rfl) rfl hx144) <|
                ils_cons rfl (iop_assign rfl rfl (by decide) (sv (d := .int _ _) rfl)) <|
                ils_nil ?_)
              refine blockQ_n ?_
              refine thenQ_n ⟨(n2, x144, v116), (fun i => i), ⟨(.cons (.same rfl rfl) (.cons (.same rfl rfl) (.cons (.same rfl rfl) (.cons (.same rfl rfl) (.cons (.same rfl rfl) .nil))))), (.cons (EntW.lst rfl) (.cons (.blk rfl rfl rfl) .nil)), nd_of [1000, 1001] rfl (by decide), (fun i hi => by first | rfl | (show (if _ then _ else _) = _; (repeat' split) <;> omega))⟩, ?_, ?_⟩
              exact h
              exact Nat.lt_succ_self _
            ·
              replace h := bif_f h hc143
              refine iwp_region (ils_cons rfl (iop_move rfl rfl (by decide) (sv (d := .int _ _) rfl)) <|
                ils_cons rfl (iop_assign rfl rfl (by decide) (sv (d := .int _ _) rfl)) <|
                ils_nil ?_)
              refine blockQ_n ?_
              refine thenQ_n ⟨(n2, v115, x136), (fun i => i), ⟨(.cons (.same rfl rfl) (.cons (.same rfl rfl) (.cons (.same rfl rfl) (.cons (.same rfl rfl) (.cons (.same rfl rfl) .nil))))), (.cons (EntW.lst rfl) (.cons (.blk rfl rfl rfl) .nil)), nd_of [1000, 1001] rfl (by decide), (fun i hi => by first | rfl | (show (if _ then _ else _) = _; (repeat' split) <;> omega))⟩, ?_, ?_⟩
              exact h
              exact Nat.lt_succ_self _
          ·
            replace h := bif_f h hc132
            refine iwp_exit ?_
            refine thenQ_e ?_
            refine thenQ_e ?_
            refine blockQ_e ?_
            refine thenQ_n ?_
            refine iwp_seq ?_
            refine iwp_reg (ils_cons rfl (iop_move rfl rfl (by decide) (sv (d := .int _ _) rfl)) <|
              ils_cons rfl (iop_assign rfl rfl (by decide) (sv (d := .int _ _) rfl)) <|
              ils_end ?_)
            refine iwp_block ?_
            refine iwp_loopP (α := Nat × (List Int) × Int) (fun z => ⟨[(0, .osl 1000 (eInt .i64).sz z.2.1.length), (14, .int .i64 v115), (17, .int .i64 z.2.2)], [(1000, .blk 3 (D.flat (z.2.1.map (eInt .i64).d))), (1001, .blk 35 [.slice false (a4.map (eFlt .f64).d)])]⟩) (fun z => slices_symMergeCmpFunc_int_h_Order_1_L3 v115 z.1 z.2.1 z.2.2 = some r) (fun z => z.1) (fuel, a3, a1) (fun i => i) ⟨(.cons (.same rfl rfl) (.cons (.same rfl rfl) (.cons (.same rfl rfl) .nil))), (.cons (EntW.lst rfl) (.cons (.blk rfl rfl rfl) .nil)), nd_of [1000, 1001] rfl (by decide), (fun i hi => by first | rfl | (show (if _ then _ else _) = _; (repeat' split) <;> omega))⟩ ?_ ?_
            · exact h
            ·
              rintro ⟨n3, v160, v161⟩ h
              cases n3 with
              | zero => exact absurd h (by unfold slices_symMergeCmpFunc_int_h_Order_1_L3; exact nofun)
              | succ n3 =>
                unfold slices_symMergeCmpFunc_int_h_Order_1_L3 at h
                refine iwp_seq ?_
                obtain ⟨x177, hx177, h⟩ := bnd_e h
                refine iwp_reg (ils_cons rfl (iop_move rfl rfl (by decide) (sv (d := .int _ _) rfl)) <|
                  ils_cons rfl (iop_move rfl rfl (by decide) (sv (d := .int _ _) rfl)) <|
                  ils_cons rfl (iop_cmpx rfl rfl (by decide) (sv (d := .int _ _) rfl) (sv (d := .int _ _) rfl) rfl hx177) <|
                  ils_end ?_)
                refine iwp_cond (b := _) rfl (fun hc178 => ?_) (fun hc178 => ?_)
                ·
                  replace h := bif_t h hc178
                  refine iwp_skip ?_
                  refine thenQ_n ?_
                  refine iwp_seq ?_
                  refine iwp_block ?_
                  obtain ⟨x179, hx179, h⟩ := bnd_e h
                  obtain ⟨x180, hx180, h⟩ := bnd_e h
                  obtain ⟨x181, hx181, h⟩ := bno_e h
                  obtain ⟨x182, hx182, h⟩ := bno_e h
                  obtain ⟨x183, hx183, h⟩ := bno_e h
                  obtain ⟨x184, hx184, h⟩ := bno_e h
                  obtain ⟨x185, hx185, h⟩ := bno_e h
                  obtain ⟨x186, hx186, h⟩ := bno_e h
                  obtain ⟨x187, hx187, h⟩ := bnd_e h
                  obtain ⟨x188, hx188, h⟩ := bno_e h
                  obtain ⟨x189, hx189, h⟩ := bno_e h
                  obtain ⟨x190, hx190, h⟩ := bnd_e h
                  refine iwp_draw rfl [⟨[0], [], [(113, .osl 1000 (eInt .i64).sz v160.length)], []⟩,
                    ⟨[17], [], [(114, .int .i64 v161)], []⟩,
                    ⟨[0], [], [(115, .osl 1000 (eInt .i64).sz v160.length)], []⟩,
                    ⟨[17], [], [(116, .int .i64 v161)], []⟩,
                    ⟨[116], [], [(117, .int .i64 x179)], []⟩,
                    ⟨[0], [], [(118, .osl 1000 (eInt .i64).sz v160.length)], []⟩,
                    ⟨[17], [], [(119, .int .i64 v161)], []⟩,
                    ⟨[119], [], [(120, .int .i64 x180)], []⟩,
                    ⟨[118, 120], [], [(121, .ref 1000 (((x180 : Int).toNat) * (eInt .i64).sz + 0))], []⟩,
                    ⟨[121], [1000], [(122, .int .i64 x182)], []⟩,
                    ⟨[0], [], [(123, .osl 1000 (eInt .i64).sz v160.length)], []⟩,
                    ⟨[17], [], [(124, .int .i64 v161)], []⟩,
                    ⟨[123, 124], [], [(125, .ref 1000 (((v161 : Int).toNat) * (eInt .i64).sz + 0))], []⟩,
                    ⟨[125], [1000], [(126, .int .i64 x184)], []⟩,
                    ⟨[113, 114], [], [(127, .ref 1000 (((v161 : Int).toNat) * (eInt .i64).sz + 0))], []⟩,
                    ⟨[122, 127], [1000], [], [(1000, .blk 3 (D.flat (x187.map (eInt .i64).d)))]⟩,
                    ⟨[115, 117], [], [(128, .ref 1000 (((x179 : Int).toNat) * (eInt .i64).sz + 0))], []⟩,
                    ⟨[126, 128], [1000], [], [(1000, .blk 3 (D.flat (x190.map (eInt .i64).d)))]⟩] rfl ?_ (by kernel_rfl) ?_
                  · refine .cons (lop rfl rfl fun S hA => (iop_move rfl rfl (by decide) (sv (d := .osl _ _ _) (agr hA rfl rfl)))) ?_
                    refine .cons (lop rfl rfl fun S hA => (iop_move rfl rfl (by decide) (sv (d := .int _ _) (agr hA rfl rfl)))) ?_
                    refine .cons (lop rfl rfl fun S hA => (iop_move rfl rfl (by decide) (sv (d := .osl _ _ _) (agr hA rfl rfl)))) ?_
                    refine .cons (lop rfl rfl fun S hA => (iop_move rfl rfl (by decide) (sv (d := .int _ _) (agr hA rfl rfl)))) ?_
                    refine .cons (lop rfl rfl fun S hA => (iop_intx rfl rfl (by decide) (sv (d := .int _ _) (agr hA rfl rfl)) (sv (d := .int _ 1) rfl) rfl hx179)) ?_
                    refine .cons (lop rfl rfl fun S hA => (iop_move rfl rfl (by decide) (sv (d := .osl _ _ _) (agr hA rfl rfl)))) ?_
                    refine .cons (lop rfl rfl fun S hA => (iop_move rfl rfl (by decide) (sv (d := .int _ _) (agr hA rfl rfl)))) ?_
                    refine .cons (lop rfl rfl fun S hA => (iop_intx rfl rfl (by decide) (sv (d := .int _ _) (agr hA rfl rfl)) (sv (d := .int _ 1) rfl) rfl hx180)) ?_
                    refine .cons (lop rfl rfl fun S hA => (iop_idxO (eInt .i64).toEnc0 rfl rfl (by decide) Try.underlying39 ti3 (sv (d := .osl _ _ _) (agr hA rfl rfl)) rfl (sv (d := .int _ _) (agr hA rfl rfl)) hx181)) ?_
                    refine .cons (lop rfl rfl fun S hA => (iop_loadEs (eInt .i64).toEnc0 (d := .int _ _) rfl rfl (by decide) Try.underlying3 ag3 ti3 (by decide) (sv (d := .ref _ _) (agr hA rfl rfl)) (agi hA rfl rfl) hx182 (nle rfl) rfl)) ?_
                    refine .cons (lop rfl rfl fun S hA => (iop_move rfl rfl (by decide) (sv (d := .osl _ _ _) (agr hA rfl rfl)))) ?_
                    refine .cons (lop rfl rfl fun S hA => (iop_move rfl rfl (by decide) (sv (d := .int _ _) (agr hA rfl rfl)))) ?_
                    refine .cons (lop rfl rfl fun S hA => (iop_idxO (eInt .i64).toEnc0 rfl rfl (by decide) Try.underlying39 ti3 (sv (d := .osl _ _ _) (agr hA rfl rfl)) rfl (sv (d := .int _ _) (agr hA rfl rfl)) hx183)) ?_
                    refine .cons (lop rfl rfl fun S hA => (iop_loadEs (eInt .i64).toEnc0 (d := .int _ _) rfl rfl (by decide) Try.underlying3 ag3 ti3 (by decide) (sv (d := .ref _ _) (agr hA rfl rfl)) (agi hA rfl rfl) hx184 (nle rfl) rfl)) ?_
                    refine .cons (lop rfl rfl fun S hA => (iop_idxO (eInt .i64).toEnc0 rfl rfl (by decide) Try.underlying39 ti3 (sv (d := .osl _ _ _) (agr hA rfl rfl)) rfl (sv (d := .int _ _) (agr hA rfl rfl)) hx185)) ?_
                    refine .cons (lop rfl rfl fun S hA => (iop_storeE (eInt .i64).toEnc0 (a' := x182) rfl rfl ti3 (sv (d := .ref _ _) (agr hA rfl rfl)) (agi hA rfl rfl) (sv (d := .int _ _) (agr hA rfl rfl)) rfl rfl rfl hx186 (nle rfl) rfl hx187)) ?_
                    refine .cons (lop rfl rfl fun S hA => (iop_idxO (eInt .i64).toEnc0 rfl rfl (by decide) Try.underlying39 ti3 (sv (d := .osl _ _ _) (agr hA rfl rfl)) (len_set hx187 rfl) (sv (d := .int _ _) (agr hA rfl rfl)) hx188)) ?_
                    refine .cons (lop rfl rfl fun S hA => (iop_storeE (eInt .i64).toEnc0 (a' := x184) rfl rfl ti3 (sv (d := .ref _ _) (agr hA rfl rfl)) (agi hA rfl rfl) (sv (d := .int _ _) (agr hA rfl rfl)) rfl rfl rfl hx189 (nle rfl) rfl hx190)) ?_
                    exact .nil
                  refine blockQ_n ?_
                  refine thenQ_n ?_
                  obtain ⟨x191, hx191, h⟩ := bnd_e h
                  refine iwp_region (ils_cons rfl (iop_move rfl rfl (by decide) (sv (d := .int _ _) rfl)) <|
                    ils_cons rfl (iop_intx rfl rfl (by decide) (sv (d := .int _ _) rfl) (sv (d := .int _ 1) rfl) rfl hx191) <|
                    ils_cons rfl (iop_assign rfl rfl (by decide) (sv (d := .int _ _) rfl)) <|
                    ils_nil ?_)
                  refine thenQ_n ⟨(n3, x190, x191), (fun i => i), ⟨(.cons (.same (congrArg (D.osl _ _) (len_set hx190 (len_set hx187 rfl)).symm) rfl) (.cons (.same rfl rfl) (.cons (.same rfl rfl) .nil))), (.cons (EntW.lst rfl) (.cons (.blk rfl rfl rfl) .nil)), nd_of [1000, 1001] rfl (by decide), (fun i hi => by first | rfl | (show (if _ then _ else _) = _; (repeat' split) <;> omega))⟩, ?_, ?_⟩
                  exact h
                  exact Nat.lt_succ_self _
                ·
                  replace h := bif_f h hc178
                  refine iwp_exit ?_
                  refine thenQ_e ?_
                  refine thenQ_e ?_
                  refine blockQ_e ?_
                  refine thenQ_n ?_
                  refine iwp_ret ?_
                  refine thenQ_r ?_
                  obtain rfl := Option.some.inj h
                  refine ⟨.inr rfl, (fun i => i), ⟨.nil, (.cons (EntW.lst rfl) (.cons (.blk rfl rfl rfl) .nil)), nd_of [1000, 1001] rfl (by decide), (fun i hi => by first | rfl | (show (if _ then _ else _) = _; (repeat' split) <;> omega))⟩, .nil, rfl⟩
    ·
      replace h := bif_f h hc100
      refine iwp_skip ?_
      refine thenQ_n ?_
      obtain ⟨x192, hx192, h⟩ := bnd_e h
      obtain ⟨x193, hx193, h⟩ := bnd_e h
      obtain ⟨x194, hx194, h⟩ := bno_e h
      obtain ⟨x195, hx195, h⟩ := bnd_e h
      refine iwp_reg (ils_cons rfl (iop_move rfl rfl (by decide) (sv (d := .int _ _) rfl)) <|
        ils_cons rfl (iop_move rfl rfl (by decide) (sv (d := .int _ _) rfl)) <|
        ils_cons rfl (iop_intx rfl rfl (by decide) (sv (d := .int _ _) rfl) (sv (d := .int _ _) rfl) rfl hx192) <|
        ils_cons rfl (iop_int_conv rfl rfl (by decide) ⟨_, Try.underlying3⟩ Try.underlying59 (sv (d := .int _ _) rfl) hx193) <|
        ils_cons rfl (iop_shrx rfl rfl (by decide) (sv (d := .int _ _) rfl) (sv (d := .int _ 1) rfl) hx194) <|
        ils_cons rfl (iop_int_conv rfl rfl (by decide) ⟨_, Try.underlying59⟩ Try.underlying3 (sv (d := .int _ _) rfl) hx195) <|
        ils_cons rfl (iop_assign rfl rfl (by decide) (sv (d := .int _ _) rfl)) <|
        ils_end ?_)
      obtain ⟨x196, hx196, h⟩ := bnd_e h
      refine iwp_reg (ils_cons rfl (iop_move rfl rfl (by decide) (sv (d := .int _ _) rfl)) <|
        ils_cons rfl (iop_move rfl rfl (by decide) (sv (d := .int _ _) rfl)) <|
        ils_cons rfl (iop_intx rfl rfl (by decide) (sv (d := .int _ _) rfl) (sv (d := .int _ _) rfl) rfl hx196) <|
        ils_cons rfl (iop_assign rfl rfl (by decide) (sv (d := .int _ _) rfl)) <|
        ils_end ?_)
      refine iwp_reg (ils_cons rfl (iop_assign rfl rfl (by decide) (sv (d := .int _ 0) rfl)) <|
        ils_cons rfl (iop_assign rfl rfl (by decide) (sv (d := .int _ 0) rfl)) <|
        ils_end ?_)
      refine iwp_join (α := Int × Int) (fun z => ⟨[(0, .osl 1000 (eInt .i64).sz a3.length), (1, .int .i64 a0), (2, .int .i64 a1), (3, .int .i64 a2), (4, .fn 37 [.ref 1001 0]), (18, .int .i64 x195), (19, .int .i64 x196), (20, .int .i64 z.1), (21, .int .i64 z.2)], [(1000, .blk 3 (D.flat (a3.map (eInt .i64).d))), (1001, .blk 35 [.slice false (a4.map (eFlt .f64).d)])]⟩) (fun z => slices_symMergeCmpFunc_int_h_Order_1_J4 (slices_symMergeCmpFunc_int_h_Order_1 nr) a0 a1 a2 a3 a4 x195 x196 z.1 z.2 = some r) ?_ ?_
      ·
        obtain ⟨x283, hx283, h⟩ := bnd_e h
        refine iwp_reg (ils_cons rfl (iop_move rfl rfl (by decide) (sv (d := .int _ _) rfl)) <|
          ils_cons rfl (iop_move rfl rfl (by decide) (sv (d := .int _ _) rfl)) <|
          ils_cons rfl (iop_cmpx rfl rfl (by decide) (sv (d := .int _ _) rfl) (sv (d := .int _ _) rfl) rfl hx283) <|
          ils_end ?_)
        refine iwp_cond (b := _) rfl (fun hc284 => ?_) (fun hc284 => ?_)
        ·
          replace h := bif_t h hc284
          obtain ⟨x285, hx285, h⟩ := bnd_e h
          refine iwp_reg (ils_cons rfl (iop_move rfl rfl (by decide) (sv (d := .int _ _) rfl)) <|
            ils_cons rfl (iop_move rfl rfl (by decide) (sv (d := .int _ _) rfl)) <|
            ils_cons rfl (iop_intx rfl rfl (by decide) (sv (d := .int _ _) rfl) (sv (d := .int _ _) rfl) rfl hx285) <|
            ils_cons rfl (iop_assign rfl rfl (by decide) (sv (d := .int _ _) rfl)) <|
            ils_end ?_)
          refine iwp_region (ils_cons rfl (iop_move rfl rfl (by decide) (sv (d := .int _ _) rfl)) <|
            ils_cons rfl (iop_assign rfl rfl (by decide) (sv (d := .int _ _) rfl)) <|
            ils_nil ?_)
          refine thenQ_n ⟨(x285, x195), (fun i => i), ⟨(.cons (.same rfl rfl) (.cons (.same rfl rfl) (.cons (.same rfl rfl) (.cons (.same rfl rfl) (.cons (.same rfl rfl) (.cons (.same rfl rfl) (.cons (.same rfl rfl) (.cons (.same rfl rfl) (.cons (.same rfl rfl) .nil))))))))), (.cons (EntW.lst rfl) (.cons (.blk rfl rfl rfl) .nil)), nd_of [1000, 1001] rfl (by decide), (fun i hi => by first | rfl | (show (if _ then _ else _) = _; (repeat' split) <;> omega))⟩, ?_⟩
          exact h
        ·
          replace h := bif_f h hc284
          refine iwp_reg (ils_cons rfl (iop_move rfl rfl (by decide) (sv (d := .int _ _) rfl)) <|
            ils_cons rfl (iop_assign rfl rfl (by decide) (sv (d := .int _ _) rfl)) <|
            ils_end ?_)
          refine iwp_region (ils_cons rfl (iop_move rfl rfl (by decide) (sv (d := .int _ _) rfl)) <|
            ils_cons rfl (iop_assign rfl rfl (by decide) (sv (d := .int _ _) rfl)) <|
            ils_nil ?_)
          refine thenQ_n ⟨(a0, a1), (fun i => i), ⟨(.cons (.same rfl rfl) (.cons (.same rfl rfl) (.cons (.same rfl rfl) (.cons (.same rfl rfl) (.cons (.same rfl rfl) (.cons (.same rfl rfl) (.cons (.same rfl rfl) (.cons (.same rfl rfl) (.cons (.same rfl rfl) .nil))))))))), (.cons (EntW.lst rfl) (.cons (.blk rfl rfl rfl) .nil)), nd_of [1000, 1001] rfl (by decide), (fun i hi => by first | rfl | (show (if _ then _ else _) = _; (repeat' split) <;> omega))⟩, ?_⟩
          exact h
      ·
        rintro ⟨v200, v201⟩ h
        unfold slices_symMergeCmpFunc_int_h_Order_1_J4 at h
        obtain ⟨x202, hx202, h⟩ := bnd_e h
        refine iwp_reg (ils_cons rfl (iop_move rfl rfl (by decide) (sv (d := .int _ _) rfl)) <|
          ils_cons rfl (iop_intx rfl rfl (by decide) (sv (d := .int _ _) rfl) (sv (d := .int _ 1) rfl) rfl hx202) <|
          ils_cons rfl (iop_assign rfl rfl (by decide) (sv (d := .int _ _) rfl)) <|
          ils_end ?_)
        refine iwp_seq ?_
        refine iwp_block ?_
        refine iwp_loopP (α := Nat × Int × Int) (fun z => ⟨[(0, .osl 1000 (eInt .i64).sz a3.length), (1, .int .i64 a0), (2, .int .i64 a1), (3, .int .i64 a2), (4, .fn 37 [.ref 1001 0]), (18, .int .i64 x195), (19, .int .i64 x196), (20, .int .i64 z.2.1), (21, .int .i64 z.2.2), (22, .int .i64 x202)], [(1000, .blk 3 (D.flat (a3.map (eInt .i64).d))), (1001, .blk 35 [.slice false (a4.map (eFlt .f64).d)])]⟩) (fun z => slices_symMergeCmpFunc_int_h_Order_1_L5 (slices_symMergeCmpFunc_int_h_Order_1 nr) a0 a1 a2 a3 a4 x195 x196 x202 z.1 z.2.1 z.2.2 = some r) (fun z => z.1) (fuel, v200, v201) (fun i => i) ⟨(.cons (.same rfl rfl) (.cons (.same rfl rfl) (.cons (.same rfl rfl) (.cons (.same rfl rfl) (.cons (.same rfl rfl) (.cons (.same rfl rfl) (.cons (.same rfl rfl) (.cons (.same rfl rfl) (.cons (.same rfl rfl) (.cons (.same rfl rfl) .nil)))))))))), (.cons (EntW.lst rfl) (.cons (.blk rfl rfl rfl) .nil)), nd_of [1000, 1001] rfl (by decide), (fun i hi => by first | rfl | (show (if _ then _ else _) = _; (repeat' split) <;> omega))⟩ ?_ ?_
        · exact h
        ·
          rintro ⟨n5, v218, v219⟩ h
          cases n5 with
          | zero => exact absurd h (by unfold slices_symMergeCmpFunc_int_h_Order_1_L5; exact nofun)
          | succ n5 =>
            unfold slices_symMergeCmpFunc_int_h_Order_1_L5 at h
            refine iwp_seq ?_
            obtain ⟨x235, hx235, h⟩ := bnd_e h
            refine iwp_reg (ils_cons rfl (iop_move rfl rfl (by decide) (sv (d := .int _ _) rfl)) <|
              ils_cons rfl (iop_move rfl rfl (by decide) (sv (d := .int _ _) rfl)) <|
              ils_cons rfl (iop_cmpx rfl rfl (by decide) (sv (d := .int _ _) rfl) (sv (d := .int _ _) rfl) rfl hx235) <|
              ils_end ?_)
            refine iwp_cond (b := _) rfl (fun hc236 => ?_) (fun hc236 => ?_)
            ·
              replace h := bif_t h hc236
              refine iwp_skip ?_
              refine thenQ_n ?_
              refine iwp_block ?_
              obtain ⟨x237, hx237, h⟩ := bnd_e h
              obtain ⟨x238, hx238, h⟩ := bnd_e h
              obtain ⟨x239, hx239, h⟩ := bno_e h
              obtain ⟨x240, hx240, h⟩ := bnd_e h
              refine iwp_reg (ils_cons rfl (iop_move rfl rfl (by decide) (sv (d := .int _ _) rfl)) <|
                ils_cons rfl (iop_move rfl rfl (by decide) (sv (d := .int _ _) rfl)) <|
                ils_cons rfl (iop_intx rfl rfl (by decide) (sv (d := .int _ _) rfl) (sv (d := .int _ _) rfl) rfl hx237) <|
                ils_cons rfl (iop_int_conv rfl rfl (by decide) ⟨_, Try.underlying3⟩ Try.underlying59 (sv (d := .int _ _) rfl) hx238) <|
                ils_cons rfl (iop_shrx rfl rfl (by decide) (sv (d := .int _ _) rfl) (sv (d := .int _ 1) rfl) hx239) <|
                ils_cons rfl (iop_int_conv rfl rfl (by decide) ⟨_, Try.underlying59⟩ Try.underlying3 (sv (d := .int _ _) rfl) hx240) <|
                ils_cons rfl (iop_assign rfl rfl (by decide) (sv (d := .int _ _) rfl)) <|
                ils_end ?_)
              obtain ⟨x241, hx241, h⟩ := bnd_e h
              obtain ⟨x242, hx242, h⟩ := bno_e h
              obtain ⟨x243, hx243, h⟩ := bno_e h
              obtain ⟨x244, hx244, h⟩ := bno_e h
              obtain ⟨x245, hx245, h⟩ := bno_e h
              obtain ⟨x246, hx246, h⟩ := bno_e h
              obtain ⟨x247, hx247, h⟩ := bnd_e h
              refine iwp_drw rfl [⟨[4], [], [(158, .fn 37 [.ref 1001 0])], []⟩,
                ⟨[0], [], [(159, .osl 1000 (eInt .i64).sz a3.length)], []⟩,
                ⟨[22], [], [(160, .int .i64 x202)], []⟩,
                ⟨[23], [], [(161, .int .i64 x240)], []⟩,
                ⟨[160, 161], [], [(162, .int .i64 x241)], []⟩,
                ⟨[159, 162], [], [(163, .ref 1000 (((x241 : Int).toNat) * (eInt .i64).sz + 0))], []⟩,
                ⟨[163], [1000], [(164, .int .i64 x243)], []⟩,
                ⟨[0], [], [(165, .osl 1000 (eInt .i64).sz a3.length)], []⟩,
                ⟨[23], [], [(166, .int .i64 x240)], []⟩,
                ⟨[165, 166], [], [(167, .ref 1000 (((x240 : Int).toNat) * (eInt .i64).sz + 0))], []⟩,
                ⟨[167], [1000], [(168, .int .i64 x245)], []⟩,
                ⟨[158, 164, 168], [1001], [(169, .int .i64 x246)], []⟩,
                ⟨[169], [], [(170, .bool x247)], []⟩,
                ⟨[170], [], [(171, .bool (!x247))], []⟩] rfl ?_ (by kernel_rfl) ?_
              · refine .cons (lop rfl rfl fun S hA => (iop_move rfl rfl (by decide) (sv (d := .fn 37 [.ref _ _]) (agr hA rfl rfl)))) ?_
                refine .cons (lop rfl rfl fun S hA => (iop_move rfl rfl (by decide) (sv (d := .osl _ _ _) (agr hA rfl rfl)))) ?_
                refine .cons (lop rfl rfl fun S hA => (iop_move rfl rfl (by decide) (sv (d := .int _ _) (agr hA rfl rfl)))) ?_
                refine .cons (lop rfl rfl fun S hA => (iop_move rfl rfl (by decide) (sv (d := .int _ _) (agr hA rfl rfl)))) ?_
                refine .cons (lop rfl rfl fun S hA => (iop_intx rfl rfl (by decide) (sv (d := .int _ _) (agr hA rfl rfl)) (sv (d := .int _ _) (agr hA rfl rfl)) rfl hx241)) ?_
                refine .cons (lop rfl rfl fun S hA => (iop_idxO (eInt .i64).toEnc0 rfl rfl (by decide) Try.underlying39 ti3 (sv (d := .osl _ _ _) (agr hA rfl rfl)) rfl (sv (d := .int _ _) (agr hA rfl rfl)) hx242)) ?_
                refine .cons (lop rfl rfl fun S hA => (iop_loadEs (eInt .i64).toEnc0 (d := .int _ _) rfl rfl (by decide) Try.underlying3 ag3 ti3 (by decide) (sv (d := .ref _ _) (agr hA rfl rfl)) (agi hA rfl rfl) hx243 (nle rfl) rfl)) ?_
                refine .cons (lop rfl rfl fun S hA => (iop_move rfl rfl (by decide) (sv (d := .osl _ _ _) (agr hA rfl rfl)))) ?_
                refine .cons (lop rfl rfl fun S hA => (iop_move rfl rfl (by decide) (sv (d := .int _ _) (agr hA rfl rfl)))) ?_
                refine .cons (lop rfl rfl fun S hA => (iop_idxO (eInt .i64).toEnc0 rfl rfl (by decide) Try.underlying39 ti3 (sv (d := .osl _ _ _) (agr hA rfl rfl)) rfl (sv (d := .int _ _) (agr hA rfl rfl)) hx244)) ?_
                refine .cons (lop rfl rfl fun S hA => (iop_loadEs (eInt .i64).toEnc0 (d := .int _ _) rfl rfl (by decide) Try.underlying3 ag3 ti3 (by decide) (sv (d := .ref _ _) (agr hA rfl rfl)) (agi hA rfl rfl) hx245 (nle rfl) rfl)) ?_
                refine .cons (lop rfl rfl fun S hA => (iop_callvp (r := .int .i64 x246) rfl rfl (by decide) cl37 (sv (d := .fn 37 [.ref _ _]) (agr hA rfl rfl)) (.cons (sv (d := .int _ _) (agr hA rfl rfl)) (.cons (sv (d := .int _ _) (agr hA rfl rfl)) .nil)) (.cons (.refl _) (.cons (.refl _) (.cons (.ref (agi hA rfl rfl) rfl (fdl_refl _) rfl) .nil))) rfl rfl (p_gauge_Order_1 _ _ _ _ hx246))) ?_
                refine .cons (lop rfl rfl fun S hA => (iop_cmpx rfl rfl (by decide) (sv (d := .int _ _) (agr hA rfl rfl)) (sv (d := .int _ 0) rfl) rfl hx247)) ?_
                refine .cons (lop rfl rfl fun S hA => (iop_not rfl rfl (by decide) (sv (d := .bool _) (agr hA rfl rfl)))) ?_
                exact .nil
              refine iwp_cond (b := _) rfl (fun hc248 => ?_) (fun hc248 => ?_)
              ·
                replace h := bif_t h hc248
                obtain ⟨x249, hx249, h⟩ := bnd_e h
                refine iwp_region (ils_cons rfl (iop_move rfl rfl (by decide) (sv (d := .int _ _) rfl)) <|
                  ils_cons rfl (iop_intx rfl rfl (by decide) (sv (d := .int _ _) rfl) (sv (d := .int _ 1) rfl) rfl hx249) <|
                  ils_cons rfl (iop_assign rfl rfl (by decide) (sv (d := .int _ _) rfl)) <|
                  ils_nil ?_)
                refine blockQ_n ?_
                refine thenQ_n ⟨(n5, x249, v219), (fun i => i), ⟨(.cons (.same rfl rfl) (.cons (.same rfl rfl) (.cons (.same rfl rfl) (.cons (.same rfl rfl) (.cons (.same rfl rfl) (.cons (.same rfl rfl) (.cons (.same rfl rfl) (.cons (.same rfl rfl) (.cons (.same rfl rfl) (.cons (.same rfl rfl) .nil)))))))))), (.cons (EntW.lst rfl) (.cons (.blk rfl rfl rfl) .nil)), nd_of [1000, 1001] rfl (by decide), (fun i hi => by first | rfl | (show (if _ then _ else _) = _; (repeat' split) <;> omega))⟩, ?_, ?_⟩
                exact h
                exact Nat.lt_succ_self _
              ·
                replace h := bif_f h hc248
                refine iwp_region (ils_cons rfl (iop_move rfl rfl (by decide) (sv (d := .int _ _) rfl)) <|
                  ils_cons rfl (iop_assign rfl rfl (by decide) (sv (d := .int _ _) rfl)) <|
                  ils_nil ?_)
                refine blockQ_n ?_
                refine thenQ_n ⟨(n5, v218, x240), (fun i => i), ⟨(.cons (.same rfl rfl) (.cons (.same rfl rfl) (.cons (.same rfl rfl) (.cons (.same rfl rfl) (.cons (.same rfl rfl) (.cons (.same rfl rfl) (.cons (.same rfl rfl) (.cons (.same rfl rfl) (.cons (.same rfl rfl) (.cons (.same rfl rfl) .nil)))))))))), (.cons (EntW.lst rfl) (.cons (.blk rfl rfl rfl) .nil)), nd_of [1000, 1001] rfl (by decide), (fun i hi => by first | rfl | (show (if _ then _ else _) = _; (repeat' split) <;> omega))⟩, ?_, ?_⟩
                exact h
                exact Nat.lt_succ_self _
            ·
              replace h := bif_f h hc236
              refine iwp_exit ?_
              refine thenQ_e ?_
              refine thenQ_e ?_
              refine blockQ_e ?_
              refine thenQ_n ?_
              obtain ⟨x250, hx250, h⟩ := bnd_e h
              refine iwp_reg (ils_cons rfl (iop_move rfl rfl (by decide) (sv (d := .int _ _) rfl)) <|
                ils_cons rfl (iop_move rfl rfl (by decide) (sv (d := .int _ _) rfl)) <|
                ils_cons rfl (iop_intx rfl rfl (by decide) (sv (d := .int _ _) rfl) (sv (d := .int _ _) rfl) rfl hx250) <|
                ils_cons rfl (iop_assign rfl rfl (by decide) (sv (d := .int _ _) rfl)) <|
                ils_end ?_)
              refine iwp_join (α := (List Int)) (fun z => ⟨[(0, .osl 1000 (eInt .i64).sz z.length), (1, .int .i64 a0), (3, .int .i64 a2), (4, .fn 37 [.ref 1001 0]), (18, .int .i64 x195), (20, .int .i64 v218), (24, .int .i64 x250)], [(1000, .blk 3 (D.flat (z.map (eInt .i64).d))), (1001, .blk 35 [.slice false (a4.map (eFlt .f64).d)])]⟩) (fun z => slices_symMergeCmpFunc_int_h_Order_1_J6 (slices_symMergeCmpFunc_int_h_Order_1 nr) a0 a2 a4 x195 v218 x250 z = some r) ?_ ?_
              ·
                obtain ⟨x277, hx277, h⟩ := bnd_e h
                obtain ⟨x278, hx278, h⟩ := bnd_e h
                obtain ⟨x279, hx279, h⟩ := bnd_e h
                refine iwp_reg (ils_cons rfl (iop_move rfl rfl (by decide) (sv (d := .int _ _) rfl)) <|
                  ils_cons rfl (iop_move rfl rfl (by decide) (sv (d := .int _ _) rfl)) <|
                  ils_cons rfl (iop_cmpx rfl rfl (by decide) (sv (d := .int _ _) rfl) (sv (d := .int _ _) rfl) rfl hx277) <|
                  ils_cons rfl (iop_move rfl rfl (by decide) (sv (d := .bool _) rfl)) <|
                  ils_guard rfl rfl (.one rfl) rfl (by decide) (fun hb => (iop_move rfl rfl (by decide) (sv (d := .int _ _) rfl))) <|
                  ils_guard rfl rfl (.one rfl) rfl (by decide) (fun hb => (iop_move rfl rfl (by decide) (sv (d := .int _ _) rfl))) <|
                  ils_guard rfl rfl (.one rfl) rfl (by decide) (fun hb => (iop_cmpx rfl rfl (by decide) (svc (d := .int _ _) rfl hb) (svc (d := .int _ _) rfl hb) rfl hx278)) <|
                  ils_cons rfl (iop_andx rfl rfl (by decide) (sv (d := .bool _) rfl) rfl rfl hx279) <|
                  ils_end ?_)
                refine iwp_cond (b := _) rfl (fun hc280 => ?_) (fun hc280 => ?_)
                ·
                  replace h := bif_t h hc280
                  obtain ⟨x281, hx281, h⟩ := bno_e h
                  obtain ⟨hk282, h⟩ := chk_e h
                  refine iwp_region (ils_cons rfl (iop_move rfl rfl (by decide) (sv (d := .osl _ _ _) rfl)) <|
                    ils_cons rfl (iop_move rfl rfl (by decide) (sv (d := .int _ _) rfl)) <|
                    ils_cons rfl (iop_move rfl rfl (by decide) (sv (d := .int _ _) rfl)) <|
                    ils_cons rfl (iop_move rfl rfl (by decide) (sv (d := .int _ _) rfl)) <|
                    ils_cons rfl (iop_move rfl rfl (by decide) (sv (d := .fn 37 [.ref _ _]) rfl)) <|
                    ils_cons rfl (iop_callh2 (r' := .tuple []) (H1' := [(1000, .blk 3 (D.flat (x281.map (eInt .i64).d))), (1001, .blk 35 [.slice false (a4.map (eFlt .f64).d)])]) 0 [1000, 1001] rfl rfl (by decide) cl43 (.cons (sv (d := .osl _ _ _) rfl) (.cons (sv (d := .int _ _) rfl) (.cons (sv (d := .int _ _) rfl) (.cons (sv (d := .int _ _) rfl) (.cons (sv (d := .fn 37 [.ref _ _]) rfl) .nil))))) rfl rfl ⟨rfl, rfl, by decide, rfl, List.forall_mem_cons.2 ⟨⟨rfl, rfl, (handL (eInt .i64) rfl), (handLr (eInt .i64))⟩, List.forall_mem_cons.2 ⟨⟨rfl, rfl, rfl, rfl⟩, List.forall_mem_nil _⟩⟩⟩ (p_slices_rotateCmpFunc_int_h_Order_1 _ _ _ _ _ _ hx281) rfl rfl (List.forall_mem_cons.2 ⟨⟨rfl, (handLr (eInt .i64))⟩, List.forall_mem_cons.2 ⟨⟨rfl, rfl⟩, List.forall_mem_nil _⟩⟩) (by simp only [List.map_cons, List.map_nil, Ent.ren, renL_flat, renL_ref]; rfl)) <|
                    ils_nil ?_)
                  refine thenQ_n ⟨x281, (fun i => i), ⟨(.cons (.same (congrArg (D.osl _ _) hk282.symm) rfl) (.cons (.same rfl rfl) (.cons (.same rfl rfl) (.cons (.same rfl rfl) (.cons (.same rfl rfl) (.cons (.same rfl rfl) (.cons (.same rfl rfl) .nil))))))), (.cons (EntW.lst rfl) (.cons (.blk rfl rfl rfl) .nil)), nd_of [1000, 1001] rfl (by decide), (fun i hi => by first | rfl | (show (if _ then _ else _) = _; (repeat' split) <;> omega))⟩, ?_⟩
                  exact h
                ·
                  replace h := bif_f h hc280
                  refine iwp_skip ?_
                  refine thenQ_n ⟨a3, (fun i => i), ⟨(.cons (.same rfl rfl) (.cons (.same rfl rfl) (.cons (.same rfl rfl) (.cons (.same rfl rfl) (.cons (.same rfl rfl) (.cons (.same rfl rfl) (.cons (.same rfl rfl) .nil))))))), (.cons (EntW.lst rfl) (.cons (.blk rfl rfl rfl) .nil)), nd_of [1000, 1001] rfl (by decide), (fun i hi => by first | rfl | (show (if _ then _ else _) = _; (repeat' split) <;> omega))⟩, ?_⟩
                  exact h
              ·
                rintro v257 h
                unfold slices_symMergeCmpFunc_int_h_Order_1_J6 at h
                refine iwp_join (α := (List Int)) (fun z => ⟨[(0, .osl 1000 (eInt .i64).sz z.length), (3, .int .i64 a2), (4, .fn 37 [.ref 1001 0]), (18, .int .i64 x195), (24, .int .i64 x250)], [(1000, .blk 3 (D.flat (z.map (eInt .i64).d))), (1001, .blk 35 [.slice false (a4.map (eFlt .f64).d)])]⟩) (fun z => slices_symMergeCmpFunc_int_h_Order_1_J7 (slices_symMergeCmpFunc_int_h_Order_1 nr) a2 a4 x195 x250 z = some r) ?_ ?_
                ·
                  obtain ⟨x271, hx271, h⟩ := bnd_e h
                  obtain ⟨x272, hx272, h⟩ := bnd_e h
                  obtain ⟨x273, hx273, h⟩ := bnd_e h
                  refine iwp_reg (ils_cons rfl (iop_move rfl rfl (by decide) (sv (d := .int _ _) rfl)) <|
                    ils_cons rfl (iop_move rfl rfl (by decide) (sv (d := .int _ _) rfl)) <|
                    ils_cons rfl (iop_cmpx rfl rfl (by decide) (sv (d := .int _ _) rfl) (sv (d := .int _ _) rfl) rfl hx271) <|
                    ils_cons rfl (iop_move rfl rfl (by decide) (sv (d := .bool _) rfl)) <|
                    ils_guard rfl rfl (.one rfl) rfl (by decide) (fun hb => (iop_move rfl rfl (by decide) (sv (d := .int _ _) rfl))) <|
                    ils_guard rfl rfl (.one rfl) rfl (by decide) (fun hb => (iop_move rfl rfl (by decide) (sv (d := .int _ _) rfl))) <|
                    ils_guard rfl rfl (.one rfl) rfl (by decide) (fun hb => (iop_cmpx rfl rfl (by decide) (svc (d := .int _ _) rfl hb) (svc (d := .int _ _) rfl hb) rfl hx272)) <|
                    ils_cons rfl (iop_andx rfl rfl (by decide) (sv (d := .bool _) rfl) rfl rfl hx273) <|
                    ils_end ?_)
                  refine iwp_cond (b := _) rfl (fun hc274 => ?_) (fun hc274 => ?_)
                  ·
                    replace h := bif_t h hc274
                    obtain ⟨x275, hx275, h⟩ := bno_e h
                    obtain ⟨hk276, h⟩ := chk_e h
                    refine iwp_region (ils_cons rfl (iop_move rfl rfl (by decide) (sv (d := .osl _ _ _) rfl)) <|
                      ils_cons rfl (iop_move rfl rfl (by decide) (sv (d := .int _ _) rfl)) <|
                      ils_cons rfl (iop_move rfl rfl (by decide) (sv (d := .int _ _) rfl)) <|
                      ils_cons rfl (iop_move rfl rfl (by decide) (sv (d := .int _ _) rfl)) <|
                      ils_cons rfl (iop_move rfl rfl (by decide) (sv (d := .fn 37 [.ref _ _]) rfl)) <|
                      ils_cons rfl (iop_callh2 (r' := .tuple []) (H1' := [(1000, .blk 3 (D.flat (x275.map (eInt .i64).d))), (1001, .blk 35 [.slice false (a4.map (eFlt .f64).d)])]) 0 [1000, 1001] rfl rfl (by decide) cl42 (.cons (sv (d := .osl _ _ _) rfl) (.cons (sv (d := .int _ _) rfl) (.cons (sv (d := .int _ _) rfl) (.cons (sv (d := .int _ _) rfl) (.cons (sv (d := .fn 37 [.ref _ _]) rfl) .nil))))) rfl rfl ⟨rfl, rfl, by decide, rfl, List.forall_mem_cons.2 ⟨⟨rfl, rfl, (handL (eInt .i64) rfl), (handLr (eInt .i64))⟩, List.forall_mem_cons.2 ⟨⟨rfl, rfl, rfl, rfl⟩, List.forall_mem_nil _⟩⟩⟩ (ih _ _ _ _ _ _ hx275) rfl rfl (List.forall_mem_cons.2 ⟨⟨rfl, (handLr (eInt .i64))⟩, List.forall_mem_cons.2 ⟨⟨rfl, rfl⟩, List.forall_mem_nil _⟩⟩) (by simp only [List.map_cons, List.map_nil, Ent.ren, renL_flat, renL_ref]; rfl)) <|
                      ils_nil ?_)
                    refine thenQ_n ⟨x275, (fun i => i), ⟨(.cons (.same (congrArg (D.osl _ _) hk276.symm) rfl) (.cons (.same rfl rfl) (.cons (.same rfl rfl) (.cons (.same rfl rfl) (.cons (.same rfl rfl) .nil))))), (.cons (EntW.lst rfl) (.cons (.blk rfl rfl rfl) .nil)), nd_of [1000, 1001] rfl (by decide), (fun i hi => by first | rfl | (show (if _ then _ else _) = _; (repeat' split) <;> omega))⟩, ?_⟩
                    exact h
                  ·
                    replace h := bif_f h hc274
                    refine iwp_skip ?_
                    refine thenQ_n ⟨v257, (fun i => i), ⟨(.cons (.same rfl rfl) (.cons (.same rfl rfl) (.cons (.same rfl rfl) (.cons (.same rfl rfl) (.cons (.same rfl rfl) .nil))))), (.cons (EntW.lst rfl) (.cons (.blk rfl rfl rfl) .nil)), nd_of [1000, 1001] rfl (by decide), (fun i hi => by first | rfl | (show (if _ then _ else _) = _; (repeat' split) <;> omega))⟩, ?_⟩
                    exact h
                ·
                  rintro v264 h
                  unfold slices_symMergeCmpFunc_int_h_Order_1_J7 at h
                  obtain ⟨x265, hx265, h⟩ := bnd_e h
                  obtain ⟨x266, hx266, h⟩ := bnd_e h
                  obtain ⟨x267, hx267, h⟩ := bnd_e h
                  refine iwp_reg (ils_cons rfl (iop_move rfl rfl (by decide) (sv (d := .int _ _) rfl)) <|
                    ils_cons rfl (iop_move rfl rfl (by decide) (sv (d := .int _ _) rfl)) <|
                    ils_cons rfl (iop_cmpx rfl rfl (by decide) (sv (d := .int _ _) rfl) (sv (d := .int _ _) rfl) rfl hx265) <|
                    ils_cons rfl (iop_move rfl rfl (by decide) (sv (d := .bool _) rfl)) <|
                    ils_guard rfl rfl (.one rfl) rfl (by decide) (fun hb => (iop_move rfl rfl (by decide) (sv (d := .int _ _) rfl))) <|
                    ils_guard rfl rfl (.one rfl) rfl (by decide) (fun hb => (iop_move rfl rfl (by decide) (sv (d := .int _ _) rfl))) <|
                    ils_guard rfl rfl (.one rfl) rfl (by decide) (fun hb => (iop_cmpx rfl rfl (by decide) (svc (d := .int _ _) rfl hb) (svc (d := .int _ _) rfl hb) rfl hx266)) <|
                    ils_cons rfl (iop_andx rfl rfl (by decide) (sv (d := .bool _) rfl) rfl rfl hx267) <|
                    ils_end ?_)
                  refine iwp_cond (b := _) rfl (fun hc268 => ?_) (fun hc268 => ?_)
                  ·
                    replace h := bif_t h hc268
                    obtain ⟨x269, hx269, h⟩ := bno_e h
                    obtain ⟨hk270, h⟩ := chk_e h
                    refine iwp_region (ils_cons rfl (iop_move rfl rfl (by decide) (sv (d := .osl _ _ _) rfl)) <|
                      ils_cons rfl (iop_move rfl rfl (by decide) (sv (d := .int _ _) rfl)) <|
                      ils_cons rfl (iop_move rfl rfl (by decide) (sv (d := .int _ _) rfl)) <|
                      ils_cons rfl (iop_move rfl rfl (by decide) (sv (d := .int _ _) rfl)) <|
                      ils_cons rfl (iop_move rfl rfl (by decide) (sv (d := .fn 37 [.ref _ _]) rfl)) <|
                      ils_cons rfl (iop_callh2 (r' := .tuple []) (H1' := [(1000, .blk 3 (D.flat (x269.map (eInt .i64).d))), (1001, .blk 35 [.slice false (a4.map (eFlt .f64).d)])]) 0 [1000, 1001] rfl rfl (by decide) cl42 (.cons (sv (d := .osl _ _ _) rfl) (.cons (sv (d := .int _ _) rfl) (.cons (sv (d := .int _ _) rfl) (.cons (sv (d := .int _ _) rfl) (.cons (sv (d := .fn 37 [.ref _ _]) rfl) .nil))))) rfl rfl ⟨rfl, rfl, by decide, rfl, List.forall_mem_cons.2 ⟨⟨rfl, rfl, (handL (eInt .i64) rfl), (handLr (eInt .i64))⟩, List.forall_mem_cons.2 ⟨⟨rfl, rfl, rfl, rfl⟩, List.forall_mem_nil _⟩⟩⟩ (ih _ _ _ _ _ _ hx269) rfl rfl (List.forall_mem_cons.2 ⟨⟨rfl, (handLr (eInt .i64))⟩, List.forall_mem_cons.2 ⟨⟨rfl, rfl⟩, List.forall_mem_nil _⟩⟩) (by simp only [List.map_cons, List.map_nil, Ent.ren, renL_flat, renL_ref]; rfl)) <|
                      ils_nil ?_)
                    obtain rfl := Option.some.inj h
                    refine ⟨.inl rfl, (fun i => i), ⟨.nil, (.cons (EntW.lst rfl) (.cons (.blk rfl rfl rfl) .nil)), nd_of [1000, 1001] rfl (by decide), (fun i hi => by first | rfl | (show (if _ then _ else _) = _; (repeat' split) <;> omega))⟩, .nil, rfl⟩
                  ·
                    replace h := bif_f h hc268
                    refine iwp_skip ?_
                    obtain rfl := Option.some.inj h
                    refine ⟨.inl rfl, (fun i => i), ⟨.nil, (.cons (EntW.lst rfl) (.cons (.blk rfl rfl rfl) .nil)), nd_of [1000, 1001] rfl (by decide), (fun i hi => by first | rfl | (show (if _ then _ else _) = _; (repeat' split) <;> omega))⟩, .nil, rfl⟩

set_option maxRecDepth 8000 in
set_option maxHeartbeats 2000000 in
theorem p_slices_stableCmpFunc_int_h_Order_1 (a0 : Int) (a1 : (List Int)) (a2 : (List Nat)) (r : (List Int)) (h : slices_stableCmpFunc_int_h_Order_1 a0 a1 a2 = some r) : FnH Try.prog 40 [.osl 1000 (eInt .i64).sz a1.length, .int .i64 a0, .fn 37 [.ref 1001 0]] [(1000, .blk 3 (D.flat (a1.map (eInt .i64).d))), (1001, .blk 35 [.slice false (a2.map (eFlt .f64).d)])] (retD []) [(1000, .blk 3 (D.flat (r.map (eInt .i64).d))), (1001, .blk 35 [.slice false (a2.map (eFlt .f64).d)])] := by
  refine fnh_of_iwp (rs := []) Try.func40 rfl Try.ntmps40 (nle rfl) fun O hO => ?_
  show IWP _ _ _ _ ⟨[(0, .osl 1000 (eInt .i64).sz a1.length), (1, .int .i64 a0), (2, .fn 37 [.ref 1001 0])], [(1000, .blk 3 (D.flat (a1.map (eInt .i64).d))), (1001, .blk 35 [.slice false (a2.map (eFlt .f64).d)])]⟩ _
  unfold slices_stableCmpFunc_int_h_Order_1 at h
  refine iwp_reg (ils_cons rfl (iop_assign rfl rfl (by decide) (sv (d := .int _ 20) rfl)) <|
    ils_end ?_)
  refine iwp_reg (ils_cons rfl (iop_move rfl rfl (by decide) (sv (d := .int _ _) rfl)) <|
    ils_cons rfl (iop_assign rfl rfl (by decide) (sv (d := .int _ 0) rfl)) <|
    ils_cons rfl (iop_assign rfl rfl (by decide) (sv (d := .int _ _) rfl)) <|
    ils_end ?_)
  refine iwp_seq ?_
  refine iwp_block ?_
  refine iwp_loopP (α := Nat × (List Int) × Int × Int) (fun z => ⟨[(0, .osl 1000 (eInt .i64).sz z.2.1.length), (1, .int .i64 a0), (2, .fn 37 [.ref 1001 0]), (6, .int .i64 20), (7, .int .i64 z.2.2.1), (8, .int .i64 z.2.2.2)], [(1000, .blk 3 (D.flat (z.2.1.map (eInt .i64).d))), (1001, .blk 35 [.slice false (a2.map (eFlt .f64).d)])]⟩) (fun z => slices_stableCmpFunc_int_h_Order_1_L0 a0 a2 z.1 z.2.1 z.2.2.1 z.2.2.2 = some r) (fun z => z.1) (fuel, a1, 0, 20) (fun i => i) ⟨(.cons (.same rfl rfl) (.cons (.same rfl rfl) (.cons (.same rfl rfl) (.cons (.same rfl rfl) (.cons (.same rfl rfl) (.cons (.same rfl rfl) .nil)))))), (.cons (EntW.lst rfl) (.cons (.blk rfl rfl rfl) .nil)), nd_of [1000, 1001] rfl (by decide), (fun i hi => by first | rfl | (show (if _ then _ else _) = _; (repeat' split) <;> omega))⟩ ?_ ?_
  · exact h
  ·
    rintro ⟨n0, v6, v7, v8⟩ h
    cases n0 with
    | zero => exact absurd h (by unfold slices_stableCmpFunc_int_h_Order_1_L0; exact nofun)
    | succ n0 =>
      unfold slices_stableCmpFunc_int_h_Order_1_L0 at h
      refine iwp_seq ?_
      obtain ⟨x14, hx14, h⟩ := bnd_e h
      refine iwp_reg (ils_cons rfl (iop_move rfl rfl (by decide) (sv (d := .int _ _) rfl)) <|
        ils_cons rfl (iop_move rfl rfl (by decide) (sv (d := .int _ _) rfl)) <|
        ils_cons rfl (iop_cmpx rfl rfl (by decide) (sv (d := .int _ _) rfl) (sv (d := .int _ _) rfl) rfl hx14) <|
        ils_end ?_)
      refine iwp_cond (b := _) rfl (fun hc15 => ?_) (fun hc15 => ?_)
      ·
        replace h := bif_t h hc15
        refine iwp_skip ?_
        refine thenQ_n ?_
        refine iwp_block ?_
        obtain ⟨x16, hx16, h⟩ := bno_e h
        obtain ⟨hk17, h⟩ := chk_e h
        refine iwp_reg (ils_cons rfl (iop_move rfl rfl (by decide) (sv (d := .osl _ _ _) rfl)) <|
          ils_cons rfl (iop_move rfl rfl (by decide) (sv (d := .int _ _) rfl)) <|
          ils_cons rfl (iop_move rfl rfl (by decide) (sv (d := .int _ _) rfl)) <|
          ils_cons rfl (iop_move rfl rfl (by decide) (sv (d := .fn 37 [.ref _ _]) rfl)) <|
          ils_cons rfl (iop_callh2 (r' := .tuple []) (H1' := [(1000, .blk 3 (D.flat (x16.map (eInt .i64).d))), (1001, .blk 35 [.slice false (a2.map (eFlt .f64).d)])]) 0 [1000, 1001] rfl rfl (by decide) cl41 (.cons (sv (d := .osl _ _ _) rfl) (.cons (sv (d := .int _ _) rfl) (.cons (sv (d := .int _ _) rfl) (.cons (sv (d := .fn 37 [.ref _ _]) rfl) .nil)))) rfl rfl ⟨rfl, rfl, by decide, rfl, List.forall_mem_cons.2 ⟨⟨rfl, rfl, (handL (eInt .i64) rfl), (handLr (eInt .i64))⟩, List.forall_mem_cons.2 ⟨⟨rfl, rfl, rfl, rfl⟩, List.forall_mem_nil _⟩⟩⟩ (p_slices_insertionSortCmpFunc_int_h_Order_1 _ _ _ _ _ hx16) rfl rfl (List.forall_mem_cons.2 ⟨⟨rfl, (handLr (eInt .i64))⟩, List.forall_mem_cons.2 ⟨⟨rfl, rfl⟩, List.forall_mem_nil _⟩⟩) (by simp only [List.map_cons, List.map_nil, Ent.ren, renL_flat, renL_ref]; rfl)) <|
          ils_end ?_)
        refine iwp_reg (ils_cons rfl (iop_move rfl rfl (by decide) (sv (d := .int _ _) rfl)) <|
          ils_cons rfl (iop_assign rfl rfl (by decide) (sv (d := .int _ _) rfl)) <|
          ils_end ?_)
        obtain ⟨x18, hx18, h⟩ := bnd_e h
        refine iwp_region (ils_cons rfl (iop_move rfl rfl (by decide) (sv (d := .int _ _) rfl)) <|
          ils_cons rfl (iop_move rfl rfl (by decide) (sv (d := .int _ _) rfl)) <|
          ils_cons rfl (iop_intx rfl rfl (by decide) (sv (d := .int _ _) rfl) (sv (d := .int _ _) rfl) rfl hx18) <|
          ils_cons rfl (iop_assign rfl rfl (by decide) (sv (d := .int _ _) rfl)) <|
          ils_nil ?_)
        refine blockQ_n ?_
        refine thenQ_n ⟨(n0, x16, v8, x18), (fun i => i), ⟨(.cons (.same (congrArg (D.osl _ _) hk17.symm) rfl) (.cons (.same rfl rfl) (.cons (.same rfl rfl) (.cons (.same rfl rfl) (.cons (.same rfl rfl) (.cons (.same rfl rfl) .nil)))))), (.cons (EntW.lst rfl) (.cons (.blk rfl rfl rfl) .nil)), nd_of [1000, 1001] rfl (by decide), (fun i hi => by first | rfl | (show (if _ then _ else _) = _; (repeat' split) <;> omega))⟩, ?_, ?_⟩
        exact h
        exact Nat.lt_succ_self _
      ·
        replace h := bif_f h hc15
        refine iwp_exit ?_
        refine thenQ_e ?_
        refine thenQ_e ?_
        refine blockQ_e ?_
        refine thenQ_n ?_
        obtain ⟨x19, hx19, h⟩ := bno_e h
        obtain ⟨hk20, h⟩ := chk_e h
        refine iwp_reg (ils_cons rfl (iop_move rfl rfl (by decide) (sv (d := .osl _ _ _) rfl)) <|
          ils_cons rfl (iop_move rfl rfl (by decide) (sv (d := .int _ _) rfl)) <|
          ils_cons rfl (iop_move rfl rfl (by decide) (sv (d := .int _ _) rfl)) <|
          ils_cons rfl (iop_move rfl rfl (by decide) (sv (d := .fn 37 [.ref _ _]) rfl)) <|
          ils_cons rfl (iop_callh2 (r' := .tuple []) (H1' := [(1000, .blk 3 (D.flat (x19.map (eInt .i64).d))), (1001, .blk 35 [.slice false (a2.map (eFlt .f64).d)])]) 0 [1000, 1001] rfl rfl (by decide) cl41 (.cons (sv (d := .osl _ _ _) rfl) (.cons (sv (d := .int _ _) rfl) (.cons (sv (d := .int _ _) rfl) (.cons (sv (d := .fn 37 [.ref _ _]) rfl) .nil)))) rfl rfl ⟨rfl, rfl, by decide, rfl, List.forall_mem_cons.2 ⟨⟨rfl, rfl, (handL (eInt .i64) rfl), (handLr (eInt .i64))⟩, List.forall_mem_cons.2 ⟨⟨rfl, rfl, rfl, rfl⟩, List.forall_mem_nil _⟩⟩⟩ (p_slices_insertionSortCmpFunc_int_h_Order_1 _ _ _ _ _ hx19) rfl rfl (List.forall_mem_cons.2 ⟨⟨rfl, (handLr (eInt .i64))⟩, List.forall_mem_cons.2 ⟨⟨rfl, rfl⟩, List.forall_mem_nil _⟩⟩) (by simp only [List.map_cons, List.map_nil, Ent.ren, renL_flat, renL_ref]; rfl)) <|
          ils_end ?_)
        refine iwp_block ?_
        refine iwp_loopP (α := Nat × (List Int) × Int) (fun z => ⟨[(0, .osl 1000 (eInt .i64).sz z.2.1.length), (1, .int .i64 a0), (2, .fn 37 [.ref 1001 0]), (6, .int .i64 z.2.2)], [(1000, .blk 3 (D.flat (z.2.1.map (eInt .i64).d))), (1001, .blk 35 [.slice false (a2.map (eFlt .f64).d)])]⟩) (fun z => slices_stableCmpFunc_int_h_Order_1_L1 a0 a2 z.1 z.2.1 z.2.2 = some r) (fun z => z.1) (fuel, x19, 20) (fun i => i) ⟨(.cons (.same (congrArg (D.osl _ _) hk20.symm) rfl) (.cons (.same rfl rfl) (.cons (.same rfl rfl) (.cons (.same rfl rfl) .nil)))), (.cons (EntW.lst rfl) (.cons (.blk rfl rfl rfl) .nil)), nd_of [1000, 1001] rfl (by decide), (fun i hi => by first | rfl | (show (if _ then _ else _) = _; (repeat' split) <;> omega))⟩ ?_ ?_
        · exact h
        ·
          rintro ⟨n1, v55, v56⟩ h
          cases n1 with
          | zero => exact absurd h (by unfold slices_stableCmpFunc_int_h_Order_1_L1; exact nofun)
          | succ n1 =>
            unfold slices_stableCmpFunc_int_h_Order_1_L1 at h
            refine iwp_seq ?_
            obtain ⟨x91, hx91, h⟩ := bnd_e h
            refine iwp_reg (ils_cons rfl (iop_move rfl rfl (by decide) (sv (d := .int _ _) rfl)) <|
              ils_cons rfl (iop_move rfl rfl (by decide) (sv (d := .int _ _) rfl)) <|
              ils_cons rfl (iop_cmpx rfl rfl (by decide) (sv (d := .int _ _) rfl) (sv (d := .int _ _) rfl) rfl hx91) <|
              ils_end ?_)
            refine iwp_cond (b := _) rfl (fun hc92 => ?_) (fun hc92 => ?_)
            ·
              replace h := bif_t h hc92
              refine iwp_skip ?_
              refine thenQ_n ?_
              refine iwp_block ?_
              obtain ⟨x93, hx93, h⟩ := bnd_e h
              refine iwp_reg (ils_cons rfl (iop_move rfl rfl (by decide) (sv (d := .int _ _) rfl)) <|
                ils_cons rfl (iop_intx rfl rfl (by decide) (sv (d := .int _ 2) rfl) (sv (d := .int _ _) rfl) rfl hx93) <|
                ils_cons rfl (iop_assign rfl rfl (by decide) (sv (d := .int _ 0) rfl)) <|
                ils_cons rfl (iop_assign rfl rfl (by decide) (sv (d := .int _ _) rfl)) <|
                ils_end ?_)
              refine iwp_seq ?_
              refine iwp_block ?_
              refine iwp_loopP (α := Nat × (List Int) × Int × Int) (fun z => ⟨[(0, .osl 1000 (eInt .i64).sz z.2.1.length), (1, .int .i64 a0), (2, .fn 37 [.ref 1001 0]), (6, .int .i64 v56), (7, .int .i64 z.2.2.1), (8, .int .i64 z.2.2.2)], [(1000, .blk 3 (D.flat (z.2.1.map (eInt .i64).d))), (1001, .blk 35 [.slice false (a2.map (eFlt .f64).d)])]⟩) (fun z => slices_stableCmpFunc_int_h_Order_1_L2 a0 a2 v56 (slices_stableCmpFunc_int_h_Order_1_L1 a0 a2 n1) z.1 z.2.1 z.2.2.1 z.2.2.2 = some r) (fun z => z.1) (fuel, v55, 0, x93) (fun i => i) ⟨(.cons (.same rfl rfl) (.cons (.same rfl rfl) (.cons (.same rfl rfl) (.cons (.same rfl rfl) (.cons (.same rfl rfl) (.cons (.same rfl rfl) .nil)))))), (.cons (EntW.lst rfl) (.cons (.blk rfl rfl rfl) .nil)), nd_of [1000, 1001] rfl (by decide), (fun i hi => by first | rfl | (show (if _ then _ else _) = _; (repeat' split) <;> omega))⟩ ?_ ?_
              · exact h
              ·
                rintro ⟨n2, v101, v102, v103⟩ h
                cases n2 with
                | zero => exact absurd h (by unfold slices_stableCmpFunc_int_h_Order_1_L2; exact nofun)
                | succ n2 =>
                  unfold slices_stableCmpFunc_int_h_Order_1_L2 at h
                  refine iwp_seq ?_
                  obtain ⟨x111, hx111, h⟩ := bnd_e h
                  refine iwp_reg (ils_cons rfl (iop_move rfl rfl (by decide) (sv (d := .int _ _) rfl)) <|
                    ils_cons rfl (iop_move rfl rfl (by decide) (sv (d := .int _ _) rfl)) <|
                    ils_cons rfl (iop_cmpx rfl rfl (by decide) (sv (d := .int _ _) rfl) (sv (d := .int _ _) rfl) rfl hx111) <|
                    ils_end ?_)
                  refine iwp_cond (b := _) rfl (fun hc112 => ?_) (fun hc112 => ?_)
                  ·
                    replace h := bif_t h hc112
                    refine iwp_skip ?_
                    refine thenQ_n ?_
                    refine iwp_block ?_
                    obtain ⟨x113, hx113, h⟩ := bnd_e h
                    obtain ⟨x114, hx114, h⟩ := bno_e h
                    obtain ⟨hk115, h⟩ := chk_e h
                    refine iwp_reg (ils_cons rfl (iop_move rfl rfl (by decide) (sv (d := .osl _ _ _) rfl)) <|
                      ils_cons rfl (iop_move rfl rfl (by decide) (sv (d := .int _ _) rfl)) <|
                      ils_cons rfl (iop_move rfl rfl (by decide) (sv (d := .int _ _) rfl)) <|
                      ils_cons rfl (iop_move rfl rfl (by decide) (sv (d := .int _ _) rfl)) <|
                      ils_cons rfl (iop_intx rfl rfl (by decide) (sv (d := .int _ _) rfl) (sv (d := .int _ _) rfl) rfl hx113) <|
                      ils_cons rfl (iop_move rfl rfl (by decide) (sv (d := .int _ _) rfl)) <|
                      ils_cons rfl (iop_move rfl rfl (by decide) (sv (d := .fn 37 [.ref _ _]) rfl)) <|
                      ils_cons rfl (iop_callh2 (r' := .tuple []) (H1' := [(1000, .blk 3 (D.flat (x114.map (eInt .i64).d))), (1001, .blk 35 [.slice false (a2.map (eFlt .f64).d)])]) 0 [1000, 1001] rfl rfl (by decide) cl42 (.cons (sv (d := .osl _ _ _) rfl) (.cons (sv (d := .int _ _) rfl) (.cons (sv (d := .int _ _) rfl) (.cons (sv (d := .int _ _) rfl) (.cons (sv (d := .fn 37 [.ref _ _]) rfl) .nil))))) rfl rfl ⟨rfl, rfl, by decide, rfl, List.forall_mem_cons.2 ⟨⟨rfl, rfl, (handL (eInt .i64) rfl), (handLr (eInt .i64))⟩, List.forall_mem_cons.2 ⟨⟨rfl, rfl, rfl, rfl⟩, List.forall_mem_nil _⟩⟩⟩ (p_slices_symMergeCmpFunc_int_h_Order_1 _ _ _ _ _ _ _ hx114) rfl rfl (List.forall_mem_cons.2 ⟨⟨rfl, (handLr (eInt .i64))⟩, List.forall_mem_cons.2 ⟨⟨rfl, rfl⟩, List.forall_mem_nil _⟩⟩) (by simp only [List.map_cons, List.map_nil, Ent.ren, renL_flat, renL_ref]; rfl)) <|
                      ils_end ?_)
                    refine iwp_reg (ils_cons rfl (iop_move rfl rfl (by decide) (sv (d := .int _ _) rfl)) <|
                      ils_cons rfl (iop_assign rfl rfl (by decide) (sv (d := .int _ _) rfl)) <|
                      ils_end ?_)
                    obtain ⟨x116, hx116, h⟩ := bnd_e h
                    obtain ⟨x117, hx117, h⟩ := bnd_e h
                    refine iwp_region (ils_cons rfl (iop_move rfl rfl (by decide) (sv (d := .int _ _) rfl)) <|
                      ils_cons rfl (iop_move rfl rfl (by decide) (sv (d := .int _ _) rfl)) <|
                      ils_cons rfl (iop_intx rfl rfl (by decide) (sv (d := .int _ 2) rfl) (sv (d := .int _ _) rfl) rfl hx116) <|
                      ils_cons rfl (iop_intx rfl rfl (by decide) (sv (d := .int _ _) rfl) (sv (d := .int _ _) rfl) rfl hx117) <|
                      ils_cons rfl (iop_assign rfl rfl (by decide) (sv (d := .int _ _) rfl)) <|
                      ils_nil ?_)
                    refine blockQ_n ?_
                    refine thenQ_n ⟨(n2, x114, v103, x117), (fun i => i), ⟨(.cons (.same (congrArg (D.osl _ _) hk115.symm) rfl) (.cons (.same rfl rfl) (.cons (.same rfl rfl) (.cons (.same rfl rfl) (.cons (.same rfl rfl) (.cons (.same rfl rfl) .nil)))))), (.cons (EntW.lst rfl) (.cons (.blk rfl rfl rfl) .nil)), nd_of [1000, 1001] rfl (by decide), (fun i hi => by first | rfl | (show (if _ then _ else _) = _; (repeat' split) <;> omega))⟩, ?_, ?_⟩
                    exact h
                    exact Nat.lt_succ_self _
                  ·
                    replace h := bif_f h hc112
                    refine iwp_exit ?_
                    refine thenQ_e ?_
                    refine thenQ_e ?_
                    refine blockQ_e ?_
                    refine thenQ_n ?_
                    refine iwp_seq ?_
                    obtain ⟨x118, hx118, h⟩ := bnd_e h
                    refine iwp_reg (ils_cons rfl (iop_move rfl rfl (by decide) (sv (d := .int _ _) rfl)) <|
                      ils_cons rfl (iop_move rfl rfl (by decide) (sv (d := .int _ _) rfl)) <|
                      ils_cons rfl (iop_intx rfl rfl (by decide) (sv (d := .int _ _) rfl) (sv (d := .int _ _) rfl) rfl hx118) <|
                      ils_cons rfl (iop_assign rfl rfl (by decide) (sv (d := .int _ _) rfl)) <|
                      ils_end ?_)
                    obtain ⟨x119, hx119, h⟩ := bnd_e h
                    refine iwp_reg (ils_cons rfl (iop_move rfl rfl (by decide) (sv (d := .int _ _) rfl)) <|
                      ils_cons rfl (iop_move rfl rfl (by decide) (sv (d := .int _ _) rfl)) <|
                      ils_cons rfl (iop_cmpx rfl rfl (by decide) (sv (d := .int _ _) rfl) (sv (d := .int _ _) rfl) rfl hx119) <|
                      ils_end ?_)
                    refine iwp_cond (b := _) rfl (fun hc120 => ?_) (fun hc120 => ?_)
                    ·
                      replace h := bif_t h hc120
                      obtain ⟨x121, hx121, h⟩ := bno_e h
                      obtain ⟨hk122, h⟩ := chk_e h
                      refine iwp_region (ils_cons rfl (iop_move rfl rfl (by decide) (sv (d := .osl _ _ _) rfl)) <|
                        ils_cons rfl (iop_move rfl rfl (by decide) (sv (d := .int _ _) rfl)) <|
                        ils_cons rfl (iop_move rfl rfl (by decide) (sv (d := .int _ _) rfl)) <|
                        ils_cons rfl (iop_move rfl rfl (by decide) (sv (d := .int _ _) rfl)) <|
                        ils_cons rfl (iop_move rfl rfl (by decide) (sv (d := .fn 37 [.ref _ _]) rfl)) <|
                        ils_cons rfl (iop_callh2 (r' := .tuple []) (H1' := [(1000, .blk 3 (D.flat (x121.map (eInt .i64).d))), (1001, .blk 35 [.slice false (a2.map (eFlt .f64).d)])]) 0 [1000, 1001] rfl rfl (by decide) cl42 (.cons (sv (d := .osl _ _ _) rfl) (.cons (sv (d := .int _ _) rfl) (.cons (sv (d := .int _ _) rfl) (.cons (sv (d := .int _ _) rfl) (.cons (sv (d := .fn 37 [.ref _ _]) rfl) .nil))))) rfl rfl ⟨rfl, rfl, by decide, rfl, List.forall_mem_cons.2 ⟨⟨rfl, rfl, (handL (eInt .i64) rfl), (handLr (eInt .i64))⟩, List.forall_mem_cons.2 ⟨⟨rfl, rfl, rfl, rfl⟩, List.forall_mem_nil _⟩⟩⟩ (p_slices_symMergeCmpFunc_int_h_Order_1 _ _ _ _ _ _ _ hx121) rfl rfl (List.forall_mem_cons.2 ⟨⟨rfl, (handLr (eInt .i64))⟩, List.forall_mem_cons.2 ⟨⟨rfl, rfl⟩, List.forall_mem_nil _⟩⟩) (by simp only [List.map_cons, List.map_nil, Ent.ren, renL_flat, renL_ref]; rfl)) <|
                        ils_nil ?_)
                      refine thenQ_n ?_
                      obtain ⟨x123, hx123, h⟩ := bnd_e h
                      refine iwp_region (ils_cons rfl (iop_move rfl rfl (by decide) (sv (d := .int _ _) rfl)) <|
                        ils_cons rfl (iop_intx rfl rfl (by decide) (sv (d := .int _ _) rfl) (sv (d := .int _ 2) rfl) rfl hx123) <|
                        ils_cons rfl (iop_assign rfl rfl (by decide) (sv (d := .int _ _) rfl)) <|
                        ils_nil ?_)
                      refine blockQ_n ?_
                      refine thenQ_n ⟨(n1, x121, x123), (fun i => i), ⟨(.cons (.same (congrArg (D.osl _ _) hk122.symm) rfl) (.cons (.same rfl rfl) (.cons (.same rfl rfl) (.cons (.same rfl rfl) .nil)))), (.cons (EntW.lst rfl) (.cons (.blk rfl rfl rfl) .nil)), nd_of [1000, 1001] rfl (by decide), (fun i hi => by first | rfl | (show (if _ then _ else _) = _; (repeat' split) <;> omega))⟩, ?_, ?_⟩
                      exact h
                      exact Nat.lt_succ_self _
                    ·
                      replace h := bif_f h hc120
                      refine iwp_skip ?_
                      refine thenQ_n ?_
                      obtain ⟨x124, hx124, h⟩ := bnd_e h
                      refine iwp_region (ils_cons rfl (iop_move rfl rfl (by decide) (sv (d := .int _ _) rfl)) <|
                        ils_cons rfl (iop_intx rfl rfl (by decide) (sv (d := .int _ _) rfl) (sv (d := .int _ 2) rfl) rfl hx124) <|
                        ils_cons rfl (iop_assign rfl rfl (by decide) (sv (d := .int _ _) rfl)) <|
                        ils_nil ?_)
                      refine blockQ_n ?_
                      refine thenQ_n ⟨(n1, v101, x124), (fun i => i), ⟨(.cons (.same rfl rfl) (.cons (.same rfl rfl) (.cons (.same rfl rfl) (.cons (.same rfl rfl) .nil)))), (.cons (EntW.lst rfl) (.cons (.blk rfl rfl rfl) .nil)), nd_of [1000, 1001] rfl (by decide), (fun i hi => by first | rfl | (show (if _ then _ else _) = _; (repeat' split) <;> omega))⟩, ?_, ?_⟩
                      exact h
                      exact Nat.lt_succ_self _
            ·
              replace h := bif_f h hc92
              refine iwp_exit ?_
              refine thenQ_e ?_
              refine thenQ_e ?_
              refine blockQ_e ?_
              obtain rfl := Option.some.inj h
              refine ⟨.inl rfl, (fun i => i), ⟨.nil, (.cons (EntW.lst rfl) (.cons (.blk rfl rfl rfl) .nil)), nd_of [1000, 1001] rfl (by decide), (fun i hi => by first | rfl | (show (if _ then _ else _) = _; (repeat' split) <;> omega))⟩, .nil, rfl⟩

set_option maxRecDepth 8000 in
set_option maxHeartbeats 2000000 in
theorem p_slices_SortStableFunc_int_int_h_Order_1 (a0 : (List Int)) (a1 : (List Nat)) (r : (List Int)) (h : slices_SortStableFunc_int_int_h_Order_1 a0 a1 = some r) : FnH Try.prog 36 [.osl 1000 (eInt .i64).sz a0.length, .fn 37 [.ref 1001 0]] [(1000, .blk 3 (D.flat (a0.map (eInt .i64).d))), (1001, .blk 35 [.slice false (a1.map (eFlt .f64).d)])] (retD []) [(1000, .blk 3 (D.flat (r.map (eInt .i64).d))), (1001, .blk 35 [.slice false (a1.map (eFlt .f64).d)])] := by
  refine fnh_of_iwp (rs := []) Try.func36 rfl Try.ntmps36 (nle rfl) fun O hO => ?_
  show IWP _ _ _ _ ⟨[(0, .osl 1000 (eInt .i64).sz a0.length), (1, .fn 37 [.ref 1001 0])], [(1000, .blk 3 (D.flat (a0.map (eInt .i64).d))), (1001, .blk 35 [.slice false (a1.map (eFlt .f64).d)])]⟩ _
  unfold slices_SortStableFunc_int_int_h_Order_1 at h
  obtain ⟨x1, hx1, h⟩ := bno_e h
  obtain ⟨hk2, h⟩ := chk_e h
  refine iwp_region (ils_cons rfl (iop_move rfl rfl (by decide) (sv (d := .osl _ _ _) rfl)) <|
    ils_cons rfl (iop_move rfl rfl (by decide) (sv (d := .osl _ _ _) rfl)) <|
    ils_cons rfl (iop_lenO rfl rfl (by decide) Try.underlying39 (sv (d := .osl _ _ _) rfl)) <|
    ils_cons rfl (iop_move rfl rfl (by decide) (sv (d := .fn 37 [.ref _ _]) rfl)) <|
    ils_cons rfl (iop_callh2 (r' := .tuple []) (H1' := [(1000, .blk 3 (D.flat (x1.map (eInt .i64).d))), (1001, .blk 35 [.slice false (a1.map (eFlt .f64).d)])]) 0 [1000, 1001] rfl rfl (by decide) cl40 (.cons (sv (d := .osl _ _ _) rfl) (.cons (sv (d := .int _ _) rfl) (.cons (sv (d := .fn 37 [.ref _ _]) rfl) .nil))) rfl rfl ⟨rfl, rfl, by decide, rfl, List.forall_mem_cons.2 ⟨⟨rfl, rfl, (handL (eInt .i64) rfl), (handLr (eInt .i64))⟩, List.forall_mem_cons.2 ⟨⟨rfl, rfl, rfl, rfl⟩, List.forall_mem_nil _⟩⟩⟩ (p_slices_stableCmpFunc_int_h_Order_1 _ _ _ _ hx1) rfl rfl (List.forall_mem_cons.2 ⟨⟨rfl, (handLr (eInt .i64))⟩, List.forall_mem_cons.2 ⟨⟨rfl, rfl⟩, List.forall_mem_nil _⟩⟩) (by simp only [List.map_cons, List.map_nil, Ent.ren, renL_flat, renL_ref]; rfl)) <|
    ils_nil ?_)
  obtain rfl := Option.some.inj h
  refine ⟨.inl rfl, (fun i => i), ⟨.nil, (.cons (EntW.lst rfl) (.cons (.blk rfl rfl rfl) .nil)), nd_of [1000, 1001] rfl (by decide), (fun i hi => by first | rfl | (show (if _ then _ else _) = _; (repeat' split) <;> omega))⟩, .nil, rfl⟩

set_option maxRecDepth 8000 in
set_option maxHeartbeats 2000000 in
theorem p_gauge_Order (a0 : (List Nat)) (r : (List Int)) (h : gauge_Order a0 = some r) : PureAt Try.prog 25 [.slice false (a0.map (eFlt .f64).d)] (.slice false (r.map (eInt .i64).d)) := by
  refine pure_of_iwpF (rs := [.slice false (r.map (eInt .i64).d)]) Try.func25 rfl Try.ntmps25 (nle rfl) rfl fun O hO => ?_
  show IWP _ _ _ _ ⟨[(0, .slice false (a0.map (eFlt .f64).d))], []⟩ _
  unfold gauge_Order at h
  refine iwp_reg (ils_cons rfl (iop_box' (cs := [.slice _ _]) 0 rfl rfl (by decide) rfl (sv (d := .slice _ _) rfl) rfl rfl) <|
    ils_cons rfl (iop_assign rfl rfl (by decide) (sv (d := .nils) rfl)) <|
    ils_end ?_)
  refine iwp_reg (ils_cons rfl (iop_assign rfl rfl (by decide) (sv (d := .nils) rfl)) <|
    ils_end ?_)
  refine iwp_seq ?_
  refine iwp_reg (ils_cons rfl (iop_load_rs (d := .slice _ _) rfl rfl (by decide) Try.underlying35 ag35 ti35 (by decide) (sv (d := .ref _ _) rfl) rfl (nle rfl) rfl) <|
    ils_cons rfl (iop_lenT (eFlt .f64) (l := a0) rfl rfl (by decide) Try.underlying35 (sv (d := .slice _ _) rfl)) <|
    ils_cons rfl (iop_move rfl rfl (by decide) (sv (d := .int _ 0) rfl)) <|
    ils_end ?_)
  refine iwp_block ?_
  refine iwp_loopP (α := Nat × (List Int) × Int) (fun z => ⟨[(1, .ref 0 0), (3, .osl 22 (eInt .i64).sz z.2.1.length), (6, .int .i64 (a0.length : Int)), (7, .int .i64 z.2.2)], [(0, .blk 35 [.slice false (a0.map (eFlt .f64).d)]), (22, .blk 3 (D.flat (z.2.1.map (eInt .i64).d)))]⟩) (fun z => gauge_Order_L0 a0 z.1 z.2.1 z.2.2 = some r) (fun z => z.1) (fuel, ([] : (List Int)), 0) (fun i => if i = 22 then 73 else i) ⟨(.cons (.same rfl rfl) (.cons (.nilo rfl) (.cons (.same rfl rfl) (.cons (.same rfl rfl) .nil)))), (.cons (.blk rfl rfl rfl) (.cons (.nilb rfl) .nil)), nd_of [0, 73] rfl (by decide), (fun i hi => by first | rfl | (show (if _ then _ else _) = _; (repeat' split) <;> omega))⟩ ?_ ?_
  · exact h
  ·
    rintro ⟨n0, v5, v6⟩ h
    cases n0 with
    | zero => exact absurd h (by unfold gauge_Order_L0; exact nofun)
    | succ n0 =>
      unfold gauge_Order_L0 at h
      obtain ⟨x11, hx11, h⟩ := bnd_e h
      refine iwp_reg (ils_cons rfl (iop_cmpx rfl rfl (by decide) (sv (d := .int _ _) rfl) (sv (d := .int _ _) rfl) rfl hx11) <|
        ils_end ?_)
      refine iwp_seq ?_
      refine iwp_cond (b := _) rfl (fun hc12 => ?_) (fun hc12 => ?_)
      ·
        replace h := bif_t h hc12
        refine iwp_skip ?_
        refine thenQ_n ?_
        refine iwp_seq ?_
        refine iwp_block ?_
        refine iwp_reg (ils_cons rfl (iop_move rfl rfl (by decide) (sv (d := .int _ _) rfl)) <|
          ils_cons rfl (iop_assign rfl rfl (by decide) (sv (d := .int _ _) rfl)) <|
          ils_end ?_)
        obtain ⟨x13, hx13, h⟩ := bno_e h
        refine iwp_region (ils_cons rfl (iop_move rfl rfl (by decide) (sv (d := .osl _ _ _) rfl)) <|
          ils_cons rfl (iop_move rfl rfl (by decide) (sv (d := .int _ _) rfl)) <|
          ils_cons rfl (iop_bsO (eInt .i64).toEnc0 ([v6] : (List Int)) 23 rfl rfl (by decide) Try.underlying39 ti3 rfl (.cons (sv (d := .int _ _) rfl) .nil) rfl rfl (by decide)) <|
          ils_cons rfl (iop_appO (eInt .i64).toEnc0 24 rfl rfl (by decide) Try.underlying39 ti3 rfl rfl rfl rfl rfl (src_O (eInt .i64).toEnc0 rfl rfl rfl) hx13) <|
          ils_cons rfl (iop_assign rfl rfl (by decide) (sv (d := .osl _ _ _) rfl)) <|
          ils_nil ?_)
        refine blockQ_n ?_
        refine thenQ_n ?_
        obtain ⟨x14, hx14, h⟩ := bnd_e h
        refine iwp_region (ils_cons rfl (iop_intx rfl rfl (by decide) (sv (d := .int _ _) rfl) (sv (d := .int _ 1) rfl) rfl hx14) <|
          ils_cons rfl (iop_move rfl rfl (by decide) (sv (d := .int _ _) rfl)) <|
          ils_nil ?_)
        refine thenQ_n ⟨(n0, x13, x14), (fun i => if i = 22 then 24 else i), ⟨(.cons (.same rfl rfl) (.cons (.same rfl rfl) (.cons (.same rfl rfl) (.cons (.same rfl rfl) .nil)))), (.cons (.blk rfl rfl rfl) (.cons (EntW.lst rfl) .nil)), nd_of [0, 24] rfl (by decide), (fun i hi => by first | rfl | (show (if _ then _ else _) = _; (repeat' split) <;> omega))⟩, ?_, ?_⟩
        exact h
        exact Nat.lt_succ_self _
      ·
        replace h := bif_f h hc12
        refine iwp_exit ?_
        refine thenQ_e ?_
        refine thenQ_e ?_
        refine blockQ_e ?_
        refine thenQ_n ?_
        obtain ⟨x15, hx15, h⟩ := bno_e h
        obtain ⟨hk16, h⟩ := chk_e h
        refine iwp_reg (ils_cons rfl (iop_move rfl rfl (by decide) (sv (d := .osl _ _ _) rfl)) <|
          ils_cons rfl (iop_makeFunc rfl rfl (by decide) (.cons (sv (d := .ref _ _) rfl) .nil)) <|
          ils_cons rfl (iop_callh2 (r' := .tuple []) (H1' := [(22, .blk 3 (D.flat (x15.map (eInt .i64).d))), (0, .blk 35 [.slice false (a0.map (eFlt .f64).d)])]) 23 [22, 0] rfl rfl (by decide) cl36 (.cons (sv (d := .osl _ _ _) rfl) (.cons (sv (d := .fn 37 [.ref _ _]) rfl) .nil)) rfl rfl ⟨rfl, rfl, by decide, rfl, List.forall_mem_cons.2 ⟨⟨rfl, rfl, (handL (eInt .i64) rfl), (handLr (eInt .i64))⟩, List.forall_mem_cons.2 ⟨⟨rfl, rfl, rfl, rfl⟩, List.forall_mem_nil _⟩⟩⟩ (p_slices_SortStableFunc_int_int_h_Order_1 _ _ _ hx15) rfl rfl (List.forall_mem_cons.2 ⟨⟨rfl, (handLr (eInt .i64))⟩, List.forall_mem_cons.2 ⟨⟨rfl, rfl⟩, List.forall_mem_nil _⟩⟩) (by simp only [List.map_cons, List.map_nil, Ent.ren, renL_flat, renL_ref]; rfl)) <|
          ils_end ?_)
        refine iwp_reg (ils_cons rfl (iop_move rfl rfl (by decide) (sv (d := .osl _ _ _) rfl)) <|
          ils_cons rfl (iop_assign rfl rfl (by decide) (sv (d := .osl _ _ _) rfl)) <|
          ils_end ?_)
        refine iwp_ret ?_
        obtain rfl := Option.some.inj h
        refine ⟨.inr rfl, _, (.cons (sv rfl) .nil), (.cons (FDT (eInt .i64) rfl hk16) .nil)⟩

set_option maxRecDepth 8000 in
set_option maxHeartbeats 2000000 in
theorem p_gauge_Best (a0 : (List Nat)) (r : Int) (h : gauge_Best a0 = some r) : PureAt Try.prog 22 [.slice false (a0.map (eFlt .f64).d)] (.int .i64 r) := by
  refine pure_of_iwp (rs := [.int .i64 r]) Try.func22 rfl Try.ntmps22 (nle rfl) rfl fun O hO => ?_
  show IWP _ _ _ _ ⟨[(0, .slice false (a0.map (eFlt .f64).d))], []⟩ _
  unfold gauge_Best at h
  refine iwp_reg (ils_cons rfl (iop_assign rfl rfl (by decide) (sv (d := .int _ 0) rfl)) <|
    ils_end ?_)
  obtain ⟨x1, hx1, h⟩ := bno_e h
  refine iwp_reg (ils_cons rfl (iop_move rfl rfl (by decide) (sv (d := .slice _ _) rfl)) <|
    ils_cons rfl (iop_call (r := .slice _ _) rfl rfl (by decide) cl25 (.cons (sv (d := .slice _ _) rfl) .nil) rfl (p_gauge_Order _ _ hx1)) <|
    ils_cons rfl (iop_assign rfl rfl (by decide) (sv (d := .slice _ _) rfl)) <|
    ils_end ?_)
  refine iwp_seq ?_
  obtain ⟨x2, hx2, h⟩ := bnd_e h
  obtain ⟨x3, hx3, h⟩ := bno_e h
  obtain ⟨x4, hx4, h⟩ := bno_e h
  obtain ⟨x5, hx5, h⟩ := bno_e h
  obtain ⟨x6, hx6, h⟩ := bnd_e h
  refine iwp_reg (ils_cons rfl (iop_move rfl rfl (by decide) (sv (d := .slice _ _) rfl)) <|
    ils_cons rfl (iop_lenT (eInt .i64) (l := x1) rfl rfl (by decide) Try.underlying39 (sv (d := .slice _ _) rfl)) <|
    ils_cons rfl (iop_cmpx rfl rfl (by decide) (sv (d := .int _ _) rfl) (sv (d := .int _ 0) rfl) rfl hx2) <|
    ils_cons rfl (iop_move rfl rfl (by decide) (sv (d := .bool _) rfl)) <|
    ils_guard rfl rfl (.one rfl) rfl (by decide) (fun hb => (iop_move rfl rfl (by decide) (sv (d := .slice _ _) rfl))) <|
    ils_guard rfl rfl (.one rfl) rfl (by decide) (fun hb => (iop_move rfl rfl (by decide) (sv (d := .slice _ _) rfl))) <|
    ils_guard rfl rfl (.one rfl) rfl (by decide) (fun hb => (iop_idxT (eInt .i64) (cs := [.int _ _]) rfl rfl (by decide) Try.underlying39 ti3 (svc (d := .slice _ _) rfl hb) (sv (d := .int _ 0) rfl) (gd_t hx3 hb) rfl rfl)) <|
    ils_guard rfl rfl (.one rfl) rfl (by decide) (fun hb => (iop_load_fs rfl rfl (by decide) Try.underlying3 ag3 ti3 (by decide) (svc (d := .fptr [.int _ _]) rfl hb) (nle rfl))) <|
    ils_guard rfl rfl (.one rfl) rfl (by decide) (fun hb => (iop_idxT (eFlt .f64) (cs := [.float _ _]) rfl rfl (by decide) Try.underlying35 ti24 (svc (d := .slice _ _) rfl hb) (svc (d := .int _ _) rfl hb) (gd_t hx4 hb) rfl rfl)) <|
    ils_guard rfl rfl (.one rfl) rfl (by decide) (fun hb => (iop_load_fs rfl rfl (by decide) Try.underlying24 ag24 ti24 (by decide) (svc (d := .fptr [.float _ _]) rfl hb) (nle rfl))) <|
    ils_guard rfl rfl (.one rfl) rfl (by decide) (fun hb => (iop_call (r := .bool _) rfl rfl (by decide) cl30 (.cons (svc (d := .float _ _) rfl hb) .nil) rfl (p_math_IsNaN _ _ (gd_t hx5 hb)))) <|
    ils_cons rfl (iop_orx rfl rfl (by decide) (sv (d := .bool _) rfl) rfl rfl hx6) <|
    ils_end ?_)
  refine iwp_cond (b := _) rfl (fun hc7 => ?_) (fun hc7 => ?_)
  ·
    replace h := bif_t h hc7
    refine iwp_reg (ils_cons rfl (iop_assign rfl rfl (by decide) (sv (d := .int _ (-1)) rfl)) <|
      ils_end ?_)
    refine iwp_ret ?_
    refine thenQ_r ?_
    obtain rfl := Option.some.inj h
    refine ⟨.inr rfl, (.cons (sv rfl) .nil)⟩
  ·
    replace h := bif_f h hc7
    refine iwp_skip ?_
    refine thenQ_n ?_
    obtain ⟨x8, hx8, h⟩ := bno_e h
    refine iwp_reg (ils_cons rfl (iop_move rfl rfl (by decide) (sv (d := .slice _ _) rfl)) <|
      ils_cons rfl (iop_idxT (eInt .i64) (cs := [.int _ _]) rfl rfl (by decide) Try.underlying39 ti3 (sv (d := .slice _ _) rfl) (sv (d := .int _ 0) rfl) hx8 rfl rfl) <|
      ils_cons rfl (iop_load_fs rfl rfl (by decide) Try.underlying3 ag3 ti3 (by decide) (sv (d := .fptr [.int _ _]) rfl) (nle rfl)) <|
      ils_cons rfl (iop_assign rfl rfl (by decide) (sv (d := .int _ _) rfl)) <|
      ils_end ?_)
    refine iwp_ret ?_
    obtain rfl := Option.some.inj h
    refine ⟨.inr rfl, (.cons (sv rfl) .nil)⟩

set_option maxRecDepth 8000 in
set_option maxHeartbeats 2000000 in
theorem p_sennitref02_SameInts (a0 : (List Int)) (a1 : (List Int)) (r : Bool) (h : sennitref02_SameInts a0 a1 = some r) : PureAt Try.prog 24 [.slice false (a0.map (eInt .i64).d), .slice false (a1.map (eInt .i64).d)] (.bool r) := by
  refine pure_of_iwp (rs := [.bool r]) Try.func24 rfl Try.ntmps24 (nle rfl) rfl fun O hO => ?_
  show IWP _ _ _ _ ⟨[(0, .slice false (a0.map (eInt .i64).d)), (1, .slice false (a1.map (eInt .i64).d))], []⟩ _
  unfold sennitref02_SameInts at h
  refine iwp_reg (ils_cons rfl (iop_assign rfl rfl (by decide) (sv (d := .bool false) rfl)) <|
    ils_end ?_)
  refine iwp_seq ?_
  obtain ⟨x1, hx1, h⟩ := bnd_e h
  refine iwp_reg (ils_cons rfl (iop_move rfl rfl (by decide) (sv (d := .slice _ _) rfl)) <|
    ils_cons rfl (iop_lenT (eInt .i64) (l := a0) rfl rfl (by decide) Try.underlying39 (sv (d := .slice _ _) rfl)) <|
    ils_cons rfl (iop_move rfl rfl (by decide) (sv (d := .slice _ _) rfl)) <|
    ils_cons rfl (iop_lenT (eInt .i64) (l := a1) rfl rfl (by decide) Try.underlying39 (sv (d := .slice _ _) rfl)) <|
    ils_cons rfl (iop_cmpx rfl rfl (by decide) (sv (d := .int _ _) rfl) (sv (d := .int _ _) rfl) rfl hx1) <|
    ils_end ?_)
  refine iwp_cond (b := _) rfl (fun hc2 => ?_) (fun hc2 => ?_)
  ·
    replace h := bif_t h hc2
    refine iwp_reg (ils_cons rfl (iop_assign rfl rfl (by decide) (sv (d := .bool false) rfl)) <|
      ils_end ?_)
    refine iwp_ret ?_
    refine thenQ_r ?_
    obtain rfl := Option.some.inj h
    refine ⟨.inr rfl, (.cons (sv rfl) .nil)⟩
  ·
    replace h := bif_f h hc2
    refine iwp_skip ?_
    refine thenQ_n ?_
    refine iwp_seq ?_
    refine iwp_reg (ils_cons rfl (iop_assign rfl rfl (by decide) (sv (d := .int _ 0) rfl)) <|
      ils_end ?_)
    refine iwp_block ?_
    refine iwp_loopP (α := Nat × Int) (fun z => ⟨[(0, .slice false (a0.map (eInt .i64).d)), (1, .slice false (a1.map (eInt .i64).d)), (5, .int .i64 z.2)], []⟩) (fun z => sennitref02_SameInts_L0 a0 a1 z.1 z.2 = some r) (fun z => z.1) (fuel, 0) (fun i => i) ⟨(.cons (.same rfl rfl) (.cons (.same rfl rfl) (.cons (.same rfl rfl) .nil))), .nil, nd_of [] rfl (by decide), (fun i hi => by first | rfl | (show (if _ then _ else _) = _; (repeat' split) <;> omega))⟩ ?_ ?_
    · exact h
    ·
      rintro ⟨n0, v10⟩ h
      cases n0 with
      | zero => exact absurd h (by unfold sennitref02_SameInts_L0; exact nofun)
      | succ n0 =>
        unfold sennitref02_SameInts_L0 at h
        refine iwp_seq ?_
        obtain ⟨x18, hx18, h⟩ := bnd_e h
        refine iwp_reg (ils_cons rfl (iop_move rfl rfl (by decide) (sv (d := .int _ _) rfl)) <|
          ils_cons rfl (iop_move rfl rfl (by decide) (sv (d := .slice _ _) rfl)) <|
          ils_cons rfl (iop_lenT (eInt .i64) (l := a0) rfl rfl (by decide) Try.underlying39 (sv (d := .slice _ _) rfl)) <|
          ils_cons rfl (iop_cmpx rfl rfl (by decide) (sv (d := .int _ _) rfl) (sv (d := .int _ _) rfl) rfl hx18) <|
          ils_end ?_)
        refine iwp_cond (b := _) rfl (fun hc19 => ?_) (fun hc19 => ?_)
        ·
          replace h := bif_t h hc19
          refine iwp_skip ?_
          refine thenQ_n ?_
          refine iwp_seq ?_
          refine iwp_block ?_
          obtain ⟨x20, hx20, h⟩ := bno_e h
          obtain ⟨x21, hx21, h⟩ := bno_e h
          obtain ⟨x22, hx22, h⟩ := bnd_e h
          refine iwp_drw rfl [⟨[0], [], [(17, .slice false (a0.map (eInt .i64).d))], []⟩,
            ⟨[5], [], [(18, .int .i64 v10)], []⟩,
            ⟨[17, 18], [], [(19, .fptr [.int .i64 x20])], []⟩,
            ⟨[19], [], [(20, .int .i64 x20)], []⟩,
            ⟨[1], [], [(21, .slice false (a1.map (eInt .i64).d))], []⟩,
            ⟨[5], [], [(22, .int .i64 v10)], []⟩,
            ⟨[21, 22], [], [(23, .fptr [.int .i64 x21])], []⟩,
            ⟨[23], [], [(24, .int .i64 x21)], []⟩,
            ⟨[20, 24], [], [(25, .bool x22)], []⟩] rfl ?_ (by kernel_rfl) ?_
          · refine .cons (lop rfl rfl fun S hA => (iop_move rfl rfl (by decide) (sv (d := .slice _ _) (agr hA rfl rfl)))) ?_
            refine .cons (lop rfl rfl fun S hA => (iop_move rfl rfl (by decide) (sv (d := .int _ _) (agr hA rfl rfl)))) ?_
            refine .cons (lop rfl rfl fun S hA => (iop_idxT (eInt .i64) (cs := [.int _ _]) rfl rfl (by decide) Try.underlying39 ti3 (sv (d := .slice _ _) (agr hA rfl rfl)) (sv (d := .int _ _) (agr hA rfl rfl)) hx20 rfl rfl)) ?_
            refine .cons (lop rfl rfl fun S hA => (iop_load_fs rfl rfl (by decide) Try.underlying3 ag3 ti3 (by decide) (sv (d := .fptr [.int _ _]) (agr hA rfl rfl)) (nle rfl))) ?_
            refine .cons (lop rfl rfl fun S hA => (iop_move rfl rfl (by decide) (sv (d := .slice _ _) (agr hA rfl rfl)))) ?_
            refine .cons (lop rfl rfl fun S hA => (iop_move rfl rfl (by decide) (sv (d := .int _ _) (agr hA rfl rfl)))) ?_
            refine .cons (lop rfl rfl fun S hA => (iop_idxT (eInt .i64) (cs := [.int _ _]) rfl rfl (by decide) Try.underlying39 ti3 (sv (d := .slice _ _) (agr hA rfl rfl)) (sv (d := .int _ _) (agr hA rfl rfl)) hx21 rfl rfl)) ?_
            refine .cons (lop rfl rfl fun S hA => (iop_load_fs rfl rfl (by decide) Try.underlying3 ag3 ti3 (by decide) (sv (d := .fptr [.int _ _]) (agr hA rfl rfl)) (nle rfl))) ?_
            refine .cons (lop rfl rfl fun S hA => (iop_cmpx rfl rfl (by decide) (sv (d := .int _ _) (agr hA rfl rfl)) (sv (d := .int _ _) (agr hA rfl rfl)) rfl hx22)) ?_
            exact .nil
          refine iwp_cond (b := _) rfl (fun hc23 => ?_) (fun hc23 => ?_)
          ·
            replace h := bif_t h hc23
            refine iwp_reg (ils_cons rfl (iop_assign rfl rfl (by decide) (sv (d := .bool false) rfl)) <|
              ils_end ?_)
            refine iwp_ret ?_
            refine blockQ_r ?_
            refine thenQ_r ?_
            refine thenQ_r ?_
            refine blockQ_r ?_
            refine thenQ_r ?_
            obtain rfl := Option.some.inj h
            refine ⟨.inr rfl, (.cons (sv rfl) .nil)⟩
          ·
            replace h := bif_f h hc23
            refine iwp_skip ?_
            refine blockQ_n ?_
            refine thenQ_n ?_
            obtain ⟨x24, hx24, h⟩ := bnd_e h
            refine iwp_region (ils_cons rfl (iop_move rfl rfl (by decide) (sv (d := .int _ _) rfl)) <|
              ils_cons rfl (iop_intx rfl rfl (by decide) (sv (d := .int _ _) rfl) (sv (d := .int _ 1) rfl) rfl hx24) <|
              ils_cons rfl (iop_assign rfl rfl (by decide) (sv (d := .int _ _) rfl)) <|
              ils_nil ?_)
            refine thenQ_n ⟨(n0, x24), (fun i => i), ⟨(.cons (.same rfl rfl) (.cons (.same rfl rfl) (.cons (.same rfl rfl) .nil))), .nil, nd_of [] rfl (by decide), (fun i hi => by first | rfl | (show (if _ then _ else _) = _; (repeat' split) <;> omega))⟩, ?_, ?_⟩
            exact h
            exact Nat.lt_succ_self _
        ·
          replace h := bif_f h hc19
          refine iwp_exit ?_
          refine thenQ_e ?_
          refine thenQ_e ?_
          refine blockQ_e ?_
          refine thenQ_n ?_
          refine iwp_reg (ils_cons rfl (iop_assign rfl rfl (by decide) (sv (d := .bool true) rfl)) <|
            ils_end ?_)
          refine iwp_ret ?_
          obtain rfl := Option.some.inj h
          refine ⟨.inr rfl, (.cons (sv rfl) .nil)⟩

set_option maxRecDepth 8000 in
set_option maxHeartbeats 2000000 in
theorem p_math_NaN  (r : Nat) (h : math_NaN = some r) : PureAt Try.prog 38 [] (.float .f64 r) := by
  refine pure_of_iwp (rs := [.float .f64 r]) Try.func38 rfl Try.ntmps38 (nle rfl) rfl fun O hO => ?_
  show IWP _ _ _ _ ⟨[], []⟩ _
  unfold math_NaN at h
  refine iwp_reg (ils_cons rfl (iop_assign rfl rfl (by decide) (sv (d := .float _ _) rfl)) <|
    ils_end ?_)
  obtain ⟨x1, hx1, h⟩ := bnd_e h
  refine iwp_reg (ils_cons rfl (iop_ffrom rfl rfl (by decide) ex29 (sv (d := .int _ 9221120237041090561) rfl) hx1) <|
    ils_cons rfl (iop_assign rfl rfl (by decide) (sv (d := .float _ _) rfl)) <|
    ils_end ?_)
  refine iwp_ret ?_
  obtain rfl := Option.some.inj h
  refine ⟨.inr rfl, (.cons (sv rfl) .nil)⟩

set_option maxRecDepth 8000 in
set_option maxHeartbeats 2000000 in
theorem p_gauge_Fold (a0 : (List Nat)) (r : Nat) (h : gauge_Fold a0 = some r) : PureAt Try.prog 27 [.slice false (a0.map (eFlt .f64).d)] (.float .f64 r) := by
  refine pure_of_iwp (rs := [.float .f64 r]) Try.func27 rfl Try.ntmps27 (nle rfl) rfl fun O hO => ?_
  show IWP _ _ _ _ ⟨[(0, .slice false (a0.map (eFlt .f64).d))], []⟩ _
  unfold gauge_Fold at h
  refine iwp_reg (ils_cons rfl (iop_assign rfl rfl (by decide) (sv (d := .float _ _) rfl)) <|
    ils_end ?_)
  obtain ⟨x1, hx1, h⟩ := bno_e h
  refine iwp_reg (ils_cons rfl (iop_call (r := .float _ _) rfl rfl (by decide) cl38 .nil rfl (p_math_NaN  _ hx1)) <|
    ils_cons rfl (iop_assign rfl rfl (by decide) (sv (d := .float _ _) rfl)) <|
    ils_end ?_)
  refine iwp_seq ?_
  refine iwp_reg (ils_cons rfl (iop_move rfl rfl (by decide) (sv (d := .slice _ _) rfl)) <|
    ils_cons rfl (iop_lenT (eFlt .f64) (l := a0) rfl rfl (by decide) Try.underlying35 (sv (d := .slice _ _) rfl)) <|
    ils_cons rfl (iop_move rfl rfl (by decide) (sv (d := .int _ 0) rfl)) <|
    ils_end ?_)
  refine iwp_block ?_
  refine iwp_loopP (α := Nat × Nat × Int) (fun z => ⟨[(3, .float .f64 z.2.1), (7, .slice false (a0.map (eFlt .f64).d)), (8, .int .i64 (a0.length : Int)), (9, .int .i64 z.2.2)], []⟩) (fun z => gauge_Fold_L0 a0 z.1 z.2.1 z.2.2 = some r) (fun z => z.1) (fuel, x1, 0) (fun i => i) ⟨(.cons (.same rfl rfl) (.cons (.same rfl rfl) (.cons (.same rfl rfl) (.cons (.same rfl rfl) .nil)))), .nil, nd_of [] rfl (by decide), (fun i hi => by first | rfl | (show (if _ then _ else _) = _; (repeat' split) <;> omega))⟩ ?_ ?_
  · exact h
  ·
    rintro ⟨n0, v7, v8⟩ h
    cases n0 with
    | zero => exact absurd h (by unfold gauge_Fold_L0; exact nofun)
    | succ n0 =>
      unfold gauge_Fold_L0 at h
      obtain ⟨x14, hx14, h⟩ := bnd_e h
      refine iwp_reg (ils_cons rfl (iop_cmpx rfl rfl (by decide) (sv (d := .int _ _) rfl) (sv (d := .int _ _) rfl) rfl hx14) <|
        ils_end ?_)
      refine iwp_seq ?_
      refine iwp_cond (b := _) rfl (fun hc15 => ?_) (fun hc15 => ?_)
      ·
        replace h := bif_t h hc15
        refine iwp_skip ?_
        refine thenQ_n ?_
        refine iwp_seq ?_
        refine iwp_block ?_
        obtain ⟨x16, hx16, h⟩ := bno_e h
        refine iwp_reg (ils_cons rfl (iop_idxT (eFlt .f64) (cs := [.float _ _]) rfl rfl (by decide) Try.underlying35 ti24 (sv (d := .slice _ _) rfl) (sv (d := .int _ _) rfl) hx16 rfl rfl) <|
          ils_cons rfl (iop_load_fs rfl rfl (by decide) Try.underlying24 ag24 ti24 (by decide) (sv (d := .fptr [.float _ _]) rfl) (nle rfl)) <|
          ils_cons rfl (iop_assign rfl rfl (by decide) (sv (d := .float _ _) rfl)) <|
          ils_end ?_)
        obtain ⟨x17, hx17, h⟩ := bno_e h
        refine iwp_region (ils_cons rfl (iop_move rfl rfl (by decide) (sv (d := .float _ _) rfl)) <|
          ils_cons rfl (iop_move rfl rfl (by decide) (sv (d := .float _ _) rfl)) <|
          ils_cons rfl (iop_call (r := .float _ _) rfl rfl (by decide) cl16 (.cons (sv (d := .float _ _) rfl) (.cons (sv (d := .float _ _) rfl) .nil)) rfl (p_gauge_Smooth _ _ _ hx17)) <|
          ils_cons rfl (iop_assign rfl rfl (by decide) (sv (d := .float _ _) rfl)) <|
          ils_nil ?_)
        refine blockQ_n ?_
        refine thenQ_n ?_
        obtain ⟨x18, hx18, h⟩ := bnd_e h
        refine iwp_region (ils_cons rfl (iop_intx rfl rfl (by decide) (sv (d := .int _ _) rfl) (sv (d := .int _ 1) rfl) rfl hx18) <|
          ils_cons rfl (iop_move rfl rfl (by decide) (sv (d := .int _ _) rfl)) <|
          ils_nil ?_)
        refine thenQ_n ⟨(n0, x17, x18), (fun i => i), ⟨(.cons (.same rfl rfl) (.cons (.same rfl rfl) (.cons (.same rfl rfl) (.cons (.same rfl rfl) .nil)))), .nil, nd_of [] rfl (by decide), (fun i hi => by first | rfl | (show (if _ then _ else _) = _; (repeat' split) <;> omega))⟩, ?_, ?_⟩
        exact h
        exact Nat.lt_succ_self _
      ·
        replace h := bif_f h hc15
        refine iwp_exit ?_
        refine thenQ_e ?_
        refine thenQ_e ?_
        refine blockQ_e ?_
        refine thenQ_n ?_
        refine iwp_reg (ils_cons rfl (iop_move rfl rfl (by decide) (sv (d := .float _ _) rfl)) <|
          ils_cons rfl (iop_assign rfl rfl (by decide) (sv (d := .float _ _) rfl)) <|
          ils_end ?_)
        refine iwp_ret ?_
        obtain rfl := Option.some.inj h
        refine ⟨.inr rfl, (.cons (sv rfl) .nil)⟩

set_option maxRecDepth 8000 in
set_option maxHeartbeats 2000000 in
theorem p_sennitlaw27_awake  (r : Bool) (h : sennitlaw27_awake = some r) : PureAt Try.prog 20 [] (.bool r) := by
  refine pure_of_iwp (rs := [.bool r]) Try.func20 rfl Try.ntmps20 (nle rfl) rfl fun O hO => ?_
  show IWP _ _ _ _ ⟨[], []⟩ _
  unfold sennitlaw27_awake at h
  refine iwp_reg (ils_cons rfl (iop_assign rfl rfl (by decide) (sv (d := .bool false) rfl)) <|
    ils_end ?_)
  obtain ⟨x1, hx1, h⟩ := bno_e h
  obtain ⟨x2, hx2, h⟩ := bno_e h
  obtain ⟨x3, hx3, h⟩ := bno_e h
  refine iwp_reg (ils_cons rfl (iop_call (r := .float _ _) rfl rfl (by decide) cl18 (.cons (sv (d := .int _ 0) rfl) (.cons (sv (d := .int _ 0) rfl) .nil)) rfl (p_gauge_Rate _ _ _ hx1)) <|
    ils_cons rfl (iop_call (r := .float _ _) rfl rfl (by decide) cl18 (.cons (sv (d := .int _ 0) rfl) (.cons (sv (d := .int _ (-3)) rfl) .nil)) rfl (p_gauge_Rate _ _ _ hx2)) <|
    ils_cons rfl (iop_call (r := .float _ _) rfl rfl (by decide) cl18 (.cons (sv (d := .int _ 7) rfl) (.cons (sv (d := .int _ 0) rfl) .nil)) rfl (p_gauge_Rate _ _ _ hx3)) <|
    ils_cons rfl (iop_assign rfl rfl (by decide) (sv (d := .float _ _) rfl)) <|
    ils_cons rfl (iop_assign rfl rfl (by decide) (sv (d := .float _ _) rfl)) <|
    ils_cons rfl (iop_assign rfl rfl (by decide) (sv (d := .float _ _) rfl)) <|
    ils_end ?_)
  obtain ⟨x4, hx4, h⟩ := bno_e h
  obtain ⟨x5, hx5, h⟩ := bnd_e h
  obtain ⟨x6, hx6, h⟩ := bno_e h
  obtain ⟨x7, hx7, h⟩ := bnd_e h
  obtain ⟨x8, hx8, h⟩ := bnd_e h
  obtain ⟨x9, hx9, h⟩ := bno_e h
  obtain ⟨x10, hx10, h⟩ := bnd_e h
  obtain ⟨x11, hx11, h⟩ := bnd_e h
  obtain ⟨x12, hx12, h⟩ := bno_e h
  obtain ⟨x13, hx13, h⟩ := bno_e h
  obtain ⟨x14, hx14, h⟩ := bnd_e h
  obtain ⟨x15, hx15, h⟩ := bnd_e h
  obtain ⟨x16, hx16, h⟩ := bno_e h
  obtain ⟨x17, hx17, h⟩ := bno_e h
  obtain ⟨x18, hx18, h⟩ := bnd_e h
  obtain ⟨x19, hx19, h⟩ := bnd_e h
  obtain ⟨x20, hx20, h⟩ := bno_e h
  obtain ⟨x21, hx21, h⟩ := bnd_e h
  obtain ⟨x22, hx22, h⟩ := bnd_e h
  obtain ⟨x23, hx23, h⟩ := bno_e h
  obtain ⟨x24, hx24, h⟩ := bnd_e h
  obtain ⟨x25, hx25, h⟩ := bnd_e h
  obtain ⟨x26, hx26, h⟩ := bno_e h
  obtain ⟨x27, hx27, h⟩ := bno_e h
  obtain ⟨x28, hx28, h⟩ := bnd_e h
  obtain ⟨x29, hx29, h⟩ := bno_e h
  obtain ⟨x30, hx30, h⟩ := bnd_e h
  obtain ⟨x31, hx31, h⟩ := bnd_e h
  obtain ⟨x32, hx32, h⟩ := bno_e h
  obtain ⟨x33, hx33, h⟩ := bnd_e h
  obtain ⟨x34, hx34, h⟩ := bnd_e h
  obtain ⟨x35, hx35, h⟩ := bno_e h
  obtain ⟨x36, hx36, h⟩ := bnd_e h
  obtain ⟨x37, hx37, h⟩ := bnd_e h
  obtain ⟨x38, hx38, h⟩ := bno_e h
  obtain ⟨x39, hx39, h⟩ := bnd_e h
  obtain ⟨x40, hx40, h⟩ := bnd_e h
  obtain ⟨x41, hx41, h⟩ := bno_e h
  obtain ⟨x42, hx42, h⟩ := bnd_e h
  obtain ⟨x43, hx43, h⟩ := bnd_e h
  obtain ⟨x44, hx44, h⟩ := bno_e h
  obtain ⟨x45, hx45, h⟩ := bnd_e h
  obtain ⟨x46, hx46, h⟩ := bno_e h
  obtain ⟨x47, hx47, h⟩ := bnd_e h
  obtain ⟨x48, hx48, h⟩ := bno_e h
  obtain ⟨x49, hx49, h⟩ := bnd_e h
  obtain ⟨x50, hx50, h⟩ := bnd_e h
  obtain ⟨x51, hx51, h⟩ := bno_e h
  obtain ⟨x52, hx52, h⟩ := bnd_e h
  obtain ⟨x53, hx53, h⟩ := bnd_e h
  refine iwp_reg (ils_cons rfl (iop_move rfl rfl (by decide) (sv (d := .float _ _) rfl)) <|
    ils_cons rfl (iop_call (r := .int _ _) rfl rfl (by decide) cl9 (.cons (sv (d := .float _ _) rfl) .nil) rfl (p_gauge_Kind _ _ hx4)) <|
    ils_cons rfl (iop_cmpx rfl rfl (by decide) (sv (d := .int _ _) rfl) (sv (d := .int _ 0) rfl) rfl hx5) <|
    ils_cons rfl (iop_move rfl rfl (by decide) (sv (d := .bool _) rfl)) <|
    ils_guard rfl rfl (.one rfl) rfl (by decide) (fun hb => (iop_move rfl rfl (by decide) (sv (d := .float _ _) rfl))) <|
    ils_guard rfl rfl (.one rfl) rfl (by decide) (fun hb => (iop_call (r := .int _ _) rfl rfl (by decide) cl9 (.cons (svc (d := .float _ _) rfl hb) .nil) rfl (p_gauge_Kind _ _ (gd_t hx6 hb)))) <|
    ils_guard rfl rfl (.one rfl) rfl (by decide) (fun hb => (iop_cmpx rfl rfl (by decide) (svc (d := .int _ _) rfl hb) (sv (d := .int _ 3) rfl) rfl hx7)) <|
    ils_cons rfl (iop_andx rfl rfl (by decide) (sv (d := .bool _) rfl) rfl rfl hx8) <|
    ils_cons rfl (iop_move rfl rfl (by decide) (sv (d := .bool _) rfl)) <|
    ils_guard rfl rfl (.one rfl) rfl (by decide) (fun hb => (iop_move rfl rfl (by decide) (sv (d := .float _ _) rfl))) <|
    ils_guard rfl rfl (.one rfl) rfl (by decide) (fun hb => (iop_call (r := .int _ _) rfl rfl (by decide) cl9 (.cons (svc (d := .float _ _) rfl hb) .nil) rfl (p_gauge_Kind _ _ (gd_t hx9 hb)))) <|
    ils_guard rfl rfl (.one rfl) rfl (by decide) (fun hb => (iop_cmpx rfl rfl (by decide) (svc (d := .int _ _) rfl hb) (sv (d := .int _ 6) rfl) rfl hx10)) <|
    ils_cons rfl (iop_andx rfl rfl (by decide) (sv (d := .bool _) rfl) rfl rfl hx11) <|
    ils_cons rfl (iop_move rfl rfl (by decide) (sv (d := .bool _) rfl)) <|
    ils_guard rfl rfl (.one rfl) rfl (by decide) (fun hb => (iop_call (r := .float _ _) rfl rfl (by decide) cl18 (.cons (sv (d := .int _ (-7)) rfl) (.cons (sv (d := .int _ 0) rfl) .nil)) rfl (p_gauge_Rate _ _ _ (gd_t hx12 hb)))) <|
    ils_guard rfl rfl (.one rfl) rfl (by decide) (fun hb => (iop_call (r := .int _ _) rfl rfl (by decide) cl9 (.cons (svc (d := .float _ _) rfl hb) .nil) rfl (p_gauge_Kind _ _ (gd_t hx13 hb)))) <|
    ils_guard rfl rfl (.one rfl) rfl (by decide) (fun hb => (iop_cmpx rfl rfl (by decide) (svc (d := .int _ _) rfl hb) (sv (d := .int _ 1) rfl) rfl hx14)) <|
    ils_cons rfl (iop_andx rfl rfl (by decide) (sv (d := .bool _) rfl) rfl rfl hx15) <|
    ils_cons rfl (iop_move rfl rfl (by decide) (sv (d := .bool _) rfl)) <|
    ils_guard rfl rfl (.one rfl) rfl (by decide) (fun hb => (iop_call (r := .float _ _) rfl rfl (by decide) cl18 (.cons (sv (d := .int _ 1) rfl) (.cons (sv (d := .int _ 2) rfl) .nil)) rfl (p_gauge_Rate _ _ _ (gd_t hx16 hb)))) <|
    ils_guard rfl rfl (.one rfl) rfl (by decide) (fun hb => (iop_call (r := .int _ _) rfl rfl (by decide) cl9 (.cons (svc (d := .float _ _) rfl hb) .nil) rfl (p_gauge_Kind _ _ (gd_t hx17 hb)))) <|
    ils_guard rfl rfl (.one rfl) rfl (by decide) (fun hb => (iop_cmpx rfl rfl (by decide) (svc (d := .int _ _) rfl hb) (sv (d := .int _ 5) rfl) rfl hx18)) <|
    ils_cons rfl (iop_andx rfl rfl (by decide) (sv (d := .bool _) rfl) rfl rfl hx19) <|
    ils_cons rfl (iop_move rfl rfl (by decide) (sv (d := .bool _) rfl)) <|
    ils_guard rfl rfl (.one rfl) rfl (by decide) (fun hb => (iop_move rfl rfl (by decide) (sv (d := .float _ _) rfl))) <|
    ils_guard rfl rfl (.one rfl) rfl (by decide) (fun hb => (iop_move rfl rfl (by decide) (sv (d := .float _ _) rfl))) <|
    ils_guard rfl rfl (.one rfl) rfl (by decide) (fun hb => (iop_bsF (eFlt .f64) ([x1, x2, 0] : (List Nat)) rfl rfl (by decide) Try.underlying35 ti24 (.cons (svc (d := .float _ _) rfl hb) (.cons (svc (d := .float _ _) rfl hb) (.cons (sv (d := .float _ _) rfl) .nil))) rfl rfl (by decide))) <|
    ils_guard rfl rfl (.one rfl) rfl (by decide) (fun hb => (iop_call (r := .int _ _) rfl rfl (by decide) cl22 (.cons (svc (d := .slice _ _) rfl hb) .nil) rfl (p_gauge_Best _ _ (gd_t hx20 hb)))) <|
    ils_guard rfl rfl (.one rfl) rfl (by decide) (fun hb => (iop_cmpx rfl rfl (by decide) (svc (d := .int _ _) rfl hb) (sv (d := .int _ 1) rfl) rfl hx21)) <|
    ils_cons rfl (iop_andx rfl rfl (by decide) (sv (d := .bool _) rfl) rfl rfl hx22) <|
    ils_cons rfl (iop_move rfl rfl (by decide) (sv (d := .bool _) rfl)) <|
    ils_guard rfl rfl (.one rfl) rfl (by decide) (fun hb => (iop_move rfl rfl (by decide) (sv (d := .float _ _) rfl))) <|
    ils_guard rfl rfl (.one rfl) rfl (by decide) (fun hb => (iop_bsF (eFlt .f64) ([x1] : (List Nat)) rfl rfl (by decide) Try.underlying35 ti24 (.cons (svc (d := .float _ _) rfl hb) .nil) rfl rfl (by decide))) <|
    ils_guard rfl rfl (.one rfl) rfl (by decide) (fun hb => (iop_call (r := .int _ _) rfl rfl (by decide) cl22 (.cons (svc (d := .slice _ _) rfl hb) .nil) rfl (p_gauge_Best _ _ (gd_t hx23 hb)))) <|
    ils_guard rfl rfl (.one rfl) rfl (by decide) (fun hb => (iop_cmpx rfl rfl (by decide) (svc (d := .int _ _) rfl hb) (sv (d := .int _ (-1)) rfl) rfl hx24)) <|
    ils_cons rfl (iop_andx rfl rfl (by decide) (sv (d := .bool _) rfl) rfl rfl hx25) <|
    ils_cons rfl (iop_move rfl rfl (by decide) (sv (d := .bool _) rfl)) <|
    ils_guard rfl rfl (.one rfl) rfl (by decide) (fun hb => (iop_move rfl rfl (by decide) (sv (d := .float _ _) rfl))) <|
    ils_guard rfl rfl (.one rfl) rfl (by decide) (fun hb => (iop_move rfl rfl (by decide) (sv (d := .float _ _) rfl))) <|
    ils_guard rfl rfl (.one rfl) rfl (by decide) (fun hb => (iop_bsF (eFlt .f64) ([4607182418800017408, x1, x3, 4607182418800017408] : (List Nat)) rfl rfl (by decide) Try.underlying35 ti24 (.cons (sv (d := .float _ _) rfl) (.cons (svc (d := .float _ _) rfl hb) (.cons (svc (d := .float _ _) rfl hb) (.cons (sv (d := .float _ _) rfl) .nil)))) rfl rfl (by decide))) <|
    ils_guard rfl rfl (.one rfl) rfl (by decide) (fun hb => (iop_call (r := .slice _ _) rfl rfl (by decide) cl25 (.cons (svc (d := .slice _ _) rfl hb) .nil) rfl (p_gauge_Order _ _ (gd_t hx26 hb)))) <|
    ils_guard rfl rfl (.one rfl) rfl (by decide) (fun hb => (iop_bsF (eInt .i64) ([2, 0, 3, 1] : (List Int)) rfl rfl (by decide) Try.underlying39 ti3 (.cons (sv (d := .int _ 2) rfl) (.cons (sv (d := .int _ 0) rfl) (.cons (sv (d := .int _ 3) rfl) (.cons (sv (d := .int _ 1) rfl) .nil)))) rfl rfl (by decide))) <|
    ils_guard rfl rfl (.one rfl) rfl (by decide) (fun hb => (iop_call (r := .bool _) rfl rfl (by decide) cl24 (.cons (svc (d := .slice _ _) rfl hb) (.cons (svc (d := .slice _ _) rfl hb) .nil)) rfl (p_sennitref02_SameInts _ _ _ (gd_t hx27 hb)))) <|
    ils_cons rfl (iop_andx rfl rfl (by decide) (sv (d := .bool _) rfl) rfl rfl hx28) <|
    ils_cons rfl (iop_move rfl rfl (by decide) (sv (d := .bool _) rfl)) <|
    ils_guard rfl rfl (.one rfl) rfl (by decide) (fun hb => (iop_call (r := .float _ _) rfl rfl (by decide) cl16 (.cons (sv (d := .float _ _) rfl) (.cons (sv (d := .float _ _) rfl) .nil)) rfl (p_gauge_Smooth _ _ _ (gd_t hx29 hb)))) <|
    ils_guard rfl rfl (.one rfl) rfl (by decide) (fun hb => (iop_fcmpx rfl rfl (by decide) (svc (d := .float _ _) rfl hb) (sv (d := .float _ _) rfl) rfl hx30)) <|
    ils_cons rfl (iop_andx rfl rfl (by decide) (sv (d := .bool _) rfl) rfl rfl hx31) <|
    ils_cons rfl (iop_move rfl rfl (by decide) (sv (d := .bool _) rfl)) <|
    ils_guard rfl rfl (.one rfl) rfl (by decide) (fun hb => (iop_move rfl rfl (by decide) (sv (d := .float _ _) rfl))) <|
    ils_guard rfl rfl (.one rfl) rfl (by decide) (fun hb => (iop_move rfl rfl (by decide) (sv (d := .float _ _) rfl))) <|
    ils_guard rfl rfl (.one rfl) rfl (by decide) (fun hb => (iop_bsF (eFlt .f64) ([x1, 4620693217682128896, x1, 0] : (List Nat)) rfl rfl (by decide) Try.underlying35 ti24 (.cons (svc (d := .float _ _) rfl hb) (.cons (sv (d := .float _ _) rfl) (.cons (svc (d := .float _ _) rfl hb) (.cons (sv (d := .float _ _) rfl) .nil)))) rfl rfl (by decide))) <|
    ils_guard rfl rfl (.one rfl) rfl (by decide) (fun hb => (iop_call (r := .float _ _) rfl rfl (by decide) cl27 (.cons (svc (d := .slice _ _) rfl hb) .nil) rfl (p_gauge_Fold _ _ (gd_t hx32 hb)))) <|
    ils_guard rfl rfl (.one rfl) rfl (by decide) (fun hb => (iop_fcmpx rfl rfl (by decide) (svc (d := .float _ _) rfl hb) (sv (d := .float _ _) rfl) rfl hx33)) <|
    ils_cons rfl (iop_andx rfl rfl (by decide) (sv (d := .bool _) rfl) rfl rfl hx34) <|
    ils_cons rfl (iop_move rfl rfl (by decide) (sv (d := .bool _) rfl)) <|
    ils_guard rfl rfl (.one rfl) rfl (by decide) (fun hb => (iop_move rfl rfl (by decide) (sv (d := .float _ _) rfl))) <|
    ils_guard rfl rfl (.one rfl) rfl (by decide) (fun hb => (iop_call (r := .int _ _) rfl rfl (by decide) cl14 (.cons (svc (d := .float _ _) rfl hb) (.cons (sv (d := .float _ _) rfl) .nil)) rfl (p_gauge_Compare _ _ _ (gd_t hx35 hb)))) <|
    ils_guard rfl rfl (.one rfl) rfl (by decide) (fun hb => (iop_cmpx rfl rfl (by decide) (svc (d := .int _ _) rfl hb) (sv (d := .int _ 0) rfl) rfl hx36)) <|
    ils_cons rfl (iop_andx rfl rfl (by decide) (sv (d := .bool _) rfl) rfl rfl hx37) <|
    ils_cons rfl (iop_move rfl rfl (by decide) (sv (d := .bool _) rfl)) <|
    ils_guard rfl rfl (.one rfl) rfl (by decide) (fun hb => (iop_move rfl rfl (by decide) (sv (d := .float _ _) rfl))) <|
    ils_guard rfl rfl (.one rfl) rfl (by decide) (fun hb => (iop_call (r := .int _ _) rfl rfl (by decide) cl14 (.cons (svc (d := .float _ _) rfl hb) (.cons (sv (d := .float _ _) rfl) .nil)) rfl (p_gauge_Compare _ _ _ (gd_t hx38 hb)))) <|
    ils_guard rfl rfl (.one rfl) rfl (by decide) (fun hb => (iop_cmpx rfl rfl (by decide) (svc (d := .int _ _) rfl hb) (sv (d := .int _ (-1)) rfl) rfl hx39)) <|
    ils_cons rfl (iop_andx rfl rfl (by decide) (sv (d := .bool _) rfl) rfl rfl hx40) <|
    ils_cons rfl (iop_move rfl rfl (by decide) (sv (d := .bool _) rfl)) <|
    ils_guard rfl rfl (.one rfl) rfl (by decide) (fun hb => (iop_move rfl rfl (by decide) (sv (d := .float _ _) rfl))) <|
    ils_guard rfl rfl (.one rfl) rfl (by decide) (fun hb => (iop_move rfl rfl (by decide) (sv (d := .float _ _) rfl))) <|
    ils_guard rfl rfl (.one rfl) rfl (by decide) (fun hb => (iop_call (r := .int _ _) rfl rfl (by decide) cl14 (.cons (svc (d := .float _ _) rfl hb) (.cons (svc (d := .float _ _) rfl hb) .nil)) rfl (p_gauge_Compare _ _ _ (gd_t hx41 hb)))) <|
    ils_guard rfl rfl (.one rfl) rfl (by decide) (fun hb => (iop_cmpx rfl rfl (by decide) (svc (d := .int _ _) rfl hb) (sv (d := .int _ 0) rfl) rfl hx42)) <|
    ils_cons rfl (iop_andx rfl rfl (by decide) (sv (d := .bool _) rfl) rfl rfl hx43) <|
    ils_cons rfl (iop_move rfl rfl (by decide) (sv (d := .bool _) rfl)) <|
    ils_guard rfl rfl (.one rfl) rfl (by decide) (fun hb => (iop_move rfl rfl (by decide) (sv (d := .float _ _) rfl))) <|
    ils_guard rfl rfl (.one rfl) rfl (by decide) (fun hb => (iop_move rfl rfl (by decide) (sv (d := .float _ _) rfl))) <|
    ils_guard rfl rfl (.one rfl) rfl (by decide) (fun hb => (iop_call (r := .bool _) rfl rfl (by decide) cl13 (.cons (svc (d := .float _ _) rfl hb) (.cons (svc (d := .float _ _) rfl hb) .nil)) rfl (p_gauge_Same _ _ _ (gd_t hx44 hb)))) <|
    ils_cons rfl (iop_andx rfl rfl (by decide) (sv (d := .bool _) rfl) rfl rfl hx45) <|
    ils_cons rfl (iop_move rfl rfl (by decide) (sv (d := .bool _) rfl)) <|
    ils_guard rfl rfl (.one rfl) rfl (by decide) (fun hb => (iop_move rfl rfl (by decide) (sv (d := .float _ _) rfl))) <|
    ils_guard rfl rfl (.one rfl) rfl (by decide) (fun hb => (iop_call (r := .bool _) rfl rfl (by decide) cl13 (.cons (svc (d := .float _ _) rfl hb) (.cons (sv (d := .float _ _) rfl) .nil)) rfl (p_gauge_Same _ _ _ (gd_t hx46 hb)))) <|
    ils_guard rfl rfl (.one rfl) rfl (by decide) (fun hb => (iop_not rfl rfl (by decide) (svc (d := .bool _) rfl hb))) <|
    ils_cons rfl (iop_andx rfl rfl (by decide) (sv (d := .bool _) rfl) rfl rfl hx47) <|
    ils_cons rfl (iop_move rfl rfl (by decide) (sv (d := .bool _) rfl)) <|
    ils_guard rfl rfl (.one rfl) rfl (by decide) (fun hb => (iop_move rfl rfl (by decide) (sv (d := .float _ _) rfl))) <|
    ils_guard rfl rfl (.one rfl) rfl (by decide) (fun hb => (iop_call (r := .int _ _) rfl rfl (by decide) cl11 (.cons (svc (d := .float _ _) rfl hb) .nil) rfl (p_gauge_Bits _ _ (gd_t hx48 hb)))) <|
    ils_guard rfl rfl (.one rfl) rfl (by decide) (fun hb => (iop_cmpx rfl rfl (by decide) (svc (d := .int _ _) rfl hb) (sv (d := .int _ 9221120237041090561) rfl) rfl hx49)) <|
    ils_cons rfl (iop_andx rfl rfl (by decide) (sv (d := .bool _) rfl) rfl rfl hx50) <|
    ils_cons rfl (iop_move rfl rfl (by decide) (sv (d := .bool _) rfl)) <|
    ils_guard rfl rfl (.one rfl) rfl (by decide) (fun hb => (iop_call (r := .int _ _) rfl rfl (by decide) cl11 (.cons (sv (d := .float _ _) rfl) .nil) rfl (p_gauge_Bits _ _ (gd_t hx51 hb)))) <|
    ils_guard rfl rfl (.one rfl) rfl (by decide) (fun hb => (iop_cmpx rfl rfl (by decide) (svc (d := .int _ _) rfl hb) (sv (d := .int _ 4607182418800017408) rfl) rfl hx52)) <|
    ils_cons rfl (iop_andx rfl rfl (by decide) (sv (d := .bool _) rfl) rfl rfl hx53) <|
    ils_cons rfl (iop_assign rfl rfl (by decide) (sv (d := .bool _) rfl)) <|
    ils_end ?_)
  refine iwp_ret ?_
  obtain rfl := Option.some.inj h
  refine ⟨.inr rfl, (.cons (sv rfl) .nil)⟩

set_option maxRecDepth 8000 in
set_option maxHeartbeats 2000000 in
theorem p_sennitlaw27_GaugeTells (a0 : Int) (a1 : Int) (a2 : T_anon23) (r : Bool) (h : sennitlaw27_GaugeTells a0 a1 a2 = some r) : PureAt Try.prog 3 [.int .u64 a0, .int .u64 a1, .agg [.int .i64 a2.c0, .int .i64 a2.c1]] (.bool r) := by
  refine pure_of_iwp (rs := [.bool r]) Try.func3 rfl Try.ntmps3 (nle rfl) rfl fun O hO => ?_
  show IWP _ _ _ _ ⟨[(0, .int .u64 a0), (1, .int .u64 a1), (2, .agg [.int .i64 a2.c0, .int .i64 a2.c1])], []⟩ _
  unfold sennitlaw27_GaugeTells at h
  refine iwp_reg (ils_cons rfl (iop_box' (cs := [.int _ _, .int _ _]) 0 rfl rfl (by decide) rfl (sv (d := .agg [.int _ _, .int _ _]) rfl) rfl rfl) <|
    ils_cons rfl (iop_assign rfl rfl (by decide) (sv (d := .bool false) rfl)) <|
    ils_end ?_)
  obtain ⟨x1, hx1, h⟩ := bno_e h
  obtain ⟨x2, hx2, h⟩ := bno_e h
  refine iwp_reg (ils_cons rfl (iop_move rfl rfl (by decide) (sv (d := .int _ _) rfl)) <|
    ils_cons rfl (iop_call (r := .float _ _) rfl rfl (by decide) cl8 (.cons (sv (d := .int _ _) rfl) .nil) rfl (p_sennitref27_Of _ _ hx1)) <|
    ils_cons rfl (iop_move rfl rfl (by decide) (sv (d := .int _ _) rfl)) <|
    ils_cons rfl (iop_call (r := .float _ _) rfl rfl (by decide) cl8 (.cons (sv (d := .int _ _) rfl) .nil) rfl (p_sennitref27_Of _ _ hx2)) <|
    ils_cons rfl (iop_assign rfl rfl (by decide) (sv (d := .float _ _) rfl)) <|
    ils_cons rfl (iop_assign rfl rfl (by decide) (sv (d := .float _ _) rfl)) <|
    ils_end ?_)
  obtain ⟨x3, hx3, h⟩ := bno_e h
  obtain ⟨x4, hx4, h⟩ := bno_e h
  obtain ⟨x5, hx5, h⟩ := bnd_e h
  obtain ⟨x6, hx6, h⟩ := bno_e h
  obtain ⟨x7, hx7, h⟩ := bno_e h
  obtain ⟨x8, hx8, h⟩ := bnd_e h
  obtain ⟨x9, hx9, h⟩ := bnd_e h
  obtain ⟨x10, hx10, h⟩ := bno_e h
  obtain ⟨x11, hx11, h⟩ := bno_e h
  obtain ⟨x12, hx12, h⟩ := bno_e h
  obtain ⟨x13, hx13, h⟩ := bnd_e h
  obtain ⟨x14, hx14, h⟩ := bnd_e h
  obtain ⟨x15, hx15, h⟩ := bnd_e h
  obtain ⟨x16, hx16, h⟩ := bno_e h
  obtain ⟨x17, hx17, h⟩ := bno_e h
  obtain ⟨x18, hx18, h⟩ := bnd_e h
  obtain ⟨x19, hx19, h⟩ := bnd_e h
  obtain ⟨x20, hx20, h⟩ := bno_e h
  obtain ⟨x21, hx21, h⟩ := bno_e h
  obtain ⟨x22, hx22, h⟩ := bno_e h
  obtain ⟨x23, hx23, h⟩ := bno_e h
  obtain ⟨x24, hx24, h⟩ := bnd_e h
  obtain ⟨x25, hx25, h⟩ := bnd_e h
  obtain ⟨x26, hx26, h⟩ := bno_e h
  obtain ⟨x27, hx27, h⟩ := bno_e h
  obtain ⟨x28, hx28, h⟩ := bno_e h
  obtain ⟨x29, hx29, h⟩ := bno_e h
  obtain ⟨x30, hx30, h⟩ := bnd_e h
  obtain ⟨x31, hx31, h⟩ := bnd_e h
  obtain ⟨x32, hx32, h⟩ := bno_e h
  obtain ⟨x33, hx33, h⟩ := bnd_e h
  refine iwp_drw rfl [⟨[7], [], [(13, .float .f64 x1)], []⟩,
    ⟨[13], [], [(14, .int .i64 x3)], []⟩,
    ⟨[7], [], [(15, .float .f64 x1)], []⟩,
    ⟨[15], [], [(16, .int .i64 x4)], []⟩,
    ⟨[14, 16], [], [(17, .bool x5)], []⟩,
    ⟨[17], [], [(18, .bool x5)], []⟩,
    ⟨[7, 18], [], [(19, .cnd (x5 == true) (.float .f64 x1))], []⟩,
    ⟨[18, 19], [], [(20, .cnd (x5 == true) (.int .u64 x6))], []⟩,
    ⟨[7, 18], [], [(21, .cnd (x5 == true) (.float .f64 x1))], []⟩,
    ⟨[18, 21], [], [(22, .cnd (x5 == true) (.int .u64 x7))], []⟩,
    ⟨[18, 20, 22], [], [(23, .cnd (x5 == true) (.bool x8))], []⟩,
    ⟨[18, 23], [], [(24, .bool x9)], []⟩,
    ⟨[24], [], [(25, .bool x9)], []⟩,
    ⟨[7, 25], [], [(26, .cnd (x9 == true) (.float .f64 x1))], []⟩,
    ⟨[8, 25], [], [(27, .cnd (x9 == true) (.float .f64 x2))], []⟩,
    ⟨[25, 26, 27], [], [(28, .cnd (x9 == true) (.bool x10))], []⟩,
    ⟨[7, 25], [], [(29, .cnd (x9 == true) (.float .f64 x1))], []⟩,
    ⟨[25, 29], [], [(30, .cnd (x9 == true) (.int .u64 x11))], []⟩,
    ⟨[8, 25], [], [(31, .cnd (x9 == true) (.float .f64 x2))], []⟩,
    ⟨[25, 31], [], [(32, .cnd (x9 == true) (.int .u64 x12))], []⟩,
    ⟨[25, 30, 32], [], [(33, .cnd (x9 == true) (.bool x13))], []⟩,
    ⟨[25, 28, 33], [], [(34, .cnd (x9 == true) (.bool x14))], []⟩,
    ⟨[25, 34], [], [(35, .bool x15)], []⟩,
    ⟨[35], [], [(36, .bool x15)], []⟩,
    ⟨[7, 36], [], [(37, .cnd (x15 == true) (.float .f64 x1))], []⟩,
    ⟨[8, 36], [], [(38, .cnd (x15 == true) (.float .f64 x2))], []⟩,
    ⟨[36, 37, 38], [], [(39, .cnd (x15 == true) (.int .i64 x16))], []⟩,
    ⟨[7, 36], [], [(40, .cnd (x15 == true) (.float .f64 x1))], []⟩,
    ⟨[8, 36], [], [(41, .cnd (x15 == true) (.float .f64 x2))], []⟩,
    ⟨[36, 40, 41], [], [(42, .cnd (x15 == true) (.int .i64 x17))], []⟩,
    ⟨[36, 39, 42], [], [(43, .cnd (x15 == true) (.bool x18))], []⟩,
    ⟨[36, 43], [], [(44, .bool x19)], []⟩,
    ⟨[44], [], [(45, .bool x19)], []⟩,
    ⟨[7, 45], [], [(46, .cnd (x19 == true) (.float .f64 x1))], []⟩,
    ⟨[8, 45], [], [(47, .cnd (x19 == true) (.float .f64 x2))], []⟩,
    ⟨[45, 46, 47], [], [(48, .cnd (x19 == true) (.float .f64 x20))], []⟩,
    ⟨[45, 48], [], [(49, .cnd (x19 == true) (.int .u64 x21))], []⟩,
    ⟨[7, 45], [], [(50, .cnd (x19 == true) (.float .f64 x1))], []⟩,
    ⟨[8, 45], [], [(51, .cnd (x19 == true) (.float .f64 x2))], []⟩,
    ⟨[45, 50, 51], [], [(52, .cnd (x19 == true) (.float .f64 x22))], []⟩,
    ⟨[45, 52], [], [(53, .cnd (x19 == true) (.int .u64 x23))], []⟩,
    ⟨[45, 49, 53], [], [(54, .cnd (x19 == true) (.bool x24))], []⟩,
    ⟨[45, 54], [], [(55, .bool x25)], []⟩,
    ⟨[55], [], [(56, .bool x25)], []⟩,
    ⟨[5, 56], [], [(57, .cnd (x25 == true) (.ref 0 0))], []⟩,
    ⟨[56, 57], [0], [(58, .cnd (x25 == true) (.int .i64 a2.c0))], []⟩,
    ⟨[5, 56], [], [(59, .cnd (x25 == true) (.ref 0 1))], []⟩,
    ⟨[56, 59], [0], [(60, .cnd (x25 == true) (.int .i64 a2.c1))], []⟩,
    ⟨[56, 58, 60], [], [(61, .cnd (x25 == true) (.float .f64 x26))], []⟩,
    ⟨[56, 61], [], [(62, .cnd (x25 == true) (.int .u64 x27))], []⟩,
    ⟨[5, 56], [], [(63, .cnd (x25 == true) (.ref 0 0))], []⟩,
    ⟨[56, 63], [0], [(64, .cnd (x25 == true) (.int .i64 a2.c0))], []⟩,
    ⟨[5, 56], [], [(65, .cnd (x25 == true) (.ref 0 1))], []⟩,
    ⟨[56, 65], [0], [(66, .cnd (x25 == true) (.int .i64 a2.c1))], []⟩,
    ⟨[56, 64, 66], [], [(67, .cnd (x25 == true) (.float .f64 x28))], []⟩,
    ⟨[56, 67], [], [(68, .cnd (x25 == true) (.int .u64 x29))], []⟩,
    ⟨[56, 62, 68], [], [(69, .cnd (x25 == true) (.bool x30))], []⟩,
    ⟨[56, 69], [], [(70, .bool x31)], []⟩,
    ⟨[70], [], [(71, .bool x31)], []⟩,
    ⟨[71], [], [(72, .cnd (x31 == true) (.bool x32))], []⟩,
    ⟨[71, 72], [], [(73, .bool x33)], []⟩,
    ⟨[73], [], [(6, .bool x33)], []⟩] rfl ?_ (by kernel_rfl) ?_
  · refine .cons (lop rfl rfl fun S hA => (iop_move rfl rfl (by decide) (sv (d := .float _ _) (agr hA rfl rfl)))) ?_
    refine .cons (lop rfl rfl fun S hA => (iop_call (r := .int _ _) rfl rfl (by decide) cl9 (.cons (sv (d := .float _ _) (agr hA rfl rfl)) .nil) rfl (p_gauge_Kind _ _ hx3))) ?_
    refine .cons (lop rfl rfl fun S hA => (iop_move rfl rfl (by decide) (sv (d := .float _ _) (agr hA rfl rfl)))) ?_
    refine .cons (lop rfl rfl fun S hA => (iop_call (r := .int _ _) rfl rfl (by decide) cl10 (.cons (sv (d := .float _ _) (agr hA rfl rfl)) .nil) rfl (p_sennitref27_Kind _ _ hx4))) ?_
    refine .cons (lop rfl rfl fun S hA => (iop_cmpx rfl rfl (by decide) (sv (d := .int _ _) (agr hA rfl rfl)) (sv (d := .int _ _) (agr hA rfl rfl)) rfl hx5)) ?_
    refine .cons (lop rfl rfl fun S hA => (iop_move rfl rfl (by decide) (sv (d := .bool _) (agr hA rfl rfl)))) ?_
    refine .cons (lopg rfl rfl rfl rfl (by decide) (fun S hA => grd1 hA rfl rfl) (fun S hA hb => (iop_move rfl rfl (by decide) (sv (d := .float _ _) (agr hA rfl rfl))))) ?_
    refine .cons (lopg rfl rfl rfl rfl (by decide) (fun S hA => grd1 hA rfl rfl) (fun S hA hb => (iop_call (r := .int _ _) rfl rfl (by decide) cl11 (.cons (svc (d := .float _ _) (agr hA rfl rfl) hb) .nil) rfl (p_gauge_Bits _ _ (gd_t hx6 hb))))) ?_
    refine .cons (lopg rfl rfl rfl rfl (by decide) (fun S hA => grd1 hA rfl rfl) (fun S hA hb => (iop_move rfl rfl (by decide) (sv (d := .float _ _) (agr hA rfl rfl))))) ?_
    refine .cons (lopg rfl rfl rfl rfl (by decide) (fun S hA => grd1 hA rfl rfl) (fun S hA hb => (iop_call (r := .int _ _) rfl rfl (by decide) cl12 (.cons (svc (d := .float _ _) (agr hA rfl rfl) hb) .nil) rfl (p_sennitref27_Bits _ _ (gd_t hx7 hb))))) ?_
    refine .cons (lopg rfl rfl rfl rfl (by decide) (fun S hA => grd1 hA rfl rfl) (fun S hA hb => (iop_cmpx rfl rfl (by decide) (svc (d := .int _ _) (agr hA rfl rfl) hb) (svc (d := .int _ _) (agr hA rfl rfl) hb) rfl hx8))) ?_
    refine .cons (lop rfl rfl fun S hA => (iop_andx rfl rfl (by decide) (sv (d := .bool _) (agr hA rfl rfl)) (agr hA rfl rfl) rfl hx9)) ?_
    refine .cons (lop rfl rfl fun S hA => (iop_move rfl rfl (by decide) (sv (d := .bool _) (agr hA rfl rfl)))) ?_
    refine .cons (lopg rfl rfl rfl rfl (by decide) (fun S hA => grd1 hA rfl rfl) (fun S hA hb => (iop_move rfl rfl (by decide) (sv (d := .float _ _) (agr hA rfl rfl))))) ?_
    refine .cons (lopg rfl rfl rfl rfl (by decide) (fun S hA => grd1 hA rfl rfl) (fun S hA hb => (iop_move rfl rfl (by decide) (sv (d := .float _ _) (agr hA rfl rfl))))) ?_
    refine .cons (lopg rfl rfl rfl rfl (by decide) (fun S hA => grd1 hA rfl rfl) (fun S hA hb => (iop_call (r := .bool _) rfl rfl (by decide) cl13 (.cons (svc (d := .float _ _) (agr hA rfl rfl) hb) (.cons (svc (d := .float _ _) (agr hA rfl rfl) hb) .nil)) rfl (p_gauge_Same _ _ _ (gd_t hx10 hb))))) ?_
    refine .cons (lopg rfl rfl rfl rfl (by decide) (fun S hA => grd1 hA rfl rfl) (fun S hA hb => (iop_move rfl rfl (by decide) (sv (d := .float _ _) (agr hA rfl rfl))))) ?_
    refine .cons (lopg rfl rfl rfl rfl (by decide) (fun S hA => grd1 hA rfl rfl) (fun S hA hb => (iop_call (r := .int _ _) rfl rfl (by decide) cl12 (.cons (svc (d := .float _ _) (agr hA rfl rfl) hb) .nil) rfl (p_sennitref27_Bits _ _ (gd_t hx11 hb))))) ?_
    refine .cons (lopg rfl rfl rfl rfl (by decide) (fun S hA => grd1 hA rfl rfl) (fun S hA hb => (iop_move rfl rfl (by decide) (sv (d := .float _ _) (agr hA rfl rfl))))) ?_
    refine .cons (lopg rfl rfl rfl rfl (by decide) (fun S hA => grd1 hA rfl rfl) (fun S hA hb => (iop_call (r := .int _ _) rfl rfl (by decide) cl12 (.cons (svc (d := .float _ _) (agr hA rfl rfl) hb) .nil) rfl (p_sennitref27_Bits _ _ (gd_t hx12 hb))))) ?_
    refine .cons (lopg rfl rfl rfl rfl (by decide) (fun S hA => grd1 hA rfl rfl) (fun S hA hb => (iop_cmpx rfl rfl (by decide) (svc (d := .int _ _) (agr hA rfl rfl) hb) (svc (d := .int _ _) (agr hA rfl rfl) hb) rfl hx13))) ?_
    refine .cons (lopg rfl rfl rfl rfl (by decide) (fun S hA => grd1 hA rfl rfl) (fun S hA hb => (iop_eqbx rfl rfl (by decide) Try.underlying4 (svc (d := .bool _) (agr hA rfl rfl) hb) (svc (d := .bool _) (agr hA rfl rfl) hb) hx14))) ?_
    refine .cons (lop rfl rfl fun S hA => (iop_andx rfl rfl (by decide) (sv (d := .bool _) (agr hA rfl rfl)) (agr hA rfl rfl) rfl hx15)) ?_
    refine .cons (lop rfl rfl fun S hA => (iop_move rfl rfl (by decide) (sv (d := .bool _) (agr hA rfl rfl)))) ?_
    refine .cons (lopg rfl rfl rfl rfl (by decide) (fun S hA => grd1 hA rfl rfl) (fun S hA hb => (iop_move rfl rfl (by decide) (sv (d := .float _ _) (agr hA rfl rfl))))) ?_
    refine .cons (lopg rfl rfl rfl rfl (by decide) (fun S hA => grd1 hA rfl rfl) (fun S hA hb => (iop_move rfl rfl (by decide) (sv (d := .float _ _) (agr hA rfl rfl))))) ?_
    refine .cons (lopg rfl rfl rfl rfl (by decide) (fun S hA => grd1 hA rfl rfl) (fun S hA hb => (iop_call (r := .int _ _) rfl rfl (by decide) cl14 (.cons (svc (d := .float _ _) (agr hA rfl rfl) hb) (.cons (svc (d := .float _ _) (agr hA rfl rfl) hb) .nil)) rfl (p_gauge_Compare _ _ _ (gd_t hx16 hb))))) ?_
    refine .cons (lopg rfl rfl rfl rfl (by decide) (fun S hA => grd1 hA rfl rfl) (fun S hA hb => (iop_move rfl rfl (by decide) (sv (d := .float _ _) (agr hA rfl rfl))))) ?_
    refine .cons (lopg rfl rfl rfl rfl (by decide) (fun S hA => grd1 hA rfl rfl) (fun S hA hb => (iop_move rfl rfl (by decide) (sv (d := .float _ _) (agr hA rfl rfl))))) ?_
    refine .cons (lopg rfl rfl rfl rfl (by decide) (fun S hA => grd1 hA rfl rfl) (fun S hA hb => (iop_call (r := .int _ _) rfl rfl (by decide) cl15 (.cons (svc (d := .float _ _) (agr hA rfl rfl) hb) (.cons (svc (d := .float _ _) (agr hA rfl rfl) hb) .nil)) rfl (p_sennitref27_Compare _ _ _ (gd_t hx17 hb))))) ?_
    refine .cons (lopg rfl rfl rfl rfl (by decide) (fun S hA => grd1 hA rfl rfl) (fun S hA hb => (iop_cmpx rfl rfl (by decide) (svc (d := .int _ _) (agr hA rfl rfl) hb) (svc (d := .int _ _) (agr hA rfl rfl) hb) rfl hx18))) ?_
    refine .cons (lop rfl rfl fun S hA => (iop_andx rfl rfl (by decide) (sv (d := .bool _) (agr hA rfl rfl)) (agr hA rfl rfl) rfl hx19)) ?_
    refine .cons (lop rfl rfl fun S hA => (iop_move rfl rfl (by decide) (sv (d := .bool _) (agr hA rfl rfl)))) ?_
    refine .cons (lopg rfl rfl rfl rfl (by decide) (fun S hA => grd1 hA rfl rfl) (fun S hA hb => (iop_move rfl rfl (by decide) (sv (d := .float _ _) (agr hA rfl rfl))))) ?_
    refine .cons (lopg rfl rfl rfl rfl (by decide) (fun S hA => grd1 hA rfl rfl) (fun S hA hb => (iop_move rfl rfl (by decide) (sv (d := .float _ _) (agr hA rfl rfl))))) ?_
    refine .cons (lopg rfl rfl rfl rfl (by decide) (fun S hA => grd1 hA rfl rfl) (fun S hA hb => (iop_call (r := .float _ _) rfl rfl (by decide) cl16 (.cons (svc (d := .float _ _) (agr hA rfl rfl) hb) (.cons (svc (d := .float _ _) (agr hA rfl rfl) hb) .nil)) rfl (p_gauge_Smooth _ _ _ (gd_t hx20 hb))))) ?_
    refine .cons (lopg rfl rfl rfl rfl (by decide) (fun S hA => grd1 hA rfl rfl) (fun S hA hb => (iop_call (r := .int _ _) rfl rfl (by decide) cl12 (.cons (svc (d := .float _ _) (agr hA rfl rfl) hb) .nil) rfl (p_sennitref27_Bits _ _ (gd_t hx21 hb))))) ?_
    refine .cons (lopg rfl rfl rfl rfl (by decide) (fun S hA => grd1 hA rfl rfl) (fun S hA hb => (iop_move rfl rfl (by decide) (sv (d := .float _ _) (agr hA rfl rfl))))) ?_
    refine .cons (lopg rfl rfl rfl rfl (by decide) (fun S hA => grd1 hA rfl rfl) (fun S hA hb => (iop_move rfl rfl (by decide) (sv (d := .float _ _) (agr hA rfl rfl))))) ?_
    refine .cons (lopg rfl rfl rfl rfl (by decide) (fun S hA => grd1 hA rfl rfl) (fun S hA hb => (iop_call (r := .float _ _) rfl rfl (by decide) cl17 (.cons (svc (d := .float _ _) (agr hA rfl rfl) hb) (.cons (svc (d := .float _ _) (agr hA rfl rfl) hb) .nil)) rfl (p_sennitref27_Smooth _ _ _ (gd_t hx22 hb))))) ?_
    refine .cons (lopg rfl rfl rfl rfl (by decide) (fun S hA => grd1 hA rfl rfl) (fun S hA hb => (iop_call (r := .int _ _) rfl rfl (by decide) cl12 (.cons (svc (d := .float _ _) (agr hA rfl rfl) hb) .nil) rfl (p_sennitref27_Bits _ _ (gd_t hx23 hb))))) ?_
    refine .cons (lopg rfl rfl rfl rfl (by decide) (fun S hA => grd1 hA rfl rfl) (fun S hA hb => (iop_cmpx rfl rfl (by decide) (svc (d := .int _ _) (agr hA rfl rfl) hb) (svc (d := .int _ _) (agr hA rfl rfl) hb) rfl hx24))) ?_
    refine .cons (lop rfl rfl fun S hA => (iop_andx rfl rfl (by decide) (sv (d := .bool _) (agr hA rfl rfl)) (agr hA rfl rfl) rfl hx25)) ?_
    refine .cons (lop rfl rfl fun S hA => (iop_move rfl rfl (by decide) (sv (d := .bool _) (agr hA rfl rfl)))) ?_
    refine .cons (lopg rfl rfl rfl rfl (by decide) (fun S hA => grd1 hA rfl rfl) (fun S hA hb => (iop_index_ref rfl rfl (by decide) Try.underlying23 ti3 (sv (d := .ref _ _) (agr hA rfl rfl)) (sv (d := .int _ 0) rfl) (by decide) (by decide) (off' := 0) rfl))) ?_
    refine .cons (lopg rfl rfl rfl rfl (by decide) (fun S hA => grd1 hA rfl rfl) (fun S hA hb => (iop_load_rs (d := .int _ _) rfl rfl (by decide) Try.underlying3 ag3 ti3 (by decide) (svc (d := .ref _ _) (agr hA rfl rfl) hb) (agi hA rfl rfl) (nle rfl) rfl))) ?_
    refine .cons (lopg rfl rfl rfl rfl (by decide) (fun S hA => grd1 hA rfl rfl) (fun S hA hb => (iop_index_ref rfl rfl (by decide) Try.underlying23 ti3 (sv (d := .ref _ _) (agr hA rfl rfl)) (sv (d := .int _ 1) rfl) (by decide) (by decide) (off' := 1) rfl))) ?_
    refine .cons (lopg rfl rfl rfl rfl (by decide) (fun S hA => grd1 hA rfl rfl) (fun S hA hb => (iop_load_rs (d := .int _ _) rfl rfl (by decide) Try.underlying3 ag3 ti3 (by decide) (svc (d := .ref _ _) (agr hA rfl rfl) hb) (agi hA rfl rfl) (nle rfl) rfl))) ?_
    refine .cons (lopg rfl rfl rfl rfl (by decide) (fun S hA => grd1 hA rfl rfl) (fun S hA hb => (iop_call (r := .float _ _) rfl rfl (by decide) cl18 (.cons (svc (d := .int _ _) (agr hA rfl rfl) hb) (.cons (svc (d := .int _ _) (agr hA rfl rfl) hb) .nil)) rfl (p_gauge_Rate _ _ _ (gd_t hx26 hb))))) ?_
    refine .cons (lopg rfl rfl rfl rfl (by decide) (fun S hA => grd1 hA rfl rfl) (fun S hA hb => (iop_call (r := .int _ _) rfl rfl (by decide) cl12 (.cons (svc (d := .float _ _) (agr hA rfl rfl) hb) .nil) rfl (p_sennitref27_Bits _ _ (gd_t hx27 hb))))) ?_
    refine .cons (lopg rfl rfl rfl rfl (by decide) (fun S hA => grd1 hA rfl rfl) (fun S hA hb => (iop_index_ref rfl rfl (by decide) Try.underlying23 ti3 (sv (d := .ref _ _) (agr hA rfl rfl)) (sv (d := .int _ 0) rfl) (by decide) (by decide) (off' := 0) rfl))) ?_
    refine .cons (lopg rfl rfl rfl rfl (by decide) (fun S hA => grd1 hA rfl rfl) (fun S hA hb => (iop_load_rs (d := .int _ _) rfl rfl (by decide) Try.underlying3 ag3 ti3 (by decide) (svc (d := .ref _ _) (agr hA rfl rfl) hb) (agi hA rfl rfl) (nle rfl) rfl))) ?_
    refine .cons (lopg rfl rfl rfl rfl (by decide) (fun S hA => grd1 hA rfl rfl) (fun S hA hb => (iop_index_ref rfl rfl (by decide) Try.underlying23 ti3 (sv (d := .ref _ _) (agr hA rfl rfl)) (sv (d := .int _ 1) rfl) (by decide) (by decide) (off' := 1) rfl))) ?_
    refine .cons (lopg rfl rfl rfl rfl (by decide) (fun S hA => grd1 hA rfl rfl) (fun S hA hb => (iop_load_rs (d := .int _ _) rfl rfl (by decide) Try.underlying3 ag3 ti3 (by decide) (svc (d := .ref _ _) (agr hA rfl rfl) hb) (agi hA rfl rfl) (nle rfl) rfl))) ?_
    refine .cons (lopg rfl rfl rfl rfl (by decide) (fun S hA => grd1 hA rfl rfl) (fun S hA hb => (iop_call (r := .float _ _) rfl rfl (by decide) cl19 (.cons (svc (d := .int _ _) (agr hA rfl rfl) hb) (.cons (svc (d := .int _ _) (agr hA rfl rfl) hb) .nil)) rfl (p_sennitref27_Rate _ _ _ (gd_t hx28 hb))))) ?_
    refine .cons (lopg rfl rfl rfl rfl (by decide) (fun S hA => grd1 hA rfl rfl) (fun S hA hb => (iop_call (r := .int _ _) rfl rfl (by decide) cl12 (.cons (svc (d := .float _ _) (agr hA rfl rfl) hb) .nil) rfl (p_sennitref27_Bits _ _ (gd_t hx29 hb))))) ?_
    refine .cons (lopg rfl rfl rfl rfl (by decide) (fun S hA => grd1 hA rfl rfl) (fun S hA hb => (iop_cmpx rfl rfl (by decide) (svc (d := .int _ _) (agr hA rfl rfl) hb) (svc (d := .int _ _) (agr hA rfl rfl) hb) rfl hx30))) ?_
    refine .cons (lop rfl rfl fun S hA => (iop_andx rfl rfl (by decide) (sv (d := .bool _) (agr hA rfl rfl)) (agr hA rfl rfl) rfl hx31)) ?_
    refine .cons (lop rfl rfl fun S hA => (iop_move rfl rfl (by decide) (sv (d := .bool _) (agr hA rfl rfl)))) ?_
    refine .cons (lopg rfl rfl rfl rfl (by decide) (fun S hA => grd1 hA rfl rfl) (fun S hA hb => (iop_call (r := .bool _) rfl rfl (by decide) cl20 .nil rfl (p_sennitlaw27_awake  _ (gd_t hx32 hb))))) ?_
    refine .cons (lop rfl rfl fun S hA => (iop_andx rfl rfl (by decide) (sv (d := .bool _) (agr hA rfl rfl)) (agr hA rfl rfl) rfl hx33)) ?_
    refine .cons (lop rfl rfl fun S hA => (iop_assign rfl rfl (by decide) (sv (d := .bool _) (agr hA rfl rfl)))) ?_
    exact .nil
  refine iwp_ret ?_
  obtain rfl := Option.some.inj h
  refine ⟨.inr rfl, (.cons (sv rfl) .nil)⟩

set_option maxRecDepth 8000 in
set_option maxHeartbeats 2000000 in
theorem p_sennitlaw27_of (a0 : (List Int)) (r : (List Nat)) (h : sennitlaw27_of a0 = some r) : PureAt Try.prog 21 [.slice false (a0.map (eInt .u64).d)] (.slice false (r.map (eFlt .f64).d)) := by
  refine pure_of_iwp (rs := [.slice false (r.map (eFlt .f64).d)]) Try.func21 rfl Try.ntmps21 (nle rfl) rfl fun O hO => ?_
  show IWP _ _ _ _ ⟨[(0, .slice false (a0.map (eInt .u64).d))], []⟩ _
  unfold sennitlaw27_of at h
  refine iwp_reg (ils_cons rfl (iop_assign rfl rfl (by decide) (sv (d := .nils) rfl)) <|
    ils_end ?_)
  refine iwp_reg (ils_cons rfl (iop_assign rfl rfl (by decide) (sv (d := .nils) rfl)) <|
    ils_end ?_)
  refine iwp_seq ?_
  refine iwp_reg (ils_cons rfl (iop_assign rfl rfl (by decide) (sv (d := .int _ 0) rfl)) <|
    ils_end ?_)
  refine iwp_block ?_
  refine iwp_loopP (α := Nat × (List Nat) × Int) (fun z => ⟨[(0, .slice false (a0.map (eInt .u64).d)), (3, .gsl 21 (eFlt .f64).sz (z.2.1.map (eFlt .f64).d)), (4, .int .i64 z.2.2)], [(21, .tail 24 (eFlt .f64).sz z.2.1.length)]⟩) (fun z => sennitlaw27_of_L0 a0 z.1 z.2.1 z.2.2 = some r) (fun z => z.1) (fuel, ([] : (List Nat)), 0) (fun i => if i = 21 then 71 else i) ⟨(.cons (.same rfl rfl) (.cons (.nils rfl) (.cons (.same rfl rfl) .nil))), (.cons (.nils rfl) .nil), nd_of [71] rfl (by decide), (fun i hi => by first | rfl | (show (if _ then _ else _) = _; (repeat' split) <;> omega))⟩ ?_ ?_
  · exact h
  ·
    rintro ⟨n0, v7, v8⟩ h
    cases n0 with
    | zero => exact absurd h (by unfold sennitlaw27_of_L0; exact nofun)
    | succ n0 =>
      unfold sennitlaw27_of_L0 at h
      refine iwp_seq ?_
      obtain ⟨x15, hx15, h⟩ := bnd_e h
      refine iwp_reg (ils_cons rfl (iop_move rfl rfl (by decide) (sv (d := .int _ _) rfl)) <|
        ils_cons rfl (iop_move rfl rfl (by decide) (sv (d := .slice _ _) rfl)) <|
        ils_cons rfl (iop_lenT (eInt .u64) (l := a0) rfl rfl (by decide) Try.underlying34 (sv (d := .slice _ _) rfl)) <|
        ils_cons rfl (iop_cmpx rfl rfl (by decide) (sv (d := .int _ _) rfl) (sv (d := .int _ _) rfl) rfl hx15) <|
        ils_end ?_)
      refine iwp_cond (b := _) rfl (fun hc16 => ?_) (fun hc16 => ?_)
      ·
        replace h := bif_t h hc16
        refine iwp_skip ?_
        refine thenQ_n ?_
        refine iwp_seq ?_
        refine iwp_block ?_
        obtain ⟨x17, hx17, h⟩ := bno_e h
        obtain ⟨x18, hx18, h⟩ := bno_e h
        obtain ⟨x19, hx19, h⟩ := bno_e h
        refine iwp_region (ils_cons rfl (iop_move rfl rfl (by decide) (sv (d := .gsl _ _ _) rfl)) <|
          ils_cons rfl (iop_move rfl rfl (by decide) (sv (d := .slice _ _) rfl)) <|
          ils_cons rfl (iop_move rfl rfl (by decide) (sv (d := .int _ _) rfl)) <|
          ils_cons rfl (iop_idxT (eInt .u64) (cs := [.int _ _]) rfl rfl (by decide) Try.underlying34 ti22 (sv (d := .slice _ _) rfl) (sv (d := .int _ _) rfl) hx17 rfl rfl) <|
          ils_cons rfl (iop_load_fs rfl rfl (by decide) Try.underlying22 ag22 ti22 (by decide) (sv (d := .fptr [.int _ _]) rfl) (nle rfl)) <|
          ils_cons rfl (iop_call (r := .float _ _) rfl rfl (by decide) cl8 (.cons (sv (d := .int _ _) rfl) .nil) rfl (p_sennitref27_Of _ _ hx18)) <|
          ils_cons rfl (iop_bsT (eFlt .f64) ([x18] : (List Nat)) 22 rfl rfl (by decide) Try.underlying35 ti24 rfl (.cons (sv (d := .float _ _) rfl) .nil) rfl rfl (by decide)) <|
          ils_cons rfl (iop_appT (eFlt .f64) 23 rfl rfl (by decide) Try.underlying35 ti24 rfl rfl rfl rfl (svg rfl) hx19) <|
          ils_cons rfl (iop_assign rfl rfl (by decide) (sv (d := .gsl _ _ _) rfl)) <|
          ils_nil ?_)
        refine blockQ_n ?_
        refine thenQ_n ?_
        obtain ⟨x20, hx20, h⟩ := bnd_e h
        refine iwp_region (ils_cons rfl (iop_move rfl rfl (by decide) (sv (d := .int _ _) rfl)) <|
          ils_cons rfl (iop_intx rfl rfl (by decide) (sv (d := .int _ _) rfl) (sv (d := .int _ 1) rfl) rfl hx20) <|
          ils_cons rfl (iop_assign rfl rfl (by decide) (sv (d := .int _ _) rfl)) <|
          ils_nil ?_)
        refine thenQ_n ⟨(n0, x19, x20), (fun i => if i = 21 then 23 else i), ⟨(.cons (.same rfl rfl) (.cons (.same rfl rfl) (.cons (.same rfl rfl) .nil))), (.cons (.tail rfl) .nil), nd_of [23] rfl (by decide), (fun i hi => by first | rfl | (show (if _ then _ else _) = _; (repeat' split) <;> omega))⟩, ?_, ?_⟩
        exact h
        exact Nat.lt_succ_self _
      ·
        replace h := bif_f h hc16
        refine iwp_exit ?_
        refine thenQ_e ?_
        refine thenQ_e ?_
        refine blockQ_e ?_
        refine thenQ_n ?_
        refine iwp_reg (ils_cons rfl (iop_move rfl rfl (by decide) (sv (d := .gsl _ _ _) rfl)) <|
          ils_cons rfl (iop_assign rfl rfl (by decide) (sv (d := .gsl _ _ _) rfl)) <|
          ils_end ?_)
        refine iwp_ret ?_
        obtain rfl := Option.some.inj h
        refine ⟨.inr rfl, (.cons (svg_of rfl rfl) .nil)⟩

set_option maxRecDepth 8000 in
set_option maxHeartbeats 2000000 in
theorem p_sennitref27_Best (a0 : (List Nat)) (r : Int) (h : sennitref27_Best a0 = some r) : PureAt Try.prog 23 [.slice false (a0.map (eFlt .f64).d)] (.int .i64 r) := by
  refine pure_of_iwp (rs := [.int .i64 r]) Try.func23 rfl Try.ntmps23 (nle rfl) rfl fun O hO => ?_
  show IWP _ _ _ _ ⟨[(0, .slice false (a0.map (eFlt .f64).d))], []⟩ _
  unfold sennitref27_Best at h
  refine iwp_reg (ils_cons rfl (iop_assign rfl rfl (by decide) (sv (d := .int _ 0) rfl)) <|
    ils_end ?_)
  refine iwp_reg (ils_cons rfl (iop_assign rfl rfl (by decide) (sv (d := .int _ (-1)) rfl)) <|
    ils_end ?_)
  refine iwp_seq ?_
  refine iwp_reg (ils_cons rfl (iop_assign rfl rfl (by decide) (sv (d := .int _ 0) rfl)) <|
    ils_end ?_)
  refine iwp_block ?_
  refine iwp_loopP (α := Nat × Int × Int) (fun z => ⟨[(0, .slice false (a0.map (eFlt .f64).d)), (3, .int .i64 z.2.1), (4, .int .i64 z.2.2)], []⟩) (fun z => sennitref27_Best_L0 a0 z.1 z.2.1 z.2.2 = some r) (fun z => z.1) (fuel, (-1), 0) (fun i => i) ⟨(.cons (.same rfl rfl) (.cons (.same rfl rfl) (.cons (.same rfl rfl) .nil))), .nil, nd_of [] rfl (by decide), (fun i hi => by first | rfl | (show (if _ then _ else _) = _; (repeat' split) <;> omega))⟩ ?_ ?_
  · exact h
  ·
    rintro ⟨n0, v15, v16⟩ h
    cases n0 with
    | zero => exact absurd h (by unfold sennitref27_Best_L0; exact nofun)
    | succ n0 =>
      unfold sennitref27_Best_L0 at h
      refine iwp_seq ?_
      obtain ⟨x31, hx31, h⟩ := bnd_e h
      refine iwp_reg (ils_cons rfl (iop_move rfl rfl (by decide) (sv (d := .int _ _) rfl)) <|
        ils_cons rfl (iop_move rfl rfl (by decide) (sv (d := .slice _ _) rfl)) <|
        ils_cons rfl (iop_lenT (eFlt .f64) (l := a0) rfl rfl (by decide) Try.underlying35 (sv (d := .slice _ _) rfl)) <|
        ils_cons rfl (iop_cmpx rfl rfl (by decide) (sv (d := .int _ _) rfl) (sv (d := .int _ _) rfl) rfl hx31) <|
        ils_end ?_)
      refine iwp_cond (b := _) rfl (fun hc32 => ?_) (fun hc32 => ?_)
      ·
        replace h := bif_t h hc32
        refine iwp_skip ?_
        refine thenQ_n ?_
        refine iwp_seq ?_
        refine iwp_block ?_
        obtain ⟨x33, hx33, h⟩ := bno_e h
        obtain ⟨x34, hx34, h⟩ := bno_e h
        obtain ⟨x35, hx35, h⟩ := bnd_e h
        obtain ⟨x36, hx36, h⟩ := bno_e h
        obtain ⟨x37, hx37, h⟩ := bno_e h
        obtain ⟨x38, hx38, h⟩ := bno_e h
        obtain ⟨x39, hx39, h⟩ := bnd_e h
        obtain ⟨x40, hx40, h⟩ := bnd_e h
        obtain ⟨x41, hx41, h⟩ := bnd_e h
        refine iwp_drw rfl [⟨[0], [], [(11, .slice false (a0.map (eFlt .f64).d))], []⟩,
          ⟨[4], [], [(12, .int .i64 v16)], []⟩,
          ⟨[11, 12], [], [(13, .fptr [.float .f64 x33])], []⟩,
          ⟨[13], [], [(14, .float .f64 x33)], []⟩,
          ⟨[14], [], [(15, .bool x34)], []⟩,
          ⟨[15], [], [(16, .bool (!x34))], []⟩,
          ⟨[16], [], [(17, .bool (!x34))], []⟩,
          ⟨[3, 17], [], [(18, .cnd ((!x34) == true) (.int .i64 v15))], []⟩,
          ⟨[17, 18], [], [(19, .cnd ((!x34) == true) (.bool x35))], []⟩,
          ⟨[17, 19], [], [(20, .cnd ((!x34) == true) (.bool x35))], []⟩,
          ⟨[0, 20], [], [(21, .cnd ((((!x34) == true) && (x35 == false))) (.slice false (a0.map (eFlt .f64).d)))], []⟩,
          ⟨[4, 20], [], [(22, .cnd ((((!x34) == true) && (x35 == false))) (.int .i64 v16))], []⟩,
          ⟨[20, 21, 22], [], [(23, .cnd ((((!x34) == true) && (x35 == false))) (.fptr [.float .f64 x36]))], []⟩,
          ⟨[20, 23], [], [(24, .cnd ((((!x34) == true) && (x35 == false))) (.float .f64 x36))], []⟩,
          ⟨[0, 20], [], [(25, .cnd ((((!x34) == true) && (x35 == false))) (.slice false (a0.map (eFlt .f64).d)))], []⟩,
          ⟨[3, 20], [], [(26, .cnd ((((!x34) == true) && (x35 == false))) (.int .i64 v15))], []⟩,
          ⟨[20, 25, 26], [], [(27, .cnd ((((!x34) == true) && (x35 == false))) (.fptr [.float .f64 x37]))], []⟩,
          ⟨[20, 27], [], [(28, .cnd ((((!x34) == true) && (x35 == false))) (.float .f64 x37))], []⟩,
          ⟨[20, 24, 28], [], [(29, .cnd ((((!x34) == true) && (x35 == false))) (.int .i64 x38))], []⟩,
          ⟨[20, 29], [], [(30, .cnd ((((!x34) == true) && (x35 == false))) (.bool x39))], []⟩,
          ⟨[17, 20, 30], [], [(31, .cnd ((!x34) == true) (.bool x40))], []⟩,
          ⟨[17, 31], [], [(32, .bool x41)], []⟩] rfl ?_ (by kernel_rfl) ?_
        · refine .cons (lop rfl rfl fun S hA => (iop_move rfl rfl (by decide) (sv (d := .slice _ _) (agr hA rfl rfl)))) ?_
          refine .cons (lop rfl rfl fun S hA => (iop_move rfl rfl (by decide) (sv (d := .int _ _) (agr hA rfl rfl)))) ?_
          refine .cons (lop rfl rfl fun S hA => (iop_idxT (eFlt .f64) (cs := [.float _ _]) rfl rfl (by decide) Try.underlying35 ti24 (sv (d := .slice _ _) (agr hA rfl rfl)) (sv (d := .int _ _) (agr hA rfl rfl)) hx33 rfl rfl)) ?_
          refine .cons (lop rfl rfl fun S hA => (iop_load_fs rfl rfl (by decide) Try.underlying24 ag24 ti24 (by decide) (sv (d := .fptr [.float _ _]) (agr hA rfl rfl)) (nle rfl))) ?_
          refine .cons (lop rfl rfl fun S hA => (iop_call (r := .bool _) rfl rfl (by decide) cl33 (.cons (sv (d := .float _ _) (agr hA rfl rfl)) .nil) rfl (p_sennitref27_nan _ _ hx34))) ?_
          refine .cons (lop rfl rfl fun S hA => (iop_not rfl rfl (by decide) (sv (d := .bool _) (agr hA rfl rfl)))) ?_
          refine .cons (lop rfl rfl fun S hA => (iop_move rfl rfl (by decide) (sv (d := .bool _) (agr hA rfl rfl)))) ?_
          refine .cons (lopg rfl rfl rfl rfl (by decide) (fun S hA => grd1 hA rfl rfl) (fun S hA hb => (iop_move rfl rfl (by decide) (sv (d := .int _ _) (agr hA rfl rfl))))) ?_
          refine .cons (lopg rfl rfl rfl rfl (by decide) (fun S hA => grd1 hA rfl rfl) (fun S hA hb => (iop_cmpx rfl rfl (by decide) (svc (d := .int _ _) (agr hA rfl rfl) hb) (sv (d := .int _ 0) rfl) rfl hx35))) ?_
          refine .cons (lopg rfl rfl rfl rfl (by decide) (fun S hA => grd1 hA rfl rfl) (fun S hA hb => (iop_move rfl rfl (by decide) (svc (d := .bool _) (agr hA rfl rfl) hb)))) ?_
          refine .cons (lopg rfl rfl rfl rfl (by decide) (fun S hA => grd2 hA rfl rfl) (fun S hA hb => (iop_move rfl rfl (by decide) (sv (d := .slice _ _) (agr hA rfl rfl))))) ?_
          refine .cons (lopg rfl rfl rfl rfl (by decide) (fun S hA => grd2 hA rfl rfl) (fun S hA hb => (iop_move rfl rfl (by decide) (sv (d := .int _ _) (agr hA rfl rfl))))) ?_
          refine .cons (lopg rfl rfl rfl rfl (by decide) (fun S hA => grd2 hA rfl rfl) (fun S hA hb => (iop_idxT (eFlt .f64) (cs := [.float _ _]) rfl rfl (by decide) Try.underlying35 ti24 (svc (d := .slice _ _) (agr hA rfl rfl) hb) (svc (d := .int _ _) (agr hA rfl rfl) hb) (gd_t hx36 hb) rfl rfl))) ?_
          refine .cons (lopg rfl rfl rfl rfl (by decide) (fun S hA => grd2 hA rfl rfl) (fun S hA hb => (iop_load_fs rfl rfl (by decide) Try.underlying24 ag24 ti24 (by decide) (svc (d := .fptr [.float _ _]) (agr hA rfl rfl) hb) (nle rfl)))) ?_
          refine .cons (lopg rfl rfl rfl rfl (by decide) (fun S hA => grd2 hA rfl rfl) (fun S hA hb => (iop_move rfl rfl (by decide) (sv (d := .slice _ _) (agr hA rfl rfl))))) ?_
          refine .cons (lopg rfl rfl rfl rfl (by decide) (fun S hA => grd2 hA rfl rfl) (fun S hA hb => (iop_move rfl rfl (by decide) (sv (d := .int _ _) (agr hA rfl rfl))))) ?_
          refine .cons (lopg rfl rfl rfl rfl (by decide) (fun S hA => grd2 hA rfl rfl) (fun S hA hb => (iop_idxT (eFlt .f64) (cs := [.float _ _]) rfl rfl (by decide) Try.underlying35 ti24 (svc (d := .slice _ _) (agr hA rfl rfl) hb) (svc (d := .int _ _) (agr hA rfl rfl) hb) (gd_t hx37 hb) rfl rfl))) ?_
          refine .cons (lopg rfl rfl rfl rfl (by decide) (fun S hA => grd2 hA rfl rfl) (fun S hA hb => (iop_load_fs rfl rfl (by decide) Try.underlying24 ag24 ti24 (by decide) (svc (d := .fptr [.float _ _]) (agr hA rfl rfl) hb) (nle rfl)))) ?_
          refine .cons (lopg rfl rfl rfl rfl (by decide) (fun S hA => grd2 hA rfl rfl) (fun S hA hb => (iop_call (r := .int _ _) rfl rfl (by decide) cl15 (.cons (svc (d := .float _ _) (agr hA rfl rfl) hb) (.cons (svc (d := .float _ _) (agr hA rfl rfl) hb) .nil)) rfl (p_sennitref27_Compare _ _ _ (gd_t hx38 hb))))) ?_
          refine .cons (lopg rfl rfl rfl rfl (by decide) (fun S hA => grd2 hA rfl rfl) (fun S hA hb => (iop_cmpx rfl rfl (by decide) (svc (d := .int _ _) (agr hA rfl rfl) hb) (sv (d := .int _ 0) rfl) rfl hx39))) ?_
          refine .cons (lopg rfl rfl rfl rfl (by decide) (fun S hA => grd1 hA rfl rfl) (fun S hA hb => (iop_or2x rfl rfl (by decide) hb (svc (d := .bool _) (agr hA rfl rfl) hb) rfl (agr hA rfl rfl) hx40))) ?_
          refine .cons (lop rfl rfl fun S hA => (iop_andx rfl rfl (by decide) (sv (d := .bool _) (agr hA rfl rfl)) (agr hA rfl rfl) rfl hx41)) ?_
          exact .nil
        refine iwp_cond (b := _) rfl (fun hc42 => ?_) (fun hc42 => ?_)
        ·
          replace h := bif_t h hc42
          refine iwp_region (ils_cons rfl (iop_move rfl rfl (by decide) (sv (d := .int _ _) rfl)) <|
            ils_cons rfl (iop_assign rfl rfl (by decide) (sv (d := .int _ _) rfl)) <|
            ils_nil ?_)
          refine blockQ_n ?_
          refine thenQ_n ?_
          obtain ⟨x43, hx43, h⟩ := bnd_e h
          refine iwp_region (ils_cons rfl (iop_move rfl rfl (by decide) (sv (d := .int _ _) rfl)) <|
            ils_cons rfl (iop_intx rfl rfl (by decide) (sv (d := .int _ _) rfl) (sv (d := .int _ 1) rfl) rfl hx43) <|
            ils_cons rfl (iop_assign rfl rfl (by decide) (sv (d := .int _ _) rfl)) <|
            ils_nil ?_)
          refine thenQ_n ⟨(n0, v16, x43), (fun i => i), ⟨(.cons (.same rfl rfl) (.cons (.same rfl rfl) (.cons (.same rfl rfl) .nil))), .nil, nd_of [] rfl (by decide), (fun i hi => by first | rfl | (show (if _ then _ else _) = _; (repeat' split) <;> omega))⟩, ?_, ?_⟩
          exact h
          exact Nat.lt_succ_self _
        ·
          replace h := bif_f h hc42
          refine iwp_skip ?_
          refine blockQ_n ?_
          refine thenQ_n ?_
          obtain ⟨x44, hx44, h⟩ := bnd_e h
          refine iwp_region (ils_cons rfl (iop_move rfl rfl (by decide) (sv (d := .int _ _) rfl)) <|
            ils_cons rfl (iop_intx rfl rfl (by decide) (sv (d := .int _ _) rfl) (sv (d := .int _ 1) rfl) rfl hx44) <|
            ils_cons rfl (iop_assign rfl rfl (by decide) (sv (d := .int _ _) rfl)) <|
            ils_nil ?_)
          refine thenQ_n ⟨(n0, v15, x44), (fun i => i), ⟨(.cons (.same rfl rfl) (.cons (.same rfl rfl) (.cons (.same rfl rfl) .nil))), .nil, nd_of [] rfl (by decide), (fun i hi => by first | rfl | (show (if _ then _ else _) = _; (repeat' split) <;> omega))⟩, ?_, ?_⟩
          exact h
          exact Nat.lt_succ_self _
      ·
        replace h := bif_f h hc32
        refine iwp_exit ?_
        refine thenQ_e ?_
        refine thenQ_e ?_
        refine blockQ_e ?_
        refine thenQ_n ?_
        refine iwp_reg (ils_cons rfl (iop_move rfl rfl (by decide) (sv (d := .int _ _) rfl)) <|
          ils_cons rfl (iop_assign rfl rfl (by decide) (sv (d := .int _ _) rfl)) <|
          ils_end ?_)
        refine iwp_ret ?_
        obtain rfl := Option.some.inj h
        refine ⟨.inr rfl, (.cons (sv rfl) .nil)⟩
end Go.Proofs.Ytkmnhcjjaadmbaa
