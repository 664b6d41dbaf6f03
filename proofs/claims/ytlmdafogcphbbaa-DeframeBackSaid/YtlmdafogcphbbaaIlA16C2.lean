/-
  A part of the proof: rules and plain facts. No condition.
-/
import Derived.Test.YtlmdafogcphbbaaProg
import Derived.KernelRfl
import Derived.Test.YtlmdafogcphbbaaIlRg
import Derived.Test.YtlmdafogcphbbaaIlA16C1
set_option linter.all false
set_option linter.unusedSimpArgs false
set_option linter.unusedVariables false
open Go Go.IL Go.Fn Go.Proofs
namespace Go.Proofs.Ytlmdafogcphbbaa
theorem ti41 : TI Try.prog 41 (some (.agg #[.int .u8 0, .bool false, .int .i64 0, .int .i64 0, .int .i64 0, .int .i64 0, .int .i64 0, .int .i64 0, .slice none 0 0, .string ⟨#[]⟩])) 10 96 := by unfold TI; kernel_rfl
theorem ag41 : aggOf Try.prog 41 = true := by kernel_rfl
theorem st25 : Try.prog.stoodInHeld 25 = false ∧ Try.prog.eqGuardType Try.prog.depth 25 = false := ⟨by kernel_rfl, by kernel_rfl⟩
theorem cl6 : Callable Try.prog 6 := ⟨Try.f6, Try.func6, rfl, rfl⟩
theorem cl9 : Callable Try.prog 9 := ⟨Try.f9, Try.func9, rfl, rfl⟩
theorem cl10 : Callable Try.prog 10 := ⟨Try.f10, Try.func10, rfl, rfl⟩
theorem cl11 : Callable Try.prog 11 := ⟨Try.f11, Try.func11, rfl, rfl⟩
theorem cl12 : Callable Try.prog 12 := ⟨Try.f12, Try.func12, rfl, rfl⟩
theorem cl13 : Callable Try.prog 13 := ⟨Try.f13, Try.func13, rfl, rfl⟩
theorem cl14 : Callable Try.prog 14 := ⟨Try.f14, Try.func14, rfl, rfl⟩
theorem cl17 : Callable Try.prog 17 := ⟨Try.f17, Try.func17, rfl, rfl⟩
theorem cl20 : Callable Try.prog 20 := ⟨Try.f20, Try.func20, rfl, rfl⟩
theorem cl21 : Callable Try.prog 21 := ⟨Try.f21, Try.func21, rfl, rfl⟩
theorem cl22 : Callable Try.prog 22 := ⟨Try.f22, Try.func22, rfl, rfl⟩
theorem cl32 : Callable Try.prog 32 := ⟨Try.f32, Try.func32, rfl, rfl⟩
theorem cl33 : Callable Try.prog 33 := ⟨Try.f33, Try.func33, rfl, rfl⟩
theorem cl34 : Callable Try.prog 34 := ⟨Try.f34, Try.func34, rfl, rfl⟩
theorem cl42 : Callable Try.prog 42 := ⟨Try.f42, Try.func42, rfl, rfl⟩

set_option maxRecDepth 8000 in
set_option maxHeartbeats 2000000 in
theorem p_deframe_Need (a0 : T_deframe_State) (r : Int) (h : deframe_Need a0 = some r) : PureAt Try.prog 11 [.agg [.str a0.Buf, .int .i64 a0.Bad, .int .i64 a0.Seen]] (.int .i64 r) := by
  refine pure_of_iwp (rs := [.int .i64 r]) Try.func11 rfl Try.ntmps11 (nle rfl) rfl fun O hO => ?_
  show IWP _ _ _ _ ⟨[(0, .agg [.str a0.Buf, .int .i64 a0.Bad, .int .i64 a0.Seen])], []⟩ _
  unfold deframe_Need at h
  refine iwp_reg (ils_cons rfl (iop_box' (cs := [.str _, .int _ _, .int _ _]) 0 rfl rfl (by decide) rfl (sv (d := .agg [.str _, .int _ _, .int _ _]) rfl) rfl rfl) <|
    ils_cons rfl (iop_assign rfl rfl (by decide) (sv (d := .int _ 0) rfl)) <|
    ils_end ?_)
  refine iwp_seq ?_
  obtain ⟨x1, hx1, h⟩ := bnd_e h
  obtain ⟨x2, hx2, h⟩ := bno_e h
  obtain ⟨x3, hx3, h⟩ := bnd_e h
  obtain ⟨x4, hx4, h⟩ := bnd_e h
  refine iwp_reg (ils_cons rfl (iop_fieldAddr_ref rfl rfl (by decide) Try.underlying25 rfl ti23 (by decide) (sv (d := .ref _ _) rfl) (off' := 1) rfl) <|
    ils_cons rfl (iop_load_rs (d := .int _ _) rfl rfl (by decide) Try.underlying23 ag23 ti23 (by decide) (sv (d := .ref _ _) rfl) rfl (nle rfl) rfl) <|
    ils_cons rfl (iop_cmpx rfl rfl (by decide) (sv (d := .int _ _) rfl) (sv (d := .int _ 0) rfl) rfl hx1) <|
    ils_cons rfl (iop_move rfl rfl (by decide) (sv (d := .bool _) rfl)) <|
    ils_guard rfl rfl (.one rfl) rfl (by decide) (fun hb => (iop_load_ra (cs := [.str _, .int _ _, .int _ _]) rfl rfl (by decide) Try.underlying25 ag25 ti25 (by decide) (sv (d := .ref _ _) rfl) rfl (nle rfl) rfl)) <|
    ils_guard rfl rfl (.one rfl) rfl (by decide) (fun hb => (iop_call (r := .int _ _) rfl rfl (by decide) cl8 (.cons (svc (d := .agg [.str a0.Buf, .int .i64 a0.Bad, .int .i64 a0.Seen]) rfl hb) .nil) rfl (p_deframe_Check _ _ (gd_t hx2 hb)))) <|
    ils_guard rfl rfl (.one rfl) rfl (by decide) (fun hb => (iop_cmpx rfl rfl (by decide) (svc (d := .int _ _) rfl hb) (sv (d := .int _ 0) rfl) rfl hx3)) <|
    ils_cons rfl (iop_orx rfl rfl (by decide) (sv (d := .bool _) rfl) rfl rfl hx4) <|
    ils_end ?_)
  refine iwp_cond (b := _) rfl (fun hc5 => ?_) (fun hc5 => ?_)
  ·
    replace h := bif_t h hc5
    refine iwp_reg (ils_cons rfl (iop_assign rfl rfl (by decide) (sv (d := .int _ 0) rfl)) <|
      ils_end ?_)
    refine iwp_ret ?_
    refine thenQ_r ?_
    obtain rfl := Option.some.inj h
    refine ⟨.inr rfl, (.cons (sv rfl) .nil)⟩
  ·
    replace h := bif_f h hc5
    refine iwp_skip ?_
    refine thenQ_n ?_
    refine iwp_seq ?_
    obtain ⟨x6, hx6, h⟩ := bnd_e h
    refine iwp_reg (ils_cons rfl (iop_fieldAddr_ref rfl rfl (by decide) Try.underlying25 rfl ti9 (by decide) (sv (d := .ref _ _) rfl) (off' := 0) rfl) <|
      ils_cons rfl (iop_load_rs (d := .str _) rfl rfl (by decide) Try.underlying9 ag9 ti9 (by decide) (sv (d := .ref _ _) rfl) rfl (nle rfl) rfl) <|
      ils_cons rfl (iop_len_str rfl rfl (by decide) Try.underlying9 (sv (d := .str _) rfl) rfl) <|
      ils_cons rfl (iop_cmpx rfl rfl (by decide) (sv (d := .int _ _) rfl) (sv (d := .int _ 2) rfl) rfl hx6) <|
      ils_end ?_)
    refine iwp_cond (b := _) rfl (fun hc7 => ?_) (fun hc7 => ?_)
    ·
      replace h := bif_t h hc7
      refine iwp_reg (ils_cons rfl (iop_assign rfl rfl (by decide) (sv (d := .int _ 1) rfl)) <|
        ils_end ?_)
      refine iwp_ret ?_
      refine thenQ_r ?_
      obtain rfl := Option.some.inj h
      refine ⟨.inr rfl, (.cons (sv rfl) .nil)⟩
    ·
      replace h := bif_f h hc7
      refine iwp_skip ?_
      refine thenQ_n ?_
      obtain ⟨x8, hx8, h⟩ := bno_e h
      obtain ⟨x9, hx9, h⟩ := bno_e h
      refine iwp_reg (ils_cons rfl (iop_fieldAddr_ref rfl rfl (by decide) Try.underlying25 rfl ti9 (by decide) (sv (d := .ref _ _) rfl) (off' := 0) rfl) <|
        ils_cons rfl (iop_load_rs (d := .str _) rfl rfl (by decide) Try.underlying9 ag9 ti9 (by decide) (sv (d := .ref _ _) rfl) rfl (nle rfl) rfl) <|
        ils_cons rfl (iop_cutS rfl rfl (by decide) Try.underlying9 (sv (d := .str _) rfl) ⟨_, (sv (d := .int _ 2) rfl)⟩ rfl hx8) <|
        ils_cons rfl (iop_call (r := .tuple [.int _ _, .int _ _, .int _ _]) rfl rfl (by decide) cl18 (.cons (sv (d := .str _) rfl) .nil) rfl (p_varint_Get _ _ hx9)) <|
        ils_cons rfl (iop_move rfl rfl (by decide) (sv (d := .tuple [.int _ _, .int _ _, .int _ _]) rfl)) <|
        ils_cons rfl (iop_extract (d := .int _ _) rfl rfl (by decide) (sv (d := .tuple [.int _ _, .int _ _, .int _ _]) rfl) rfl) <|
        ils_cons rfl (iop_extract (d := .int _ _) rfl rfl (by decide) (sv (d := .tuple [.int _ _, .int _ _, .int _ _]) rfl) rfl) <|
        ils_cons rfl (iop_extract (d := .int _ _) rfl rfl (by decide) (sv (d := .tuple [.int _ _, .int _ _, .int _ _]) rfl) rfl) <|
        ils_cons rfl (iop_assign rfl rfl (by decide) (sv (d := .int _ _) rfl)) <|
        ils_cons rfl (iop_assign rfl rfl (by decide) (sv (d := .int _ _) rfl)) <|
        ils_cons rfl (iop_assign rfl rfl (by decide) (sv (d := .int _ _) rfl)) <|
        ils_end ?_)
      refine iwp_seq ?_
      obtain ⟨x10, hx10, h⟩ := bnd_e h
      refine iwp_reg (ils_cons rfl (iop_move rfl rfl (by decide) (sv (d := .int _ _) rfl)) <|
        ils_cons rfl (iop_cmpx rfl rfl (by decide) (sv (d := .int _ _) rfl) (sv (d := .int _ 0) rfl) rfl hx10) <|
        ils_end ?_)
      refine iwp_cond (b := _) rfl (fun hc11 => ?_) (fun hc11 => ?_)
      ·
        replace h := bif_t h hc11
        refine iwp_reg (ils_cons rfl (iop_assign rfl rfl (by decide) (sv (d := .int _ 1) rfl)) <|
          ils_end ?_)
        refine iwp_ret ?_
        refine thenQ_r ?_
        obtain rfl := Option.some.inj h
        refine ⟨.inr rfl, (.cons (sv rfl) .nil)⟩
      ·
        replace h := bif_f h hc11
        refine iwp_skip ?_
        refine thenQ_n ?_
        obtain ⟨x12, hx12, h⟩ := bnd_e h
        obtain ⟨x13, hx13, h⟩ := bnd_e h
        obtain ⟨x14, hx14, h⟩ := bnd_e h
        refine iwp_reg (ils_cons rfl (iop_move rfl rfl (by decide) (sv (d := .int _ _) rfl)) <|
          ils_cons rfl (iop_intx rfl rfl (by decide) (sv (d := .int _ 2) rfl) (sv (d := .int _ _) rfl) rfl hx12) <|
          ils_cons rfl (iop_move rfl rfl (by decide) (sv (d := .int _ _) rfl)) <|
          ils_cons rfl (iop_intx rfl rfl (by decide) (sv (d := .int _ _) rfl) (sv (d := .int _ _) rfl) rfl hx13) <|
          ils_cons rfl (iop_fieldAddr_ref rfl rfl (by decide) Try.underlying25 rfl ti9 (by decide) (sv (d := .ref _ _) rfl) (off' := 0) rfl) <|
          ils_cons rfl (iop_load_rs (d := .str _) rfl rfl (by decide) Try.underlying9 ag9 ti9 (by decide) (sv (d := .ref _ _) rfl) rfl (nle rfl) rfl) <|
          ils_cons rfl (iop_len_str rfl rfl (by decide) Try.underlying9 (sv (d := .str _) rfl) rfl) <|
          ils_cons rfl (iop_intx rfl rfl (by decide) (sv (d := .int _ _) rfl) (sv (d := .int _ _) rfl) rfl hx14) <|
          ils_cons rfl (iop_assign rfl rfl (by decide) (sv (d := .int _ _) rfl)) <|
          ils_end ?_)
        refine iwp_ret ?_
        obtain rfl := Option.some.inj h
        refine ⟨.inr rfl, (.cons (sv rfl) .nil)⟩

set_option maxRecDepth 8000 in
set_option maxHeartbeats 2000000 in
theorem p_sennitlaw16_awake  (r : Bool) (h : sennitlaw16_awake = some r) : PureAt Try.prog 6 [] (.bool r) := by
  refine pure_of_iwp (rs := [.bool r]) Try.func6 rfl Try.ntmps6 (nle rfl) rfl fun O hO => ?_
  show IWP _ _ _ _ ⟨[], []⟩ _
  unfold sennitlaw16_awake at h
  refine iwp_reg (ils_cons rfl (iop_assign rfl rfl (by decide) (sv (d := .bool false) rfl)) <|
    ils_end ?_)
  obtain ⟨x1, hx1, h⟩ := bno_e h
  refine iwp_reg (ils_cons rfl (iop_build_struct (cs := [.str _, .int _ _, .int _ _]) rfl rfl (by decide) Try.underlying25 ti25 pl25 rfl .nil rfl) <|
    ils_cons rfl (iop_call (r := .tuple [.agg [.str _, .int _ _, .int _ _], .slice _ _]) rfl rfl (by decide) cl7 (.cons (sv (d := .agg [.str _, .int _ _, .int _ _]) rfl) (.cons (sv (d := .str [7, 0, 2, 3]) rfl) .nil)) rfl (p_deframe_Feed _ _ _ hx1)) <|
    ils_cons rfl (iop_move rfl rfl (by decide) (sv (d := .tuple [.agg [.str _, .int _ _, .int _ _], .slice _ _]) rfl)) <|
    ils_cons rfl (iop_extract (d := .agg [.str _, .int _ _, .int _ _]) rfl rfl (by decide) (sv (d := .tuple [.agg [.str _, .int _ _, .int _ _], .slice _ _]) rfl) rfl) <|
    ils_cons rfl (iop_extract (d := .slice _ _) rfl rfl (by decide) (sv (d := .tuple [.agg [.str _, .int _ _, .int _ _], .slice _ _]) rfl) rfl) <|
    ils_cons rfl (iop_allocS (cs := [.str _, .int _ _, .int _ _]) (cs' := [.str [], .int .i64 0, .int .i64 0]) 0 rfl rfl (by decide) rfl ti25 rfl rfl (.cons (.refl _) (.cons (.refl _) (.cons (.refl _) .nil)))) <|
    ils_cons rfl (iop_store (ds' := [.str _, .int _ _, .int _ _]) rfl rfl ti25 (sv (d := .ref _ _) rfl) rfl (sv (d := .agg [.str _, .int _ _, .int _ _]) rfl) rfl rfl rfl (nle rfl) rfl) <|
    ils_cons rfl (iop_assign rfl rfl (by decide) (sv (d := .slice _ _) rfl)) <|
    ils_end ?_)
  obtain ⟨x2, hx2, h⟩ := bno_e h
  refine iwp_reg (ils_cons rfl (iop_load_ra (cs := [.str _, .int _ _, .int _ _]) rfl rfl (by decide) Try.underlying25 ag25 ti25 (by decide) (sv (d := .ref _ _) rfl) rfl (nle rfl) rfl) <|
    ils_cons rfl (iop_call (r := .tuple [.agg [.str _, .int _ _, .int _ _], .slice _ _]) rfl rfl (by decide) cl7 (.cons (sv (d := .agg [.str _, .int _ _, .int _ _]) rfl) (.cons (sv (d := .str [8, 4, 1, 0, 6]) rfl) .nil)) rfl (p_deframe_Feed _ _ _ hx2)) <|
    ils_cons rfl (iop_move rfl rfl (by decide) (sv (d := .tuple [.agg [.str _, .int _ _, .int _ _], .slice _ _]) rfl)) <|
    ils_cons rfl (iop_extract (d := .agg [.str _, .int _ _, .int _ _]) rfl rfl (by decide) (sv (d := .tuple [.agg [.str _, .int _ _, .int _ _], .slice _ _]) rfl) rfl) <|
    ils_cons rfl (iop_extract (d := .slice _ _) rfl rfl (by decide) (sv (d := .tuple [.agg [.str _, .int _ _, .int _ _], .slice _ _]) rfl) rfl) <|
    ils_cons rfl (iop_allocS (cs := [.str _, .int _ _, .int _ _]) (cs' := [.str [], .int .i64 0, .int .i64 0]) 1 rfl rfl (by decide) rfl ti25 rfl rfl (.cons (.refl _) (.cons (.refl _) (.cons (.refl _) .nil)))) <|
    ils_cons rfl (iop_store (ds' := [.str _, .int _ _, .int _ _]) rfl rfl ti25 (sv (d := .ref _ _) rfl) rfl (sv (d := .agg [.str _, .int _ _, .int _ _]) rfl) rfl rfl rfl (nle rfl) rfl) <|
    ils_cons rfl (iop_assign rfl rfl (by decide) (sv (d := .slice _ _) rfl)) <|
    ils_end ?_)
  obtain ⟨x3, hx3, h⟩ := bno_e h
  refine iwp_reg (ils_cons rfl (iop_load_ra (cs := [.str _, .int _ _, .int _ _]) rfl rfl (by decide) Try.underlying25 ag25 ti25 (by decide) (sv (d := .ref _ _) rfl) rfl (nle rfl) rfl) <|
    ils_cons rfl (iop_call (r := .tuple [.agg [.str _, .int _ _, .int _ _], .slice _ _]) rfl rfl (by decide) cl7 (.cons (sv (d := .agg [.str _, .int _ _, .int _ _]) rfl) (.cons (sv (d := .str [2]) rfl) .nil)) rfl (p_deframe_Feed _ _ _ hx3)) <|
    ils_cons rfl (iop_move rfl rfl (by decide) (sv (d := .tuple [.agg [.str _, .int _ _, .int _ _], .slice _ _]) rfl)) <|
    ils_cons rfl (iop_extract (d := .agg [.str _, .int _ _, .int _ _]) rfl rfl (by decide) (sv (d := .tuple [.agg [.str _, .int _ _, .int _ _], .slice _ _]) rfl) rfl) <|
    ils_cons rfl (iop_extract (d := .slice _ _) rfl rfl (by decide) (sv (d := .tuple [.agg [.str _, .int _ _, .int _ _], .slice _ _]) rfl) rfl) <|
    ils_cons rfl (iop_allocS (cs := [.str _, .int _ _, .int _ _]) (cs' := [.str [], .int .i64 0, .int .i64 0]) 2 rfl rfl (by decide) rfl ti25 rfl rfl (.cons (.refl _) (.cons (.refl _) (.cons (.refl _) .nil)))) <|
    ils_cons rfl (iop_store (ds' := [.str _, .int _ _, .int _ _]) rfl rfl ti25 (sv (d := .ref _ _) rfl) rfl (sv (d := .agg [.str _, .int _ _, .int _ _]) rfl) rfl rfl rfl (nle rfl) rfl) <|
    ils_cons rfl (iop_assign rfl rfl (by decide) (sv (d := .slice _ _) rfl)) <|
    ils_end ?_)
  obtain ⟨x4, hx4, h⟩ := bno_e h
  refine iwp_reg (ils_cons rfl (iop_call (r := .tuple [.slice _ _, .int _ _]) rfl rfl (by decide) cl12 (.cons (sv (d := .str [4, 1, 0, 4]) rfl) .nil) rfl (p_deframe_All _ _ hx4)) <|
    ils_cons rfl (iop_move rfl rfl (by decide) (sv (d := .tuple [.slice _ _, .int _ _]) rfl)) <|
    ils_cons rfl (iop_extract (d := .slice _ _) rfl rfl (by decide) (sv (d := .tuple [.slice _ _, .int _ _]) rfl) rfl) <|
    ils_cons rfl (iop_extract (d := .int _ _) rfl rfl (by decide) (sv (d := .tuple [.slice _ _, .int _ _]) rfl) rfl) <|
    ils_cons rfl (iop_assign rfl rfl (by decide) (sv (d := .slice _ _) rfl)) <|
    ils_cons rfl (iop_assign rfl rfl (by decide) (sv (d := .int _ _) rfl)) <|
    ils_end ?_)
  obtain ⟨x5, hx5, h⟩ := bno_e h
  refine iwp_reg (ils_cons rfl (iop_call (r := .tuple [.slice _ _, .int _ _]) rfl rfl (by decide) cl12 (.cons (sv (d := .str [4, 1, 0, 4, 1, 0]) rfl) .nil) rfl (p_deframe_All _ _ hx5)) <|
    ils_cons rfl (iop_move rfl rfl (by decide) (sv (d := .tuple [.slice _ _, .int _ _]) rfl)) <|
    ils_cons rfl (iop_extract (d := .slice _ _) rfl rfl (by decide) (sv (d := .tuple [.slice _ _, .int _ _]) rfl) rfl) <|
    ils_cons rfl (iop_extract (d := .int _ _) rfl rfl (by decide) (sv (d := .tuple [.slice _ _, .int _ _]) rfl) rfl) <|
    ils_cons rfl (iop_assign rfl rfl (by decide) (sv (d := .slice _ _) rfl)) <|
    ils_cons rfl (iop_assign rfl rfl (by decide) (sv (d := .int _ _) rfl)) <|
    ils_end ?_)
  obtain ⟨x6, hx6, h⟩ := bnd_e h
  obtain ⟨x7, hx7, h⟩ := bno_e h
  obtain ⟨x8, hx8, h⟩ := bnd_e h
  obtain ⟨x9, hx9, h⟩ := bnd_e h
  obtain ⟨x10, hx10, h⟩ := bnd_e h
  obtain ⟨x11, hx11, h⟩ := bnd_e h
  obtain ⟨x12, hx12, h⟩ := bno_e h
  obtain ⟨x13, hx13, h⟩ := bnd_e h
  obtain ⟨x14, hx14, h⟩ := bnd_e h
  obtain ⟨x15, hx15, h⟩ := bno_e h
  obtain ⟨x16, hx16, h⟩ := bnd_e h
  obtain ⟨x17, hx17, h⟩ := bnd_e h
  obtain ⟨x18, hx18, h⟩ := bnd_e h
  obtain ⟨x19, hx19, h⟩ := bnd_e h
  obtain ⟨x20, hx20, h⟩ := bnd_e h
  obtain ⟨x21, hx21, h⟩ := bnd_e h
  obtain ⟨x22, hx22, h⟩ := bnd_e h
  obtain ⟨x23, hx23, h⟩ := bnd_e h
  obtain ⟨x24, hx24, h⟩ := bnd_e h
  obtain ⟨x25, hx25, h⟩ := bnd_e h
  obtain ⟨x26, hx26, h⟩ := bnd_e h
  obtain ⟨x27, hx27, h⟩ := bnd_e h
  obtain ⟨x28, hx28, h⟩ := bno_e h
  obtain ⟨x29, hx29, h⟩ := bnd_e h
  obtain ⟨x30, hx30, h⟩ := bnd_e h
  obtain ⟨x31, hx31, h⟩ := bnd_e h
  obtain ⟨x32, hx32, h⟩ := bnd_e h
  obtain ⟨x33, hx33, h⟩ := bnd_e h
  obtain ⟨x34, hx34, h⟩ := bnd_e h
  obtain ⟨x35, hx35, h⟩ := bnd_e h
  obtain ⟨x36, hx36, h⟩ := bnd_e h
  obtain ⟨x37, hx37, h⟩ := bno_e h
  obtain ⟨x38, hx38, h⟩ := bnd_e h
  obtain ⟨x39, hx39, h⟩ := bnd_e h
  obtain ⟨x40, hx40, h⟩ := bno_e h
  obtain ⟨x41, hx41, h⟩ := bnd_e h
  obtain ⟨x42, hx42, h⟩ := bnd_e h
  obtain ⟨x43, hx43, h⟩ := bnd_e h
  obtain ⟨x44, hx44, h⟩ := bnd_e h
  obtain ⟨x45, hx45, h⟩ := bnd_e h
  refine iwp_reg (ils_cons rfl (iop_move rfl rfl (by decide) (sv (d := .slice _ _) rfl)) <|
    ils_cons rfl (iop_lenT E_frame_Frame (l := x1.2) rfl rfl (by decide) Try.underlying26 (sv (d := .slice _ _) rfl)) <|
    ils_cons rfl (iop_cmpx rfl rfl (by decide) (sv (d := .int _ _) rfl) (sv (d := .int _ 0) rfl) rfl hx6) <|
    ils_cons rfl (iop_move rfl rfl (by decide) (sv (d := .bool _) rfl)) <|
    ils_guard rfl rfl (.one rfl) rfl (by decide) (fun hb => (iop_load_ra (cs := [.str _, .int _ _, .int _ _]) rfl rfl (by decide) Try.underlying25 ag25 ti25 (by decide) (sv (d := .ref _ _) rfl) rfl (nle rfl) rfl)) <|
    ils_guard rfl rfl (.one rfl) rfl (by decide) (fun hb => (iop_call (r := .int _ _) rfl rfl (by decide) cl11 (.cons (svc (d := .agg [.str x1.1.Buf, .int .i64 x1.1.Bad, .int .i64 x1.1.Seen]) rfl hb) .nil) rfl (p_deframe_Need _ _ (gd_t hx7 hb)))) <|
    ils_guard rfl rfl (.one rfl) rfl (by decide) (fun hb => (iop_cmpx rfl rfl (by decide) (svc (d := .int _ _) rfl hb) (sv (d := .int _ 1) rfl) rfl hx8)) <|
    ils_cons rfl (iop_andx rfl rfl (by decide) (sv (d := .bool _) rfl) rfl rfl hx9) <|
    ils_cons rfl (iop_move rfl rfl (by decide) (sv (d := .bool _) rfl)) <|
    ils_guard rfl rfl (.one rfl) rfl (by decide) (fun hb => (iop_move rfl rfl (by decide) (sv (d := .slice _ _) rfl))) <|
    ils_guard rfl rfl (.one rfl) rfl (by decide) (fun hb => (iop_lenT E_frame_Frame (l := x2.2) rfl rfl (by decide) Try.underlying26 (svc (d := .slice _ _) rfl hb))) <|
    ils_guard rfl rfl (.one rfl) rfl (by decide) (fun hb => (iop_cmpx rfl rfl (by decide) (svc (d := .int _ _) rfl hb) (sv (d := .int _ 2) rfl) rfl hx10)) <|
    ils_cons rfl (iop_andx rfl rfl (by decide) (sv (d := .bool _) rfl) rfl rfl hx11) <|
    ils_cons rfl (iop_move rfl rfl (by decide) (sv (d := .bool _) rfl)) <|
    ils_guard rfl rfl (.one rfl) rfl (by decide) (fun hb => (iop_move rfl rfl (by decide) (sv (d := .slice _ _) rfl))) <|
    ils_guard rfl rfl (.one rfl) rfl (by decide) (fun hb => (iop_idxT E_frame_Frame (cs := [.int _ _, .bool _, .int _ _, .int _ _, .int _ _, .int _ _, .int _ _, .int _ _, .slice _ _, .str _]) rfl rfl (by decide) Try.underlying26 ti44 (svc (d := .slice _ _) rfl hb) (sv (d := .int _ 0) rfl) (gd_t hx12 hb) rfl rfl)) <|
    ils_guard rfl rfl (.one rfl) rfl (by decide) (fun hb => (iop_fieldAddr_fptr (cs' := [.int _ _]) rfl rfl (by decide) Try.underlying44 rfl ti5 (by decide) (svc (d := .fptr [.int _ _, .bool _, .int _ _, .int _ _, .int _ _, .int _ _, .int _ _, .int _ _, .slice _ _, .str _]) rfl hb) rfl)) <|
    ils_guard rfl rfl (.one rfl) rfl (by decide) (fun hb => (iop_load_fs rfl rfl (by decide) Try.underlying5 ag5 ti5 (by decide) (svc (d := .fptr [.int _ _]) rfl hb) (nle rfl))) <|
    ils_guard rfl rfl (.one rfl) rfl (by decide) (fun hb => (iop_cmpx rfl rfl (by decide) (svc (d := .int _ _) rfl hb) (sv (d := .int _ 7) rfl) rfl hx13)) <|
    ils_cons rfl (iop_andx rfl rfl (by decide) (sv (d := .bool _) rfl) rfl rfl hx14) <|
    ils_cons rfl (iop_move rfl rfl (by decide) (sv (d := .bool _) rfl)) <|
    ils_guard rfl rfl (.one rfl) rfl (by decide) (fun hb => (iop_move rfl rfl (by decide) (sv (d := .slice _ _) rfl))) <|
    ils_guard rfl rfl (.one rfl) rfl (by decide) (fun hb => (iop_idxT E_frame_Frame (cs := [.int _ _, .bool _, .int _ _, .int _ _, .int _ _, .int _ _, .int _ _, .int _ _, .slice _ _, .str _]) rfl rfl (by decide) Try.underlying26 ti44 (svc (d := .slice _ _) rfl hb) (sv (d := .int _ 1) rfl) (gd_t hx15 hb) rfl rfl)) <|
    ils_guard rfl rfl (.one rfl) rfl (by decide) (fun hb => (iop_fieldAddr_fptr (cs' := [.int _ _]) rfl rfl (by decide) Try.underlying44 rfl ti5 (by decide) (svc (d := .fptr [.int _ _, .bool _, .int _ _, .int _ _, .int _ _, .int _ _, .int _ _, .int _ _, .slice _ _, .str _]) rfl hb) rfl)) <|
    ils_guard rfl rfl (.one rfl) rfl (by decide) (fun hb => (iop_load_fs rfl rfl (by decide) Try.underlying5 ag5 ti5 (by decide) (svc (d := .fptr [.int _ _]) rfl hb) (nle rfl))) <|
    ils_guard rfl rfl (.one rfl) rfl (by decide) (fun hb => (iop_cmpx rfl rfl (by decide) (svc (d := .int _ _) rfl hb) (sv (d := .int _ 4) rfl) rfl hx16)) <|
    ils_cons rfl (iop_andx rfl rfl (by decide) (sv (d := .bool _) rfl) rfl rfl hx17) <|
    ils_cons rfl (iop_move rfl rfl (by decide) (sv (d := .bool _) rfl)) <|
    ils_guard rfl rfl (.one rfl) rfl (by decide) (fun hb => (iop_fieldAddr_ref rfl rfl (by decide) Try.underlying25 rfl ti9 (by decide) (sv (d := .ref _ _) rfl) (off' := 0) rfl)) <|
    ils_guard rfl rfl (.one rfl) rfl (by decide) (fun hb => (iop_load_rs (d := .str _) rfl rfl (by decide) Try.underlying9 ag9 ti9 (by decide) (svc (d := .ref _ _) rfl hb) rfl (nle rfl) rfl)) <|
    ils_guard rfl rfl (.one rfl) rfl (by decide) (fun hb => (iop_strx rfl rfl (by decide) (svc (d := .str _) rfl hb) (sv (d := .str [6]) rfl) rfl hx18)) <|
    ils_cons rfl (iop_andx rfl rfl (by decide) (sv (d := .bool _) rfl) rfl rfl hx19) <|
    ils_cons rfl (iop_move rfl rfl (by decide) (sv (d := .bool _) rfl)) <|
    ils_guard rfl rfl (.one rfl) rfl (by decide) (fun hb => (iop_fieldAddr_ref rfl rfl (by decide) Try.underlying25 rfl ti3 (by decide) (sv (d := .ref _ _) rfl) (off' := 2) rfl)) <|
    ils_guard rfl rfl (.one rfl) rfl (by decide) (fun hb => (iop_load_rs (d := .int _ _) rfl rfl (by decide) Try.underlying3 ag3 ti3 (by decide) (svc (d := .ref _ _) rfl hb) rfl (nle rfl) rfl)) <|
    ils_guard rfl rfl (.one rfl) rfl (by decide) (fun hb => (iop_cmpx rfl rfl (by decide) (svc (d := .int _ _) rfl hb) (sv (d := .int _ 2) rfl) rfl hx20)) <|
    ils_cons rfl (iop_andx rfl rfl (by decide) (sv (d := .bool _) rfl) rfl rfl hx21) <|
    ils_cons rfl (iop_move rfl rfl (by decide) (sv (d := .bool _) rfl)) <|
    ils_guard rfl rfl (.one rfl) rfl (by decide) (fun hb => (iop_fieldAddr_ref rfl rfl (by decide) Try.underlying25 rfl ti23 (by decide) (sv (d := .ref _ _) rfl) (off' := 1) rfl)) <|
    ils_guard rfl rfl (.one rfl) rfl (by decide) (fun hb => (iop_load_rs (d := .int _ _) rfl rfl (by decide) Try.underlying23 ag23 ti23 (by decide) (svc (d := .ref _ _) rfl hb) rfl (nle rfl) rfl)) <|
    ils_guard rfl rfl (.one rfl) rfl (by decide) (fun hb => (iop_cmpx rfl rfl (by decide) (svc (d := .int _ _) rfl hb) (sv (d := .int _ 4) rfl) rfl hx22)) <|
    ils_cons rfl (iop_andx rfl rfl (by decide) (sv (d := .bool _) rfl) rfl rfl hx23) <|
    ils_cons rfl (iop_move rfl rfl (by decide) (sv (d := .bool _) rfl)) <|
    ils_guard rfl rfl (.one rfl) rfl (by decide) (fun hb => (iop_fieldAddr_ref rfl rfl (by decide) Try.underlying25 rfl ti9 (by decide) (sv (d := .ref _ _) rfl) (off' := 0) rfl)) <|
    ils_guard rfl rfl (.one rfl) rfl (by decide) (fun hb => (iop_load_rs (d := .str _) rfl rfl (by decide) Try.underlying9 ag9 ti9 (by decide) (svc (d := .ref _ _) rfl hb) rfl (nle rfl) rfl)) <|
    ils_guard rfl rfl (.one rfl) rfl (by decide) (fun hb => (iop_strx rfl rfl (by decide) (svc (d := .str _) rfl hb) (sv (d := .str []) rfl) rfl hx24)) <|
    ils_cons rfl (iop_andx rfl rfl (by decide) (sv (d := .bool _) rfl) rfl rfl hx25) <|
    ils_cons rfl (iop_move rfl rfl (by decide) (sv (d := .bool _) rfl)) <|
    ils_guard rfl rfl (.one rfl) rfl (by decide) (fun hb => (iop_move rfl rfl (by decide) (sv (d := .slice _ _) rfl))) <|
    ils_guard rfl rfl (.one rfl) rfl (by decide) (fun hb => (iop_lenT E_frame_Frame (l := x3.2) rfl rfl (by decide) Try.underlying26 (svc (d := .slice _ _) rfl hb))) <|
    ils_guard rfl rfl (.one rfl) rfl (by decide) (fun hb => (iop_cmpx rfl rfl (by decide) (svc (d := .int _ _) rfl hb) (sv (d := .int _ 0) rfl) rfl hx26)) <|
    ils_cons rfl (iop_andx rfl rfl (by decide) (sv (d := .bool _) rfl) rfl rfl hx27) <|
    ils_cons rfl (iop_move rfl rfl (by decide) (sv (d := .bool _) rfl)) <|
    ils_guard rfl rfl (.one rfl) rfl (by decide) (fun hb => (iop_load_ra (cs := [.str _, .int _ _, .int _ _]) rfl rfl (by decide) Try.underlying25 ag25 ti25 (by decide) (sv (d := .ref _ _) rfl) rfl (nle rfl) rfl)) <|
    ils_guard rfl rfl (.one rfl) rfl (by decide) (fun hb => (iop_call (r := .int _ _) rfl rfl (by decide) cl11 (.cons (svc (d := .agg [.str x3.1.Buf, .int .i64 x3.1.Bad, .int .i64 x3.1.Seen]) rfl hb) .nil) rfl (p_deframe_Need _ _ (gd_t hx28 hb)))) <|
    ils_guard rfl rfl (.one rfl) rfl (by decide) (fun hb => (iop_cmpx rfl rfl (by decide) (svc (d := .int _ _) rfl hb) (sv (d := .int _ 0) rfl) rfl hx29)) <|
    ils_cons rfl (iop_andx rfl rfl (by decide) (sv (d := .bool _) rfl) rfl rfl hx30) <|
    ils_cons rfl (iop_move rfl rfl (by decide) (sv (d := .bool _) rfl)) <|
    ils_guard rfl rfl (.one rfl) rfl (by decide) (fun hb => (iop_move rfl rfl (by decide) (sv (d := .int _ _) rfl))) <|
    ils_guard rfl rfl (.one rfl) rfl (by decide) (fun hb => (iop_cmpx rfl rfl (by decide) (svc (d := .int _ _) rfl hb) (sv (d := .int _ 3) rfl) rfl hx31)) <|
    ils_cons rfl (iop_andx rfl rfl (by decide) (sv (d := .bool _) rfl) rfl rfl hx32) <|
    ils_cons rfl (iop_move rfl rfl (by decide) (sv (d := .bool _) rfl)) <|
    ils_guard rfl rfl (.one rfl) rfl (by decide) (fun hb => (iop_move rfl rfl (by decide) (sv (d := .slice _ _) rfl))) <|
    ils_guard rfl rfl (.one rfl) rfl (by decide) (fun hb => (iop_lenT E_frame_Frame (l := x5.1) rfl rfl (by decide) Try.underlying26 (svc (d := .slice _ _) rfl hb))) <|
    ils_guard rfl rfl (.one rfl) rfl (by decide) (fun hb => (iop_cmpx rfl rfl (by decide) (svc (d := .int _ _) rfl hb) (sv (d := .int _ 2) rfl) rfl hx33)) <|
    ils_cons rfl (iop_andx rfl rfl (by decide) (sv (d := .bool _) rfl) rfl rfl hx34) <|
    ils_cons rfl (iop_move rfl rfl (by decide) (sv (d := .bool _) rfl)) <|
    ils_guard rfl rfl (.one rfl) rfl (by decide) (fun hb => (iop_move rfl rfl (by decide) (sv (d := .int _ _) rfl))) <|
    ils_guard rfl rfl (.one rfl) rfl (by decide) (fun hb => (iop_cmpx rfl rfl (by decide) (svc (d := .int _ _) rfl hb) (sv (d := .int _ 0) rfl) rfl hx35)) <|
    ils_cons rfl (iop_andx rfl rfl (by decide) (sv (d := .bool _) rfl) rfl rfl hx36) <|
    ils_cons rfl (iop_move rfl rfl (by decide) (sv (d := .bool _) rfl)) <|
    ils_guard rfl rfl (.one rfl) rfl (by decide) (fun hb => (iop_load_ra (cs := [.str _, .int _ _, .int _ _]) rfl rfl (by decide) Try.underlying25 ag25 ti25 (by decide) (sv (d := .ref _ _) rfl) rfl (nle rfl) rfl)) <|
    ils_guard rfl rfl (.one rfl) rfl (by decide) (fun hb => (iop_call (r := .int _ _) rfl rfl (by decide) cl8 (.cons (svc (d := .agg [.str x2.1.Buf, .int .i64 x2.1.Bad, .int .i64 x2.1.Seen]) rfl hb) .nil) rfl (p_deframe_Check _ _ (gd_t hx37 hb)))) <|
    ils_guard rfl rfl (.one rfl) rfl (by decide) (fun hb => (iop_cmpx rfl rfl (by decide) (svc (d := .int _ _) rfl hb) (sv (d := .int _ 0) rfl) rfl hx38)) <|
    ils_cons rfl (iop_andx rfl rfl (by decide) (sv (d := .bool _) rfl) rfl rfl hx39) <|
    ils_cons rfl (iop_move rfl rfl (by decide) (sv (d := .bool _) rfl)) <|
    ils_guard rfl rfl (.one rfl) rfl (by decide) (fun hb => (iop_build_struct (cs := [.str _, .int _ _, .int _ _]) rfl rfl (by decide) Try.underlying25 ti25 pl25 rfl (.cons (sv (d := .int _ (-1)) rfl) .nil) rfl)) <|
    ils_guard rfl rfl (.one rfl) rfl (by decide) (fun hb => (iop_call (r := .int _ _) rfl rfl (by decide) cl8 (.cons (svc (d := .agg [.str [], .int .i64 0, .int .i64 (-1)]) rfl hb) .nil) rfl (p_deframe_Check _ _ (gd_t hx40 hb)))) <|
    ils_guard rfl rfl (.one rfl) rfl (by decide) (fun hb => (iop_cmpx rfl rfl (by decide) (svc (d := .int _ _) rfl hb) (sv (d := .int _ 8) rfl) rfl hx41)) <|
    ils_cons rfl (iop_andx rfl rfl (by decide) (sv (d := .bool _) rfl) rfl rfl hx42) <|
    ils_cons rfl (iop_move rfl rfl (by decide) (sv (d := .bool _) rfl)) <|
    ils_cons rfl (iop_pickc rfl rfl (by decide) (sv (d := .bool _) rfl) rfl rfl hx43) <|
    ils_cons rfl (iop_move rfl rfl (by decide) (sv (d := .bool _) rfl)) <|
    ils_cons rfl (iop_pickc rfl rfl (by decide) (sv (d := .bool _) rfl) rfl rfl hx44) <|
    ils_cons rfl (iop_move rfl rfl (by decide) (sv (d := .bool _) rfl)) <|
    ils_cons rfl (iop_pickc rfl rfl (by decide) (sv (d := .bool _) rfl) rfl rfl hx45) <|
    ils_cons rfl (iop_assign rfl rfl (by decide) (sv (d := .bool _) rfl)) <|
    ils_end ?_)
  refine iwp_ret ?_
  obtain rfl := Option.some.inj h
  refine ⟨.inr rfl, (.cons (sv rfl) .nil)⟩

set_option maxRecDepth 8000 in
set_option maxHeartbeats 2000000 in
theorem p_sennitlaw16_Frames (a0 : (List T_frame_Frame)) (r : (List T_frame_Frame)) (h : sennitlaw16_Frames a0 = some r) : PureAt Try.prog 10 [.slice false (a0.map E_frame_Frame.d)] (.slice false (r.map E_frame_Frame.d)) := by
  refine pure_of_iwp (rs := [.slice false (r.map E_frame_Frame.d)]) Try.func10 rfl Try.ntmps10 (nle rfl) rfl fun O hO => ?_
  show IWP _ _ _ _ ⟨[(0, .slice false (a0.map E_frame_Frame.d))], []⟩ _
  unfold sennitlaw16_Frames at h
  refine iwp_reg (ils_cons rfl (iop_assign rfl rfl (by decide) (sv (d := .nils) rfl)) <|
    ils_end ?_)
  refine iwp_reg (ils_cons rfl (iop_assign rfl rfl (by decide) (sv (d := .nils) rfl)) <|
    ils_end ?_)
  refine iwp_seq ?_
  refine iwp_reg (ils_cons rfl (iop_assign rfl rfl (by decide) (sv (d := .int _ 0) rfl)) <|
    ils_end ?_)
  refine iwp_block ?_
  refine iwp_loopP (α := Nat × (List T_frame_Frame) × Int) (fun z => ⟨[(0, .slice false (a0.map E_frame_Frame.d)), (3, .gsl 21 E_frame_Frame.sz (z.2.1.map E_frame_Frame.d)), (4, .int .i64 z.2.2)], [(21, .tail 41 E_frame_Frame.sz z.2.1.length)]⟩) (fun z => sennitlaw16_Frames_L0 a0 z.1 z.2.1 z.2.2 = some r) (fun z => z.1) (fuel, ([] : (List T_frame_Frame)), 0) (fun i => if i = 21 then 71 else i) ⟨(.cons (.same rfl rfl) (.cons (.nils rfl) (.cons (.same rfl rfl) .nil))), (.cons (.nils rfl) .nil), nd_of [71] rfl (by decide), (fun i hi => by first | rfl | (show (if _ then _ else _) = _; (repeat' split) <;> omega))⟩ ?_ ?_
  · exact h
  ·
    rintro ⟨n0, v6, v7⟩ h
    cases n0 with
    | zero => exact absurd h (by unfold sennitlaw16_Frames_L0; exact nofun)
    | succ n0 =>
      unfold sennitlaw16_Frames_L0 at h
      refine iwp_seq ?_
      obtain ⟨x13, hx13, h⟩ := bnd_e h
      refine iwp_reg (ils_cons rfl (iop_move rfl rfl (by decide) (sv (d := .int _ _) rfl)) <|
        ils_cons rfl (iop_move rfl rfl (by decide) (sv (d := .slice _ _) rfl)) <|
        ils_cons rfl (iop_lenT E_frame_Frame (l := a0) rfl rfl (by decide) Try.underlying26 (sv (d := .slice _ _) rfl)) <|
        ils_cons rfl (iop_cmpx rfl rfl (by decide) (sv (d := .int _ _) rfl) (sv (d := .int _ _) rfl) rfl hx13) <|
        ils_end ?_)
      refine iwp_cond (b := _) rfl (fun hc14 => ?_) (fun hc14 => ?_)
      ·
        replace h := bif_t h hc14
        refine iwp_skip ?_
        refine thenQ_n ?_
        refine iwp_seq ?_
        refine iwp_block ?_
        obtain ⟨x15, hx15, h⟩ := bno_e h
        obtain ⟨x16, hx16, h⟩ := bno_e h
        refine iwp_region (ils_cons rfl (iop_move rfl rfl (by decide) (sv (d := .gsl _ _ _) rfl)) <|
          ils_cons rfl (iop_move rfl rfl (by decide) (sv (d := .slice _ _) rfl)) <|
          ils_cons rfl (iop_move rfl rfl (by decide) (sv (d := .int _ _) rfl)) <|
          ils_cons rfl (iop_idxT E_frame_Frame (cs := [.int _ _, .bool _, .int _ _, .int _ _, .int _ _, .int _ _, .int _ _, .int _ _, .slice _ _, .str _]) rfl rfl (by decide) Try.underlying26 ti44 (sv (d := .slice _ _) rfl) (sv (d := .int _ _) rfl) hx15 rfl rfl) <|
          ils_cons rfl (iop_load_fa (cs := [.int _ _, .bool _, .int _ _, .int _ _, .int _ _, .int _ _, .int _ _, .int _ _, .slice _ _, .str _]) rfl rfl (by decide) Try.underlying44 ag44 ti44 (by decide) (sv (d := .fptr [.int _ _, .bool _, .int _ _, .int _ _, .int _ _, .int _ _, .int _ _, .int _ _, .slice _ _, .str _]) rfl) (nle rfl) rfl) <|
          ils_cons rfl (iop_bsT E_frame_Frame ([x15] : (List T_frame_Frame)) 22 rfl rfl (by decide) Try.underlying31 ti41 rfl (.cons (sv (d := .agg [.int _ _, .bool _, .int _ _, .int _ _, .int _ _, .int _ _, .int _ _, .int _ _, .slice _ _, .str _]) rfl) .nil) rfl rfl (by decide)) <|
          ils_cons rfl (iop_appT E_frame_Frame 23 rfl rfl (by decide) Try.underlying31 ti41 rfl rfl rfl rfl (svg rfl) hx16) <|
          ils_cons rfl (iop_assign rfl rfl (by decide) (sv (d := .gsl _ _ _) rfl)) <|
          ils_nil ?_)
        refine blockQ_n ?_
        refine thenQ_n ?_
        obtain ⟨x17, hx17, h⟩ := bnd_e h
        refine iwp_region (ils_cons rfl (iop_move rfl rfl (by decide) (sv (d := .int _ _) rfl)) <|
          ils_cons rfl (iop_intx rfl rfl (by decide) (sv (d := .int _ _) rfl) (sv (d := .int _ 1) rfl) rfl hx17) <|
          ils_cons rfl (iop_assign rfl rfl (by decide) (sv (d := .int _ _) rfl)) <|
          ils_nil ?_)
        refine thenQ_n ⟨(n0, x16, x17), (fun i => if i = 21 then 23 else i), ⟨(.cons (.same rfl rfl) (.cons (.same rfl rfl) (.cons (.same rfl rfl) .nil))), (.cons (.tail rfl) .nil), nd_of [23] rfl (by decide), (fun i hi => by first | rfl | (show (if _ then _ else _) = _; (repeat' split) <;> omega))⟩, ?_, ?_⟩
        exact h
        exact Nat.lt_succ_self _
      ·
        replace h := bif_f h hc14
        refine iwp_exit ?_
        refine thenQ_e ?_
        refine thenQ_e ?_
        refine blockQ_e ?_
        refine thenQ_n ?_
        refine iwp_reg (ils_cons rfl (iop_move rfl rfl (by decide) (sv (d := .gsl _ _ _) rfl)) <|
          ils_cons rfl (iop_assign rfl rfl (by decide) (sv (d := .gsl _ _ _) rfl)) <|
          ils_end ?_)
        refine iwp_ret ?_
        obtain rfl := Option.some.inj h
        refine ⟨.inr rfl, (.cons (svg_of rfl rfl) .nil)⟩

set_option maxRecDepth 8000 in
set_option maxHeartbeats 2000000 in
theorem p_sennitref15_Same (a0 : T_frame_Frame) (a1 : T_frame_Frame) (r : Bool) (h : sennitref15_Same a0 a1 = some r) : PureAt Try.prog 17 [.agg [.int .u8 a0.Kind, .bool a0.Flag, .int .i64 a0.Stream, .int .i64 a0.Offset, .int .i64 a0.Dep, .int .i64 a0.Weight, .int .i64 a0.N, .int .i64 a0.Code, .slice false (a0.Pairs.map E_api_Pair.d), .str a0.Data], .agg [.int .u8 a1.Kind, .bool a1.Flag, .int .i64 a1.Stream, .int .i64 a1.Offset, .int .i64 a1.Dep, .int .i64 a1.Weight, .int .i64 a1.N, .int .i64 a1.Code, .slice false (a1.Pairs.map E_api_Pair.d), .str a1.Data]] (.bool r) := by
  refine pure_of_iwp (rs := [.bool r]) Try.func17 rfl Try.ntmps17 (nle rfl) rfl fun O hO => ?_
  show IWP _ _ _ _ ⟨[(0, .agg [.int .u8 a0.Kind, .bool a0.Flag, .int .i64 a0.Stream, .int .i64 a0.Offset, .int .i64 a0.Dep, .int .i64 a0.Weight, .int .i64 a0.N, .int .i64 a0.Code, .slice false (a0.Pairs.map E_api_Pair.d), .str a0.Data]), (1, .agg [.int .u8 a1.Kind, .bool a1.Flag, .int .i64 a1.Stream, .int .i64 a1.Offset, .int .i64 a1.Dep, .int .i64 a1.Weight, .int .i64 a1.N, .int .i64 a1.Code, .slice false (a1.Pairs.map E_api_Pair.d), .str a1.Data])], []⟩ _
  unfold sennitref15_Same at h
  refine iwp_reg (ils_cons rfl (iop_box' (cs := [.int _ _, .bool _, .int _ _, .int _ _, .int _ _, .int _ _, .int _ _, .int _ _, .slice _ _, .str _]) 0 rfl rfl (by decide) rfl (sv (d := .agg [.int _ _, .bool _, .int _ _, .int _ _, .int _ _, .int _ _, .int _ _, .int _ _, .slice _ _, .str _]) rfl) rfl rfl) <|
    ils_cons rfl (iop_box' (cs := [.int _ _, .bool _, .int _ _, .int _ _, .int _ _, .int _ _, .int _ _, .int _ _, .slice _ _, .str _]) 1 rfl rfl (by decide) rfl (sv (d := .agg [.int _ _, .bool _, .int _ _, .int _ _, .int _ _, .int _ _, .int _ _, .int _ _, .slice _ _, .str _]) rfl) rfl rfl) <|
    ils_cons rfl (iop_assign rfl rfl (by decide) (sv (d := .bool false) rfl)) <|
    ils_end ?_)
  refine iwp_seq ?_
  obtain ⟨x1, hx1, h⟩ := bnd_e h
  refine iwp_reg (ils_cons rfl (iop_fieldAddr_ref rfl rfl (by decide) Try.underlying41 rfl ti39 (by decide) (sv (d := .ref _ _) rfl) (off' := 8) rfl) <|
    ils_cons rfl (iop_load_rs (d := .slice _ _) rfl rfl (by decide) Try.underlying39 ag39 ti39 (by decide) (sv (d := .ref _ _) rfl) rfl (nle rfl) rfl) <|
    ils_cons rfl (iop_lenT E_api_Pair (l := a0.Pairs) rfl rfl (by decide) Try.underlying39 (sv (d := .slice _ _) rfl)) <|
    ils_cons rfl (iop_fieldAddr_ref rfl rfl (by decide) Try.underlying41 rfl ti39 (by decide) (sv (d := .ref _ _) rfl) (off' := 8) rfl) <|
    ils_cons rfl (iop_load_rs (d := .slice _ _) rfl rfl (by decide) Try.underlying39 ag39 ti39 (by decide) (sv (d := .ref _ _) rfl) rfl (nle rfl) rfl) <|
    ils_cons rfl (iop_lenT E_api_Pair (l := a1.Pairs) rfl rfl (by decide) Try.underlying39 (sv (d := .slice _ _) rfl)) <|
    ils_cons rfl (iop_cmpx rfl rfl (by decide) (sv (d := .int _ _) rfl) (sv (d := .int _ _) rfl) rfl hx1) <|
    ils_end ?_)
  refine iwp_cond (b := _) rfl (fun hc2 => ?_) (fun hc2 => ?_)
  ·
    replace h := bif_t h hc2
    refine iwp_reg (ils_cons rfl (iop_assign rfl rfl (by decide) (sv (d := .bool false) rfl)) <|
      ils_end ?_)
    refine iwp_ret ?_
    refine thenQ_r ?_
    obtain rfl := Option.some.inj h
    refine ⟨.inr rfl, (.cons (sv rfl) .nil)⟩
  ·
    replace h := bif_f h hc2
    refine iwp_skip ?_
    refine thenQ_n ?_
    refine iwp_seq ?_
    refine iwp_reg (ils_cons rfl (iop_assign rfl rfl (by decide) (sv (d := .int _ 0) rfl)) <|
      ils_end ?_)
    refine iwp_block ?_
    refine iwp_loopP (α := Nat × Int) (fun z => ⟨[(2, .ref 0 0), (3, .ref 1 0), (5, .int .i64 z.2)], [(0, .blk 41 [.int .u8 a0.Kind, .bool a0.Flag, .int .i64 a0.Stream, .int .i64 a0.Offset, .int .i64 a0.Dep, .int .i64 a0.Weight, .int .i64 a0.N, .int .i64 a0.Code, .slice false (a0.Pairs.map E_api_Pair.d), .str a0.Data]), (1, .blk 41 [.int .u8 a1.Kind, .bool a1.Flag, .int .i64 a1.Stream, .int .i64 a1.Offset, .int .i64 a1.Dep, .int .i64 a1.Weight, .int .i64 a1.N, .int .i64 a1.Code, .slice false (a1.Pairs.map E_api_Pair.d), .str a1.Data])]⟩) (fun z => sennitref15_Same_L0 a0 a1 z.1 z.2 = some r) (fun z => z.1) (fuel, 0) (fun i => i) ⟨(.cons (.same rfl rfl) (.cons (.same rfl rfl) (.cons (.same rfl rfl) .nil))), (.cons (.blk rfl rfl rfl) (.cons (.blk rfl rfl rfl) .nil)), nd_of [0, 1] rfl (by decide), (fun i hi => by first | rfl | (show (if _ then _ else _) = _; (repeat' split) <;> omega))⟩ ?_ ?_
    · exact h
    ·
      rintro ⟨n0, v10⟩ h
      cases n0 with
      | zero => exact absurd h (by unfold sennitref15_Same_L0; exact nofun)
      | succ n0 =>
        unfold sennitref15_Same_L0 at h
        refine iwp_seq ?_
        obtain ⟨x18, hx18, h⟩ := bnd_e h
        refine iwp_reg (ils_cons rfl (iop_move rfl rfl (by decide) (sv (d := .int _ _) rfl)) <|
          ils_cons rfl (iop_fieldAddr_ref rfl rfl (by decide) Try.underlying41 rfl ti39 (by decide) (sv (d := .ref _ _) rfl) (off' := 8) rfl) <|
          ils_cons rfl (iop_load_rs (d := .slice _ _) rfl rfl (by decide) Try.underlying39 ag39 ti39 (by decide) (sv (d := .ref _ _) rfl) rfl (nle rfl) rfl) <|
          ils_cons rfl (iop_lenT E_api_Pair (l := a0.Pairs) rfl rfl (by decide) Try.underlying39 (sv (d := .slice _ _) rfl)) <|
          ils_cons rfl (iop_cmpx rfl rfl (by decide) (sv (d := .int _ _) rfl) (sv (d := .int _ _) rfl) rfl hx18) <|
          ils_end ?_)
        refine iwp_cond (b := _) rfl (fun hc19 => ?_) (fun hc19 => ?_)
        ·
          replace h := bif_t h hc19
          refine iwp_skip ?_
          refine thenQ_n ?_
          refine iwp_seq ?_
          refine iwp_block ?_
          obtain ⟨x20, hx20, h⟩ := bno_e h
          obtain ⟨x21, hx21, h⟩ := bno_e h
          obtain ⟨x22, hx22, h⟩ := bnd_e h
          refine iwp_drw rfl [⟨[2], [], [(20, .ref 0 8)], []⟩,
            ⟨[20], [0], [(21, .slice false (a0.Pairs.map E_api_Pair.d))], []⟩,
            ⟨[5], [], [(22, .int .i64 v10)], []⟩,
            ⟨[21, 22], [], [(23, .fptr [.int .i64 x20.ID, .int .i64 x20.Value])], []⟩,
            ⟨[23], [], [(24, .agg [.int .i64 x20.ID, .int .i64 x20.Value])], []⟩,
            ⟨[3], [], [(25, .ref 1 8)], []⟩,
            ⟨[25], [1], [(26, .slice false (a1.Pairs.map E_api_Pair.d))], []⟩,
            ⟨[5], [], [(27, .int .i64 v10)], []⟩,
            ⟨[26, 27], [], [(28, .fptr [.int .i64 x21.ID, .int .i64 x21.Value])], []⟩,
            ⟨[28], [], [(29, .agg [.int .i64 x21.ID, .int .i64 x21.Value])], []⟩,
            ⟨[24, 29], [], [(30, .bool (!x22))], []⟩] rfl ?_ (by kernel_rfl) ?_
          · refine .cons (lop rfl rfl fun S hA => (iop_fieldAddr_ref rfl rfl (by decide) Try.underlying41 rfl ti39 (by decide) (sv (d := .ref _ _) (agr hA rfl rfl)) (off' := 8) rfl)) ?_
            refine .cons (lop rfl rfl fun S hA => (iop_load_rs (d := .slice _ _) rfl rfl (by decide) Try.underlying39 ag39 ti39 (by decide) (sv (d := .ref _ _) (agr hA rfl rfl)) (agi hA rfl rfl) (nle rfl) rfl)) ?_
            refine .cons (lop rfl rfl fun S hA => (iop_move rfl rfl (by decide) (sv (d := .int _ _) (agr hA rfl rfl)))) ?_
            refine .cons (lop rfl rfl fun S hA => (iop_idxT E_api_Pair (cs := [.int _ _, .int _ _]) rfl rfl (by decide) Try.underlying39 ti66 (sv (d := .slice _ _) (agr hA rfl rfl)) (sv (d := .int _ _) (agr hA rfl rfl)) hx20 rfl rfl)) ?_
            refine .cons (lop rfl rfl fun S hA => (iop_load_fa (cs := [.int _ _, .int _ _]) rfl rfl (by decide) Try.underlying66 ag66 ti66 (by decide) (sv (d := .fptr [.int _ _, .int _ _]) (agr hA rfl rfl)) (nle rfl) rfl)) ?_
            refine .cons (lop rfl rfl fun S hA => (iop_fieldAddr_ref rfl rfl (by decide) Try.underlying41 rfl ti39 (by decide) (sv (d := .ref _ _) (agr hA rfl rfl)) (off' := 8) rfl)) ?_
            refine .cons (lop rfl rfl fun S hA => (iop_load_rs (d := .slice _ _) rfl rfl (by decide) Try.underlying39 ag39 ti39 (by decide) (sv (d := .ref _ _) (agr hA rfl rfl)) (agi hA rfl rfl) (nle rfl) rfl)) ?_
            refine .cons (lop rfl rfl fun S hA => (iop_move rfl rfl (by decide) (sv (d := .int _ _) (agr hA rfl rfl)))) ?_
            refine .cons (lop rfl rfl fun S hA => (iop_idxT E_api_Pair (cs := [.int _ _, .int _ _]) rfl rfl (by decide) Try.underlying39 ti66 (sv (d := .slice _ _) (agr hA rfl rfl)) (sv (d := .int _ _) (agr hA rfl rfl)) hx21 rfl rfl)) ?_
            refine .cons (lop rfl rfl fun S hA => (iop_load_fa (cs := [.int _ _, .int _ _]) rfl rfl (by decide) Try.underlying66 ag66 ti66 (by decide) (sv (d := .fptr [.int _ _, .int _ _]) (agr hA rfl rfl)) (nle rfl) rfl)) ?_
            refine .cons (lop rfl rfl fun S hA => (iop_nes rfl rfl (by decide) Try.underlying66 st66.1 st66.2 (sv (d := .agg [.int _ _, .int _ _]) (agr hA rfl rfl)) (sv (d := .agg [.int _ _, .int _ _]) (agr hA rfl rfl)) (congrArg some hx22))) ?_
            exact .nil
          refine iwp_cond (b := _) rfl (fun hc23 => ?_) (fun hc23 => ?_)
          ·
            replace h := bif_t h hc23
            refine iwp_reg (ils_cons rfl (iop_assign rfl rfl (by decide) (sv (d := .bool false) rfl)) <|
              ils_end ?_)
            refine iwp_ret ?_
            refine blockQ_r ?_
            refine thenQ_r ?_
            refine thenQ_r ?_
            refine blockQ_r ?_
            refine thenQ_r ?_
            obtain rfl := Option.some.inj h
            refine ⟨.inr rfl, (.cons (sv rfl) .nil)⟩
          ·
            replace h := bif_f h hc23
            refine iwp_skip ?_
            refine blockQ_n ?_
            refine thenQ_n ?_
            obtain ⟨x24, hx24, h⟩ := bnd_e h
            refine iwp_region (ils_cons rfl (iop_move rfl rfl (by decide) (sv (d := .int _ _) rfl)) <|
              ils_cons rfl (iop_intx rfl rfl (by decide) (sv (d := .int _ _) rfl) (sv (d := .int _ 1) rfl) rfl hx24) <|
              ils_cons rfl (iop_assign rfl rfl (by decide) (sv (d := .int _ _) rfl)) <|
              ils_nil ?_)
            refine thenQ_n ⟨(n0, x24), (fun i => i), ⟨(.cons (.same rfl rfl) (.cons (.same rfl rfl) (.cons (.same rfl rfl) .nil))), (.cons (.blk rfl rfl rfl) (.cons (.blk rfl rfl rfl) .nil)), nd_of [0, 1] rfl (by decide), (fun i hi => by first | rfl | (show (if _ then _ else _) = _; (repeat' split) <;> omega))⟩, ?_, ?_⟩
            exact h
            exact Nat.lt_succ_self _
        ·
          replace h := bif_f h hc19
          refine iwp_exit ?_
          refine thenQ_e ?_
          refine thenQ_e ?_
          refine blockQ_e ?_
          refine thenQ_n ?_
          obtain ⟨x25, hx25, h⟩ := bnd_e h
          obtain ⟨x26, hx26, h⟩ := bnd_e h
          obtain ⟨x27, hx27, h⟩ := bnd_e h
          obtain ⟨x28, hx28, h⟩ := bnd_e h
          obtain ⟨x29, hx29, h⟩ := bnd_e h
          obtain ⟨x30, hx30, h⟩ := bnd_e h
          obtain ⟨x31, hx31, h⟩ := bnd_e h
          obtain ⟨x32, hx32, h⟩ := bnd_e h
          obtain ⟨x33, hx33, h⟩ := bnd_e h
          obtain ⟨x34, hx34, h⟩ := bnd_e h
          obtain ⟨x35, hx35, h⟩ := bnd_e h
          obtain ⟨x36, hx36, h⟩ := bnd_e h
          obtain ⟨x37, hx37, h⟩ := bnd_e h
          obtain ⟨x38, hx38, h⟩ := bnd_e h
          obtain ⟨x39, hx39, h⟩ := bnd_e h
          obtain ⟨x40, hx40, h⟩ := bnd_e h
          obtain ⟨x41, hx41, h⟩ := bnd_e h
          refine iwp_reg (ils_cons rfl (iop_fieldAddr_ref rfl rfl (by decide) Try.underlying41 rfl ti5 (by decide) (sv (d := .ref _ _) rfl) (off' := 0) rfl) <|
            ils_cons rfl (iop_load_rs (d := .int _ _) rfl rfl (by decide) Try.underlying5 ag5 ti5 (by decide) (sv (d := .ref _ _) rfl) rfl (nle rfl) rfl) <|
            ils_cons rfl (iop_fieldAddr_ref rfl rfl (by decide) Try.underlying41 rfl ti5 (by decide) (sv (d := .ref _ _) rfl) (off' := 0) rfl) <|
            ils_cons rfl (iop_load_rs (d := .int _ _) rfl rfl (by decide) Try.underlying5 ag5 ti5 (by decide) (sv (d := .ref _ _) rfl) rfl (nle rfl) rfl) <|
            ils_cons rfl (iop_cmpx rfl rfl (by decide) (sv (d := .int _ _) rfl) (sv (d := .int _ _) rfl) rfl hx25) <|
            ils_cons rfl (iop_move rfl rfl (by decide) (sv (d := .bool _) rfl)) <|
            ils_guard rfl rfl (.one rfl) rfl (by decide) (fun hb => (iop_fieldAddr_ref rfl rfl (by decide) Try.underlying41 rfl ti4 (by decide) (sv (d := .ref _ _) rfl) (off' := 1) rfl)) <|
            ils_guard rfl rfl (.one rfl) rfl (by decide) (fun hb => (iop_load_rs (d := .bool _) rfl rfl (by decide) Try.underlying4 ag4 ti4 (by decide) (svc (d := .ref _ _) rfl hb) rfl (nle rfl) rfl)) <|
            ils_guard rfl rfl (.one rfl) rfl (by decide) (fun hb => (iop_fieldAddr_ref rfl rfl (by decide) Try.underlying41 rfl ti4 (by decide) (sv (d := .ref _ _) rfl) (off' := 1) rfl)) <|
            ils_guard rfl rfl (.one rfl) rfl (by decide) (fun hb => (iop_load_rs (d := .bool _) rfl rfl (by decide) Try.underlying4 ag4 ti4 (by decide) (svc (d := .ref _ _) rfl hb) rfl (nle rfl) rfl)) <|
            ils_guard rfl rfl (.one rfl) rfl (by decide) (fun hb => (iop_eqbx rfl rfl (by decide) Try.underlying4 (svc (d := .bool _) rfl hb) (svc (d := .bool _) rfl hb) hx26)) <|
            ils_cons rfl (iop_andx rfl rfl (by decide) (sv (d := .bool _) rfl) rfl rfl hx27) <|
            ils_cons rfl (iop_move rfl rfl (by decide) (sv (d := .bool _) rfl)) <|
            ils_guard rfl rfl (.one rfl) rfl (by decide) (fun hb => (iop_fieldAddr_ref rfl rfl (by decide) Try.underlying41 rfl ti3 (by decide) (sv (d := .ref _ _) rfl) (off' := 2) rfl)) <|
            ils_guard rfl rfl (.one rfl) rfl (by decide) (fun hb => (iop_load_rs (d := .int _ _) rfl rfl (by decide) Try.underlying3 ag3 ti3 (by decide) (svc (d := .ref _ _) rfl hb) rfl (nle rfl) rfl)) <|
            ils_guard rfl rfl (.one rfl) rfl (by decide) (fun hb => (iop_fieldAddr_ref rfl rfl (by decide) Try.underlying41 rfl ti3 (by decide) (sv (d := .ref _ _) rfl) (off' := 2) rfl)) <|
            ils_guard rfl rfl (.one rfl) rfl (by decide) (fun hb => (iop_load_rs (d := .int _ _) rfl rfl (by decide) Try.underlying3 ag3 ti3 (by decide) (svc (d := .ref _ _) rfl hb) rfl (nle rfl) rfl)) <|
            ils_guard rfl rfl (.one rfl) rfl (by decide) (fun hb => (iop_cmpx rfl rfl (by decide) (svc (d := .int _ _) rfl hb) (svc (d := .int _ _) rfl hb) rfl hx28)) <|
            ils_cons rfl (iop_andx rfl rfl (by decide) (sv (d := .bool _) rfl) rfl rfl hx29) <|
            ils_cons rfl (iop_move rfl rfl (by decide) (sv (d := .bool _) rfl)) <|
            ils_guard rfl rfl (.one rfl) rfl (by decide) (fun hb => (iop_fieldAddr_ref rfl rfl (by decide) Try.underlying41 rfl ti3 (by decide) (sv (d := .ref _ _) rfl) (off' := 3) rfl)) <|
            ils_guard rfl rfl (.one rfl) rfl (by decide) (fun hb => (iop_load_rs (d := .int _ _) rfl rfl (by decide) Try.underlying3 ag3 ti3 (by decide) (svc (d := .ref _ _) rfl hb) rfl (nle rfl) rfl)) <|
            ils_guard rfl rfl (.one rfl) rfl (by decide) (fun hb => (iop_fieldAddr_ref rfl rfl (by decide) Try.underlying41 rfl ti3 (by decide) (sv (d := .ref _ _) rfl) (off' := 3) rfl)) <|
            ils_guard rfl rfl (.one rfl) rfl (by decide) (fun hb => (iop_load_rs (d := .int _ _) rfl rfl (by decide) Try.underlying3 ag3 ti3 (by decide) (svc (d := .ref _ _) rfl hb) rfl (nle rfl) rfl)) <|
            ils_guard rfl rfl (.one rfl) rfl (by decide) (fun hb => (iop_cmpx rfl rfl (by decide) (svc (d := .int _ _) rfl hb) (svc (d := .int _ _) rfl hb) rfl hx30)) <|
            ils_cons rfl (iop_andx rfl rfl (by decide) (sv (d := .bool _) rfl) rfl rfl hx31) <|
            ils_cons rfl (iop_move rfl rfl (by decide) (sv (d := .bool _) rfl)) <|
            ils_guard rfl rfl (.one rfl) rfl (by decide) (fun hb => (iop_fieldAddr_ref rfl rfl (by decide) Try.underlying41 rfl ti3 (by decide) (sv (d := .ref _ _) rfl) (off' := 4) rfl)) <|
            ils_guard rfl rfl (.one rfl) rfl (by decide) (fun hb => (iop_load_rs (d := .int _ _) rfl rfl (by decide) Try.underlying3 ag3 ti3 (by decide) (svc (d := .ref _ _) rfl hb) rfl (nle rfl) rfl)) <|
            ils_guard rfl rfl (.one rfl) rfl (by decide) (fun hb => (iop_fieldAddr_ref rfl rfl (by decide) Try.underlying41 rfl ti3 (by decide) (sv (d := .ref _ _) rfl) (off' := 4) rfl)) <|
            ils_guard rfl rfl (.one rfl) rfl (by decide) (fun hb => (iop_load_rs (d := .int _ _) rfl rfl (by decide) Try.underlying3 ag3 ti3 (by decide) (svc (d := .ref _ _) rfl hb) rfl (nle rfl) rfl)) <|
            ils_guard rfl rfl (.one rfl) rfl (by decide) (fun hb => (iop_cmpx rfl rfl (by decide) (svc (d := .int _ _) rfl hb) (svc (d := .int _ _) rfl hb) rfl hx32)) <|
            ils_cons rfl (iop_andx rfl rfl (by decide) (sv (d := .bool _) rfl) rfl rfl hx33) <|
            ils_cons rfl (iop_move rfl rfl (by decide) (sv (d := .bool _) rfl)) <|
            ils_guard rfl rfl (.one rfl) rfl (by decide) (fun hb => (iop_fieldAddr_ref rfl rfl (by decide) Try.underlying41 rfl ti3 (by decide) (sv (d := .ref _ _) rfl) (off' := 5) rfl)) <|
            ils_guard rfl rfl (.one rfl) rfl (by decide) (fun hb => (iop_load_rs (d := .int _ _) rfl rfl (by decide) Try.underlying3 ag3 ti3 (by decide) (svc (d := .ref _ _) rfl hb) rfl (nle rfl) rfl)) <|
            ils_guard rfl rfl (.one rfl) rfl (by decide) (fun hb => (iop_fieldAddr_ref rfl rfl (by decide) Try.underlying41 rfl ti3 (by decide) (sv (d := .ref _ _) rfl) (off' := 5) rfl)) <|
            ils_guard rfl rfl (.one rfl) rfl (by decide) (fun hb => (iop_load_rs (d := .int _ _) rfl rfl (by decide) Try.underlying3 ag3 ti3 (by decide) (svc (d := .ref _ _) rfl hb) rfl (nle rfl) rfl)) <|
            ils_guard rfl rfl (.one rfl) rfl (by decide) (fun hb => (iop_cmpx rfl rfl (by decide) (svc (d := .int _ _) rfl hb) (svc (d := .int _ _) rfl hb) rfl hx34)) <|
            ils_cons rfl (iop_andx rfl rfl (by decide) (sv (d := .bool _) rfl) rfl rfl hx35) <|
            ils_cons rfl (iop_move rfl rfl (by decide) (sv (d := .bool _) rfl)) <|
            ils_guard rfl rfl (.one rfl) rfl (by decide) (fun hb => (iop_fieldAddr_ref rfl rfl (by decide) Try.underlying41 rfl ti3 (by decide) (sv (d := .ref _ _) rfl) (off' := 6) rfl)) <|
            ils_guard rfl rfl (.one rfl) rfl (by decide) (fun hb => (iop_load_rs (d := .int _ _) rfl rfl (by decide) Try.underlying3 ag3 ti3 (by decide) (svc (d := .ref _ _) rfl hb) rfl (nle rfl) rfl)) <|
            ils_guard rfl rfl (.one rfl) rfl (by decide) (fun hb => (iop_fieldAddr_ref rfl rfl (by decide) Try.underlying41 rfl ti3 (by decide) (sv (d := .ref _ _) rfl) (off' := 6) rfl)) <|
            ils_guard rfl rfl (.one rfl) rfl (by decide) (fun hb => (iop_load_rs (d := .int _ _) rfl rfl (by decide) Try.underlying3 ag3 ti3 (by decide) (svc (d := .ref _ _) rfl hb) rfl (nle rfl) rfl)) <|
            ils_guard rfl rfl (.one rfl) rfl (by decide) (fun hb => (iop_cmpx rfl rfl (by decide) (svc (d := .int _ _) rfl hb) (svc (d := .int _ _) rfl hb) rfl hx36)) <|
            ils_cons rfl (iop_andx rfl rfl (by decide) (sv (d := .bool _) rfl) rfl rfl hx37) <|
            ils_cons rfl (iop_move rfl rfl (by decide) (sv (d := .bool _) rfl)) <|
            ils_guard rfl rfl (.one rfl) rfl (by decide) (fun hb => (iop_fieldAddr_ref rfl rfl (by decide) Try.underlying41 rfl ti3 (by decide) (sv (d := .ref _ _) rfl) (off' := 7) rfl)) <|
            ils_guard rfl rfl (.one rfl) rfl (by decide) (fun hb => (iop_load_rs (d := .int _ _) rfl rfl (by decide) Try.underlying3 ag3 ti3 (by decide) (svc (d := .ref _ _) rfl hb) rfl (nle rfl) rfl)) <|
            ils_guard rfl rfl (.one rfl) rfl (by decide) (fun hb => (iop_fieldAddr_ref rfl rfl (by decide) Try.underlying41 rfl ti3 (by decide) (sv (d := .ref _ _) rfl) (off' := 7) rfl)) <|
            ils_guard rfl rfl (.one rfl) rfl (by decide) (fun hb => (iop_load_rs (d := .int _ _) rfl rfl (by decide) Try.underlying3 ag3 ti3 (by decide) (svc (d := .ref _ _) rfl hb) rfl (nle rfl) rfl)) <|
            ils_guard rfl rfl (.one rfl) rfl (by decide) (fun hb => (iop_cmpx rfl rfl (by decide) (svc (d := .int _ _) rfl hb) (svc (d := .int _ _) rfl hb) rfl hx38)) <|
            ils_cons rfl (iop_andx rfl rfl (by decide) (sv (d := .bool _) rfl) rfl rfl hx39) <|
            ils_cons rfl (iop_move rfl rfl (by decide) (sv (d := .bool _) rfl)) <|
            ils_guard rfl rfl (.one rfl) rfl (by decide) (fun hb => (iop_fieldAddr_ref rfl rfl (by decide) Try.underlying41 rfl ti9 (by decide) (sv (d := .ref _ _) rfl) (off' := 9) rfl)) <|
            ils_guard rfl rfl (.one rfl) rfl (by decide) (fun hb => (iop_load_rs (d := .str _) rfl rfl (by decide) Try.underlying9 ag9 ti9 (by decide) (svc (d := .ref _ _) rfl hb) rfl (nle rfl) rfl)) <|
            ils_guard rfl rfl (.one rfl) rfl (by decide) (fun hb => (iop_fieldAddr_ref rfl rfl (by decide) Try.underlying41 rfl ti9 (by decide) (sv (d := .ref _ _) rfl) (off' := 9) rfl)) <|
            ils_guard rfl rfl (.one rfl) rfl (by decide) (fun hb => (iop_load_rs (d := .str _) rfl rfl (by decide) Try.underlying9 ag9 ti9 (by decide) (svc (d := .ref _ _) rfl hb) rfl (nle rfl) rfl)) <|
            ils_guard rfl rfl (.one rfl) rfl (by decide) (fun hb => (iop_strx rfl rfl (by decide) (svc (d := .str _) rfl hb) (svc (d := .str _) rfl hb) rfl hx40)) <|
            ils_cons rfl (iop_andx rfl rfl (by decide) (sv (d := .bool _) rfl) rfl rfl hx41) <|
            ils_cons rfl (iop_assign rfl rfl (by decide) (sv (d := .bool _) rfl)) <|
            ils_end ?_)
          refine iwp_ret ?_
          obtain rfl := Option.some.inj h
          refine ⟨.inr rfl, (.cons (sv rfl) .nil)⟩

set_option maxRecDepth 8000 in
set_option maxHeartbeats 2000000 in
theorem p_sennitref15_SameAll (a0 : (List T_frame_Frame)) (a1 : (List T_frame_Frame)) (r : Bool) (h : sennitref15_SameAll a0 a1 = some r) : PureAt Try.prog 9 [.slice false (a0.map E_frame_Frame.d), .slice false (a1.map E_frame_Frame.d)] (.bool r) := by
  refine pure_of_iwp (rs := [.bool r]) Try.func9 rfl Try.ntmps9 (nle rfl) rfl fun O hO => ?_
  show IWP _ _ _ _ ⟨[(0, .slice false (a0.map E_frame_Frame.d)), (1, .slice false (a1.map E_frame_Frame.d))], []⟩ _
  unfold sennitref15_SameAll at h
  refine iwp_reg (ils_cons rfl (iop_assign rfl rfl (by decide) (sv (d := .bool false) rfl)) <|
    ils_end ?_)
  refine iwp_seq ?_
  obtain ⟨x1, hx1, h⟩ := bnd_e h
  refine iwp_reg (ils_cons rfl (iop_move rfl rfl (by decide) (sv (d := .slice _ _) rfl)) <|
    ils_cons rfl (iop_lenT E_frame_Frame (l := a0) rfl rfl (by decide) Try.underlying31 (sv (d := .slice _ _) rfl)) <|
    ils_cons rfl (iop_move rfl rfl (by decide) (sv (d := .slice _ _) rfl)) <|
    ils_cons rfl (iop_lenT E_frame_Frame (l := a1) rfl rfl (by decide) Try.underlying31 (sv (d := .slice _ _) rfl)) <|
    ils_cons rfl (iop_cmpx rfl rfl (by decide) (sv (d := .int _ _) rfl) (sv (d := .int _ _) rfl) rfl hx1) <|
    ils_end ?_)
  refine iwp_cond (b := _) rfl (fun hc2 => ?_) (fun hc2 => ?_)
  ·
    replace h := bif_t h hc2
    refine iwp_reg (ils_cons rfl (iop_assign rfl rfl (by decide) (sv (d := .bool false) rfl)) <|
      ils_end ?_)
    refine iwp_ret ?_
    refine thenQ_r ?_
    obtain rfl := Option.some.inj h
    refine ⟨.inr rfl, (.cons (sv rfl) .nil)⟩
  ·
    replace h := bif_f h hc2
    refine iwp_skip ?_
    refine thenQ_n ?_
    refine iwp_seq ?_
    refine iwp_reg (ils_cons rfl (iop_assign rfl rfl (by decide) (sv (d := .int _ 0) rfl)) <|
      ils_end ?_)
    refine iwp_block ?_
    refine iwp_loopP (α := Nat × Int) (fun z => ⟨[(0, .slice false (a0.map E_frame_Frame.d)), (1, .slice false (a1.map E_frame_Frame.d)), (5, .int .i64 z.2)], []⟩) (fun z => sennitref15_SameAll_L0 a0 a1 z.1 z.2 = some r) (fun z => z.1) (fuel, 0) (fun i => i) ⟨(.cons (.same rfl rfl) (.cons (.same rfl rfl) (.cons (.same rfl rfl) .nil))), .nil, nd_of [] rfl (by decide), (fun i hi => by first | rfl | (show (if _ then _ else _) = _; (repeat' split) <;> omega))⟩ ?_ ?_
    · exact h
    ·
      rintro ⟨n0, v10⟩ h
      cases n0 with
      | zero => exact absurd h (by unfold sennitref15_SameAll_L0; exact nofun)
      | succ n0 =>
        unfold sennitref15_SameAll_L0 at h
        refine iwp_seq ?_
        obtain ⟨x18, hx18, h⟩ := bnd_e h
        refine iwp_reg (ils_cons rfl (iop_move rfl rfl (by decide) (sv (d := .int _ _) rfl)) <|
          ils_cons rfl (iop_move rfl rfl (by decide) (sv (d := .slice _ _) rfl)) <|
          ils_cons rfl (iop_lenT E_frame_Frame (l := a0) rfl rfl (by decide) Try.underlying31 (sv (d := .slice _ _) rfl)) <|
          ils_cons rfl (iop_cmpx rfl rfl (by decide) (sv (d := .int _ _) rfl) (sv (d := .int _ _) rfl) rfl hx18) <|
          ils_end ?_)
        refine iwp_cond (b := _) rfl (fun hc19 => ?_) (fun hc19 => ?_)
        ·
          replace h := bif_t h hc19
          refine iwp_skip ?_
          refine thenQ_n ?_
          refine iwp_seq ?_
          refine iwp_block ?_
          obtain ⟨x20, hx20, h⟩ := bno_e h
          obtain ⟨x21, hx21, h⟩ := bno_e h
          obtain ⟨x22, hx22, h⟩ := bno_e h
          refine iwp_drw rfl [⟨[0], [], [(17, .slice false (a0.map E_frame_Frame.d))], []⟩,
            ⟨[5], [], [(18, .int .i64 v10)], []⟩,
            ⟨[17, 18], [], [(19, .fptr [.int .u8 x20.Kind, .bool x20.Flag, .int .i64 x20.Stream, .int .i64 x20.Offset, .int .i64 x20.Dep, .int .i64 x20.Weight, .int .i64 x20.N, .int .i64 x20.Code, .slice false (x20.Pairs.map E_api_Pair.d), .str x20.Data])], []⟩,
            ⟨[19], [], [(20, .agg [.int .u8 x20.Kind, .bool x20.Flag, .int .i64 x20.Stream, .int .i64 x20.Offset, .int .i64 x20.Dep, .int .i64 x20.Weight, .int .i64 x20.N, .int .i64 x20.Code, .slice false (x20.Pairs.map E_api_Pair.d), .str x20.Data])], []⟩,
            ⟨[1], [], [(21, .slice false (a1.map E_frame_Frame.d))], []⟩,
            ⟨[5], [], [(22, .int .i64 v10)], []⟩,
            ⟨[21, 22], [], [(23, .fptr [.int .u8 x21.Kind, .bool x21.Flag, .int .i64 x21.Stream, .int .i64 x21.Offset, .int .i64 x21.Dep, .int .i64 x21.Weight, .int .i64 x21.N, .int .i64 x21.Code, .slice false (x21.Pairs.map E_api_Pair.d), .str x21.Data])], []⟩,
            ⟨[23], [], [(24, .agg [.int .u8 x21.Kind, .bool x21.Flag, .int .i64 x21.Stream, .int .i64 x21.Offset, .int .i64 x21.Dep, .int .i64 x21.Weight, .int .i64 x21.N, .int .i64 x21.Code, .slice false (x21.Pairs.map E_api_Pair.d), .str x21.Data])], []⟩,
            ⟨[20, 24], [], [(25, .bool x22)], []⟩,
            ⟨[25], [], [(26, .bool (!x22))], []⟩] rfl ?_ (by kernel_rfl) ?_
          · refine .cons (lop rfl rfl fun S hA => (iop_move rfl rfl (by decide) (sv (d := .slice _ _) (agr hA rfl rfl)))) ?_
            refine .cons (lop rfl rfl fun S hA => (iop_move rfl rfl (by decide) (sv (d := .int _ _) (agr hA rfl rfl)))) ?_
            refine .cons (lop rfl rfl fun S hA => (iop_idxT E_frame_Frame (cs := [.int _ _, .bool _, .int _ _, .int _ _, .int _ _, .int _ _, .int _ _, .int _ _, .slice _ _, .str _]) rfl rfl (by decide) Try.underlying31 ti41 (sv (d := .slice _ _) (agr hA rfl rfl)) (sv (d := .int _ _) (agr hA rfl rfl)) hx20 rfl rfl)) ?_
            refine .cons (lop rfl rfl fun S hA => (iop_load_fa (cs := [.int _ _, .bool _, .int _ _, .int _ _, .int _ _, .int _ _, .int _ _, .int _ _, .slice _ _, .str _]) rfl rfl (by decide) Try.underlying41 ag41 ti41 (by decide) (sv (d := .fptr [.int _ _, .bool _, .int _ _, .int _ _, .int _ _, .int _ _, .int _ _, .int _ _, .slice _ _, .str _]) (agr hA rfl rfl)) (nle rfl) rfl)) ?_
            refine .cons (lop rfl rfl fun S hA => (iop_move rfl rfl (by decide) (sv (d := .slice _ _) (agr hA rfl rfl)))) ?_
            refine .cons (lop rfl rfl fun S hA => (iop_move rfl rfl (by decide) (sv (d := .int _ _) (agr hA rfl rfl)))) ?_
            refine .cons (lop rfl rfl fun S hA => (iop_idxT E_frame_Frame (cs := [.int _ _, .bool _, .int _ _, .int _ _, .int _ _, .int _ _, .int _ _, .int _ _, .slice _ _, .str _]) rfl rfl (by decide) Try.underlying31 ti41 (sv (d := .slice _ _) (agr hA rfl rfl)) (sv (d := .int _ _) (agr hA rfl rfl)) hx21 rfl rfl)) ?_
            refine .cons (lop rfl rfl fun S hA => (iop_load_fa (cs := [.int _ _, .bool _, .int _ _, .int _ _, .int _ _, .int _ _, .int _ _, .int _ _, .slice _ _, .str _]) rfl rfl (by decide) Try.underlying41 ag41 ti41 (by decide) (sv (d := .fptr [.int _ _, .bool _, .int _ _, .int _ _, .int _ _, .int _ _, .int _ _, .int _ _, .slice _ _, .str _]) (agr hA rfl rfl)) (nle rfl) rfl)) ?_
            refine .cons (lop rfl rfl fun S hA => (iop_call (r := .bool _) rfl rfl (by decide) cl17 (.cons (sv (d := .agg [.int _ _, .bool _, .int _ _, .int _ _, .int _ _, .int _ _, .int _ _, .int _ _, .slice _ _, .str _]) (agr hA rfl rfl)) (.cons (sv (d := .agg [.int _ _, .bool _, .int _ _, .int _ _, .int _ _, .int _ _, .int _ _, .int _ _, .slice _ _, .str _]) (agr hA rfl rfl)) .nil)) rfl (p_sennitref15_Same _ _ _ hx22))) ?_
            refine .cons (lop rfl rfl fun S hA => (iop_not rfl rfl (by decide) (sv (d := .bool _) (agr hA rfl rfl)))) ?_
            exact .nil
          refine iwp_cond (b := _) rfl (fun hc23 => ?_) (fun hc23 => ?_)
          ·
            replace h := bif_t h hc23
            refine iwp_reg (ils_cons rfl (iop_assign rfl rfl (by decide) (sv (d := .bool false) rfl)) <|
              ils_end ?_)
            refine iwp_ret ?_
            refine blockQ_r ?_
            refine thenQ_r ?_
            refine thenQ_r ?_
            refine blockQ_r ?_
            refine thenQ_r ?_
            obtain rfl := Option.some.inj h
            refine ⟨.inr rfl, (.cons (sv rfl) .nil)⟩
          ·
            replace h := bif_f h hc23
            refine iwp_skip ?_
            refine blockQ_n ?_
            refine thenQ_n ?_
            obtain ⟨x24, hx24, h⟩ := bnd_e h
            refine iwp_region (ils_cons rfl (iop_move rfl rfl (by decide) (sv (d := .int _ _) rfl)) <|
              ils_cons rfl (iop_intx rfl rfl (by decide) (sv (d := .int _ _) rfl) (sv (d := .int _ 1) rfl) rfl hx24) <|
              ils_cons rfl (iop_assign rfl rfl (by decide) (sv (d := .int _ _) rfl)) <|
              ils_nil ?_)
            refine thenQ_n ⟨(n0, x24), (fun i => i), ⟨(.cons (.same rfl rfl) (.cons (.same rfl rfl) (.cons (.same rfl rfl) .nil))), .nil, nd_of [] rfl (by decide), (fun i hi => by first | rfl | (show (if _ then _ else _) = _; (repeat' split) <;> omega))⟩, ?_, ?_⟩
            exact h
            exact Nat.lt_succ_self _
        ·
          replace h := bif_f h hc19
          refine iwp_exit ?_
          refine thenQ_e ?_
          refine thenQ_e ?_
          refine blockQ_e ?_
          refine thenQ_n ?_
          refine iwp_reg (ils_cons rfl (iop_assign rfl rfl (by decide) (sv (d := .bool true) rfl)) <|
            ils_end ?_)
          refine iwp_ret ?_
          obtain rfl := Option.some.inj h
          refine ⟨.inr rfl, (.cons (sv rfl) .nil)⟩

set_option maxRecDepth 8000 in
set_option maxHeartbeats 2000000 in
theorem p_sennitlaw16_DeframePieces (a0 : (List UInt8)) (a1 : Int) (r : Bool) (h : sennitlaw16_DeframePieces a0 a1 = some r) : PureAt Try.prog 3 [.str a0, .int .u8 a1] (.bool r) := by
  refine pure_of_iwp (rs := [.bool r]) Try.func3 rfl Try.ntmps3 (nle rfl) rfl fun O hO => ?_
  show IWP _ _ _ _ ⟨[(0, .str a0), (1, .int .u8 a1)], []⟩ _
  unfold sennitlaw16_DeframePieces at h
  refine iwp_reg (ils_cons rfl (iop_assign rfl rfl (by decide) (sv (d := .bool false) rfl)) <|
    ils_end ?_)
  refine iwp_seq ?_
  obtain ⟨x1, hx1, h⟩ := bnd_e h
  refine iwp_reg (ils_cons rfl (iop_move rfl rfl (by decide) (sv (d := .str _) rfl)) <|
    ils_cons rfl (iop_len_str rfl rfl (by decide) Try.underlying9 (sv (d := .str _) rfl) rfl) <|
    ils_cons rfl (iop_cmpx rfl rfl (by decide) (sv (d := .int _ _) rfl) (sv (d := .int _ 200) rfl) rfl hx1) <|
    ils_end ?_)
  refine iwp_cond (b := _) rfl (fun hc2 => ?_) (fun hc2 => ?_)
  ·
    replace h := bif_t h hc2
    obtain ⟨x3, hx3, h⟩ := bno_e h
    refine iwp_reg (ils_cons rfl (iop_call (r := .bool _) rfl rfl (by decide) cl6 .nil rfl (p_sennitlaw16_awake  _ hx3)) <|
      ils_cons rfl (iop_assign rfl rfl (by decide) (sv (d := .bool _) rfl)) <|
      ils_end ?_)
    refine iwp_ret ?_
    refine thenQ_r ?_
    obtain rfl := Option.some.inj h
    refine ⟨.inr rfl, (.cons (sv rfl) .nil)⟩
  ·
    replace h := bif_f h hc2
    refine iwp_skip ?_
    refine thenQ_n ?_
    obtain ⟨x4, hx4, h⟩ := bnd_e h
    obtain ⟨x5, hx5, h⟩ := bnd_e h
    obtain ⟨x6, hx6, h⟩ := bno_e h
    refine iwp_reg (ils_cons rfl (iop_move rfl rfl (by decide) (sv (d := .int _ _) rfl)) <|
      ils_cons rfl (iop_int_conv rfl rfl (by decide) ⟨_, Try.underlying5⟩ Try.underlying3 (sv (d := .int _ _) rfl) hx4) <|
      ils_cons rfl (iop_move rfl rfl (by decide) (sv (d := .str _) rfl)) <|
      ils_cons rfl (iop_len_str rfl rfl (by decide) Try.underlying9 (sv (d := .str _) rfl) rfl) <|
      ils_cons rfl (iop_intx rfl rfl (by decide) (sv (d := .int _ _) rfl) (sv (d := .int _ 1) rfl) rfl hx5) <|
      ils_cons rfl (iop_remx rfl rfl (by decide) (sv (d := .int _ _) rfl) (sv (d := .int _ _) rfl) hx6) <|
      ils_cons rfl (iop_assign rfl rfl (by decide) (sv (d := .int _ _) rfl)) <|
      ils_end ?_)
    obtain ⟨x7, hx7, h⟩ := bno_e h
    refine iwp_reg (ils_cons rfl (iop_build_struct (cs := [.str _, .int _ _, .int _ _]) rfl rfl (by decide) Try.underlying25 ti25 pl25 rfl .nil rfl) <|
      ils_cons rfl (iop_move rfl rfl (by decide) (sv (d := .str _) rfl)) <|
      ils_cons rfl (iop_call (r := .tuple [.agg [.str _, .int _ _, .int _ _], .slice _ _]) rfl rfl (by decide) cl7 (.cons (sv (d := .agg [.str _, .int _ _, .int _ _]) rfl) (.cons (sv (d := .str _) rfl) .nil)) rfl (p_deframe_Feed _ _ _ hx7)) <|
      ils_cons rfl (iop_move rfl rfl (by decide) (sv (d := .tuple [.agg [.str _, .int _ _, .int _ _], .slice _ _]) rfl)) <|
      ils_cons rfl (iop_extract (d := .agg [.str _, .int _ _, .int _ _]) rfl rfl (by decide) (sv (d := .tuple [.agg [.str _, .int _ _, .int _ _], .slice _ _]) rfl) rfl) <|
      ils_cons rfl (iop_extract (d := .slice _ _) rfl rfl (by decide) (sv (d := .tuple [.agg [.str _, .int _ _, .int _ _], .slice _ _]) rfl) rfl) <|
      ils_cons rfl (iop_allocS (cs := [.str _, .int _ _, .int _ _]) (cs' := [.str [], .int .i64 0, .int .i64 0]) 0 rfl rfl (by decide) rfl ti25 rfl rfl (.cons (.refl _) (.cons (.refl _) (.cons (.refl _) .nil)))) <|
      ils_cons rfl (iop_store (ds' := [.str _, .int _ _, .int _ _]) rfl rfl ti25 (sv (d := .ref _ _) rfl) rfl (sv (d := .agg [.str _, .int _ _, .int _ _]) rfl) rfl rfl rfl (nle rfl) rfl) <|
      ils_cons rfl (iop_assign rfl rfl (by decide) (sv (d := .slice _ _) rfl)) <|
      ils_end ?_)
    obtain ⟨x8, hx8, h⟩ := bno_e h
    obtain ⟨x9, hx9, h⟩ := bno_e h
    refine iwp_reg (ils_cons rfl (iop_build_struct (cs := [.str _, .int _ _, .int _ _]) rfl rfl (by decide) Try.underlying25 ti25 pl25 rfl .nil rfl) <|
      ils_cons rfl (iop_move rfl rfl (by decide) (sv (d := .str _) rfl)) <|
      ils_cons rfl (iop_move rfl rfl (by decide) (sv (d := .int _ _) rfl)) <|
      ils_cons rfl (iop_cutS rfl rfl (by decide) Try.underlying9 (sv (d := .str _) rfl) rfl ⟨_, (sv (d := .int _ _) rfl)⟩ hx8) <|
      ils_cons rfl (iop_call (r := .tuple [.agg [.str _, .int _ _, .int _ _], .slice _ _]) rfl rfl (by decide) cl7 (.cons (sv (d := .agg [.str _, .int _ _, .int _ _]) rfl) (.cons (sv (d := .str _) rfl) .nil)) rfl (p_deframe_Feed _ _ _ hx9)) <|
      ils_cons rfl (iop_move rfl rfl (by decide) (sv (d := .tuple [.agg [.str _, .int _ _, .int _ _], .slice _ _]) rfl)) <|
      ils_cons rfl (iop_extract (d := .agg [.str _, .int _ _, .int _ _]) rfl rfl (by decide) (sv (d := .tuple [.agg [.str _, .int _ _, .int _ _], .slice _ _]) rfl) rfl) <|
      ils_cons rfl (iop_extract (d := .slice _ _) rfl rfl (by decide) (sv (d := .tuple [.agg [.str _, .int _ _, .int _ _], .slice _ _]) rfl) rfl) <|
      ils_cons rfl (iop_allocS (cs := [.str _, .int _ _, .int _ _]) (cs' := [.str [], .int .i64 0, .int .i64 0]) 1 rfl rfl (by decide) rfl ti25 rfl rfl (.cons (.refl _) (.cons (.refl _) (.cons (.refl _) .nil)))) <|
      ils_cons rfl (iop_store (ds' := [.str _, .int _ _, .int _ _]) rfl rfl ti25 (sv (d := .ref _ _) rfl) rfl (sv (d := .agg [.str _, .int _ _, .int _ _]) rfl) rfl rfl rfl (nle rfl) rfl) <|
      ils_cons rfl (iop_assign rfl rfl (by decide) (sv (d := .slice _ _) rfl)) <|
      ils_end ?_)
    obtain ⟨x10, hx10, h⟩ := bno_e h
    obtain ⟨x11, hx11, h⟩ := bno_e h
    refine iwp_drw rfl [⟨[8], [1], [(42, .agg [.str x9.1.Buf, .int .i64 x9.1.Bad, .int .i64 x9.1.Seen])], []⟩,
      ⟨[0], [], [(43, .str a0)], []⟩,
      ⟨[5], [], [(44, .int .i64 x6)], []⟩,
      ⟨[43, 44], [], [(45, .str x10)], []⟩,
      ⟨[42, 45], [], [(46, .tuple [.agg [.str x11.1.Buf, .int .i64 x11.1.Bad, .int .i64 x11.1.Seen], .slice false (x11.2.map E_frame_Frame.d)])], []⟩,
      ⟨[46], [], [(41, .tuple [.agg [.str x11.1.Buf, .int .i64 x11.1.Bad, .int .i64 x11.1.Seen], .slice false (x11.2.map E_frame_Frame.d)])], []⟩,
      ⟨[41], [], [(47, .agg [.str x11.1.Buf, .int .i64 x11.1.Bad, .int .i64 x11.1.Seen])], []⟩,
      ⟨[41], [], [(48, .slice false (x11.2.map E_frame_Frame.d))], []⟩,
      ⟨[8, 47], [1], [], [(1, .blk 25 [.str x11.1.Buf, .int .i64 x11.1.Bad, .int .i64 x11.1.Seen])]⟩,
      ⟨[48], [], [(10, .slice false (x11.2.map E_frame_Frame.d))], []⟩] rfl ?_ (by kernel_rfl) ?_
    · refine .cons (lop rfl rfl fun S hA => (iop_load_ra (cs := [.str _, .int _ _, .int _ _]) rfl rfl (by decide) Try.underlying25 ag25 ti25 (by decide) (sv (d := .ref _ _) (agr hA rfl rfl)) (agi hA rfl rfl) (nle rfl) rfl)) ?_
      refine .cons (lop rfl rfl fun S hA => (iop_move rfl rfl (by decide) (sv (d := .str _) (agr hA rfl rfl)))) ?_
      refine .cons (lop rfl rfl fun S hA => (iop_move rfl rfl (by decide) (sv (d := .int _ _) (agr hA rfl rfl)))) ?_
      refine .cons (lop rfl rfl fun S hA => (iop_cutS rfl rfl (by decide) Try.underlying9 (sv (d := .str _) (agr hA rfl rfl)) ⟨_, (sv (d := .int _ _) (agr hA rfl rfl))⟩ rfl hx10)) ?_
      refine .cons (lop rfl rfl fun S hA => (iop_call (r := .tuple [.agg [.str _, .int _ _, .int _ _], .slice _ _]) rfl rfl (by decide) cl7 (.cons (sv (d := .agg [.str _, .int _ _, .int _ _]) (agr hA rfl rfl)) (.cons (sv (d := .str _) (agr hA rfl rfl)) .nil)) rfl (p_deframe_Feed _ _ _ hx11))) ?_
      refine .cons (lop rfl rfl fun S hA => (iop_move rfl rfl (by decide) (sv (d := .tuple [.agg [.str _, .int _ _, .int _ _], .slice _ _]) (agr hA rfl rfl)))) ?_
      refine .cons (lop rfl rfl fun S hA => (iop_extract (d := .agg [.str _, .int _ _, .int _ _]) rfl rfl (by decide) (sv (d := .tuple [.agg [.str _, .int _ _, .int _ _], .slice _ _]) (agr hA rfl rfl)) rfl)) ?_
      refine .cons (lop rfl rfl fun S hA => (iop_extract (d := .slice _ _) rfl rfl (by decide) (sv (d := .tuple [.agg [.str _, .int _ _, .int _ _], .slice _ _]) (agr hA rfl rfl)) rfl)) ?_
      refine .cons (lop rfl rfl fun S hA => (iop_store (ds' := [.str _, .int _ _, .int _ _]) rfl rfl ti25 (sv (d := .ref _ _) (agr hA rfl rfl)) (agi hA rfl rfl) (sv (d := .agg [.str _, .int _ _, .int _ _]) (agr hA rfl rfl)) rfl rfl rfl (nle rfl) rfl)) ?_
      refine .cons (lop rfl rfl fun S hA => (iop_assign rfl rfl (by decide) (sv (d := .slice _ _) (agr hA rfl rfl)))) ?_
      exact .nil
    refine iwp_reg (ils_cons rfl (iop_allocS (cs := [.str _, .int _ _, .int _ _]) (cs' := [.str [], .int .i64 0, .int .i64 0]) 2 rfl rfl (by decide) rfl ti25 rfl rfl (.cons (.refl _) (.cons (.refl _) (.cons (.refl _) .nil)))) <|
      ils_end ?_)
    refine iwp_reg (ils_cons rfl (iop_assign rfl rfl (by decide) (sv (d := .nils) rfl)) <|
      ils_end ?_)
    refine iwp_seq ?_
    refine iwp_reg (ils_cons rfl (iop_assign rfl rfl (by decide) (sv (d := .int _ 0) rfl)) <|
      ils_end ?_)
    refine iwp_block ?_
    refine iwp_loopP (α := Nat × (List T_frame_Frame) × Int × (List UInt8) × Int × Int) (fun z => ⟨[(0, .str a0), (6, .ref 0 0), (7, .slice false (x7.2.map E_frame_Frame.d)), (8, .ref 1 0), (9, .slice false (x9.2.map E_frame_Frame.d)), (10, .slice false (x11.2.map E_frame_Frame.d)), (11, .ref 2 0), (12, .gsl 24 E_frame_Frame.sz (z.2.1.map E_frame_Frame.d)), (13, .int .i64 z.2.2.1)], [(0, .blk 25 [.str x7.1.Buf, .int .i64 x7.1.Bad, .int .i64 x7.1.Seen]), (1, .blk 25 [.str x11.1.Buf, .int .i64 x11.1.Bad, .int .i64 x11.1.Seen]), (2, .blk 25 [.str z.2.2.2.1, .int .i64 z.2.2.2.2.1, .int .i64 z.2.2.2.2.2]), (24, .tail 44 E_frame_Frame.sz z.2.1.length)]⟩) (fun z => sennitlaw16_DeframePieces_L0 a0 x7 x9 x11 z.1 z.2.1 z.2.2.1 z.2.2.2.1 z.2.2.2.2.1 z.2.2.2.2.2 = some r) (fun z => z.1) (fuel, ([] : (List T_frame_Frame)), 0, ([] : (List UInt8)), 0, 0) (fun i => if i = 24 then 77 else i) ⟨(.cons (.same rfl rfl) (.cons (.same rfl rfl) (.cons (.same rfl rfl) (.cons (.same rfl rfl) (.cons (.same rfl rfl) (.cons (.same rfl rfl) (.cons (.same rfl rfl) (.cons (.nils rfl) (.cons (.same rfl rfl) .nil))))))))), (.cons (.blk rfl rfl rfl) (.cons (.blk rfl rfl rfl) (.cons (.blk rfl rfl rfl) (.cons (.nils rfl) .nil)))), nd_of [0, 1, 2, 77] rfl (by decide), (fun i hi => by first | rfl | (show (if _ then _ else _) = _; (repeat' split) <;> omega))⟩ ?_ ?_
    · exact h
    ·
      rintro ⟨n0, v24, v25, v26, v27, v28⟩ h
      cases n0 with
      | zero => exact absurd h (by unfold sennitlaw16_DeframePieces_L0; exact nofun)
      | succ n0 =>
        unfold sennitlaw16_DeframePieces_L0 at h
        refine iwp_seq ?_
        obtain ⟨x41, hx41, h⟩ := bnd_e h
        refine iwp_reg (ils_cons rfl (iop_move rfl rfl (by decide) (sv (d := .int _ _) rfl)) <|
          ils_cons rfl (iop_move rfl rfl (by decide) (sv (d := .str _) rfl)) <|
          ils_cons rfl (iop_len_str rfl rfl (by decide) Try.underlying9 (sv (d := .str _) rfl) rfl) <|
          ils_cons rfl (iop_cmpx rfl rfl (by decide) (sv (d := .int _ _) rfl) (sv (d := .int _ _) rfl) rfl hx41) <|
          ils_end ?_)
        refine iwp_cond (b := _) rfl (fun hc42 => ?_) (fun hc42 => ?_)
        ·
          replace h := bif_t h hc42
          refine iwp_skip ?_
          refine thenQ_n ?_
          refine iwp_seq ?_
          refine iwp_block ?_
          obtain ⟨x43, hx43, h⟩ := bnd_e h
          obtain ⟨x44, hx44, h⟩ := bno_e h
          obtain ⟨x45, hx45, h⟩ := bno_e h
          refine iwp_drw rfl [⟨[11], [2], [(56, .agg [.str v26, .int .i64 v27, .int .i64 v28])], []⟩,
            ⟨[0], [], [(57, .str a0)], []⟩,
            ⟨[13], [], [(58, .int .i64 v25)], []⟩,
            ⟨[13], [], [(59, .int .i64 v25)], []⟩,
            ⟨[59], [], [(60, .int .i64 x43)], []⟩,
            ⟨[57, 58, 60], [], [(61, .str x44)], []⟩,
            ⟨[56, 61], [], [(62, .tuple [.agg [.str x45.1.Buf, .int .i64 x45.1.Bad, .int .i64 x45.1.Seen], .slice false (x45.2.map E_frame_Frame.d)])], []⟩,
            ⟨[62], [], [(55, .tuple [.agg [.str x45.1.Buf, .int .i64 x45.1.Bad, .int .i64 x45.1.Seen], .slice false (x45.2.map E_frame_Frame.d)])], []⟩,
            ⟨[55], [], [(63, .agg [.str x45.1.Buf, .int .i64 x45.1.Bad, .int .i64 x45.1.Seen])], []⟩,
            ⟨[55], [], [(64, .slice false (x45.2.map E_frame_Frame.d))], []⟩,
            ⟨[], [25], [(14, .ref 25 0)], [(25, .blk 25 [.str [], .int .i64 0, .int .i64 0])]⟩,
            ⟨[14, 63], [25], [], [(25, .blk 25 [.str x45.1.Buf, .int .i64 x45.1.Bad, .int .i64 x45.1.Seen])]⟩,
            ⟨[64], [], [(15, .slice false (x45.2.map E_frame_Frame.d))], []⟩] rfl ?_ (by kernel_rfl) ?_
          · refine .cons (lop rfl rfl fun S hA => (iop_load_ra (cs := [.str _, .int _ _, .int _ _]) rfl rfl (by decide) Try.underlying25 ag25 ti25 (by decide) (sv (d := .ref _ _) (agr hA rfl rfl)) (agi hA rfl rfl) (nle rfl) rfl)) ?_
            refine .cons (lop rfl rfl fun S hA => (iop_move rfl rfl (by decide) (sv (d := .str _) (agr hA rfl rfl)))) ?_
            refine .cons (lop rfl rfl fun S hA => (iop_move rfl rfl (by decide) (sv (d := .int _ _) (agr hA rfl rfl)))) ?_
            refine .cons (lop rfl rfl fun S hA => (iop_move rfl rfl (by decide) (sv (d := .int _ _) (agr hA rfl rfl)))) ?_
            refine .cons (lop rfl rfl fun S hA => (iop_intx rfl rfl (by decide) (sv (d := .int _ _) (agr hA rfl rfl)) (sv (d := .int _ 1) rfl) rfl hx43)) ?_
            refine .cons (lop rfl rfl fun S hA => (iop_cutS rfl rfl (by decide) Try.underlying9 (sv (d := .str _) (agr hA rfl rfl)) ⟨_, (sv (d := .int _ _) (agr hA rfl rfl))⟩ ⟨_, (sv (d := .int _ _) (agr hA rfl rfl))⟩ hx44)) ?_
            refine .cons (lop rfl rfl fun S hA => (iop_call (r := .tuple [.agg [.str _, .int _ _, .int _ _], .slice _ _]) rfl rfl (by decide) cl7 (.cons (sv (d := .agg [.str _, .int _ _, .int _ _]) (agr hA rfl rfl)) (.cons (sv (d := .str _) (agr hA rfl rfl)) .nil)) rfl (p_deframe_Feed _ _ _ hx45))) ?_
            refine .cons (lop rfl rfl fun S hA => (iop_move rfl rfl (by decide) (sv (d := .tuple [.agg [.str _, .int _ _, .int _ _], .slice _ _]) (agr hA rfl rfl)))) ?_
            refine .cons (lop rfl rfl fun S hA => (iop_extract (d := .agg [.str _, .int _ _, .int _ _]) rfl rfl (by decide) (sv (d := .tuple [.agg [.str _, .int _ _, .int _ _], .slice _ _]) (agr hA rfl rfl)) rfl)) ?_
            refine .cons (lop rfl rfl fun S hA => (iop_extract (d := .slice _ _) rfl rfl (by decide) (sv (d := .tuple [.agg [.str _, .int _ _, .int _ _], .slice _ _]) (agr hA rfl rfl)) rfl)) ?_
            refine .cons (lop rfl rfl fun S hA => (iop_allocS (cs := [.str _, .int _ _, .int _ _]) (cs' := [.str [], .int .i64 0, .int .i64 0]) 25 rfl rfl (by decide) (agi hA rfl rfl) ti25 rfl rfl (.cons (.refl _) (.cons (.refl _) (.cons (.refl _) .nil))))) ?_
            refine .cons (lop rfl rfl fun S hA => (iop_store (ds' := [.str _, .int _ _, .int _ _]) rfl rfl ti25 (sv (d := .ref _ _) (agr hA rfl rfl)) (agi hA rfl rfl) (sv (d := .agg [.str _, .int _ _, .int _ _]) (agr hA rfl rfl)) rfl rfl rfl (nle rfl) rfl)) ?_
            refine .cons (lop rfl rfl fun S hA => (iop_assign rfl rfl (by decide) (sv (d := .slice _ _) (agr hA rfl rfl)))) ?_
            exact .nil
          refine iwp_seq ?_
          obtain ⟨x46, hx46, h⟩ := bnd_e h
          obtain ⟨x47, hx47, h⟩ := bno_e h
          obtain ⟨x48, hx48, h⟩ := bnd_e h
          obtain ⟨x49, hx49, h⟩ := bnd_e h
          refine iwp_reg (ils_cons rfl (iop_move rfl rfl (by decide) (sv (d := .slice _ _) rfl)) <|
            ils_cons rfl (iop_lenT E_frame_Frame (l := x45.2) rfl rfl (by decide) Try.underlying26 (sv (d := .slice _ _) rfl)) <|
            ils_cons rfl (iop_cmpx rfl rfl (by decide) (sv (d := .int _ _) rfl) (sv (d := .int _ 1) rfl) rfl hx46) <|
            ils_cons rfl (iop_move rfl rfl (by decide) (sv (d := .bool _) rfl)) <|
            ils_guard rfl rfl (.one rfl) rfl (by decide) (fun hb => (iop_load_ra (cs := [.str _, .int _ _, .int _ _]) rfl rfl (by decide) Try.underlying25 ag25 ti25 (by decide) (sv (d := .ref _ _) rfl) rfl (nle rfl) rfl)) <|
            ils_guard rfl rfl (.one rfl) rfl (by decide) (fun hb => (iop_call (r := .int _ _) rfl rfl (by decide) cl8 (.cons (svc (d := .agg [.str x45.1.Buf, .int .i64 x45.1.Bad, .int .i64 x45.1.Seen]) rfl hb) .nil) rfl (p_deframe_Check _ _ (gd_t hx47 hb)))) <|
            ils_guard rfl rfl (.one rfl) rfl (by decide) (fun hb => (iop_cmpx rfl rfl (by decide) (svc (d := .int _ _) rfl hb) (sv (d := .int _ 0) rfl) rfl hx48)) <|
            ils_cons rfl (iop_orx rfl rfl (by decide) (sv (d := .bool _) rfl) rfl rfl hx49) <|
            ils_end ?_)
          refine iwp_cond (b := _) rfl (fun hc50 => ?_) (fun hc50 => ?_)
          ·
            replace h := bif_t h hc50
            refine iwp_reg (ils_cons rfl (iop_assign rfl rfl (by decide) (sv (d := .bool false) rfl)) <|
              ils_end ?_)
            refine iwp_ret ?_
            refine thenQ_r ?_
            refine blockQ_r ?_
            refine thenQ_r ?_
            refine thenQ_r ?_
            refine blockQ_r ?_
            refine thenQ_r ?_
            obtain rfl := Option.some.inj h
            refine ⟨.inr rfl, (.cons (sv rfl) .nil)⟩
          ·
            replace h := bif_f h hc50
            refine iwp_skip ?_
            refine thenQ_n ?_
            obtain ⟨x51, hx51, h⟩ := bno_e h
            refine iwp_draw rfl [⟨[14], [25], [(73, .agg [.str x45.1.Buf, .int .i64 x45.1.Bad, .int .i64 x45.1.Seen])], []⟩,
              ⟨[12], [], [(74, .gsl 24 E_frame_Frame.sz (v24.map E_frame_Frame.d))], []⟩,
              ⟨[15], [], [(75, .slice false (x45.2.map E_frame_Frame.d))], []⟩,
              ⟨[74, 75], [24, 26], [(76, .gsl 26 E_frame_Frame.sz (x51.map E_frame_Frame.d))], [(26, .tail 44 E_frame_Frame.sz x51.length), (24, .none)]⟩,
              ⟨[11, 73], [2], [], [(2, .blk 25 [.str x45.1.Buf, .int .i64 x45.1.Bad, .int .i64 x45.1.Seen])]⟩,
              ⟨[76], [], [(12, .gsl 26 E_frame_Frame.sz (x51.map E_frame_Frame.d))], []⟩] rfl ?_ (by kernel_rfl) ?_
            · refine .cons (lop rfl rfl fun S hA => (iop_load_ra (cs := [.str _, .int _ _, .int _ _]) rfl rfl (by decide) Try.underlying25 ag25 ti25 (by decide) (sv (d := .ref _ _) (agr hA rfl rfl)) (agi hA rfl rfl) (nle rfl) rfl)) ?_
              refine .cons (lop rfl rfl fun S hA => (iop_move rfl rfl (by decide) (sv (d := .gsl _ _ _) (agr hA rfl rfl)))) ?_
              refine .cons (lop rfl rfl fun S hA => (iop_move rfl rfl (by decide) (sv (d := .slice _ _) (agr hA rfl rfl)))) ?_
              refine .cons (lop rfl rfl fun S hA => (iop_appT E_frame_Frame 26 rfl rfl (by decide) Try.underlying26 ti44 rfl (agr hA rfl rfl) (agi hA rfl rfl) (agi hA rfl rfl) (sv (d := .slice _ _) (agr hA rfl rfl)) hx51)) ?_
              refine .cons (lop rfl rfl fun S hA => (iop_store (ds' := [.str _, .int _ _, .int _ _]) rfl rfl ti25 (sv (d := .ref _ _) (agr hA rfl rfl)) (agi hA rfl rfl) (sv (d := .agg [.str _, .int _ _, .int _ _]) (agr hA rfl rfl)) rfl rfl rfl (nle rfl) rfl)) ?_
              refine .cons (lop rfl rfl fun S hA => (iop_assign rfl rfl (by decide) (sv (d := .gsl _ _ _) (agr hA rfl rfl)))) ?_
              exact .nil
            refine blockQ_n ?_
            refine thenQ_n ?_
            obtain ⟨x52, hx52, h⟩ := bnd_e h
            refine iwp_region (ils_cons rfl (iop_move rfl rfl (by decide) (sv (d := .int _ _) rfl)) <|
              ils_cons rfl (iop_intx rfl rfl (by decide) (sv (d := .int _ _) rfl) (sv (d := .int _ 1) rfl) rfl hx52) <|
              ils_cons rfl (iop_assign rfl rfl (by decide) (sv (d := .int _ _) rfl)) <|
              ils_nil ?_)
            refine thenQ_n ⟨(n0, x51, x52, x45.1.Buf, x45.1.Bad, x45.1.Seen), (fun i => if i = 24 then 26 else i), ⟨(.cons (.same rfl rfl) (.cons (.same rfl rfl) (.cons (.same rfl rfl) (.cons (.same rfl rfl) (.cons (.same rfl rfl) (.cons (.same rfl rfl) (.cons (.same rfl rfl) (.cons (.same rfl rfl) (.cons (.same rfl rfl) .nil))))))))), (.cons (.blk rfl rfl rfl) (.cons (.blk rfl rfl rfl) (.cons (.blk rfl rfl rfl) (.cons (.tail rfl) .nil)))), nd_of [0, 1, 2, 26] rfl (by decide), (fun i hi => by first | rfl | (show (if _ then _ else _) = _; (repeat' split) <;> omega))⟩, ?_, ?_⟩
            exact h
            exact Nat.lt_succ_self _
        ·
          replace h := bif_f h hc42
          refine iwp_exit ?_
          refine thenQ_e ?_
          refine thenQ_e ?_
          refine blockQ_e ?_
          refine thenQ_n ?_
          obtain ⟨x53, hx53, h⟩ := bno_e h
          obtain ⟨x54, hx54, h⟩ := bno_e h
          refine iwp_reg (ils_cons rfl (iop_bsT E_frame_Frame ([] : (List T_frame_Frame)) 25 rfl rfl (by decide) Try.underlying26 ti44 rfl .nil rfl rfl (by decide)) <|
            ils_cons rfl (iop_move rfl rfl (by decide) (sv (d := .slice _ _) rfl)) <|
            ils_cons rfl (iop_appT E_frame_Frame 26 rfl rfl (by decide) Try.underlying26 ti44 rfl rfl rfl rfl (sv (d := .slice _ _) rfl) hx53) <|
            ils_cons rfl (iop_move rfl rfl (by decide) (sv (d := .slice _ _) rfl)) <|
            ils_cons rfl (iop_appT E_frame_Frame 27 rfl rfl (by decide) Try.underlying26 ti44 rfl rfl rfl rfl (sv (d := .slice _ _) rfl) hx54) <|
            ils_cons rfl (iop_assign rfl rfl (by decide) (sv (d := .gsl _ _ _) rfl)) <|
            ils_end ?_)
          obtain ⟨x55, hx55, h⟩ := bnd_e h
          obtain ⟨x56, hx56, h⟩ := bnd_e h
          obtain ⟨x57, hx57, h⟩ := bnd_e h
          obtain ⟨x58, hx58, h⟩ := bno_e h
          obtain ⟨x59, hx59, h⟩ := bno_e h
          obtain ⟨x60, hx60, h⟩ := bno_e h
          obtain ⟨x61, hx61, h⟩ := bnd_e h
          obtain ⟨x62, hx62, h⟩ := bno_e h
          obtain ⟨x63, hx63, h⟩ := bno_e h
          obtain ⟨x64, hx64, h⟩ := bno_e h
          obtain ⟨x65, hx65, h⟩ := bnd_e h
          obtain ⟨x66, hx66, h⟩ := bnd_e h
          obtain ⟨x67, hx67, h⟩ := bnd_e h
          obtain ⟨x68, hx68, h⟩ := bno_e h
          obtain ⟨x69, hx69, h⟩ := bnd_e h
          refine iwp_reg (ils_cons rfl (iop_load_ra (cs := [.str _, .int _ _, .int _ _]) rfl rfl (by decide) Try.underlying25 ag25 ti25 (by decide) (sv (d := .ref _ _) rfl) rfl (nle rfl) rfl) <|
            ils_cons rfl (iop_load_ra (cs := [.str _, .int _ _, .int _ _]) rfl rfl (by decide) Try.underlying25 ag25 ti25 (by decide) (sv (d := .ref _ _) rfl) rfl (nle rfl) rfl) <|
            ils_cons rfl (iop_eqs rfl rfl (by decide) Try.underlying25 st25.1 st25.2 (sv (d := .agg [.str _, .int _ _, .int _ _]) rfl) (sv (d := .agg [.str _, .int _ _, .int _ _]) rfl) (congrArg some hx55)) <|
            ils_cons rfl (iop_move rfl rfl (by decide) (sv (d := .bool _) rfl)) <|
            ils_guard rfl rfl (.one rfl) rfl (by decide) (fun hb => (iop_load_ra (cs := [.str _, .int _ _, .int _ _]) rfl rfl (by decide) Try.underlying25 ag25 ti25 (by decide) (sv (d := .ref _ _) rfl) rfl (nle rfl) rfl)) <|
            ils_guard rfl rfl (.one rfl) rfl (by decide) (fun hb => (iop_load_ra (cs := [.str _, .int _ _, .int _ _]) rfl rfl (by decide) Try.underlying25 ag25 ti25 (by decide) (sv (d := .ref _ _) rfl) rfl (nle rfl) rfl)) <|
            ils_guard rfl rfl (.one rfl) rfl (by decide) (fun hb => (iop_eqs rfl rfl (by decide) Try.underlying25 st25.1 st25.2 (svc (d := .agg [.str x7.1.Buf, .int .i64 x7.1.Bad, .int .i64 x7.1.Seen]) rfl hb) (svc (d := .agg [.str v26, .int .i64 v27, .int .i64 v28]) rfl hb) (congrArg some hx56))) <|
            ils_cons rfl (iop_andx rfl rfl (by decide) (sv (d := .bool _) rfl) rfl rfl hx57) <|
            ils_cons rfl (iop_move rfl rfl (by decide) (sv (d := .bool _) rfl)) <|
            ils_guard rfl rfl (.one rfl) rfl (by decide) (fun hb => (iop_move rfl rfl (by decide) (sv (d := .slice _ _) rfl))) <|
            ils_guard rfl rfl (.one rfl) rfl (by decide) (fun hb => (iop_call (r := .slice _ _) rfl rfl (by decide) cl10 (.cons (svc (d := .slice _ _) rfl hb) .nil) rfl (p_sennitlaw16_Frames _ _ (gd_t hx58 hb)))) <|
            ils_guard rfl rfl (.one rfl) rfl (by decide) (fun hb => (iop_move rfl rfl (by decide) (sv (d := .gsl _ _ _) rfl))) <|
            ils_guard rfl rfl (.one rfl) rfl (by decide) (fun hb => (iop_call (r := .slice _ _) rfl rfl (by decide) cl10 (.cons (SV.gsls (svc (d := .gsl 27 E_frame_Frame.sz (x54.map E_frame_Frame.d)) rfl hb)) .nil) rfl (p_sennitlaw16_Frames _ _ (gd_t hx59 hb)))) <|
            ils_guard rfl rfl (.one rfl) rfl (by decide) (fun hb => (iop_call (r := .bool _) rfl rfl (by decide) cl9 (.cons (svc (d := .slice _ _) rfl hb) (.cons (svc (d := .slice _ _) rfl hb) .nil)) rfl (p_sennitref15_SameAll _ _ _ (gd_t hx60 hb)))) <|
            ils_cons rfl (iop_andx rfl rfl (by decide) (sv (d := .bool _) rfl) rfl rfl hx61) <|
            ils_cons rfl (iop_move rfl rfl (by decide) (sv (d := .bool _) rfl)) <|
            ils_guard rfl rfl (.one rfl) rfl (by decide) (fun hb => (iop_move rfl rfl (by decide) (sv (d := .slice _ _) rfl))) <|
            ils_guard rfl rfl (.one rfl) rfl (by decide) (fun hb => (iop_call (r := .slice _ _) rfl rfl (by decide) cl10 (.cons (svc (d := .slice _ _) rfl hb) .nil) rfl (p_sennitlaw16_Frames _ _ (gd_t hx62 hb)))) <|
            ils_guard rfl rfl (.one rfl) rfl (by decide) (fun hb => (iop_move rfl rfl (by decide) (sv (d := .gsl _ _ _) rfl))) <|
            ils_guard rfl rfl (.one rfl) rfl (by decide) (fun hb => (iop_call (r := .slice _ _) rfl rfl (by decide) cl10 (.cons (SV.gsls (svc (d := .gsl 24 E_frame_Frame.sz (v24.map E_frame_Frame.d)) rfl hb)) .nil) rfl (p_sennitlaw16_Frames _ _ (gd_t hx63 hb)))) <|
            ils_guard rfl rfl (.one rfl) rfl (by decide) (fun hb => (iop_call (r := .bool _) rfl rfl (by decide) cl9 (.cons (svc (d := .slice _ _) rfl hb) (.cons (svc (d := .slice _ _) rfl hb) .nil)) rfl (p_sennitref15_SameAll _ _ _ (gd_t hx64 hb)))) <|
            ils_cons rfl (iop_andx rfl rfl (by decide) (sv (d := .bool _) rfl) rfl rfl hx65) <|
            ils_cons rfl (iop_move rfl rfl (by decide) (sv (d := .bool _) rfl)) <|
            ils_guard rfl rfl (.one rfl) rfl (by decide) (fun hb => (iop_fieldAddr_ref rfl rfl (by decide) Try.underlying25 rfl ti3 (by decide) (sv (d := .ref _ _) rfl) (off' := 2) rfl)) <|
            ils_guard rfl rfl (.one rfl) rfl (by decide) (fun hb => (iop_load_rs (d := .int _ _) rfl rfl (by decide) Try.underlying3 ag3 ti3 (by decide) (svc (d := .ref _ _) rfl hb) rfl (nle rfl) rfl)) <|
            ils_guard rfl rfl (.one rfl) rfl (by decide) (fun hb => (iop_move rfl rfl (by decide) (sv (d := .slice _ _) rfl))) <|
            ils_guard rfl rfl (.one rfl) rfl (by decide) (fun hb => (iop_lenT E_frame_Frame (l := x7.2) rfl rfl (by decide) Try.underlying26 (svc (d := .slice _ _) rfl hb))) <|
            ils_guard rfl rfl (.one rfl) rfl (by decide) (fun hb => (iop_cmpx rfl rfl (by decide) (svc (d := .int _ _) rfl hb) (svc (d := .int _ _) rfl hb) rfl hx66)) <|
            ils_cons rfl (iop_andx rfl rfl (by decide) (sv (d := .bool _) rfl) rfl rfl hx67) <|
            ils_cons rfl (iop_move rfl rfl (by decide) (sv (d := .bool _) rfl)) <|
            ils_guard rfl rfl (.one rfl) rfl (by decide) (fun hb => (iop_call (r := .bool _) rfl rfl (by decide) cl6 .nil rfl (p_sennitlaw16_awake  _ (gd_t hx68 hb)))) <|
            ils_cons rfl (iop_andx rfl rfl (by decide) (sv (d := .bool _) rfl) rfl rfl hx69) <|
            ils_cons rfl (iop_assign rfl rfl (by decide) (sv (d := .bool _) rfl)) <|
            ils_end ?_)
          refine iwp_ret ?_
          obtain rfl := Option.some.inj h
          refine ⟨.inr rfl, (.cons (sv rfl) .nil)⟩

set_option maxRecDepth 8000 in
set_option maxHeartbeats 2000000 in
theorem p_sennitlaw16_DeframeBad (a0 : (List UInt8)) (a1 : (List UInt8)) (a2 : Int) (r : Bool) (h : sennitlaw16_DeframeBad a0 a1 a2 = some r) : PureAt Try.prog 4 [.str a0, .str a1, .int .u8 a2] (.bool r) := by
  refine pure_of_iwp (rs := [.bool r]) Try.func4 rfl Try.ntmps4 (nle rfl) rfl fun O hO => ?_
  show IWP _ _ _ _ ⟨[(0, .str a0), (1, .str a1), (2, .int .u8 a2)], []⟩ _
  unfold sennitlaw16_DeframeBad at h
  refine iwp_reg (ils_cons rfl (iop_assign rfl rfl (by decide) (sv (d := .bool false) rfl)) <|
    ils_end ?_)
  refine iwp_seq ?_
  obtain ⟨x1, hx1, h⟩ := bnd_e h
  obtain ⟨x2, hx2, h⟩ := bnd_e h
  obtain ⟨x3, hx3, h⟩ := bnd_e h
  refine iwp_reg (ils_cons rfl (iop_move rfl rfl (by decide) (sv (d := .str _) rfl)) <|
    ils_cons rfl (iop_len_str rfl rfl (by decide) Try.underlying9 (sv (d := .str _) rfl) rfl) <|
    ils_cons rfl (iop_cmpx rfl rfl (by decide) (sv (d := .int _ _) rfl) (sv (d := .int _ 100) rfl) rfl hx1) <|
    ils_cons rfl (iop_move rfl rfl (by decide) (sv (d := .bool _) rfl)) <|
    ils_guard rfl rfl (.one rfl) rfl (by decide) (fun hb => (iop_move rfl rfl (by decide) (sv (d := .str _) rfl))) <|
    ils_guard rfl rfl (.one rfl) rfl (by decide) (fun hb => (iop_len_str rfl rfl (by decide) Try.underlying9 (svc (d := .str _) rfl hb) rfl)) <|
    ils_guard rfl rfl (.one rfl) rfl (by decide) (fun hb => (iop_cmpx rfl rfl (by decide) (svc (d := .int _ _) rfl hb) (sv (d := .int _ 100) rfl) rfl hx2)) <|
    ils_cons rfl (iop_orx rfl rfl (by decide) (sv (d := .bool _) rfl) rfl rfl hx3) <|
    ils_end ?_)
  refine iwp_cond (b := _) rfl (fun hc4 => ?_) (fun hc4 => ?_)
  ·
    replace h := bif_t h hc4
    obtain ⟨x5, hx5, h⟩ := bno_e h
    refine iwp_reg (ils_cons rfl (iop_call (r := .bool _) rfl rfl (by decide) cl6 .nil rfl (p_sennitlaw16_awake  _ hx5)) <|
      ils_cons rfl (iop_assign rfl rfl (by decide) (sv (d := .bool _) rfl)) <|
      ils_end ?_)
    refine iwp_ret ?_
    refine thenQ_r ?_
    obtain rfl := Option.some.inj h
    refine ⟨.inr rfl, (.cons (sv rfl) .nil)⟩
  ·
    replace h := bif_f h hc4
    refine iwp_skip ?_
    refine thenQ_n ?_
    obtain ⟨x6, hx6, h⟩ := bno_e h
    obtain ⟨x7, hx7, h⟩ := bno_e h
    obtain ⟨x8, hx8, h⟩ := bno_e h
    refine iwp_reg (ils_cons rfl (iop_build_struct (cs := [.str _, .int _ _, .int _ _]) rfl rfl (by decide) Try.underlying25 ti25 pl25 rfl .nil rfl) <|
      ils_cons rfl (iop_move rfl rfl (by decide) (sv (d := .str _) rfl)) <|
      ils_cons rfl (iop_catx rfl rfl (by decide) (sv (d := .str _) rfl) (sv (d := .str [5]) rfl) hx6) <|
      ils_cons rfl (iop_move rfl rfl (by decide) (sv (d := .str _) rfl)) <|
      ils_cons rfl (iop_catx rfl rfl (by decide) (sv (d := .str _) rfl) (sv (d := .str _) rfl) hx7) <|
      ils_cons rfl (iop_call (r := .tuple [.agg [.str _, .int _ _, .int _ _], .slice _ _]) rfl rfl (by decide) cl7 (.cons (sv (d := .agg [.str _, .int _ _, .int _ _]) rfl) (.cons (sv (d := .str _) rfl) .nil)) rfl (p_deframe_Feed _ _ _ hx8)) <|
      ils_cons rfl (iop_move rfl rfl (by decide) (sv (d := .tuple [.agg [.str _, .int _ _, .int _ _], .slice _ _]) rfl)) <|
      ils_cons rfl (iop_extract (d := .agg [.str _, .int _ _, .int _ _]) rfl rfl (by decide) (sv (d := .tuple [.agg [.str _, .int _ _, .int _ _], .slice _ _]) rfl) rfl) <|
      ils_cons rfl (iop_extract (d := .slice _ _) rfl rfl (by decide) (sv (d := .tuple [.agg [.str _, .int _ _, .int _ _], .slice _ _]) rfl) rfl) <|
      ils_cons rfl (iop_allocS (cs := [.str _, .int _ _, .int _ _]) (cs' := [.str [], .int .i64 0, .int .i64 0]) 0 rfl rfl (by decide) rfl ti25 rfl rfl (.cons (.refl _) (.cons (.refl _) (.cons (.refl _) .nil)))) <|
      ils_cons rfl (iop_store (ds' := [.str _, .int _ _, .int _ _]) rfl rfl ti25 (sv (d := .ref _ _) rfl) rfl (sv (d := .agg [.str _, .int _ _, .int _ _]) rfl) rfl rfl rfl (nle rfl) rfl) <|
      ils_cons rfl (iop_assign rfl rfl (by decide) (sv (d := .slice _ _) rfl)) <|
      ils_end ?_)
    obtain ⟨x9, hx9, h⟩ := bnd_e h
    obtain ⟨x10, hx10, h⟩ := bnd_e h
    obtain ⟨x11, hx11, h⟩ := bno_e h
    refine iwp_reg (ils_cons rfl (iop_move rfl rfl (by decide) (sv (d := .int _ _) rfl)) <|
      ils_cons rfl (iop_int_conv rfl rfl (by decide) ⟨_, Try.underlying5⟩ Try.underlying3 (sv (d := .int _ _) rfl) hx9) <|
      ils_cons rfl (iop_move rfl rfl (by decide) (sv (d := .str _) rfl)) <|
      ils_cons rfl (iop_len_str rfl rfl (by decide) Try.underlying9 (sv (d := .str _) rfl) rfl) <|
      ils_cons rfl (iop_intx rfl rfl (by decide) (sv (d := .int _ _) rfl) (sv (d := .int _ 1) rfl) rfl hx10) <|
      ils_cons rfl (iop_remx rfl rfl (by decide) (sv (d := .int _ _) rfl) (sv (d := .int _ _) rfl) hx11) <|
      ils_cons rfl (iop_assign rfl rfl (by decide) (sv (d := .int _ _) rfl)) <|
      ils_end ?_)
    obtain ⟨x12, hx12, h⟩ := bno_e h
    obtain ⟨x13, hx13, h⟩ := bno_e h
    refine iwp_reg (ils_cons rfl (iop_build_struct (cs := [.str _, .int _ _, .int _ _]) rfl rfl (by decide) Try.underlying25 ti25 pl25 rfl .nil rfl) <|
      ils_cons rfl (iop_move rfl rfl (by decide) (sv (d := .str _) rfl)) <|
      ils_cons rfl (iop_move rfl rfl (by decide) (sv (d := .int _ _) rfl)) <|
      ils_cons rfl (iop_cutS rfl rfl (by decide) Try.underlying9 (sv (d := .str _) rfl) rfl ⟨_, (sv (d := .int _ _) rfl)⟩ hx12) <|
      ils_cons rfl (iop_call (r := .tuple [.agg [.str _, .int _ _, .int _ _], .slice _ _]) rfl rfl (by decide) cl7 (.cons (sv (d := .agg [.str _, .int _ _, .int _ _]) rfl) (.cons (sv (d := .str _) rfl) .nil)) rfl (p_deframe_Feed _ _ _ hx13)) <|
      ils_cons rfl (iop_move rfl rfl (by decide) (sv (d := .tuple [.agg [.str _, .int _ _, .int _ _], .slice _ _]) rfl)) <|
      ils_cons rfl (iop_extract (d := .agg [.str _, .int _ _, .int _ _]) rfl rfl (by decide) (sv (d := .tuple [.agg [.str _, .int _ _, .int _ _], .slice _ _]) rfl) rfl) <|
      ils_cons rfl (iop_extract (d := .slice _ _) rfl rfl (by decide) (sv (d := .tuple [.agg [.str _, .int _ _, .int _ _], .slice _ _]) rfl) rfl) <|
      ils_cons rfl (iop_allocS (cs := [.str _, .int _ _, .int _ _]) (cs' := [.str [], .int .i64 0, .int .i64 0]) 1 rfl rfl (by decide) rfl ti25 rfl rfl (.cons (.refl _) (.cons (.refl _) (.cons (.refl _) .nil)))) <|
      ils_cons rfl (iop_store (ds' := [.str _, .int _ _, .int _ _]) rfl rfl ti25 (sv (d := .ref _ _) rfl) rfl (sv (d := .agg [.str _, .int _ _, .int _ _]) rfl) rfl rfl rfl (nle rfl) rfl) <|
      ils_cons rfl (iop_assign rfl rfl (by decide) (sv (d := .slice _ _) rfl)) <|
      ils_end ?_)
    obtain ⟨x14, hx14, h⟩ := bno_e h
    obtain ⟨x15, hx15, h⟩ := bno_e h
    obtain ⟨x16, hx16, h⟩ := bno_e h
    obtain ⟨x17, hx17, h⟩ := bno_e h
    refine iwp_drw rfl [⟨[10], [1], [(51, .agg [.str x13.1.Buf, .int .i64 x13.1.Bad, .int .i64 x13.1.Seen])], []⟩,
      ⟨[0], [], [(52, .str a0)], []⟩,
      ⟨[9], [], [(53, .int .i64 x11)], []⟩,
      ⟨[52, 53], [], [(54, .str x14)], []⟩,
      ⟨[54], [], [(55, .str x15)], []⟩,
      ⟨[1], [], [(56, .str a1)], []⟩,
      ⟨[55, 56], [], [(57, .str x16)], []⟩,
      ⟨[51, 57], [], [(58, .tuple [.agg [.str x17.1.Buf, .int .i64 x17.1.Bad, .int .i64 x17.1.Seen], .slice false (x17.2.map E_frame_Frame.d)])], []⟩,
      ⟨[58], [], [(50, .tuple [.agg [.str x17.1.Buf, .int .i64 x17.1.Bad, .int .i64 x17.1.Seen], .slice false (x17.2.map E_frame_Frame.d)])], []⟩,
      ⟨[50], [], [(59, .agg [.str x17.1.Buf, .int .i64 x17.1.Bad, .int .i64 x17.1.Seen])], []⟩,
      ⟨[50], [], [(60, .slice false (x17.2.map E_frame_Frame.d))], []⟩,
      ⟨[], [2], [(12, .ref 2 0)], [(2, .blk 25 [.str [], .int .i64 0, .int .i64 0])]⟩,
      ⟨[12, 59], [2], [], [(2, .blk 25 [.str x17.1.Buf, .int .i64 x17.1.Bad, .int .i64 x17.1.Seen])]⟩,
      ⟨[60], [], [(13, .slice false (x17.2.map E_frame_Frame.d))], []⟩] rfl ?_ (by kernel_rfl) ?_
    · refine .cons (lop rfl rfl fun S hA => (iop_load_ra (cs := [.str _, .int _ _, .int _ _]) rfl rfl (by decide) Try.underlying25 ag25 ti25 (by decide) (sv (d := .ref _ _) (agr hA rfl rfl)) (agi hA rfl rfl) (nle rfl) rfl)) ?_
      refine .cons (lop rfl rfl fun S hA => (iop_move rfl rfl (by decide) (sv (d := .str _) (agr hA rfl rfl)))) ?_
      refine .cons (lop rfl rfl fun S hA => (iop_move rfl rfl (by decide) (sv (d := .int _ _) (agr hA rfl rfl)))) ?_
      refine .cons (lop rfl rfl fun S hA => (iop_cutS rfl rfl (by decide) Try.underlying9 (sv (d := .str _) (agr hA rfl rfl)) ⟨_, (sv (d := .int _ _) (agr hA rfl rfl))⟩ rfl hx14)) ?_
      refine .cons (lop rfl rfl fun S hA => (iop_catx rfl rfl (by decide) (sv (d := .str _) (agr hA rfl rfl)) (sv (d := .str [5]) rfl) hx15)) ?_
      refine .cons (lop rfl rfl fun S hA => (iop_move rfl rfl (by decide) (sv (d := .str _) (agr hA rfl rfl)))) ?_
      refine .cons (lop rfl rfl fun S hA => (iop_catx rfl rfl (by decide) (sv (d := .str _) (agr hA rfl rfl)) (sv (d := .str _) (agr hA rfl rfl)) hx16)) ?_
      refine .cons (lop rfl rfl fun S hA => (iop_call (r := .tuple [.agg [.str _, .int _ _, .int _ _], .slice _ _]) rfl rfl (by decide) cl7 (.cons (sv (d := .agg [.str _, .int _ _, .int _ _]) (agr hA rfl rfl)) (.cons (sv (d := .str _) (agr hA rfl rfl)) .nil)) rfl (p_deframe_Feed _ _ _ hx17))) ?_
      refine .cons (lop rfl rfl fun S hA => (iop_move rfl rfl (by decide) (sv (d := .tuple [.agg [.str _, .int _ _, .int _ _], .slice _ _]) (agr hA rfl rfl)))) ?_
      refine .cons (lop rfl rfl fun S hA => (iop_extract (d := .agg [.str _, .int _ _, .int _ _]) rfl rfl (by decide) (sv (d := .tuple [.agg [.str _, .int _ _, .int _ _], .slice _ _]) (agr hA rfl rfl)) rfl)) ?_
      refine .cons (lop rfl rfl fun S hA => (iop_extract (d := .slice _ _) rfl rfl (by decide) (sv (d := .tuple [.agg [.str _, .int _ _, .int _ _], .slice _ _]) (agr hA rfl rfl)) rfl)) ?_
      refine .cons (lop rfl rfl fun S hA => (iop_allocS (cs := [.str _, .int _ _, .int _ _]) (cs' := [.str [], .int .i64 0, .int .i64 0]) 2 rfl rfl (by decide) (agi hA rfl rfl) ti25 rfl rfl (.cons (.refl _) (.cons (.refl _) (.cons (.refl _) .nil))))) ?_
      refine .cons (lop rfl rfl fun S hA => (iop_store (ds' := [.str _, .int _ _, .int _ _]) rfl rfl ti25 (sv (d := .ref _ _) (agr hA rfl rfl)) (agi hA rfl rfl) (sv (d := .agg [.str _, .int _ _, .int _ _]) (agr hA rfl rfl)) rfl rfl rfl (nle rfl) rfl)) ?_
      refine .cons (lop rfl rfl fun S hA => (iop_assign rfl rfl (by decide) (sv (d := .slice _ _) (agr hA rfl rfl)))) ?_
      exact .nil
    refine iwp_seq ?_
    obtain ⟨x18, hx18, h⟩ := bnd_e h
    obtain ⟨x19, hx19, h⟩ := bnd_e h
    obtain ⟨x20, hx20, h⟩ := bnd_e h
    obtain ⟨x21, hx21, h⟩ := bnd_e h
    refine iwp_reg (ils_cons rfl (iop_load_ra (cs := [.str _, .int _ _, .int _ _]) rfl rfl (by decide) Try.underlying25 ag25 ti25 (by decide) (sv (d := .ref _ _) rfl) rfl (nle rfl) rfl) <|
      ils_cons rfl (iop_load_ra (cs := [.str _, .int _ _, .int _ _]) rfl rfl (by decide) Try.underlying25 ag25 ti25 (by decide) (sv (d := .ref _ _) rfl) rfl (nle rfl) rfl) <|
      ils_cons rfl (iop_nes rfl rfl (by decide) Try.underlying25 st25.1 st25.2 (sv (d := .agg [.str _, .int _ _, .int _ _]) rfl) (sv (d := .agg [.str _, .int _ _, .int _ _]) rfl) (congrArg some hx18)) <|
      ils_cons rfl (iop_move rfl rfl (by decide) (sv (d := .bool _) rfl)) <|
      ils_guard rfl rfl (.one rfl) rfl (by decide) (fun hb => (iop_move rfl rfl (by decide) (sv (d := .slice _ _) rfl))) <|
      ils_guard rfl rfl (.one rfl) rfl (by decide) (fun hb => (iop_lenT E_frame_Frame (l := x8.2) rfl rfl (by decide) Try.underlying26 (svc (d := .slice _ _) rfl hb))) <|
      ils_guard rfl rfl (.one rfl) rfl (by decide) (fun hb => (iop_move rfl rfl (by decide) (sv (d := .slice _ _) rfl))) <|
      ils_guard rfl rfl (.one rfl) rfl (by decide) (fun hb => (iop_lenT E_frame_Frame (l := x13.2) rfl rfl (by decide) Try.underlying26 (svc (d := .slice _ _) rfl hb))) <|
      ils_guard rfl rfl (.one rfl) rfl (by decide) (fun hb => (iop_move rfl rfl (by decide) (sv (d := .slice _ _) rfl))) <|
      ils_guard rfl rfl (.one rfl) rfl (by decide) (fun hb => (iop_lenT E_frame_Frame (l := x17.2) rfl rfl (by decide) Try.underlying26 (svc (d := .slice _ _) rfl hb))) <|
      ils_guard rfl rfl (.one rfl) rfl (by decide) (fun hb => (iop_intx rfl rfl (by decide) (svc (d := .int _ _) rfl hb) (svc (d := .int _ _) rfl hb) rfl hx19)) <|
      ils_guard rfl rfl (.one rfl) rfl (by decide) (fun hb => (iop_cmpx rfl rfl (by decide) (svc (d := .int _ _) rfl hb) (svc (d := .int _ _) rfl hb) rfl hx20)) <|
      ils_cons rfl (iop_orx rfl rfl (by decide) (sv (d := .bool _) rfl) rfl rfl hx21) <|
      ils_end ?_)
    refine iwp_cond (b := _) rfl (fun hc22 => ?_) (fun hc22 => ?_)
    ·
      replace h := bif_t h hc22
      refine iwp_reg (ils_cons rfl (iop_assign rfl rfl (by decide) (sv (d := .bool false) rfl)) <|
        ils_end ?_)
      refine iwp_ret ?_
      refine thenQ_r ?_
      obtain rfl := Option.some.inj h
      refine ⟨.inr rfl, (.cons (sv rfl) .nil)⟩
    ·
      replace h := bif_f h hc22
      refine iwp_skip ?_
      refine thenQ_n ?_
      obtain ⟨x23, hx23, h⟩ := bno_e h
      refine iwp_reg (ils_cons rfl (iop_load_ra (cs := [.str _, .int _ _, .int _ _]) rfl rfl (by decide) Try.underlying25 ag25 ti25 (by decide) (sv (d := .ref _ _) rfl) rfl (nle rfl) rfl) <|
        ils_cons rfl (iop_move rfl rfl (by decide) (sv (d := .str _) rfl)) <|
        ils_cons rfl (iop_call (r := .tuple [.agg [.str _, .int _ _, .int _ _], .slice _ _]) rfl rfl (by decide) cl7 (.cons (sv (d := .agg [.str _, .int _ _, .int _ _]) rfl) (.cons (sv (d := .str _) rfl) .nil)) rfl (p_deframe_Feed _ _ _ hx23)) <|
        ils_cons rfl (iop_move rfl rfl (by decide) (sv (d := .tuple [.agg [.str _, .int _ _, .int _ _], .slice _ _]) rfl)) <|
        ils_cons rfl (iop_extract (d := .agg [.str _, .int _ _, .int _ _]) rfl rfl (by decide) (sv (d := .tuple [.agg [.str _, .int _ _, .int _ _], .slice _ _]) rfl) rfl) <|
        ils_cons rfl (iop_extract (d := .slice _ _) rfl rfl (by decide) (sv (d := .tuple [.agg [.str _, .int _ _, .int _ _], .slice _ _]) rfl) rfl) <|
        ils_cons rfl (iop_allocS (cs := [.str _, .int _ _, .int _ _]) (cs' := [.str [], .int .i64 0, .int .i64 0]) 3 rfl rfl (by decide) rfl ti25 rfl rfl (.cons (.refl _) (.cons (.refl _) (.cons (.refl _) .nil)))) <|
        ils_cons rfl (iop_store (ds' := [.str _, .int _ _, .int _ _]) rfl rfl ti25 (sv (d := .ref _ _) rfl) rfl (sv (d := .agg [.str _, .int _ _, .int _ _]) rfl) rfl rfl rfl (nle rfl) rfl) <|
        ils_cons rfl (iop_assign rfl rfl (by decide) (sv (d := .slice _ _) rfl)) <|
        ils_end ?_)
      refine iwp_seq ?_
      obtain ⟨x24, hx24, h⟩ := bnd_e h
      obtain ⟨x25, hx25, h⟩ := bnd_e h
      obtain ⟨x26, hx26, h⟩ := bnd_e h
      obtain ⟨x27, hx27, h⟩ := bnd_e h
      obtain ⟨x28, hx28, h⟩ := bno_e h
      obtain ⟨x29, hx29, h⟩ := bnd_e h
      obtain ⟨x30, hx30, h⟩ := bnd_e h
      obtain ⟨x31, hx31, h⟩ := bnd_e h
      obtain ⟨x32, hx32, h⟩ := bnd_e h
      obtain ⟨x33, hx33, h⟩ := bnd_e h
      obtain ⟨x34, hx34, h⟩ := bnd_e h
      obtain ⟨x35, hx35, h⟩ := bnd_e h
      refine iwp_reg (ils_cons rfl (iop_fieldAddr_ref rfl rfl (by decide) Try.underlying25 rfl ti23 (by decide) (sv (d := .ref _ _) rfl) (off' := 1) rfl) <|
        ils_cons rfl (iop_load_rs (d := .int _ _) rfl rfl (by decide) Try.underlying23 ag23 ti23 (by decide) (sv (d := .ref _ _) rfl) rfl (nle rfl) rfl) <|
        ils_cons rfl (iop_cmpx rfl rfl (by decide) (sv (d := .int _ _) rfl) (sv (d := .int _ 0) rfl) rfl hx24) <|
        ils_cons rfl (iop_move rfl rfl (by decide) (sv (d := .bool _) rfl)) <|
        ils_guard rfl rfl (.one rfl) rfl (by decide) (fun hb => (iop_load_ra (cs := [.str _, .int _ _, .int _ _]) rfl rfl (by decide) Try.underlying25 ag25 ti25 (by decide) (sv (d := .ref _ _) rfl) rfl (nle rfl) rfl)) <|
        ils_guard rfl rfl (.one rfl) rfl (by decide) (fun hb => (iop_load_ra (cs := [.str _, .int _ _, .int _ _]) rfl rfl (by decide) Try.underlying25 ag25 ti25 (by decide) (sv (d := .ref _ _) rfl) rfl (nle rfl) rfl)) <|
        ils_guard rfl rfl (.one rfl) rfl (by decide) (fun hb => (iop_nes rfl rfl (by decide) Try.underlying25 st25.1 st25.2 (svc (d := .agg [.str x23.1.Buf, .int .i64 x23.1.Bad, .int .i64 x23.1.Seen]) rfl hb) (svc (d := .agg [.str x8.1.Buf, .int .i64 x8.1.Bad, .int .i64 x8.1.Seen]) rfl hb) (congrArg some hx25))) <|
        ils_guard rfl rfl (.one rfl) rfl (by decide) (fun hb => (iop_move rfl rfl (by decide) (svc (d := .bool _) rfl hb))) <|
        ils_guard rfl rfl (.two rfl) rfl (by decide) (fun hb => (iop_move rfl rfl (by decide) (sv (d := .slice _ _) rfl))) <|
        ils_guard rfl rfl (.two rfl) rfl (by decide) (fun hb => (iop_lenT E_frame_Frame (l := x23.2) rfl rfl (by decide) Try.underlying26 (svc (d := .slice _ _) rfl hb))) <|
        ils_guard rfl rfl (.two rfl) rfl (by decide) (fun hb => (iop_cmpx rfl rfl (by decide) (svc (d := .int _ _) rfl hb) (sv (d := .int _ 0) rfl) rfl hx26)) <|
        ils_guard rfl rfl (.one rfl) rfl (by decide) (fun hb => (iop_or2x rfl rfl (by decide) hb (svc (d := .bool _) rfl hb) rfl rfl hx27)) <|
        ils_guard rfl rfl (.one rfl) rfl (by decide) (fun hb => (iop_move rfl rfl (by decide) (svc (d := .bool _) rfl hb))) <|
        ils_guard rfl rfl (.two rfl) rfl (by decide) (fun hb => (iop_load_ra (cs := [.str _, .int _ _, .int _ _]) rfl rfl (by decide) Try.underlying25 ag25 ti25 (by decide) (sv (d := .ref _ _) rfl) rfl (nle rfl) rfl)) <|
        ils_guard rfl rfl (.two rfl) rfl (by decide) (fun hb => (iop_call (r := .int _ _) rfl rfl (by decide) cl11 (.cons (svc (d := .agg [.str x8.1.Buf, .int .i64 x8.1.Bad, .int .i64 x8.1.Seen]) rfl hb) .nil) rfl (p_deframe_Need _ _ (gd_t hx28 hb)))) <|
        ils_guard rfl rfl (.two rfl) rfl (by decide) (fun hb => (iop_cmpx rfl rfl (by decide) (svc (d := .int _ _) rfl hb) (sv (d := .int _ 0) rfl) rfl hx29)) <|
        ils_guard rfl rfl (.one rfl) rfl (by decide) (fun hb => (iop_or2x rfl rfl (by decide) hb (svc (d := .bool _) rfl hb) rfl rfl hx30)) <|
        ils_guard rfl rfl (.one rfl) rfl (by decide) (fun hb => (iop_move rfl rfl (by decide) (svc (d := .bool _) rfl hb))) <|
        ils_guard rfl rfl (.two rfl) rfl (by decide) (fun hb => (iop_fieldAddr_ref rfl rfl (by decide) Try.underlying25 rfl ti9 (by decide) (sv (d := .ref _ _) rfl) (off' := 0) rfl)) <|
        ils_guard rfl rfl (.two rfl) rfl (by decide) (fun hb => (iop_load_rs (d := .str _) rfl rfl (by decide) Try.underlying9 ag9 ti9 (by decide) (svc (d := .ref _ _) rfl hb) rfl (nle rfl) rfl)) <|
        ils_guard rfl rfl (.two rfl) rfl (by decide) (fun hb => (iop_strx rfl rfl (by decide) (svc (d := .str _) rfl hb) (sv (d := .str []) rfl) rfl hx31)) <|
        ils_guard rfl rfl (.one rfl) rfl (by decide) (fun hb => (iop_or2x rfl rfl (by decide) hb (svc (d := .bool _) rfl hb) rfl rfl hx32)) <|
        ils_guard rfl rfl (.one rfl) rfl (by decide) (fun hb => (iop_move rfl rfl (by decide) (svc (d := .bool _) rfl hb))) <|
        ils_guard rfl rfl (.two rfl) rfl (by decide) (fun hb => (iop_fieldAddr_ref rfl rfl (by decide) Try.underlying25 rfl ti3 (by decide) (sv (d := .ref _ _) rfl) (off' := 2) rfl)) <|
        ils_guard rfl rfl (.two rfl) rfl (by decide) (fun hb => (iop_load_rs (d := .int _ _) rfl rfl (by decide) Try.underlying3 ag3 ti3 (by decide) (svc (d := .ref _ _) rfl hb) rfl (nle rfl) rfl)) <|
        ils_guard rfl rfl (.two rfl) rfl (by decide) (fun hb => (iop_move rfl rfl (by decide) (sv (d := .slice _ _) rfl))) <|
        ils_guard rfl rfl (.two rfl) rfl (by decide) (fun hb => (iop_lenT E_frame_Frame (l := x8.2) rfl rfl (by decide) Try.underlying26 (svc (d := .slice _ _) rfl hb))) <|
        ils_guard rfl rfl (.two rfl) rfl (by decide) (fun hb => (iop_cmpx rfl rfl (by decide) (svc (d := .int _ _) rfl hb) (svc (d := .int _ _) rfl hb) rfl hx33)) <|
        ils_guard rfl rfl (.one rfl) rfl (by decide) (fun hb => (iop_or2x rfl rfl (by decide) hb (svc (d := .bool _) rfl hb) rfl rfl hx34)) <|
        ils_cons rfl (iop_andx rfl rfl (by decide) (sv (d := .bool _) rfl) rfl rfl hx35) <|
        ils_end ?_)
      refine iwp_cond (b := _) rfl (fun hc36 => ?_) (fun hc36 => ?_)
      ·
        replace h := bif_t h hc36
        refine iwp_reg (ils_cons rfl (iop_assign rfl rfl (by decide) (sv (d := .bool false) rfl)) <|
          ils_end ?_)
        refine iwp_ret ?_
        refine thenQ_r ?_
        obtain rfl := Option.some.inj h
        refine ⟨.inr rfl, (.cons (sv rfl) .nil)⟩
      ·
        replace h := bif_f h hc36
        refine iwp_skip ?_
        refine thenQ_n ?_
        obtain ⟨x37, hx37, h⟩ := bno_e h
        refine iwp_reg (ils_cons rfl (iop_move rfl rfl (by decide) (sv (d := .str _) rfl)) <|
          ils_cons rfl (iop_call (r := .tuple [.slice _ _, .int _ _]) rfl rfl (by decide) cl12 (.cons (sv (d := .str _) rfl) .nil) rfl (p_deframe_All _ _ hx37)) <|
          ils_cons rfl (iop_move rfl rfl (by decide) (sv (d := .tuple [.slice _ _, .int _ _]) rfl)) <|
          ils_cons rfl (iop_extract (d := .slice _ _) rfl rfl (by decide) (sv (d := .tuple [.slice _ _, .int _ _]) rfl) rfl) <|
          ils_cons rfl (iop_extract (d := .int _ _) rfl rfl (by decide) (sv (d := .tuple [.slice _ _, .int _ _]) rfl) rfl) <|
          ils_cons rfl (iop_assign rfl rfl (by decide) (sv (d := .slice _ _) rfl)) <|
          ils_cons rfl (iop_assign rfl rfl (by decide) (sv (d := .int _ _) rfl)) <|
          ils_end ?_)
        obtain ⟨x38, hx38, h⟩ := bnd_e h
        obtain ⟨x39, hx39, h⟩ := bnd_e h
        obtain ⟨x40, hx40, h⟩ := bnd_e h
        obtain ⟨x41, hx41, h⟩ := bno_e h
        obtain ⟨x42, hx42, h⟩ := bnd_e h
        refine iwp_reg (ils_cons rfl (iop_move rfl rfl (by decide) (sv (d := .int _ _) rfl)) <|
          ils_cons rfl (iop_cmpx rfl rfl (by decide) (sv (d := .int _ _) rfl) (sv (d := .int _ 0) rfl) rfl hx38) <|
          ils_cons rfl (iop_move rfl rfl (by decide) (sv (d := .bool _) rfl)) <|
          ils_guard rfl rfl (.one rfl) rfl (by decide) (fun hb => (iop_fieldAddr_ref rfl rfl (by decide) Try.underlying25 rfl ti23 (by decide) (sv (d := .ref _ _) rfl) (off' := 1) rfl)) <|
          ils_guard rfl rfl (.one rfl) rfl (by decide) (fun hb => (iop_load_rs (d := .int _ _) rfl rfl (by decide) Try.underlying23 ag23 ti23 (by decide) (svc (d := .ref _ _) rfl hb) rfl (nle rfl) rfl)) <|
          ils_guard rfl rfl (.one rfl) rfl (by decide) (fun hb => (iop_cmpx rfl rfl (by decide) (svc (d := .int _ _) rfl hb) (sv (d := .int _ 12) rfl) rfl hx39)) <|
          ils_cons rfl (iop_orx rfl rfl (by decide) (sv (d := .bool _) rfl) rfl rfl hx40) <|
          ils_cons rfl (iop_move rfl rfl (by decide) (sv (d := .bool _) rfl)) <|
          ils_guard rfl rfl (.one rfl) rfl (by decide) (fun hb => (iop_call (r := .bool _) rfl rfl (by decide) cl6 .nil rfl (p_sennitlaw16_awake  _ (gd_t hx41 hb)))) <|
          ils_cons rfl (iop_andx rfl rfl (by decide) (sv (d := .bool _) rfl) rfl rfl hx42) <|
          ils_cons rfl (iop_assign rfl rfl (by decide) (sv (d := .bool _) rfl)) <|
          ils_end ?_)
        refine iwp_ret ?_
        obtain rfl := Option.some.inj h
        refine ⟨.inr rfl, (.cons (sv rfl) .nil)⟩

set_option maxRecDepth 8000 in
set_option maxHeartbeats 2000000 in
theorem p_sennitref15_Light (a0 : T_frame_Frame) (r : Bool) (h : sennitref15_Light a0 = some r) : PureAt Try.prog 13 [.agg [.int .u8 a0.Kind, .bool a0.Flag, .int .i64 a0.Stream, .int .i64 a0.Offset, .int .i64 a0.Dep, .int .i64 a0.Weight, .int .i64 a0.N, .int .i64 a0.Code, .slice false (a0.Pairs.map E_api_Pair.d), .str a0.Data]] (.bool r) := by
  refine pure_of_iwp (rs := [.bool r]) Try.func13 rfl Try.ntmps13 (nle rfl) rfl fun O hO => ?_
  show IWP _ _ _ _ ⟨[(0, .agg [.int .u8 a0.Kind, .bool a0.Flag, .int .i64 a0.Stream, .int .i64 a0.Offset, .int .i64 a0.Dep, .int .i64 a0.Weight, .int .i64 a0.N, .int .i64 a0.Code, .slice false (a0.Pairs.map E_api_Pair.d), .str a0.Data])], []⟩ _
  unfold sennitref15_Light at h
  refine iwp_reg (ils_cons rfl (iop_box' (cs := [.int _ _, .bool _, .int _ _, .int _ _, .int _ _, .int _ _, .int _ _, .int _ _, .slice _ _, .str _]) 0 rfl rfl (by decide) rfl (sv (d := .agg [.int _ _, .bool _, .int _ _, .int _ _, .int _ _, .int _ _, .int _ _, .int _ _, .slice _ _, .str _]) rfl) rfl rfl) <|
    ils_cons rfl (iop_assign rfl rfl (by decide) (sv (d := .bool false) rfl)) <|
    ils_end ?_)
  obtain ⟨x1, hx1, h⟩ := bnd_e h
  obtain ⟨x2, hx2, h⟩ := bnd_e h
  obtain ⟨x3, hx3, h⟩ := bnd_e h
  refine iwp_reg (ils_cons rfl (iop_fieldAddr_ref rfl rfl (by decide) Try.underlying41 rfl ti39 (by decide) (sv (d := .ref _ _) rfl) (off' := 8) rfl) <|
    ils_cons rfl (iop_load_rs (d := .slice _ _) rfl rfl (by decide) Try.underlying39 ag39 ti39 (by decide) (sv (d := .ref _ _) rfl) rfl (nle rfl) rfl) <|
    ils_cons rfl (iop_lenT E_api_Pair (l := a0.Pairs) rfl rfl (by decide) Try.underlying39 (sv (d := .slice _ _) rfl)) <|
    ils_cons rfl (iop_cmpx rfl rfl (by decide) (sv (d := .int _ _) rfl) (sv (d := .int _ 10) rfl) rfl hx1) <|
    ils_cons rfl (iop_move rfl rfl (by decide) (sv (d := .bool _) rfl)) <|
    ils_guard rfl rfl (.one rfl) rfl (by decide) (fun hb => (iop_fieldAddr_ref rfl rfl (by decide) Try.underlying41 rfl ti9 (by decide) (sv (d := .ref _ _) rfl) (off' := 9) rfl)) <|
    ils_guard rfl rfl (.one rfl) rfl (by decide) (fun hb => (iop_load_rs (d := .str _) rfl rfl (by decide) Try.underlying9 ag9 ti9 (by decide) (svc (d := .ref _ _) rfl hb) rfl (nle rfl) rfl)) <|
    ils_guard rfl rfl (.one rfl) rfl (by decide) (fun hb => (iop_len_str rfl rfl (by decide) Try.underlying9 (svc (d := .str _) rfl hb) rfl)) <|
    ils_guard rfl rfl (.one rfl) rfl (by decide) (fun hb => (iop_cmpx rfl rfl (by decide) (svc (d := .int _ _) rfl hb) (sv (d := .int _ 100) rfl) rfl hx2)) <|
    ils_cons rfl (iop_andx rfl rfl (by decide) (sv (d := .bool _) rfl) rfl rfl hx3) <|
    ils_cons rfl (iop_assign rfl rfl (by decide) (sv (d := .bool _) rfl)) <|
    ils_end ?_)
  refine iwp_ret ?_
  obtain rfl := Option.some.inj h
  refine ⟨.inr rfl, (.cons (sv rfl) .nil)⟩

set_option maxRecDepth 8000 in
set_option maxHeartbeats 2000000 in
theorem p_varint_Put (a0 : Int) (r : ((List UInt8) × Int)) (h : varint_Put a0 = some r) : PureAt Try.prog 21 [.int .i64 a0] (retD [.slice false (r.1.map eByte.d), .int .i64 r.2]) := by
  refine pure_of_iwpF (rs := [.slice false (r.1.map eByte.d), .int .i64 r.2]) Try.func21 rfl Try.ntmps21 (nle rfl) rfl fun O hO => ?_
  show IWP _ _ _ _ ⟨[(0, .int .i64 a0)], []⟩ _
  unfold varint_Put at h
  refine iwp_reg (ils_cons rfl (iop_assign rfl rfl (by decide) (sv (d := .nils) rfl)) <|
    ils_cons rfl (iop_assign rfl rfl (by decide) (sv (d := .int _ 0) rfl)) <|
    ils_end ?_)
  obtain ⟨x1, hx1, h⟩ := bno_e h
  refine iwp_reg (ils_cons rfl (iop_move rfl rfl (by decide) (sv (d := .int _ _) rfl)) <|
    ils_cons rfl (iop_call (r := .int _ _) rfl rfl (by decide) cl26 (.cons (sv (d := .int _ _) rfl) .nil) rfl (p_varint_kind _ _ hx1)) <|
    ils_cons rfl (iop_assign rfl rfl (by decide) (sv (d := .int _ _) rfl)) <|
    ils_end ?_)
  refine iwp_seq ?_
  obtain ⟨x2, hx2, h⟩ := bnd_e h
  refine iwp_reg (ils_cons rfl (iop_move rfl rfl (by decide) (sv (d := .int _ _) rfl)) <|
    ils_cons rfl (iop_cmpx rfl rfl (by decide) (sv (d := .int _ _) rfl) (sv (d := .int _ 0) rfl) rfl hx2) <|
    ils_end ?_)
  refine iwp_cond (b := _) rfl (fun hc3 => ?_) (fun hc3 => ?_)
  ·
    replace h := bif_t h hc3
    refine iwp_reg (ils_cons rfl (iop_assign rfl rfl (by decide) (sv (d := .nils) rfl)) <|
      ils_cons rfl (iop_assign rfl rfl (by decide) (sv (d := .int _ 8) rfl)) <|
      ils_end ?_)
    refine iwp_ret ?_
    refine thenQ_r ?_
    obtain rfl := Option.some.inj h
    refine ⟨.inr rfl, _, (.cons (sv rfl) (.cons (sv rfl) .nil)), (.cons (.nils _) (.cons (.refl _) .nil))⟩
  ·
    replace h := bif_f h hc3
    refine iwp_skip ?_
    refine thenQ_n ?_
    obtain ⟨x4, hx4, h⟩ := bno_e h
    obtain ⟨x5, hx5, h⟩ := bno_e h
    refine iwp_reg (ils_cons rfl (iop_move rfl rfl (by decide) (sv (d := .int _ _) rfl)) <|
      ils_cons rfl (iop_shlx rfl rfl (by decide) (sv (d := .int _ 1) rfl) (sv (d := .int _ _) rfl) hx4) <|
      ils_cons rfl (iop_makeT eByte.toEnc0 (0 : UInt8) 0 rfl rfl (by decide) Try.underlying56 ti5 rfl rfl (sv (d := .int _ _) rfl) hx5 (.cons (.refl _) .nil)) <|
      ils_cons rfl (iop_assign rfl rfl (by decide) (sv (d := .osl _ _ _) rfl)) <|
      ils_end ?_)
    refine iwp_seq ?_
    obtain ⟨x6, hx6, h⟩ := bnd_e h
    refine iwp_reg (ils_cons rfl (iop_move rfl rfl (by decide) (sv (d := .osl _ _ _) rfl)) <|
      ils_cons rfl (iop_lenO rfl rfl (by decide) Try.underlying56 (sv (d := .osl _ _ _) rfl)) <|
      ils_cons rfl (iop_intx rfl rfl (by decide) (sv (d := .int _ _) rfl) (sv (d := .int _ 1) rfl) rfl hx6) <|
      ils_cons rfl (iop_assign rfl rfl (by decide) (sv (d := .int _ _) rfl)) <|
      ils_end ?_)
    refine iwp_block ?_
    refine iwp_loopP (α := Nat × Int × (List UInt8) × Int) (fun z => ⟨[(0, .int .i64 z.2.1), (4, .int .i64 x1), (5, .osl 0 eByte.sz z.2.2.1.length), (6, .int .i64 z.2.2.2)], [(0, .blk 5 (D.flat (z.2.2.1.map eByte.d)))]⟩) (fun z => varint_Put_L0 x1 z.1 z.2.1 z.2.2.1 z.2.2.2 = some r) (fun z => z.1) (fuel, a0, x5, x6) (fun i => i) ⟨(.cons (.same rfl rfl) (.cons (.same rfl rfl) (.cons (.same rfl rfl) (.cons (.same rfl rfl) .nil)))), (.cons (EntW.lst rfl) .nil), nd_of [0] rfl (by decide), (fun i hi => by first | rfl | (show (if _ then _ else _) = _; (repeat' split) <;> omega))⟩ ?_ ?_
    · exact h
    ·
      rintro ⟨n0, v16, v17, v18⟩ h
      cases n0 with
      | zero => exact absurd h (by unfold varint_Put_L0; exact nofun)
      | succ n0 =>
        unfold varint_Put_L0 at h
        refine iwp_seq ?_
        obtain ⟨x28, hx28, h⟩ := bnd_e h
        refine iwp_reg (ils_cons rfl (iop_move rfl rfl (by decide) (sv (d := .int _ _) rfl)) <|
          ils_cons rfl (iop_cmpx rfl rfl (by decide) (sv (d := .int _ _) rfl) (sv (d := .int _ 0) rfl) rfl hx28) <|
          ils_end ?_)
        refine iwp_cond (b := _) rfl (fun hc29 => ?_) (fun hc29 => ?_)
        ·
          replace h := bif_t h hc29
          refine iwp_skip ?_
          refine thenQ_n ?_
          refine iwp_seq ?_
          refine iwp_block ?_
          obtain ⟨x30, hx30, h⟩ := bnd_e h
          obtain ⟨x31, hx31, h⟩ := bno_e h
          obtain ⟨x32, hx32, h⟩ := bno_e h
          obtain ⟨x33, hx33, h⟩ := bno_e h
          obtain ⟨x34, hx34, h⟩ := bnd_e h
          refine iwp_reg (ils_cons rfl (iop_move rfl rfl (by decide) (sv (d := .osl _ _ _) rfl)) <|
            ils_cons rfl (iop_move rfl rfl (by decide) (sv (d := .int _ _) rfl)) <|
            ils_cons rfl (iop_move rfl rfl (by decide) (sv (d := .int _ _) rfl)) <|
            ils_cons rfl (iop_int_conv rfl rfl (by decide) ⟨_, Try.underlying3⟩ Try.underlying5 (sv (d := .int _ _) rfl) hx30) <|
            ils_cons rfl (iop_idxO eByte.toEnc0 rfl rfl (by decide) Try.underlying56 ti5 (sv (d := .osl _ _ _) rfl) rfl (sv (d := .int _ _) rfl) hx31) <|
            ils_cons rfl (iop_storeE eByte.toEnc0 (a' := x33) rfl rfl ti5 (sv (d := .ref _ _) rfl) rfl (sv_int (sv (d := .int _ _) rfl) (toU8_e hx33)) rfl rfl rfl hx32 (nle rfl) rfl hx34) <|
            ils_end ?_)
          obtain ⟨x35, hx35, h⟩ := bno_e h
          refine iwp_region (ils_cons rfl (iop_move rfl rfl (by decide) (sv (d := .int _ _) rfl)) <|
            ils_cons rfl (iop_shrx rfl rfl (by decide) (sv (d := .int _ _) rfl) (sv (d := .int _ 8) rfl) hx35) <|
            ils_cons rfl (iop_assign rfl rfl (by decide) (sv (d := .int _ _) rfl)) <|
            ils_nil ?_)
          refine blockQ_n ?_
          refine thenQ_n ?_
          obtain ⟨x36, hx36, h⟩ := bnd_e h
          refine iwp_region (ils_cons rfl (iop_move rfl rfl (by decide) (sv (d := .int _ _) rfl)) <|
            ils_cons rfl (iop_intx rfl rfl (by decide) (sv (d := .int _ _) rfl) (sv (d := .int _ 1) rfl) rfl hx36) <|
            ils_cons rfl (iop_assign rfl rfl (by decide) (sv (d := .int _ _) rfl)) <|
            ils_nil ?_)
          refine thenQ_n ⟨(n0, x35, x34, x36), (fun i => i), ⟨(.cons (.same rfl rfl) (.cons (.same rfl rfl) (.cons (.same (congrArg (D.osl _ _) (len_set hx34 rfl).symm) rfl) (.cons (.same rfl rfl) .nil)))), (.cons (EntW.lst rfl) .nil), nd_of [0] rfl (by decide), (fun i hi => by first | rfl | (show (if _ then _ else _) = _; (repeat' split) <;> omega))⟩, ?_, ?_⟩
          exact h
          exact Nat.lt_succ_self _
        ·
          replace h := bif_f h hc29
          refine iwp_exit ?_
          refine thenQ_e ?_
          refine thenQ_e ?_
          refine blockQ_e ?_
          refine thenQ_n ?_
          obtain ⟨x37, hx37, h⟩ := bno_e h
          obtain ⟨x38, hx38, h⟩ := bno_e h
          obtain ⟨x39, hx39, h⟩ := bno_e h
          obtain ⟨x40, hx40, h⟩ := bnd_e h
          obtain ⟨x41, hx41, h⟩ := bnd_e h
          obtain ⟨x42, hx42, h⟩ := bno_e h
          obtain ⟨x43, hx43, h⟩ := bno_e h
          obtain ⟨x44, hx44, h⟩ := bno_e h
          obtain ⟨x45, hx45, h⟩ := bnd_e h
          refine iwp_reg (ils_cons rfl (iop_move rfl rfl (by decide) (sv (d := .osl _ _ _) rfl)) <|
            ils_cons rfl (iop_idxO eByte.toEnc0 rfl rfl (by decide) Try.underlying56 ti5 (sv (d := .osl _ _ _) rfl) rfl (sv (d := .int _ 0) rfl) hx37) <|
            ils_cons rfl (iop_loadEs eByte.toEnc0 (d := .int _ _) rfl rfl (by decide) Try.underlying5 ag5 ti5 (by decide) (sv (d := .ref _ _) rfl) rfl hx38 (nle rfl) rfl) <|
            ils_cons rfl (iop_move rfl rfl (by decide) (sv (d := .int _ _) rfl)) <|
            ils_cons rfl (iop_shlx rfl rfl (by decide) (sv (d := .int _ _) rfl) (sv (d := .int _ 6) rfl) hx39) <|
            ils_cons rfl (iop_int_conv rfl rfl (by decide) ⟨_, Try.underlying3⟩ Try.underlying5 (sv (d := .int _ _) rfl) hx40) <|
            ils_cons rfl (iop_intx rfl rfl (by decide) (sv (d := .int _ _) rfl) (sv (d := .int _ _) rfl) rfl hx41) <|
            ils_cons rfl (iop_idxO eByte.toEnc0 rfl rfl (by decide) Try.underlying56 ti5 (sv (d := .osl _ _ _) rfl) rfl (sv (d := .int _ 0) rfl) hx42) <|
            ils_cons rfl (iop_storeE eByte.toEnc0 (a' := x44) rfl rfl ti5 (sv (d := .ref _ _) rfl) rfl (sv_int (sv (d := .int _ _) rfl) (toU8_e hx44)) rfl rfl rfl hx43 (nle rfl) rfl hx45) <|
            ils_end ?_)
          refine iwp_reg (ils_cons rfl (iop_move rfl rfl (by decide) (sv (d := .osl _ _ _) rfl)) <|
            ils_cons rfl (iop_assign rfl rfl (by decide) (sv (d := .osl _ _ _) rfl)) <|
            ils_cons rfl (iop_assign rfl rfl (by decide) (sv (d := .int _ 0) rfl)) <|
            ils_end ?_)
          refine iwp_ret ?_
          obtain rfl := Option.some.inj h
          refine ⟨.inr rfl, _, (.cons (sv rfl) (.cons (sv rfl) .nil)), (.cons (FDT eByte rfl (len_set hx45 rfl)) (.cons (.refl _) .nil))⟩

set_option maxRecDepth 8000 in
set_option maxHeartbeats 2000000 in
theorem p_varint_join (a0 : (List Int)) (r : ((List UInt8) × Int)) (h : varint_join a0 = some r) : PureAt Try.prog 42 [.slice false (a0.map (eInt .i64).d)] (retD [.slice false (r.1.map eByte.d), .int .i64 r.2]) := by
  refine pure_of_iwp (rs := [.slice false (r.1.map eByte.d), .int .i64 r.2]) Try.func42 rfl Try.ntmps42 (nle rfl) rfl fun O hO => ?_
  show IWP _ _ _ _ ⟨[(0, .slice false (a0.map (eInt .i64).d))], []⟩ _
  unfold varint_join at h
  refine iwp_reg (ils_cons rfl (iop_assign rfl rfl (by decide) (sv (d := .nils) rfl)) <|
    ils_cons rfl (iop_assign rfl rfl (by decide) (sv (d := .int _ 0) rfl)) <|
    ils_end ?_)
  refine iwp_reg (ils_cons rfl (iop_assign rfl rfl (by decide) (sv (d := .nils) rfl)) <|
    ils_end ?_)
  refine iwp_seq ?_
  refine iwp_reg (ils_cons rfl (iop_move rfl rfl (by decide) (sv (d := .slice _ _) rfl)) <|
    ils_cons rfl (iop_lenT (eInt .i64) (l := a0) rfl rfl (by decide) Try.underlying72 (sv (d := .slice _ _) rfl)) <|
    ils_cons rfl (iop_move rfl rfl (by decide) (sv (d := .int _ 0) rfl)) <|
    ils_end ?_)
  refine iwp_block ?_
  refine iwp_loopP (α := Nat × (List UInt8) × Int) (fun z => ⟨[(4, .gsl 21 eByte.sz (z.2.1.map eByte.d)), (9, .slice false (a0.map (eInt .i64).d)), (10, .int .i64 (a0.length : Int)), (11, .int .i64 z.2.2)], [(21, .tail 5 eByte.sz z.2.1.length)]⟩) (fun z => varint_join_L0 a0 z.1 z.2.1 z.2.2 = some r) (fun z => z.1) (fuel, ([] : (List UInt8)), 0) (fun i => if i = 21 then 71 else i) ⟨(.cons (.nils rfl) (.cons (.same rfl rfl) (.cons (.same rfl rfl) (.cons (.same rfl rfl) .nil)))), (.cons (.nils rfl) .nil), nd_of [71] rfl (by decide), (fun i hi => by first | rfl | (show (if _ then _ else _) = _; (repeat' split) <;> omega))⟩ ?_ ?_
  · exact h
  ·
    rintro ⟨n0, v9, v10⟩ h
    cases n0 with
    | zero => exact absurd h (by unfold varint_join_L0; exact nofun)
    | succ n0 =>
      unfold varint_join_L0 at h
      obtain ⟨x19, hx19, h⟩ := bnd_e h
      refine iwp_reg (ils_cons rfl (iop_cmpx rfl rfl (by decide) (sv (d := .int _ _) rfl) (sv (d := .int _ _) rfl) rfl hx19) <|
        ils_end ?_)
      refine iwp_seq ?_
      refine iwp_cond (b := _) rfl (fun hc20 => ?_) (fun hc20 => ?_)
      ·
        replace h := bif_t h hc20
        refine iwp_skip ?_
        refine thenQ_n ?_
        refine iwp_seq ?_
        refine iwp_block ?_
        obtain ⟨x21, hx21, h⟩ := bno_e h
        refine iwp_reg (ils_cons rfl (iop_idxT (eInt .i64) (cs := [.int _ _]) rfl rfl (by decide) Try.underlying72 ti3 (sv (d := .slice _ _) rfl) (sv (d := .int _ _) rfl) hx21 rfl rfl) <|
          ils_cons rfl (iop_load_fs rfl rfl (by decide) Try.underlying3 ag3 ti3 (by decide) (sv (d := .fptr [.int _ _]) rfl) (nle rfl)) <|
          ils_cons rfl (iop_assign rfl rfl (by decide) (sv (d := .int _ _) rfl)) <|
          ils_end ?_)
        obtain ⟨x22, hx22, h⟩ := bno_e h
        refine iwp_reg (ils_cons rfl (iop_move rfl rfl (by decide) (sv (d := .int _ _) rfl)) <|
          ils_cons rfl (iop_call (r := .tuple [.slice _ _, .int _ _]) rfl rfl (by decide) cl21 (.cons (sv (d := .int _ _) rfl) .nil) rfl (p_varint_Put _ _ hx22)) <|
          ils_cons rfl (iop_move rfl rfl (by decide) (sv (d := .tuple [.slice _ _, .int _ _]) rfl)) <|
          ils_cons rfl (iop_extract (d := .slice _ _) rfl rfl (by decide) (sv (d := .tuple [.slice _ _, .int _ _]) rfl) rfl) <|
          ils_cons rfl (iop_extract (d := .int _ _) rfl rfl (by decide) (sv (d := .tuple [.slice _ _, .int _ _]) rfl) rfl) <|
          ils_cons rfl (iop_assign rfl rfl (by decide) (sv (d := .slice _ _) rfl)) <|
          ils_cons rfl (iop_assign rfl rfl (by decide) (sv (d := .int _ _) rfl)) <|
          ils_end ?_)
        refine iwp_seq ?_
        obtain ⟨x23, hx23, h⟩ := bnd_e h
        refine iwp_reg (ils_cons rfl (iop_move rfl rfl (by decide) (sv (d := .int _ _) rfl)) <|
          ils_cons rfl (iop_cmpx rfl rfl (by decide) (sv (d := .int _ _) rfl) (sv (d := .int _ 0) rfl) rfl hx23) <|
          ils_end ?_)
        refine iwp_cond (b := _) rfl (fun hc24 => ?_) (fun hc24 => ?_)
        ·
          replace h := bif_t h hc24
          refine iwp_reg (ils_cons rfl (iop_move rfl rfl (by decide) (sv (d := .int _ _) rfl)) <|
            ils_cons rfl (iop_assign rfl rfl (by decide) (sv (d := .nils) rfl)) <|
            ils_cons rfl (iop_assign rfl rfl (by decide) (sv (d := .int _ _) rfl)) <|
            ils_end ?_)
          refine iwp_ret ?_
          refine thenQ_r ?_
          refine blockQ_r ?_
          refine thenQ_r ?_
          refine thenQ_r ?_
          refine blockQ_r ?_
          refine thenQ_r ?_
          obtain rfl := Option.some.inj h
          refine ⟨.inr rfl, (.cons (svn_of rfl rfl) (.cons (sv rfl) .nil))⟩
        ·
          replace h := bif_f h hc24
          refine iwp_skip ?_
          refine thenQ_n ?_
          obtain ⟨x25, hx25, h⟩ := bno_e h
          refine iwp_region (ils_cons rfl (iop_move rfl rfl (by decide) (sv (d := .gsl _ _ _) rfl)) <|
            ils_cons rfl (iop_move rfl rfl (by decide) (sv (d := .slice _ _) rfl)) <|
            ils_cons rfl (iop_appT eByte 22 rfl rfl (by decide) Try.underlying56 ti5 rfl rfl rfl rfl (sv (d := .slice _ _) rfl) hx25) <|
            ils_cons rfl (iop_assign rfl rfl (by decide) (sv (d := .gsl _ _ _) rfl)) <|
            ils_nil ?_)
          refine blockQ_n ?_
          refine thenQ_n ?_
          obtain ⟨x26, hx26, h⟩ := bnd_e h
          refine iwp_region (ils_cons rfl (iop_intx rfl rfl (by decide) (sv (d := .int _ _) rfl) (sv (d := .int _ 1) rfl) rfl hx26) <|
            ils_cons rfl (iop_move rfl rfl (by decide) (sv (d := .int _ _) rfl)) <|
            ils_nil ?_)
          refine thenQ_n ⟨(n0, x25, x26), (fun i => if i = 21 then 22 else i), ⟨(.cons (.same rfl rfl) (.cons (.same rfl rfl) (.cons (.same rfl rfl) (.cons (.same rfl rfl) .nil)))), (.cons (.tail rfl) .nil), nd_of [22] rfl (by decide), (fun i hi => by first | rfl | (show (if _ then _ else _) = _; (repeat' split) <;> omega))⟩, ?_, ?_⟩
          exact h
          exact Nat.lt_succ_self _
      ·
        replace h := bif_f h hc20
        refine iwp_exit ?_
        refine thenQ_e ?_
        refine thenQ_e ?_
        refine blockQ_e ?_
        refine thenQ_n ?_
        refine iwp_reg (ils_cons rfl (iop_move rfl rfl (by decide) (sv (d := .gsl _ _ _) rfl)) <|
          ils_cons rfl (iop_assign rfl rfl (by decide) (sv (d := .gsl _ _ _) rfl)) <|
          ils_cons rfl (iop_assign rfl rfl (by decide) (sv (d := .int _ 0) rfl)) <|
          ils_end ?_)
        refine iwp_ret ?_
        obtain rfl := Option.some.inj h
        refine ⟨.inr rfl, (.cons (svg_of rfl rfl) (.cons (sv rfl) .nil))⟩

set_option maxRecDepth 8000 in
set_option maxHeartbeats 2000000 in
theorem p_varint_Join (a0 : (List Int)) (r : ((List UInt8) × Int)) (h : varint_Join a0 = some r) : PureAt Try.prog 32 [.slice false (a0.map (eInt .i64).d)] (retD [.slice false (r.1.map eByte.d), .int .i64 r.2]) := by
  refine pure_of_iwp (rs := [.slice false (r.1.map eByte.d), .int .i64 r.2]) Try.func32 rfl Try.ntmps32 (nle rfl) rfl fun O hO => ?_
  show IWP _ _ _ _ ⟨[(0, .slice false (a0.map (eInt .i64).d))], []⟩ _
  unfold varint_Join at h
  refine iwp_reg (ils_cons rfl (iop_assign rfl rfl (by decide) (sv (d := .nils) rfl)) <|
    ils_cons rfl (iop_assign rfl rfl (by decide) (sv (d := .int _ 0) rfl)) <|
    ils_end ?_)
  obtain ⟨x1, hx1, h⟩ := bno_e h
  refine iwp_reg (ils_cons rfl (iop_move rfl rfl (by decide) (sv (d := .slice _ _) rfl)) <|
    ils_cons rfl (iop_call (r := .tuple [.slice _ _, .int _ _]) rfl rfl (by decide) cl42 (.cons (sv (d := .slice _ _) rfl) .nil) rfl (p_varint_join _ _ hx1)) <|
    ils_cons rfl (iop_extract (d := .slice _ _) rfl rfl (by decide) (sv (d := .tuple [.slice _ _, .int _ _]) rfl) rfl) <|
    ils_cons rfl (iop_extract (d := .int _ _) rfl rfl (by decide) (sv (d := .tuple [.slice _ _, .int _ _]) rfl) rfl) <|
    ils_cons rfl (iop_assign rfl rfl (by decide) (sv (d := .slice _ _) rfl)) <|
    ils_cons rfl (iop_assign rfl rfl (by decide) (sv (d := .int _ _) rfl)) <|
    ils_end ?_)
  refine iwp_ret ?_
  obtain rfl := Option.some.inj h
  refine ⟨.inr rfl, (.cons (sv rfl) (.cons (sv rfl) .nil))⟩

set_option maxRecDepth 8000 in
set_option maxHeartbeats 2000000 in
theorem p_frame_Frame_payload (a0 : T_frame_Frame) (r : (List UInt8)) (h : frame_Frame_payload a0 = some r) : PureAt Try.prog 20 [.agg [.int .u8 a0.Kind, .bool a0.Flag, .int .i64 a0.Stream, .int .i64 a0.Offset, .int .i64 a0.Dep, .int .i64 a0.Weight, .int .i64 a0.N, .int .i64 a0.Code, .slice false (a0.Pairs.map E_api_Pair.d), .str a0.Data]] (.str r) := by
  refine pure_of_iwp (rs := [.str r]) Try.func20 rfl Try.ntmps20 (nle rfl) rfl fun O hO => ?_
  show IWP _ _ _ _ ⟨[(0, .agg [.int .u8 a0.Kind, .bool a0.Flag, .int .i64 a0.Stream, .int .i64 a0.Offset, .int .i64 a0.Dep, .int .i64 a0.Weight, .int .i64 a0.N, .int .i64 a0.Code, .slice false (a0.Pairs.map E_api_Pair.d), .str a0.Data])], []⟩ _
  unfold frame_Frame_payload at h
  refine iwp_reg (ils_cons rfl (iop_box' (cs := [.int _ _, .bool _, .int _ _, .int _ _, .int _ _, .int _ _, .int _ _, .int _ _, .slice _ _, .str _]) 0 rfl rfl (by decide) rfl (sv (d := .agg [.int _ _, .bool _, .int _ _, .int _ _, .int _ _, .int _ _, .int _ _, .int _ _, .slice _ _, .str _]) rfl) rfl rfl) <|
    ils_cons rfl (iop_assign rfl rfl (by decide) (sv (d := .str []) rfl)) <|
    ils_end ?_)
  refine iwp_reg (ils_cons rfl (iop_assign rfl rfl (by decide) (sv (d := .nils) rfl)) <|
    ils_end ?_)
  refine iwp_seq ?_
  obtain ⟨x1, hx1, h⟩ := bno_e h
  refine iwp_reg (ils_cons rfl (iop_callh2 (r' := .osl 1 (eRef 0).sz x1.length) (H1' := [(0, .blk 44 [.int .u8 a0.Kind, .bool a0.Flag, .int .i64 a0.Stream, .int .i64 a0.Offset, .int .i64 a0.Dep, .int .i64 a0.Weight, .int .i64 a0.N, .int .i64 a0.Code, .slice false (a0.Pairs.map E_api_Pair.d), .str a0.Data]), (1, .blk 75 (D.flat (x1.map (eRef 0).d)))]) 1 [0] rfl rfl (by decide) cl31 (.cons (sv (d := .ref _ _) rfl) .nil) rfl rfl ⟨rfl, rfl, by decide, rfl, List.forall_mem_cons.2 ⟨⟨rfl, rfl, rfl, rfl⟩, List.forall_mem_nil _⟩⟩ (p_frame_Frame_numbers_h _ _ hx1) rfl rfl (List.forall_mem_cons.2 ⟨⟨rfl, rfl⟩, List.forall_mem_cons.2 ⟨⟨rfl, (handRr rfl)⟩, List.forall_mem_nil _⟩⟩) (by simp only [List.map_cons, List.map_nil, Ent.ren, renL_flat, renL_ref]; rfl)) <|
    ils_cons rfl (iop_lenO rfl rfl (by decide) Try.underlying73 (sv (d := .osl _ _ _) rfl)) <|
    ils_cons rfl (iop_move rfl rfl (by decide) (sv (d := .int _ 0) rfl)) <|
    ils_end ?_)
  refine iwp_block ?_
  refine iwp_loopP (α := Nat × (List Int) × Int) (fun z => ⟨[(1, .ref 0 0), (3, .gsl 23 (eInt .i64).sz (z.2.1.map (eInt .i64).d)), (10, .osl 1 (eRef 0).sz x1.length), (11, .int .i64 (x1.length : Int)), (12, .int .i64 z.2.2)], [(0, .blk 44 [.int .u8 a0.Kind, .bool a0.Flag, .int .i64 a0.Stream, .int .i64 a0.Offset, .int .i64 a0.Dep, .int .i64 a0.Weight, .int .i64 a0.N, .int .i64 a0.Code, .slice false (a0.Pairs.map E_api_Pair.d), .str a0.Data]), (23, .tail 3 (eInt .i64).sz z.2.1.length), (1, .blk 75 (D.flat (x1.map (eRef 0).d)))]⟩) (fun z => frame_Frame_payload_L0 a0 x1 z.1 z.2.1 z.2.2 = some r) (fun z => z.1) (fuel, ([] : (List Int)), 0) (fun i => if i = 23 then 75 else i) ⟨(.cons (.same rfl rfl) (.cons (.nils rfl) (.cons (.same rfl rfl) (.cons (.same rfl rfl) (.cons (.same rfl rfl) .nil))))), (.cons (.blk rfl rfl rfl) (.cons (.nils rfl) (.cons (EntW.lstR rfl rfl) .nil))), nd_of [0, 75, 1] rfl (by decide), (fun i hi => by first | rfl | (show (if _ then _ else _) = _; (repeat' split) <;> omega))⟩ ?_ ?_
  · exact h
  ·
    rintro ⟨n0, v9, v10⟩ h
    cases n0 with
    | zero => exact absurd h (by unfold frame_Frame_payload_L0; exact nofun)
    | succ n0 =>
      unfold frame_Frame_payload_L0 at h
      obtain ⟨x18, hx18, h⟩ := bnd_e h
      refine iwp_reg (ils_cons rfl (iop_cmpx rfl rfl (by decide) (sv (d := .int _ _) rfl) (sv (d := .int _ _) rfl) rfl hx18) <|
        ils_end ?_)
      refine iwp_seq ?_
      refine iwp_cond (b := _) rfl (fun hc19 => ?_) (fun hc19 => ?_)
      ·
        replace h := bif_t h hc19
        refine iwp_skip ?_
        refine thenQ_n ?_
        refine iwp_seq ?_
        refine iwp_block ?_
        obtain ⟨x20, hx20, h⟩ := bno_e h
        obtain ⟨x21, hx21, h⟩ := bno_e h
        refine iwp_reg (ils_cons rfl (iop_idxO (eRef 0) rfl rfl (by decide) Try.underlying73 ti75 (sv (d := .osl _ _ _) rfl) rfl (sv (d := .int _ _) rfl) hx20) <|
          ils_cons rfl (iop_loadEs (eRef 0) (d := .ref _ _) rfl rfl (by decide) Try.underlying75 ag75 ti75 (by decide) (sv (d := .ref _ _) rfl) rfl hx21 (nle rfl) rfl) <|
          ils_cons rfl (iop_assign rfl rfl (by decide) (sv (d := .ref _ _) rfl)) <|
          ils_end ?_)
        obtain ⟨x22, hx22, h⟩ := bno_e h
        obtain ⟨x23, hx23, h⟩ := bno_e h
        refine iwp_region (ils_cons rfl (iop_move rfl rfl (by decide) (sv (d := .gsl _ _ _) rfl)) <|
          ils_cons rfl (iop_move rfl rfl (by decide) (sv (d := .ref _ _) rfl)) <|
          ils_cons rfl (iop_nilCheck_ref rfl rfl (by decide) (sv (d := .ref _ _) rfl)) <|
          ils_cons rfl (iop_load_sym rfl rfl (by decide) Try.underlying3 ag3 ti3 (sv (d := .ref _ _) rfl) rfl hx22) <|
          ils_cons rfl (iop_bsT (eInt .i64) ([x22] : (List Int)) 24 rfl rfl (by decide) Try.underlying72 ti3 rfl (.cons (sv (d := .int _ _) rfl) .nil) rfl rfl (by decide)) <|
          ils_cons rfl (iop_appT (eInt .i64) 25 rfl rfl (by decide) Try.underlying72 ti3 rfl rfl rfl rfl (svg rfl) hx23) <|
          ils_cons rfl (iop_assign rfl rfl (by decide) (sv (d := .gsl _ _ _) rfl)) <|
          ils_nil ?_)
        refine blockQ_n ?_
        refine thenQ_n ?_
        obtain ⟨x24, hx24, h⟩ := bnd_e h
        refine iwp_region (ils_cons rfl (iop_intx rfl rfl (by decide) (sv (d := .int _ _) rfl) (sv (d := .int _ 1) rfl) rfl hx24) <|
          ils_cons rfl (iop_move rfl rfl (by decide) (sv (d := .int _ _) rfl)) <|
          ils_nil ?_)
        refine thenQ_n ⟨(n0, x23, x24), (fun i => if i = 23 then 25 else i), ⟨(.cons (.same rfl rfl) (.cons (.same rfl rfl) (.cons (.same rfl rfl) (.cons (.same rfl rfl) (.cons (.same rfl rfl) .nil))))), (.cons (.blk rfl rfl rfl) (.cons (.tail rfl) (.cons (EntW.lstR rfl rfl) .nil))), nd_of [0, 25, 1] rfl (by decide), (fun i hi => by first | rfl | (show (if _ then _ else _) = _; (repeat' split) <;> omega))⟩, ?_, ?_⟩
        exact h
        exact Nat.lt_succ_self _
      ·
        replace h := bif_f h hc19
        refine iwp_exit ?_
        refine thenQ_e ?_
        refine thenQ_e ?_
        refine blockQ_e ?_
        refine thenQ_n ?_
        refine iwp_seq ?_
        refine iwp_reg (ils_cons rfl (iop_fieldAddr_ref rfl rfl (by decide) Try.underlying44 rfl ti39 (by decide) (sv (d := .ref _ _) rfl) (off' := 8) rfl) <|
          ils_cons rfl (iop_load_rs (d := .slice _ _) rfl rfl (by decide) Try.underlying39 ag39 ti39 (by decide) (sv (d := .ref _ _) rfl) rfl (nle rfl) rfl) <|
          ils_cons rfl (iop_lenT E_api_Pair (l := a0.Pairs) rfl rfl (by decide) Try.underlying39 (sv (d := .slice _ _) rfl)) <|
          ils_cons rfl (iop_move rfl rfl (by decide) (sv (d := .int _ 0) rfl)) <|
          ils_end ?_)
        refine iwp_block ?_
        refine iwp_loopP (α := Nat × (List Int) × Int) (fun z => ⟨[(1, .ref 0 0), (3, .gsl 23 (eInt .i64).sz (z.2.1.map (eInt .i64).d)), (24, .slice false (a0.Pairs.map E_api_Pair.d)), (25, .int .i64 (a0.Pairs.length : Int)), (26, .int .i64 z.2.2)], [(0, .blk 44 [.int .u8 a0.Kind, .bool a0.Flag, .int .i64 a0.Stream, .int .i64 a0.Offset, .int .i64 a0.Dep, .int .i64 a0.Weight, .int .i64 a0.N, .int .i64 a0.Code, .slice false (a0.Pairs.map E_api_Pair.d), .str a0.Data]), (23, .tail 3 (eInt .i64).sz z.2.1.length)]⟩) (fun z => frame_Frame_payload_L1 a0 z.1 z.2.1 z.2.2 = some r) (fun z => z.1) (fuel, v9, 0) (fun i => i) ⟨(.cons (.same rfl rfl) (.cons (.same rfl rfl) (.cons (.same rfl rfl) (.cons (.same rfl rfl) (.cons (.same rfl rfl) .nil))))), (.cons (.blk rfl rfl rfl) (.cons (.tail rfl) .nil)), nd_of [0, 23] rfl (by decide), (fun i hi => by first | rfl | (show (if _ then _ else _) = _; (repeat' split) <;> omega))⟩ ?_ ?_
        · exact h
        ·
          rintro ⟨n1, v30, v31⟩ h
          cases n1 with
          | zero => exact absurd h (by unfold frame_Frame_payload_L1; exact nofun)
          | succ n1 =>
            unfold frame_Frame_payload_L1 at h
            obtain ⟨x37, hx37, h⟩ := bnd_e h
            refine iwp_reg (ils_cons rfl (iop_cmpx rfl rfl (by decide) (sv (d := .int _ _) rfl) (sv (d := .int _ _) rfl) rfl hx37) <|
              ils_end ?_)
            refine iwp_seq ?_
            refine iwp_cond (b := _) rfl (fun hc38 => ?_) (fun hc38 => ?_)
            ·
              replace h := bif_t h hc38
              refine iwp_skip ?_
              refine thenQ_n ?_
              refine iwp_seq ?_
              refine iwp_block ?_
              obtain ⟨x39, hx39, h⟩ := bno_e h
              refine iwp_reg (ils_cons rfl (iop_idxT E_api_Pair (cs := [.int _ _, .int _ _]) rfl rfl (by decide) Try.underlying39 ti66 (sv (d := .slice _ _) rfl) (sv (d := .int _ _) rfl) hx39 rfl rfl) <|
                ils_cons rfl (iop_load_fa (cs := [.int _ _, .int _ _]) rfl rfl (by decide) Try.underlying66 ag66 ti66 (by decide) (sv (d := .fptr [.int _ _, .int _ _]) rfl) (nle rfl) rfl) <|
                ils_cons rfl (iop_allocS (cs := [.int _ _, .int _ _]) (cs' := [.int .i64 0, .int .i64 0]) 24 rfl rfl (by decide) rfl ti66 rfl rfl (.cons (.refl _) (.cons (.refl _) .nil))) <|
                ils_cons rfl (iop_store (ds' := [.int _ _, .int _ _]) rfl rfl ti66 (sv (d := .ref _ _) rfl) rfl (sv (d := .agg [.int _ _, .int _ _]) rfl) rfl rfl rfl (nle rfl) rfl) <|
                ils_end ?_)
              obtain ⟨x40, hx40, h⟩ := bno_e h
              refine iwp_region (ils_cons rfl (iop_move rfl rfl (by decide) (sv (d := .gsl _ _ _) rfl)) <|
                ils_cons rfl (iop_fieldAddr_ref rfl rfl (by decide) Try.underlying66 rfl ti3 (by decide) (sv (d := .ref _ _) rfl) (off' := 0) rfl) <|
                ils_cons rfl (iop_load_rs (d := .int _ _) rfl rfl (by decide) Try.underlying3 ag3 ti3 (by decide) (sv (d := .ref _ _) rfl) rfl (nle rfl) rfl) <|
                ils_cons rfl (iop_fieldAddr_ref rfl rfl (by decide) Try.underlying66 rfl ti3 (by decide) (sv (d := .ref _ _) rfl) (off' := 1) rfl) <|
                ils_cons rfl (iop_load_rs (d := .int _ _) rfl rfl (by decide) Try.underlying3 ag3 ti3 (by decide) (sv (d := .ref _ _) rfl) rfl (nle rfl) rfl) <|
                ils_cons rfl (iop_bsT (eInt .i64) ([x39.ID, x39.Value] : (List Int)) 25 rfl rfl (by decide) Try.underlying72 ti3 rfl (.cons (sv (d := .int _ _) rfl) (.cons (sv (d := .int _ _) rfl) .nil)) rfl rfl (by decide)) <|
                ils_cons rfl (iop_appT (eInt .i64) 26 rfl rfl (by decide) Try.underlying72 ti3 rfl rfl rfl rfl (svg rfl) hx40) <|
                ils_cons rfl (iop_assign rfl rfl (by decide) (sv (d := .gsl _ _ _) rfl)) <|
                ils_nil ?_)
              refine blockQ_n ?_
              refine thenQ_n ?_
              obtain ⟨x41, hx41, h⟩ := bnd_e h
              refine iwp_region (ils_cons rfl (iop_intx rfl rfl (by decide) (sv (d := .int _ _) rfl) (sv (d := .int _ 1) rfl) rfl hx41) <|
                ils_cons rfl (iop_move rfl rfl (by decide) (sv (d := .int _ _) rfl)) <|
                ils_nil ?_)
              refine thenQ_n ⟨(n1, x40, x41), (fun i => if i = 23 then 26 else i), ⟨(.cons (.same rfl rfl) (.cons (.same rfl rfl) (.cons (.same rfl rfl) (.cons (.same rfl rfl) (.cons (.same rfl rfl) .nil))))), (.cons (.blk rfl rfl rfl) (.cons (.tail rfl) .nil)), nd_of [0, 26] rfl (by decide), (fun i hi => by first | rfl | (show (if _ then _ else _) = _; (repeat' split) <;> omega))⟩, ?_, ?_⟩
              exact h
              exact Nat.lt_succ_self _
            ·
              replace h := bif_f h hc38
              refine iwp_exit ?_
              refine thenQ_e ?_
              refine thenQ_e ?_
              refine blockQ_e ?_
              refine thenQ_n ?_
              obtain ⟨x42, hx42, h⟩ := bno_e h
              refine iwp_reg (ils_cons rfl (iop_move rfl rfl (by decide) (sv (d := .gsl _ _ _) rfl)) <|
                ils_cons rfl (iop_call (r := .tuple [.slice _ _, .int _ _]) rfl rfl (by decide) cl32 (.cons (svg rfl) .nil) rfl (p_varint_Join _ _ hx42)) <|
                ils_cons rfl (iop_move rfl rfl (by decide) (sv (d := .tuple [.slice _ _, .int _ _]) rfl)) <|
                ils_cons rfl (iop_extract (d := .slice _ _) rfl rfl (by decide) (sv (d := .tuple [.slice _ _, .int _ _]) rfl) rfl) <|
                ils_cons rfl (iop_extract (d := .int _ _) rfl rfl (by decide) (sv (d := .tuple [.slice _ _, .int _ _]) rfl) rfl) <|
                ils_cons rfl (iop_assign rfl rfl (by decide) (sv (d := .slice _ _) rfl)) <|
                ils_cons rfl (iop_assign rfl rfl (by decide) (sv (d := .int _ _) rfl)) <|
                ils_end ?_)
              obtain ⟨x43, hx43, h⟩ := bno_e h
              refine iwp_reg (ils_cons rfl (iop_move rfl rfl (by decide) (sv (d := .slice _ _) rfl)) <|
                ils_cons rfl (iop_bytes_str (l := x42.1) rfl rfl (by decide) Try.underlying56 Try.underlying5 Try.underlying9 (sv (d := .slice _ _) rfl)) <|
                ils_cons rfl (iop_fieldAddr_ref rfl rfl (by decide) Try.underlying44 rfl ti9 (by decide) (sv (d := .ref _ _) rfl) (off' := 9) rfl) <|
                ils_cons rfl (iop_load_rs (d := .str _) rfl rfl (by decide) Try.underlying9 ag9 ti9 (by decide) (sv (d := .ref _ _) rfl) rfl (nle rfl) rfl) <|
                ils_cons rfl (iop_catx rfl rfl (by decide) (sv (d := .str _) rfl) (sv (d := .str _) rfl) hx43) <|
                ils_cons rfl (iop_assign rfl rfl (by decide) (sv (d := .str _) rfl)) <|
                ils_end ?_)
              refine iwp_ret ?_
              obtain rfl := Option.some.inj h
              refine ⟨.inr rfl, (.cons (sv rfl) .nil)⟩

set_option maxRecDepth 8000 in
set_option maxHeartbeats 2000000 in
theorem p_slices_Clone_byte_byte_h (a0 : (List UInt8)) (r : (List UInt8)) (h : slices_Clone_byte_byte_h a0 = some r) : FnH Try.prog 33 [.slice false (a0.map eByte.d)] [] (.osl 0 eByte.sz r.length) [(0, .blk 5 (D.flat (r.map eByte.d)))] := by
  refine fnh_of_iwp (rs := [.osl 0 eByte.sz r.length]) Try.func33 rfl Try.ntmps33 (nle rfl) fun O hO => ?_
  show IWP _ _ _ _ ⟨[(0, .slice false (a0.map eByte.d))], []⟩ _
  unfold slices_Clone_byte_byte_h at h
  refine iwp_reg (ils_cons rfl (iop_assign rfl rfl (by decide) (sv (d := .nils) rfl)) <|
    ils_end ?_)
  refine iwp_seq ?_
  refine iwp_reg (ils_cons rfl (iop_move rfl rfl (by decide) (sv (d := .slice _ _) rfl)) <|
    ils_eqnil rfl rfl rfl (by decide) Try.underlying56 (sv (d := .slice _ _) rfl) rfl <| fun bn1 hbn1 =>
    ils_end ?_)
  refine iwp_cond (b := _) rfl (fun hc2 => ?_) (fun hc2 => ?_)
  ·
    replace h := bothE_t h (mapE (hbn1 hc2))
    refine iwp_reg (ils_cons rfl (iop_assign rfl rfl (by decide) (sv (d := .nils) rfl)) <|
      ils_end ?_)
    refine iwp_ret ?_
    refine thenQ_r ?_
    obtain rfl := Option.some.inj h
    refine ⟨.inr rfl, (fun i => if i = 0 then 50 else i), ⟨.nil, (.cons (.nilb rfl) .nil), nd_of [50] rfl (by decide), (fun i hi => by first | rfl | (show (if _ then _ else _) = _; (repeat' split) <;> omega))⟩, (.cons (svno rfl) .nil), rfl⟩
  ·
    replace h := bothE_f h
    refine iwp_skip ?_
    refine thenQ_n ?_
    obtain ⟨x3, hx3, h⟩ := bno_e h
    refine iwp_reg (ils_cons rfl (iop_bsO eByte.toEnc0 ([] : (List UInt8)) 0 rfl rfl (by decide) Try.underlying56 ti5 rfl .nil rfl rfl (by decide)) <|
      ils_cons rfl (iop_move rfl rfl (by decide) (sv (d := .slice _ _) rfl)) <|
      ils_cons rfl (iop_appO eByte.toEnc0 1 rfl rfl (by decide) Try.underlying56 ti5 rfl rfl rfl rfl rfl (src_T eByte (ys := a0) (sv (d := .slice _ _) rfl)) hx3) <|
      ils_cons rfl (iop_assign rfl rfl (by decide) (sv (d := .osl _ _ _) rfl)) <|
      ils_end ?_)
    refine iwp_ret ?_
    obtain rfl := Option.some.inj h
    refine ⟨.inr rfl, (fun i => if i = 0 then 1 else i), ⟨.nil, (.cons (EntW.lst rfl) .nil), nd_of [1] rfl (by decide), (fun i hi => by first | rfl | (show (if _ then _ else _) = _; (repeat' split) <;> omega))⟩, (.cons (sv rfl) .nil), rfl⟩

set_option maxRecDepth 8000 in
set_option maxHeartbeats 2000000 in
theorem p_cursor_Fits (a0 : Int) (a1 : Int) (r : Bool) (h : cursor_Fits a0 a1 = some r) : PureAt Try.prog 34 [.int .i64 a0, .int .i64 a1] (.bool r) := by
  refine pure_of_iwp (rs := [.bool r]) Try.func34 rfl Try.ntmps34 (nle rfl) rfl fun O hO => ?_
  show IWP _ _ _ _ ⟨[(0, .int .i64 a0), (1, .int .i64 a1)], []⟩ _
  unfold cursor_Fits at h
  refine iwp_reg (ils_cons rfl (iop_assign rfl rfl (by decide) (sv (d := .bool false) rfl)) <|
    ils_end ?_)
  obtain ⟨x1, hx1, h⟩ := bnd_e h
  obtain ⟨x2, hx2, h⟩ := bnd_e h
  obtain ⟨x3, hx3, h⟩ := bnd_e h
  obtain ⟨x4, hx4, h⟩ := bnd_e h
  obtain ⟨x5, hx5, h⟩ := bnd_e h
  obtain ⟨x6, hx6, h⟩ := bnd_e h
  obtain ⟨x7, hx7, h⟩ := bno_e h
  obtain ⟨x8, hx8, h⟩ := bnd_e h
  obtain ⟨x9, hx9, h⟩ := bnd_e h
  refine iwp_reg (ils_cons rfl (iop_move rfl rfl (by decide) (sv (d := .int _ _) rfl)) <|
    ils_cons rfl (iop_cmpx rfl rfl (by decide) (sv (d := .int _ _) rfl) (sv (d := .int _ 0) rfl) rfl hx1) <|
    ils_cons rfl (iop_move rfl rfl (by decide) (sv (d := .bool _) rfl)) <|
    ils_guard rfl rfl (.one rfl) rfl (by decide) (fun hb => (iop_move rfl rfl (by decide) (sv (d := .int _ _) rfl))) <|
    ils_guard rfl rfl (.one rfl) rfl (by decide) (fun hb => (iop_cmpx rfl rfl (by decide) (svc (d := .int _ _) rfl hb) (sv (d := .int _ 1) rfl) rfl hx2)) <|
    ils_cons rfl (iop_andx rfl rfl (by decide) (sv (d := .bool _) rfl) rfl rfl hx3) <|
    ils_cons rfl (iop_move rfl rfl (by decide) (sv (d := .bool _) rfl)) <|
    ils_guard rfl rfl (.one rfl) rfl (by decide) (fun hb => (iop_move rfl rfl (by decide) (sv (d := .int _ _) rfl))) <|
    ils_guard rfl rfl (.one rfl) rfl (by decide) (fun hb => (iop_cmpx rfl rfl (by decide) (svc (d := .int _ _) rfl hb) (sv (d := .int _ 7) rfl) rfl hx4)) <|
    ils_cons rfl (iop_andx rfl rfl (by decide) (sv (d := .bool _) rfl) rfl rfl hx5) <|
    ils_cons rfl (iop_move rfl rfl (by decide) (sv (d := .bool _) rfl)) <|
    ils_guard rfl rfl (.one rfl) rfl (by decide) (fun hb => (iop_move rfl rfl (by decide) (sv (d := .int _ _) rfl))) <|
    ils_guard rfl rfl (.one rfl) rfl (by decide) (fun hb => (iop_move rfl rfl (by decide) (sv (d := .int _ _) rfl))) <|
    ils_guard rfl rfl (.one rfl) rfl (by decide) (fun hb => (iop_intx rfl rfl (by decide) (sv (d := .int _ 8) rfl) (svc (d := .int _ _) rfl hb) rfl hx6)) <|
    ils_guard rfl rfl (.one rfl) rfl (by decide) (fun hb => (iop_shrx rfl rfl (by decide) (svc (d := .int _ _) rfl hb) (svc (d := .int _ _) rfl hb) (gd_t hx7 hb))) <|
    ils_guard rfl rfl (.one rfl) rfl (by decide) (fun hb => (iop_cmpx rfl rfl (by decide) (svc (d := .int _ _) rfl hb) (sv (d := .int _ 0) rfl) rfl hx8)) <|
    ils_cons rfl (iop_andx rfl rfl (by decide) (sv (d := .bool _) rfl) rfl rfl hx9) <|
    ils_cons rfl (iop_assign rfl rfl (by decide) (sv (d := .bool _) rfl)) <|
    ils_end ?_)
  refine iwp_ret ?_
  obtain rfl := Option.some.inj h
  refine ⟨.inr rfl, (.cons (sv rfl) .nil)⟩

set_option maxRecDepth 8000 in
set_option maxHeartbeats 2000000 in
theorem p_cursor_Lay (a0 : (List UInt8)) (a1 : Int) (a2 : Int) (r : (List UInt8)) (h : cursor_Lay a0 a1 a2 = some r) : PureAt Try.prog 22 [.slice false (a0.map eByte.d), .int .i64 a1, .int .i64 a2] (.slice false (r.map eByte.d)) := by
  refine pure_of_iwpF (rs := [.slice false (r.map eByte.d)]) Try.func22 rfl Try.ntmps22 (nle rfl) rfl fun O hO => ?_
  show IWP _ _ _ _ ⟨[(0, .slice false (a0.map eByte.d)), (1, .int .i64 a1), (2, .int .i64 a2)], []⟩ _
  unfold cursor_Lay at h
  refine iwp_reg (ils_cons rfl (iop_assign rfl rfl (by decide) (sv (d := .nils) rfl)) <|
    ils_end ?_)
  obtain ⟨x1, hx1, h⟩ := bno_e h
  refine iwp_reg (ils_cons rfl (iop_move rfl rfl (by decide) (sv (d := .slice _ _) rfl)) <|
    ils_cons rfl (iop_callh2 (r' := .osl 0 eByte.sz x1.length) (H1' := [(0, .blk 5 (D.flat (x1.map eByte.d)))]) 0 [] rfl rfl (by decide) cl33 (.cons (sv (d := .slice _ _) rfl) .nil) rfl rfl ⟨rfl, rfl, by decide, rfl, List.forall_mem_nil _⟩ (p_slices_Clone_byte_byte_h _ _ hx1) rfl rfl (List.forall_mem_cons.2 ⟨⟨rfl, (handLr eByte)⟩, List.forall_mem_nil _⟩) (by simp only [List.map_cons, List.map_nil, Ent.ren, renL_flat, renL_ref]; rfl)) <|
    ils_cons rfl (iop_assign rfl rfl (by decide) (sv (d := .osl _ _ _) rfl)) <|
    ils_end ?_)
  refine iwp_seq ?_
  obtain ⟨x2, hx2, h⟩ := bno_e h
  refine iwp_reg (ils_cons rfl (iop_move rfl rfl (by decide) (sv (d := .int _ _) rfl)) <|
    ils_cons rfl (iop_move rfl rfl (by decide) (sv (d := .int _ _) rfl)) <|
    ils_cons rfl (iop_call (r := .bool _) rfl rfl (by decide) cl34 (.cons (sv (d := .int _ _) rfl) (.cons (sv (d := .int _ _) rfl) .nil)) rfl (p_cursor_Fits _ _ _ hx2)) <|
    ils_cons rfl (iop_not rfl rfl (by decide) (sv (d := .bool _) rfl)) <|
    ils_end ?_)
  refine iwp_cond (b := _) rfl (fun hc3 => ?_) (fun hc3 => ?_)
  ·
    replace h := bif_t h hc3
    refine iwp_reg (ils_cons rfl (iop_move rfl rfl (by decide) (sv (d := .osl _ _ _) rfl)) <|
      ils_cons rfl (iop_assign rfl rfl (by decide) (sv (d := .osl _ _ _) rfl)) <|
      ils_end ?_)
    refine iwp_ret ?_
    refine thenQ_r ?_
    obtain rfl := Option.some.inj h
    refine ⟨.inr rfl, _, (.cons (sv rfl) .nil), (.cons (FDT eByte rfl rfl) .nil)⟩
  ·
    replace h := bif_f h hc3
    refine iwp_skip ?_
    refine thenQ_n ?_
    refine iwp_seq ?_
    refine iwp_reg (ils_cons rfl (iop_move rfl rfl (by decide) (sv (d := .int _ _) rfl)) <|
      ils_cons rfl (iop_move rfl rfl (by decide) (sv (d := .int _ 0) rfl)) <|
      ils_end ?_)
    refine iwp_block ?_
    refine iwp_loopP (α := Nat × (List UInt8) × Int) (fun z => ⟨[(1, .int .i64 a1), (2, .int .i64 a2), (7, .osl 0 eByte.sz z.2.1.length), (16, .int .i64 a2), (17, .int .i64 z.2.2)], [(0, .blk 5 (D.flat (z.2.1.map eByte.d)))]⟩) (fun z => cursor_Lay_L0 a1 a2 z.1 z.2.1 z.2.2 = some r) (fun z => z.1) (fuel, x1, 0) (fun i => i) ⟨(.cons (.same rfl rfl) (.cons (.same rfl rfl) (.cons (.same rfl rfl) (.cons (.same rfl rfl) (.cons (.same rfl rfl) .nil))))), (.cons (EntW.lst rfl) .nil), nd_of [0] rfl (by decide), (fun i hi => by first | rfl | (show (if _ then _ else _) = _; (repeat' split) <;> omega))⟩ ?_ ?_
    · exact h
    ·
      rintro ⟨n0, v14, v15⟩ h
      cases n0 with
      | zero => exact absurd h (by unfold cursor_Lay_L0; exact nofun)
      | succ n0 =>
        unfold cursor_Lay_L0 at h
        obtain ⟨x26, hx26, h⟩ := bnd_e h
        refine iwp_reg (ils_cons rfl (iop_cmpx rfl rfl (by decide) (sv (d := .int _ _) rfl) (sv (d := .int _ _) rfl) rfl hx26) <|
          ils_end ?_)
        refine iwp_seq ?_
        refine iwp_cond (b := _) rfl (fun hc27 => ?_) (fun hc27 => ?_)
        ·
          replace h := bif_t h hc27
          refine iwp_skip ?_
          refine thenQ_n ?_
          refine iwp_seq ?_
          refine iwp_block ?_
          refine iwp_reg (ils_cons rfl (iop_move rfl rfl (by decide) (sv (d := .int _ _) rfl)) <|
            ils_cons rfl (iop_assign rfl rfl (by decide) (sv (d := .int _ _) rfl)) <|
            ils_end ?_)
          obtain ⟨x28, hx28, h⟩ := bnd_e h
          obtain ⟨x29, hx29, h⟩ := bnd_e h
          obtain ⟨x30, hx30, h⟩ := bnd_e h
          obtain ⟨x31, hx31, h⟩ := bno_e h
          obtain ⟨x32, hx32, h⟩ := bnd_e h
          obtain ⟨x33, hx33, h⟩ := bno_e h
          obtain ⟨x34, hx34, h⟩ := bno_e h
          refine iwp_region (ils_cons rfl (iop_move rfl rfl (by decide) (sv (d := .osl _ _ _) rfl)) <|
            ils_cons rfl (iop_move rfl rfl (by decide) (sv (d := .int _ _) rfl)) <|
            ils_cons rfl (iop_move rfl rfl (by decide) (sv (d := .int _ _) rfl)) <|
            ils_cons rfl (iop_intx rfl rfl (by decide) (sv (d := .int _ _) rfl) (sv (d := .int _ 1) rfl) rfl hx28) <|
            ils_cons rfl (iop_move rfl rfl (by decide) (sv (d := .int _ _) rfl)) <|
            ils_cons rfl (iop_intx rfl rfl (by decide) (sv (d := .int _ _) rfl) (sv (d := .int _ _) rfl) rfl hx29) <|
            ils_cons rfl (iop_intx rfl rfl (by decide) (sv (d := .int _ 8) rfl) (sv (d := .int _ _) rfl) rfl hx30) <|
            ils_cons rfl (iop_shrx rfl rfl (by decide) (sv (d := .int _ _) rfl) (sv (d := .int _ _) rfl) hx31) <|
            ils_cons rfl (iop_int_conv rfl rfl (by decide) ⟨_, Try.underlying3⟩ Try.underlying5 (sv (d := .int _ _) rfl) hx32) <|
            ils_cons rfl (iop_bsO eByte.toEnc0 ([x33] : (List UInt8)) 1 rfl rfl (by decide) Try.underlying56 ti5 rfl (.cons (sv_int (sv (d := .int _ _) rfl) (toU8_e hx33)) .nil) rfl rfl (by decide)) <|
            ils_cons rfl (iop_appO eByte.toEnc0 2 rfl rfl (by decide) Try.underlying56 ti5 rfl rfl rfl rfl rfl (src_O eByte.toEnc0 rfl rfl rfl) hx34) <|
            ils_cons rfl (iop_assign rfl rfl (by decide) (sv (d := .osl _ _ _) rfl)) <|
            ils_nil ?_)
          refine blockQ_n ?_
          refine thenQ_n ?_
          obtain ⟨x35, hx35, h⟩ := bnd_e h
          refine iwp_region (ils_cons rfl (iop_intx rfl rfl (by decide) (sv (d := .int _ _) rfl) (sv (d := .int _ 1) rfl) rfl hx35) <|
            ils_cons rfl (iop_move rfl rfl (by decide) (sv (d := .int _ _) rfl)) <|
            ils_nil ?_)
          refine thenQ_n ⟨(n0, x34, x35), (fun i => if i = 0 then 2 else i), ⟨(.cons (.same rfl rfl) (.cons (.same rfl rfl) (.cons (.same rfl rfl) (.cons (.same rfl rfl) (.cons (.same rfl rfl) .nil))))), (.cons (EntW.lst rfl) .nil), nd_of [2] rfl (by decide), (fun i hi => by first | rfl | (show (if _ then _ else _) = _; (repeat' split) <;> omega))⟩, ?_, ?_⟩
          exact h
          exact Nat.lt_succ_self _
        ·
          replace h := bif_f h hc27
          refine iwp_exit ?_
          refine thenQ_e ?_
          refine thenQ_e ?_
          refine blockQ_e ?_
          refine thenQ_n ?_
          refine iwp_reg (ils_cons rfl (iop_move rfl rfl (by decide) (sv (d := .osl _ _ _) rfl)) <|
            ils_cons rfl (iop_assign rfl rfl (by decide) (sv (d := .osl _ _ _) rfl)) <|
            ils_end ?_)
          refine iwp_ret ?_
          obtain rfl := Option.some.inj h
          refine ⟨.inr rfl, _, (.cons (sv rfl) .nil), (.cons (FDT eByte rfl rfl) .nil)⟩

set_option maxRecDepth 8000 in
set_option maxHeartbeats 2000000 in
theorem p_frame_Put (a0 : T_frame_Frame) (r : ((List UInt8) × Int)) (h : frame_Put a0 = some r) : PureAt Try.prog 14 [.agg [.int .u8 a0.Kind, .bool a0.Flag, .int .i64 a0.Stream, .int .i64 a0.Offset, .int .i64 a0.Dep, .int .i64 a0.Weight, .int .i64 a0.N, .int .i64 a0.Code, .slice false (a0.Pairs.map E_api_Pair.d), .str a0.Data]] (retD [.str r.1, .int .i64 r.2]) := by
  refine pure_of_iwp (rs := [.str r.1, .int .i64 r.2]) Try.func14 rfl Try.ntmps14 (nle rfl) rfl fun O hO => ?_
  show IWP _ _ _ _ ⟨[(0, .agg [.int .u8 a0.Kind, .bool a0.Flag, .int .i64 a0.Stream, .int .i64 a0.Offset, .int .i64 a0.Dep, .int .i64 a0.Weight, .int .i64 a0.N, .int .i64 a0.Code, .slice false (a0.Pairs.map E_api_Pair.d), .str a0.Data])], []⟩ _
  unfold frame_Put at h
  refine iwp_reg (ils_cons rfl (iop_box' (cs := [.int _ _, .bool _, .int _ _, .int _ _, .int _ _, .int _ _, .int _ _, .int _ _, .slice _ _, .str _]) 0 rfl rfl (by decide) rfl (sv (d := .agg [.int _ _, .bool _, .int _ _, .int _ _, .int _ _, .int _ _, .int _ _, .int _ _, .slice _ _, .str _]) rfl) rfl rfl) <|
    ils_cons rfl (iop_assign rfl rfl (by decide) (sv (d := .str []) rfl)) <|
    ils_cons rfl (iop_assign rfl rfl (by decide) (sv (d := .int _ 0) rfl)) <|
    ils_end ?_)
  refine iwp_seq ?_
  obtain ⟨x1, hx1, h⟩ := bno_e h
  refine iwp_reg (ils_cons rfl (iop_load_ra (cs := [.int _ _, .bool _, .int _ _, .int _ _, .int _ _, .int _ _, .int _ _, .int _ _, .slice _ _, .str _]) rfl rfl (by decide) Try.underlying44 ag44 ti44 (by decide) (sv (d := .ref _ _) rfl) rfl (nle rfl) rfl) <|
    ils_cons rfl (iop_call (r := .int _ _) rfl rfl (by decide) cl19 (.cons (sv (d := .agg [.int _ _, .bool _, .int _ _, .int _ _, .int _ _, .int _ _, .int _ _, .int _ _, .slice _ _, .str _]) rfl) .nil) rfl (p_frame_Check _ _ hx1)) <|
    ils_cons rfl (iop_assign rfl rfl (by decide) (sv (d := .int _ _) rfl)) <|
    ils_end ?_)
  obtain ⟨x2, hx2, h⟩ := bnd_e h
  refine iwp_reg (ils_cons rfl (iop_move rfl rfl (by decide) (sv (d := .int _ _) rfl)) <|
    ils_cons rfl (iop_cmpx rfl rfl (by decide) (sv (d := .int _ _) rfl) (sv (d := .int _ 0) rfl) rfl hx2) <|
    ils_end ?_)
  refine iwp_cond (b := _) rfl (fun hc3 => ?_) (fun hc3 => ?_)
  ·
    replace h := bif_t h hc3
    refine iwp_reg (ils_cons rfl (iop_move rfl rfl (by decide) (sv (d := .int _ _) rfl)) <|
      ils_cons rfl (iop_assign rfl rfl (by decide) (sv (d := .str []) rfl)) <|
      ils_cons rfl (iop_assign rfl rfl (by decide) (sv (d := .int _ _) rfl)) <|
      ils_end ?_)
    refine iwp_ret ?_
    refine thenQ_r ?_
    obtain rfl := Option.some.inj h
    refine ⟨.inr rfl, (.cons (sv rfl) (.cons (sv rfl) .nil))⟩
  ·
    replace h := bif_f h hc3
    refine iwp_skip ?_
    refine thenQ_n ?_
    refine iwp_reg (ils_cons rfl (iop_assign rfl rfl (by decide) (sv (d := .int _ 0) rfl)) <|
      ils_end ?_)
    refine iwp_join (α := Int) (fun z => ⟨[(1, .ref 0 0), (5, .int .i64 z)], [(0, .blk 44 [.int .u8 a0.Kind, .bool a0.Flag, .int .i64 a0.Stream, .int .i64 a0.Offset, .int .i64 a0.Dep, .int .i64 a0.Weight, .int .i64 a0.N, .int .i64 a0.Code, .slice false (a0.Pairs.map E_api_Pair.d), .str a0.Data])]⟩) (fun z => frame_Put_J0 a0 z = some r) ?_ ?_
    ·
      refine iwp_reg (ils_cons rfl (iop_fieldAddr_ref rfl rfl (by decide) Try.underlying44 rfl ti4 (by decide) (sv (d := .ref _ _) rfl) (off' := 1) rfl) <|
        ils_cons rfl (iop_load_rs (d := .bool _) rfl rfl (by decide) Try.underlying4 ag4 ti4 (by decide) (sv (d := .ref _ _) rfl) rfl (nle rfl) rfl) <|
        ils_end ?_)
      refine iwp_cond (b := _) rfl (fun hc15 => ?_) (fun hc15 => ?_)
      ·
        replace h := bif_t h hc15
        refine iwp_region (ils_cons rfl (iop_assign rfl rfl (by decide) (sv (d := .int _ 1) rfl)) <|
          ils_nil ?_)
        refine thenQ_n ⟨1, (fun i => i), ⟨(.cons (.same rfl rfl) (.cons (.same rfl rfl) .nil)), (.cons (.blk rfl rfl rfl) .nil), nd_of [0] rfl (by decide), (fun i hi => by first | rfl | (show (if _ then _ else _) = _; (repeat' split) <;> omega))⟩, ?_⟩
        exact h
      ·
        replace h := bif_f h hc15
        refine iwp_skip ?_
        refine thenQ_n ⟨0, (fun i => i), ⟨(.cons (.same rfl rfl) (.cons (.same rfl rfl) .nil)), (.cons (.blk rfl rfl rfl) .nil), nd_of [0] rfl (by decide), (fun i hi => by first | rfl | (show (if _ then _ else _) = _; (repeat' split) <;> omega))⟩, ?_⟩
        exact h
    ·
      rintro v5 h
      unfold frame_Put_J0 at h
      obtain ⟨x6, hx6, h⟩ := bno_e h
      refine iwp_reg (ils_cons rfl (iop_load_ra (cs := [.int _ _, .bool _, .int _ _, .int _ _, .int _ _, .int _ _, .int _ _, .int _ _, .slice _ _, .str _]) rfl rfl (by decide) Try.underlying44 ag44 ti44 (by decide) (sv (d := .ref _ _) rfl) rfl (nle rfl) rfl) <|
        ils_cons rfl (iop_call (r := .str _) rfl rfl (by decide) cl20 (.cons (sv (d := .agg [.int _ _, .bool _, .int _ _, .int _ _, .int _ _, .int _ _, .int _ _, .int _ _, .slice _ _, .str _]) rfl) .nil) rfl (p_frame_Frame_payload _ _ hx6)) <|
        ils_cons rfl (iop_assign rfl rfl (by decide) (sv (d := .str _) rfl)) <|
        ils_end ?_)
      obtain ⟨x7, hx7, h⟩ := bno_e h
      refine iwp_reg (ils_cons rfl (iop_move rfl rfl (by decide) (sv (d := .str _) rfl)) <|
        ils_cons rfl (iop_len_str rfl rfl (by decide) Try.underlying9 (sv (d := .str _) rfl) rfl) <|
        ils_cons rfl (iop_call (r := .tuple [.slice _ _, .int _ _]) rfl rfl (by decide) cl21 (.cons (sv (d := .int _ _) rfl) .nil) rfl (p_varint_Put _ _ hx7)) <|
        ils_cons rfl (iop_move rfl rfl (by decide) (sv (d := .tuple [.slice _ _, .int _ _]) rfl)) <|
        ils_cons rfl (iop_extract (d := .slice _ _) rfl rfl (by decide) (sv (d := .tuple [.slice _ _, .int _ _]) rfl) rfl) <|
        ils_cons rfl (iop_extract (d := .int _ _) rfl rfl (by decide) (sv (d := .tuple [.slice _ _, .int _ _]) rfl) rfl) <|
        ils_cons rfl (iop_assign rfl rfl (by decide) (sv (d := .slice _ _) rfl)) <|
        ils_cons rfl (iop_assign rfl rfl (by decide) (sv (d := .int _ _) rfl)) <|
        ils_end ?_)
      refine iwp_seq ?_
      obtain ⟨x8, hx8, h⟩ := bnd_e h
      refine iwp_reg (ils_cons rfl (iop_move rfl rfl (by decide) (sv (d := .int _ _) rfl)) <|
        ils_cons rfl (iop_cmpx rfl rfl (by decide) (sv (d := .int _ _) rfl) (sv (d := .int _ 0) rfl) rfl hx8) <|
        ils_end ?_)
      refine iwp_cond (b := _) rfl (fun hc9 => ?_) (fun hc9 => ?_)
      ·
        replace h := bif_t h hc9
        refine iwp_reg (ils_cons rfl (iop_move rfl rfl (by decide) (sv (d := .int _ _) rfl)) <|
          ils_cons rfl (iop_assign rfl rfl (by decide) (sv (d := .str []) rfl)) <|
          ils_cons rfl (iop_assign rfl rfl (by decide) (sv (d := .int _ _) rfl)) <|
          ils_end ?_)
        refine iwp_ret ?_
        refine thenQ_r ?_
        obtain rfl := Option.some.inj h
        refine ⟨.inr rfl, (.cons (sv rfl) (.cons (sv rfl) .nil))⟩
      ·
        replace h := bif_f h hc9
        refine iwp_skip ?_
        refine thenQ_n ?_
        obtain ⟨x10, hx10, h⟩ := bnd_e h
        obtain ⟨x11, hx11, h⟩ := bno_e h
        obtain ⟨x12, hx12, h⟩ := bno_e h
        refine iwp_reg (ils_cons rfl (iop_fieldAddr_ref rfl rfl (by decide) Try.underlying44 rfl ti5 (by decide) (sv (d := .ref _ _) rfl) (off' := 0) rfl) <|
          ils_cons rfl (iop_load_rs (d := .int _ _) rfl rfl (by decide) Try.underlying5 ag5 ti5 (by decide) (sv (d := .ref _ _) rfl) rfl (nle rfl) rfl) <|
          ils_cons rfl (iop_int_conv rfl rfl (by decide) ⟨_, Try.underlying5⟩ Try.underlying3 (sv (d := .int _ _) rfl) hx10) <|
          ils_cons rfl (iop_call (r := .slice _ _) rfl rfl (by decide) cl22 (.cons (svn rfl) (.cons (sv (d := .int _ _) rfl) (.cons (sv (d := .int _ 1) rfl) .nil))) rfl (p_cursor_Lay _ _ _ _ hx11)) <|
          ils_cons rfl (iop_move rfl rfl (by decide) (sv (d := .int _ _) rfl)) <|
          ils_cons rfl (iop_call (r := .slice _ _) rfl rfl (by decide) cl22 (.cons (sv (d := .slice _ _) rfl) (.cons (sv (d := .int _ _) rfl) (.cons (sv (d := .int _ 1) rfl) .nil))) rfl (p_cursor_Lay _ _ _ _ hx12)) <|
          ils_cons rfl (iop_assign rfl rfl (by decide) (sv (d := .slice _ _) rfl)) <|
          ils_end ?_)
        obtain ⟨x13, hx13, h⟩ := bno_e h
        obtain ⟨x14, hx14, h⟩ := bno_e h
        refine iwp_reg (ils_cons rfl (iop_move rfl rfl (by decide) (sv (d := .slice _ _) rfl)) <|
          ils_cons rfl (iop_bytes_str (l := x12) rfl rfl (by decide) Try.underlying56 Try.underlying5 Try.underlying9 (sv (d := .slice _ _) rfl)) <|
          ils_cons rfl (iop_move rfl rfl (by decide) (sv (d := .slice _ _) rfl)) <|
          ils_cons rfl (iop_bytes_str (l := x7.1) rfl rfl (by decide) Try.underlying56 Try.underlying5 Try.underlying9 (sv (d := .slice _ _) rfl)) <|
          ils_cons rfl (iop_catx rfl rfl (by decide) (sv (d := .str _) rfl) (sv (d := .str _) rfl) hx13) <|
          ils_cons rfl (iop_move rfl rfl (by decide) (sv (d := .str _) rfl)) <|
          ils_cons rfl (iop_catx rfl rfl (by decide) (sv (d := .str _) rfl) (sv (d := .str _) rfl) hx14) <|
          ils_cons rfl (iop_assign rfl rfl (by decide) (sv (d := .str _) rfl)) <|
          ils_cons rfl (iop_assign rfl rfl (by decide) (sv (d := .int _ 0) rfl)) <|
          ils_end ?_)
        refine iwp_ret ?_
        obtain rfl := Option.some.inj h
        refine ⟨.inr rfl, (.cons (sv rfl) (.cons (sv rfl) .nil))⟩

set_option maxRecDepth 8000 in
set_option maxHeartbeats 2000000 in
theorem p_sennitlaw16_DeframeBack (a0 : (List T_frame_Frame)) (r : Bool) (h : sennitlaw16_DeframeBack a0 = some r) : PureAt Try.prog 5 [.slice false (a0.map E_frame_Frame.d)] (.bool r) := by
  refine pure_of_iwp (rs := [.bool r]) Try.func5 rfl Try.ntmps5 (nle rfl) rfl fun O hO => ?_
  show IWP _ _ _ _ ⟨[(0, .slice false (a0.map E_frame_Frame.d))], []⟩ _
  unfold sennitlaw16_DeframeBack at h
  refine iwp_reg (ils_cons rfl (iop_assign rfl rfl (by decide) (sv (d := .bool false) rfl)) <|
    ils_end ?_)
  refine iwp_seq ?_
  obtain ⟨x1, hx1, h⟩ := bnd_e h
  refine iwp_reg (ils_cons rfl (iop_move rfl rfl (by decide) (sv (d := .slice _ _) rfl)) <|
    ils_cons rfl (iop_lenT E_frame_Frame (l := a0) rfl rfl (by decide) Try.underlying31 (sv (d := .slice _ _) rfl)) <|
    ils_cons rfl (iop_cmpx rfl rfl (by decide) (sv (d := .int _ _) rfl) (sv (d := .int _ 12) rfl) rfl hx1) <|
    ils_end ?_)
  refine iwp_cond (b := _) rfl (fun hc2 => ?_) (fun hc2 => ?_)
  ·
    replace h := bif_t h hc2
    obtain ⟨x3, hx3, h⟩ := bno_e h
    refine iwp_reg (ils_cons rfl (iop_call (r := .bool _) rfl rfl (by decide) cl6 .nil rfl (p_sennitlaw16_awake  _ hx3)) <|
      ils_cons rfl (iop_assign rfl rfl (by decide) (sv (d := .bool _) rfl)) <|
      ils_end ?_)
    refine iwp_ret ?_
    refine thenQ_r ?_
    obtain rfl := Option.some.inj h
    refine ⟨.inr rfl, (.cons (sv rfl) .nil)⟩
  ·
    replace h := bif_f h hc2
    refine iwp_skip ?_
    refine thenQ_n ?_
    refine iwp_reg (ils_cons rfl (iop_assign rfl rfl (by decide) (sv (d := .str []) rfl)) <|
      ils_end ?_)
    refine iwp_reg (ils_cons rfl (iop_assign rfl rfl (by decide) (sv (d := .nils) rfl)) <|
      ils_end ?_)
    refine iwp_seq ?_
    refine iwp_reg (ils_cons rfl (iop_assign rfl rfl (by decide) (sv (d := .int _ 0) rfl)) <|
      ils_end ?_)
    refine iwp_block ?_
    refine iwp_loopP (α := Nat × (List UInt8) × (List T_frame_Frame) × Int) (fun z => ⟨[(0, .slice false (a0.map E_frame_Frame.d)), (3, .str z.2.1), (4, .gsl 21 E_frame_Frame.sz (z.2.2.1.map E_frame_Frame.d)), (5, .int .i64 z.2.2.2)], [(21, .tail 41 E_frame_Frame.sz z.2.2.1.length)]⟩) (fun z => sennitlaw16_DeframeBack_L0 a0 z.1 z.2.1 z.2.2.1 z.2.2.2 = some r) (fun z => z.1) (fuel, ([] : (List UInt8)), ([] : (List T_frame_Frame)), 0) (fun i => if i = 21 then 71 else i) ⟨(.cons (.same rfl rfl) (.cons (.same rfl rfl) (.cons (.nils rfl) (.cons (.same rfl rfl) .nil)))), (.cons (.nils rfl) .nil), nd_of [71] rfl (by decide), (fun i hi => by first | rfl | (show (if _ then _ else _) = _; (repeat' split) <;> omega))⟩ ?_ ?_
    · exact h
    ·
      rintro ⟨n0, v19, v20, v21⟩ h
      cases n0 with
      | zero => exact absurd h (by unfold sennitlaw16_DeframeBack_L0; exact nofun)
      | succ n0 =>
        unfold sennitlaw16_DeframeBack_L0 at h
        refine iwp_seq ?_
        obtain ⟨x37, hx37, h⟩ := bnd_e h
        refine iwp_reg (ils_cons rfl (iop_move rfl rfl (by decide) (sv (d := .int _ _) rfl)) <|
          ils_cons rfl (iop_move rfl rfl (by decide) (sv (d := .slice _ _) rfl)) <|
          ils_cons rfl (iop_lenT E_frame_Frame (l := a0) rfl rfl (by decide) Try.underlying31 (sv (d := .slice _ _) rfl)) <|
          ils_cons rfl (iop_cmpx rfl rfl (by decide) (sv (d := .int _ _) rfl) (sv (d := .int _ _) rfl) rfl hx37) <|
          ils_end ?_)
        refine iwp_cond (b := _) rfl (fun hc38 => ?_) (fun hc38 => ?_)
        ·
          replace h := bif_t h hc38
          refine iwp_skip ?_
          refine thenQ_n ?_
          refine iwp_seq ?_
          refine iwp_block ?_
          refine iwp_seq ?_
          obtain ⟨x39, hx39, h⟩ := bno_e h
          obtain ⟨x40, hx40, h⟩ := bno_e h
          refine iwp_reg (ils_cons rfl (iop_move rfl rfl (by decide) (sv (d := .slice _ _) rfl)) <|
            ils_cons rfl (iop_move rfl rfl (by decide) (sv (d := .int _ _) rfl)) <|
            ils_cons rfl (iop_idxT E_frame_Frame (cs := [.int _ _, .bool _, .int _ _, .int _ _, .int _ _, .int _ _, .int _ _, .int _ _, .slice _ _, .str _]) rfl rfl (by decide) Try.underlying31 ti41 (sv (d := .slice _ _) rfl) (sv (d := .int _ _) rfl) hx39 rfl rfl) <|
            ils_cons rfl (iop_load_fa (cs := [.int _ _, .bool _, .int _ _, .int _ _, .int _ _, .int _ _, .int _ _, .int _ _, .slice _ _, .str _]) rfl rfl (by decide) Try.underlying41 ag41 ti41 (by decide) (sv (d := .fptr [.int _ _, .bool _, .int _ _, .int _ _, .int _ _, .int _ _, .int _ _, .int _ _, .slice _ _, .str _]) rfl) (nle rfl) rfl) <|
            ils_cons rfl (iop_call (r := .bool _) rfl rfl (by decide) cl13 (.cons (sv (d := .agg [.int _ _, .bool _, .int _ _, .int _ _, .int _ _, .int _ _, .int _ _, .int _ _, .slice _ _, .str _]) rfl) .nil) rfl (p_sennitref15_Light _ _ hx40)) <|
            ils_cons rfl (iop_not rfl rfl (by decide) (sv (d := .bool _) rfl)) <|
            ils_end ?_)
          refine iwp_cond (b := _) rfl (fun hc41 => ?_) (fun hc41 => ?_)
          ·
            replace h := bif_t h hc41
            obtain ⟨x42, hx42, h⟩ := bno_e h
            refine iwp_reg (ils_cons rfl (iop_call (r := .bool _) rfl rfl (by decide) cl6 .nil rfl (p_sennitlaw16_awake  _ hx42)) <|
              ils_cons rfl (iop_assign rfl rfl (by decide) (sv (d := .bool _) rfl)) <|
              ils_end ?_)
            refine iwp_ret ?_
            refine thenQ_r ?_
            refine blockQ_r ?_
            refine thenQ_r ?_
            refine thenQ_r ?_
            refine blockQ_r ?_
            refine thenQ_r ?_
            obtain rfl := Option.some.inj h
            refine ⟨.inr rfl, (.cons (sv rfl) .nil)⟩
          ·
            replace h := bif_f h hc41
            refine iwp_skip ?_
            refine thenQ_n ?_
            obtain ⟨x43, hx43, h⟩ := bno_e h
            obtain ⟨x44, hx44, h⟩ := bno_e h
            refine iwp_reg (ils_cons rfl (iop_move rfl rfl (by decide) (sv (d := .slice _ _) rfl)) <|
              ils_cons rfl (iop_move rfl rfl (by decide) (sv (d := .int _ _) rfl)) <|
              ils_cons rfl (iop_idxT E_frame_Frame (cs := [.int _ _, .bool _, .int _ _, .int _ _, .int _ _, .int _ _, .int _ _, .int _ _, .slice _ _, .str _]) rfl rfl (by decide) Try.underlying31 ti41 (sv (d := .slice _ _) rfl) (sv (d := .int _ _) rfl) hx43 rfl rfl) <|
              ils_cons rfl (iop_load_fa (cs := [.int _ _, .bool _, .int _ _, .int _ _, .int _ _, .int _ _, .int _ _, .int _ _, .slice _ _, .str _]) rfl rfl (by decide) Try.underlying41 ag41 ti41 (by decide) (sv (d := .fptr [.int _ _, .bool _, .int _ _, .int _ _, .int _ _, .int _ _, .int _ _, .int _ _, .slice _ _, .str _]) rfl) (nle rfl) rfl) <|
              ils_cons rfl (iop_call (r := .tuple [.str _, .int _ _]) rfl rfl (by decide) cl14 (.cons (sv (d := .agg [.int _ _, .bool _, .int _ _, .int _ _, .int _ _, .int _ _, .int _ _, .int _ _, .slice _ _, .str _]) rfl) .nil) rfl (p_frame_Put _ _ hx44)) <|
              ils_cons rfl (iop_move rfl rfl (by decide) (sv (d := .tuple [.str _, .int _ _]) rfl)) <|
              ils_cons rfl (iop_extract (d := .str _) rfl rfl (by decide) (sv (d := .tuple [.str _, .int _ _]) rfl) rfl) <|
              ils_cons rfl (iop_extract (d := .int _ _) rfl rfl (by decide) (sv (d := .tuple [.str _, .int _ _]) rfl) rfl) <|
              ils_cons rfl (iop_assign rfl rfl (by decide) (sv (d := .str _) rfl)) <|
              ils_cons rfl (iop_assign rfl rfl (by decide) (sv (d := .int _ _) rfl)) <|
              ils_end ?_)
            obtain ⟨x45, hx45, h⟩ := bnd_e h
            refine iwp_reg (ils_cons rfl (iop_move rfl rfl (by decide) (sv (d := .int _ _) rfl)) <|
              ils_cons rfl (iop_cmpx rfl rfl (by decide) (sv (d := .int _ _) rfl) (sv (d := .int _ 0) rfl) rfl hx45) <|
              ils_end ?_)
            refine iwp_cond (b := _) rfl (fun hc46 => ?_) (fun hc46 => ?_)
            ·
              replace h := bif_t h hc46
              obtain ⟨x47, hx47, h⟩ := bno_e h
              refine iwp_reg (ils_cons rfl (iop_move rfl rfl (by decide) (sv (d := .str _) rfl)) <|
                ils_cons rfl (iop_move rfl rfl (by decide) (sv (d := .str _) rfl)) <|
                ils_cons rfl (iop_catx rfl rfl (by decide) (sv (d := .str _) rfl) (sv (d := .str _) rfl) hx47) <|
                ils_cons rfl (iop_assign rfl rfl (by decide) (sv (d := .str _) rfl)) <|
                ils_end ?_)
              obtain ⟨x48, hx48, h⟩ := bno_e h
              obtain ⟨x49, hx49, h⟩ := bno_e h
              refine iwp_region (ils_cons rfl (iop_move rfl rfl (by decide) (sv (d := .gsl _ _ _) rfl)) <|
                ils_cons rfl (iop_move rfl rfl (by decide) (sv (d := .slice _ _) rfl)) <|
                ils_cons rfl (iop_move rfl rfl (by decide) (sv (d := .int _ _) rfl)) <|
                ils_cons rfl (iop_idxT E_frame_Frame (cs := [.int _ _, .bool _, .int _ _, .int _ _, .int _ _, .int _ _, .int _ _, .int _ _, .slice _ _, .str _]) rfl rfl (by decide) Try.underlying31 ti41 (sv (d := .slice _ _) rfl) (sv (d := .int _ _) rfl) hx48 rfl rfl) <|
                ils_cons rfl (iop_load_fa (cs := [.int _ _, .bool _, .int _ _, .int _ _, .int _ _, .int _ _, .int _ _, .int _ _, .slice _ _, .str _]) rfl rfl (by decide) Try.underlying41 ag41 ti41 (by decide) (sv (d := .fptr [.int _ _, .bool _, .int _ _, .int _ _, .int _ _, .int _ _, .int _ _, .int _ _, .slice _ _, .str _]) rfl) (nle rfl) rfl) <|
                ils_cons rfl (iop_bsT E_frame_Frame ([x48] : (List T_frame_Frame)) 22 rfl rfl (by decide) Try.underlying31 ti41 rfl (.cons (sv (d := .agg [.int _ _, .bool _, .int _ _, .int _ _, .int _ _, .int _ _, .int _ _, .int _ _, .slice _ _, .str _]) rfl) .nil) rfl rfl (by decide)) <|
                ils_cons rfl (iop_appT E_frame_Frame 23 rfl rfl (by decide) Try.underlying31 ti41 rfl rfl rfl rfl (svg rfl) hx49) <|
                ils_cons rfl (iop_assign rfl rfl (by decide) (sv (d := .gsl _ _ _) rfl)) <|
                ils_nil ?_)
              refine blockQ_n ?_
              refine thenQ_n ?_
              obtain ⟨x50, hx50, h⟩ := bnd_e h
              refine iwp_region (ils_cons rfl (iop_move rfl rfl (by decide) (sv (d := .int _ _) rfl)) <|
                ils_cons rfl (iop_intx rfl rfl (by decide) (sv (d := .int _ _) rfl) (sv (d := .int _ 1) rfl) rfl hx50) <|
                ils_cons rfl (iop_assign rfl rfl (by decide) (sv (d := .int _ _) rfl)) <|
                ils_nil ?_)
              refine thenQ_n ⟨(n0, x47, x49, x50), (fun i => if i = 21 then 23 else i), ⟨(.cons (.same rfl rfl) (.cons (.same rfl rfl) (.cons (.same rfl rfl) (.cons (.same rfl rfl) .nil)))), (.cons (.tail rfl) .nil), nd_of [23] rfl (by decide), (fun i hi => by first | rfl | (show (if _ then _ else _) = _; (repeat' split) <;> omega))⟩, ?_, ?_⟩
              exact h
              exact Nat.lt_succ_self _
            ·
              replace h := bif_f h hc46
              refine iwp_skip ?_
              refine blockQ_n ?_
              refine thenQ_n ?_
              obtain ⟨x51, hx51, h⟩ := bnd_e h
              refine iwp_region (ils_cons rfl (iop_move rfl rfl (by decide) (sv (d := .int _ _) rfl)) <|
                ils_cons rfl (iop_intx rfl rfl (by decide) (sv (d := .int _ _) rfl) (sv (d := .int _ 1) rfl) rfl hx51) <|
                ils_cons rfl (iop_assign rfl rfl (by decide) (sv (d := .int _ _) rfl)) <|
                ils_nil ?_)
              refine thenQ_n ⟨(n0, v19, v20, x51), (fun i => i), ⟨(.cons (.same rfl rfl) (.cons (.same rfl rfl) (.cons (.same rfl rfl) (.cons (.same rfl rfl) .nil)))), (.cons (.tail rfl) .nil), nd_of [21] rfl (by decide), (fun i hi => by first | rfl | (show (if _ then _ else _) = _; (repeat' split) <;> omega))⟩, ?_, ?_⟩
              exact h
              exact Nat.lt_succ_self _
        ·
          replace h := bif_f h hc38
          refine iwp_exit ?_
          refine thenQ_e ?_
          refine thenQ_e ?_
          refine blockQ_e ?_
          refine thenQ_n ?_
          obtain ⟨x52, hx52, h⟩ := bno_e h
          refine iwp_reg (ils_cons rfl (iop_move rfl rfl (by decide) (sv (d := .str _) rfl)) <|
            ils_cons rfl (iop_call (r := .tuple [.slice _ _, .int _ _]) rfl rfl (by decide) cl12 (.cons (sv (d := .str _) rfl) .nil) rfl (p_deframe_All _ _ hx52)) <|
            ils_cons rfl (iop_move rfl rfl (by decide) (sv (d := .tuple [.slice _ _, .int _ _]) rfl)) <|
            ils_cons rfl (iop_extract (d := .slice _ _) rfl rfl (by decide) (sv (d := .tuple [.slice _ _, .int _ _]) rfl) rfl) <|
            ils_cons rfl (iop_extract (d := .int _ _) rfl rfl (by decide) (sv (d := .tuple [.slice _ _, .int _ _]) rfl) rfl) <|
            ils_cons rfl (iop_assign rfl rfl (by decide) (sv (d := .slice _ _) rfl)) <|
            ils_cons rfl (iop_assign rfl rfl (by decide) (sv (d := .int _ _) rfl)) <|
            ils_end ?_)
          refine iwp_reg (ils_cons rfl (iop_allocS (cs := [.str _, .int _ _, .int _ _]) (cs' := [.str [], .int .i64 0, .int .i64 0]) 22 rfl rfl (by decide) rfl ti25 rfl rfl (.cons (.refl _) (.cons (.refl _) (.cons (.refl _) .nil)))) <|
            ils_end ?_)
          refine iwp_reg (ils_cons rfl (iop_assign rfl rfl (by decide) (sv (d := .nils) rfl)) <|
            ils_end ?_)
          refine iwp_seq ?_
          refine iwp_reg (ils_cons rfl (iop_assign rfl rfl (by decide) (sv (d := .int _ 0) rfl)) <|
            ils_end ?_)
          refine iwp_block ?_
          refine iwp_loopP (α := Nat × (List T_frame_Frame) × Int × (List UInt8) × Int × Int) (fun z => ⟨[(3, .str v19), (4, .gsl 21 E_frame_Frame.sz (v20.map E_frame_Frame.d)), (8, .slice false (x52.1.map E_frame_Frame.d)), (9, .int .i64 x52.2), (10, .ref 22 0), (11, .gsl 44 E_frame_Frame.sz (z.2.1.map E_frame_Frame.d)), (12, .int .i64 z.2.2.1)], [(21, .tail 41 E_frame_Frame.sz v20.length), (22, .blk 25 [.str z.2.2.2.1, .int .i64 z.2.2.2.2.1, .int .i64 z.2.2.2.2.2]), (44, .tail 44 E_frame_Frame.sz z.2.1.length)]⟩) (fun z => sennitlaw16_DeframeBack_L1 v19 v20 x52 z.1 z.2.1 z.2.2.1 z.2.2.2.1 z.2.2.2.2.1 z.2.2.2.2.2 = some r) (fun z => z.1) (fuel, ([] : (List T_frame_Frame)), 0, ([] : (List UInt8)), 0, 0) (fun i => if i = 44 then 117 else i) ⟨(.cons (.same rfl rfl) (.cons (.same rfl rfl) (.cons (.same rfl rfl) (.cons (.same rfl rfl) (.cons (.same rfl rfl) (.cons (.nils rfl) (.cons (.same rfl rfl) .nil))))))), (.cons (.tail rfl) (.cons (.blk rfl rfl rfl) (.cons (.nils rfl) .nil))), nd_of [21, 22, 117] rfl (by decide), (fun i hi => by first | rfl | (show (if _ then _ else _) = _; (repeat' split) <;> omega))⟩ ?_ ?_
          · exact h
          ·
            rintro ⟨n1, v66, v67, v68, v69, v70⟩ h
            cases n1 with
            | zero => exact absurd h (by unfold sennitlaw16_DeframeBack_L1; exact nofun)
            | succ n1 =>
              unfold sennitlaw16_DeframeBack_L1 at h
              refine iwp_seq ?_
              obtain ⟨x84, hx84, h⟩ := bnd_e h
              refine iwp_reg (ils_cons rfl (iop_move rfl rfl (by decide) (sv (d := .int _ _) rfl)) <|
                ils_cons rfl (iop_move rfl rfl (by decide) (sv (d := .str _) rfl)) <|
                ils_cons rfl (iop_len_str rfl rfl (by decide) Try.underlying9 (sv (d := .str _) rfl) rfl) <|
                ils_cons rfl (iop_cmpx rfl rfl (by decide) (sv (d := .int _ _) rfl) (sv (d := .int _ _) rfl) rfl hx84) <|
                ils_end ?_)
              refine iwp_cond (b := _) rfl (fun hc85 => ?_) (fun hc85 => ?_)
              ·
                replace h := bif_t h hc85
                refine iwp_skip ?_
                refine thenQ_n ?_
                refine iwp_block ?_
                obtain ⟨x86, hx86, h⟩ := bno_e h
                refine iwp_reg (ils_cons rfl (iop_load_ra (cs := [.str _, .int _ _, .int _ _]) rfl rfl (by decide) Try.underlying25 ag25 ti25 (by decide) (sv (d := .ref _ _) rfl) rfl (nle rfl) rfl) <|
                  ils_cons rfl (iop_call (r := .int _ _) rfl rfl (by decide) cl11 (.cons (sv (d := .agg [.str _, .int _ _, .int _ _]) rfl) .nil) rfl (p_deframe_Need _ _ hx86)) <|
                  ils_cons rfl (iop_assign rfl rfl (by decide) (sv (d := .int _ _) rfl)) <|
                  ils_end ?_)
                refine iwp_seq ?_
                obtain ⟨x87, hx87, h⟩ := bnd_e h
                obtain ⟨x88, hx88, h⟩ := bnd_e h
                obtain ⟨x89, hx89, h⟩ := bnd_e h
                obtain ⟨x90, hx90, h⟩ := bnd_e h
                refine iwp_reg (ils_cons rfl (iop_move rfl rfl (by decide) (sv (d := .int _ _) rfl)) <|
                  ils_cons rfl (iop_cmpx rfl rfl (by decide) (sv (d := .int _ _) rfl) (sv (d := .int _ 1) rfl) rfl hx87) <|
                  ils_cons rfl (iop_move rfl rfl (by decide) (sv (d := .bool _) rfl)) <|
                  ils_guard rfl rfl (.one rfl) rfl (by decide) (fun hb => (iop_move rfl rfl (by decide) (sv (d := .int _ _) rfl))) <|
                  ils_guard rfl rfl (.one rfl) rfl (by decide) (fun hb => (iop_move rfl rfl (by decide) (sv (d := .str _) rfl))) <|
                  ils_guard rfl rfl (.one rfl) rfl (by decide) (fun hb => (iop_len_str rfl rfl (by decide) Try.underlying9 (svc (d := .str _) rfl hb) rfl)) <|
                  ils_guard rfl rfl (.one rfl) rfl (by decide) (fun hb => (iop_move rfl rfl (by decide) (sv (d := .int _ _) rfl))) <|
                  ils_guard rfl rfl (.one rfl) rfl (by decide) (fun hb => (iop_intx rfl rfl (by decide) (svc (d := .int _ _) rfl hb) (svc (d := .int _ _) rfl hb) rfl hx88)) <|
                  ils_guard rfl rfl (.one rfl) rfl (by decide) (fun hb => (iop_cmpx rfl rfl (by decide) (svc (d := .int _ _) rfl hb) (svc (d := .int _ _) rfl hb) rfl hx89)) <|
                  ils_cons rfl (iop_orx rfl rfl (by decide) (sv (d := .bool _) rfl) rfl rfl hx90) <|
                  ils_end ?_)
                refine iwp_cond (b := _) rfl (fun hc91 => ?_) (fun hc91 => ?_)
                ·
                  replace h := bif_t h hc91
                  refine iwp_reg (ils_cons rfl (iop_assign rfl rfl (by decide) (sv (d := .bool false) rfl)) <|
                    ils_end ?_)
                  refine iwp_ret ?_
                  refine thenQ_r ?_
                  refine blockQ_r ?_
                  refine thenQ_r ?_
                  refine blockQ_r ?_
                  refine thenQ_r ?_
                  obtain rfl := Option.some.inj h
                  refine ⟨.inr rfl, (.cons (sv rfl) .nil)⟩
                ·
                  replace h := bif_f h hc91
                  refine iwp_skip ?_
                  refine thenQ_n ?_
                  obtain ⟨x92, hx92, h⟩ := bnd_e h
                  obtain ⟨x93, hx93, h⟩ := bno_e h
                  obtain ⟨x94, hx94, h⟩ := bno_e h
                  refine iwp_drw rfl [⟨[10], [22], [(75, .agg [.str v68, .int .i64 v69, .int .i64 v70])], []⟩,
                    ⟨[3], [], [(76, .str v19)], []⟩,
                    ⟨[12], [], [(77, .int .i64 v67)], []⟩,
                    ⟨[12], [], [(78, .int .i64 v67)], []⟩,
                    ⟨[13], [], [(79, .int .i64 x86)], []⟩,
                    ⟨[78, 79], [], [(80, .int .i64 x92)], []⟩,
                    ⟨[76, 77, 80], [], [(81, .str x93)], []⟩,
                    ⟨[75, 81], [], [(82, .tuple [.agg [.str x94.1.Buf, .int .i64 x94.1.Bad, .int .i64 x94.1.Seen], .slice false (x94.2.map E_frame_Frame.d)])], []⟩,
                    ⟨[82], [], [(74, .tuple [.agg [.str x94.1.Buf, .int .i64 x94.1.Bad, .int .i64 x94.1.Seen], .slice false (x94.2.map E_frame_Frame.d)])], []⟩,
                    ⟨[74], [], [(83, .agg [.str x94.1.Buf, .int .i64 x94.1.Bad, .int .i64 x94.1.Seen])], []⟩,
                    ⟨[74], [], [(84, .slice false (x94.2.map E_frame_Frame.d))], []⟩,
                    ⟨[], [45], [(14, .ref 45 0)], [(45, .blk 25 [.str [], .int .i64 0, .int .i64 0])]⟩,
                    ⟨[14, 83], [45], [], [(45, .blk 25 [.str x94.1.Buf, .int .i64 x94.1.Bad, .int .i64 x94.1.Seen])]⟩,
                    ⟨[84], [], [(15, .slice false (x94.2.map E_frame_Frame.d))], []⟩] rfl ?_ (by kernel_rfl) ?_
                  · refine .cons (lop rfl rfl fun S hA => (iop_load_ra (cs := [.str _, .int _ _, .int _ _]) rfl rfl (by decide) Try.underlying25 ag25 ti25 (by decide) (sv (d := .ref _ _) (agr hA rfl rfl)) (agi hA rfl rfl) (nle rfl) rfl)) ?_
                    refine .cons (lop rfl rfl fun S hA => (iop_move rfl rfl (by decide) (sv (d := .str _) (agr hA rfl rfl)))) ?_
                    refine .cons (lop rfl rfl fun S hA => (iop_move rfl rfl (by decide) (sv (d := .int _ _) (agr hA rfl rfl)))) ?_
                    refine .cons (lop rfl rfl fun S hA => (iop_move rfl rfl (by decide) (sv (d := .int _ _) (agr hA rfl rfl)))) ?_
                    refine .cons (lop rfl rfl fun S hA => (iop_move rfl rfl (by decide) (sv (d := .int _ _) (agr hA rfl rfl)))) ?_
                    refine .cons (lop rfl rfl fun S hA => (iop_intx rfl rfl (by decide) (sv (d := .int _ _) (agr hA rfl rfl)) (sv (d := .int _ _) (agr hA rfl rfl)) rfl hx92)) ?_
                    refine .cons (lop rfl rfl fun S hA => (iop_cutS rfl rfl (by decide) Try.underlying9 (sv (d := .str _) (agr hA rfl rfl)) ⟨_, (sv (d := .int _ _) (agr hA rfl rfl))⟩ ⟨_, (sv (d := .int _ _) (agr hA rfl rfl))⟩ hx93)) ?_
                    refine .cons (lop rfl rfl fun S hA => (iop_call (r := .tuple [.agg [.str _, .int _ _, .int _ _], .slice _ _]) rfl rfl (by decide) cl7 (.cons (sv (d := .agg [.str _, .int _ _, .int _ _]) (agr hA rfl rfl)) (.cons (sv (d := .str _) (agr hA rfl rfl)) .nil)) rfl (p_deframe_Feed _ _ _ hx94))) ?_
                    refine .cons (lop rfl rfl fun S hA => (iop_move rfl rfl (by decide) (sv (d := .tuple [.agg [.str _, .int _ _, .int _ _], .slice _ _]) (agr hA rfl rfl)))) ?_
                    refine .cons (lop rfl rfl fun S hA => (iop_extract (d := .agg [.str _, .int _ _, .int _ _]) rfl rfl (by decide) (sv (d := .tuple [.agg [.str _, .int _ _, .int _ _], .slice _ _]) (agr hA rfl rfl)) rfl)) ?_
                    refine .cons (lop rfl rfl fun S hA => (iop_extract (d := .slice _ _) rfl rfl (by decide) (sv (d := .tuple [.agg [.str _, .int _ _, .int _ _], .slice _ _]) (agr hA rfl rfl)) rfl)) ?_
                    refine .cons (lop rfl rfl fun S hA => (iop_allocS (cs := [.str _, .int _ _, .int _ _]) (cs' := [.str [], .int .i64 0, .int .i64 0]) 45 rfl rfl (by decide) (agi hA rfl rfl) ti25 rfl rfl (.cons (.refl _) (.cons (.refl _) (.cons (.refl _) .nil))))) ?_
                    refine .cons (lop rfl rfl fun S hA => (iop_store (ds' := [.str _, .int _ _, .int _ _]) rfl rfl ti25 (sv (d := .ref _ _) (agr hA rfl rfl)) (agi hA rfl rfl) (sv (d := .agg [.str _, .int _ _, .int _ _]) (agr hA rfl rfl)) rfl rfl rfl (nle rfl) rfl)) ?_
                    refine .cons (lop rfl rfl fun S hA => (iop_assign rfl rfl (by decide) (sv (d := .slice _ _) (agr hA rfl rfl)))) ?_
                    exact .nil
                  obtain ⟨x95, hx95, h⟩ := bno_e h
                  refine iwp_drw rfl [⟨[14], [45], [(85, .agg [.str x94.1.Buf, .int .i64 x94.1.Bad, .int .i64 x94.1.Seen])], []⟩,
                    ⟨[11], [], [(86, .gsl 44 E_frame_Frame.sz (v66.map E_frame_Frame.d))], []⟩,
                    ⟨[15], [], [(87, .slice false (x94.2.map E_frame_Frame.d))], []⟩,
                    ⟨[86, 87], [44, 46], [(88, .gsl 46 E_frame_Frame.sz (x95.map E_frame_Frame.d))], [(46, .tail 44 E_frame_Frame.sz x95.length), (44, .none)]⟩,
                    ⟨[10, 85], [22], [], [(22, .blk 25 [.str x94.1.Buf, .int .i64 x94.1.Bad, .int .i64 x94.1.Seen])]⟩,
                    ⟨[88], [], [(11, .gsl 46 E_frame_Frame.sz (x95.map E_frame_Frame.d))], []⟩] rfl ?_ (by kernel_rfl) ?_
                  · refine .cons (lop rfl rfl fun S hA => (iop_load_ra (cs := [.str _, .int _ _, .int _ _]) rfl rfl (by decide) Try.underlying25 ag25 ti25 (by decide) (sv (d := .ref _ _) (agr hA rfl rfl)) (agi hA rfl rfl) (nle rfl) rfl)) ?_
                    refine .cons (lop rfl rfl fun S hA => (iop_move rfl rfl (by decide) (sv (d := .gsl _ _ _) (agr hA rfl rfl)))) ?_
                    refine .cons (lop rfl rfl fun S hA => (iop_move rfl rfl (by decide) (sv (d := .slice _ _) (agr hA rfl rfl)))) ?_
                    refine .cons (lop rfl rfl fun S hA => (iop_appT E_frame_Frame 46 rfl rfl (by decide) Try.underlying26 ti44 rfl (agr hA rfl rfl) (agi hA rfl rfl) (agi hA rfl rfl) (sv (d := .slice _ _) (agr hA rfl rfl)) hx95)) ?_
                    refine .cons (lop rfl rfl fun S hA => (iop_store (ds' := [.str _, .int _ _, .int _ _]) rfl rfl ti25 (sv (d := .ref _ _) (agr hA rfl rfl)) (agi hA rfl rfl) (sv (d := .agg [.str _, .int _ _, .int _ _]) (agr hA rfl rfl)) rfl rfl rfl (nle rfl) rfl)) ?_
                    refine .cons (lop rfl rfl fun S hA => (iop_assign rfl rfl (by decide) (sv (d := .gsl _ _ _) (agr hA rfl rfl)))) ?_
                    exact .nil
                  obtain ⟨x96, hx96, h⟩ := bnd_e h
                  refine iwp_region (ils_cons rfl (iop_move rfl rfl (by decide) (sv (d := .int _ _) rfl)) <|
                    ils_cons rfl (iop_move rfl rfl (by decide) (sv (d := .int _ _) rfl)) <|
                    ils_cons rfl (iop_intx rfl rfl (by decide) (sv (d := .int _ _) rfl) (sv (d := .int _ _) rfl) rfl hx96) <|
                    ils_cons rfl (iop_assign rfl rfl (by decide) (sv (d := .int _ _) rfl)) <|
                    ils_nil ?_)
                  refine blockQ_n ?_
                  refine thenQ_n ⟨(n1, x95, x96, x94.1.Buf, x94.1.Bad, x94.1.Seen), (fun i => if i = 44 then 46 else i), ⟨(.cons (.same rfl rfl) (.cons (.same rfl rfl) (.cons (.same rfl rfl) (.cons (.same rfl rfl) (.cons (.same rfl rfl) (.cons (.same rfl rfl) (.cons (.same rfl rfl) .nil))))))), (.cons (.tail rfl) (.cons (.blk rfl rfl rfl) (.cons (.tail rfl) .nil))), nd_of [21, 22, 46] rfl (by decide), (fun i hi => by first | rfl | (show (if _ then _ else _) = _; (repeat' split) <;> omega))⟩, ?_, ?_⟩
                  exact h
                  exact Nat.lt_succ_self _
              ·
                replace h := bif_f h hc85
                refine iwp_exit ?_
                refine thenQ_e ?_
                refine thenQ_e ?_
                refine blockQ_e ?_
                refine thenQ_n ?_
                obtain ⟨x97, hx97, h⟩ := bnd_e h
                obtain ⟨x98, hx98, h⟩ := bno_e h
                obtain ⟨x99, hx99, h⟩ := bno_e h
                obtain ⟨x100, hx100, h⟩ := bnd_e h
                obtain ⟨x101, hx101, h⟩ := bno_e h
                obtain ⟨x102, hx102, h⟩ := bno_e h
                obtain ⟨x103, hx103, h⟩ := bnd_e h
                obtain ⟨x104, hx104, h⟩ := bnd_e h
                obtain ⟨x105, hx105, h⟩ := bnd_e h
                obtain ⟨x106, hx106, h⟩ := bno_e h
                obtain ⟨x107, hx107, h⟩ := bnd_e h
                refine iwp_reg (ils_cons rfl (iop_move rfl rfl (by decide) (sv (d := .int _ _) rfl)) <|
                  ils_cons rfl (iop_cmpx rfl rfl (by decide) (sv (d := .int _ _) rfl) (sv (d := .int _ 0) rfl) rfl hx97) <|
                  ils_cons rfl (iop_move rfl rfl (by decide) (sv (d := .bool _) rfl)) <|
                  ils_guard rfl rfl (.one rfl) rfl (by decide) (fun hb => (iop_move rfl rfl (by decide) (sv (d := .slice _ _) rfl))) <|
                  ils_guard rfl rfl (.one rfl) rfl (by decide) (fun hb => (iop_call (r := .slice _ _) rfl rfl (by decide) cl10 (.cons (svc (d := .slice _ _) rfl hb) .nil) rfl (p_sennitlaw16_Frames _ _ (gd_t hx98 hb)))) <|
                  ils_guard rfl rfl (.one rfl) rfl (by decide) (fun hb => (iop_move rfl rfl (by decide) (sv (d := .gsl _ _ _) rfl))) <|
                  ils_guard rfl rfl (.one rfl) rfl (by decide) (fun hb => (iop_call (r := .bool _) rfl rfl (by decide) cl9 (.cons (svc (d := .slice _ _) rfl hb) (.cons (SV.gsls (svc (d := .gsl 21 E_frame_Frame.sz (v20.map E_frame_Frame.d)) rfl hb)) .nil)) rfl (p_sennitref15_SameAll _ _ _ (gd_t hx99 hb)))) <|
                  ils_cons rfl (iop_andx rfl rfl (by decide) (sv (d := .bool _) rfl) rfl rfl hx100) <|
                  ils_cons rfl (iop_move rfl rfl (by decide) (sv (d := .bool _) rfl)) <|
                  ils_guard rfl rfl (.one rfl) rfl (by decide) (fun hb => (iop_move rfl rfl (by decide) (sv (d := .gsl _ _ _) rfl))) <|
                  ils_guard rfl rfl (.one rfl) rfl (by decide) (fun hb => (iop_call (r := .slice _ _) rfl rfl (by decide) cl10 (.cons (SV.gsls (svc (d := .gsl 44 E_frame_Frame.sz (v66.map E_frame_Frame.d)) rfl hb)) .nil) rfl (p_sennitlaw16_Frames _ _ (gd_t hx101 hb)))) <|
                  ils_guard rfl rfl (.one rfl) rfl (by decide) (fun hb => (iop_move rfl rfl (by decide) (sv (d := .gsl _ _ _) rfl))) <|
                  ils_guard rfl rfl (.one rfl) rfl (by decide) (fun hb => (iop_call (r := .bool _) rfl rfl (by decide) cl9 (.cons (svc (d := .slice _ _) rfl hb) (.cons (SV.gsls (svc (d := .gsl 21 E_frame_Frame.sz (v20.map E_frame_Frame.d)) rfl hb)) .nil)) rfl (p_sennitref15_SameAll _ _ _ (gd_t hx102 hb)))) <|
                  ils_cons rfl (iop_andx rfl rfl (by decide) (sv (d := .bool _) rfl) rfl rfl hx103) <|
                  ils_cons rfl (iop_move rfl rfl (by decide) (sv (d := .bool _) rfl)) <|
                  ils_guard rfl rfl (.one rfl) rfl (by decide) (fun hb => (iop_fieldAddr_ref rfl rfl (by decide) Try.underlying25 rfl ti9 (by decide) (sv (d := .ref _ _) rfl) (off' := 0) rfl)) <|
                  ils_guard rfl rfl (.one rfl) rfl (by decide) (fun hb => (iop_load_rs (d := .str _) rfl rfl (by decide) Try.underlying9 ag9 ti9 (by decide) (svc (d := .ref _ _) rfl hb) rfl (nle rfl) rfl)) <|
                  ils_guard rfl rfl (.one rfl) rfl (by decide) (fun hb => (iop_strx rfl rfl (by decide) (svc (d := .str _) rfl hb) (sv (d := .str []) rfl) rfl hx104)) <|
                  ils_cons rfl (iop_andx rfl rfl (by decide) (sv (d := .bool _) rfl) rfl rfl hx105) <|
                  ils_cons rfl (iop_move rfl rfl (by decide) (sv (d := .bool _) rfl)) <|
                  ils_guard rfl rfl (.one rfl) rfl (by decide) (fun hb => (iop_call (r := .bool _) rfl rfl (by decide) cl6 .nil rfl (p_sennitlaw16_awake  _ (gd_t hx106 hb)))) <|
                  ils_cons rfl (iop_andx rfl rfl (by decide) (sv (d := .bool _) rfl) rfl rfl hx107) <|
                  ils_cons rfl (iop_assign rfl rfl (by decide) (sv (d := .bool _) rfl)) <|
                  ils_end ?_)
                refine iwp_ret ?_
                obtain rfl := Option.some.inj h
                refine ⟨.inr rfl, (.cons (sv rfl) .nil)⟩
end Go.Proofs.Ytlmdafogcphbbaa
