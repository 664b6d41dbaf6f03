/-
  A part of the proof: rules and plain facts. No condition.
-/
import Derived.Test.YtleninhggapmeaaProg
import Derived.KernelRfl
import Derived.Test.YtleninhggapmeaaIlZ
import Derived.Test.YtleninhggapmeaaIlA15C2
set_option linter.all false
set_option linter.unusedSimpArgs false
set_option linter.unusedVariables false
open Go Go.IL Go.Fn Go.Proofs
namespace Go.Proofs.Ytleninhggapmeaa
theorem pl40 : ∀ w, (Array.mapM (m := Sem) (fun (f : Field) => Functor.map (Prod.mk f.offset) (sizeOf f.type)) (fieldsOf Try.prog 40)).run Try.prog w = .ok #[(0, 1), (1, 1), (2, 1), (3, 1), (4, 1), (5, 1), (6, 1), (7, 1), (8, 1), (9, 1)] w := fun w => by kernel_rfl
theorem cl29 : Callable Try.prog 29 := ⟨Try.f29, Try.func29, rfl, rfl⟩
theorem cl47 : Callable Try.prog 47 := ⟨Try.f47, Try.func47, rfl, rfl⟩

set_option maxRecDepth 8000 in
set_option maxHeartbeats 2000000 in
theorem p_sennitref15_Get (a0 : (List UInt8)) (r : (T_frame_Frame × Int × Int)) (h : sennitref15_Get a0 = some r) : PureAt Try.prog 29 [.str a0] (retD [.agg [.int .u8 r.1.Kind, .bool r.1.Flag, .int .i64 r.1.Stream, .int .i64 r.1.Offset, .int .i64 r.1.Dep, .int .i64 r.1.Weight, .int .i64 r.1.N, .int .i64 r.1.Code, .slice false (r.1.Pairs.map E_api_Pair.d), .str r.1.Data], .int .i64 r.2.1, .int .i64 r.2.2]) := by
  refine pure_of_iwpF (rs := [.agg [.int .u8 r.1.Kind, .bool r.1.Flag, .int .i64 r.1.Stream, .int .i64 r.1.Offset, .int .i64 r.1.Dep, .int .i64 r.1.Weight, .int .i64 r.1.N, .int .i64 r.1.Code, .slice false (r.1.Pairs.map E_api_Pair.d), .str r.1.Data], .int .i64 r.2.1, .int .i64 r.2.2]) Try.func29 rfl Try.ntmps29 (nle rfl) rfl fun O hO => ?_
  show IWP _ _ _ _ ⟨[(0, .str a0)], []⟩ _
  unfold sennitref15_Get at h
  refine iwp_reg (ils_cons rfl (iop_allocS (cs := [.int _ _, .bool _, .int _ _, .int _ _, .int _ _, .int _ _, .int _ _, .int _ _, .nils, .str _]) (cs' := [.int .u8 0, .bool false, .int .i64 0, .int .i64 0, .int .i64 0, .int .i64 0, .int .i64 0, .int .i64 0, .nils, .str []]) 0 rfl rfl (by decide) rfl ti40 rfl rfl (.cons (.refl _) (.cons (.refl _) (.cons (.refl _) (.cons (.refl _) (.cons (.refl _) (.cons (.refl _) (.cons (.refl _) (.cons (.refl _) (.cons (.refl _) (.cons (.refl _) .nil))))))))))) <|
    ils_cons rfl (iop_assign rfl rfl (by decide) (sv (d := .int _ 0) rfl)) <|
    ils_cons rfl (iop_assign rfl rfl (by decide) (sv (d := .int _ 0) rfl)) <|
    ils_end ?_)
  refine iwp_reg (ils_cons rfl (iop_build_struct (cs := [.int _ _, .bool _, .int _ _, .int _ _, .int _ _, .int _ _, .int _ _, .int _ _, .nils, .str _]) rfl rfl (by decide) Try.underlying40 ti40 pl40 rfl .nil rfl) <|
    ils_cons rfl (iop_allocS (cs := [.int _ _, .bool _, .int _ _, .int _ _, .int _ _, .int _ _, .int _ _, .int _ _, .nils, .str _]) (cs' := [.int .u8 0, .bool false, .int .i64 0, .int .i64 0, .int .i64 0, .int .i64 0, .int .i64 0, .int .i64 0, .nils, .str []]) 1 rfl rfl (by decide) rfl ti40 rfl rfl (.cons (.refl _) (.cons (.refl _) (.cons (.refl _) (.cons (.refl _) (.cons (.refl _) (.cons (.refl _) (.cons (.refl _) (.cons (.refl _) (.cons (.refl _) (.cons (.refl _) .nil))))))))))) <|
    ils_cons rfl (iop_store (ds' := [.int _ _, .bool _, .int _ _, .int _ _, .int _ _, .int _ _, .int _ _, .int _ _, .nils, .str _]) rfl rfl ti40 (sv (d := .ref _ _) rfl) rfl (sv (d := .agg [.int _ _, .bool _, .int _ _, .int _ _, .int _ _, .int _ _, .int _ _, .int _ _, .nils, .str _]) rfl) rfl rfl rfl (nle rfl) rfl) <|
    ils_end ?_)
  refine iwp_seq ?_
  refine iwp_block ?_
  obtain ⟨x1, hx1, h⟩ := bnd_e h
  refine iwp_reg (ils_cons rfl (iop_move rfl rfl (by decide) (sv (d := .str _) rfl)) <|
    ils_cons rfl (iop_strx rfl rfl (by decide) (sv (d := .str _) rfl) (sv (d := .str []) rfl) rfl hx1) <|
    ils_cons rfl (iop_assign rfl rfl (by decide) (sv (d := .bool _) rfl)) <|
    ils_end ?_)
  refine iwp_cond (b := _) rfl (fun hc2 => ?_) (fun hc2 => ?_)
  ·
    replace h := bif_t h hc2
    refine iwp_reg (ils_cons rfl (iop_load_ra (cs := [.int _ _, .bool _, .int _ _, .int _ _, .int _ _, .int _ _, .int _ _, .int _ _, .nils, .str _]) rfl rfl (by decide) Try.underlying40 ag40 ti40 (by decide) (sv (d := .ref _ _) rfl) rfl (nle rfl) rfl) <|
      ils_cons rfl (iop_store (ds' := [.int _ _, .bool _, .int _ _, .int _ _, .int _ _, .int _ _, .int _ _, .int _ _, .nils, .str _]) rfl rfl ti40 (sv (d := .ref _ _) rfl) rfl (sv (d := .agg [.int _ _, .bool _, .int _ _, .int _ _, .int _ _, .int _ _, .int _ _, .int _ _, .nils, .str _]) rfl) rfl rfl rfl (nle rfl) rfl) <|
      ils_cons rfl (iop_assign rfl rfl (by decide) (sv (d := .int _ 0) rfl)) <|
      ils_cons rfl (iop_assign rfl rfl (by decide) (sv (d := .int _ 3) rfl)) <|
      ils_end ?_)
    refine iwp_ret ?_
    refine blockQ_r ?_
    refine thenQ_r ?_
    obtain rfl := Option.some.inj h
    refine ⟨.inr rfl, _, (.cons (resv_a rfl rfl Try.underlying40 ag40 ti40 (by decide) (nle rfl) rfl) (.cons (sv rfl) (.cons (sv rfl) .nil))), (.cons (.agg (.cons (.refl _) (.cons (.refl _) (.cons (.refl _) (.cons (.refl _) (.cons (.refl _) (.cons (.refl _) (.cons (.refl _) (.cons (.refl _) (.cons (.nils _) (.cons (.refl _) .nil))))))))))) (.cons (.refl _) (.cons (.refl _) .nil)))⟩
  ·
    replace h := bif_f h hc2
    obtain ⟨x3, hx3, h⟩ := bno_e h
    obtain ⟨x4, hx4, h⟩ := bno_e h
    obtain ⟨x5, hx5, h⟩ := bnd_e h
    refine iwp_reg (ils_cons rfl (iop_move rfl rfl (by decide) (sv (d := .str _) rfl)) <|
      ils_cons rfl (iop_str_at rfl rfl (by decide) Try.underlying9 (sv (d := .str _) rfl) (sv (d := .int _ 0) rfl) hx3) <|
      ils_cons rfl (iop_call (r := .str _) rfl rfl (by decide) cl40 (.cons (sv (d := .int _ _) rfl) .nil) rfl (p_sennitref15_fields _ _ hx4)) <|
      ils_cons rfl (iop_strx rfl rfl (by decide) (sv (d := .str _) rfl) (sv (d := .str [45]) rfl) rfl hx5) <|
      ils_cons rfl (iop_assign rfl rfl (by decide) (sv (d := .bool _) rfl)) <|
      ils_end ?_)
    refine iwp_cond (b := _) rfl (fun hc6 => ?_) (fun hc6 => ?_)
    ·
      replace h := bif_t h hc6
      refine iwp_reg (ils_cons rfl (iop_load_ra (cs := [.int _ _, .bool _, .int _ _, .int _ _, .int _ _, .int _ _, .int _ _, .int _ _, .nils, .str _]) rfl rfl (by decide) Try.underlying40 ag40 ti40 (by decide) (sv (d := .ref _ _) rfl) rfl (nle rfl) rfl) <|
        ils_cons rfl (iop_store (ds' := [.int _ _, .bool _, .int _ _, .int _ _, .int _ _, .int _ _, .int _ _, .int _ _, .nils, .str _]) rfl rfl ti40 (sv (d := .ref _ _) rfl) rfl (sv (d := .agg [.int _ _, .bool _, .int _ _, .int _ _, .int _ _, .int _ _, .int _ _, .int _ _, .nils, .str _]) rfl) rfl rfl rfl (nle rfl) rfl) <|
        ils_cons rfl (iop_assign rfl rfl (by decide) (sv (d := .int _ 0) rfl)) <|
        ils_cons rfl (iop_assign rfl rfl (by decide) (sv (d := .int _ 12) rfl)) <|
        ils_end ?_)
      refine iwp_ret ?_
      refine blockQ_r ?_
      refine thenQ_r ?_
      obtain rfl := Option.some.inj h
      refine ⟨.inr rfl, _, (.cons (resv_a rfl rfl Try.underlying40 ag40 ti40 (by decide) (nle rfl) rfl) (.cons (sv rfl) (.cons (sv rfl) .nil))), (.cons (.agg (.cons (.refl _) (.cons (.refl _) (.cons (.refl _) (.cons (.refl _) (.cons (.refl _) (.cons (.refl _) (.cons (.refl _) (.cons (.refl _) (.cons (.nils _) (.cons (.refl _) .nil))))))))))) (.cons (.refl _) (.cons (.refl _) .nil)))⟩
    ·
      replace h := bif_f h hc6
      obtain ⟨x7, hx7, h⟩ := bnd_e h
      refine iwp_reg (ils_cons rfl (iop_move rfl rfl (by decide) (sv (d := .str _) rfl)) <|
        ils_cons rfl (iop_len_str rfl rfl (by decide) Try.underlying9 (sv (d := .str _) rfl) rfl) <|
        ils_cons rfl (iop_cmpx rfl rfl (by decide) (sv (d := .int _ _) rfl) (sv (d := .int _ 2) rfl) rfl hx7) <|
        ils_cons rfl (iop_assign rfl rfl (by decide) (sv (d := .bool _) rfl)) <|
        ils_end ?_)
      refine iwp_cond (b := _) rfl (fun hc8 => ?_) (fun hc8 => ?_)
      ·
        replace h := bif_t h hc8
        refine iwp_reg (ils_cons rfl (iop_load_ra (cs := [.int _ _, .bool _, .int _ _, .int _ _, .int _ _, .int _ _, .int _ _, .int _ _, .nils, .str _]) rfl rfl (by decide) Try.underlying40 ag40 ti40 (by decide) (sv (d := .ref _ _) rfl) rfl (nle rfl) rfl) <|
          ils_cons rfl (iop_store (ds' := [.int _ _, .bool _, .int _ _, .int _ _, .int _ _, .int _ _, .int _ _, .int _ _, .nils, .str _]) rfl rfl ti40 (sv (d := .ref _ _) rfl) rfl (sv (d := .agg [.int _ _, .bool _, .int _ _, .int _ _, .int _ _, .int _ _, .int _ _, .int _ _, .nils, .str _]) rfl) rfl rfl rfl (nle rfl) rfl) <|
          ils_cons rfl (iop_assign rfl rfl (by decide) (sv (d := .int _ 0) rfl)) <|
          ils_cons rfl (iop_assign rfl rfl (by decide) (sv (d := .int _ 3) rfl)) <|
          ils_end ?_)
        refine iwp_ret ?_
        refine blockQ_r ?_
        refine thenQ_r ?_
        obtain rfl := Option.some.inj h
        refine ⟨.inr rfl, _, (.cons (resv_a rfl rfl Try.underlying40 ag40 ti40 (by decide) (nle rfl) rfl) (.cons (sv rfl) (.cons (sv rfl) .nil))), (.cons (.agg (.cons (.refl _) (.cons (.refl _) (.cons (.refl _) (.cons (.refl _) (.cons (.refl _) (.cons (.refl _) (.cons (.refl _) (.cons (.refl _) (.cons (.nils _) (.cons (.refl _) .nil))))))))))) (.cons (.refl _) (.cons (.refl _) .nil)))⟩
      ·
        replace h := bif_f h hc8
        obtain ⟨x9, hx9, h⟩ := bno_e h
        obtain ⟨x10, hx10, h⟩ := bnd_e h
        refine iwp_reg (ils_cons rfl (iop_move rfl rfl (by decide) (sv (d := .str _) rfl)) <|
          ils_cons rfl (iop_str_at rfl rfl (by decide) Try.underlying9 (sv (d := .str _) rfl) (sv (d := .int _ 1) rfl) hx9) <|
          ils_cons rfl (iop_cmpx rfl rfl (by decide) (sv (d := .int _ _) rfl) (sv (d := .int _ 1) rfl) rfl hx10) <|
          ils_cons rfl (iop_assign rfl rfl (by decide) (sv (d := .bool _) rfl)) <|
          ils_end ?_)
        refine iwp_cond (b := _) rfl (fun hc11 => ?_) (fun hc11 => ?_)
        ·
          replace h := bif_t h hc11
          refine iwp_reg (ils_cons rfl (iop_load_ra (cs := [.int _ _, .bool _, .int _ _, .int _ _, .int _ _, .int _ _, .int _ _, .int _ _, .nils, .str _]) rfl rfl (by decide) Try.underlying40 ag40 ti40 (by decide) (sv (d := .ref _ _) rfl) rfl (nle rfl) rfl) <|
            ils_cons rfl (iop_store (ds' := [.int _ _, .bool _, .int _ _, .int _ _, .int _ _, .int _ _, .int _ _, .int _ _, .nils, .str _]) rfl rfl ti40 (sv (d := .ref _ _) rfl) rfl (sv (d := .agg [.int _ _, .bool _, .int _ _, .int _ _, .int _ _, .int _ _, .int _ _, .int _ _, .nils, .str _]) rfl) rfl rfl rfl (nle rfl) rfl) <|
            ils_cons rfl (iop_assign rfl rfl (by decide) (sv (d := .int _ 0) rfl)) <|
            ils_cons rfl (iop_assign rfl rfl (by decide) (sv (d := .int _ 4) rfl)) <|
            ils_end ?_)
          refine iwp_ret ?_
          refine blockQ_r ?_
          refine thenQ_r ?_
          obtain rfl := Option.some.inj h
          refine ⟨.inr rfl, _, (.cons (resv_a rfl rfl Try.underlying40 ag40 ti40 (by decide) (nle rfl) rfl) (.cons (sv rfl) (.cons (sv rfl) .nil))), (.cons (.agg (.cons (.refl _) (.cons (.refl _) (.cons (.refl _) (.cons (.refl _) (.cons (.refl _) (.cons (.refl _) (.cons (.refl _) (.cons (.refl _) (.cons (.nils _) (.cons (.refl _) .nil))))))))))) (.cons (.refl _) (.cons (.refl _) .nil)))⟩
        ·
          replace h := bif_f h hc11
          refine iwp_skip ?_
          refine blockQ_n ?_
          refine thenQ_n ?_
          obtain ⟨x12, hx12, h⟩ := bno_e h
          obtain ⟨x13, hx13, h⟩ := bno_e h
          refine iwp_reg (ils_cons rfl (iop_move rfl rfl (by decide) (sv (d := .str _) rfl)) <|
            ils_cons rfl (iop_cutS rfl rfl (by decide) Try.underlying9 (sv (d := .str _) rfl) ⟨_, (sv (d := .int _ 2) rfl)⟩ rfl hx12) <|
            ils_cons rfl (iop_call (r := .tuple [.int _ _, .int _ _, .int _ _]) rfl rfl (by decide) cl46 (.cons (sv (d := .str _) rfl) .nil) rfl (p_sennitref02_Get _ _ hx13)) <|
            ils_cons rfl (iop_move rfl rfl (by decide) (sv (d := .tuple [.int _ _, .int _ _, .int _ _]) rfl)) <|
            ils_cons rfl (iop_extract (d := .int _ _) rfl rfl (by decide) (sv (d := .tuple [.int _ _, .int _ _, .int _ _]) rfl) rfl) <|
            ils_cons rfl (iop_extract (d := .int _ _) rfl rfl (by decide) (sv (d := .tuple [.int _ _, .int _ _, .int _ _]) rfl) rfl) <|
            ils_cons rfl (iop_extract (d := .int _ _) rfl rfl (by decide) (sv (d := .tuple [.int _ _, .int _ _, .int _ _]) rfl) rfl) <|
            ils_cons rfl (iop_assign rfl rfl (by decide) (sv (d := .int _ _) rfl)) <|
            ils_cons rfl (iop_assign rfl rfl (by decide) (sv (d := .int _ _) rfl)) <|
            ils_cons rfl (iop_assign rfl rfl (by decide) (sv (d := .int _ _) rfl)) <|
            ils_end ?_)
          refine iwp_seq ?_
          refine iwp_block ?_
          obtain ⟨x14, hx14, h⟩ := bnd_e h
          refine iwp_reg (ils_cons rfl (iop_move rfl rfl (by decide) (sv (d := .int _ _) rfl)) <|
            ils_cons rfl (iop_cmpx rfl rfl (by decide) (sv (d := .int _ _) rfl) (sv (d := .int _ 0) rfl) rfl hx14) <|
            ils_cons rfl (iop_assign rfl rfl (by decide) (sv (d := .bool _) rfl)) <|
            ils_end ?_)
          refine iwp_cond (b := _) rfl (fun hc15 => ?_) (fun hc15 => ?_)
          ·
            replace h := bif_t h hc15
            refine iwp_reg (ils_cons rfl (iop_load_ra (cs := [.int _ _, .bool _, .int _ _, .int _ _, .int _ _, .int _ _, .int _ _, .int _ _, .nils, .str _]) rfl rfl (by decide) Try.underlying40 ag40 ti40 (by decide) (sv (d := .ref _ _) rfl) rfl (nle rfl) rfl) <|
              ils_cons rfl (iop_move rfl rfl (by decide) (sv (d := .int _ _) rfl)) <|
              ils_cons rfl (iop_store (ds' := [.int _ _, .bool _, .int _ _, .int _ _, .int _ _, .int _ _, .int _ _, .int _ _, .nils, .str _]) rfl rfl ti40 (sv (d := .ref _ _) rfl) rfl (sv (d := .agg [.int _ _, .bool _, .int _ _, .int _ _, .int _ _, .int _ _, .int _ _, .int _ _, .nils, .str _]) rfl) rfl rfl rfl (nle rfl) rfl) <|
              ils_cons rfl (iop_assign rfl rfl (by decide) (sv (d := .int _ 0) rfl)) <|
              ils_cons rfl (iop_assign rfl rfl (by decide) (sv (d := .int _ _) rfl)) <|
              ils_end ?_)
            refine iwp_ret ?_
            refine blockQ_r ?_
            refine thenQ_r ?_
            obtain rfl := Option.some.inj h
            refine ⟨.inr rfl, _, (.cons (resv_a rfl rfl Try.underlying40 ag40 ti40 (by decide) (nle rfl) rfl) (.cons (sv rfl) (.cons (sv rfl) .nil))), (.cons (.agg (.cons (.refl _) (.cons (.refl _) (.cons (.refl _) (.cons (.refl _) (.cons (.refl _) (.cons (.refl _) (.cons (.refl _) (.cons (.refl _) (.cons (.nils _) (.cons (.refl _) .nil))))))))))) (.cons (.refl _) (.cons (.refl _) .nil)))⟩
          ·
            replace h := bif_f h hc15
            obtain ⟨x16, hx16, h⟩ := bnd_e h
            refine iwp_reg (ils_cons rfl (iop_move rfl rfl (by decide) (sv (d := .int _ _) rfl)) <|
              ils_cons rfl (iop_cmpx rfl rfl (by decide) (sv (d := .int _ _) rfl) (sv (d := .int _ 64) rfl) rfl hx16) <|
              ils_cons rfl (iop_assign rfl rfl (by decide) (sv (d := .bool _) rfl)) <|
              ils_end ?_)
            refine iwp_cond (b := _) rfl (fun hc17 => ?_) (fun hc17 => ?_)
            ·
              replace h := bif_t h hc17
              refine iwp_reg (ils_cons rfl (iop_load_ra (cs := [.int _ _, .bool _, .int _ _, .int _ _, .int _ _, .int _ _, .int _ _, .int _ _, .nils, .str _]) rfl rfl (by decide) Try.underlying40 ag40 ti40 (by decide) (sv (d := .ref _ _) rfl) rfl (nle rfl) rfl) <|
                ils_cons rfl (iop_store (ds' := [.int _ _, .bool _, .int _ _, .int _ _, .int _ _, .int _ _, .int _ _, .int _ _, .nils, .str _]) rfl rfl ti40 (sv (d := .ref _ _) rfl) rfl (sv (d := .agg [.int _ _, .bool _, .int _ _, .int _ _, .int _ _, .int _ _, .int _ _, .int _ _, .nils, .str _]) rfl) rfl rfl rfl (nle rfl) rfl) <|
                ils_cons rfl (iop_assign rfl rfl (by decide) (sv (d := .int _ 0) rfl)) <|
                ils_cons rfl (iop_assign rfl rfl (by decide) (sv (d := .int _ 5) rfl)) <|
                ils_end ?_)
              refine iwp_ret ?_
              refine blockQ_r ?_
              refine thenQ_r ?_
              obtain rfl := Option.some.inj h
              refine ⟨.inr rfl, _, (.cons (resv_a rfl rfl Try.underlying40 ag40 ti40 (by decide) (nle rfl) rfl) (.cons (sv rfl) (.cons (sv rfl) .nil))), (.cons (.agg (.cons (.refl _) (.cons (.refl _) (.cons (.refl _) (.cons (.refl _) (.cons (.refl _) (.cons (.refl _) (.cons (.refl _) (.cons (.refl _) (.cons (.nils _) (.cons (.refl _) .nil))))))))))) (.cons (.refl _) (.cons (.refl _) .nil)))⟩
            ·
              replace h := bif_f h hc17
              obtain ⟨x18, hx18, h⟩ := bnd_e h
              obtain ⟨x19, hx19, h⟩ := bnd_e h
              obtain ⟨x20, hx20, h⟩ := bnd_e h
              refine iwp_reg (ils_cons rfl (iop_move rfl rfl (by decide) (sv (d := .str _) rfl)) <|
                ils_cons rfl (iop_len_str rfl rfl (by decide) Try.underlying9 (sv (d := .str _) rfl) rfl) <|
                ils_cons rfl (iop_intx rfl rfl (by decide) (sv (d := .int _ _) rfl) (sv (d := .int _ 2) rfl) rfl hx18) <|
                ils_cons rfl (iop_move rfl rfl (by decide) (sv (d := .int _ _) rfl)) <|
                ils_cons rfl (iop_intx rfl rfl (by decide) (sv (d := .int _ _) rfl) (sv (d := .int _ _) rfl) rfl hx19) <|
                ils_cons rfl (iop_move rfl rfl (by decide) (sv (d := .int _ _) rfl)) <|
                ils_cons rfl (iop_cmpx rfl rfl (by decide) (sv (d := .int _ _) rfl) (sv (d := .int _ _) rfl) rfl hx20) <|
                ils_cons rfl (iop_assign rfl rfl (by decide) (sv (d := .bool _) rfl)) <|
                ils_end ?_)
              refine iwp_cond (b := _) rfl (fun hc21 => ?_) (fun hc21 => ?_)
              ·
                replace h := bif_t h hc21
                refine iwp_reg (ils_cons rfl (iop_load_ra (cs := [.int _ _, .bool _, .int _ _, .int _ _, .int _ _, .int _ _, .int _ _, .int _ _, .nils, .str _]) rfl rfl (by decide) Try.underlying40 ag40 ti40 (by decide) (sv (d := .ref _ _) rfl) rfl (nle rfl) rfl) <|
                  ils_cons rfl (iop_store (ds' := [.int _ _, .bool _, .int _ _, .int _ _, .int _ _, .int _ _, .int _ _, .int _ _, .nils, .str _]) rfl rfl ti40 (sv (d := .ref _ _) rfl) rfl (sv (d := .agg [.int _ _, .bool _, .int _ _, .int _ _, .int _ _, .int _ _, .int _ _, .int _ _, .nils, .str _]) rfl) rfl rfl rfl (nle rfl) rfl) <|
                  ils_cons rfl (iop_assign rfl rfl (by decide) (sv (d := .int _ 0) rfl)) <|
                  ils_cons rfl (iop_assign rfl rfl (by decide) (sv (d := .int _ 3) rfl)) <|
                  ils_end ?_)
                refine iwp_ret ?_
                refine blockQ_r ?_
                refine thenQ_r ?_
                obtain rfl := Option.some.inj h
                refine ⟨.inr rfl, _, (.cons (resv_a rfl rfl Try.underlying40 ag40 ti40 (by decide) (nle rfl) rfl) (.cons (sv rfl) (.cons (sv rfl) .nil))), (.cons (.agg (.cons (.refl _) (.cons (.refl _) (.cons (.refl _) (.cons (.refl _) (.cons (.refl _) (.cons (.refl _) (.cons (.refl _) (.cons (.refl _) (.cons (.nils _) (.cons (.refl _) .nil))))))))))) (.cons (.refl _) (.cons (.refl _) .nil)))⟩
              ·
                replace h := bif_f h hc21
                refine iwp_skip ?_
                refine blockQ_n ?_
                refine thenQ_n ?_
                obtain ⟨x22, hx22, h⟩ := bno_e h
                obtain ⟨x23, hx23, h⟩ := bno_e h
                obtain ⟨x24, hx24, h⟩ := bnd_e h
                obtain ⟨x25, hx25, h⟩ := bnd_e h
                obtain ⟨x26, hx26, h⟩ := bnd_e h
                obtain ⟨x27, hx27, h⟩ := bnd_e h
                obtain ⟨x28, hx28, h⟩ := bno_e h
                obtain ⟨x29, hx29, h⟩ := bno_e h
                refine iwp_drw rfl [⟨[0], [], [(58, .str a0)], []⟩,
                  ⟨[58], [], [(59, .int .u8 (x22.toNat : Int))], []⟩,
                  ⟨[0], [], [(60, .str a0)], []⟩,
                  ⟨[60], [], [(61, .int .u8 (x23.toNat : Int))], []⟩,
                  ⟨[61], [], [(62, .bool x24)], []⟩,
                  ⟨[59, 62], [], [(63, .agg [.int .u8 (x22.toNat : Int), .bool x24, .int .i64 0, .int .i64 0, .int .i64 0, .int .i64 0, .int .i64 0, .int .i64 0, .nils, .str []])], []⟩,
                  ⟨[0], [], [(64, .str a0)], []⟩,
                  ⟨[7], [], [(65, .int .i64 x13.2.1)], []⟩,
                  ⟨[65], [], [(66, .int .i64 x25)], []⟩,
                  ⟨[7], [], [(67, .int .i64 x13.2.1)], []⟩,
                  ⟨[67], [], [(68, .int .i64 x26)], []⟩,
                  ⟨[6], [], [(69, .int .i64 x13.1)], []⟩,
                  ⟨[68, 69], [], [(70, .int .i64 x27)], []⟩,
                  ⟨[64, 66, 70], [], [(71, .str x28)], []⟩,
                  ⟨[63, 71], [], [(72, .tuple [.agg [.int .u8 x29.1.Kind, .bool x29.1.Flag, .int .i64 x29.1.Stream, .int .i64 x29.1.Offset, .int .i64 x29.1.Dep, .int .i64 x29.1.Weight, .int .i64 x29.1.N, .int .i64 x29.1.Code, .slice false (x29.1.Pairs.map E_api_Pair.d), .str x29.1.Data], .bool x29.2])], []⟩,
                  ⟨[72], [], [(57, .tuple [.agg [.int .u8 x29.1.Kind, .bool x29.1.Flag, .int .i64 x29.1.Stream, .int .i64 x29.1.Offset, .int .i64 x29.1.Dep, .int .i64 x29.1.Weight, .int .i64 x29.1.N, .int .i64 x29.1.Code, .slice false (x29.1.Pairs.map E_api_Pair.d), .str x29.1.Data], .bool x29.2])], []⟩,
                  ⟨[57], [], [(73, .agg [.int .u8 x29.1.Kind, .bool x29.1.Flag, .int .i64 x29.1.Stream, .int .i64 x29.1.Offset, .int .i64 x29.1.Dep, .int .i64 x29.1.Weight, .int .i64 x29.1.N, .int .i64 x29.1.Code, .slice false (x29.1.Pairs.map E_api_Pair.d), .str x29.1.Data])], []⟩,
                  ⟨[57], [], [(74, .bool x29.2)], []⟩,
                  ⟨[], [2], [(9, .ref 2 0)], [(2, .blk 40 [.int .u8 0, .bool false, .int .i64 0, .int .i64 0, .int .i64 0, .int .i64 0, .int .i64 0, .int .i64 0, .nils, .str []])]⟩,
                  ⟨[9, 73], [2], [], [(2, .blk 40 [.int .u8 x29.1.Kind, .bool x29.1.Flag, .int .i64 x29.1.Stream, .int .i64 x29.1.Offset, .int .i64 x29.1.Dep, .int .i64 x29.1.Weight, .int .i64 x29.1.N, .int .i64 x29.1.Code, .slice false (x29.1.Pairs.map E_api_Pair.d), .str x29.1.Data])]⟩,
                  ⟨[74], [], [(10, .bool x29.2)], []⟩] rfl ?_ (by kernel_rfl) ?_
                · refine .cons (lop rfl rfl fun S hA => (iop_move rfl rfl (by decide) (sv (d := .str _) (agr hA rfl rfl)))) ?_
                  refine .cons (lop rfl rfl fun S hA => (iop_str_at rfl rfl (by decide) Try.underlying9 (sv (d := .str _) (agr hA rfl rfl)) (sv (d := .int _ 0) rfl) hx22)) ?_
                  refine .cons (lop rfl rfl fun S hA => (iop_move rfl rfl (by decide) (sv (d := .str _) (agr hA rfl rfl)))) ?_
                  refine .cons (lop rfl rfl fun S hA => (iop_str_at rfl rfl (by decide) Try.underlying9 (sv (d := .str _) (agr hA rfl rfl)) (sv (d := .int _ 1) rfl) hx23)) ?_
                  refine .cons (lop rfl rfl fun S hA => (iop_cmpx rfl rfl (by decide) (sv (d := .int _ _) (agr hA rfl rfl)) (sv (d := .int _ 1) rfl) rfl hx24)) ?_
                  refine .cons (lop rfl rfl fun S hA => (iop_build_struct (cs := [.int _ _, .bool _, .int _ _, .int _ _, .int _ _, .int _ _, .int _ _, .int _ _, .nils, .str _]) rfl rfl (by decide) Try.underlying40 ti40 pl40 rfl (.cons (sv (d := .int _ _) (agr hA rfl rfl)) (.cons (sv (d := .bool _) (agr hA rfl rfl)) .nil)) rfl)) ?_
                  refine .cons (lop rfl rfl fun S hA => (iop_move rfl rfl (by decide) (sv (d := .str _) (agr hA rfl rfl)))) ?_
                  refine .cons (lop rfl rfl fun S hA => (iop_move rfl rfl (by decide) (sv (d := .int _ _) (agr hA rfl rfl)))) ?_
                  refine .cons (lop rfl rfl fun S hA => (iop_intx rfl rfl (by decide) (sv (d := .int _ 2) rfl) (sv (d := .int _ _) (agr hA rfl rfl)) rfl hx25)) ?_
                  refine .cons (lop rfl rfl fun S hA => (iop_move rfl rfl (by decide) (sv (d := .int _ _) (agr hA rfl rfl)))) ?_
                  refine .cons (lop rfl rfl fun S hA => (iop_intx rfl rfl (by decide) (sv (d := .int _ 2) rfl) (sv (d := .int _ _) (agr hA rfl rfl)) rfl hx26)) ?_
                  refine .cons (lop rfl rfl fun S hA => (iop_move rfl rfl (by decide) (sv (d := .int _ _) (agr hA rfl rfl)))) ?_
                  refine .cons (lop rfl rfl fun S hA => (iop_intx rfl rfl (by decide) (sv (d := .int _ _) (agr hA rfl rfl)) (sv (d := .int _ _) (agr hA rfl rfl)) rfl hx27)) ?_
                  refine .cons (lop rfl rfl fun S hA => (iop_cutS rfl rfl (by decide) Try.underlying9 (sv (d := .str _) (agr hA rfl rfl)) ⟨_, (sv (d := .int _ _) (agr hA rfl rfl))⟩ ⟨_, (sv (d := .int _ _) (agr hA rfl rfl))⟩ hx28)) ?_
                  refine .cons (lop rfl rfl fun S hA => (iop_call (r := .tuple [.agg [.int _ _, .bool _, .int _ _, .int _ _, .int _ _, .int _ _, .int _ _, .int _ _, .slice _ _, .str _], .bool _]) rfl rfl (by decide) cl47 (.cons (sv (d := .agg [.int _ _, .bool _, .int _ _, .int _ _, .int _ _, .int _ _, .int _ _, .int _ _, .nils, .str _]) (agr hA rfl rfl)) (.cons (sv (d := .str _) (agr hA rfl rfl)) .nil)) rfl (p_sennitref15_read_n _ _ _ _ _ _ _ _ _ _ _ hx29))) ?_
                  refine .cons (lop rfl rfl fun S hA => (iop_move rfl rfl (by decide) (sv (d := .tuple [.agg [.int _ _, .bool _, .int _ _, .int _ _, .int _ _, .int _ _, .int _ _, .int _ _, .slice _ _, .str _], .bool _]) (agr hA rfl rfl)))) ?_
                  refine .cons (lop rfl rfl fun S hA => (iop_extract (d := .agg [.int _ _, .bool _, .int _ _, .int _ _, .int _ _, .int _ _, .int _ _, .int _ _, .slice _ _, .str _]) rfl rfl (by decide) (sv (d := .tuple [.agg [.int _ _, .bool _, .int _ _, .int _ _, .int _ _, .int _ _, .int _ _, .int _ _, .slice _ _, .str _], .bool _]) (agr hA rfl rfl)) rfl)) ?_
                  refine .cons (lop rfl rfl fun S hA => (iop_extract (d := .bool _) rfl rfl (by decide) (sv (d := .tuple [.agg [.int _ _, .bool _, .int _ _, .int _ _, .int _ _, .int _ _, .int _ _, .int _ _, .slice _ _, .str _], .bool _]) (agr hA rfl rfl)) rfl)) ?_
                  refine .cons (lop rfl rfl fun S hA => (iop_allocS (cs := [.int _ _, .bool _, .int _ _, .int _ _, .int _ _, .int _ _, .int _ _, .int _ _, .nils, .str _]) (cs' := [.int .u8 0, .bool false, .int .i64 0, .int .i64 0, .int .i64 0, .int .i64 0, .int .i64 0, .int .i64 0, .nils, .str []]) 2 rfl rfl (by decide) (agi hA rfl rfl) ti40 rfl rfl (.cons (.refl _) (.cons (.refl _) (.cons (.refl _) (.cons (.refl _) (.cons (.refl _) (.cons (.refl _) (.cons (.refl _) (.cons (.refl _) (.cons (.refl _) (.cons (.refl _) .nil)))))))))))) ?_
                  refine .cons (lop rfl rfl fun S hA => (iop_store (ds' := [.int _ _, .bool _, .int _ _, .int _ _, .int _ _, .int _ _, .int _ _, .int _ _, .slice _ _, .str _]) rfl rfl ti40 (sv (d := .ref _ _) (agr hA rfl rfl)) (agi hA rfl rfl) (sv (d := .agg [.int _ _, .bool _, .int _ _, .int _ _, .int _ _, .int _ _, .int _ _, .int _ _, .slice _ _, .str _]) (agr hA rfl rfl)) rfl rfl rfl (nle rfl) rfl)) ?_
                  refine .cons (lop rfl rfl fun S hA => (iop_assign rfl rfl (by decide) (sv (d := .bool _) (agr hA rfl rfl)))) ?_
                  exact .nil
                refine iwp_seq ?_
                refine iwp_reg (ils_cons rfl (iop_move rfl rfl (by decide) (sv (d := .bool _) rfl)) <|
                  ils_cons rfl (iop_not rfl rfl (by decide) (sv (d := .bool _) rfl)) <|
                  ils_end ?_)
                refine iwp_cond (b := _) rfl (fun hc30 => ?_) (fun hc30 => ?_)
                ·
                  replace h := bif_t h hc30
                  refine iwp_reg (ils_cons rfl (iop_load_ra (cs := [.int _ _, .bool _, .int _ _, .int _ _, .int _ _, .int _ _, .int _ _, .int _ _, .nils, .str _]) rfl rfl (by decide) Try.underlying40 ag40 ti40 (by decide) (sv (d := .ref _ _) rfl) rfl (nle rfl) rfl) <|
                    ils_cons rfl (iop_store (ds' := [.int _ _, .bool _, .int _ _, .int _ _, .int _ _, .int _ _, .int _ _, .int _ _, .nils, .str _]) rfl rfl ti40 (sv (d := .ref _ _) rfl) rfl (sv (d := .agg [.int _ _, .bool _, .int _ _, .int _ _, .int _ _, .int _ _, .int _ _, .int _ _, .nils, .str _]) rfl) rfl rfl rfl (nle rfl) rfl) <|
                    ils_cons rfl (iop_assign rfl rfl (by decide) (sv (d := .int _ 0) rfl)) <|
                    ils_cons rfl (iop_assign rfl rfl (by decide) (sv (d := .int _ 4) rfl)) <|
                    ils_end ?_)
                  refine iwp_ret ?_
                  refine thenQ_r ?_
                  obtain rfl := Option.some.inj h
                  refine ⟨.inr rfl, _, (.cons (resv_a rfl rfl Try.underlying40 ag40 ti40 (by decide) (nle rfl) rfl) (.cons (sv rfl) (.cons (sv rfl) .nil))), (.cons (.agg (.cons (.refl _) (.cons (.refl _) (.cons (.refl _) (.cons (.refl _) (.cons (.refl _) (.cons (.refl _) (.cons (.refl _) (.cons (.refl _) (.cons (.nils _) (.cons (.refl _) .nil))))))))))) (.cons (.refl _) (.cons (.refl _) .nil)))⟩
                ·
                  replace h := bif_f h hc30
                  refine iwp_skip ?_
                  refine thenQ_n ?_
                  refine iwp_seq ?_
                  obtain ⟨x31, hx31, h⟩ := bno_e h
                  obtain ⟨x32, hx32, h⟩ := bnd_e h
                  refine iwp_reg (ils_cons rfl (iop_load_ra (cs := [.int _ _, .bool _, .int _ _, .int _ _, .int _ _, .int _ _, .int _ _, .int _ _, .slice _ _, .str _]) rfl rfl (by decide) Try.underlying40 ag40 ti40 (by decide) (sv (d := .ref _ _) rfl) rfl (nle rfl) rfl) <|
                    ils_cons rfl (iop_call (r := .int _ _) rfl rfl (by decide) cl23 (.cons (sv (d := .agg [.int _ _, .bool _, .int _ _, .int _ _, .int _ _, .int _ _, .int _ _, .int _ _, .slice _ _, .str _]) rfl) .nil) rfl (p_sennitref15_Check _ _ hx31)) <|
                    ils_cons rfl (iop_cmpx rfl rfl (by decide) (sv (d := .int _ _) rfl) (sv (d := .int _ 0) rfl) rfl hx32) <|
                    ils_end ?_)
                  refine iwp_cond (b := _) rfl (fun hc33 => ?_) (fun hc33 => ?_)
                  ·
                    replace h := bif_t h hc33
                    obtain ⟨x34, hx34, h⟩ := bno_e h
                    refine iwp_drw rfl [⟨[5], [1], [(81, .agg [.int .u8 0, .bool false, .int .i64 0, .int .i64 0, .int .i64 0, .int .i64 0, .int .i64 0, .int .i64 0, .nils, .str []])], []⟩,
                      ⟨[9], [2], [(82, .agg [.int .u8 x29.1.Kind, .bool x29.1.Flag, .int .i64 x29.1.Stream, .int .i64 x29.1.Offset, .int .i64 x29.1.Dep, .int .i64 x29.1.Weight, .int .i64 x29.1.N, .int .i64 x29.1.Code, .slice false (x29.1.Pairs.map E_api_Pair.d), .str x29.1.Data])], []⟩,
                      ⟨[82], [], [(83, .int .i64 x34)], []⟩,
                      ⟨[2, 81], [0], [], [(0, .blk 40 [.int .u8 0, .bool false, .int .i64 0, .int .i64 0, .int .i64 0, .int .i64 0, .int .i64 0, .int .i64 0, .nils, .str []])]⟩,
                      ⟨[], [], [(3, .int .i64 0)], []⟩,
                      ⟨[83], [], [(4, .int .i64 x34)], []⟩] rfl ?_ (by kernel_rfl) ?_
                    · refine .cons (lop rfl rfl fun S hA => (iop_load_ra (cs := [.int _ _, .bool _, .int _ _, .int _ _, .int _ _, .int _ _, .int _ _, .int _ _, .nils, .str _]) rfl rfl (by decide) Try.underlying40 ag40 ti40 (by decide) (sv (d := .ref _ _) (agr hA rfl rfl)) (agi hA rfl rfl) (nle rfl) rfl)) ?_
                      refine .cons (lop rfl rfl fun S hA => (iop_load_ra (cs := [.int _ _, .bool _, .int _ _, .int _ _, .int _ _, .int _ _, .int _ _, .int _ _, .slice _ _, .str _]) rfl rfl (by decide) Try.underlying40 ag40 ti40 (by decide) (sv (d := .ref _ _) (agr hA rfl rfl)) (agi hA rfl rfl) (nle rfl) rfl)) ?_
                      refine .cons (lop rfl rfl fun S hA => (iop_call (r := .int _ _) rfl rfl (by decide) cl23 (.cons (sv (d := .agg [.int _ _, .bool _, .int _ _, .int _ _, .int _ _, .int _ _, .int _ _, .int _ _, .slice _ _, .str _]) (agr hA rfl rfl)) .nil) rfl (p_sennitref15_Check _ _ hx34))) ?_
                      refine .cons (lop rfl rfl fun S hA => (iop_store (ds' := [.int _ _, .bool _, .int _ _, .int _ _, .int _ _, .int _ _, .int _ _, .int _ _, .nils, .str _]) rfl rfl ti40 (sv (d := .ref _ _) (agr hA rfl rfl)) (agi hA rfl rfl) (sv (d := .agg [.int _ _, .bool _, .int _ _, .int _ _, .int _ _, .int _ _, .int _ _, .int _ _, .nils, .str _]) (agr hA rfl rfl)) rfl rfl rfl (nle rfl) rfl)) ?_
                      refine .cons (lop rfl rfl fun S hA => (iop_assign rfl rfl (by decide) (sv (d := .int _ 0) rfl))) ?_
                      refine .cons (lop rfl rfl fun S hA => (iop_assign rfl rfl (by decide) (sv (d := .int _ _) (agr hA rfl rfl)))) ?_
                      exact .nil
                    refine iwp_ret ?_
                    refine thenQ_r ?_
                    obtain rfl := Option.some.inj h
                    refine ⟨.inr rfl, _, (.cons (resv_a rfl rfl Try.underlying40 ag40 ti40 (by decide) (nle rfl) rfl) (.cons (sv rfl) (.cons (sv rfl) .nil))), (.cons (.agg (.cons (.refl _) (.cons (.refl _) (.cons (.refl _) (.cons (.refl _) (.cons (.refl _) (.cons (.refl _) (.cons (.refl _) (.cons (.refl _) (.cons (.nils _) (.cons (.refl _) .nil))))))))))) (.cons (.refl _) (.cons (.refl _) .nil)))⟩
                  ·
                    replace h := bif_f h hc33
                    refine iwp_skip ?_
                    refine thenQ_n ?_
                    obtain ⟨x35, hx35, h⟩ := bnd_e h
                    obtain ⟨x36, hx36, h⟩ := bnd_e h
                    refine iwp_reg (ils_cons rfl (iop_load_ra (cs := [.int _ _, .bool _, .int _ _, .int _ _, .int _ _, .int _ _, .int _ _, .int _ _, .slice _ _, .str _]) rfl rfl (by decide) Try.underlying40 ag40 ti40 (by decide) (sv (d := .ref _ _) rfl) rfl (nle rfl) rfl) <|
                      ils_cons rfl (iop_move rfl rfl (by decide) (sv (d := .int _ _) rfl)) <|
                      ils_cons rfl (iop_intx rfl rfl (by decide) (sv (d := .int _ 2) rfl) (sv (d := .int _ _) rfl) rfl hx35) <|
                      ils_cons rfl (iop_move rfl rfl (by decide) (sv (d := .int _ _) rfl)) <|
                      ils_cons rfl (iop_intx rfl rfl (by decide) (sv (d := .int _ _) rfl) (sv (d := .int _ _) rfl) rfl hx36) <|
                      ils_cons rfl (iop_store (ds' := [.int _ _, .bool _, .int _ _, .int _ _, .int _ _, .int _ _, .int _ _, .int _ _, .slice _ _, .str _]) rfl rfl ti40 (sv (d := .ref _ _) rfl) rfl (sv (d := .agg [.int _ _, .bool _, .int _ _, .int _ _, .int _ _, .int _ _, .int _ _, .int _ _, .slice _ _, .str _]) rfl) rfl rfl rfl (nle rfl) rfl) <|
                      ils_cons rfl (iop_assign rfl rfl (by decide) (sv (d := .int _ _) rfl)) <|
                      ils_cons rfl (iop_assign rfl rfl (by decide) (sv (d := .int _ 0) rfl)) <|
                      ils_end ?_)
                    refine iwp_ret ?_
                    obtain rfl := Option.some.inj h
                    refine ⟨.inr rfl, _, (.cons (resv_a rfl rfl Try.underlying40 ag40 ti40 (by decide) (nle rfl) rfl) (.cons (sv rfl) (.cons (sv rfl) .nil))), (.cons (.refl _) (.cons (.refl _) (.cons (.refl _) .nil)))⟩

set_option maxRecDepth 8000 in
set_option maxHeartbeats 2000000 in
theorem p_sennitlaw15_FrameGets (a0 : (List UInt8)) (r : Bool) (h : sennitlaw15_FrameGets a0 = some r) : PureAt Try.prog 6 [.str a0] (.bool r) := by
  refine pure_of_iwp (rs := [.bool r]) Try.func6 rfl Try.ntmps6 (nle rfl) rfl fun O hO => ?_
  show IWP _ _ _ _ ⟨[(0, .str a0)], []⟩ _
  unfold sennitlaw15_FrameGets at h
  refine iwp_reg (ils_cons rfl (iop_assign rfl rfl (by decide) (sv (d := .bool false) rfl)) <|
    ils_end ?_)
  refine iwp_seq ?_
  obtain ⟨x1, hx1, h⟩ := bnd_e h
  refine iwp_reg (ils_cons rfl (iop_move rfl rfl (by decide) (sv (d := .str _) rfl)) <|
    ils_cons rfl (iop_len_str rfl rfl (by decide) Try.underlying9 (sv (d := .str _) rfl) rfl) <|
    ils_cons rfl (iop_cmpx rfl rfl (by decide) (sv (d := .int _ _) rfl) (sv (d := .int _ 120) rfl) rfl hx1) <|
    ils_end ?_)
  refine iwp_cond (b := _) rfl (fun hc2 => ?_) (fun hc2 => ?_)
  ·
    replace h := bif_t h hc2
    obtain ⟨x3, hx3, h⟩ := bno_e h
    refine iwp_reg (ils_cons rfl (iop_call (r := .bool _) rfl rfl (by decide) cl19 .nil rfl (p_sennitlaw15_awake  _ hx3)) <|
      ils_cons rfl (iop_assign rfl rfl (by decide) (sv (d := .bool _) rfl)) <|
      ils_end ?_)
    refine iwp_ret ?_
    refine thenQ_r ?_
    obtain rfl := Option.some.inj h
    refine ⟨.inr rfl, (.cons (sv rfl) .nil)⟩
  ·
    replace h := bif_f h hc2
    refine iwp_skip ?_
    refine thenQ_n ?_
    obtain ⟨x4, hx4, h⟩ := bno_e h
    refine iwp_reg (ils_cons rfl (iop_move rfl rfl (by decide) (sv (d := .str _) rfl)) <|
      ils_cons rfl (iop_call (r := .tuple [.agg [.int _ _, .bool _, .int _ _, .int _ _, .int _ _, .int _ _, .int _ _, .int _ _, .slice _ _, .str _], .int _ _, .int _ _]) rfl rfl (by decide) cl28 (.cons (sv (d := .str _) rfl) .nil) rfl (p_frame_Get _ _ hx4)) <|
      ils_cons rfl (iop_move rfl rfl (by decide) (sv (d := .tuple [.agg [.int _ _, .bool _, .int _ _, .int _ _, .int _ _, .int _ _, .int _ _, .int _ _, .slice _ _, .str _], .int _ _, .int _ _]) rfl)) <|
      ils_cons rfl (iop_extract (d := .agg [.int _ _, .bool _, .int _ _, .int _ _, .int _ _, .int _ _, .int _ _, .int _ _, .slice _ _, .str _]) rfl rfl (by decide) (sv (d := .tuple [.agg [.int _ _, .bool _, .int _ _, .int _ _, .int _ _, .int _ _, .int _ _, .int _ _, .slice _ _, .str _], .int _ _, .int _ _]) rfl) rfl) <|
      ils_cons rfl (iop_extract (d := .int _ _) rfl rfl (by decide) (sv (d := .tuple [.agg [.int _ _, .bool _, .int _ _, .int _ _, .int _ _, .int _ _, .int _ _, .int _ _, .slice _ _, .str _], .int _ _, .int _ _]) rfl) rfl) <|
      ils_cons rfl (iop_extract (d := .int _ _) rfl rfl (by decide) (sv (d := .tuple [.agg [.int _ _, .bool _, .int _ _, .int _ _, .int _ _, .int _ _, .int _ _, .int _ _, .slice _ _, .str _], .int _ _, .int _ _]) rfl) rfl) <|
      ils_cons rfl (iop_allocS (cs := [.int _ _, .bool _, .int _ _, .int _ _, .int _ _, .int _ _, .int _ _, .int _ _, .nils, .str _]) (cs' := [.int .u8 0, .bool false, .int .i64 0, .int .i64 0, .int .i64 0, .int .i64 0, .int .i64 0, .int .i64 0, .slice false (([] : List T_api_Pair).map E_api_Pair.d), .str []]) 0 rfl rfl (by decide) rfl ti42 rfl rfl (.cons (.refl _) (.cons (.refl _) (.cons (.refl _) (.cons (.refl _) (.cons (.refl _) (.cons (.refl _) (.cons (.refl _) (.cons (.refl _) (.cons (.nils _) (.cons (.refl _) .nil))))))))))) <|
      ils_cons rfl (iop_store (ds' := [.int _ _, .bool _, .int _ _, .int _ _, .int _ _, .int _ _, .int _ _, .int _ _, .slice _ _, .str _]) rfl rfl ti42 (sv (d := .ref _ _) rfl) rfl (sv (d := .agg [.int _ _, .bool _, .int _ _, .int _ _, .int _ _, .int _ _, .int _ _, .int _ _, .slice _ _, .str _]) rfl) rfl rfl rfl (nle rfl) rfl) <|
      ils_cons rfl (iop_assign rfl rfl (by decide) (sv (d := .int _ _) rfl)) <|
      ils_cons rfl (iop_assign rfl rfl (by decide) (sv (d := .int _ _) rfl)) <|
      ils_end ?_)
    obtain ⟨x5, hx5, h⟩ := bno_e h
    refine iwp_reg (ils_cons rfl (iop_move rfl rfl (by decide) (sv (d := .str _) rfl)) <|
      ils_cons rfl (iop_call (r := .tuple [.agg [.int _ _, .bool _, .int _ _, .int _ _, .int _ _, .int _ _, .int _ _, .int _ _, .slice _ _, .str _], .int _ _, .int _ _]) rfl rfl (by decide) cl29 (.cons (sv (d := .str _) rfl) .nil) rfl (p_sennitref15_Get _ _ hx5)) <|
      ils_cons rfl (iop_move rfl rfl (by decide) (sv (d := .tuple [.agg [.int _ _, .bool _, .int _ _, .int _ _, .int _ _, .int _ _, .int _ _, .int _ _, .slice _ _, .str _], .int _ _, .int _ _]) rfl)) <|
      ils_cons rfl (iop_extract (d := .agg [.int _ _, .bool _, .int _ _, .int _ _, .int _ _, .int _ _, .int _ _, .int _ _, .slice _ _, .str _]) rfl rfl (by decide) (sv (d := .tuple [.agg [.int _ _, .bool _, .int _ _, .int _ _, .int _ _, .int _ _, .int _ _, .int _ _, .slice _ _, .str _], .int _ _, .int _ _]) rfl) rfl) <|
      ils_cons rfl (iop_extract (d := .int _ _) rfl rfl (by decide) (sv (d := .tuple [.agg [.int _ _, .bool _, .int _ _, .int _ _, .int _ _, .int _ _, .int _ _, .int _ _, .slice _ _, .str _], .int _ _, .int _ _]) rfl) rfl) <|
      ils_cons rfl (iop_extract (d := .int _ _) rfl rfl (by decide) (sv (d := .tuple [.agg [.int _ _, .bool _, .int _ _, .int _ _, .int _ _, .int _ _, .int _ _, .int _ _, .slice _ _, .str _], .int _ _, .int _ _]) rfl) rfl) <|
      ils_cons rfl (iop_allocS (cs := [.int _ _, .bool _, .int _ _, .int _ _, .int _ _, .int _ _, .int _ _, .int _ _, .nils, .str _]) (cs' := [.int .u8 0, .bool false, .int .i64 0, .int .i64 0, .int .i64 0, .int .i64 0, .int .i64 0, .int .i64 0, .slice false (([] : List T_api_Pair).map E_api_Pair.d), .str []]) 1 rfl rfl (by decide) rfl ti40 rfl rfl (.cons (.refl _) (.cons (.refl _) (.cons (.refl _) (.cons (.refl _) (.cons (.refl _) (.cons (.refl _) (.cons (.refl _) (.cons (.refl _) (.cons (.nils _) (.cons (.refl _) .nil))))))))))) <|
      ils_cons rfl (iop_store (ds' := [.int _ _, .bool _, .int _ _, .int _ _, .int _ _, .int _ _, .int _ _, .int _ _, .slice _ _, .str _]) rfl rfl ti40 (sv (d := .ref _ _) rfl) rfl (sv (d := .agg [.int _ _, .bool _, .int _ _, .int _ _, .int _ _, .int _ _, .int _ _, .int _ _, .slice _ _, .str _]) rfl) rfl rfl rfl (nle rfl) rfl) <|
      ils_cons rfl (iop_assign rfl rfl (by decide) (sv (d := .int _ _) rfl)) <|
      ils_cons rfl (iop_assign rfl rfl (by decide) (sv (d := .int _ _) rfl)) <|
      ils_end ?_)
    obtain ⟨x6, hx6, h⟩ := bno_e h
    obtain ⟨x7, hx7, h⟩ := bnd_e h
    obtain ⟨x8, hx8, h⟩ := bnd_e h
    obtain ⟨x9, hx9, h⟩ := bnd_e h
    obtain ⟨x10, hx10, h⟩ := bnd_e h
    obtain ⟨x11, hx11, h⟩ := bno_e h
    obtain ⟨x12, hx12, h⟩ := bnd_e h
    refine iwp_reg (ils_cons rfl (iop_load_ra (cs := [.int _ _, .bool _, .int _ _, .int _ _, .int _ _, .int _ _, .int _ _, .int _ _, .slice _ _, .str _]) rfl rfl (by decide) Try.underlying42 ag42 ti42 (by decide) (sv (d := .ref _ _) rfl) rfl (nle rfl) rfl) <|
      ils_cons rfl (iop_load_ra (cs := [.int _ _, .bool _, .int _ _, .int _ _, .int _ _, .int _ _, .int _ _, .int _ _, .slice _ _, .str _]) rfl rfl (by decide) Try.underlying40 ag40 ti40 (by decide) (sv (d := .ref _ _) rfl) rfl (nle rfl) rfl) <|
      ils_cons rfl (iop_call (r := .bool _) rfl rfl (by decide) cl27 (.cons (sv (d := .agg [.int _ _, .bool _, .int _ _, .int _ _, .int _ _, .int _ _, .int _ _, .int _ _, .slice _ _, .str _]) rfl) (.cons (sv (d := .agg [.int _ _, .bool _, .int _ _, .int _ _, .int _ _, .int _ _, .int _ _, .int _ _, .slice _ _, .str _]) rfl) .nil)) rfl (p_sennitref15_Same _ _ _ hx6)) <|
      ils_cons rfl (iop_move rfl rfl (by decide) (sv (d := .bool _) rfl)) <|
      ils_guard rfl rfl (.one rfl) rfl (by decide) (fun hb => (iop_move rfl rfl (by decide) (sv (d := .int _ _) rfl))) <|
      ils_guard rfl rfl (.one rfl) rfl (by decide) (fun hb => (iop_move rfl rfl (by decide) (sv (d := .int _ _) rfl))) <|
      ils_guard rfl rfl (.one rfl) rfl (by decide) (fun hb => (iop_cmpx rfl rfl (by decide) (svc (d := .int _ _) rfl hb) (svc (d := .int _ _) rfl hb) rfl hx7)) <|
      ils_cons rfl (iop_andx rfl rfl (by decide) (sv (d := .bool _) rfl) rfl rfl hx8) <|
      ils_cons rfl (iop_move rfl rfl (by decide) (sv (d := .bool _) rfl)) <|
      ils_guard rfl rfl (.one rfl) rfl (by decide) (fun hb => (iop_move rfl rfl (by decide) (sv (d := .int _ _) rfl))) <|
      ils_guard rfl rfl (.one rfl) rfl (by decide) (fun hb => (iop_move rfl rfl (by decide) (sv (d := .int _ _) rfl))) <|
      ils_guard rfl rfl (.one rfl) rfl (by decide) (fun hb => (iop_cmpx rfl rfl (by decide) (svc (d := .int _ _) rfl hb) (svc (d := .int _ _) rfl hb) rfl hx9)) <|
      ils_cons rfl (iop_andx rfl rfl (by decide) (sv (d := .bool _) rfl) rfl rfl hx10) <|
      ils_cons rfl (iop_move rfl rfl (by decide) (sv (d := .bool _) rfl)) <|
      ils_guard rfl rfl (.one rfl) rfl (by decide) (fun hb => (iop_call (r := .bool _) rfl rfl (by decide) cl19 .nil rfl (p_sennitlaw15_awake  _ (gd_t hx11 hb)))) <|
      ils_cons rfl (iop_andx rfl rfl (by decide) (sv (d := .bool _) rfl) rfl rfl hx12) <|
      ils_cons rfl (iop_assign rfl rfl (by decide) (sv (d := .bool _) rfl)) <|
      ils_end ?_)
    refine iwp_ret ?_
    obtain rfl := Option.some.inj h
    refine ⟨.inr rfl, (.cons (sv rfl) .nil)⟩

set_option maxRecDepth 8000 in
set_option maxHeartbeats 2000000 in
theorem p_sennitlaw15_FrameBack (a0 : T_frame_Frame) (a1 : (List UInt8)) (r : Bool) (h : sennitlaw15_FrameBack a0 a1 = some r) : PureAt Try.prog 7 [.agg [.int .u8 a0.Kind, .bool a0.Flag, .int .i64 a0.Stream, .int .i64 a0.Offset, .int .i64 a0.Dep, .int .i64 a0.Weight, .int .i64 a0.N, .int .i64 a0.Code, .slice false (a0.Pairs.map E_api_Pair.d), .str a0.Data], .str a1] (.bool r) := by
  refine pure_of_iwp (rs := [.bool r]) Try.func7 rfl Try.ntmps7 (nle rfl) rfl fun O hO => ?_
  show IWP _ _ _ _ ⟨[(0, .agg [.int .u8 a0.Kind, .bool a0.Flag, .int .i64 a0.Stream, .int .i64 a0.Offset, .int .i64 a0.Dep, .int .i64 a0.Weight, .int .i64 a0.N, .int .i64 a0.Code, .slice false (a0.Pairs.map E_api_Pair.d), .str a0.Data]), (1, .str a1)], []⟩ _
  unfold sennitlaw15_FrameBack at h
  refine iwp_reg (ils_cons rfl (iop_box' (cs := [.int _ _, .bool _, .int _ _, .int _ _, .int _ _, .int _ _, .int _ _, .int _ _, .slice _ _, .str _]) 0 rfl rfl (by decide) rfl (sv (d := .agg [.int _ _, .bool _, .int _ _, .int _ _, .int _ _, .int _ _, .int _ _, .int _ _, .slice _ _, .str _]) rfl) rfl rfl) <|
    ils_cons rfl (iop_assign rfl rfl (by decide) (sv (d := .bool false) rfl)) <|
    ils_end ?_)
  refine iwp_seq ?_
  obtain ⟨x1, hx1, h⟩ := bno_e h
  obtain ⟨x2, hx2, h⟩ := bnd_e h
  obtain ⟨x3, hx3, h⟩ := bnd_e h
  refine iwp_reg (ils_cons rfl (iop_load_ra (cs := [.int _ _, .bool _, .int _ _, .int _ _, .int _ _, .int _ _, .int _ _, .int _ _, .slice _ _, .str _]) rfl rfl (by decide) Try.underlying40 ag40 ti40 (by decide) (sv (d := .ref _ _) rfl) rfl (nle rfl) rfl) <|
    ils_cons rfl (iop_call (r := .bool _) rfl rfl (by decide) cl18 (.cons (sv (d := .agg [.int _ _, .bool _, .int _ _, .int _ _, .int _ _, .int _ _, .int _ _, .int _ _, .slice _ _, .str _]) rfl) .nil) rfl (p_sennitref15_Light _ _ hx1)) <|
    ils_cons rfl (iop_not rfl rfl (by decide) (sv (d := .bool _) rfl)) <|
    ils_cons rfl (iop_move rfl rfl (by decide) (sv (d := .bool _) rfl)) <|
    ils_guard rfl rfl (.one rfl) rfl (by decide) (fun hb => (iop_move rfl rfl (by decide) (sv (d := .str _) rfl))) <|
    ils_guard rfl rfl (.one rfl) rfl (by decide) (fun hb => (iop_len_str rfl rfl (by decide) Try.underlying9 (svc (d := .str _) rfl hb) rfl)) <|
    ils_guard rfl rfl (.one rfl) rfl (by decide) (fun hb => (iop_cmpx rfl rfl (by decide) (svc (d := .int _ _) rfl hb) (sv (d := .int _ 40) rfl) rfl hx2)) <|
    ils_cons rfl (iop_orx rfl rfl (by decide) (sv (d := .bool _) rfl) rfl rfl hx3) <|
    ils_end ?_)
  refine iwp_cond (b := _) rfl (fun hc4 => ?_) (fun hc4 => ?_)
  ·
    replace h := bif_t h hc4
    obtain ⟨x5, hx5, h⟩ := bno_e h
    refine iwp_reg (ils_cons rfl (iop_call (r := .bool _) rfl rfl (by decide) cl19 .nil rfl (p_sennitlaw15_awake  _ hx5)) <|
      ils_cons rfl (iop_assign rfl rfl (by decide) (sv (d := .bool _) rfl)) <|
      ils_end ?_)
    refine iwp_ret ?_
    refine thenQ_r ?_
    obtain rfl := Option.some.inj h
    refine ⟨.inr rfl, (.cons (sv rfl) .nil)⟩
  ·
    replace h := bif_f h hc4
    refine iwp_skip ?_
    refine thenQ_n ?_
    refine iwp_reg (ils_cons rfl (iop_load_ra (cs := [.int _ _, .bool _, .int _ _, .int _ _, .int _ _, .int _ _, .int _ _, .int _ _, .slice _ _, .str _]) rfl rfl (by decide) Try.underlying40 ag40 ti40 (by decide) (sv (d := .ref _ _) rfl) rfl (nle rfl) rfl) <|
      ils_cons rfl (iop_allocS (cs := [.int _ _, .bool _, .int _ _, .int _ _, .int _ _, .int _ _, .int _ _, .int _ _, .nils, .str _]) (cs' := [.int .u8 0, .bool false, .int .i64 0, .int .i64 0, .int .i64 0, .int .i64 0, .int .i64 0, .int .i64 0, .slice false (([] : List T_api_Pair).map E_api_Pair.d), .str []]) 1 rfl rfl (by decide) rfl ti42 rfl rfl (.cons (.refl _) (.cons (.refl _) (.cons (.refl _) (.cons (.refl _) (.cons (.refl _) (.cons (.refl _) (.cons (.refl _) (.cons (.refl _) (.cons (.nils _) (.cons (.refl _) .nil))))))))))) <|
      ils_cons rfl (iop_store (ds' := [.int _ _, .bool _, .int _ _, .int _ _, .int _ _, .int _ _, .int _ _, .int _ _, .slice _ _, .str _]) rfl rfl ti42 (sv (d := .ref _ _) rfl) rfl (sv (d := .agg [.int _ _, .bool _, .int _ _, .int _ _, .int _ _, .int _ _, .int _ _, .int _ _, .slice _ _, .str _]) rfl) rfl rfl rfl (nle rfl) rfl) <|
      ils_end ?_)
    obtain ⟨x6, hx6, h⟩ := bno_e h
    refine iwp_reg (ils_cons rfl (iop_load_ra (cs := [.int _ _, .bool _, .int _ _, .int _ _, .int _ _, .int _ _, .int _ _, .int _ _, .slice _ _, .str _]) rfl rfl (by decide) Try.underlying42 ag42 ti42 (by decide) (sv (d := .ref _ _) rfl) rfl (nle rfl) rfl) <|
      ils_cons rfl (iop_call (r := .tuple [.str _, .int _ _]) rfl rfl (by decide) cl20 (.cons (sv (d := .agg [.int _ _, .bool _, .int _ _, .int _ _, .int _ _, .int _ _, .int _ _, .int _ _, .slice _ _, .str _]) rfl) .nil) rfl (p_frame_Put _ _ hx6)) <|
      ils_cons rfl (iop_move rfl rfl (by decide) (sv (d := .tuple [.str _, .int _ _]) rfl)) <|
      ils_cons rfl (iop_extract (d := .str _) rfl rfl (by decide) (sv (d := .tuple [.str _, .int _ _]) rfl) rfl) <|
      ils_cons rfl (iop_extract (d := .int _ _) rfl rfl (by decide) (sv (d := .tuple [.str _, .int _ _]) rfl) rfl) <|
      ils_cons rfl (iop_assign rfl rfl (by decide) (sv (d := .str _) rfl)) <|
      ils_cons rfl (iop_assign rfl rfl (by decide) (sv (d := .int _ _) rfl)) <|
      ils_end ?_)
    refine iwp_seq ?_
    obtain ⟨x7, hx7, h⟩ := bno_e h
    obtain ⟨x8, hx8, h⟩ := bnd_e h
    refine iwp_reg (ils_cons rfl (iop_load_ra (cs := [.int _ _, .bool _, .int _ _, .int _ _, .int _ _, .int _ _, .int _ _, .int _ _, .slice _ _, .str _]) rfl rfl (by decide) Try.underlying42 ag42 ti42 (by decide) (sv (d := .ref _ _) rfl) rfl (nle rfl) rfl) <|
      ils_cons rfl (iop_call (r := .int _ _) rfl rfl (by decide) cl22 (.cons (sv (d := .agg [.int _ _, .bool _, .int _ _, .int _ _, .int _ _, .int _ _, .int _ _, .int _ _, .slice _ _, .str _]) rfl) .nil) rfl (p_frame_Check _ _ hx7)) <|
      ils_cons rfl (iop_cmpx rfl rfl (by decide) (sv (d := .int _ _) rfl) (sv (d := .int _ 0) rfl) rfl hx8) <|
      ils_end ?_)
    refine iwp_cond (b := _) rfl (fun hc9 => ?_) (fun hc9 => ?_)
    ·
      replace h := bif_t h hc9
      obtain ⟨x10, hx10, h⟩ := bno_e h
      obtain ⟨x11, hx11, h⟩ := bnd_e h
      obtain ⟨x12, hx12, h⟩ := bnd_e h
      obtain ⟨x13, hx13, h⟩ := bnd_e h
      obtain ⟨x14, hx14, h⟩ := bno_e h
      obtain ⟨x15, hx15, h⟩ := bnd_e h
      obtain ⟨x16, hx16, h⟩ := bnd_e h
      obtain ⟨x17, hx17, h⟩ := bno_e h
      obtain ⟨x18, hx18, h⟩ := bnd_e h
      refine iwp_reg (ils_cons rfl (iop_move rfl rfl (by decide) (sv (d := .int _ _) rfl)) <|
        ils_cons rfl (iop_load_ra (cs := [.int _ _, .bool _, .int _ _, .int _ _, .int _ _, .int _ _, .int _ _, .int _ _, .slice _ _, .str _]) rfl rfl (by decide) Try.underlying42 ag42 ti42 (by decide) (sv (d := .ref _ _) rfl) rfl (nle rfl) rfl) <|
        ils_cons rfl (iop_call (r := .int _ _) rfl rfl (by decide) cl22 (.cons (sv (d := .agg [.int _ _, .bool _, .int _ _, .int _ _, .int _ _, .int _ _, .int _ _, .int _ _, .slice _ _, .str _]) rfl) .nil) rfl (p_frame_Check _ _ hx10)) <|
        ils_cons rfl (iop_cmpx rfl rfl (by decide) (sv (d := .int _ _) rfl) (sv (d := .int _ _) rfl) rfl hx11) <|
        ils_cons rfl (iop_move rfl rfl (by decide) (sv (d := .bool _) rfl)) <|
        ils_guard rfl rfl (.one rfl) rfl (by decide) (fun hb => (iop_move rfl rfl (by decide) (sv (d := .str _) rfl))) <|
        ils_guard rfl rfl (.one rfl) rfl (by decide) (fun hb => (iop_strx rfl rfl (by decide) (svc (d := .str _) rfl hb) (sv (d := .str []) rfl) rfl hx12)) <|
        ils_cons rfl (iop_andx rfl rfl (by decide) (sv (d := .bool _) rfl) rfl rfl hx13) <|
        ils_cons rfl (iop_move rfl rfl (by decide) (sv (d := .bool _) rfl)) <|
        ils_guard rfl rfl (.one rfl) rfl (by decide) (fun hb => (iop_load_ra (cs := [.int _ _, .bool _, .int _ _, .int _ _, .int _ _, .int _ _, .int _ _, .int _ _, .slice _ _, .str _]) rfl rfl (by decide) Try.underlying42 ag42 ti42 (by decide) (sv (d := .ref _ _) rfl) rfl (nle rfl) rfl)) <|
        ils_guard rfl rfl (.one rfl) rfl (by decide) (fun hb => (iop_call (r := .int _ _) rfl rfl (by decide) cl24 (.cons (svc (d := .agg [.int _ _, .bool _, .int _ _, .int _ _, .int _ _, .int _ _, .int _ _, .int _ _, .slice _ _, .str _]) rfl hb) .nil) rfl (p_frame_Size _ _ (gd_t hx14 hb)))) <|
        ils_guard rfl rfl (.one rfl) rfl (by decide) (fun hb => (iop_cmpx rfl rfl (by decide) (svc (d := .int _ _) rfl hb) (sv (d := .int _ 0) rfl) rfl hx15)) <|
        ils_cons rfl (iop_andx rfl rfl (by decide) (sv (d := .bool _) rfl) rfl rfl hx16) <|
        ils_cons rfl (iop_move rfl rfl (by decide) (sv (d := .bool _) rfl)) <|
        ils_guard rfl rfl (.one rfl) rfl (by decide) (fun hb => (iop_call (r := .bool _) rfl rfl (by decide) cl19 .nil rfl (p_sennitlaw15_awake  _ (gd_t hx17 hb)))) <|
        ils_cons rfl (iop_andx rfl rfl (by decide) (sv (d := .bool _) rfl) rfl rfl hx18) <|
        ils_cons rfl (iop_assign rfl rfl (by decide) (sv (d := .bool _) rfl)) <|
        ils_end ?_)
      refine iwp_ret ?_
      refine thenQ_r ?_
      obtain rfl := Option.some.inj h
      refine ⟨.inr rfl, (.cons (sv rfl) .nil)⟩
    ·
      replace h := bif_f h hc9
      refine iwp_skip ?_
      refine thenQ_n ?_
      obtain ⟨x19, hx19, h⟩ := bno_e h
      obtain ⟨x20, hx20, h⟩ := bno_e h
      refine iwp_reg (ils_cons rfl (iop_move rfl rfl (by decide) (sv (d := .str _) rfl)) <|
        ils_cons rfl (iop_move rfl rfl (by decide) (sv (d := .str _) rfl)) <|
        ils_cons rfl (iop_catx rfl rfl (by decide) (sv (d := .str _) rfl) (sv (d := .str _) rfl) hx19) <|
        ils_cons rfl (iop_call (r := .tuple [.agg [.int _ _, .bool _, .int _ _, .int _ _, .int _ _, .int _ _, .int _ _, .int _ _, .slice _ _, .str _], .int _ _, .int _ _]) rfl rfl (by decide) cl28 (.cons (sv (d := .str _) rfl) .nil) rfl (p_frame_Get _ _ hx20)) <|
        ils_cons rfl (iop_move rfl rfl (by decide) (sv (d := .tuple [.agg [.int _ _, .bool _, .int _ _, .int _ _, .int _ _, .int _ _, .int _ _, .int _ _, .slice _ _, .str _], .int _ _, .int _ _]) rfl)) <|
        ils_cons rfl (iop_extract (d := .agg [.int _ _, .bool _, .int _ _, .int _ _, .int _ _, .int _ _, .int _ _, .int _ _, .slice _ _, .str _]) rfl rfl (by decide) (sv (d := .tuple [.agg [.int _ _, .bool _, .int _ _, .int _ _, .int _ _, .int _ _, .int _ _, .int _ _, .slice _ _, .str _], .int _ _, .int _ _]) rfl) rfl) <|
        ils_cons rfl (iop_extract (d := .int _ _) rfl rfl (by decide) (sv (d := .tuple [.agg [.int _ _, .bool _, .int _ _, .int _ _, .int _ _, .int _ _, .int _ _, .int _ _, .slice _ _, .str _], .int _ _, .int _ _]) rfl) rfl) <|
        ils_cons rfl (iop_extract (d := .int _ _) rfl rfl (by decide) (sv (d := .tuple [.agg [.int _ _, .bool _, .int _ _, .int _ _, .int _ _, .int _ _, .int _ _, .int _ _, .slice _ _, .str _], .int _ _, .int _ _]) rfl) rfl) <|
        ils_cons rfl (iop_allocS (cs := [.int _ _, .bool _, .int _ _, .int _ _, .int _ _, .int _ _, .int _ _, .int _ _, .nils, .str _]) (cs' := [.int .u8 0, .bool false, .int .i64 0, .int .i64 0, .int .i64 0, .int .i64 0, .int .i64 0, .int .i64 0, .slice false (([] : List T_api_Pair).map E_api_Pair.d), .str []]) 2 rfl rfl (by decide) rfl ti42 rfl rfl (.cons (.refl _) (.cons (.refl _) (.cons (.refl _) (.cons (.refl _) (.cons (.refl _) (.cons (.refl _) (.cons (.refl _) (.cons (.refl _) (.cons (.nils _) (.cons (.refl _) .nil))))))))))) <|
        ils_cons rfl (iop_store (ds' := [.int _ _, .bool _, .int _ _, .int _ _, .int _ _, .int _ _, .int _ _, .int _ _, .slice _ _, .str _]) rfl rfl ti42 (sv (d := .ref _ _) rfl) rfl (sv (d := .agg [.int _ _, .bool _, .int _ _, .int _ _, .int _ _, .int _ _, .int _ _, .int _ _, .slice _ _, .str _]) rfl) rfl rfl rfl (nle rfl) rfl) <|
        ils_cons rfl (iop_assign rfl rfl (by decide) (sv (d := .int _ _) rfl)) <|
        ils_cons rfl (iop_assign rfl rfl (by decide) (sv (d := .int _ _) rfl)) <|
        ils_end ?_)
      refine iwp_seq ?_
      obtain ⟨x21, hx21, h⟩ := bnd_e h
      obtain ⟨x22, hx22, h⟩ := bnd_e h
      obtain ⟨x23, hx23, h⟩ := bnd_e h
      refine iwp_reg (ils_cons rfl (iop_move rfl rfl (by decide) (sv (d := .int _ _) rfl)) <|
        ils_cons rfl (iop_cmpx rfl rfl (by decide) (sv (d := .int _ _) rfl) (sv (d := .int _ 0) rfl) rfl hx21) <|
        ils_cons rfl (iop_move rfl rfl (by decide) (sv (d := .bool _) rfl)) <|
        ils_guard rfl rfl (.one rfl) rfl (by decide) (fun hb => (iop_move rfl rfl (by decide) (sv (d := .str _) rfl))) <|
        ils_guard rfl rfl (.one rfl) rfl (by decide) (fun hb => (iop_strx rfl rfl (by decide) (svc (d := .str _) rfl hb) (sv (d := .str []) rfl) rfl hx22)) <|
        ils_cons rfl (iop_orx rfl rfl (by decide) (sv (d := .bool _) rfl) rfl rfl hx23) <|
        ils_end ?_)
      refine iwp_cond (b := _) rfl (fun hc24 => ?_) (fun hc24 => ?_)
      ·
        replace h := bif_t h hc24
        refine iwp_reg (ils_cons rfl (iop_assign rfl rfl (by decide) (sv (d := .bool false) rfl)) <|
          ils_end ?_)
        refine iwp_ret ?_
        refine thenQ_r ?_
        obtain rfl := Option.some.inj h
        refine ⟨.inr rfl, (.cons (sv rfl) .nil)⟩
      ·
        replace h := bif_f h hc24
        refine iwp_skip ?_
        refine thenQ_n ?_
        obtain ⟨x25, hx25, h⟩ := bnd_e h
        obtain ⟨x26, hx26, h⟩ := bno_e h
        obtain ⟨x27, hx27, h⟩ := bno_e h
        refine iwp_reg (ils_cons rfl (iop_move rfl rfl (by decide) (sv (d := .str _) rfl)) <|
          ils_cons rfl (iop_move rfl rfl (by decide) (sv (d := .str _) rfl)) <|
          ils_cons rfl (iop_len_str rfl rfl (by decide) Try.underlying9 (sv (d := .str _) rfl) rfl) <|
          ils_cons rfl (iop_intx rfl rfl (by decide) (sv (d := .int _ _) rfl) (sv (d := .int _ 1) rfl) rfl hx25) <|
          ils_cons rfl (iop_cutS rfl rfl (by decide) Try.underlying9 (sv (d := .str _) rfl) rfl ⟨_, (sv (d := .int _ _) rfl)⟩ hx26) <|
          ils_cons rfl (iop_call (r := .tuple [.agg [.int _ _, .bool _, .int _ _, .int _ _, .int _ _, .int _ _, .int _ _, .int _ _, .slice _ _, .str _], .int _ _, .int _ _]) rfl rfl (by decide) cl28 (.cons (sv (d := .str _) rfl) .nil) rfl (p_frame_Get _ _ hx27)) <|
          ils_cons rfl (iop_move rfl rfl (by decide) (sv (d := .tuple [.agg [.int _ _, .bool _, .int _ _, .int _ _, .int _ _, .int _ _, .int _ _, .int _ _, .slice _ _, .str _], .int _ _, .int _ _]) rfl)) <|
          ils_cons rfl (iop_extract (d := .agg [.int _ _, .bool _, .int _ _, .int _ _, .int _ _, .int _ _, .int _ _, .int _ _, .slice _ _, .str _]) rfl rfl (by decide) (sv (d := .tuple [.agg [.int _ _, .bool _, .int _ _, .int _ _, .int _ _, .int _ _, .int _ _, .int _ _, .slice _ _, .str _], .int _ _, .int _ _]) rfl) rfl) <|
          ils_cons rfl (iop_extract (d := .int _ _) rfl rfl (by decide) (sv (d := .tuple [.agg [.int _ _, .bool _, .int _ _, .int _ _, .int _ _, .int _ _, .int _ _, .int _ _, .slice _ _, .str _], .int _ _, .int _ _]) rfl) rfl) <|
          ils_cons rfl (iop_extract (d := .int _ _) rfl rfl (by decide) (sv (d := .tuple [.agg [.int _ _, .bool _, .int _ _, .int _ _, .int _ _, .int _ _, .int _ _, .int _ _, .slice _ _, .str _], .int _ _, .int _ _]) rfl) rfl) <|
          ils_cons rfl (iop_allocS (cs := [.int _ _, .bool _, .int _ _, .int _ _, .int _ _, .int _ _, .int _ _, .int _ _, .nils, .str _]) (cs' := [.int .u8 0, .bool false, .int .i64 0, .int .i64 0, .int .i64 0, .int .i64 0, .int .i64 0, .int .i64 0, .slice false (([] : List T_api_Pair).map E_api_Pair.d), .str []]) 3 rfl rfl (by decide) rfl ti42 rfl rfl (.cons (.refl _) (.cons (.refl _) (.cons (.refl _) (.cons (.refl _) (.cons (.refl _) (.cons (.refl _) (.cons (.refl _) (.cons (.refl _) (.cons (.nils _) (.cons (.refl _) .nil))))))))))) <|
          ils_cons rfl (iop_store (ds' := [.int _ _, .bool _, .int _ _, .int _ _, .int _ _, .int _ _, .int _ _, .int _ _, .slice _ _, .str _]) rfl rfl ti42 (sv (d := .ref _ _) rfl) rfl (sv (d := .agg [.int _ _, .bool _, .int _ _, .int _ _, .int _ _, .int _ _, .int _ _, .int _ _, .slice _ _, .str _]) rfl) rfl rfl rfl (nle rfl) rfl) <|
          ils_cons rfl (iop_assign rfl rfl (by decide) (sv (d := .int _ _) rfl)) <|
          ils_cons rfl (iop_assign rfl rfl (by decide) (sv (d := .int _ _) rfl)) <|
          ils_end ?_)
        obtain ⟨x28, hx28, h⟩ := bnd_e h
        obtain ⟨x29, hx29, h⟩ := bnd_e h
        obtain ⟨x30, hx30, h⟩ := bnd_e h
        obtain ⟨x31, hx31, h⟩ := bno_e h
        obtain ⟨x32, hx32, h⟩ := bnd_e h
        obtain ⟨x33, hx33, h⟩ := bnd_e h
        obtain ⟨x34, hx34, h⟩ := bnd_e h
        obtain ⟨x35, hx35, h⟩ := bnd_e h
        obtain ⟨x36, hx36, h⟩ := bnd_e h
        obtain ⟨x37, hx37, h⟩ := bno_e h
        obtain ⟨x38, hx38, h⟩ := bnd_e h
        obtain ⟨x39, hx39, h⟩ := bnd_e h
        obtain ⟨x40, hx40, h⟩ := bnd_e h
        obtain ⟨x41, hx41, h⟩ := bnd_e h
        obtain ⟨x42, hx42, h⟩ := bno_e h
        obtain ⟨x43, hx43, h⟩ := bnd_e h
        refine iwp_reg (ils_cons rfl (iop_move rfl rfl (by decide) (sv (d := .int _ _) rfl)) <|
          ils_cons rfl (iop_cmpx rfl rfl (by decide) (sv (d := .int _ _) rfl) (sv (d := .int _ 0) rfl) rfl hx28) <|
          ils_cons rfl (iop_move rfl rfl (by decide) (sv (d := .bool _) rfl)) <|
          ils_guard rfl rfl (.one rfl) rfl (by decide) (fun hb => (iop_move rfl rfl (by decide) (sv (d := .int _ _) rfl))) <|
          ils_guard rfl rfl (.one rfl) rfl (by decide) (fun hb => (iop_move rfl rfl (by decide) (sv (d := .str _) rfl))) <|
          ils_guard rfl rfl (.one rfl) rfl (by decide) (fun hb => (iop_len_str rfl rfl (by decide) Try.underlying9 (svc (d := .str _) rfl hb) rfl)) <|
          ils_guard rfl rfl (.one rfl) rfl (by decide) (fun hb => (iop_cmpx rfl rfl (by decide) (svc (d := .int _ _) rfl hb) (svc (d := .int _ _) rfl hb) rfl hx29)) <|
          ils_cons rfl (iop_andx rfl rfl (by decide) (sv (d := .bool _) rfl) rfl rfl hx30) <|
          ils_cons rfl (iop_move rfl rfl (by decide) (sv (d := .bool _) rfl)) <|
          ils_guard rfl rfl (.one rfl) rfl (by decide) (fun hb => (iop_load_ra (cs := [.int _ _, .bool _, .int _ _, .int _ _, .int _ _, .int _ _, .int _ _, .int _ _, .slice _ _, .str _]) rfl rfl (by decide) Try.underlying42 ag42 ti42 (by decide) (sv (d := .ref _ _) rfl) rfl (nle rfl) rfl)) <|
          ils_guard rfl rfl (.one rfl) rfl (by decide) (fun hb => (iop_load_ra (cs := [.int _ _, .bool _, .int _ _, .int _ _, .int _ _, .int _ _, .int _ _, .int _ _, .slice _ _, .str _]) rfl rfl (by decide) Try.underlying42 ag42 ti42 (by decide) (sv (d := .ref _ _) rfl) rfl (nle rfl) rfl)) <|
          ils_guard rfl rfl (.one rfl) rfl (by decide) (fun hb => (iop_call (r := .bool _) rfl rfl (by decide) cl26 (.cons (svc (d := .agg [.int _ _, .bool _, .int _ _, .int _ _, .int _ _, .int _ _, .int _ _, .int _ _, .slice _ _, .str _]) rfl hb) (.cons (svc (d := .agg [.int _ _, .bool _, .int _ _, .int _ _, .int _ _, .int _ _, .int _ _, .int _ _, .slice _ _, .str _]) rfl hb) .nil)) rfl (p_frame_Same _ _ _ (gd_t hx31 hb)))) <|
          ils_cons rfl (iop_andx rfl rfl (by decide) (sv (d := .bool _) rfl) rfl rfl hx32) <|
          ils_cons rfl (iop_move rfl rfl (by decide) (sv (d := .bool _) rfl)) <|
          ils_guard rfl rfl (.one rfl) rfl (by decide) (fun hb => (iop_move rfl rfl (by decide) (sv (d := .int _ _) rfl))) <|
          ils_guard rfl rfl (.one rfl) rfl (by decide) (fun hb => (iop_cmpx rfl rfl (by decide) (svc (d := .int _ _) rfl hb) (sv (d := .int _ 0) rfl) rfl hx33)) <|
          ils_cons rfl (iop_andx rfl rfl (by decide) (sv (d := .bool _) rfl) rfl rfl hx34) <|
          ils_cons rfl (iop_move rfl rfl (by decide) (sv (d := .bool _) rfl)) <|
          ils_guard rfl rfl (.one rfl) rfl (by decide) (fun hb => (iop_move rfl rfl (by decide) (sv (d := .int _ _) rfl))) <|
          ils_guard rfl rfl (.one rfl) rfl (by decide) (fun hb => (iop_cmpx rfl rfl (by decide) (svc (d := .int _ _) rfl hb) (sv (d := .int _ 3) rfl) rfl hx35)) <|
          ils_cons rfl (iop_andx rfl rfl (by decide) (sv (d := .bool _) rfl) rfl rfl hx36) <|
          ils_cons rfl (iop_move rfl rfl (by decide) (sv (d := .bool _) rfl)) <|
          ils_guard rfl rfl (.one rfl) rfl (by decide) (fun hb => (iop_load_ra (cs := [.int _ _, .bool _, .int _ _, .int _ _, .int _ _, .int _ _, .int _ _, .int _ _, .slice _ _, .str _]) rfl rfl (by decide) Try.underlying42 ag42 ti42 (by decide) (sv (d := .ref _ _) rfl) rfl (nle rfl) rfl)) <|
          ils_guard rfl rfl (.one rfl) rfl (by decide) (fun hb => (iop_call (r := .int _ _) rfl rfl (by decide) cl24 (.cons (svc (d := .agg [.int _ _, .bool _, .int _ _, .int _ _, .int _ _, .int _ _, .int _ _, .int _ _, .slice _ _, .str _]) rfl hb) .nil) rfl (p_frame_Size _ _ (gd_t hx37 hb)))) <|
          ils_guard rfl rfl (.one rfl) rfl (by decide) (fun hb => (iop_move rfl rfl (by decide) (sv (d := .str _) rfl))) <|
          ils_guard rfl rfl (.one rfl) rfl (by decide) (fun hb => (iop_len_str rfl rfl (by decide) Try.underlying9 (svc (d := .str _) rfl hb) rfl)) <|
          ils_guard rfl rfl (.one rfl) rfl (by decide) (fun hb => (iop_cmpx rfl rfl (by decide) (svc (d := .int _ _) rfl hb) (svc (d := .int _ _) rfl hb) rfl hx38)) <|
          ils_cons rfl (iop_andx rfl rfl (by decide) (sv (d := .bool _) rfl) rfl rfl hx39) <|
          ils_cons rfl (iop_move rfl rfl (by decide) (sv (d := .bool _) rfl)) <|
          ils_guard rfl rfl (.one rfl) rfl (by decide) (fun hb => (iop_move rfl rfl (by decide) (sv (d := .str _) rfl))) <|
          ils_guard rfl rfl (.one rfl) rfl (by decide) (fun hb => (iop_len_str rfl rfl (by decide) Try.underlying9 (svc (d := .str _) rfl hb) rfl)) <|
          ils_guard rfl rfl (.one rfl) rfl (by decide) (fun hb => (iop_cmpx rfl rfl (by decide) (svc (d := .int _ _) rfl hb) (sv (d := .int _ 68) rfl) rfl hx40)) <|
          ils_cons rfl (iop_andx rfl rfl (by decide) (sv (d := .bool _) rfl) rfl rfl hx41) <|
          ils_cons rfl (iop_move rfl rfl (by decide) (sv (d := .bool _) rfl)) <|
          ils_guard rfl rfl (.one rfl) rfl (by decide) (fun hb => (iop_call (r := .bool _) rfl rfl (by decide) cl19 .nil rfl (p_sennitlaw15_awake  _ (gd_t hx42 hb)))) <|
          ils_cons rfl (iop_andx rfl rfl (by decide) (sv (d := .bool _) rfl) rfl rfl hx43) <|
          ils_cons rfl (iop_assign rfl rfl (by decide) (sv (d := .bool _) rfl)) <|
          ils_end ?_)
        refine iwp_ret ?_
        obtain rfl := Option.some.inj h
        refine ⟨.inr rfl, (.cons (sv rfl) .nil)⟩

set_option maxRecDepth 8000 in
set_option maxHeartbeats 2000000 in
theorem p_sennitlaw15_FrameAgain (a0 : (List UInt8)) (r : Bool) (h : sennitlaw15_FrameAgain a0 = some r) : PureAt Try.prog 8 [.str a0] (.bool r) := by
  refine pure_of_iwp (rs := [.bool r]) Try.func8 rfl Try.ntmps8 (nle rfl) rfl fun O hO => ?_
  show IWP _ _ _ _ ⟨[(0, .str a0)], []⟩ _
  unfold sennitlaw15_FrameAgain at h
  refine iwp_reg (ils_cons rfl (iop_assign rfl rfl (by decide) (sv (d := .bool false) rfl)) <|
    ils_end ?_)
  refine iwp_seq ?_
  obtain ⟨x1, hx1, h⟩ := bnd_e h
  refine iwp_reg (ils_cons rfl (iop_move rfl rfl (by decide) (sv (d := .str _) rfl)) <|
    ils_cons rfl (iop_len_str rfl rfl (by decide) Try.underlying9 (sv (d := .str _) rfl) rfl) <|
    ils_cons rfl (iop_cmpx rfl rfl (by decide) (sv (d := .int _ _) rfl) (sv (d := .int _ 120) rfl) rfl hx1) <|
    ils_end ?_)
  refine iwp_cond (b := _) rfl (fun hc2 => ?_) (fun hc2 => ?_)
  ·
    replace h := bif_t h hc2
    obtain ⟨x3, hx3, h⟩ := bno_e h
    refine iwp_reg (ils_cons rfl (iop_call (r := .bool _) rfl rfl (by decide) cl19 .nil rfl (p_sennitlaw15_awake  _ hx3)) <|
      ils_cons rfl (iop_assign rfl rfl (by decide) (sv (d := .bool _) rfl)) <|
      ils_end ?_)
    refine iwp_ret ?_
    refine thenQ_r ?_
    obtain rfl := Option.some.inj h
    refine ⟨.inr rfl, (.cons (sv rfl) .nil)⟩
  ·
    replace h := bif_f h hc2
    refine iwp_skip ?_
    refine thenQ_n ?_
    obtain ⟨x4, hx4, h⟩ := bno_e h
    refine iwp_reg (ils_cons rfl (iop_move rfl rfl (by decide) (sv (d := .str _) rfl)) <|
      ils_cons rfl (iop_call (r := .tuple [.agg [.int _ _, .bool _, .int _ _, .int _ _, .int _ _, .int _ _, .int _ _, .int _ _, .slice _ _, .str _], .int _ _, .int _ _]) rfl rfl (by decide) cl28 (.cons (sv (d := .str _) rfl) .nil) rfl (p_frame_Get _ _ hx4)) <|
      ils_cons rfl (iop_move rfl rfl (by decide) (sv (d := .tuple [.agg [.int _ _, .bool _, .int _ _, .int _ _, .int _ _, .int _ _, .int _ _, .int _ _, .slice _ _, .str _], .int _ _, .int _ _]) rfl)) <|
      ils_cons rfl (iop_extract (d := .agg [.int _ _, .bool _, .int _ _, .int _ _, .int _ _, .int _ _, .int _ _, .int _ _, .slice _ _, .str _]) rfl rfl (by decide) (sv (d := .tuple [.agg [.int _ _, .bool _, .int _ _, .int _ _, .int _ _, .int _ _, .int _ _, .int _ _, .slice _ _, .str _], .int _ _, .int _ _]) rfl) rfl) <|
      ils_cons rfl (iop_extract (d := .int _ _) rfl rfl (by decide) (sv (d := .tuple [.agg [.int _ _, .bool _, .int _ _, .int _ _, .int _ _, .int _ _, .int _ _, .int _ _, .slice _ _, .str _], .int _ _, .int _ _]) rfl) rfl) <|
      ils_cons rfl (iop_extract (d := .int _ _) rfl rfl (by decide) (sv (d := .tuple [.agg [.int _ _, .bool _, .int _ _, .int _ _, .int _ _, .int _ _, .int _ _, .int _ _, .slice _ _, .str _], .int _ _, .int _ _]) rfl) rfl) <|
      ils_cons rfl (iop_allocS (cs := [.int _ _, .bool _, .int _ _, .int _ _, .int _ _, .int _ _, .int _ _, .int _ _, .nils, .str _]) (cs' := [.int .u8 0, .bool false, .int .i64 0, .int .i64 0, .int .i64 0, .int .i64 0, .int .i64 0, .int .i64 0, .slice false (([] : List T_api_Pair).map E_api_Pair.d), .str []]) 0 rfl rfl (by decide) rfl ti42 rfl rfl (.cons (.refl _) (.cons (.refl _) (.cons (.refl _) (.cons (.refl _) (.cons (.refl _) (.cons (.refl _) (.cons (.refl _) (.cons (.refl _) (.cons (.nils _) (.cons (.refl _) .nil))))))))))) <|
      ils_cons rfl (iop_store (ds' := [.int _ _, .bool _, .int _ _, .int _ _, .int _ _, .int _ _, .int _ _, .int _ _, .slice _ _, .str _]) rfl rfl ti42 (sv (d := .ref _ _) rfl) rfl (sv (d := .agg [.int _ _, .bool _, .int _ _, .int _ _, .int _ _, .int _ _, .int _ _, .int _ _, .slice _ _, .str _]) rfl) rfl rfl rfl (nle rfl) rfl) <|
      ils_cons rfl (iop_assign rfl rfl (by decide) (sv (d := .int _ _) rfl)) <|
      ils_cons rfl (iop_assign rfl rfl (by decide) (sv (d := .int _ _) rfl)) <|
      ils_end ?_)
    refine iwp_seq ?_
    obtain ⟨x5, hx5, h⟩ := bnd_e h
    refine iwp_reg (ils_cons rfl (iop_move rfl rfl (by decide) (sv (d := .int _ _) rfl)) <|
      ils_cons rfl (iop_cmpx rfl rfl (by decide) (sv (d := .int _ _) rfl) (sv (d := .int _ 0) rfl) rfl hx5) <|
      ils_end ?_)
    refine iwp_cond (b := _) rfl (fun hc6 => ?_) (fun hc6 => ?_)
    ·
      replace h := bif_t h hc6
      obtain ⟨x7, hx7, h⟩ := bnd_e h
      obtain ⟨x8, hx8, h⟩ := bno_e h
      obtain ⟨x9, hx9, h⟩ := bnd_e h
      obtain ⟨x10, hx10, h⟩ := bno_e h
      obtain ⟨x11, hx11, h⟩ := bnd_e h
      refine iwp_reg (ils_cons rfl (iop_move rfl rfl (by decide) (sv (d := .int _ _) rfl)) <|
        ils_cons rfl (iop_cmpx rfl rfl (by decide) (sv (d := .int _ _) rfl) (sv (d := .int _ 0) rfl) rfl hx7) <|
        ils_cons rfl (iop_move rfl rfl (by decide) (sv (d := .bool _) rfl)) <|
        ils_guard rfl rfl (.one rfl) rfl (by decide) (fun hb => (iop_load_ra (cs := [.int _ _, .bool _, .int _ _, .int _ _, .int _ _, .int _ _, .int _ _, .int _ _, .slice _ _, .str _]) rfl rfl (by decide) Try.underlying42 ag42 ti42 (by decide) (sv (d := .ref _ _) rfl) rfl (nle rfl) rfl)) <|
        ils_guard rfl rfl (.one rfl) rfl (by decide) (fun hb => (iop_sub (d' := .agg [.int .u8 0, .bool false, .int .i64 0, .int .i64 0, .int .i64 0, .int .i64 0, .int .i64 0, .int .i64 0, .slice false (([] : List T_api_Pair).map E_api_Pair.d), .str []]) (iop_build_struct (cs := [.int _ _, .bool _, .int _ _, .int _ _, .int _ _, .int _ _, .int _ _, .int _ _, .nils, .str _]) rfl rfl (by decide) Try.underlying42 ti42 pl42 rfl .nil rfl) (.agg (.cons (.refl _) (.cons (.refl _) (.cons (.refl _) (.cons (.refl _) (.cons (.refl _) (.cons (.refl _) (.cons (.refl _) (.cons (.refl _) (.cons (.nils _) (.cons (.refl _) .nil))))))))))))) <|
        ils_guard rfl rfl (.one rfl) rfl (by decide) (fun hb => (iop_call (r := .bool _) rfl rfl (by decide) cl26 (.cons (svc (d := .agg [.int _ _, .bool _, .int _ _, .int _ _, .int _ _, .int _ _, .int _ _, .int _ _, .slice _ _, .str _]) rfl hb) (.cons (svc (d := .agg [.int _ _, .bool _, .int _ _, .int _ _, .int _ _, .int _ _, .int _ _, .int _ _, .slice _ _, .str _]) rfl hb) .nil)) rfl (p_frame_Same _ _ _ (gd_t hx8 hb)))) <|
        ils_cons rfl (iop_andx rfl rfl (by decide) (sv (d := .bool _) rfl) rfl rfl hx9) <|
        ils_cons rfl (iop_move rfl rfl (by decide) (sv (d := .bool _) rfl)) <|
        ils_guard rfl rfl (.one rfl) rfl (by decide) (fun hb => (iop_call (r := .bool _) rfl rfl (by decide) cl19 .nil rfl (p_sennitlaw15_awake  _ (gd_t hx10 hb)))) <|
        ils_cons rfl (iop_andx rfl rfl (by decide) (sv (d := .bool _) rfl) rfl rfl hx11) <|
        ils_cons rfl (iop_assign rfl rfl (by decide) (sv (d := .bool _) rfl)) <|
        ils_end ?_)
      refine iwp_ret ?_
      refine thenQ_r ?_
      obtain rfl := Option.some.inj h
      refine ⟨.inr rfl, (.cons (sv rfl) .nil)⟩
    ·
      replace h := bif_f h hc6
      refine iwp_skip ?_
      refine thenQ_n ?_
      obtain ⟨x12, hx12, h⟩ := bno_e h
      refine iwp_reg (ils_cons rfl (iop_load_ra (cs := [.int _ _, .bool _, .int _ _, .int _ _, .int _ _, .int _ _, .int _ _, .int _ _, .slice _ _, .str _]) rfl rfl (by decide) Try.underlying42 ag42 ti42 (by decide) (sv (d := .ref _ _) rfl) rfl (nle rfl) rfl) <|
        ils_cons rfl (iop_call (r := .tuple [.str _, .int _ _]) rfl rfl (by decide) cl20 (.cons (sv (d := .agg [.int _ _, .bool _, .int _ _, .int _ _, .int _ _, .int _ _, .int _ _, .int _ _, .slice _ _, .str _]) rfl) .nil) rfl (p_frame_Put _ _ hx12)) <|
        ils_cons rfl (iop_move rfl rfl (by decide) (sv (d := .tuple [.str _, .int _ _]) rfl)) <|
        ils_cons rfl (iop_extract (d := .str _) rfl rfl (by decide) (sv (d := .tuple [.str _, .int _ _]) rfl) rfl) <|
        ils_cons rfl (iop_extract (d := .int _ _) rfl rfl (by decide) (sv (d := .tuple [.str _, .int _ _]) rfl) rfl) <|
        ils_cons rfl (iop_assign rfl rfl (by decide) (sv (d := .str _) rfl)) <|
        ils_cons rfl (iop_assign rfl rfl (by decide) (sv (d := .int _ _) rfl)) <|
        ils_end ?_)
      obtain ⟨x13, hx13, h⟩ := bnd_e h
      obtain ⟨x14, hx14, h⟩ := bnd_e h
      obtain ⟨x15, hx15, h⟩ := bnd_e h
      obtain ⟨x16, hx16, h⟩ := bnd_e h
      obtain ⟨x17, hx17, h⟩ := bnd_e h
      obtain ⟨x18, hx18, h⟩ := bno_e h
      obtain ⟨x19, hx19, h⟩ := bnd_e h
      obtain ⟨x20, hx20, h⟩ := bnd_e h
      obtain ⟨x21, hx21, h⟩ := bno_e h
      obtain ⟨x22, hx22, h⟩ := bnd_e h
      obtain ⟨x23, hx23, h⟩ := bnd_e h
      obtain ⟨x24, hx24, h⟩ := bno_e h
      obtain ⟨x25, hx25, h⟩ := bnd_e h
      refine iwp_reg (ils_cons rfl (iop_move rfl rfl (by decide) (sv (d := .int _ _) rfl)) <|
        ils_cons rfl (iop_cmpx rfl rfl (by decide) (sv (d := .int _ _) rfl) (sv (d := .int _ 0) rfl) rfl hx13) <|
        ils_cons rfl (iop_move rfl rfl (by decide) (sv (d := .bool _) rfl)) <|
        ils_guard rfl rfl (.one rfl) rfl (by decide) (fun hb => (iop_move rfl rfl (by decide) (sv (d := .int _ _) rfl))) <|
        ils_guard rfl rfl (.one rfl) rfl (by decide) (fun hb => (iop_cmpx rfl rfl (by decide) (svc (d := .int _ _) rfl hb) (sv (d := .int _ 0) rfl) rfl hx14)) <|
        ils_cons rfl (iop_andx rfl rfl (by decide) (sv (d := .bool _) rfl) rfl rfl hx15) <|
        ils_cons rfl (iop_move rfl rfl (by decide) (sv (d := .bool _) rfl)) <|
        ils_guard rfl rfl (.one rfl) rfl (by decide) (fun hb => (iop_move rfl rfl (by decide) (sv (d := .int _ _) rfl))) <|
        ils_guard rfl rfl (.one rfl) rfl (by decide) (fun hb => (iop_move rfl rfl (by decide) (sv (d := .str _) rfl))) <|
        ils_guard rfl rfl (.one rfl) rfl (by decide) (fun hb => (iop_len_str rfl rfl (by decide) Try.underlying9 (svc (d := .str _) rfl hb) rfl)) <|
        ils_guard rfl rfl (.one rfl) rfl (by decide) (fun hb => (iop_cmpx rfl rfl (by decide) (svc (d := .int _ _) rfl hb) (svc (d := .int _ _) rfl hb) rfl hx16)) <|
        ils_cons rfl (iop_andx rfl rfl (by decide) (sv (d := .bool _) rfl) rfl rfl hx17) <|
        ils_cons rfl (iop_move rfl rfl (by decide) (sv (d := .bool _) rfl)) <|
        ils_guard rfl rfl (.one rfl) rfl (by decide) (fun hb => (iop_move rfl rfl (by decide) (sv (d := .str _) rfl))) <|
        ils_guard rfl rfl (.one rfl) rfl (by decide) (fun hb => (iop_move rfl rfl (by decide) (sv (d := .str _) rfl))) <|
        ils_guard rfl rfl (.one rfl) rfl (by decide) (fun hb => (iop_move rfl rfl (by decide) (sv (d := .int _ _) rfl))) <|
        ils_guard rfl rfl (.one rfl) rfl (by decide) (fun hb => (iop_cutS rfl rfl (by decide) Try.underlying9 (svc (d := .str _) rfl hb) rfl ⟨_, (svc (d := .int _ _) rfl hb)⟩ (gd_t hx18 hb))) <|
        ils_guard rfl rfl (.one rfl) rfl (by decide) (fun hb => (iop_strx rfl rfl (by decide) (svc (d := .str _) rfl hb) (svc (d := .str _) rfl hb) rfl hx19)) <|
        ils_cons rfl (iop_andx rfl rfl (by decide) (sv (d := .bool _) rfl) rfl rfl hx20) <|
        ils_cons rfl (iop_move rfl rfl (by decide) (sv (d := .bool _) rfl)) <|
        ils_guard rfl rfl (.one rfl) rfl (by decide) (fun hb => (iop_load_ra (cs := [.int _ _, .bool _, .int _ _, .int _ _, .int _ _, .int _ _, .int _ _, .int _ _, .slice _ _, .str _]) rfl rfl (by decide) Try.underlying42 ag42 ti42 (by decide) (sv (d := .ref _ _) rfl) rfl (nle rfl) rfl)) <|
        ils_guard rfl rfl (.one rfl) rfl (by decide) (fun hb => (iop_call (r := .int _ _) rfl rfl (by decide) cl22 (.cons (svc (d := .agg [.int _ _, .bool _, .int _ _, .int _ _, .int _ _, .int _ _, .int _ _, .int _ _, .slice _ _, .str _]) rfl hb) .nil) rfl (p_frame_Check _ _ (gd_t hx21 hb)))) <|
        ils_guard rfl rfl (.one rfl) rfl (by decide) (fun hb => (iop_cmpx rfl rfl (by decide) (svc (d := .int _ _) rfl hb) (sv (d := .int _ 0) rfl) rfl hx22)) <|
        ils_cons rfl (iop_andx rfl rfl (by decide) (sv (d := .bool _) rfl) rfl rfl hx23) <|
        ils_cons rfl (iop_move rfl rfl (by decide) (sv (d := .bool _) rfl)) <|
        ils_guard rfl rfl (.one rfl) rfl (by decide) (fun hb => (iop_call (r := .bool _) rfl rfl (by decide) cl19 .nil rfl (p_sennitlaw15_awake  _ (gd_t hx24 hb)))) <|
        ils_cons rfl (iop_andx rfl rfl (by decide) (sv (d := .bool _) rfl) rfl rfl hx25) <|
        ils_cons rfl (iop_assign rfl rfl (by decide) (sv (d := .bool _) rfl)) <|
        ils_end ?_)
      refine iwp_ret ?_
      obtain rfl := Option.some.inj h
      refine ⟨.inr rfl, (.cons (sv rfl) .nil)⟩

set_option maxRecDepth 8000 in
set_option maxHeartbeats 2000000 in
theorem p_sennitlaw15_FrameUnlike (a0 : T_frame_Frame) (a1 : T_frame_Frame) (r : Bool) (h : sennitlaw15_FrameUnlike a0 a1 = some r) : PureAt Try.prog 9 [.agg [.int .u8 a0.Kind, .bool a0.Flag, .int .i64 a0.Stream, .int .i64 a0.Offset, .int .i64 a0.Dep, .int .i64 a0.Weight, .int .i64 a0.N, .int .i64 a0.Code, .slice false (a0.Pairs.map E_api_Pair.d), .str a0.Data], .agg [.int .u8 a1.Kind, .bool a1.Flag, .int .i64 a1.Stream, .int .i64 a1.Offset, .int .i64 a1.Dep, .int .i64 a1.Weight, .int .i64 a1.N, .int .i64 a1.Code, .slice false (a1.Pairs.map E_api_Pair.d), .str a1.Data]] (.bool r) := by
  refine pure_of_iwp (rs := [.bool r]) Try.func9 rfl Try.ntmps9 (nle rfl) rfl fun O hO => ?_
  show IWP _ _ _ _ ⟨[(0, .agg [.int .u8 a0.Kind, .bool a0.Flag, .int .i64 a0.Stream, .int .i64 a0.Offset, .int .i64 a0.Dep, .int .i64 a0.Weight, .int .i64 a0.N, .int .i64 a0.Code, .slice false (a0.Pairs.map E_api_Pair.d), .str a0.Data]), (1, .agg [.int .u8 a1.Kind, .bool a1.Flag, .int .i64 a1.Stream, .int .i64 a1.Offset, .int .i64 a1.Dep, .int .i64 a1.Weight, .int .i64 a1.N, .int .i64 a1.Code, .slice false (a1.Pairs.map E_api_Pair.d), .str a1.Data])], []⟩ _
  unfold sennitlaw15_FrameUnlike at h
  refine iwp_reg (ils_cons rfl (iop_box' (cs := [.int _ _, .bool _, .int _ _, .int _ _, .int _ _, .int _ _, .int _ _, .int _ _, .slice _ _, .str _]) 0 rfl rfl (by decide) rfl (sv (d := .agg [.int _ _, .bool _, .int _ _, .int _ _, .int _ _, .int _ _, .int _ _, .int _ _, .slice _ _, .str _]) rfl) rfl rfl) <|
    ils_cons rfl (iop_box' (cs := [.int _ _, .bool _, .int _ _, .int _ _, .int _ _, .int _ _, .int _ _, .int _ _, .slice _ _, .str _]) 1 rfl rfl (by decide) rfl (sv (d := .agg [.int _ _, .bool _, .int _ _, .int _ _, .int _ _, .int _ _, .int _ _, .int _ _, .slice _ _, .str _]) rfl) rfl rfl) <|
    ils_cons rfl (iop_assign rfl rfl (by decide) (sv (d := .bool false) rfl)) <|
    ils_end ?_)
  refine iwp_seq ?_
  obtain ⟨x1, hx1, h⟩ := bno_e h
  obtain ⟨x2, hx2, h⟩ := bno_e h
  obtain ⟨x3, hx3, h⟩ := bnd_e h
  refine iwp_reg (ils_cons rfl (iop_load_ra (cs := [.int _ _, .bool _, .int _ _, .int _ _, .int _ _, .int _ _, .int _ _, .int _ _, .slice _ _, .str _]) rfl rfl (by decide) Try.underlying40 ag40 ti40 (by decide) (sv (d := .ref _ _) rfl) rfl (nle rfl) rfl) <|
    ils_cons rfl (iop_call (r := .bool _) rfl rfl (by decide) cl18 (.cons (sv (d := .agg [.int _ _, .bool _, .int _ _, .int _ _, .int _ _, .int _ _, .int _ _, .int _ _, .slice _ _, .str _]) rfl) .nil) rfl (p_sennitref15_Light _ _ hx1)) <|
    ils_cons rfl (iop_not rfl rfl (by decide) (sv (d := .bool _) rfl)) <|
    ils_cons rfl (iop_move rfl rfl (by decide) (sv (d := .bool _) rfl)) <|
    ils_guard rfl rfl (.one rfl) rfl (by decide) (fun hb => (iop_load_ra (cs := [.int _ _, .bool _, .int _ _, .int _ _, .int _ _, .int _ _, .int _ _, .int _ _, .slice _ _, .str _]) rfl rfl (by decide) Try.underlying40 ag40 ti40 (by decide) (sv (d := .ref _ _) rfl) rfl (nle rfl) rfl)) <|
    ils_guard rfl rfl (.one rfl) rfl (by decide) (fun hb => (iop_call (r := .bool _) rfl rfl (by decide) cl18 (.cons (svc (d := .agg [.int _ _, .bool _, .int _ _, .int _ _, .int _ _, .int _ _, .int _ _, .int _ _, .slice _ _, .str _]) rfl hb) .nil) rfl (p_sennitref15_Light _ _ (gd_t hx2 hb)))) <|
    ils_guard rfl rfl (.one rfl) rfl (by decide) (fun hb => (iop_not rfl rfl (by decide) (svc (d := .bool _) rfl hb))) <|
    ils_cons rfl (iop_orx rfl rfl (by decide) (sv (d := .bool _) rfl) rfl rfl hx3) <|
    ils_end ?_)
  refine iwp_cond (b := _) rfl (fun hc4 => ?_) (fun hc4 => ?_)
  ·
    replace h := bif_t h hc4
    obtain ⟨x5, hx5, h⟩ := bno_e h
    refine iwp_reg (ils_cons rfl (iop_call (r := .bool _) rfl rfl (by decide) cl19 .nil rfl (p_sennitlaw15_awake  _ hx5)) <|
      ils_cons rfl (iop_assign rfl rfl (by decide) (sv (d := .bool _) rfl)) <|
      ils_end ?_)
    refine iwp_ret ?_
    refine thenQ_r ?_
    obtain rfl := Option.some.inj h
    refine ⟨.inr rfl, (.cons (sv rfl) .nil)⟩
  ·
    replace h := bif_f h hc4
    refine iwp_skip ?_
    refine thenQ_n ?_
    refine iwp_drw rfl [⟨[2], [0], [(21, .agg [.int .u8 a0.Kind, .bool a0.Flag, .int .i64 a0.Stream, .int .i64 a0.Offset, .int .i64 a0.Dep, .int .i64 a0.Weight, .int .i64 a0.N, .int .i64 a0.Code, .slice false (a0.Pairs.map E_api_Pair.d), .str a0.Data])], []⟩,
      ⟨[3], [1], [(22, .agg [.int .u8 a1.Kind, .bool a1.Flag, .int .i64 a1.Stream, .int .i64 a1.Offset, .int .i64 a1.Dep, .int .i64 a1.Weight, .int .i64 a1.N, .int .i64 a1.Code, .slice false (a1.Pairs.map E_api_Pair.d), .str a1.Data])], []⟩,
      ⟨[], [2], [(5, .ref 2 0)], [(2, .blk 42 [.int .u8 0, .bool false, .int .i64 0, .int .i64 0, .int .i64 0, .int .i64 0, .int .i64 0, .int .i64 0, .slice false (([] : List T_api_Pair).map E_api_Pair.d), .str []])]⟩,
      ⟨[], [3], [(6, .ref 3 0)], [(3, .blk 42 [.int .u8 0, .bool false, .int .i64 0, .int .i64 0, .int .i64 0, .int .i64 0, .int .i64 0, .int .i64 0, .slice false (([] : List T_api_Pair).map E_api_Pair.d), .str []])]⟩,
      ⟨[5, 21], [2], [], [(2, .blk 42 [.int .u8 a0.Kind, .bool a0.Flag, .int .i64 a0.Stream, .int .i64 a0.Offset, .int .i64 a0.Dep, .int .i64 a0.Weight, .int .i64 a0.N, .int .i64 a0.Code, .slice false (a0.Pairs.map E_api_Pair.d), .str a0.Data])]⟩,
      ⟨[6, 22], [3], [], [(3, .blk 42 [.int .u8 a1.Kind, .bool a1.Flag, .int .i64 a1.Stream, .int .i64 a1.Offset, .int .i64 a1.Dep, .int .i64 a1.Weight, .int .i64 a1.N, .int .i64 a1.Code, .slice false (a1.Pairs.map E_api_Pair.d), .str a1.Data])]⟩] rfl ?_ (by kernel_rfl) ?_
    · refine .cons (lop rfl rfl fun S hA => (iop_load_ra (cs := [.int _ _, .bool _, .int _ _, .int _ _, .int _ _, .int _ _, .int _ _, .int _ _, .slice _ _, .str _]) rfl rfl (by decide) Try.underlying40 ag40 ti40 (by decide) (sv (d := .ref _ _) (agr hA rfl rfl)) (agi hA rfl rfl) (nle rfl) rfl)) ?_
      refine .cons (lop rfl rfl fun S hA => (iop_load_ra (cs := [.int _ _, .bool _, .int _ _, .int _ _, .int _ _, .int _ _, .int _ _, .int _ _, .slice _ _, .str _]) rfl rfl (by decide) Try.underlying40 ag40 ti40 (by decide) (sv (d := .ref _ _) (agr hA rfl rfl)) (agi hA rfl rfl) (nle rfl) rfl)) ?_
      refine .cons (lop rfl rfl fun S hA => (iop_allocS (cs := [.int _ _, .bool _, .int _ _, .int _ _, .int _ _, .int _ _, .int _ _, .int _ _, .nils, .str _]) (cs' := [.int .u8 0, .bool false, .int .i64 0, .int .i64 0, .int .i64 0, .int .i64 0, .int .i64 0, .int .i64 0, .slice false (([] : List T_api_Pair).map E_api_Pair.d), .str []]) 2 rfl rfl (by decide) (agi hA rfl rfl) ti42 rfl rfl (.cons (.refl _) (.cons (.refl _) (.cons (.refl _) (.cons (.refl _) (.cons (.refl _) (.cons (.refl _) (.cons (.refl _) (.cons (.refl _) (.cons (.nils _) (.cons (.refl _) .nil)))))))))))) ?_
      refine .cons (lop rfl rfl fun S hA => (iop_allocS (cs := [.int _ _, .bool _, .int _ _, .int _ _, .int _ _, .int _ _, .int _ _, .int _ _, .nils, .str _]) (cs' := [.int .u8 0, .bool false, .int .i64 0, .int .i64 0, .int .i64 0, .int .i64 0, .int .i64 0, .int .i64 0, .slice false (([] : List T_api_Pair).map E_api_Pair.d), .str []]) 3 rfl rfl (by decide) (agi hA rfl rfl) ti42 rfl rfl (.cons (.refl _) (.cons (.refl _) (.cons (.refl _) (.cons (.refl _) (.cons (.refl _) (.cons (.refl _) (.cons (.refl _) (.cons (.refl _) (.cons (.nils _) (.cons (.refl _) .nil)))))))))))) ?_
      refine .cons (lop rfl rfl fun S hA => (iop_store (ds' := [.int _ _, .bool _, .int _ _, .int _ _, .int _ _, .int _ _, .int _ _, .int _ _, .slice _ _, .str _]) rfl rfl ti42 (sv (d := .ref _ _) (agr hA rfl rfl)) (agi hA rfl rfl) (sv (d := .agg [.int _ _, .bool _, .int _ _, .int _ _, .int _ _, .int _ _, .int _ _, .int _ _, .slice _ _, .str _]) (agr hA rfl rfl)) rfl rfl rfl (nle rfl) rfl)) ?_
      refine .cons (lop rfl rfl fun S hA => (iop_store (ds' := [.int _ _, .bool _, .int _ _, .int _ _, .int _ _, .int _ _, .int _ _, .int _ _, .slice _ _, .str _]) rfl rfl ti42 (sv (d := .ref _ _) (agr hA rfl rfl)) (agi hA rfl rfl) (sv (d := .agg [.int _ _, .bool _, .int _ _, .int _ _, .int _ _, .int _ _, .int _ _, .int _ _, .slice _ _, .str _]) (agr hA rfl rfl)) rfl rfl rfl (nle rfl) rfl)) ?_
      exact .nil
    obtain ⟨x6, hx6, h⟩ := bno_e h
    refine iwp_reg (ils_cons rfl (iop_load_ra (cs := [.int _ _, .bool _, .int _ _, .int _ _, .int _ _, .int _ _, .int _ _, .int _ _, .slice _ _, .str _]) rfl rfl (by decide) Try.underlying42 ag42 ti42 (by decide) (sv (d := .ref _ _) rfl) rfl (nle rfl) rfl) <|
      ils_cons rfl (iop_call (r := .tuple [.str _, .int _ _]) rfl rfl (by decide) cl20 (.cons (sv (d := .agg [.int _ _, .bool _, .int _ _, .int _ _, .int _ _, .int _ _, .int _ _, .int _ _, .slice _ _, .str _]) rfl) .nil) rfl (p_frame_Put _ _ hx6)) <|
      ils_cons rfl (iop_move rfl rfl (by decide) (sv (d := .tuple [.str _, .int _ _]) rfl)) <|
      ils_cons rfl (iop_extract (d := .str _) rfl rfl (by decide) (sv (d := .tuple [.str _, .int _ _]) rfl) rfl) <|
      ils_cons rfl (iop_extract (d := .int _ _) rfl rfl (by decide) (sv (d := .tuple [.str _, .int _ _]) rfl) rfl) <|
      ils_cons rfl (iop_assign rfl rfl (by decide) (sv (d := .str _) rfl)) <|
      ils_cons rfl (iop_assign rfl rfl (by decide) (sv (d := .int _ _) rfl)) <|
      ils_end ?_)
    obtain ⟨x7, hx7, h⟩ := bno_e h
    refine iwp_reg (ils_cons rfl (iop_load_ra (cs := [.int _ _, .bool _, .int _ _, .int _ _, .int _ _, .int _ _, .int _ _, .int _ _, .slice _ _, .str _]) rfl rfl (by decide) Try.underlying42 ag42 ti42 (by decide) (sv (d := .ref _ _) rfl) rfl (nle rfl) rfl) <|
      ils_cons rfl (iop_call (r := .tuple [.str _, .int _ _]) rfl rfl (by decide) cl20 (.cons (sv (d := .agg [.int _ _, .bool _, .int _ _, .int _ _, .int _ _, .int _ _, .int _ _, .int _ _, .slice _ _, .str _]) rfl) .nil) rfl (p_frame_Put _ _ hx7)) <|
      ils_cons rfl (iop_move rfl rfl (by decide) (sv (d := .tuple [.str _, .int _ _]) rfl)) <|
      ils_cons rfl (iop_extract (d := .str _) rfl rfl (by decide) (sv (d := .tuple [.str _, .int _ _]) rfl) rfl) <|
      ils_cons rfl (iop_extract (d := .int _ _) rfl rfl (by decide) (sv (d := .tuple [.str _, .int _ _]) rfl) rfl) <|
      ils_cons rfl (iop_assign rfl rfl (by decide) (sv (d := .str _) rfl)) <|
      ils_cons rfl (iop_assign rfl rfl (by decide) (sv (d := .int _ _) rfl)) <|
      ils_end ?_)
    refine iwp_seq ?_
    obtain ⟨x8, hx8, h⟩ := bnd_e h
    obtain ⟨x9, hx9, h⟩ := bnd_e h
    obtain ⟨x10, hx10, h⟩ := bnd_e h
    refine iwp_reg (ils_cons rfl (iop_move rfl rfl (by decide) (sv (d := .int _ _) rfl)) <|
      ils_cons rfl (iop_cmpx rfl rfl (by decide) (sv (d := .int _ _) rfl) (sv (d := .int _ 0) rfl) rfl hx8) <|
      ils_cons rfl (iop_move rfl rfl (by decide) (sv (d := .bool _) rfl)) <|
      ils_guard rfl rfl (.one rfl) rfl (by decide) (fun hb => (iop_move rfl rfl (by decide) (sv (d := .int _ _) rfl))) <|
      ils_guard rfl rfl (.one rfl) rfl (by decide) (fun hb => (iop_cmpx rfl rfl (by decide) (svc (d := .int _ _) rfl hb) (sv (d := .int _ 0) rfl) rfl hx9)) <|
      ils_cons rfl (iop_orx rfl rfl (by decide) (sv (d := .bool _) rfl) rfl rfl hx10) <|
      ils_end ?_)
    refine iwp_cond (b := _) rfl (fun hc11 => ?_) (fun hc11 => ?_)
    ·
      replace h := bif_t h hc11
      obtain ⟨x12, hx12, h⟩ := bno_e h
      obtain ⟨x13, hx13, h⟩ := bnd_e h
      obtain ⟨x14, hx14, h⟩ := bno_e h
      obtain ⟨x15, hx15, h⟩ := bnd_e h
      obtain ⟨x16, hx16, h⟩ := bnd_e h
      obtain ⟨x17, hx17, h⟩ := bno_e h
      obtain ⟨x18, hx18, h⟩ := bnd_e h
      refine iwp_reg (ils_cons rfl (iop_load_ra (cs := [.int _ _, .bool _, .int _ _, .int _ _, .int _ _, .int _ _, .int _ _, .int _ _, .slice _ _, .str _]) rfl rfl (by decide) Try.underlying42 ag42 ti42 (by decide) (sv (d := .ref _ _) rfl) rfl (nle rfl) rfl) <|
        ils_cons rfl (iop_call (r := .int _ _) rfl rfl (by decide) cl22 (.cons (sv (d := .agg [.int _ _, .bool _, .int _ _, .int _ _, .int _ _, .int _ _, .int _ _, .int _ _, .slice _ _, .str _]) rfl) .nil) rfl (p_frame_Check _ _ hx12)) <|
        ils_cons rfl (iop_move rfl rfl (by decide) (sv (d := .int _ _) rfl)) <|
        ils_cons rfl (iop_cmpx rfl rfl (by decide) (sv (d := .int _ _) rfl) (sv (d := .int _ _) rfl) rfl hx13) <|
        ils_cons rfl (iop_move rfl rfl (by decide) (sv (d := .bool _) rfl)) <|
        ils_guard rfl rfl (.one rfl) rfl (by decide) (fun hb => (iop_load_ra (cs := [.int _ _, .bool _, .int _ _, .int _ _, .int _ _, .int _ _, .int _ _, .int _ _, .slice _ _, .str _]) rfl rfl (by decide) Try.underlying42 ag42 ti42 (by decide) (sv (d := .ref _ _) rfl) rfl (nle rfl) rfl)) <|
        ils_guard rfl rfl (.one rfl) rfl (by decide) (fun hb => (iop_call (r := .int _ _) rfl rfl (by decide) cl22 (.cons (svc (d := .agg [.int _ _, .bool _, .int _ _, .int _ _, .int _ _, .int _ _, .int _ _, .int _ _, .slice _ _, .str _]) rfl hb) .nil) rfl (p_frame_Check _ _ (gd_t hx14 hb)))) <|
        ils_guard rfl rfl (.one rfl) rfl (by decide) (fun hb => (iop_move rfl rfl (by decide) (sv (d := .int _ _) rfl))) <|
        ils_guard rfl rfl (.one rfl) rfl (by decide) (fun hb => (iop_cmpx rfl rfl (by decide) (svc (d := .int _ _) rfl hb) (svc (d := .int _ _) rfl hb) rfl hx15)) <|
        ils_cons rfl (iop_andx rfl rfl (by decide) (sv (d := .bool _) rfl) rfl rfl hx16) <|
        ils_cons rfl (iop_move rfl rfl (by decide) (sv (d := .bool _) rfl)) <|
        ils_guard rfl rfl (.one rfl) rfl (by decide) (fun hb => (iop_call (r := .bool _) rfl rfl (by decide) cl19 .nil rfl (p_sennitlaw15_awake  _ (gd_t hx17 hb)))) <|
        ils_cons rfl (iop_andx rfl rfl (by decide) (sv (d := .bool _) rfl) rfl rfl hx18) <|
        ils_cons rfl (iop_assign rfl rfl (by decide) (sv (d := .bool _) rfl)) <|
        ils_end ?_)
      refine iwp_ret ?_
      refine thenQ_r ?_
      obtain rfl := Option.some.inj h
      refine ⟨.inr rfl, (.cons (sv rfl) .nil)⟩
    ·
      replace h := bif_f h hc11
      refine iwp_skip ?_
      refine thenQ_n ?_
      obtain ⟨x19, hx19, h⟩ := bnd_e h
      obtain ⟨x20, hx20, h⟩ := bno_e h
      obtain ⟨x21, hx21, h⟩ := bnd_e h
      obtain ⟨x22, hx22, h⟩ := bnd_e h
      refine iwp_reg (ils_cons rfl (iop_move rfl rfl (by decide) (sv (d := .str _) rfl)) <|
        ils_cons rfl (iop_len_str rfl rfl (by decide) Try.underlying9 (sv (d := .str _) rfl) rfl) <|
        ils_cons rfl (iop_move rfl rfl (by decide) (sv (d := .str _) rfl)) <|
        ils_cons rfl (iop_len_str rfl rfl (by decide) Try.underlying9 (sv (d := .str _) rfl) rfl) <|
        ils_cons rfl (iop_cmpx rfl rfl (by decide) (sv (d := .int _ _) rfl) (sv (d := .int _ _) rfl) rfl hx19) <|
        ils_cons rfl (iop_move rfl rfl (by decide) (sv (d := .bool _) rfl)) <|
        ils_guard rfl rfl (.one rfl) rfl (by decide) (fun hb => (iop_move rfl rfl (by decide) (sv (d := .str _) rfl))) <|
        ils_guard rfl rfl (.one rfl) rfl (by decide) (fun hb => (iop_move rfl rfl (by decide) (sv (d := .str _) rfl))) <|
        ils_guard rfl rfl (.one rfl) rfl (by decide) (fun hb => (iop_len_str rfl rfl (by decide) Try.underlying9 (svc (d := .str _) rfl hb) rfl)) <|
        ils_guard rfl rfl (.one rfl) rfl (by decide) (fun hb => (iop_cutS rfl rfl (by decide) Try.underlying9 (svc (d := .str _) rfl hb) rfl ⟨_, (svc (d := .int _ _) rfl hb)⟩ (gd_t hx20 hb))) <|
        ils_guard rfl rfl (.one rfl) rfl (by decide) (fun hb => (iop_move rfl rfl (by decide) (sv (d := .str _) rfl))) <|
        ils_guard rfl rfl (.one rfl) rfl (by decide) (fun hb => (iop_strx rfl rfl (by decide) (svc (d := .str _) rfl hb) (svc (d := .str _) rfl hb) rfl hx21)) <|
        ils_cons rfl (iop_andx rfl rfl (by decide) (sv (d := .bool _) rfl) rfl rfl hx22) <|
        ils_cons rfl (iop_assign rfl rfl (by decide) (sv (d := .bool _) rfl)) <|
        ils_end ?_)
      obtain ⟨x23, hx23, h⟩ := bnd_e h
      obtain ⟨x24, hx24, h⟩ := bno_e h
      obtain ⟨x25, hx25, h⟩ := bnd_e h
      obtain ⟨x26, hx26, h⟩ := bno_e h
      obtain ⟨x27, hx27, h⟩ := bnd_e h
      obtain ⟨x28, hx28, h⟩ := bnd_e h
      obtain ⟨x29, hx29, h⟩ := bno_e h
      obtain ⟨x30, hx30, h⟩ := bnd_e h
      obtain ⟨x31, hx31, h⟩ := bnd_e h
      obtain ⟨x32, hx32, h⟩ := bno_e h
      obtain ⟨x33, hx33, h⟩ := bnd_e h
      refine iwp_reg (ils_cons rfl (iop_move rfl rfl (by decide) (sv (d := .str _) rfl)) <|
        ils_cons rfl (iop_move rfl rfl (by decide) (sv (d := .str _) rfl)) <|
        ils_cons rfl (iop_strx rfl rfl (by decide) (sv (d := .str _) rfl) (sv (d := .str _) rfl) rfl hx23) <|
        ils_cons rfl (iop_load_ra (cs := [.int _ _, .bool _, .int _ _, .int _ _, .int _ _, .int _ _, .int _ _, .int _ _, .slice _ _, .str _]) rfl rfl (by decide) Try.underlying42 ag42 ti42 (by decide) (sv (d := .ref _ _) rfl) rfl (nle rfl) rfl) <|
        ils_cons rfl (iop_load_ra (cs := [.int _ _, .bool _, .int _ _, .int _ _, .int _ _, .int _ _, .int _ _, .int _ _, .slice _ _, .str _]) rfl rfl (by decide) Try.underlying42 ag42 ti42 (by decide) (sv (d := .ref _ _) rfl) rfl (nle rfl) rfl) <|
        ils_cons rfl (iop_call (r := .bool _) rfl rfl (by decide) cl26 (.cons (sv (d := .agg [.int _ _, .bool _, .int _ _, .int _ _, .int _ _, .int _ _, .int _ _, .int _ _, .slice _ _, .str _]) rfl) (.cons (sv (d := .agg [.int _ _, .bool _, .int _ _, .int _ _, .int _ _, .int _ _, .int _ _, .int _ _, .slice _ _, .str _]) rfl) .nil)) rfl (p_frame_Same _ _ _ hx24)) <|
        ils_cons rfl (iop_eqbx rfl rfl (by decide) Try.underlying4 (sv (d := .bool _) rfl) (sv (d := .bool _) rfl) hx25) <|
        ils_cons rfl (iop_move rfl rfl (by decide) (sv (d := .bool _) rfl)) <|
        ils_guard rfl rfl (.one rfl) rfl (by decide) (fun hb => (iop_move rfl rfl (by decide) (sv (d := .bool _) rfl))) <|
        ils_guard rfl rfl (.one rfl) rfl (by decide) (fun hb => (iop_load_ra (cs := [.int _ _, .bool _, .int _ _, .int _ _, .int _ _, .int _ _, .int _ _, .int _ _, .slice _ _, .str _]) rfl rfl (by decide) Try.underlying42 ag42 ti42 (by decide) (sv (d := .ref _ _) rfl) rfl (nle rfl) rfl)) <|
        ils_guard rfl rfl (.one rfl) rfl (by decide) (fun hb => (iop_load_ra (cs := [.int _ _, .bool _, .int _ _, .int _ _, .int _ _, .int _ _, .int _ _, .int _ _, .slice _ _, .str _]) rfl rfl (by decide) Try.underlying42 ag42 ti42 (by decide) (sv (d := .ref _ _) rfl) rfl (nle rfl) rfl)) <|
        ils_guard rfl rfl (.one rfl) rfl (by decide) (fun hb => (iop_call (r := .bool _) rfl rfl (by decide) cl26 (.cons (svc (d := .agg [.int _ _, .bool _, .int _ _, .int _ _, .int _ _, .int _ _, .int _ _, .int _ _, .slice _ _, .str _]) rfl hb) (.cons (svc (d := .agg [.int _ _, .bool _, .int _ _, .int _ _, .int _ _, .int _ _, .int _ _, .int _ _, .slice _ _, .str _]) rfl hb) .nil)) rfl (p_frame_Same _ _ _ (gd_t hx26 hb)))) <|
        ils_guard rfl rfl (.one rfl) rfl (by decide) (fun hb => (iop_eqbx rfl rfl (by decide) Try.underlying4 (svc (d := .bool _) rfl hb) (svc (d := .bool _) rfl hb) hx27)) <|
        ils_cons rfl (iop_andx rfl rfl (by decide) (sv (d := .bool _) rfl) rfl rfl hx28) <|
        ils_cons rfl (iop_move rfl rfl (by decide) (sv (d := .bool _) rfl)) <|
        ils_guard rfl rfl (.one rfl) rfl (by decide) (fun hb => (iop_load_ra (cs := [.int _ _, .bool _, .int _ _, .int _ _, .int _ _, .int _ _, .int _ _, .int _ _, .slice _ _, .str _]) rfl rfl (by decide) Try.underlying42 ag42 ti42 (by decide) (sv (d := .ref _ _) rfl) rfl (nle rfl) rfl)) <|
        ils_guard rfl rfl (.one rfl) rfl (by decide) (fun hb => (iop_call (r := .int _ _) rfl rfl (by decide) cl24 (.cons (svc (d := .agg [.int _ _, .bool _, .int _ _, .int _ _, .int _ _, .int _ _, .int _ _, .int _ _, .slice _ _, .str _]) rfl hb) .nil) rfl (p_frame_Size _ _ (gd_t hx29 hb)))) <|
        ils_guard rfl rfl (.one rfl) rfl (by decide) (fun hb => (iop_move rfl rfl (by decide) (sv (d := .str _) rfl))) <|
        ils_guard rfl rfl (.one rfl) rfl (by decide) (fun hb => (iop_len_str rfl rfl (by decide) Try.underlying9 (svc (d := .str _) rfl hb) rfl)) <|
        ils_guard rfl rfl (.one rfl) rfl (by decide) (fun hb => (iop_cmpx rfl rfl (by decide) (svc (d := .int _ _) rfl hb) (svc (d := .int _ _) rfl hb) rfl hx30)) <|
        ils_cons rfl (iop_andx rfl rfl (by decide) (sv (d := .bool _) rfl) rfl rfl hx31) <|
        ils_cons rfl (iop_move rfl rfl (by decide) (sv (d := .bool _) rfl)) <|
        ils_guard rfl rfl (.one rfl) rfl (by decide) (fun hb => (iop_call (r := .bool _) rfl rfl (by decide) cl19 .nil rfl (p_sennitlaw15_awake  _ (gd_t hx32 hb)))) <|
        ils_cons rfl (iop_andx rfl rfl (by decide) (sv (d := .bool _) rfl) rfl rfl hx33) <|
        ils_cons rfl (iop_assign rfl rfl (by decide) (sv (d := .bool _) rfl)) <|
        ils_end ?_)
      refine iwp_ret ?_
      obtain rfl := Option.some.inj h
      refine ⟨.inr rfl, (.cons (sv rfl) .nil)⟩
end Go.Proofs.Ytleninhggapmeaa
