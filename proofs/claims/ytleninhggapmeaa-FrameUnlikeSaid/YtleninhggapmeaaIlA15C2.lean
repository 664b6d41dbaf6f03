/-
  A part of the proof: rules and plain facts. No condition.
-/
import Derived.Test.YtleninhggapmeaaProg
import Derived.KernelRfl
import Derived.Test.YtleninhggapmeaaIlZ
import Derived.Test.YtleninhggapmeaaIlA15C1
set_option linter.all false
set_option linter.unusedSimpArgs false
set_option linter.unusedVariables false
open Go Go.IL Go.Fn Go.Proofs
namespace Go.Proofs.Ytleninhggapmeaa
theorem ti40 : TI Try.prog 40 (some (.agg #[.int .u8 0, .bool false, .int .i64 0, .int .i64 0, .int .i64 0, .int .i64 0, .int .i64 0, .int .i64 0, .slice none 0 0, .string ⟨#[]⟩])) 10 96 := by unfold TI; kernel_rfl
theorem ag40 : aggOf Try.prog 40 = true := by kernel_rfl
theorem cl18 : Callable Try.prog 18 := ⟨Try.f18, Try.func18, rfl, rfl⟩
theorem cl19 : Callable Try.prog 19 := ⟨Try.f19, Try.func19, rfl, rfl⟩
theorem cl20 : Callable Try.prog 20 := ⟨Try.f20, Try.func20, rfl, rfl⟩
theorem cl21 : Callable Try.prog 21 := ⟨Try.f21, Try.func21, rfl, rfl⟩
theorem cl23 : Callable Try.prog 23 := ⟨Try.f23, Try.func23, rfl, rfl⟩
theorem cl24 : Callable Try.prog 24 := ⟨Try.f24, Try.func24, rfl, rfl⟩
theorem cl25 : Callable Try.prog 25 := ⟨Try.f25, Try.func25, rfl, rfl⟩
theorem cl27 : Callable Try.prog 27 := ⟨Try.f27, Try.func27, rfl, rfl⟩
theorem cl28 : Callable Try.prog 28 := ⟨Try.f28, Try.func28, rfl, rfl⟩
theorem cl35 : Callable Try.prog 35 := ⟨Try.f35, Try.func35, rfl, rfl⟩
theorem cl36 : Callable Try.prog 36 := ⟨Try.f36, Try.func36, rfl, rfl⟩
theorem cl40 : Callable Try.prog 40 := ⟨Try.f40, Try.func40, rfl, rfl⟩
theorem cl41 : Callable Try.prog 41 := ⟨Try.f41, Try.func41, rfl, rfl⟩
theorem cl42 : Callable Try.prog 42 := ⟨Try.f42, Try.func42, rfl, rfl⟩
theorem cl44 : Callable Try.prog 44 := ⟨Try.f44, Try.func44, rfl, rfl⟩
theorem cl45 : Callable Try.prog 45 := ⟨Try.f45, Try.func45, rfl, rfl⟩
theorem cl46 : Callable Try.prog 46 := ⟨Try.f46, Try.func46, rfl, rfl⟩
theorem cl54 : Callable Try.prog 54 := ⟨Try.f54, Try.func54, rfl, rfl⟩
theorem cl55 : Callable Try.prog 55 := ⟨Try.f55, Try.func55, rfl, rfl⟩
theorem cl56 : Callable Try.prog 56 := ⟨Try.f56, Try.func56, rfl, rfl⟩
theorem cl57 : Callable Try.prog 57 := ⟨Try.f57, Try.func57, rfl, rfl⟩
theorem cl62 : Callable Try.prog 62 := ⟨Try.f62, Try.func62, rfl, rfl⟩
theorem cl63 : Callable Try.prog 63 := ⟨Try.f63, Try.func63, rfl, rfl⟩
theorem cl64 : Callable Try.prog 64 := ⟨Try.f64, Try.func64, rfl, rfl⟩
theorem cl66 : Callable Try.prog 66 := ⟨Try.f66, Try.func66, rfl, rfl⟩
theorem cl67 : Callable Try.prog 67 := ⟨Try.f67, Try.func67, rfl, rfl⟩
theorem cl68 : Callable Try.prog 68 := ⟨Try.f68, Try.func68, rfl, rfl⟩

set_option maxRecDepth 8000 in
set_option maxHeartbeats 2000000 in
theorem p_frame_Get (a0 : (List UInt8)) (r : (T_frame_Frame × Int × Int)) (h : frame_Get a0 = some r) : PureAt Try.prog 28 [.str a0] (retD [.agg [.int .u8 r.1.Kind, .bool r.1.Flag, .int .i64 r.1.Stream, .int .i64 r.1.Offset, .int .i64 r.1.Dep, .int .i64 r.1.Weight, .int .i64 r.1.N, .int .i64 r.1.Code, .slice false (r.1.Pairs.map E_api_Pair.d), .str r.1.Data], .int .i64 r.2.1, .int .i64 r.2.2]) := by
  refine pure_of_iwp (rs := [.agg [.int .u8 r.1.Kind, .bool r.1.Flag, .int .i64 r.1.Stream, .int .i64 r.1.Offset, .int .i64 r.1.Dep, .int .i64 r.1.Weight, .int .i64 r.1.N, .int .i64 r.1.Code, .slice false (r.1.Pairs.map E_api_Pair.d), .str r.1.Data], .int .i64 r.2.1, .int .i64 r.2.2]) Try.func28 rfl Try.ntmps28 (nle rfl) rfl fun O hO => ?_
  show IWP _ _ _ _ ⟨[(0, .str a0)], []⟩ _
  unfold frame_Get at h
  refine iwp_reg (ils_cons rfl (iop_allocS (cs := [.int _ _, .bool _, .int _ _, .int _ _, .int _ _, .int _ _, .int _ _, .int _ _, .nils, .str _]) (cs' := [.int .u8 0, .bool false, .int .i64 0, .int .i64 0, .int .i64 0, .int .i64 0, .int .i64 0, .int .i64 0, .slice false (([] : List T_api_Pair).map E_api_Pair.d), .str []]) 0 rfl rfl (by decide) rfl ti42 rfl rfl (.cons (.refl _) (.cons (.refl _) (.cons (.refl _) (.cons (.refl _) (.cons (.refl _) (.cons (.refl _) (.cons (.refl _) (.cons (.refl _) (.cons (.nils _) (.cons (.refl _) .nil))))))))))) <|
    ils_cons rfl (iop_assign rfl rfl (by decide) (sv (d := .int _ 0) rfl)) <|
    ils_cons rfl (iop_assign rfl rfl (by decide) (sv (d := .int _ 0) rfl)) <|
    ils_end ?_)
  obtain ⟨x1, hx1, h⟩ := bno_e h
  refine iwp_reg (ils_cons rfl (iop_move rfl rfl (by decide) (sv (d := .str _) rfl)) <|
    ils_cons rfl (iop_call (r := .tuple [.agg [.int _ _, .bool _, .int _ _, .int _ _, .int _ _, .int _ _, .int _ _, .int _ _, .slice _ _, .str _], .int _ _, .int _ _, .int _ _]) rfl rfl (by decide) cl44 (.cons (sv (d := .str _) rfl) .nil) rfl (p_frame_head _ _ hx1)) <|
    ils_cons rfl (iop_move rfl rfl (by decide) (sv (d := .tuple [.agg [.int _ _, .bool _, .int _ _, .int _ _, .int _ _, .int _ _, .int _ _, .int _ _, .slice _ _, .str _], .int _ _, .int _ _, .int _ _]) rfl)) <|
    ils_cons rfl (iop_extract (d := .agg [.int _ _, .bool _, .int _ _, .int _ _, .int _ _, .int _ _, .int _ _, .int _ _, .slice _ _, .str _]) rfl rfl (by decide) (sv (d := .tuple [.agg [.int _ _, .bool _, .int _ _, .int _ _, .int _ _, .int _ _, .int _ _, .int _ _, .slice _ _, .str _], .int _ _, .int _ _, .int _ _]) rfl) rfl) <|
    ils_cons rfl (iop_extract (d := .int _ _) rfl rfl (by decide) (sv (d := .tuple [.agg [.int _ _, .bool _, .int _ _, .int _ _, .int _ _, .int _ _, .int _ _, .int _ _, .slice _ _, .str _], .int _ _, .int _ _, .int _ _]) rfl) rfl) <|
    ils_cons rfl (iop_extract (d := .int _ _) rfl rfl (by decide) (sv (d := .tuple [.agg [.int _ _, .bool _, .int _ _, .int _ _, .int _ _, .int _ _, .int _ _, .int _ _, .slice _ _, .str _], .int _ _, .int _ _, .int _ _]) rfl) rfl) <|
    ils_cons rfl (iop_extract (d := .int _ _) rfl rfl (by decide) (sv (d := .tuple [.agg [.int _ _, .bool _, .int _ _, .int _ _, .int _ _, .int _ _, .int _ _, .int _ _, .slice _ _, .str _], .int _ _, .int _ _, .int _ _]) rfl) rfl) <|
    ils_cons rfl (iop_allocS (cs := [.int _ _, .bool _, .int _ _, .int _ _, .int _ _, .int _ _, .int _ _, .int _ _, .nils, .str _]) (cs' := [.int .u8 0, .bool false, .int .i64 0, .int .i64 0, .int .i64 0, .int .i64 0, .int .i64 0, .int .i64 0, .slice false (([] : List T_api_Pair).map E_api_Pair.d), .str []]) 1 rfl rfl (by decide) rfl ti42 rfl rfl (.cons (.refl _) (.cons (.refl _) (.cons (.refl _) (.cons (.refl _) (.cons (.refl _) (.cons (.refl _) (.cons (.refl _) (.cons (.refl _) (.cons (.nils _) (.cons (.refl _) .nil))))))))))) <|
    ils_cons rfl (iop_store (ds' := [.int _ _, .bool _, .int _ _, .int _ _, .int _ _, .int _ _, .int _ _, .int _ _, .slice _ _, .str _]) rfl rfl ti42 (sv (d := .ref _ _) rfl) rfl (sv (d := .agg [.int _ _, .bool _, .int _ _, .int _ _, .int _ _, .int _ _, .int _ _, .int _ _, .slice _ _, .str _]) rfl) rfl rfl rfl (nle rfl) rfl) <|
    ils_cons rfl (iop_assign rfl rfl (by decide) (sv (d := .int _ _) rfl)) <|
    ils_cons rfl (iop_assign rfl rfl (by decide) (sv (d := .int _ _) rfl)) <|
    ils_cons rfl (iop_assign rfl rfl (by decide) (sv (d := .int _ _) rfl)) <|
    ils_end ?_)
  refine iwp_seq ?_
  obtain ⟨x2, hx2, h⟩ := bnd_e h
  refine iwp_reg (ils_cons rfl (iop_move rfl rfl (by decide) (sv (d := .int _ _) rfl)) <|
    ils_cons rfl (iop_cmpx rfl rfl (by decide) (sv (d := .int _ _) rfl) (sv (d := .int _ 0) rfl) rfl hx2) <|
    ils_end ?_)
  refine iwp_cond (b := _) rfl (fun hc3 => ?_) (fun hc3 => ?_)
  ·
    replace h := bif_t h hc3
    refine iwp_reg (ils_cons rfl (iop_sub (d' := .agg [.int .u8 0, .bool false, .int .i64 0, .int .i64 0, .int .i64 0, .int .i64 0, .int .i64 0, .int .i64 0, .slice false (([] : List T_api_Pair).map E_api_Pair.d), .str []]) (iop_build_struct (cs := [.int _ _, .bool _, .int _ _, .int _ _, .int _ _, .int _ _, .int _ _, .int _ _, .nils, .str _]) rfl rfl (by decide) Try.underlying42 ti42 pl42 rfl .nil rfl) (.agg (.cons (.refl _) (.cons (.refl _) (.cons (.refl _) (.cons (.refl _) (.cons (.refl _) (.cons (.refl _) (.cons (.refl _) (.cons (.refl _) (.cons (.nils _) (.cons (.refl _) .nil)))))))))))) <|
      ils_cons rfl (iop_move rfl rfl (by decide) (sv (d := .int _ _) rfl)) <|
      ils_cons rfl (iop_store (ds' := [.int _ _, .bool _, .int _ _, .int _ _, .int _ _, .int _ _, .int _ _, .int _ _, .slice false (([] : List T_api_Pair).map E_api_Pair.d), .str _]) rfl rfl ti42 (sv (d := .ref _ _) rfl) rfl (sv (d := .agg [.int _ _, .bool _, .int _ _, .int _ _, .int _ _, .int _ _, .int _ _, .int _ _, .slice _ _, .str _]) rfl) rfl rfl rfl (nle rfl) rfl) <|
      ils_cons rfl (iop_assign rfl rfl (by decide) (sv (d := .int _ 0) rfl)) <|
      ils_cons rfl (iop_assign rfl rfl (by decide) (sv (d := .int _ _) rfl)) <|
      ils_end ?_)
    refine iwp_ret ?_
    refine thenQ_r ?_
    obtain rfl := Option.some.inj h
    refine ⟨.inr rfl, (.cons (resv_a rfl rfl Try.underlying42 ag42 ti42 (by decide) (nle rfl) rfl) (.cons (sv rfl) (.cons (sv rfl) .nil)))⟩
  ·
    replace h := bif_f h hc3
    refine iwp_skip ?_
    refine thenQ_n ?_
    refine iwp_seq ?_
    obtain ⟨x4, hx4, h⟩ := bno_e h
    obtain ⟨x5, hx5, h⟩ := bno_e h
    refine iwp_reg (ils_cons rfl (iop_move rfl rfl (by decide) (sv (d := .str _) rfl)) <|
      ils_cons rfl (iop_move rfl rfl (by decide) (sv (d := .int _ _) rfl)) <|
      ils_cons rfl (iop_move rfl rfl (by decide) (sv (d := .int _ _) rfl)) <|
      ils_cons rfl (iop_cutS rfl rfl (by decide) Try.underlying9 (sv (d := .str _) rfl) ⟨_, (sv (d := .int _ _) rfl)⟩ ⟨_, (sv (d := .int _ _) rfl)⟩ hx4) <|
      ils_cons rfl (iop_callh2 (r' := .bool x5.1) (H1' := [(1, .blk 42 [.int .u8 x5.2.Kind, .bool x5.2.Flag, .int .i64 x5.2.Stream, .int .i64 x5.2.Offset, .int .i64 x5.2.Dep, .int .i64 x5.2.Weight, .int .i64 x5.2.N, .int .i64 x5.2.Code, .slice false (x5.2.Pairs.map E_api_Pair.d), .str x5.2.Data])]) 2 [1] rfl rfl (by decide) cl45 (.cons (sv (d := .ref _ _) rfl) (.cons (sv (d := .str _) rfl) .nil)) rfl rfl ⟨rfl, rfl, by decide, rfl, List.forall_mem_cons.2 ⟨⟨rfl, rfl, rfl, rfl⟩, List.forall_mem_nil _⟩⟩ (p_frame_Frame_read_h _ _ _ hx5) rfl rfl (List.forall_mem_cons.2 ⟨⟨rfl, rfl⟩, List.forall_mem_nil _⟩) rfl) <|
      ils_cons rfl (iop_not rfl rfl (by decide) (sv (d := .bool _) rfl)) <|
      ils_end ?_)
    refine iwp_cond (b := _) rfl (fun hc6 => ?_) (fun hc6 => ?_)
    ·
      replace h := bif_t h hc6
      refine iwp_reg (ils_cons rfl (iop_sub (d' := .agg [.int .u8 0, .bool false, .int .i64 0, .int .i64 0, .int .i64 0, .int .i64 0, .int .i64 0, .int .i64 0, .slice false (([] : List T_api_Pair).map E_api_Pair.d), .str []]) (iop_build_struct (cs := [.int _ _, .bool _, .int _ _, .int _ _, .int _ _, .int _ _, .int _ _, .int _ _, .nils, .str _]) rfl rfl (by decide) Try.underlying42 ti42 pl42 rfl .nil rfl) (.agg (.cons (.refl _) (.cons (.refl _) (.cons (.refl _) (.cons (.refl _) (.cons (.refl _) (.cons (.refl _) (.cons (.refl _) (.cons (.refl _) (.cons (.nils _) (.cons (.refl _) .nil)))))))))))) <|
        ils_cons rfl (iop_store (ds' := [.int _ _, .bool _, .int _ _, .int _ _, .int _ _, .int _ _, .int _ _, .int _ _, .slice false (([] : List T_api_Pair).map E_api_Pair.d), .str _]) rfl rfl ti42 (sv (d := .ref _ _) rfl) rfl (sv (d := .agg [.int _ _, .bool _, .int _ _, .int _ _, .int _ _, .int _ _, .int _ _, .int _ _, .slice _ _, .str _]) rfl) rfl rfl rfl (nle rfl) rfl) <|
        ils_cons rfl (iop_assign rfl rfl (by decide) (sv (d := .int _ 0) rfl)) <|
        ils_cons rfl (iop_assign rfl rfl (by decide) (sv (d := .int _ 4) rfl)) <|
        ils_end ?_)
      refine iwp_ret ?_
      refine thenQ_r ?_
      obtain rfl := Option.some.inj h
      refine ⟨.inr rfl, (.cons (resv_a rfl rfl Try.underlying42 ag42 ti42 (by decide) (nle rfl) rfl) (.cons (sv rfl) (.cons (sv rfl) .nil)))⟩
    ·
      replace h := bif_f h hc6
      refine iwp_skip ?_
      refine thenQ_n ?_
      refine iwp_seq ?_
      obtain ⟨x7, hx7, h⟩ := bno_e h
      refine iwp_reg (ils_cons rfl (iop_load_ra (cs := [.int _ _, .bool _, .int _ _, .int _ _, .int _ _, .int _ _, .int _ _, .int _ _, .slice _ _, .str _]) rfl rfl (by decide) Try.underlying42 ag42 ti42 (by decide) (sv (d := .ref _ _) rfl) rfl (nle rfl) rfl) <|
        ils_cons rfl (iop_call (r := .int _ _) rfl rfl (by decide) cl22 (.cons (sv (d := .agg [.int _ _, .bool _, .int _ _, .int _ _, .int _ _, .int _ _, .int _ _, .int _ _, .slice _ _, .str _]) rfl) .nil) rfl (p_frame_Check _ _ hx7)) <|
        ils_cons rfl (iop_assign rfl rfl (by decide) (sv (d := .int _ _) rfl)) <|
        ils_end ?_)
      obtain ⟨x8, hx8, h⟩ := bnd_e h
      refine iwp_reg (ils_cons rfl (iop_move rfl rfl (by decide) (sv (d := .int _ _) rfl)) <|
        ils_cons rfl (iop_cmpx rfl rfl (by decide) (sv (d := .int _ _) rfl) (sv (d := .int _ 0) rfl) rfl hx8) <|
        ils_end ?_)
      refine iwp_cond (b := _) rfl (fun hc9 => ?_) (fun hc9 => ?_)
      ·
        replace h := bif_t h hc9
        refine iwp_reg (ils_cons rfl (iop_sub (d' := .agg [.int .u8 0, .bool false, .int .i64 0, .int .i64 0, .int .i64 0, .int .i64 0, .int .i64 0, .int .i64 0, .slice false (([] : List T_api_Pair).map E_api_Pair.d), .str []]) (iop_build_struct (cs := [.int _ _, .bool _, .int _ _, .int _ _, .int _ _, .int _ _, .int _ _, .int _ _, .nils, .str _]) rfl rfl (by decide) Try.underlying42 ti42 pl42 rfl .nil rfl) (.agg (.cons (.refl _) (.cons (.refl _) (.cons (.refl _) (.cons (.refl _) (.cons (.refl _) (.cons (.refl _) (.cons (.refl _) (.cons (.refl _) (.cons (.nils _) (.cons (.refl _) .nil)))))))))))) <|
          ils_cons rfl (iop_move rfl rfl (by decide) (sv (d := .int _ _) rfl)) <|
          ils_cons rfl (iop_store (ds' := [.int _ _, .bool _, .int _ _, .int _ _, .int _ _, .int _ _, .int _ _, .int _ _, .slice false (([] : List T_api_Pair).map E_api_Pair.d), .str _]) rfl rfl ti42 (sv (d := .ref _ _) rfl) rfl (sv (d := .agg [.int _ _, .bool _, .int _ _, .int _ _, .int _ _, .int _ _, .int _ _, .int _ _, .slice _ _, .str _]) rfl) rfl rfl rfl (nle rfl) rfl) <|
          ils_cons rfl (iop_assign rfl rfl (by decide) (sv (d := .int _ 0) rfl)) <|
          ils_cons rfl (iop_assign rfl rfl (by decide) (sv (d := .int _ _) rfl)) <|
          ils_end ?_)
        refine iwp_ret ?_
        refine thenQ_r ?_
        obtain rfl := Option.some.inj h
        refine ⟨.inr rfl, (.cons (resv_a rfl rfl Try.underlying42 ag42 ti42 (by decide) (nle rfl) rfl) (.cons (sv rfl) (.cons (sv rfl) .nil)))⟩
      ·
        replace h := bif_f h hc9
        refine iwp_skip ?_
        refine thenQ_n ?_
        refine iwp_reg (ils_cons rfl (iop_load_ra (cs := [.int _ _, .bool _, .int _ _, .int _ _, .int _ _, .int _ _, .int _ _, .int _ _, .slice _ _, .str _]) rfl rfl (by decide) Try.underlying42 ag42 ti42 (by decide) (sv (d := .ref _ _) rfl) rfl (nle rfl) rfl) <|
          ils_cons rfl (iop_move rfl rfl (by decide) (sv (d := .int _ _) rfl)) <|
          ils_cons rfl (iop_store (ds' := [.int _ _, .bool _, .int _ _, .int _ _, .int _ _, .int _ _, .int _ _, .int _ _, .slice _ _, .str _]) rfl rfl ti42 (sv (d := .ref _ _) rfl) rfl (sv (d := .agg [.int _ _, .bool _, .int _ _, .int _ _, .int _ _, .int _ _, .int _ _, .int _ _, .slice _ _, .str _]) rfl) rfl rfl rfl (nle rfl) rfl) <|
          ils_cons rfl (iop_assign rfl rfl (by decide) (sv (d := .int _ _) rfl)) <|
          ils_cons rfl (iop_assign rfl rfl (by decide) (sv (d := .int _ 0) rfl)) <|
          ils_end ?_)
        refine iwp_ret ?_
        obtain rfl := Option.some.inj h
        refine ⟨.inr rfl, (.cons (resv_a rfl rfl Try.underlying42 ag42 ti42 (by decide) (nle rfl) rfl) (.cons (sv rfl) (.cons (sv rfl) .nil)))⟩

set_option maxRecDepth 8000 in
set_option maxHeartbeats 2000000 in
theorem p_frame_Size (a0 : T_frame_Frame) (r : Int) (h : frame_Size a0 = some r) : PureAt Try.prog 24 [.agg [.int .u8 a0.Kind, .bool a0.Flag, .int .i64 a0.Stream, .int .i64 a0.Offset, .int .i64 a0.Dep, .int .i64 a0.Weight, .int .i64 a0.N, .int .i64 a0.Code, .slice false (a0.Pairs.map E_api_Pair.d), .str a0.Data]] (.int .i64 r) := by
  refine pure_of_iwp (rs := [.int .i64 r]) Try.func24 rfl Try.ntmps24 (nle rfl) rfl fun O hO => ?_
  show IWP _ _ _ _ ⟨[(0, .agg [.int .u8 a0.Kind, .bool a0.Flag, .int .i64 a0.Stream, .int .i64 a0.Offset, .int .i64 a0.Dep, .int .i64 a0.Weight, .int .i64 a0.N, .int .i64 a0.Code, .slice false (a0.Pairs.map E_api_Pair.d), .str a0.Data])], []⟩ _
  unfold frame_Size at h
  refine iwp_reg (ils_cons rfl (iop_box' (cs := [.int _ _, .bool _, .int _ _, .int _ _, .int _ _, .int _ _, .int _ _, .int _ _, .slice _ _, .str _]) 0 rfl rfl (by decide) rfl (sv (d := .agg [.int _ _, .bool _, .int _ _, .int _ _, .int _ _, .int _ _, .int _ _, .int _ _, .slice _ _, .str _]) rfl) rfl rfl) <|
    ils_cons rfl (iop_assign rfl rfl (by decide) (sv (d := .int _ 0) rfl)) <|
    ils_end ?_)
  obtain ⟨x1, hx1, h⟩ := bno_e h
  refine iwp_reg (ils_cons rfl (iop_load_ra (cs := [.int _ _, .bool _, .int _ _, .int _ _, .int _ _, .int _ _, .int _ _, .int _ _, .slice _ _, .str _]) rfl rfl (by decide) Try.underlying42 ag42 ti42 (by decide) (sv (d := .ref _ _) rfl) rfl (nle rfl) rfl) <|
    ils_cons rfl (iop_call (r := .tuple [.str _, .int _ _]) rfl rfl (by decide) cl20 (.cons (sv (d := .agg [.int _ _, .bool _, .int _ _, .int _ _, .int _ _, .int _ _, .int _ _, .int _ _, .slice _ _, .str _]) rfl) .nil) rfl (p_frame_Put _ _ hx1)) <|
    ils_cons rfl (iop_move rfl rfl (by decide) (sv (d := .tuple [.str _, .int _ _]) rfl)) <|
    ils_cons rfl (iop_extract (d := .str _) rfl rfl (by decide) (sv (d := .tuple [.str _, .int _ _]) rfl) rfl) <|
    ils_cons rfl (iop_extract (d := .int _ _) rfl rfl (by decide) (sv (d := .tuple [.str _, .int _ _]) rfl) rfl) <|
    ils_cons rfl (iop_assign rfl rfl (by decide) (sv (d := .str _) rfl)) <|
    ils_cons rfl (iop_assign rfl rfl (by decide) (sv (d := .int _ _) rfl)) <|
    ils_end ?_)
  refine iwp_reg (ils_cons rfl (iop_move rfl rfl (by decide) (sv (d := .str _) rfl)) <|
    ils_cons rfl (iop_len_str rfl rfl (by decide) Try.underlying9 (sv (d := .str _) rfl) rfl) <|
    ils_cons rfl (iop_assign rfl rfl (by decide) (sv (d := .int _ _) rfl)) <|
    ils_end ?_)
  refine iwp_ret ?_
  obtain rfl := Option.some.inj h
  refine ⟨.inr rfl, (.cons (sv rfl) .nil)⟩

set_option maxRecDepth 8000 in
set_option maxHeartbeats 2000000 in
theorem p_sennitlaw15_awake  (r : Bool) (h : sennitlaw15_awake = some r) : PureAt Try.prog 19 [] (.bool r) := by
  refine pure_of_iwp (rs := [.bool r]) Try.func19 rfl Try.ntmps19 (nle rfl) rfl fun O hO => ?_
  show IWP _ _ _ _ ⟨[], []⟩ _
  unfold sennitlaw15_awake at h
  refine iwp_reg (ils_cons rfl (iop_assign rfl rfl (by decide) (sv (d := .bool false) rfl)) <|
    ils_end ?_)
  refine iwp_reg (ils_cons rfl (iop_sub (d' := .agg [.int .u8 3, .bool false, .int .i64 3, .int .i64 0, .int .i64 0, .int .i64 0, .int .i64 5, .int .i64 8, .slice false (([] : List T_api_Pair).map E_api_Pair.d), .str []]) (iop_build_struct (cs := [.int _ _, .bool _, .int _ _, .int _ _, .int _ _, .int _ _, .int _ _, .int _ _, .nils, .str _]) rfl rfl (by decide) Try.underlying42 ti42 pl42 rfl (.cons (sv (d := .int _ 3) rfl) (.cons (sv (d := .int _ 3) rfl) (.cons (sv (d := .int _ 5) rfl) (.cons (sv (d := .int _ 8) rfl) .nil)))) rfl) (.agg (.cons (.refl _) (.cons (.refl _) (.cons (.refl _) (.cons (.refl _) (.cons (.refl _) (.cons (.refl _) (.cons (.refl _) (.cons (.refl _) (.cons (.nils _) (.cons (.refl _) .nil)))))))))))) <|
    ils_cons rfl (iop_allocS (cs := [.int _ _, .bool _, .int _ _, .int _ _, .int _ _, .int _ _, .int _ _, .int _ _, .nils, .str _]) (cs' := [.int .u8 0, .bool false, .int .i64 0, .int .i64 0, .int .i64 0, .int .i64 0, .int .i64 0, .int .i64 0, .slice false (([] : List T_api_Pair).map E_api_Pair.d), .str []]) 0 rfl rfl (by decide) rfl ti42 rfl rfl (.cons (.refl _) (.cons (.refl _) (.cons (.refl _) (.cons (.refl _) (.cons (.refl _) (.cons (.refl _) (.cons (.refl _) (.cons (.refl _) (.cons (.nils _) (.cons (.refl _) .nil))))))))))) <|
    ils_cons rfl (iop_store (ds' := [.int _ _, .bool _, .int _ _, .int _ _, .int _ _, .int _ _, .int _ _, .int _ _, .slice false (([] : List T_api_Pair).map E_api_Pair.d), .str _]) rfl rfl ti42 (sv (d := .ref _ _) rfl) rfl (sv (d := .agg [.int _ _, .bool _, .int _ _, .int _ _, .int _ _, .int _ _, .int _ _, .int _ _, .slice _ _, .str _]) rfl) rfl rfl rfl (nle rfl) rfl) <|
    ils_end ?_)
  obtain ⟨x1, hx1, h⟩ := bno_e h
  refine iwp_reg (ils_cons rfl (iop_load_ra (cs := [.int _ _, .bool _, .int _ _, .int _ _, .int _ _, .int _ _, .int _ _, .int _ _, .slice _ _, .str _]) rfl rfl (by decide) Try.underlying42 ag42 ti42 (by decide) (sv (d := .ref _ _) rfl) rfl (nle rfl) rfl) <|
    ils_cons rfl (iop_call (r := .tuple [.str _, .int _ _]) rfl rfl (by decide) cl20 (.cons (sv (d := .agg [.int _ _, .bool _, .int _ _, .int _ _, .int _ _, .int _ _, .int _ _, .int _ _, .slice _ _, .str _]) rfl) .nil) rfl (p_frame_Put _ _ hx1)) <|
    ils_cons rfl (iop_move rfl rfl (by decide) (sv (d := .tuple [.str _, .int _ _]) rfl)) <|
    ils_cons rfl (iop_extract (d := .str _) rfl rfl (by decide) (sv (d := .tuple [.str _, .int _ _]) rfl) rfl) <|
    ils_cons rfl (iop_extract (d := .int _ _) rfl rfl (by decide) (sv (d := .tuple [.str _, .int _ _]) rfl) rfl) <|
    ils_cons rfl (iop_assign rfl rfl (by decide) (sv (d := .str _) rfl)) <|
    ils_cons rfl (iop_assign rfl rfl (by decide) (sv (d := .int _ _) rfl)) <|
    ils_end ?_)
  obtain ⟨x2, hx2, h⟩ := bno_e h
  obtain ⟨x3, hx3, h⟩ := bno_e h
  refine iwp_reg (ils_cons rfl (iop_move rfl rfl (by decide) (sv (d := .str _) rfl)) <|
    ils_cons rfl (iop_catx rfl rfl (by decide) (sv (d := .str _) rfl) (sv (d := .str [120]) rfl) hx2) <|
    ils_cons rfl (iop_call (r := .tuple [.agg [.int _ _, .bool _, .int _ _, .int _ _, .int _ _, .int _ _, .int _ _, .int _ _, .slice _ _, .str _], .int _ _, .int _ _]) rfl rfl (by decide) cl28 (.cons (sv (d := .str _) rfl) .nil) rfl (p_frame_Get _ _ hx3)) <|
    ils_cons rfl (iop_move rfl rfl (by decide) (sv (d := .tuple [.agg [.int _ _, .bool _, .int _ _, .int _ _, .int _ _, .int _ _, .int _ _, .int _ _, .slice _ _, .str _], .int _ _, .int _ _]) rfl)) <|
    ils_cons rfl (iop_extract (d := .agg [.int _ _, .bool _, .int _ _, .int _ _, .int _ _, .int _ _, .int _ _, .int _ _, .slice _ _, .str _]) rfl rfl (by decide) (sv (d := .tuple [.agg [.int _ _, .bool _, .int _ _, .int _ _, .int _ _, .int _ _, .int _ _, .int _ _, .slice _ _, .str _], .int _ _, .int _ _]) rfl) rfl) <|
    ils_cons rfl (iop_extract (d := .int _ _) rfl rfl (by decide) (sv (d := .tuple [.agg [.int _ _, .bool _, .int _ _, .int _ _, .int _ _, .int _ _, .int _ _, .int _ _, .slice _ _, .str _], .int _ _, .int _ _]) rfl) rfl) <|
    ils_cons rfl (iop_extract (d := .int _ _) rfl rfl (by decide) (sv (d := .tuple [.agg [.int _ _, .bool _, .int _ _, .int _ _, .int _ _, .int _ _, .int _ _, .int _ _, .slice _ _, .str _], .int _ _, .int _ _]) rfl) rfl) <|
    ils_cons rfl (iop_allocS (cs := [.int _ _, .bool _, .int _ _, .int _ _, .int _ _, .int _ _, .int _ _, .int _ _, .nils, .str _]) (cs' := [.int .u8 0, .bool false, .int .i64 0, .int .i64 0, .int .i64 0, .int .i64 0, .int .i64 0, .int .i64 0, .slice false (([] : List T_api_Pair).map E_api_Pair.d), .str []]) 1 rfl rfl (by decide) rfl ti42 rfl rfl (.cons (.refl _) (.cons (.refl _) (.cons (.refl _) (.cons (.refl _) (.cons (.refl _) (.cons (.refl _) (.cons (.refl _) (.cons (.refl _) (.cons (.nils _) (.cons (.refl _) .nil))))))))))) <|
    ils_cons rfl (iop_store (ds' := [.int _ _, .bool _, .int _ _, .int _ _, .int _ _, .int _ _, .int _ _, .int _ _, .slice _ _, .str _]) rfl rfl ti42 (sv (d := .ref _ _) rfl) rfl (sv (d := .agg [.int _ _, .bool _, .int _ _, .int _ _, .int _ _, .int _ _, .int _ _, .int _ _, .slice _ _, .str _]) rfl) rfl rfl rfl (nle rfl) rfl) <|
    ils_cons rfl (iop_assign rfl rfl (by decide) (sv (d := .int _ _) rfl)) <|
    ils_cons rfl (iop_assign rfl rfl (by decide) (sv (d := .int _ _) rfl)) <|
    ils_end ?_)
  obtain ⟨x4, hx4, h⟩ := bno_e h
  refine iwp_reg (ils_cons rfl (iop_call (r := .tuple [.agg [.int _ _, .bool _, .int _ _, .int _ _, .int _ _, .int _ _, .int _ _, .int _ _, .slice _ _, .str _], .int _ _, .int _ _]) rfl rfl (by decide) cl28 (.cons (sv (d := .str [5, 0]) rfl) .nil) rfl (p_frame_Get _ _ hx4)) <|
    ils_cons rfl (iop_move rfl rfl (by decide) (sv (d := .tuple [.agg [.int _ _, .bool _, .int _ _, .int _ _, .int _ _, .int _ _, .int _ _, .int _ _, .slice _ _, .str _], .int _ _, .int _ _]) rfl)) <|
    ils_cons rfl (iop_extract (d := .agg [.int _ _, .bool _, .int _ _, .int _ _, .int _ _, .int _ _, .int _ _, .int _ _, .slice _ _, .str _]) rfl rfl (by decide) (sv (d := .tuple [.agg [.int _ _, .bool _, .int _ _, .int _ _, .int _ _, .int _ _, .int _ _, .int _ _, .slice _ _, .str _], .int _ _, .int _ _]) rfl) rfl) <|
    ils_cons rfl (iop_extract (d := .int _ _) rfl rfl (by decide) (sv (d := .tuple [.agg [.int _ _, .bool _, .int _ _, .int _ _, .int _ _, .int _ _, .int _ _, .int _ _, .slice _ _, .str _], .int _ _, .int _ _]) rfl) rfl) <|
    ils_cons rfl (iop_extract (d := .int _ _) rfl rfl (by decide) (sv (d := .tuple [.agg [.int _ _, .bool _, .int _ _, .int _ _, .int _ _, .int _ _, .int _ _, .int _ _, .slice _ _, .str _], .int _ _, .int _ _]) rfl) rfl) <|
    ils_cons rfl (iop_allocS (cs := [.int _ _, .bool _, .int _ _, .int _ _, .int _ _, .int _ _, .int _ _, .int _ _, .nils, .str _]) (cs' := [.int .u8 0, .bool false, .int .i64 0, .int .i64 0, .int .i64 0, .int .i64 0, .int .i64 0, .int .i64 0, .slice false (([] : List T_api_Pair).map E_api_Pair.d), .str []]) 2 rfl rfl (by decide) rfl ti42 rfl rfl (.cons (.refl _) (.cons (.refl _) (.cons (.refl _) (.cons (.refl _) (.cons (.refl _) (.cons (.refl _) (.cons (.refl _) (.cons (.refl _) (.cons (.nils _) (.cons (.refl _) .nil))))))))))) <|
    ils_cons rfl (iop_store (ds' := [.int _ _, .bool _, .int _ _, .int _ _, .int _ _, .int _ _, .int _ _, .int _ _, .slice _ _, .str _]) rfl rfl ti42 (sv (d := .ref _ _) rfl) rfl (sv (d := .agg [.int _ _, .bool _, .int _ _, .int _ _, .int _ _, .int _ _, .int _ _, .int _ _, .slice _ _, .str _]) rfl) rfl rfl rfl (nle rfl) rfl) <|
    ils_cons rfl (iop_assign rfl rfl (by decide) (sv (d := .int _ _) rfl)) <|
    ils_cons rfl (iop_assign rfl rfl (by decide) (sv (d := .int _ _) rfl)) <|
    ils_end ?_)
  obtain ⟨x5, hx5, h⟩ := bno_e h
  refine iwp_reg (ils_cons rfl (iop_call (r := .tuple [.agg [.int _ _, .bool _, .int _ _, .int _ _, .int _ _, .int _ _, .int _ _, .int _ _, .slice _ _, .str _], .int _ _, .int _ _]) rfl rfl (by decide) cl28 (.cons (sv (d := .str [3, 0, 3, 3]) rfl) .nil) rfl (p_frame_Get _ _ hx5)) <|
    ils_cons rfl (iop_move rfl rfl (by decide) (sv (d := .tuple [.agg [.int _ _, .bool _, .int _ _, .int _ _, .int _ _, .int _ _, .int _ _, .int _ _, .slice _ _, .str _], .int _ _, .int _ _]) rfl)) <|
    ils_cons rfl (iop_extract (d := .agg [.int _ _, .bool _, .int _ _, .int _ _, .int _ _, .int _ _, .int _ _, .int _ _, .slice _ _, .str _]) rfl rfl (by decide) (sv (d := .tuple [.agg [.int _ _, .bool _, .int _ _, .int _ _, .int _ _, .int _ _, .int _ _, .int _ _, .slice _ _, .str _], .int _ _, .int _ _]) rfl) rfl) <|
    ils_cons rfl (iop_extract (d := .int _ _) rfl rfl (by decide) (sv (d := .tuple [.agg [.int _ _, .bool _, .int _ _, .int _ _, .int _ _, .int _ _, .int _ _, .int _ _, .slice _ _, .str _], .int _ _, .int _ _]) rfl) rfl) <|
    ils_cons rfl (iop_extract (d := .int _ _) rfl rfl (by decide) (sv (d := .tuple [.agg [.int _ _, .bool _, .int _ _, .int _ _, .int _ _, .int _ _, .int _ _, .int _ _, .slice _ _, .str _], .int _ _, .int _ _]) rfl) rfl) <|
    ils_cons rfl (iop_allocS (cs := [.int _ _, .bool _, .int _ _, .int _ _, .int _ _, .int _ _, .int _ _, .int _ _, .nils, .str _]) (cs' := [.int .u8 0, .bool false, .int .i64 0, .int .i64 0, .int .i64 0, .int .i64 0, .int .i64 0, .int .i64 0, .slice false (([] : List T_api_Pair).map E_api_Pair.d), .str []]) 3 rfl rfl (by decide) rfl ti42 rfl rfl (.cons (.refl _) (.cons (.refl _) (.cons (.refl _) (.cons (.refl _) (.cons (.refl _) (.cons (.refl _) (.cons (.refl _) (.cons (.refl _) (.cons (.nils _) (.cons (.refl _) .nil))))))))))) <|
    ils_cons rfl (iop_store (ds' := [.int _ _, .bool _, .int _ _, .int _ _, .int _ _, .int _ _, .int _ _, .int _ _, .slice _ _, .str _]) rfl rfl ti42 (sv (d := .ref _ _) rfl) rfl (sv (d := .agg [.int _ _, .bool _, .int _ _, .int _ _, .int _ _, .int _ _, .int _ _, .int _ _, .slice _ _, .str _]) rfl) rfl rfl rfl (nle rfl) rfl) <|
    ils_cons rfl (iop_assign rfl rfl (by decide) (sv (d := .int _ _) rfl)) <|
    ils_cons rfl (iop_assign rfl rfl (by decide) (sv (d := .int _ _) rfl)) <|
    ils_end ?_)
  obtain ⟨x6, hx6, h⟩ := bno_e h
  refine iwp_reg (ils_cons rfl (iop_call (r := .tuple [.agg [.int _ _, .bool _, .int _ _, .int _ _, .int _ _, .int _ _, .int _ _, .int _ _, .slice _ _, .str _], .int _ _, .int _ _]) rfl rfl (by decide) cl28 (.cons (sv (d := .str [3, 0, 1, 3]) rfl) .nil) rfl (p_frame_Get _ _ hx6)) <|
    ils_cons rfl (iop_move rfl rfl (by decide) (sv (d := .tuple [.agg [.int _ _, .bool _, .int _ _, .int _ _, .int _ _, .int _ _, .int _ _, .int _ _, .slice _ _, .str _], .int _ _, .int _ _]) rfl)) <|
    ils_cons rfl (iop_extract (d := .agg [.int _ _, .bool _, .int _ _, .int _ _, .int _ _, .int _ _, .int _ _, .int _ _, .slice _ _, .str _]) rfl rfl (by decide) (sv (d := .tuple [.agg [.int _ _, .bool _, .int _ _, .int _ _, .int _ _, .int _ _, .int _ _, .int _ _, .slice _ _, .str _], .int _ _, .int _ _]) rfl) rfl) <|
    ils_cons rfl (iop_extract (d := .int _ _) rfl rfl (by decide) (sv (d := .tuple [.agg [.int _ _, .bool _, .int _ _, .int _ _, .int _ _, .int _ _, .int _ _, .int _ _, .slice _ _, .str _], .int _ _, .int _ _]) rfl) rfl) <|
    ils_cons rfl (iop_extract (d := .int _ _) rfl rfl (by decide) (sv (d := .tuple [.agg [.int _ _, .bool _, .int _ _, .int _ _, .int _ _, .int _ _, .int _ _, .int _ _, .slice _ _, .str _], .int _ _, .int _ _]) rfl) rfl) <|
    ils_cons rfl (iop_allocS (cs := [.int _ _, .bool _, .int _ _, .int _ _, .int _ _, .int _ _, .int _ _, .int _ _, .nils, .str _]) (cs' := [.int .u8 0, .bool false, .int .i64 0, .int .i64 0, .int .i64 0, .int .i64 0, .int .i64 0, .int .i64 0, .slice false (([] : List T_api_Pair).map E_api_Pair.d), .str []]) 4 rfl rfl (by decide) rfl ti42 rfl rfl (.cons (.refl _) (.cons (.refl _) (.cons (.refl _) (.cons (.refl _) (.cons (.refl _) (.cons (.refl _) (.cons (.refl _) (.cons (.refl _) (.cons (.nils _) (.cons (.refl _) .nil))))))))))) <|
    ils_cons rfl (iop_store (ds' := [.int _ _, .bool _, .int _ _, .int _ _, .int _ _, .int _ _, .int _ _, .int _ _, .slice _ _, .str _]) rfl rfl ti42 (sv (d := .ref _ _) rfl) rfl (sv (d := .agg [.int _ _, .bool _, .int _ _, .int _ _, .int _ _, .int _ _, .int _ _, .int _ _, .slice _ _, .str _]) rfl) rfl rfl rfl (nle rfl) rfl) <|
    ils_cons rfl (iop_assign rfl rfl (by decide) (sv (d := .int _ _) rfl)) <|
    ils_cons rfl (iop_assign rfl rfl (by decide) (sv (d := .int _ _) rfl)) <|
    ils_end ?_)
  obtain ⟨x7, hx7, h⟩ := bno_e h
  refine iwp_reg (ils_cons rfl (iop_sub (d' := .agg [.int .u8 0, .bool true, .int .i64 5, .int .i64 100, .int .i64 0, .int .i64 0, .int .i64 0, .int .i64 0, .slice false (([] : List T_api_Pair).map E_api_Pair.d), .str [97, 98]]) (iop_build_struct (cs := [.int _ _, .bool _, .int _ _, .int _ _, .int _ _, .int _ _, .int _ _, .int _ _, .nils, .str _]) rfl rfl (by decide) Try.underlying42 ti42 pl42 rfl (.cons (sv (d := .int _ 0) rfl) (.cons (sv (d := .bool true) rfl) (.cons (sv (d := .int _ 5) rfl) (.cons (sv (d := .int _ 100) rfl) (.cons (sv (d := .str [97, 98]) rfl) .nil))))) rfl) (.agg (.cons (.refl _) (.cons (.refl _) (.cons (.refl _) (.cons (.refl _) (.cons (.refl _) (.cons (.refl _) (.cons (.refl _) (.cons (.refl _) (.cons (.nils _) (.cons (.refl _) .nil)))))))))))) <|
    ils_cons rfl (iop_call (r := .tuple [.str _, .int _ _]) rfl rfl (by decide) cl20 (.cons (sv (d := .agg [.int _ _, .bool _, .int _ _, .int _ _, .int _ _, .int _ _, .int _ _, .int _ _, .slice _ _, .str _]) rfl) .nil) rfl (p_frame_Put _ _ hx7)) <|
    ils_cons rfl (iop_move rfl rfl (by decide) (sv (d := .tuple [.str _, .int _ _]) rfl)) <|
    ils_cons rfl (iop_extract (d := .str _) rfl rfl (by decide) (sv (d := .tuple [.str _, .int _ _]) rfl) rfl) <|
    ils_cons rfl (iop_extract (d := .int _ _) rfl rfl (by decide) (sv (d := .tuple [.str _, .int _ _]) rfl) rfl) <|
    ils_cons rfl (iop_assign rfl rfl (by decide) (sv (d := .str _) rfl)) <|
    ils_cons rfl (iop_assign rfl rfl (by decide) (sv (d := .int _ _) rfl)) <|
    ils_end ?_)
  obtain ⟨x8, hx8, h⟩ := bnd_e h
  obtain ⟨x9, hx9, h⟩ := bnd_e h
  obtain ⟨x10, hx10, h⟩ := bnd_e h
  obtain ⟨x11, hx11, h⟩ := bno_e h
  obtain ⟨x12, hx12, h⟩ := bnd_e h
  obtain ⟨x13, hx13, h⟩ := bnd_e h
  obtain ⟨x14, hx14, h⟩ := bnd_e h
  obtain ⟨x15, hx15, h⟩ := bnd_e h
  obtain ⟨x16, hx16, h⟩ := bnd_e h
  obtain ⟨x17, hx17, h⟩ := bnd_e h
  obtain ⟨x18, hx18, h⟩ := bnd_e h
  obtain ⟨x19, hx19, h⟩ := bnd_e h
  obtain ⟨x20, hx20, h⟩ := bnd_e h
  obtain ⟨x21, hx21, h⟩ := bnd_e h
  obtain ⟨x22, hx22, h⟩ := bnd_e h
  obtain ⟨x23, hx23, h⟩ := bnd_e h
  obtain ⟨x24, hx24, h⟩ := bnd_e h
  obtain ⟨x25, hx25, h⟩ := bnd_e h
  obtain ⟨x26, hx26, h⟩ := bnd_e h
  obtain ⟨x27, hx27, h⟩ := bno_e h
  obtain ⟨x28, hx28, h⟩ := bnd_e h
  obtain ⟨x29, hx29, h⟩ := bnd_e h
  obtain ⟨x30, hx30, h⟩ := bno_e h
  obtain ⟨x31, hx31, h⟩ := bnd_e h
  obtain ⟨x32, hx32, h⟩ := bnd_e h
  obtain ⟨x33, hx33, h⟩ := bno_e h
  obtain ⟨x34, hx34, h⟩ := bnd_e h
  obtain ⟨x35, hx35, h⟩ := bnd_e h
  obtain ⟨x36, hx36, h⟩ := bnd_e h
  obtain ⟨x37, hx37, h⟩ := bnd_e h
  obtain ⟨x38, hx38, h⟩ := bnd_e h
  obtain ⟨x39, hx39, h⟩ := bnd_e h
  obtain ⟨x40, hx40, h⟩ := bnd_e h
  obtain ⟨x41, hx41, h⟩ := bnd_e h
  obtain ⟨x42, hx42, h⟩ := bnd_e h
  refine iwp_reg (ils_cons rfl (iop_move rfl rfl (by decide) (sv (d := .str _) rfl)) <|
    ils_cons rfl (iop_strx rfl rfl (by decide) (sv (d := .str _) rfl) (sv (d := .str [3, 0, 3, 3, 5, 8]) rfl) rfl hx8) <|
    ils_cons rfl (iop_move rfl rfl (by decide) (sv (d := .bool _) rfl)) <|
    ils_guard rfl rfl (.one rfl) rfl (by decide) (fun hb => (iop_move rfl rfl (by decide) (sv (d := .int _ _) rfl))) <|
    ils_guard rfl rfl (.one rfl) rfl (by decide) (fun hb => (iop_cmpx rfl rfl (by decide) (svc (d := .int _ _) rfl hb) (sv (d := .int _ 0) rfl) rfl hx9)) <|
    ils_cons rfl (iop_andx rfl rfl (by decide) (sv (d := .bool _) rfl) rfl rfl hx10) <|
    ils_cons rfl (iop_move rfl rfl (by decide) (sv (d := .bool _) rfl)) <|
    ils_guard rfl rfl (.one rfl) rfl (by decide) (fun hb => (iop_load_ra (cs := [.int _ _, .bool _, .int _ _, .int _ _, .int _ _, .int _ _, .int _ _, .int _ _, .slice _ _, .str _]) rfl rfl (by decide) Try.underlying42 ag42 ti42 (by decide) (sv (d := .ref _ _) rfl) rfl (nle rfl) rfl)) <|
    ils_guard rfl rfl (.one rfl) rfl (by decide) (fun hb => (iop_load_ra (cs := [.int _ _, .bool _, .int _ _, .int _ _, .int _ _, .int _ _, .int _ _, .int _ _, .slice _ _, .str _]) rfl rfl (by decide) Try.underlying42 ag42 ti42 (by decide) (sv (d := .ref _ _) rfl) rfl (nle rfl) rfl)) <|
    ils_guard rfl rfl (.one rfl) rfl (by decide) (fun hb => (iop_call (r := .bool _) rfl rfl (by decide) cl26 (.cons (svc (d := .agg [.int _ _, .bool _, .int _ _, .int _ _, .int _ _, .int _ _, .int _ _, .int _ _, .slice _ _, .str _]) rfl hb) (.cons (svc (d := .agg [.int _ _, .bool _, .int _ _, .int _ _, .int _ _, .int _ _, .int _ _, .int _ _, .slice _ _, .str _]) rfl hb) .nil)) rfl (p_frame_Same _ _ _ (gd_t hx11 hb)))) <|
    ils_cons rfl (iop_andx rfl rfl (by decide) (sv (d := .bool _) rfl) rfl rfl hx12) <|
    ils_cons rfl (iop_move rfl rfl (by decide) (sv (d := .bool _) rfl)) <|
    ils_guard rfl rfl (.one rfl) rfl (by decide) (fun hb => (iop_move rfl rfl (by decide) (sv (d := .int _ _) rfl))) <|
    ils_guard rfl rfl (.one rfl) rfl (by decide) (fun hb => (iop_cmpx rfl rfl (by decide) (svc (d := .int _ _) rfl hb) (sv (d := .int _ 6) rfl) rfl hx13)) <|
    ils_cons rfl (iop_andx rfl rfl (by decide) (sv (d := .bool _) rfl) rfl rfl hx14) <|
    ils_cons rfl (iop_move rfl rfl (by decide) (sv (d := .bool _) rfl)) <|
    ils_guard rfl rfl (.one rfl) rfl (by decide) (fun hb => (iop_move rfl rfl (by decide) (sv (d := .int _ _) rfl))) <|
    ils_guard rfl rfl (.one rfl) rfl (by decide) (fun hb => (iop_cmpx rfl rfl (by decide) (svc (d := .int _ _) rfl hb) (sv (d := .int _ 0) rfl) rfl hx15)) <|
    ils_cons rfl (iop_andx rfl rfl (by decide) (sv (d := .bool _) rfl) rfl rfl hx16) <|
    ils_cons rfl (iop_move rfl rfl (by decide) (sv (d := .bool _) rfl)) <|
    ils_guard rfl rfl (.one rfl) rfl (by decide) (fun hb => (iop_move rfl rfl (by decide) (sv (d := .int _ _) rfl))) <|
    ils_guard rfl rfl (.one rfl) rfl (by decide) (fun hb => (iop_cmpx rfl rfl (by decide) (svc (d := .int _ _) rfl hb) (sv (d := .int _ 12) rfl) rfl hx17)) <|
    ils_cons rfl (iop_andx rfl rfl (by decide) (sv (d := .bool _) rfl) rfl rfl hx18) <|
    ils_cons rfl (iop_move rfl rfl (by decide) (sv (d := .bool _) rfl)) <|
    ils_guard rfl rfl (.one rfl) rfl (by decide) (fun hb => (iop_move rfl rfl (by decide) (sv (d := .int _ _) rfl))) <|
    ils_guard rfl rfl (.one rfl) rfl (by decide) (fun hb => (iop_cmpx rfl rfl (by decide) (svc (d := .int _ _) rfl hb) (sv (d := .int _ 3) rfl) rfl hx19)) <|
    ils_cons rfl (iop_andx rfl rfl (by decide) (sv (d := .bool _) rfl) rfl rfl hx20) <|
    ils_cons rfl (iop_move rfl rfl (by decide) (sv (d := .bool _) rfl)) <|
    ils_guard rfl rfl (.one rfl) rfl (by decide) (fun hb => (iop_move rfl rfl (by decide) (sv (d := .int _ _) rfl))) <|
    ils_guard rfl rfl (.one rfl) rfl (by decide) (fun hb => (iop_cmpx rfl rfl (by decide) (svc (d := .int _ _) rfl hb) (sv (d := .int _ 4) rfl) rfl hx21)) <|
    ils_cons rfl (iop_andx rfl rfl (by decide) (sv (d := .bool _) rfl) rfl rfl hx22) <|
    ils_cons rfl (iop_move rfl rfl (by decide) (sv (d := .bool _) rfl)) <|
    ils_guard rfl rfl (.one rfl) rfl (by decide) (fun hb => (iop_move rfl rfl (by decide) (sv (d := .str _) rfl))) <|
    ils_guard rfl rfl (.one rfl) rfl (by decide) (fun hb => (iop_strx rfl rfl (by decide) (svc (d := .str _) rfl hb) (sv (d := .str [0, 1, 5, 5, 64, 100, 97, 98]) rfl) rfl hx23)) <|
    ils_cons rfl (iop_andx rfl rfl (by decide) (sv (d := .bool _) rfl) rfl rfl hx24) <|
    ils_cons rfl (iop_move rfl rfl (by decide) (sv (d := .bool _) rfl)) <|
    ils_guard rfl rfl (.one rfl) rfl (by decide) (fun hb => (iop_move rfl rfl (by decide) (sv (d := .int _ _) rfl))) <|
    ils_guard rfl rfl (.one rfl) rfl (by decide) (fun hb => (iop_cmpx rfl rfl (by decide) (svc (d := .int _ _) rfl hb) (sv (d := .int _ 0) rfl) rfl hx25)) <|
    ils_cons rfl (iop_andx rfl rfl (by decide) (sv (d := .bool _) rfl) rfl rfl hx26) <|
    ils_cons rfl (iop_move rfl rfl (by decide) (sv (d := .bool _) rfl)) <|
    ils_guard rfl rfl (.one rfl) rfl (by decide) (fun hb => (iop_load_ra (cs := [.int _ _, .bool _, .int _ _, .int _ _, .int _ _, .int _ _, .int _ _, .int _ _, .slice _ _, .str _]) rfl rfl (by decide) Try.underlying42 ag42 ti42 (by decide) (sv (d := .ref _ _) rfl) rfl (nle rfl) rfl)) <|
    ils_guard rfl rfl (.one rfl) rfl (by decide) (fun hb => (iop_call (r := .int _ _) rfl rfl (by decide) cl24 (.cons (svc (d := .agg [.int _ _, .bool _, .int _ _, .int _ _, .int _ _, .int _ _, .int _ _, .int _ _, .slice _ _, .str _]) rfl hb) .nil) rfl (p_frame_Size _ _ (gd_t hx27 hb)))) <|
    ils_guard rfl rfl (.one rfl) rfl (by decide) (fun hb => (iop_cmpx rfl rfl (by decide) (svc (d := .int _ _) rfl hb) (sv (d := .int _ 6) rfl) rfl hx28)) <|
    ils_cons rfl (iop_andx rfl rfl (by decide) (sv (d := .bool _) rfl) rfl rfl hx29) <|
    ils_cons rfl (iop_move rfl rfl (by decide) (sv (d := .bool _) rfl)) <|
    ils_guard rfl rfl (.one rfl) rfl (by decide) (fun hb => (iop_sub (d' := .agg [.int .u8 8, .bool false, .int .i64 0, .int .i64 0, .int .i64 0, .int .i64 0, .int .i64 0, .int .i64 0, .slice false (([] : List T_api_Pair).map E_api_Pair.d), .str []]) (iop_build_struct (cs := [.int _ _, .bool _, .int _ _, .int _ _, .int _ _, .int _ _, .int _ _, .int _ _, .nils, .str _]) rfl rfl (by decide) Try.underlying42 ti42 pl42 rfl (.cons (sv (d := .int _ 8) rfl) .nil) rfl) (.agg (.cons (.refl _) (.cons (.refl _) (.cons (.refl _) (.cons (.refl _) (.cons (.refl _) (.cons (.refl _) (.cons (.refl _) (.cons (.refl _) (.cons (.nils _) (.cons (.refl _) .nil))))))))))))) <|
    ils_guard rfl rfl (.one rfl) rfl (by decide) (fun hb => (iop_call (r := .int _ _) rfl rfl (by decide) cl22 (.cons (svc (d := .agg [.int _ _, .bool _, .int _ _, .int _ _, .int _ _, .int _ _, .int _ _, .int _ _, .slice _ _, .str _]) rfl hb) .nil) rfl (p_frame_Check _ _ (gd_t hx30 hb)))) <|
    ils_guard rfl rfl (.one rfl) rfl (by decide) (fun hb => (iop_cmpx rfl rfl (by decide) (svc (d := .int _ _) rfl hb) (sv (d := .int _ 8) rfl) rfl hx31)) <|
    ils_cons rfl (iop_andx rfl rfl (by decide) (sv (d := .bool _) rfl) rfl rfl hx32) <|
    ils_cons rfl (iop_move rfl rfl (by decide) (sv (d := .bool _) rfl)) <|
    ils_guard rfl rfl (.one rfl) rfl (by decide) (fun hb => (iop_load_ra (cs := [.int _ _, .bool _, .int _ _, .int _ _, .int _ _, .int _ _, .int _ _, .int _ _, .slice _ _, .str _]) rfl rfl (by decide) Try.underlying42 ag42 ti42 (by decide) (sv (d := .ref _ _) rfl) rfl (nle rfl) rfl)) <|
    ils_guard rfl rfl (.one rfl) rfl (by decide) (fun hb => (iop_sub (d' := .agg [.int .u8 0, .bool false, .int .i64 0, .int .i64 0, .int .i64 0, .int .i64 0, .int .i64 0, .int .i64 0, .slice false (([] : List T_api_Pair).map E_api_Pair.d), .str []]) (iop_build_struct (cs := [.int _ _, .bool _, .int _ _, .int _ _, .int _ _, .int _ _, .int _ _, .int _ _, .nils, .str _]) rfl rfl (by decide) Try.underlying42 ti42 pl42 rfl .nil rfl) (.agg (.cons (.refl _) (.cons (.refl _) (.cons (.refl _) (.cons (.refl _) (.cons (.refl _) (.cons (.refl _) (.cons (.refl _) (.cons (.refl _) (.cons (.nils _) (.cons (.refl _) .nil))))))))))))) <|
    ils_guard rfl rfl (.one rfl) rfl (by decide) (fun hb => (iop_call (r := .bool _) rfl rfl (by decide) cl26 (.cons (svc (d := .agg [.int _ _, .bool _, .int _ _, .int _ _, .int _ _, .int _ _, .int _ _, .int _ _, .slice _ _, .str _]) rfl hb) (.cons (svc (d := .agg [.int _ _, .bool _, .int _ _, .int _ _, .int _ _, .int _ _, .int _ _, .int _ _, .slice _ _, .str _]) rfl hb) .nil)) rfl (p_frame_Same _ _ _ (gd_t hx33 hb)))) <|
    ils_guard rfl rfl (.one rfl) rfl (by decide) (fun hb => (iop_not rfl rfl (by decide) (svc (d := .bool _) rfl hb))) <|
    ils_cons rfl (iop_andx rfl rfl (by decide) (sv (d := .bool _) rfl) rfl rfl hx34) <|
    ils_cons rfl (iop_move rfl rfl (by decide) (sv (d := .bool _) rfl)) <|
    ils_cons rfl (iop_pickc rfl rfl (by decide) (sv (d := .bool _) rfl) rfl rfl hx35) <|
    ils_cons rfl (iop_move rfl rfl (by decide) (sv (d := .bool _) rfl)) <|
    ils_cons rfl (iop_pickc rfl rfl (by decide) (sv (d := .bool _) rfl) rfl rfl hx36) <|
    ils_cons rfl (iop_move rfl rfl (by decide) (sv (d := .bool _) rfl)) <|
    ils_cons rfl (iop_pickc rfl rfl (by decide) (sv (d := .bool _) rfl) rfl rfl hx37) <|
    ils_cons rfl (iop_move rfl rfl (by decide) (sv (d := .bool _) rfl)) <|
    ils_cons rfl (iop_pickc rfl rfl (by decide) (sv (d := .bool _) rfl) rfl rfl hx38) <|
    ils_cons rfl (iop_move rfl rfl (by decide) (sv (d := .bool _) rfl)) <|
    ils_cons rfl (iop_pickc rfl rfl (by decide) (sv (d := .bool _) rfl) rfl rfl hx39) <|
    ils_cons rfl (iop_move rfl rfl (by decide) (sv (d := .bool _) rfl)) <|
    ils_cons rfl (iop_pickc rfl rfl (by decide) (sv (d := .bool _) rfl) rfl rfl hx40) <|
    ils_cons rfl (iop_move rfl rfl (by decide) (sv (d := .bool _) rfl)) <|
    ils_cons rfl (iop_pickc rfl rfl (by decide) (sv (d := .bool _) rfl) rfl rfl hx41) <|
    ils_cons rfl (iop_move rfl rfl (by decide) (sv (d := .bool _) rfl)) <|
    ils_cons rfl (iop_pickc rfl rfl (by decide) (sv (d := .bool _) rfl) rfl rfl hx42) <|
    ils_cons rfl (iop_assign rfl rfl (by decide) (sv (d := .bool _) rfl)) <|
    ils_end ?_)
  refine iwp_ret ?_
  obtain rfl := Option.some.inj h
  refine ⟨.inr rfl, (.cons (sv rfl) .nil)⟩

set_option maxRecDepth 8000 in
set_option maxHeartbeats 2000000 in
theorem p_sennitref15_fields (a0 : Int) (r : (List UInt8)) (h : sennitref15_fields a0 = some r) : PureAt Try.prog 40 [.int .u8 a0] (.str r) := by
  refine pure_of_iwp (rs := [.str r]) Try.func40 rfl Try.ntmps40 (nle rfl) rfl fun O hO => ?_
  show IWP _ _ _ _ ⟨[(0, .int .u8 a0)], []⟩ _
  unfold sennitref15_fields at h
  refine iwp_reg (ils_cons rfl (iop_assign rfl rfl (by decide) (sv (d := .str []) rfl)) <|
    ils_end ?_)
  refine iwp_seq ?_
  refine iwp_reg (ils_cons rfl (iop_move rfl rfl (by decide) (sv (d := .int _ _) rfl)) <|
    ils_end ?_)
  refine iwp_block ?_
  refine iwp_join (α := Bool) (fun z => ⟨[(3, .int .u8 a0), (4, .bool z)], []⟩) (fun z => sennitref15_fields_J0 a0 z = some r) ?_ ?_
  ·
    obtain ⟨x26, hx26, h⟩ := bnd_e h
    refine iwp_reg (ils_cons rfl (iop_cmpx rfl rfl (by decide) (sv (d := .int _ _) rfl) (sv (d := .int _ 0) rfl) rfl hx26) <|
      ils_cons rfl (iop_assign rfl rfl (by decide) (sv (d := .bool _) rfl)) <|
      ils_end ?_)
    refine iwp_cond (b := _) rfl (fun hc27 => ?_) (fun hc27 => ?_)
    ·
      replace h := bif_t h hc27
      refine iwp_skip ?_
      refine thenQ_n ⟨x26, (fun i => i), ⟨(.cons (.same rfl rfl) (.cons (.same rfl rfl) .nil)), .nil, nd_of [] rfl (by decide), (fun i hi => by first | rfl | (show (if _ then _ else _) = _; (repeat' split) <;> omega))⟩, ?_⟩
      exact h
    ·
      replace h := bif_f h hc27
      obtain ⟨x28, hx28, h⟩ := bnd_e h
      refine iwp_region (ils_cons rfl (iop_cmpx rfl rfl (by decide) (sv (d := .int _ _) rfl) (sv (d := .int _ 9) rfl) rfl hx28) <|
        ils_cons rfl (iop_assign rfl rfl (by decide) (sv (d := .bool _) rfl)) <|
        ils_nil ?_)
      refine thenQ_n ⟨x28, (fun i => i), ⟨(.cons (.same rfl rfl) (.cons (.same rfl rfl) .nil)), .nil, nd_of [] rfl (by decide), (fun i hi => by first | rfl | (show (if _ then _ else _) = _; (repeat' split) <;> omega))⟩, ?_⟩
      exact h
  ·
    rintro v4 h
    unfold sennitref15_fields_J0 at h
    refine iwp_cond (b := _) rfl (fun hc5 => ?_) (fun hc5 => ?_)
    ·
      replace h := bif_t h hc5
      refine iwp_reg (ils_cons rfl (iop_assign rfl rfl (by decide) (sv (d := .str [115, 111]) rfl)) <|
        ils_end ?_)
      refine iwp_ret ?_
      refine blockQ_r ?_
      refine thenQ_r ?_
      obtain rfl := Option.some.inj h
      refine ⟨.inr rfl, (.cons (sv rfl) .nil)⟩
    ·
      replace h := bif_f h hc5
      refine iwp_join (α := Bool) (fun z => ⟨[(3, .int .u8 a0), (7, .bool z)], []⟩) (fun z => sennitref15_fields_J1 a0 z = some r) ?_ ?_
      ·
        obtain ⟨x23, hx23, h⟩ := bnd_e h
        refine iwp_reg (ils_cons rfl (iop_cmpx rfl rfl (by decide) (sv (d := .int _ _) rfl) (sv (d := .int _ 1) rfl) rfl hx23) <|
          ils_cons rfl (iop_assign rfl rfl (by decide) (sv (d := .bool _) rfl)) <|
          ils_end ?_)
        refine iwp_cond (b := _) rfl (fun hc24 => ?_) (fun hc24 => ?_)
        ·
          replace h := bif_t h hc24
          refine iwp_skip ?_
          refine thenQ_n ⟨x23, (fun i => i), ⟨(.cons (.same rfl rfl) (.cons (.same rfl rfl) .nil)), .nil, nd_of [] rfl (by decide), (fun i hi => by first | rfl | (show (if _ then _ else _) = _; (repeat' split) <;> omega))⟩, ?_⟩
          exact h
        ·
          replace h := bif_f h hc24
          obtain ⟨x25, hx25, h⟩ := bnd_e h
          refine iwp_region (ils_cons rfl (iop_cmpx rfl rfl (by decide) (sv (d := .int _ _) rfl) (sv (d := .int _ 2) rfl) rfl hx25) <|
            ils_cons rfl (iop_assign rfl rfl (by decide) (sv (d := .bool _) rfl)) <|
            ils_nil ?_)
          refine thenQ_n ⟨x25, (fun i => i), ⟨(.cons (.same rfl rfl) (.cons (.same rfl rfl) .nil)), .nil, nd_of [] rfl (by decide), (fun i hi => by first | rfl | (show (if _ then _ else _) = _; (repeat' split) <;> omega))⟩, ?_⟩
          exact h
      ·
        rintro v9 h
        unfold sennitref15_fields_J1 at h
        refine iwp_cond (b := _) rfl (fun hc10 => ?_) (fun hc10 => ?_)
        ·
          replace h := bif_t h hc10
          refine iwp_reg (ils_cons rfl (iop_assign rfl rfl (by decide) (sv (d := .str [115, 100, 119]) rfl)) <|
            ils_end ?_)
          refine iwp_ret ?_
          refine blockQ_r ?_
          refine thenQ_r ?_
          obtain rfl := Option.some.inj h
          refine ⟨.inr rfl, (.cons (sv rfl) .nil)⟩
        ·
          replace h := bif_f h hc10
          obtain ⟨x11, hx11, h⟩ := bnd_e h
          refine iwp_reg (ils_cons rfl (iop_cmpx rfl rfl (by decide) (sv (d := .int _ _) rfl) (sv (d := .int _ 3) rfl) rfl hx11) <|
            ils_cons rfl (iop_assign rfl rfl (by decide) (sv (d := .bool _) rfl)) <|
            ils_end ?_)
          refine iwp_cond (b := _) rfl (fun hc12 => ?_) (fun hc12 => ?_)
          ·
            replace h := bif_t h hc12
            refine iwp_reg (ils_cons rfl (iop_assign rfl rfl (by decide) (sv (d := .str [115, 110, 99]) rfl)) <|
              ils_end ?_)
            refine iwp_ret ?_
            refine blockQ_r ?_
            refine thenQ_r ?_
            obtain rfl := Option.some.inj h
            refine ⟨.inr rfl, (.cons (sv rfl) .nil)⟩
          ·
            replace h := bif_f h hc12
            obtain ⟨x13, hx13, h⟩ := bnd_e h
            refine iwp_reg (ils_cons rfl (iop_cmpx rfl rfl (by decide) (sv (d := .int _ _) rfl) (sv (d := .int _ 7) rfl) rfl hx13) <|
              ils_cons rfl (iop_assign rfl rfl (by decide) (sv (d := .bool _) rfl)) <|
              ils_end ?_)
            refine iwp_cond (b := _) rfl (fun hc14 => ?_) (fun hc14 => ?_)
            ·
              replace h := bif_t h hc14
              refine iwp_reg (ils_cons rfl (iop_assign rfl rfl (by decide) (sv (d := .str [115, 99]) rfl)) <|
                ils_end ?_)
              refine iwp_ret ?_
              refine blockQ_r ?_
              refine thenQ_r ?_
              obtain rfl := Option.some.inj h
              refine ⟨.inr rfl, (.cons (sv rfl) .nil)⟩
            ·
              replace h := bif_f h hc14
              obtain ⟨x15, hx15, h⟩ := bnd_e h
              refine iwp_reg (ils_cons rfl (iop_cmpx rfl rfl (by decide) (sv (d := .int _ _) rfl) (sv (d := .int _ 4) rfl) rfl hx15) <|
                ils_cons rfl (iop_assign rfl rfl (by decide) (sv (d := .bool _) rfl)) <|
                ils_end ?_)
              refine iwp_cond (b := _) rfl (fun hc16 => ?_) (fun hc16 => ?_)
              ·
                replace h := bif_t h hc16
                refine iwp_reg (ils_cons rfl (iop_assign rfl rfl (by decide) (sv (d := .str []) rfl)) <|
                  ils_end ?_)
                refine iwp_ret ?_
                refine blockQ_r ?_
                refine thenQ_r ?_
                obtain rfl := Option.some.inj h
                refine ⟨.inr rfl, (.cons (sv rfl) .nil)⟩
              ·
                replace h := bif_f h hc16
                obtain ⟨x17, hx17, h⟩ := bnd_e h
                refine iwp_reg (ils_cons rfl (iop_cmpx rfl rfl (by decide) (sv (d := .int _ _) rfl) (sv (d := .int _ 6) rfl) rfl hx17) <|
                  ils_cons rfl (iop_assign rfl rfl (by decide) (sv (d := .bool _) rfl)) <|
                  ils_end ?_)
                refine iwp_cond (b := _) rfl (fun hc18 => ?_) (fun hc18 => ?_)
                ·
                  replace h := bif_t h hc18
                  refine iwp_reg (ils_cons rfl (iop_assign rfl rfl (by decide) (sv (d := .str [110]) rfl)) <|
                    ils_end ?_)
                  refine iwp_ret ?_
                  refine blockQ_r ?_
                  refine thenQ_r ?_
                  obtain rfl := Option.some.inj h
                  refine ⟨.inr rfl, (.cons (sv rfl) .nil)⟩
                ·
                  replace h := bif_f h hc18
                  obtain ⟨x19, hx19, h⟩ := bnd_e h
                  refine iwp_reg (ils_cons rfl (iop_cmpx rfl rfl (by decide) (sv (d := .int _ _) rfl) (sv (d := .int _ 8) rfl) rfl hx19) <|
                    ils_cons rfl (iop_assign rfl rfl (by decide) (sv (d := .bool _) rfl)) <|
                    ils_end ?_)
                  refine iwp_cond (b := _) rfl (fun hc20 => ?_) (fun hc20 => ?_)
                  ·
                    replace h := bif_t h hc20
                    refine iwp_reg (ils_cons rfl (iop_assign rfl rfl (by decide) (sv (d := .str [115, 110]) rfl)) <|
                      ils_end ?_)
                    refine iwp_ret ?_
                    refine blockQ_r ?_
                    refine thenQ_r ?_
                    obtain rfl := Option.some.inj h
                    refine ⟨.inr rfl, (.cons (sv rfl) .nil)⟩
                  ·
                    replace h := bif_f h hc20
                    obtain ⟨x21, hx21, h⟩ := bnd_e h
                    refine iwp_reg (ils_cons rfl (iop_cmpx rfl rfl (by decide) (sv (d := .int _ _) rfl) (sv (d := .int _ 10) rfl) rfl hx21) <|
                      ils_cons rfl (iop_assign rfl rfl (by decide) (sv (d := .bool _) rfl)) <|
                      ils_end ?_)
                    refine iwp_cond (b := _) rfl (fun hc22 => ?_) (fun hc22 => ?_)
                    ·
                      replace h := bif_t h hc22
                      refine iwp_reg (ils_cons rfl (iop_assign rfl rfl (by decide) (sv (d := .str [110, 99]) rfl)) <|
                        ils_end ?_)
                      refine iwp_ret ?_
                      refine blockQ_r ?_
                      refine thenQ_r ?_
                      obtain rfl := Option.some.inj h
                      refine ⟨.inr rfl, (.cons (sv rfl) .nil)⟩
                    ·
                      replace h := bif_f h hc22
                      refine iwp_skip ?_
                      refine blockQ_n ?_
                      refine thenQ_n ?_
                      refine iwp_reg (ils_cons rfl (iop_assign rfl rfl (by decide) (sv (d := .str [45]) rfl)) <|
                        ils_end ?_)
                      refine iwp_ret ?_
                      obtain rfl := Option.some.inj h
                      refine ⟨.inr rfl, (.cons (sv rfl) .nil)⟩

set_option maxRecDepth 8000 in
set_option maxHeartbeats 2000000 in
theorem p_sennitref15_in (a0 : Int) (a1 : Int) (a2 : Int) (r : Bool) (h : sennitref15_in a0 a1 a2 = some r) : PureAt Try.prog 62 [.int .i64 a0, .int .i64 a1, .int .i64 a2] (.bool r) := by
  refine pure_of_iwp (rs := [.bool r]) Try.func62 rfl Try.ntmps62 (nle rfl) rfl fun O hO => ?_
  show IWP _ _ _ _ ⟨[(0, .int .i64 a0), (1, .int .i64 a1), (2, .int .i64 a2)], []⟩ _
  unfold sennitref15_in at h
  refine iwp_reg (ils_cons rfl (iop_assign rfl rfl (by decide) (sv (d := .bool false) rfl)) <|
    ils_end ?_)
  obtain ⟨x1, hx1, h⟩ := bnd_e h
  obtain ⟨x2, hx2, h⟩ := bnd_e h
  obtain ⟨x3, hx3, h⟩ := bnd_e h
  refine iwp_reg (ils_cons rfl (iop_move rfl rfl (by decide) (sv (d := .int _ _) rfl)) <|
    ils_cons rfl (iop_move rfl rfl (by decide) (sv (d := .int _ _) rfl)) <|
    ils_cons rfl (iop_cmpx rfl rfl (by decide) (sv (d := .int _ _) rfl) (sv (d := .int _ _) rfl) rfl hx1) <|
    ils_cons rfl (iop_move rfl rfl (by decide) (sv (d := .bool _) rfl)) <|
    ils_guard rfl rfl (.one rfl) rfl (by decide) (fun hb => (iop_move rfl rfl (by decide) (sv (d := .int _ _) rfl))) <|
    ils_guard rfl rfl (.one rfl) rfl (by decide) (fun hb => (iop_move rfl rfl (by decide) (sv (d := .int _ _) rfl))) <|
    ils_guard rfl rfl (.one rfl) rfl (by decide) (fun hb => (iop_cmpx rfl rfl (by decide) (svc (d := .int _ _) rfl hb) (svc (d := .int _ _) rfl hb) rfl hx2)) <|
    ils_cons rfl (iop_andx rfl rfl (by decide) (sv (d := .bool _) rfl) rfl rfl hx3) <|
    ils_cons rfl (iop_assign rfl rfl (by decide) (sv (d := .bool _) rfl)) <|
    ils_end ?_)
  refine iwp_ret ?_
  obtain rfl := Option.some.inj h
  refine ⟨.inr rfl, (.cons (sv rfl) .nil)⟩

set_option maxRecDepth 8000 in
set_option maxHeartbeats 2000000 in
theorem p_sennitref15_ranges (a0 : T_frame_Frame) (r : Bool) (h : sennitref15_ranges a0 = some r) : PureAt Try.prog 41 [.agg [.int .u8 a0.Kind, .bool a0.Flag, .int .i64 a0.Stream, .int .i64 a0.Offset, .int .i64 a0.Dep, .int .i64 a0.Weight, .int .i64 a0.N, .int .i64 a0.Code, .slice false (a0.Pairs.map E_api_Pair.d), .str a0.Data]] (.bool r) := by
  refine pure_of_iwp (rs := [.bool r]) Try.func41 rfl Try.ntmps41 (nle rfl) rfl fun O hO => ?_
  show IWP _ _ _ _ ⟨[(0, .agg [.int .u8 a0.Kind, .bool a0.Flag, .int .i64 a0.Stream, .int .i64 a0.Offset, .int .i64 a0.Dep, .int .i64 a0.Weight, .int .i64 a0.N, .int .i64 a0.Code, .slice false (a0.Pairs.map E_api_Pair.d), .str a0.Data])], []⟩ _
  unfold sennitref15_ranges at h
  refine iwp_reg (ils_cons rfl (iop_box' (cs := [.int _ _, .bool _, .int _ _, .int _ _, .int _ _, .int _ _, .int _ _, .int _ _, .slice _ _, .str _]) 0 rfl rfl (by decide) rfl (sv (d := .agg [.int _ _, .bool _, .int _ _, .int _ _, .int _ _, .int _ _, .int _ _, .int _ _, .slice _ _, .str _]) rfl) rfl rfl) <|
    ils_cons rfl (iop_assign rfl rfl (by decide) (sv (d := .bool false) rfl)) <|
    ils_end ?_)
  refine iwp_reg (ils_cons rfl (iop_assign rfl rfl (by decide) (sv (d := .int _ 0) rfl)) <|
    ils_cons rfl (iop_assign rfl rfl (by decide) (sv (d := .int _ 1099511627776) rfl)) <|
    ils_cons rfl (iop_assign rfl rfl (by decide) (sv (d := .int _ 255) rfl)) <|
    ils_end ?_)
  refine iwp_join (α := Int) (fun z => ⟨[(1, .ref 0 0), (3, .int .i64 z), (4, .int .i64 1099511627776), (5, .int .i64 255)], [(0, .blk 40 [.int .u8 a0.Kind, .bool a0.Flag, .int .i64 a0.Stream, .int .i64 a0.Offset, .int .i64 a0.Dep, .int .i64 a0.Weight, .int .i64 a0.N, .int .i64 a0.Code, .slice false (a0.Pairs.map E_api_Pair.d), .str a0.Data])]⟩) (fun z => sennitref15_ranges_J0 a0 z = some r) ?_ ?_
  ·
    obtain ⟨x58, hx58, h⟩ := bnd_e h
    refine iwp_reg (ils_cons rfl (iop_fieldAddr_ref rfl rfl (by decide) Try.underlying40 rfl ti5 (by decide) (sv (d := .ref _ _) rfl) (off' := 0) rfl) <|
      ils_cons rfl (iop_load_rs (d := .int _ _) rfl rfl (by decide) Try.underlying5 ag5 ti5 (by decide) (sv (d := .ref _ _) rfl) rfl (nle rfl) rfl) <|
      ils_cons rfl (iop_cmpx rfl rfl (by decide) (sv (d := .int _ _) rfl) (sv (d := .int _ 8) rfl) rfl hx58) <|
      ils_end ?_)
    refine iwp_cond (b := _) rfl (fun hc59 => ?_) (fun hc59 => ?_)
    ·
      replace h := bif_t h hc59
      refine iwp_region (ils_cons rfl (iop_assign rfl rfl (by decide) (sv (d := .int _ 1) rfl)) <|
        ils_nil ?_)
      refine thenQ_n ⟨1, (fun i => i), ⟨(.cons (.same rfl rfl) (.cons (.same rfl rfl) (.cons (.same rfl rfl) (.cons (.same rfl rfl) .nil)))), (.cons (.blk rfl rfl rfl) .nil), nd_of [0] rfl (by decide), (fun i hi => by first | rfl | (show (if _ then _ else _) = _; (repeat' split) <;> omega))⟩, ?_⟩
      exact h
    ·
      replace h := bif_f h hc59
      refine iwp_skip ?_
      refine thenQ_n ⟨0, (fun i => i), ⟨(.cons (.same rfl rfl) (.cons (.same rfl rfl) (.cons (.same rfl rfl) (.cons (.same rfl rfl) .nil)))), (.cons (.blk rfl rfl rfl) .nil), nd_of [0] rfl (by decide), (fun i hi => by first | rfl | (show (if _ then _ else _) = _; (repeat' split) <;> omega))⟩, ?_⟩
      exact h
  ·
    rintro v3 h
    unfold sennitref15_ranges_J0 at h
    refine iwp_join (α := Int × Int) (fun z => ⟨[(1, .ref 0 0), (3, .int .i64 v3), (4, .int .i64 z.1), (5, .int .i64 z.2)], [(0, .blk 40 [.int .u8 a0.Kind, .bool a0.Flag, .int .i64 a0.Stream, .int .i64 a0.Offset, .int .i64 a0.Dep, .int .i64 a0.Weight, .int .i64 a0.N, .int .i64 a0.Code, .slice false (a0.Pairs.map E_api_Pair.d), .str a0.Data])]⟩) (fun z => sennitref15_ranges_J1 a0 v3 z.1 z.2 = some r) ?_ ?_
    ·
      obtain ⟨x56, hx56, h⟩ := bnd_e h
      refine iwp_reg (ils_cons rfl (iop_fieldAddr_ref rfl rfl (by decide) Try.underlying40 rfl ti5 (by decide) (sv (d := .ref _ _) rfl) (off' := 0) rfl) <|
        ils_cons rfl (iop_load_rs (d := .int _ _) rfl rfl (by decide) Try.underlying5 ag5 ti5 (by decide) (sv (d := .ref _ _) rfl) rfl (nle rfl) rfl) <|
        ils_cons rfl (iop_cmpx rfl rfl (by decide) (sv (d := .int _ _) rfl) (sv (d := .int _ 10) rfl) rfl hx56) <|
        ils_end ?_)
      refine iwp_cond (b := _) rfl (fun hc57 => ?_) (fun hc57 => ?_)
      ·
        replace h := bif_t h hc57
        refine iwp_region (ils_cons rfl (iop_assign rfl rfl (by decide) (sv (d := .int _ 3) rfl)) <|
          ils_cons rfl (iop_assign rfl rfl (by decide) (sv (d := .int _ 1) rfl)) <|
          ils_nil ?_)
        refine thenQ_n ⟨(3, 1), (fun i => i), ⟨(.cons (.same rfl rfl) (.cons (.same rfl rfl) (.cons (.same rfl rfl) (.cons (.same rfl rfl) .nil)))), (.cons (.blk rfl rfl rfl) .nil), nd_of [0] rfl (by decide), (fun i hi => by first | rfl | (show (if _ then _ else _) = _; (repeat' split) <;> omega))⟩, ?_⟩
        exact h
      ·
        replace h := bif_f h hc57
        refine iwp_skip ?_
        refine thenQ_n ⟨(1099511627776, 255), (fun i => i), ⟨(.cons (.same rfl rfl) (.cons (.same rfl rfl) (.cons (.same rfl rfl) (.cons (.same rfl rfl) .nil)))), (.cons (.blk rfl rfl rfl) .nil), nd_of [0] rfl (by decide), (fun i hi => by first | rfl | (show (if _ then _ else _) = _; (repeat' split) <;> omega))⟩, ?_⟩
        exact h
    ·
      rintro ⟨v6, v7⟩ h
      unfold sennitref15_ranges_J1 at h
      obtain ⟨x8, hx8, h⟩ := bno_e h
      refine iwp_reg (ils_cons rfl (iop_fieldAddr_ref rfl rfl (by decide) Try.underlying40 rfl ti3 (by decide) (sv (d := .ref _ _) rfl) (off' := 5) rfl) <|
        ils_cons rfl (iop_load_rs (d := .int _ _) rfl rfl (by decide) Try.underlying3 ag3 ti3 (by decide) (sv (d := .ref _ _) rfl) rfl (nle rfl) rfl) <|
        ils_cons rfl (iop_call (r := .bool _) rfl rfl (by decide) cl62 (.cons (sv (d := .int _ _) rfl) (.cons (sv (d := .int _ 1) rfl) (.cons (sv (d := .int _ 256) rfl) .nil))) rfl (p_sennitref15_in _ _ _ _ hx8)) <|
        ils_cons rfl (iop_assign rfl rfl (by decide) (sv (d := .bool _) rfl)) <|
        ils_end ?_)
      refine iwp_join (α := Bool) (fun z => ⟨[(1, .ref 0 0), (3, .int .i64 v3), (4, .int .i64 v6), (5, .int .i64 v7), (6, .bool z)], [(0, .blk 40 [.int .u8 a0.Kind, .bool a0.Flag, .int .i64 a0.Stream, .int .i64 a0.Offset, .int .i64 a0.Dep, .int .i64 a0.Weight, .int .i64 a0.N, .int .i64 a0.Code, .slice false (a0.Pairs.map E_api_Pair.d), .str a0.Data])]⟩) (fun z => sennitref15_ranges_J2 a0 v3 v6 v7 z = some r) ?_ ?_
      ·
        obtain ⟨x52, hx52, h⟩ := bnd_e h
        obtain ⟨x53, hx53, h⟩ := bnd_e h
        obtain ⟨x54, hx54, h⟩ := bnd_e h
        refine iwp_reg (ils_cons rfl (iop_fieldAddr_ref rfl rfl (by decide) Try.underlying40 rfl ti5 (by decide) (sv (d := .ref _ _) rfl) (off' := 0) rfl) <|
          ils_cons rfl (iop_load_rs (d := .int _ _) rfl rfl (by decide) Try.underlying5 ag5 ti5 (by decide) (sv (d := .ref _ _) rfl) rfl (nle rfl) rfl) <|
          ils_cons rfl (iop_cmpx rfl rfl (by decide) (sv (d := .int _ _) rfl) (sv (d := .int _ 1) rfl) rfl hx52) <|
          ils_cons rfl (iop_move rfl rfl (by decide) (sv (d := .bool _) rfl)) <|
          ils_guard rfl rfl (.one rfl) rfl (by decide) (fun hb => (iop_fieldAddr_ref rfl rfl (by decide) Try.underlying40 rfl ti5 (by decide) (sv (d := .ref _ _) rfl) (off' := 0) rfl)) <|
          ils_guard rfl rfl (.one rfl) rfl (by decide) (fun hb => (iop_load_rs (d := .int _ _) rfl rfl (by decide) Try.underlying5 ag5 ti5 (by decide) (svc (d := .ref _ _) rfl hb) rfl (nle rfl) rfl)) <|
          ils_guard rfl rfl (.one rfl) rfl (by decide) (fun hb => (iop_cmpx rfl rfl (by decide) (svc (d := .int _ _) rfl hb) (sv (d := .int _ 2) rfl) rfl hx53)) <|
          ils_cons rfl (iop_andx rfl rfl (by decide) (sv (d := .bool _) rfl) rfl rfl hx54) <|
          ils_end ?_)
        refine iwp_cond (b := _) rfl (fun hc55 => ?_) (fun hc55 => ?_)
        ·
          replace h := bif_t h hc55
          refine iwp_region (ils_cons rfl (iop_assign rfl rfl (by decide) (sv (d := .bool true) rfl)) <|
            ils_nil ?_)
          refine thenQ_n ⟨true, (fun i => i), ⟨(.cons (.same rfl rfl) (.cons (.same rfl rfl) (.cons (.same rfl rfl) (.cons (.same rfl rfl) (.cons (.same rfl rfl) .nil))))), (.cons (.blk rfl rfl rfl) .nil), nd_of [0] rfl (by decide), (fun i hi => by first | rfl | (show (if _ then _ else _) = _; (repeat' split) <;> omega))⟩, ?_⟩
          exact h
        ·
          replace h := bif_f h hc55
          refine iwp_skip ?_
          refine thenQ_n ⟨x8, (fun i => i), ⟨(.cons (.same rfl rfl) (.cons (.same rfl rfl) (.cons (.same rfl rfl) (.cons (.same rfl rfl) (.cons (.same rfl rfl) .nil))))), (.cons (.blk rfl rfl rfl) .nil), nd_of [0] rfl (by decide), (fun i hi => by first | rfl | (show (if _ then _ else _) = _; (repeat' split) <;> omega))⟩, ?_⟩
          exact h
      ·
        rintro v13 h
        unfold sennitref15_ranges_J2 at h
        refine iwp_seq ?_
        refine iwp_reg (ils_cons rfl (iop_assign rfl rfl (by decide) (sv (d := .int _ 0) rfl)) <|
          ils_end ?_)
        refine iwp_block ?_
        refine iwp_loopP (α := Nat × Int) (fun z => ⟨[(1, .ref 0 0), (3, .int .i64 v3), (4, .int .i64 v6), (5, .int .i64 v7), (6, .bool v13), (7, .int .i64 z.2)], [(0, .blk 40 [.int .u8 a0.Kind, .bool a0.Flag, .int .i64 a0.Stream, .int .i64 a0.Offset, .int .i64 a0.Dep, .int .i64 a0.Weight, .int .i64 a0.N, .int .i64 a0.Code, .slice false (a0.Pairs.map E_api_Pair.d), .str a0.Data])]⟩) (fun z => sennitref15_ranges_L3 a0 v3 v6 v7 v13 z.1 z.2 = some r) (fun z => z.1) (fuel, 0) (fun i => i) ⟨(.cons (.same rfl rfl) (.cons (.same rfl rfl) (.cons (.same rfl rfl) (.cons (.same rfl rfl) (.cons (.same rfl rfl) (.cons (.same rfl rfl) .nil)))))), (.cons (.blk rfl rfl rfl) .nil), nd_of [0] rfl (by decide), (fun i hi => by first | rfl | (show (if _ then _ else _) = _; (repeat' split) <;> omega))⟩ ?_ ?_
        · exact h
        ·
          rintro ⟨n3, v23⟩ h
          cases n3 with
          | zero => exact absurd h (by unfold sennitref15_ranges_L3; exact nofun)
          | succ n3 =>
            unfold sennitref15_ranges_L3 at h
            refine iwp_seq ?_
            obtain ⟨x33, hx33, h⟩ := bnd_e h
            refine iwp_reg (ils_cons rfl (iop_move rfl rfl (by decide) (sv (d := .int _ _) rfl)) <|
              ils_cons rfl (iop_fieldAddr_ref rfl rfl (by decide) Try.underlying40 rfl ti38 (by decide) (sv (d := .ref _ _) rfl) (off' := 8) rfl) <|
              ils_cons rfl (iop_load_rs (d := .slice _ _) rfl rfl (by decide) Try.underlying38 ag38 ti38 (by decide) (sv (d := .ref _ _) rfl) rfl (nle rfl) rfl) <|
              ils_cons rfl (iop_lenT E_api_Pair (l := a0.Pairs) rfl rfl (by decide) Try.underlying38 (sv (d := .slice _ _) rfl)) <|
              ils_cons rfl (iop_cmpx rfl rfl (by decide) (sv (d := .int _ _) rfl) (sv (d := .int _ _) rfl) rfl hx33) <|
              ils_end ?_)
            refine iwp_cond (b := _) rfl (fun hc34 => ?_) (fun hc34 => ?_)
            ·
              replace h := bif_t h hc34
              refine iwp_skip ?_
              refine thenQ_n ?_
              refine iwp_seq ?_
              refine iwp_block ?_
              obtain ⟨x35, hx35, h⟩ := bno_e h
              obtain ⟨x36, hx36, h⟩ := bno_e h
              obtain ⟨x37, hx37, h⟩ := bno_e h
              obtain ⟨x38, hx38, h⟩ := bno_e h
              obtain ⟨x39, hx39, h⟩ := bnd_e h
              refine iwp_reg (ils_cons rfl (iop_fieldAddr_ref rfl rfl (by decide) Try.underlying40 rfl ti38 (by decide) (sv (d := .ref _ _) rfl) (off' := 8) rfl) <|
                ils_cons rfl (iop_load_rs (d := .slice _ _) rfl rfl (by decide) Try.underlying38 ag38 ti38 (by decide) (sv (d := .ref _ _) rfl) rfl (nle rfl) rfl) <|
                ils_cons rfl (iop_move rfl rfl (by decide) (sv (d := .int _ _) rfl)) <|
                ils_cons rfl (iop_idxT E_api_Pair (cs := [.int _ _, .int _ _]) rfl rfl (by decide) Try.underlying38 ti77 (sv (d := .slice _ _) rfl) (sv (d := .int _ _) rfl) hx35 rfl rfl) <|
                ils_cons rfl (iop_fieldAddr_fptr (cs' := [.int _ _]) rfl rfl (by decide) Try.underlying77 rfl ti3 (by decide) (sv (d := .fptr [.int _ _, .int _ _]) rfl) rfl) <|
                ils_cons rfl (iop_load_fs rfl rfl (by decide) Try.underlying3 ag3 ti3 (by decide) (sv (d := .fptr [.int _ _]) rfl) (nle rfl)) <|
                ils_cons rfl (iop_call (r := .bool _) rfl rfl (by decide) cl62 (.cons (sv (d := .int _ _) rfl) (.cons (sv (d := .int _ 0) rfl) (.cons (sv (d := .int _ 1099511627776) rfl) .nil))) rfl (p_sennitref15_in _ _ _ _ hx36)) <|
                ils_cons rfl (iop_not rfl rfl (by decide) (sv (d := .bool _) rfl)) <|
                ils_cons rfl (iop_move rfl rfl (by decide) (sv (d := .bool _) rfl)) <|
                ils_guard rfl rfl (.one rfl) rfl (by decide) (fun hb => (iop_fieldAddr_ref rfl rfl (by decide) Try.underlying40 rfl ti38 (by decide) (sv (d := .ref _ _) rfl) (off' := 8) rfl)) <|
                ils_guard rfl rfl (.one rfl) rfl (by decide) (fun hb => (iop_load_rs (d := .slice _ _) rfl rfl (by decide) Try.underlying38 ag38 ti38 (by decide) (svc (d := .ref _ _) rfl hb) rfl (nle rfl) rfl)) <|
                ils_guard rfl rfl (.one rfl) rfl (by decide) (fun hb => (iop_move rfl rfl (by decide) (sv (d := .int _ _) rfl))) <|
                ils_guard rfl rfl (.one rfl) rfl (by decide) (fun hb => (iop_idxT E_api_Pair (cs := [.int _ _, .int _ _]) rfl rfl (by decide) Try.underlying38 ti77 (svc (d := .slice _ _) rfl hb) (svc (d := .int _ _) rfl hb) (gd_t hx37 hb) rfl rfl)) <|
                ils_guard rfl rfl (.one rfl) rfl (by decide) (fun hb => (iop_fieldAddr_fptr (cs' := [.int _ _]) rfl rfl (by decide) Try.underlying77 rfl ti3 (by decide) (svc (d := .fptr [.int _ _, .int _ _]) rfl hb) rfl)) <|
                ils_guard rfl rfl (.one rfl) rfl (by decide) (fun hb => (iop_load_fs rfl rfl (by decide) Try.underlying3 ag3 ti3 (by decide) (svc (d := .fptr [.int _ _]) rfl hb) (nle rfl))) <|
                ils_guard rfl rfl (.one rfl) rfl (by decide) (fun hb => (iop_call (r := .bool _) rfl rfl (by decide) cl62 (.cons (svc (d := .int _ _) rfl hb) (.cons (sv (d := .int _ 0) rfl) (.cons (sv (d := .int _ 1099511627776) rfl) .nil))) rfl (p_sennitref15_in _ _ _ _ (gd_t hx38 hb)))) <|
                ils_guard rfl rfl (.one rfl) rfl (by decide) (fun hb => (iop_not rfl rfl (by decide) (svc (d := .bool _) rfl hb))) <|
                ils_cons rfl (iop_orx rfl rfl (by decide) (sv (d := .bool _) rfl) rfl rfl hx39) <|
                ils_end ?_)
              refine iwp_cond (b := _) rfl (fun hc40 => ?_) (fun hc40 => ?_)
              ·
                replace h := bif_t h hc40
                refine iwp_reg (ils_cons rfl (iop_assign rfl rfl (by decide) (sv (d := .bool false) rfl)) <|
                  ils_end ?_)
                refine iwp_ret ?_
                refine blockQ_r ?_
                refine thenQ_r ?_
                refine thenQ_r ?_
                refine blockQ_r ?_
                refine thenQ_r ?_
                obtain rfl := Option.some.inj h
                refine ⟨.inr rfl, (.cons (sv rfl) .nil)⟩
              ·
                replace h := bif_f h hc40
                refine iwp_skip ?_
                refine blockQ_n ?_
                refine thenQ_n ?_
                obtain ⟨x41, hx41, h⟩ := bnd_e h
                refine iwp_region (ils_cons rfl (iop_move rfl rfl (by decide) (sv (d := .int _ _) rfl)) <|
                  ils_cons rfl (iop_intx rfl rfl (by decide) (sv (d := .int _ _) rfl) (sv (d := .int _ 1) rfl) rfl hx41) <|
                  ils_cons rfl (iop_assign rfl rfl (by decide) (sv (d := .int _ _) rfl)) <|
                  ils_nil ?_)
                refine thenQ_n ⟨(n3, x41), (fun i => i), ⟨(.cons (.same rfl rfl) (.cons (.same rfl rfl) (.cons (.same rfl rfl) (.cons (.same rfl rfl) (.cons (.same rfl rfl) (.cons (.same rfl rfl) .nil)))))), (.cons (.blk rfl rfl rfl) .nil), nd_of [0] rfl (by decide), (fun i hi => by first | rfl | (show (if _ then _ else _) = _; (repeat' split) <;> omega))⟩, ?_, ?_⟩
                exact h
                exact Nat.lt_succ_self _
            ·
              replace h := bif_f h hc34
              refine iwp_exit ?_
              refine thenQ_e ?_
              refine thenQ_e ?_
              refine blockQ_e ?_
              refine thenQ_n ?_
              obtain ⟨x42, hx42, h⟩ := bno_e h
              obtain ⟨x43, hx43, h⟩ := bno_e h
              obtain ⟨x44, hx44, h⟩ := bnd_e h
              obtain ⟨x45, hx45, h⟩ := bno_e h
              obtain ⟨x46, hx46, h⟩ := bnd_e h
              obtain ⟨x47, hx47, h⟩ := bnd_e h
              obtain ⟨x48, hx48, h⟩ := bno_e h
              obtain ⟨x49, hx49, h⟩ := bnd_e h
              obtain ⟨x50, hx50, h⟩ := bno_e h
              obtain ⟨x51, hx51, h⟩ := bnd_e h
              refine iwp_reg (ils_cons rfl (iop_fieldAddr_ref rfl rfl (by decide) Try.underlying40 rfl ti3 (by decide) (sv (d := .ref _ _) rfl) (off' := 2) rfl) <|
                ils_cons rfl (iop_load_rs (d := .int _ _) rfl rfl (by decide) Try.underlying3 ag3 ti3 (by decide) (sv (d := .ref _ _) rfl) rfl (nle rfl) rfl) <|
                ils_cons rfl (iop_call (r := .bool _) rfl rfl (by decide) cl62 (.cons (sv (d := .int _ _) rfl) (.cons (sv (d := .int _ 0) rfl) (.cons (sv (d := .int _ 1048576) rfl) .nil))) rfl (p_sennitref15_in _ _ _ _ hx42)) <|
                ils_cons rfl (iop_move rfl rfl (by decide) (sv (d := .bool _) rfl)) <|
                ils_guard rfl rfl (.one rfl) rfl (by decide) (fun hb => (iop_fieldAddr_ref rfl rfl (by decide) Try.underlying40 rfl ti3 (by decide) (sv (d := .ref _ _) rfl) (off' := 3) rfl)) <|
                ils_guard rfl rfl (.one rfl) rfl (by decide) (fun hb => (iop_load_rs (d := .int _ _) rfl rfl (by decide) Try.underlying3 ag3 ti3 (by decide) (svc (d := .ref _ _) rfl hb) rfl (nle rfl) rfl)) <|
                ils_guard rfl rfl (.one rfl) rfl (by decide) (fun hb => (iop_call (r := .bool _) rfl rfl (by decide) cl62 (.cons (svc (d := .int _ _) rfl hb) (.cons (sv (d := .int _ 0) rfl) (.cons (sv (d := .int _ 1099511627776) rfl) .nil))) rfl (p_sennitref15_in _ _ _ _ (gd_t hx43 hb)))) <|
                ils_cons rfl (iop_andx rfl rfl (by decide) (sv (d := .bool _) rfl) rfl rfl hx44) <|
                ils_cons rfl (iop_move rfl rfl (by decide) (sv (d := .bool _) rfl)) <|
                ils_guard rfl rfl (.one rfl) rfl (by decide) (fun hb => (iop_fieldAddr_ref rfl rfl (by decide) Try.underlying40 rfl ti3 (by decide) (sv (d := .ref _ _) rfl) (off' := 4) rfl)) <|
                ils_guard rfl rfl (.one rfl) rfl (by decide) (fun hb => (iop_load_rs (d := .int _ _) rfl rfl (by decide) Try.underlying3 ag3 ti3 (by decide) (svc (d := .ref _ _) rfl hb) rfl (nle rfl) rfl)) <|
                ils_guard rfl rfl (.one rfl) rfl (by decide) (fun hb => (iop_call (r := .bool _) rfl rfl (by decide) cl62 (.cons (svc (d := .int _ _) rfl hb) (.cons (sv (d := .int _ 0) rfl) (.cons (sv (d := .int _ 1048576) rfl) .nil))) rfl (p_sennitref15_in _ _ _ _ (gd_t hx45 hb)))) <|
                ils_cons rfl (iop_andx rfl rfl (by decide) (sv (d := .bool _) rfl) rfl rfl hx46) <|
                ils_cons rfl (iop_move rfl rfl (by decide) (sv (d := .bool _) rfl)) <|
                ils_guard rfl rfl (.one rfl) rfl (by decide) (fun hb => (iop_move rfl rfl (by decide) (sv (d := .bool _) rfl))) <|
                ils_cons rfl (iop_andx rfl rfl (by decide) (sv (d := .bool _) rfl) rfl rfl hx47) <|
                ils_cons rfl (iop_move rfl rfl (by decide) (sv (d := .bool _) rfl)) <|
                ils_guard rfl rfl (.one rfl) rfl (by decide) (fun hb => (iop_fieldAddr_ref rfl rfl (by decide) Try.underlying40 rfl ti3 (by decide) (sv (d := .ref _ _) rfl) (off' := 6) rfl)) <|
                ils_guard rfl rfl (.one rfl) rfl (by decide) (fun hb => (iop_load_rs (d := .int _ _) rfl rfl (by decide) Try.underlying3 ag3 ti3 (by decide) (svc (d := .ref _ _) rfl hb) rfl (nle rfl) rfl)) <|
                ils_guard rfl rfl (.one rfl) rfl (by decide) (fun hb => (iop_move rfl rfl (by decide) (sv (d := .int _ _) rfl))) <|
                ils_guard rfl rfl (.one rfl) rfl (by decide) (fun hb => (iop_move rfl rfl (by decide) (sv (d := .int _ _) rfl))) <|
                ils_guard rfl rfl (.one rfl) rfl (by decide) (fun hb => (iop_call (r := .bool _) rfl rfl (by decide) cl62 (.cons (svc (d := .int _ _) rfl hb) (.cons (svc (d := .int _ _) rfl hb) (.cons (svc (d := .int _ _) rfl hb) .nil))) rfl (p_sennitref15_in _ _ _ _ (gd_t hx48 hb)))) <|
                ils_cons rfl (iop_andx rfl rfl (by decide) (sv (d := .bool _) rfl) rfl rfl hx49) <|
                ils_cons rfl (iop_move rfl rfl (by decide) (sv (d := .bool _) rfl)) <|
                ils_guard rfl rfl (.one rfl) rfl (by decide) (fun hb => (iop_fieldAddr_ref rfl rfl (by decide) Try.underlying40 rfl ti3 (by decide) (sv (d := .ref _ _) rfl) (off' := 7) rfl)) <|
                ils_guard rfl rfl (.one rfl) rfl (by decide) (fun hb => (iop_load_rs (d := .int _ _) rfl rfl (by decide) Try.underlying3 ag3 ti3 (by decide) (svc (d := .ref _ _) rfl hb) rfl (nle rfl) rfl)) <|
                ils_guard rfl rfl (.one rfl) rfl (by decide) (fun hb => (iop_move rfl rfl (by decide) (sv (d := .int _ _) rfl))) <|
                ils_guard rfl rfl (.one rfl) rfl (by decide) (fun hb => (iop_call (r := .bool _) rfl rfl (by decide) cl62 (.cons (svc (d := .int _ _) rfl hb) (.cons (sv (d := .int _ 0) rfl) (.cons (svc (d := .int _ _) rfl hb) .nil))) rfl (p_sennitref15_in _ _ _ _ (gd_t hx50 hb)))) <|
                ils_cons rfl (iop_andx rfl rfl (by decide) (sv (d := .bool _) rfl) rfl rfl hx51) <|
                ils_cons rfl (iop_assign rfl rfl (by decide) (sv (d := .bool _) rfl)) <|
                ils_end ?_)
              refine iwp_ret ?_
              obtain rfl := Option.some.inj h
              refine ⟨.inr rfl, (.cons (sv rfl) .nil)⟩

set_option maxRecDepth 8000 in
set_option maxHeartbeats 2000000 in
theorem p_sennitref15_has (a0 : (List UInt8)) (a1 : Int) (r : Bool) (h : sennitref15_has a0 a1 = some r) : PureAt Try.prog 63 [.str a0, .int .u8 a1] (.bool r) := by
  refine pure_of_iwp (rs := [.bool r]) Try.func63 rfl Try.ntmps63 (nle rfl) rfl fun O hO => ?_
  show IWP _ _ _ _ ⟨[(0, .str a0), (1, .int .u8 a1)], []⟩ _
  unfold sennitref15_has at h
  refine iwp_reg (ils_cons rfl (iop_assign rfl rfl (by decide) (sv (d := .bool false) rfl)) <|
    ils_end ?_)
  refine iwp_seq ?_
  refine iwp_reg (ils_cons rfl (iop_assign rfl rfl (by decide) (sv (d := .int _ 0) rfl)) <|
    ils_end ?_)
  refine iwp_block ?_
  refine iwp_loopP (α := Nat × Int) (fun z => ⟨[(0, .str a0), (1, .int .u8 a1), (5, .int .i64 z.2)], []⟩) (fun z => sennitref15_has_L0 a0 a1 z.1 z.2 = some r) (fun z => z.1) (fuel, 0) (fun i => i) ⟨(.cons (.same rfl rfl) (.cons (.same rfl rfl) (.cons (.same rfl rfl) .nil))), .nil, nd_of [] rfl (by decide), (fun i hi => by first | rfl | (show (if _ then _ else _) = _; (repeat' split) <;> omega))⟩ ?_ ?_
  · exact h
  ·
    rintro ⟨n0, v7⟩ h
    cases n0 with
    | zero => exact absurd h (by unfold sennitref15_has_L0; exact nofun)
    | succ n0 =>
      unfold sennitref15_has_L0 at h
      refine iwp_seq ?_
      obtain ⟨x14, hx14, h⟩ := bnd_e h
      refine iwp_reg (ils_cons rfl (iop_move rfl rfl (by decide) (sv (d := .int _ _) rfl)) <|
        ils_cons rfl (iop_move rfl rfl (by decide) (sv (d := .str _) rfl)) <|
        ils_cons rfl (iop_len_str rfl rfl (by decide) Try.underlying9 (sv (d := .str _) rfl) rfl) <|
        ils_cons rfl (iop_cmpx rfl rfl (by decide) (sv (d := .int _ _) rfl) (sv (d := .int _ _) rfl) rfl hx14) <|
        ils_end ?_)
      refine iwp_cond (b := _) rfl (fun hc15 => ?_) (fun hc15 => ?_)
      ·
        replace h := bif_t h hc15
        refine iwp_skip ?_
        refine thenQ_n ?_
        refine iwp_seq ?_
        refine iwp_block ?_
        obtain ⟨x16, hx16, h⟩ := bno_e h
        obtain ⟨x17, hx17, h⟩ := bnd_e h
        refine iwp_reg (ils_cons rfl (iop_move rfl rfl (by decide) (sv (d := .str _) rfl)) <|
          ils_cons rfl (iop_move rfl rfl (by decide) (sv (d := .int _ _) rfl)) <|
          ils_cons rfl (iop_str_at rfl rfl (by decide) Try.underlying9 (sv (d := .str _) rfl) (sv (d := .int _ _) rfl) hx16) <|
          ils_cons rfl (iop_move rfl rfl (by decide) (sv (d := .int _ _) rfl)) <|
          ils_cons rfl (iop_cmpx rfl rfl (by decide) (sv (d := .int _ _) rfl) (sv (d := .int _ _) rfl) rfl hx17) <|
          ils_end ?_)
        refine iwp_cond (b := _) rfl (fun hc18 => ?_) (fun hc18 => ?_)
        ·
          replace h := bif_t h hc18
          refine iwp_reg (ils_cons rfl (iop_assign rfl rfl (by decide) (sv (d := .bool true) rfl)) <|
            ils_end ?_)
          refine iwp_ret ?_
          refine blockQ_r ?_
          refine thenQ_r ?_
          refine thenQ_r ?_
          refine blockQ_r ?_
          refine thenQ_r ?_
          obtain rfl := Option.some.inj h
          refine ⟨.inr rfl, (.cons (sv rfl) .nil)⟩
        ·
          replace h := bif_f h hc18
          refine iwp_skip ?_
          refine blockQ_n ?_
          refine thenQ_n ?_
          obtain ⟨x19, hx19, h⟩ := bnd_e h
          refine iwp_region (ils_cons rfl (iop_move rfl rfl (by decide) (sv (d := .int _ _) rfl)) <|
            ils_cons rfl (iop_intx rfl rfl (by decide) (sv (d := .int _ _) rfl) (sv (d := .int _ 1) rfl) rfl hx19) <|
            ils_cons rfl (iop_assign rfl rfl (by decide) (sv (d := .int _ _) rfl)) <|
            ils_nil ?_)
          refine thenQ_n ⟨(n0, x19), (fun i => i), ⟨(.cons (.same rfl rfl) (.cons (.same rfl rfl) (.cons (.same rfl rfl) .nil))), .nil, nd_of [] rfl (by decide), (fun i hi => by first | rfl | (show (if _ then _ else _) = _; (repeat' split) <;> omega))⟩, ?_, ?_⟩
          exact h
          exact Nat.lt_succ_self _
      ·
        replace h := bif_f h hc15
        refine iwp_exit ?_
        refine thenQ_e ?_
        refine thenQ_e ?_
        refine blockQ_e ?_
        refine thenQ_n ?_
        refine iwp_reg (ils_cons rfl (iop_assign rfl rfl (by decide) (sv (d := .bool false) rfl)) <|
          ils_end ?_)
        refine iwp_ret ?_
        obtain rfl := Option.some.inj h
        refine ⟨.inr rfl, (.cons (sv rfl) .nil)⟩

set_option maxRecDepth 8000 in
set_option maxHeartbeats 2000000 in
theorem p_sennitref15_value (a0 : T_frame_Frame) (a1 : Int) (r : Int) (h : sennitref15_value a0 a1 = some r) : PureAt Try.prog 54 [.agg [.int .u8 a0.Kind, .bool a0.Flag, .int .i64 a0.Stream, .int .i64 a0.Offset, .int .i64 a0.Dep, .int .i64 a0.Weight, .int .i64 a0.N, .int .i64 a0.Code, .slice false (a0.Pairs.map E_api_Pair.d), .str a0.Data], .int .u8 a1] (.int .i64 r) := by
  refine pure_of_iwp (rs := [.int .i64 r]) Try.func54 rfl Try.ntmps54 (nle rfl) rfl fun O hO => ?_
  show IWP _ _ _ _ ⟨[(0, .agg [.int .u8 a0.Kind, .bool a0.Flag, .int .i64 a0.Stream, .int .i64 a0.Offset, .int .i64 a0.Dep, .int .i64 a0.Weight, .int .i64 a0.N, .int .i64 a0.Code, .slice false (a0.Pairs.map E_api_Pair.d), .str a0.Data]), (1, .int .u8 a1)], []⟩ _
  unfold sennitref15_value at h
  refine iwp_reg (ils_cons rfl (iop_box' (cs := [.int _ _, .bool _, .int _ _, .int _ _, .int _ _, .int _ _, .int _ _, .int _ _, .slice _ _, .str _]) 0 rfl rfl (by decide) rfl (sv (d := .agg [.int _ _, .bool _, .int _ _, .int _ _, .int _ _, .int _ _, .int _ _, .int _ _, .slice _ _, .str _]) rfl) rfl rfl) <|
    ils_cons rfl (iop_assign rfl rfl (by decide) (sv (d := .int _ 0) rfl)) <|
    ils_end ?_)
  refine iwp_seq ?_
  refine iwp_reg (ils_cons rfl (iop_move rfl rfl (by decide) (sv (d := .int _ _) rfl)) <|
    ils_end ?_)
  refine iwp_block ?_
  obtain ⟨x1, hx1, h⟩ := bnd_e h
  refine iwp_reg (ils_cons rfl (iop_cmpx rfl rfl (by decide) (sv (d := .int _ _) rfl) (sv (d := .int _ 115) rfl) rfl hx1) <|
    ils_cons rfl (iop_assign rfl rfl (by decide) (sv (d := .bool _) rfl)) <|
    ils_end ?_)
  refine iwp_cond (b := _) rfl (fun hc2 => ?_) (fun hc2 => ?_)
  ·
    replace h := bif_t h hc2
    refine iwp_reg (ils_cons rfl (iop_fieldAddr_ref rfl rfl (by decide) Try.underlying40 rfl ti3 (by decide) (sv (d := .ref _ _) rfl) (off' := 2) rfl) <|
      ils_cons rfl (iop_load_rs (d := .int _ _) rfl rfl (by decide) Try.underlying3 ag3 ti3 (by decide) (sv (d := .ref _ _) rfl) rfl (nle rfl) rfl) <|
      ils_cons rfl (iop_assign rfl rfl (by decide) (sv (d := .int _ _) rfl)) <|
      ils_end ?_)
    refine iwp_ret ?_
    refine blockQ_r ?_
    refine thenQ_r ?_
    obtain rfl := Option.some.inj h
    refine ⟨.inr rfl, (.cons (sv rfl) .nil)⟩
  ·
    replace h := bif_f h hc2
    obtain ⟨x3, hx3, h⟩ := bnd_e h
    refine iwp_reg (ils_cons rfl (iop_cmpx rfl rfl (by decide) (sv (d := .int _ _) rfl) (sv (d := .int _ 111) rfl) rfl hx3) <|
      ils_cons rfl (iop_assign rfl rfl (by decide) (sv (d := .bool _) rfl)) <|
      ils_end ?_)
    refine iwp_cond (b := _) rfl (fun hc4 => ?_) (fun hc4 => ?_)
    ·
      replace h := bif_t h hc4
      refine iwp_reg (ils_cons rfl (iop_fieldAddr_ref rfl rfl (by decide) Try.underlying40 rfl ti3 (by decide) (sv (d := .ref _ _) rfl) (off' := 3) rfl) <|
        ils_cons rfl (iop_load_rs (d := .int _ _) rfl rfl (by decide) Try.underlying3 ag3 ti3 (by decide) (sv (d := .ref _ _) rfl) rfl (nle rfl) rfl) <|
        ils_cons rfl (iop_assign rfl rfl (by decide) (sv (d := .int _ _) rfl)) <|
        ils_end ?_)
      refine iwp_ret ?_
      refine blockQ_r ?_
      refine thenQ_r ?_
      obtain rfl := Option.some.inj h
      refine ⟨.inr rfl, (.cons (sv rfl) .nil)⟩
    ·
      replace h := bif_f h hc4
      obtain ⟨x5, hx5, h⟩ := bnd_e h
      refine iwp_reg (ils_cons rfl (iop_cmpx rfl rfl (by decide) (sv (d := .int _ _) rfl) (sv (d := .int _ 100) rfl) rfl hx5) <|
        ils_cons rfl (iop_assign rfl rfl (by decide) (sv (d := .bool _) rfl)) <|
        ils_end ?_)
      refine iwp_cond (b := _) rfl (fun hc6 => ?_) (fun hc6 => ?_)
      ·
        replace h := bif_t h hc6
        refine iwp_reg (ils_cons rfl (iop_fieldAddr_ref rfl rfl (by decide) Try.underlying40 rfl ti3 (by decide) (sv (d := .ref _ _) rfl) (off' := 4) rfl) <|
          ils_cons rfl (iop_load_rs (d := .int _ _) rfl rfl (by decide) Try.underlying3 ag3 ti3 (by decide) (sv (d := .ref _ _) rfl) rfl (nle rfl) rfl) <|
          ils_cons rfl (iop_assign rfl rfl (by decide) (sv (d := .int _ _) rfl)) <|
          ils_end ?_)
        refine iwp_ret ?_
        refine blockQ_r ?_
        refine thenQ_r ?_
        obtain rfl := Option.some.inj h
        refine ⟨.inr rfl, (.cons (sv rfl) .nil)⟩
      ·
        replace h := bif_f h hc6
        obtain ⟨x7, hx7, h⟩ := bnd_e h
        refine iwp_reg (ils_cons rfl (iop_cmpx rfl rfl (by decide) (sv (d := .int _ _) rfl) (sv (d := .int _ 119) rfl) rfl hx7) <|
          ils_cons rfl (iop_assign rfl rfl (by decide) (sv (d := .bool _) rfl)) <|
          ils_end ?_)
        refine iwp_cond (b := _) rfl (fun hc8 => ?_) (fun hc8 => ?_)
        ·
          replace h := bif_t h hc8
          refine iwp_reg (ils_cons rfl (iop_fieldAddr_ref rfl rfl (by decide) Try.underlying40 rfl ti3 (by decide) (sv (d := .ref _ _) rfl) (off' := 5) rfl) <|
            ils_cons rfl (iop_load_rs (d := .int _ _) rfl rfl (by decide) Try.underlying3 ag3 ti3 (by decide) (sv (d := .ref _ _) rfl) rfl (nle rfl) rfl) <|
            ils_cons rfl (iop_assign rfl rfl (by decide) (sv (d := .int _ _) rfl)) <|
            ils_end ?_)
          refine iwp_ret ?_
          refine blockQ_r ?_
          refine thenQ_r ?_
          obtain rfl := Option.some.inj h
          refine ⟨.inr rfl, (.cons (sv rfl) .nil)⟩
        ·
          replace h := bif_f h hc8
          obtain ⟨x9, hx9, h⟩ := bnd_e h
          refine iwp_reg (ils_cons rfl (iop_cmpx rfl rfl (by decide) (sv (d := .int _ _) rfl) (sv (d := .int _ 110) rfl) rfl hx9) <|
            ils_cons rfl (iop_assign rfl rfl (by decide) (sv (d := .bool _) rfl)) <|
            ils_end ?_)
          refine iwp_cond (b := _) rfl (fun hc10 => ?_) (fun hc10 => ?_)
          ·
            replace h := bif_t h hc10
            refine iwp_reg (ils_cons rfl (iop_fieldAddr_ref rfl rfl (by decide) Try.underlying40 rfl ti3 (by decide) (sv (d := .ref _ _) rfl) (off' := 6) rfl) <|
              ils_cons rfl (iop_load_rs (d := .int _ _) rfl rfl (by decide) Try.underlying3 ag3 ti3 (by decide) (sv (d := .ref _ _) rfl) rfl (nle rfl) rfl) <|
              ils_cons rfl (iop_assign rfl rfl (by decide) (sv (d := .int _ _) rfl)) <|
              ils_end ?_)
            refine iwp_ret ?_
            refine blockQ_r ?_
            refine thenQ_r ?_
            obtain rfl := Option.some.inj h
            refine ⟨.inr rfl, (.cons (sv rfl) .nil)⟩
          ·
            replace h := bif_f h hc10
            refine iwp_skip ?_
            refine blockQ_n ?_
            refine thenQ_n ?_
            refine iwp_reg (ils_cons rfl (iop_fieldAddr_ref rfl rfl (by decide) Try.underlying40 rfl ti3 (by decide) (sv (d := .ref _ _) rfl) (off' := 7) rfl) <|
              ils_cons rfl (iop_load_rs (d := .int _ _) rfl rfl (by decide) Try.underlying3 ag3 ti3 (by decide) (sv (d := .ref _ _) rfl) rfl (nle rfl) rfl) <|
              ils_cons rfl (iop_assign rfl rfl (by decide) (sv (d := .int _ _) rfl)) <|
              ils_end ?_)
            refine iwp_ret ?_
            obtain rfl := Option.some.inj h
            refine ⟨.inr rfl, (.cons (sv rfl) .nil)⟩

set_option maxRecDepth 8000 in
set_option maxHeartbeats 2000000 in
theorem p_sennitref15_flagged (a0 : Int) (r : Bool) (h : sennitref15_flagged a0 = some r) : PureAt Try.prog 64 [.int .u8 a0] (.bool r) := by
  refine pure_of_iwp (rs := [.bool r]) Try.func64 rfl Try.ntmps64 (nle rfl) rfl fun O hO => ?_
  show IWP _ _ _ _ ⟨[(0, .int .u8 a0)], []⟩ _
  unfold sennitref15_flagged at h
  refine iwp_reg (ils_cons rfl (iop_assign rfl rfl (by decide) (sv (d := .bool false) rfl)) <|
    ils_end ?_)
  obtain ⟨x1, hx1, h⟩ := bnd_e h
  obtain ⟨x2, hx2, h⟩ := bnd_e h
  obtain ⟨x3, hx3, h⟩ := bnd_e h
  obtain ⟨x4, hx4, h⟩ := bnd_e h
  obtain ⟨x5, hx5, h⟩ := bnd_e h
  obtain ⟨x6, hx6, h⟩ := bnd_e h
  obtain ⟨x7, hx7, h⟩ := bnd_e h
  refine iwp_reg (ils_cons rfl (iop_move rfl rfl (by decide) (sv (d := .int _ _) rfl)) <|
    ils_cons rfl (iop_cmpx rfl rfl (by decide) (sv (d := .int _ _) rfl) (sv (d := .int _ 2) rfl) rfl hx1) <|
    ils_cons rfl (iop_move rfl rfl (by decide) (sv (d := .bool _) rfl)) <|
    ils_guard rfl rfl (.one rfl) rfl (by decide) (fun hb => (iop_move rfl rfl (by decide) (sv (d := .int _ _) rfl))) <|
    ils_guard rfl rfl (.one rfl) rfl (by decide) (fun hb => (iop_cmpx rfl rfl (by decide) (svc (d := .int _ _) rfl hb) (sv (d := .int _ 4) rfl) rfl hx2)) <|
    ils_cons rfl (iop_orx rfl rfl (by decide) (sv (d := .bool _) rfl) rfl rfl hx3) <|
    ils_cons rfl (iop_move rfl rfl (by decide) (sv (d := .bool _) rfl)) <|
    ils_guard rfl rfl (.one rfl) rfl (by decide) (fun hb => (iop_move rfl rfl (by decide) (sv (d := .int _ _) rfl))) <|
    ils_guard rfl rfl (.one rfl) rfl (by decide) (fun hb => (iop_cmpx rfl rfl (by decide) (svc (d := .int _ _) rfl hb) (sv (d := .int _ 6) rfl) rfl hx4)) <|
    ils_cons rfl (iop_orx rfl rfl (by decide) (sv (d := .bool _) rfl) rfl rfl hx5) <|
    ils_cons rfl (iop_move rfl rfl (by decide) (sv (d := .bool _) rfl)) <|
    ils_guard rfl rfl (.one rfl) rfl (by decide) (fun hb => (iop_move rfl rfl (by decide) (sv (d := .int _ _) rfl))) <|
    ils_guard rfl rfl (.one rfl) rfl (by decide) (fun hb => (iop_cmpx rfl rfl (by decide) (svc (d := .int _ _) rfl hb) (sv (d := .int _ 9) rfl) rfl hx6)) <|
    ils_cons rfl (iop_orx rfl rfl (by decide) (sv (d := .bool _) rfl) rfl rfl hx7) <|
    ils_cons rfl (iop_assign rfl rfl (by decide) (sv (d := .bool _) rfl)) <|
    ils_end ?_)
  refine iwp_ret ?_
  obtain rfl := Option.some.inj h
  refine ⟨.inr rfl, (.cons (sv rfl) .nil)⟩

set_option maxRecDepth 8000 in
set_option maxHeartbeats 2000000 in
theorem p_sennitref15_spare (a0 : T_frame_Frame) (r : Bool) (h : sennitref15_spare a0 = some r) : PureAt Try.prog 42 [.agg [.int .u8 a0.Kind, .bool a0.Flag, .int .i64 a0.Stream, .int .i64 a0.Offset, .int .i64 a0.Dep, .int .i64 a0.Weight, .int .i64 a0.N, .int .i64 a0.Code, .slice false (a0.Pairs.map E_api_Pair.d), .str a0.Data]] (.bool r) := by
  refine pure_of_iwp (rs := [.bool r]) Try.func42 rfl Try.ntmps42 (nle rfl) rfl fun O hO => ?_
  show IWP _ _ _ _ ⟨[(0, .agg [.int .u8 a0.Kind, .bool a0.Flag, .int .i64 a0.Stream, .int .i64 a0.Offset, .int .i64 a0.Dep, .int .i64 a0.Weight, .int .i64 a0.N, .int .i64 a0.Code, .slice false (a0.Pairs.map E_api_Pair.d), .str a0.Data])], []⟩ _
  unfold sennitref15_spare at h
  refine iwp_reg (ils_cons rfl (iop_box' (cs := [.int _ _, .bool _, .int _ _, .int _ _, .int _ _, .int _ _, .int _ _, .int _ _, .slice _ _, .str _]) 0 rfl rfl (by decide) rfl (sv (d := .agg [.int _ _, .bool _, .int _ _, .int _ _, .int _ _, .int _ _, .int _ _, .int _ _, .slice _ _, .str _]) rfl) rfl rfl) <|
    ils_cons rfl (iop_assign rfl rfl (by decide) (sv (d := .bool false) rfl)) <|
    ils_end ?_)
  refine iwp_reg (ils_cons rfl (iop_assign rfl rfl (by decide) (sv (d := .str [115, 111, 100, 119, 110, 99]) rfl)) <|
    ils_end ?_)
  refine iwp_seq ?_
  refine iwp_reg (ils_cons rfl (iop_assign rfl rfl (by decide) (sv (d := .int _ 0) rfl)) <|
    ils_end ?_)
  refine iwp_block ?_
  refine iwp_loopP (α := Nat × Int) (fun z => ⟨[(1, .ref 0 0), (3, .str [115, 111, 100, 119, 110, 99]), (4, .int .i64 z.2)], [(0, .blk 40 [.int .u8 a0.Kind, .bool a0.Flag, .int .i64 a0.Stream, .int .i64 a0.Offset, .int .i64 a0.Dep, .int .i64 a0.Weight, .int .i64 a0.N, .int .i64 a0.Code, .slice false (a0.Pairs.map E_api_Pair.d), .str a0.Data])]⟩) (fun z => sennitref15_spare_L0 a0 z.1 z.2 = some r) (fun z => z.1) (fuel, 0) (fun i => i) ⟨(.cons (.same rfl rfl) (.cons (.same rfl rfl) (.cons (.same rfl rfl) .nil))), (.cons (.blk rfl rfl rfl) .nil), nd_of [0] rfl (by decide), (fun i hi => by first | rfl | (show (if _ then _ else _) = _; (repeat' split) <;> omega))⟩ ?_ ?_
  · exact h
  ·
    rintro ⟨n0, v12⟩ h
    cases n0 with
    | zero => exact absurd h (by unfold sennitref15_spare_L0; exact nofun)
    | succ n0 =>
      unfold sennitref15_spare_L0 at h
      refine iwp_seq ?_
      obtain ⟨x24, hx24, h⟩ := bnd_e h
      refine iwp_reg (ils_cons rfl (iop_move rfl rfl (by decide) (sv (d := .int _ _) rfl)) <|
        ils_cons rfl (iop_move rfl rfl (by decide) (sv (d := .str _) rfl)) <|
        ils_cons rfl (iop_len_str rfl rfl (by decide) Try.underlying9 (sv (d := .str _) rfl) rfl) <|
        ils_cons rfl (iop_cmpx rfl rfl (by decide) (sv (d := .int _ _) rfl) (sv (d := .int _ _) rfl) rfl hx24) <|
        ils_end ?_)
      refine iwp_cond (b := _) rfl (fun hc25 => ?_) (fun hc25 => ?_)
      ·
        replace h := bif_t h hc25
        refine iwp_skip ?_
        refine thenQ_n ?_
        refine iwp_seq ?_
        refine iwp_block ?_
        obtain ⟨x26, hx26, h⟩ := bno_e h
        obtain ⟨x27, hx27, h⟩ := bno_e h
        obtain ⟨x28, hx28, h⟩ := bno_e h
        obtain ⟨x29, hx29, h⟩ := bno_e h
        obtain ⟨x30, hx30, h⟩ := bno_e h
        obtain ⟨x31, hx31, h⟩ := bnd_e h
        obtain ⟨x32, hx32, h⟩ := bnd_e h
        refine iwp_drw rfl [⟨[1], [], [(11, .ref 0 0)], []⟩,
          ⟨[11], [0], [(12, .int .u8 a0.Kind)], []⟩,
          ⟨[12], [], [(13, .str x26)], []⟩,
          ⟨[3], [], [(14, .str [115, 111, 100, 119, 110, 99])], []⟩,
          ⟨[4], [], [(15, .int .i64 v12)], []⟩,
          ⟨[14, 15], [], [(16, .int .u8 (x27.toNat : Int))], []⟩,
          ⟨[13, 16], [], [(17, .bool x28)], []⟩,
          ⟨[17], [], [(18, .bool (!x28))], []⟩,
          ⟨[18], [], [(19, .bool (!x28))], []⟩,
          ⟨[1, 19], [0], [(20, .cnd ((!x28) == true) (.agg [.int .u8 a0.Kind, .bool a0.Flag, .int .i64 a0.Stream, .int .i64 a0.Offset, .int .i64 a0.Dep, .int .i64 a0.Weight, .int .i64 a0.N, .int .i64 a0.Code, .slice false (a0.Pairs.map E_api_Pair.d), .str a0.Data]))], []⟩,
          ⟨[3, 19], [], [(21, .cnd ((!x28) == true) (.str [115, 111, 100, 119, 110, 99]))], []⟩,
          ⟨[4, 19], [], [(22, .cnd ((!x28) == true) (.int .i64 v12))], []⟩,
          ⟨[19, 21, 22], [], [(23, .cnd ((!x28) == true) (.int .u8 (x29.toNat : Int)))], []⟩,
          ⟨[19, 20, 23], [], [(24, .cnd ((!x28) == true) (.int .i64 x30))], []⟩,
          ⟨[19, 24], [], [(25, .cnd ((!x28) == true) (.bool x31))], []⟩,
          ⟨[19, 25], [], [(26, .bool x32)], []⟩] rfl ?_ (by kernel_rfl) ?_
        · refine .cons (lop rfl rfl fun S hA => (iop_fieldAddr_ref rfl rfl (by decide) Try.underlying40 rfl ti5 (by decide) (sv (d := .ref _ _) (agr hA rfl rfl)) (off' := 0) rfl)) ?_
          refine .cons (lop rfl rfl fun S hA => (iop_load_rs (d := .int _ _) rfl rfl (by decide) Try.underlying5 ag5 ti5 (by decide) (sv (d := .ref _ _) (agr hA rfl rfl)) (agi hA rfl rfl) (nle rfl) rfl)) ?_
          refine .cons (lop rfl rfl fun S hA => (iop_call (r := .str _) rfl rfl (by decide) cl40 (.cons (sv (d := .int _ _) (agr hA rfl rfl)) .nil) rfl (p_sennitref15_fields _ _ hx26))) ?_
          refine .cons (lop rfl rfl fun S hA => (iop_move rfl rfl (by decide) (sv (d := .str _) (agr hA rfl rfl)))) ?_
          refine .cons (lop rfl rfl fun S hA => (iop_move rfl rfl (by decide) (sv (d := .int _ _) (agr hA rfl rfl)))) ?_
          refine .cons (lop rfl rfl fun S hA => (iop_str_at rfl rfl (by decide) Try.underlying9 (sv (d := .str _) (agr hA rfl rfl)) (sv (d := .int _ _) (agr hA rfl rfl)) hx27)) ?_
          refine .cons (lop rfl rfl fun S hA => (iop_call (r := .bool _) rfl rfl (by decide) cl63 (.cons (sv (d := .str _) (agr hA rfl rfl)) (.cons (sv (d := .int _ _) (agr hA rfl rfl)) .nil)) rfl (p_sennitref15_has _ _ _ hx28))) ?_
          refine .cons (lop rfl rfl fun S hA => (iop_not rfl rfl (by decide) (sv (d := .bool _) (agr hA rfl rfl)))) ?_
          refine .cons (lop rfl rfl fun S hA => (iop_move rfl rfl (by decide) (sv (d := .bool _) (agr hA rfl rfl)))) ?_
          refine .cons (lopg rfl rfl rfl rfl (by decide) (fun S hA => grd1 hA rfl rfl) (fun S hA hb => (iop_load_ra (cs := [.int _ _, .bool _, .int _ _, .int _ _, .int _ _, .int _ _, .int _ _, .int _ _, .slice _ _, .str _]) rfl rfl (by decide) Try.underlying40 ag40 ti40 (by decide) (sv (d := .ref _ _) (agr hA rfl rfl)) (agi hA rfl rfl) (nle rfl) rfl))) ?_
          refine .cons (lopg rfl rfl rfl rfl (by decide) (fun S hA => grd1 hA rfl rfl) (fun S hA hb => (iop_move rfl rfl (by decide) (sv (d := .str _) (agr hA rfl rfl))))) ?_
          refine .cons (lopg rfl rfl rfl rfl (by decide) (fun S hA => grd1 hA rfl rfl) (fun S hA hb => (iop_move rfl rfl (by decide) (sv (d := .int _ _) (agr hA rfl rfl))))) ?_
          refine .cons (lopg rfl rfl rfl rfl (by decide) (fun S hA => grd1 hA rfl rfl) (fun S hA hb => (iop_str_at rfl rfl (by decide) Try.underlying9 (svc (d := .str _) (agr hA rfl rfl) hb) (svc (d := .int _ _) (agr hA rfl rfl) hb) (gd_t hx29 hb)))) ?_
          refine .cons (lopg rfl rfl rfl rfl (by decide) (fun S hA => grd1 hA rfl rfl) (fun S hA hb => (iop_call (r := .int _ _) rfl rfl (by decide) cl54 (.cons (svc (d := .agg [.int _ _, .bool _, .int _ _, .int _ _, .int _ _, .int _ _, .int _ _, .int _ _, .slice _ _, .str _]) (agr hA rfl rfl) hb) (.cons (svc (d := .int _ _) (agr hA rfl rfl) hb) .nil)) rfl (p_sennitref15_value _ _ _ (gd_t hx30 hb))))) ?_
          refine .cons (lopg rfl rfl rfl rfl (by decide) (fun S hA => grd1 hA rfl rfl) (fun S hA hb => (iop_cmpx rfl rfl (by decide) (svc (d := .int _ _) (agr hA rfl rfl) hb) (sv (d := .int _ 0) rfl) rfl hx31))) ?_
          refine .cons (lop rfl rfl fun S hA => (iop_andx rfl rfl (by decide) (sv (d := .bool _) (agr hA rfl rfl)) (agr hA rfl rfl) rfl hx32)) ?_
          exact .nil
        refine iwp_cond (b := _) rfl (fun hc33 => ?_) (fun hc33 => ?_)
        ·
          replace h := bif_t h hc33
          refine iwp_reg (ils_cons rfl (iop_assign rfl rfl (by decide) (sv (d := .bool true) rfl)) <|
            ils_end ?_)
          refine iwp_ret ?_
          refine blockQ_r ?_
          refine thenQ_r ?_
          refine thenQ_r ?_
          refine blockQ_r ?_
          refine thenQ_r ?_
          obtain rfl := Option.some.inj h
          refine ⟨.inr rfl, (.cons (sv rfl) .nil)⟩
        ·
          replace h := bif_f h hc33
          refine iwp_skip ?_
          refine blockQ_n ?_
          refine thenQ_n ?_
          obtain ⟨x34, hx34, h⟩ := bnd_e h
          refine iwp_region (ils_cons rfl (iop_move rfl rfl (by decide) (sv (d := .int _ _) rfl)) <|
            ils_cons rfl (iop_intx rfl rfl (by decide) (sv (d := .int _ _) rfl) (sv (d := .int _ 1) rfl) rfl hx34) <|
            ils_cons rfl (iop_assign rfl rfl (by decide) (sv (d := .int _ _) rfl)) <|
            ils_nil ?_)
          refine thenQ_n ⟨(n0, x34), (fun i => i), ⟨(.cons (.same rfl rfl) (.cons (.same rfl rfl) (.cons (.same rfl rfl) .nil))), (.cons (.blk rfl rfl rfl) .nil), nd_of [0] rfl (by decide), (fun i hi => by first | rfl | (show (if _ then _ else _) = _; (repeat' split) <;> omega))⟩, ?_, ?_⟩
          exact h
          exact Nat.lt_succ_self _
      ·
        replace h := bif_f h hc25
        refine iwp_exit ?_
        refine thenQ_e ?_
        refine thenQ_e ?_
        refine blockQ_e ?_
        refine thenQ_n ?_
        obtain ⟨x35, hx35, h⟩ := bnd_e h
        obtain ⟨x36, hx36, h⟩ := bnd_e h
        obtain ⟨x37, hx37, h⟩ := bnd_e h
        obtain ⟨x38, hx38, h⟩ := bnd_e h
        obtain ⟨x39, hx39, h⟩ := bnd_e h
        obtain ⟨x40, hx40, h⟩ := bnd_e h
        obtain ⟨x41, hx41, h⟩ := bnd_e h
        obtain ⟨x42, hx42, h⟩ := bno_e h
        obtain ⟨x43, hx43, h⟩ := bnd_e h
        obtain ⟨x44, hx44, h⟩ := bnd_e h
        obtain ⟨x45, hx45, h⟩ := bnd_e h
        obtain ⟨x46, hx46, h⟩ := bnd_e h
        refine iwp_reg (ils_cons rfl (iop_fieldAddr_ref rfl rfl (by decide) Try.underlying40 rfl ti5 (by decide) (sv (d := .ref _ _) rfl) (off' := 0) rfl) <|
          ils_cons rfl (iop_load_rs (d := .int _ _) rfl rfl (by decide) Try.underlying5 ag5 ti5 (by decide) (sv (d := .ref _ _) rfl) rfl (nle rfl) rfl) <|
          ils_cons rfl (iop_cmpx rfl rfl (by decide) (sv (d := .int _ _) rfl) (sv (d := .int _ 0) rfl) rfl hx35) <|
          ils_cons rfl (iop_move rfl rfl (by decide) (sv (d := .bool _) rfl)) <|
          ils_guard rfl rfl (.one rfl) rfl (by decide) (fun hb => (iop_fieldAddr_ref rfl rfl (by decide) Try.underlying40 rfl ti9 (by decide) (sv (d := .ref _ _) rfl) (off' := 9) rfl)) <|
          ils_guard rfl rfl (.one rfl) rfl (by decide) (fun hb => (iop_load_rs (d := .str _) rfl rfl (by decide) Try.underlying9 ag9 ti9 (by decide) (svc (d := .ref _ _) rfl hb) rfl (nle rfl) rfl)) <|
          ils_guard rfl rfl (.one rfl) rfl (by decide) (fun hb => (iop_strx rfl rfl (by decide) (svc (d := .str _) rfl hb) (sv (d := .str []) rfl) rfl hx36)) <|
          ils_cons rfl (iop_andx rfl rfl (by decide) (sv (d := .bool _) rfl) rfl rfl hx37) <|
          ils_cons rfl (iop_move rfl rfl (by decide) (sv (d := .bool _) rfl)) <|
          ils_guard rfl rfl (.one rfl) rfl (by decide) (fun hb => (iop_fieldAddr_ref rfl rfl (by decide) Try.underlying40 rfl ti5 (by decide) (sv (d := .ref _ _) rfl) (off' := 0) rfl)) <|
          ils_guard rfl rfl (.one rfl) rfl (by decide) (fun hb => (iop_load_rs (d := .int _ _) rfl rfl (by decide) Try.underlying5 ag5 ti5 (by decide) (svc (d := .ref _ _) rfl hb) rfl (nle rfl) rfl)) <|
          ils_guard rfl rfl (.one rfl) rfl (by decide) (fun hb => (iop_cmpx rfl rfl (by decide) (svc (d := .int _ _) rfl hb) (sv (d := .int _ 4) rfl) rfl hx38)) <|
          ils_guard rfl rfl (.one rfl) rfl (by decide) (fun hb => (iop_move rfl rfl (by decide) (svc (d := .bool _) rfl hb))) <|
          ils_guard rfl rfl (.two rfl) rfl (by decide) (fun hb => (iop_fieldAddr_ref rfl rfl (by decide) Try.underlying40 rfl ti38 (by decide) (sv (d := .ref _ _) rfl) (off' := 8) rfl)) <|
          ils_guard rfl rfl (.two rfl) rfl (by decide) (fun hb => (iop_load_rs (d := .slice _ _) rfl rfl (by decide) Try.underlying38 ag38 ti38 (by decide) (svc (d := .ref _ _) rfl hb) rfl (nle rfl) rfl)) <|
          ils_guard rfl rfl (.two rfl) rfl (by decide) (fun hb => (iop_lenT E_api_Pair (l := a0.Pairs) rfl rfl (by decide) Try.underlying38 (svc (d := .slice _ _) rfl hb))) <|
          ils_guard rfl rfl (.two rfl) rfl (by decide) (fun hb => (iop_cmpx rfl rfl (by decide) (svc (d := .int _ _) rfl hb) (sv (d := .int _ 0) rfl) rfl hx39)) <|
          ils_guard rfl rfl (.one rfl) rfl (by decide) (fun hb => (iop_and2x rfl rfl (by decide) hb (svc (d := .bool _) rfl hb) rfl rfl hx40)) <|
          ils_cons rfl (iop_orx rfl rfl (by decide) (sv (d := .bool _) rfl) rfl rfl hx41) <|
          ils_cons rfl (iop_move rfl rfl (by decide) (sv (d := .bool _) rfl)) <|
          ils_guard rfl rfl (.one rfl) rfl (by decide) (fun hb => (iop_fieldAddr_ref rfl rfl (by decide) Try.underlying40 rfl ti4 (by decide) (sv (d := .ref _ _) rfl) (off' := 1) rfl)) <|
          ils_guard rfl rfl (.one rfl) rfl (by decide) (fun hb => (iop_load_rs (d := .bool _) rfl rfl (by decide) Try.underlying4 ag4 ti4 (by decide) (svc (d := .ref _ _) rfl hb) rfl (nle rfl) rfl)) <|
          ils_guard rfl rfl (.one rfl) rfl (by decide) (fun hb => (iop_move rfl rfl (by decide) (svc (d := .bool _) rfl hb))) <|
          ils_guard rfl rfl (.two rfl) rfl (by decide) (fun hb => (iop_fieldAddr_ref rfl rfl (by decide) Try.underlying40 rfl ti5 (by decide) (sv (d := .ref _ _) rfl) (off' := 0) rfl)) <|
          ils_guard rfl rfl (.two rfl) rfl (by decide) (fun hb => (iop_load_rs (d := .int _ _) rfl rfl (by decide) Try.underlying5 ag5 ti5 (by decide) (svc (d := .ref _ _) rfl hb) rfl (nle rfl) rfl)) <|
          ils_guard rfl rfl (.two rfl) rfl (by decide) (fun hb => (iop_call (r := .bool _) rfl rfl (by decide) cl64 (.cons (svc (d := .int _ _) rfl hb) .nil) rfl (p_sennitref15_flagged _ _ (gd_t hx42 hb)))) <|
          ils_guard rfl rfl (.two rfl) rfl (by decide) (fun hb => (iop_not rfl rfl (by decide) (svc (d := .bool _) rfl hb))) <|
          ils_guard rfl rfl (.two rfl) rfl (by decide) (fun hb => (iop_move rfl rfl (by decide) (svc (d := .bool _) rfl hb))) <|
          ils_guard rfl rfl (.two rfl) rfl (by decide) (fun hb => (iop_fieldAddr_ref rfl rfl (by decide) Try.underlying40 rfl ti38 (by decide) (sv (d := .ref _ _) rfl) (off' := 8) rfl)) <|
          ils_guard rfl rfl (.two rfl) rfl (by decide) (fun hb => (iop_load_rs (d := .slice _ _) rfl rfl (by decide) Try.underlying38 ag38 ti38 (by decide) (svc (d := .ref _ _) rfl hb) rfl (nle rfl) rfl)) <|
          ils_guard rfl rfl (.two rfl) rfl (by decide) (fun hb => (iop_lenT E_api_Pair (l := a0.Pairs) rfl rfl (by decide) Try.underlying38 (svc (d := .slice _ _) rfl hb))) <|
          ils_guard rfl rfl (.two rfl) rfl (by decide) (fun hb => (iop_cmpx rfl rfl (by decide) (svc (d := .int _ _) rfl hb) (sv (d := .int _ 0) rfl) rfl hx43)) <|
          ils_guard rfl rfl (.two rfl) rfl (by decide) (fun hb => (iop_or2x rfl rfl (by decide) hb (svc (d := .bool _) rfl hb) rfl rfl hx44)) <|
          ils_guard rfl rfl (.one rfl) rfl (by decide) (fun hb => (iop_and2x rfl rfl (by decide) hb (svc (d := .bool _) rfl hb) rfl rfl hx45)) <|
          ils_cons rfl (iop_orx rfl rfl (by decide) (sv (d := .bool _) rfl) rfl rfl hx46) <|
          ils_cons rfl (iop_assign rfl rfl (by decide) (sv (d := .bool _) rfl)) <|
          ils_end ?_)
        refine iwp_ret ?_
        obtain rfl := Option.some.inj h
        refine ⟨.inr rfl, (.cons (sv rfl) .nil)⟩

set_option maxRecDepth 8000 in
set_option maxHeartbeats 2000000 in
theorem p_sennitref15_Check (a0 : T_frame_Frame) (r : Int) (h : sennitref15_Check a0 = some r) : PureAt Try.prog 23 [.agg [.int .u8 a0.Kind, .bool a0.Flag, .int .i64 a0.Stream, .int .i64 a0.Offset, .int .i64 a0.Dep, .int .i64 a0.Weight, .int .i64 a0.N, .int .i64 a0.Code, .slice false (a0.Pairs.map E_api_Pair.d), .str a0.Data]] (.int .i64 r) := by
  refine pure_of_iwp (rs := [.int .i64 r]) Try.func23 rfl Try.ntmps23 (nle rfl) rfl fun O hO => ?_
  show IWP _ _ _ _ ⟨[(0, .agg [.int .u8 a0.Kind, .bool a0.Flag, .int .i64 a0.Stream, .int .i64 a0.Offset, .int .i64 a0.Dep, .int .i64 a0.Weight, .int .i64 a0.N, .int .i64 a0.Code, .slice false (a0.Pairs.map E_api_Pair.d), .str a0.Data])], []⟩ _
  unfold sennitref15_Check at h
  refine iwp_reg (ils_cons rfl (iop_box' (cs := [.int _ _, .bool _, .int _ _, .int _ _, .int _ _, .int _ _, .int _ _, .int _ _, .slice _ _, .str _]) 0 rfl rfl (by decide) rfl (sv (d := .agg [.int _ _, .bool _, .int _ _, .int _ _, .int _ _, .int _ _, .int _ _, .int _ _, .slice _ _, .str _]) rfl) rfl rfl) <|
    ils_cons rfl (iop_assign rfl rfl (by decide) (sv (d := .int _ 0) rfl)) <|
    ils_end ?_)
  refine iwp_seq ?_
  refine iwp_block ?_
  obtain ⟨x1, hx1, h⟩ := bno_e h
  obtain ⟨x2, hx2, h⟩ := bnd_e h
  refine iwp_reg (ils_cons rfl (iop_fieldAddr_ref rfl rfl (by decide) Try.underlying40 rfl ti5 (by decide) (sv (d := .ref _ _) rfl) (off' := 0) rfl) <|
    ils_cons rfl (iop_load_rs (d := .int _ _) rfl rfl (by decide) Try.underlying5 ag5 ti5 (by decide) (sv (d := .ref _ _) rfl) rfl (nle rfl) rfl) <|
    ils_cons rfl (iop_call (r := .str _) rfl rfl (by decide) cl40 (.cons (sv (d := .int _ _) rfl) .nil) rfl (p_sennitref15_fields _ _ hx1)) <|
    ils_cons rfl (iop_strx rfl rfl (by decide) (sv (d := .str _) rfl) (sv (d := .str [45]) rfl) rfl hx2) <|
    ils_cons rfl (iop_assign rfl rfl (by decide) (sv (d := .bool _) rfl)) <|
    ils_end ?_)
  refine iwp_cond (b := _) rfl (fun hc3 => ?_) (fun hc3 => ?_)
  ·
    replace h := bif_t h hc3
    refine iwp_reg (ils_cons rfl (iop_assign rfl rfl (by decide) (sv (d := .int _ 12) rfl)) <|
      ils_end ?_)
    refine iwp_ret ?_
    refine blockQ_r ?_
    refine thenQ_r ?_
    obtain rfl := Option.some.inj h
    refine ⟨.inr rfl, (.cons (sv rfl) .nil)⟩
  ·
    replace h := bif_f h hc3
    obtain ⟨x4, hx4, h⟩ := bno_e h
    refine iwp_reg (ils_cons rfl (iop_load_ra (cs := [.int _ _, .bool _, .int _ _, .int _ _, .int _ _, .int _ _, .int _ _, .int _ _, .slice _ _, .str _]) rfl rfl (by decide) Try.underlying40 ag40 ti40 (by decide) (sv (d := .ref _ _) rfl) rfl (nle rfl) rfl) <|
      ils_cons rfl (iop_call (r := .bool _) rfl rfl (by decide) cl41 (.cons (sv (d := .agg [.int _ _, .bool _, .int _ _, .int _ _, .int _ _, .int _ _, .int _ _, .int _ _, .slice _ _, .str _]) rfl) .nil) rfl (p_sennitref15_ranges _ _ hx4)) <|
      ils_cons rfl (iop_not rfl rfl (by decide) (sv (d := .bool _) rfl)) <|
      ils_cons rfl (iop_assign rfl rfl (by decide) (sv (d := .bool _) rfl)) <|
      ils_end ?_)
    refine iwp_cond (b := _) rfl (fun hc5 => ?_) (fun hc5 => ?_)
    ·
      replace h := bif_t h hc5
      refine iwp_reg (ils_cons rfl (iop_assign rfl rfl (by decide) (sv (d := .int _ 8) rfl)) <|
        ils_end ?_)
      refine iwp_ret ?_
      refine blockQ_r ?_
      refine thenQ_r ?_
      obtain rfl := Option.some.inj h
      refine ⟨.inr rfl, (.cons (sv rfl) .nil)⟩
    ·
      replace h := bif_f h hc5
      obtain ⟨x6, hx6, h⟩ := bnd_e h
      obtain ⟨x7, hx7, h⟩ := bnd_e h
      obtain ⟨x8, hx8, h⟩ := bnd_e h
      refine iwp_reg (ils_cons rfl (iop_fieldAddr_ref rfl rfl (by decide) Try.underlying40 rfl ti9 (by decide) (sv (d := .ref _ _) rfl) (off' := 9) rfl) <|
        ils_cons rfl (iop_load_rs (d := .str _) rfl rfl (by decide) Try.underlying9 ag9 ti9 (by decide) (sv (d := .ref _ _) rfl) rfl (nle rfl) rfl) <|
        ils_cons rfl (iop_len_str rfl rfl (by decide) Try.underlying9 (sv (d := .str _) rfl) rfl) <|
        ils_cons rfl (iop_cmpx rfl rfl (by decide) (sv (d := .int _ _) rfl) (sv (d := .int _ 32) rfl) rfl hx6) <|
        ils_cons rfl (iop_move rfl rfl (by decide) (sv (d := .bool _) rfl)) <|
        ils_guard rfl rfl (.one rfl) rfl (by decide) (fun hb => (iop_fieldAddr_ref rfl rfl (by decide) Try.underlying40 rfl ti38 (by decide) (sv (d := .ref _ _) rfl) (off' := 8) rfl)) <|
        ils_guard rfl rfl (.one rfl) rfl (by decide) (fun hb => (iop_load_rs (d := .slice _ _) rfl rfl (by decide) Try.underlying38 ag38 ti38 (by decide) (svc (d := .ref _ _) rfl hb) rfl (nle rfl) rfl)) <|
        ils_guard rfl rfl (.one rfl) rfl (by decide) (fun hb => (iop_lenT E_api_Pair (l := a0.Pairs) rfl rfl (by decide) Try.underlying38 (svc (d := .slice _ _) rfl hb))) <|
        ils_guard rfl rfl (.one rfl) rfl (by decide) (fun hb => (iop_cmpx rfl rfl (by decide) (svc (d := .int _ _) rfl hb) (sv (d := .int _ 4) rfl) rfl hx7)) <|
        ils_cons rfl (iop_orx rfl rfl (by decide) (sv (d := .bool _) rfl) rfl rfl hx8) <|
        ils_cons rfl (iop_assign rfl rfl (by decide) (sv (d := .bool _) rfl)) <|
        ils_end ?_)
      refine iwp_cond (b := _) rfl (fun hc9 => ?_) (fun hc9 => ?_)
      ·
        replace h := bif_t h hc9
        refine iwp_reg (ils_cons rfl (iop_assign rfl rfl (by decide) (sv (d := .int _ 5) rfl)) <|
          ils_end ?_)
        refine iwp_ret ?_
        refine blockQ_r ?_
        refine thenQ_r ?_
        obtain rfl := Option.some.inj h
        refine ⟨.inr rfl, (.cons (sv rfl) .nil)⟩
      ·
        replace h := bif_f h hc9
        obtain ⟨x10, hx10, h⟩ := bno_e h
        refine iwp_reg (ils_cons rfl (iop_load_ra (cs := [.int _ _, .bool _, .int _ _, .int _ _, .int _ _, .int _ _, .int _ _, .int _ _, .slice _ _, .str _]) rfl rfl (by decide) Try.underlying40 ag40 ti40 (by decide) (sv (d := .ref _ _) rfl) rfl (nle rfl) rfl) <|
          ils_cons rfl (iop_call (r := .bool _) rfl rfl (by decide) cl42 (.cons (sv (d := .agg [.int _ _, .bool _, .int _ _, .int _ _, .int _ _, .int _ _, .int _ _, .int _ _, .slice _ _, .str _]) rfl) .nil) rfl (p_sennitref15_spare _ _ hx10)) <|
          ils_cons rfl (iop_assign rfl rfl (by decide) (sv (d := .bool _) rfl)) <|
          ils_end ?_)
        refine iwp_cond (b := _) rfl (fun hc11 => ?_) (fun hc11 => ?_)
        ·
          replace h := bif_t h hc11
          refine iwp_reg (ils_cons rfl (iop_assign rfl rfl (by decide) (sv (d := .int _ 4) rfl)) <|
            ils_end ?_)
          refine iwp_ret ?_
          refine blockQ_r ?_
          refine thenQ_r ?_
          obtain rfl := Option.some.inj h
          refine ⟨.inr rfl, (.cons (sv rfl) .nil)⟩
        ·
          replace h := bif_f h hc11
          refine iwp_skip ?_
          refine blockQ_n ?_
          refine thenQ_n ?_
          refine iwp_reg (ils_cons rfl (iop_assign rfl rfl (by decide) (sv (d := .int _ 0) rfl)) <|
            ils_end ?_)
          refine iwp_ret ?_
          obtain rfl := Option.some.inj h
          refine ⟨.inr rfl, (.cons (sv rfl) .nil)⟩

set_option maxRecDepth 8000 in
set_option maxHeartbeats 2000000 in
theorem p_sennitref02_Size (a0 : Int) (r : Int) (h : sennitref02_Size a0 = some r) : PureAt Try.prog 56 [.int .i64 a0] (.int .i64 r) := by
  refine pure_of_iwp (rs := [.int .i64 r]) Try.func56 rfl Try.ntmps56 (nle rfl) rfl fun O hO => ?_
  show IWP _ _ _ _ ⟨[(0, .int .i64 a0)], []⟩ _
  unfold sennitref02_Size at h
  refine iwp_reg (ils_cons rfl (iop_assign rfl rfl (by decide) (sv (d := .int _ 0) rfl)) <|
    ils_end ?_)
  refine iwp_seq ?_
  refine iwp_block ?_
  obtain ⟨x1, hx1, h⟩ := bnd_e h
  obtain ⟨x2, hx2, h⟩ := bnd_e h
  obtain ⟨x3, hx3, h⟩ := bnd_e h
  refine iwp_reg (ils_cons rfl (iop_move rfl rfl (by decide) (sv (d := .int _ _) rfl)) <|
    ils_cons rfl (iop_cmpx rfl rfl (by decide) (sv (d := .int _ _) rfl) (sv (d := .int _ 0) rfl) rfl hx1) <|
    ils_cons rfl (iop_move rfl rfl (by decide) (sv (d := .bool _) rfl)) <|
    ils_guard rfl rfl (.one rfl) rfl (by decide) (fun hb => (iop_move rfl rfl (by decide) (sv (d := .int _ _) rfl))) <|
    ils_guard rfl rfl (.one rfl) rfl (by decide) (fun hb => (iop_cmpx rfl rfl (by decide) (svc (d := .int _ _) rfl hb) (sv (d := .int _ 4611686018427387903) rfl) rfl hx2)) <|
    ils_cons rfl (iop_orx rfl rfl (by decide) (sv (d := .bool _) rfl) rfl rfl hx3) <|
    ils_cons rfl (iop_assign rfl rfl (by decide) (sv (d := .bool _) rfl)) <|
    ils_end ?_)
  refine iwp_cond (b := _) rfl (fun hc4 => ?_) (fun hc4 => ?_)
  ·
    replace h := bif_t h hc4
    refine iwp_reg (ils_cons rfl (iop_assign rfl rfl (by decide) (sv (d := .int _ 0) rfl)) <|
      ils_end ?_)
    refine iwp_ret ?_
    refine blockQ_r ?_
    refine thenQ_r ?_
    obtain rfl := Option.some.inj h
    refine ⟨.inr rfl, (.cons (sv rfl) .nil)⟩
  ·
    replace h := bif_f h hc4
    obtain ⟨x5, hx5, h⟩ := bnd_e h
    refine iwp_reg (ils_cons rfl (iop_move rfl rfl (by decide) (sv (d := .int _ _) rfl)) <|
      ils_cons rfl (iop_cmpx rfl rfl (by decide) (sv (d := .int _ _) rfl) (sv (d := .int _ 64) rfl) rfl hx5) <|
      ils_cons rfl (iop_assign rfl rfl (by decide) (sv (d := .bool _) rfl)) <|
      ils_end ?_)
    refine iwp_cond (b := _) rfl (fun hc6 => ?_) (fun hc6 => ?_)
    ·
      replace h := bif_t h hc6
      refine iwp_reg (ils_cons rfl (iop_assign rfl rfl (by decide) (sv (d := .int _ 1) rfl)) <|
        ils_end ?_)
      refine iwp_ret ?_
      refine blockQ_r ?_
      refine thenQ_r ?_
      obtain rfl := Option.some.inj h
      refine ⟨.inr rfl, (.cons (sv rfl) .nil)⟩
    ·
      replace h := bif_f h hc6
      obtain ⟨x7, hx7, h⟩ := bnd_e h
      refine iwp_reg (ils_cons rfl (iop_move rfl rfl (by decide) (sv (d := .int _ _) rfl)) <|
        ils_cons rfl (iop_cmpx rfl rfl (by decide) (sv (d := .int _ _) rfl) (sv (d := .int _ 16384) rfl) rfl hx7) <|
        ils_cons rfl (iop_assign rfl rfl (by decide) (sv (d := .bool _) rfl)) <|
        ils_end ?_)
      refine iwp_cond (b := _) rfl (fun hc8 => ?_) (fun hc8 => ?_)
      ·
        replace h := bif_t h hc8
        refine iwp_reg (ils_cons rfl (iop_assign rfl rfl (by decide) (sv (d := .int _ 2) rfl)) <|
          ils_end ?_)
        refine iwp_ret ?_
        refine blockQ_r ?_
        refine thenQ_r ?_
        obtain rfl := Option.some.inj h
        refine ⟨.inr rfl, (.cons (sv rfl) .nil)⟩
      ·
        replace h := bif_f h hc8
        obtain ⟨x9, hx9, h⟩ := bnd_e h
        refine iwp_reg (ils_cons rfl (iop_move rfl rfl (by decide) (sv (d := .int _ _) rfl)) <|
          ils_cons rfl (iop_cmpx rfl rfl (by decide) (sv (d := .int _ _) rfl) (sv (d := .int _ 1073741824) rfl) rfl hx9) <|
          ils_cons rfl (iop_assign rfl rfl (by decide) (sv (d := .bool _) rfl)) <|
          ils_end ?_)
        refine iwp_cond (b := _) rfl (fun hc10 => ?_) (fun hc10 => ?_)
        ·
          replace h := bif_t h hc10
          refine iwp_reg (ils_cons rfl (iop_assign rfl rfl (by decide) (sv (d := .int _ 4) rfl)) <|
            ils_end ?_)
          refine iwp_ret ?_
          refine blockQ_r ?_
          refine thenQ_r ?_
          obtain rfl := Option.some.inj h
          refine ⟨.inr rfl, (.cons (sv rfl) .nil)⟩
        ·
          replace h := bif_f h hc10
          refine iwp_skip ?_
          refine blockQ_n ?_
          refine thenQ_n ?_
          refine iwp_reg (ils_cons rfl (iop_assign rfl rfl (by decide) (sv (d := .int _ 8) rfl)) <|
            ils_end ?_)
          refine iwp_ret ?_
          obtain rfl := Option.some.inj h
          refine ⟨.inr rfl, (.cons (sv rfl) .nil)⟩

set_option maxRecDepth 8000 in
set_option maxHeartbeats 2000000 in
theorem p_sennitref02_mark (a0 : Int) (r : Int) (h : sennitref02_mark a0 = some r) : PureAt Try.prog 57 [.int .i64 a0] (.int .i64 r) := by
  refine pure_of_iwp (rs := [.int .i64 r]) Try.func57 rfl Try.ntmps57 (nle rfl) rfl fun O hO => ?_
  show IWP _ _ _ _ ⟨[(0, .int .i64 a0)], []⟩ _
  unfold sennitref02_mark at h
  refine iwp_reg (ils_cons rfl (iop_assign rfl rfl (by decide) (sv (d := .int _ 0) rfl)) <|
    ils_end ?_)
  refine iwp_seq ?_
  refine iwp_reg (ils_cons rfl (iop_move rfl rfl (by decide) (sv (d := .int _ _) rfl)) <|
    ils_end ?_)
  refine iwp_block ?_
  obtain ⟨x1, hx1, h⟩ := bnd_e h
  refine iwp_reg (ils_cons rfl (iop_cmpx rfl rfl (by decide) (sv (d := .int _ _) rfl) (sv (d := .int _ 1) rfl) rfl hx1) <|
    ils_cons rfl (iop_assign rfl rfl (by decide) (sv (d := .bool _) rfl)) <|
    ils_end ?_)
  refine iwp_cond (b := _) rfl (fun hc2 => ?_) (fun hc2 => ?_)
  ·
    replace h := bif_t h hc2
    refine iwp_reg (ils_cons rfl (iop_assign rfl rfl (by decide) (sv (d := .int _ 0) rfl)) <|
      ils_end ?_)
    refine iwp_ret ?_
    refine blockQ_r ?_
    refine thenQ_r ?_
    obtain rfl := Option.some.inj h
    refine ⟨.inr rfl, (.cons (sv rfl) .nil)⟩
  ·
    replace h := bif_f h hc2
    obtain ⟨x3, hx3, h⟩ := bnd_e h
    refine iwp_reg (ils_cons rfl (iop_cmpx rfl rfl (by decide) (sv (d := .int _ _) rfl) (sv (d := .int _ 2) rfl) rfl hx3) <|
      ils_cons rfl (iop_assign rfl rfl (by decide) (sv (d := .bool _) rfl)) <|
      ils_end ?_)
    refine iwp_cond (b := _) rfl (fun hc4 => ?_) (fun hc4 => ?_)
    ·
      replace h := bif_t h hc4
      refine iwp_reg (ils_cons rfl (iop_assign rfl rfl (by decide) (sv (d := .int _ 64) rfl)) <|
        ils_end ?_)
      refine iwp_ret ?_
      refine blockQ_r ?_
      refine thenQ_r ?_
      obtain rfl := Option.some.inj h
      refine ⟨.inr rfl, (.cons (sv rfl) .nil)⟩
    ·
      replace h := bif_f h hc4
      obtain ⟨x5, hx5, h⟩ := bnd_e h
      refine iwp_reg (ils_cons rfl (iop_cmpx rfl rfl (by decide) (sv (d := .int _ _) rfl) (sv (d := .int _ 4) rfl) rfl hx5) <|
        ils_cons rfl (iop_assign rfl rfl (by decide) (sv (d := .bool _) rfl)) <|
        ils_end ?_)
      refine iwp_cond (b := _) rfl (fun hc6 => ?_) (fun hc6 => ?_)
      ·
        replace h := bif_t h hc6
        refine iwp_reg (ils_cons rfl (iop_assign rfl rfl (by decide) (sv (d := .int _ 128) rfl)) <|
          ils_end ?_)
        refine iwp_ret ?_
        refine blockQ_r ?_
        refine thenQ_r ?_
        obtain rfl := Option.some.inj h
        refine ⟨.inr rfl, (.cons (sv rfl) .nil)⟩
      ·
        replace h := bif_f h hc6
        refine iwp_skip ?_
        refine blockQ_n ?_
        refine thenQ_n ?_
        refine iwp_reg (ils_cons rfl (iop_assign rfl rfl (by decide) (sv (d := .int _ 192) rfl)) <|
          ils_end ?_)
        refine iwp_ret ?_
        obtain rfl := Option.some.inj h
        refine ⟨.inr rfl, (.cons (sv rfl) .nil)⟩

set_option maxRecDepth 8000 in
set_option maxHeartbeats 2000000 in
theorem p_sennitref02_Put (a0 : Int) (r : ((List UInt8) × Int)) (h : sennitref02_Put a0 = some r) : PureAt Try.prog 36 [.int .i64 a0] (retD [.slice false (r.1.map eByte.d), .int .i64 r.2]) := by
  refine pure_of_iwpF (rs := [.slice false (r.1.map eByte.d), .int .i64 r.2]) Try.func36 rfl Try.ntmps36 (nle rfl) rfl fun O hO => ?_
  show IWP _ _ _ _ ⟨[(0, .int .i64 a0)], []⟩ _
  unfold sennitref02_Put at h
  refine iwp_reg (ils_cons rfl (iop_assign rfl rfl (by decide) (sv (d := .nils) rfl)) <|
    ils_cons rfl (iop_assign rfl rfl (by decide) (sv (d := .int _ 0) rfl)) <|
    ils_end ?_)
  obtain ⟨x1, hx1, h⟩ := bno_e h
  refine iwp_reg (ils_cons rfl (iop_move rfl rfl (by decide) (sv (d := .int _ _) rfl)) <|
    ils_cons rfl (iop_call (r := .int _ _) rfl rfl (by decide) cl56 (.cons (sv (d := .int _ _) rfl) .nil) rfl (p_sennitref02_Size _ _ hx1)) <|
    ils_cons rfl (iop_assign rfl rfl (by decide) (sv (d := .int _ _) rfl)) <|
    ils_end ?_)
  refine iwp_seq ?_
  obtain ⟨x2, hx2, h⟩ := bnd_e h
  refine iwp_reg (ils_cons rfl (iop_move rfl rfl (by decide) (sv (d := .int _ _) rfl)) <|
    ils_cons rfl (iop_cmpx rfl rfl (by decide) (sv (d := .int _ _) rfl) (sv (d := .int _ 0) rfl) rfl hx2) <|
    ils_end ?_)
  refine iwp_cond (b := _) rfl (fun hc3 => ?_) (fun hc3 => ?_)
  ·
    replace h := bif_t h hc3
    refine iwp_reg (ils_cons rfl (iop_assign rfl rfl (by decide) (sv (d := .nils) rfl)) <|
      ils_cons rfl (iop_assign rfl rfl (by decide) (sv (d := .int _ 8) rfl)) <|
      ils_end ?_)
    refine iwp_ret ?_
    refine thenQ_r ?_
    obtain rfl := Option.some.inj h
    refine ⟨.inr rfl, _, (.cons (sv rfl) (.cons (sv rfl) .nil)), (.cons (.nils _) (.cons (.refl _) .nil))⟩
  ·
    replace h := bif_f h hc3
    refine iwp_skip ?_
    refine thenQ_n ?_
    refine iwp_reg (ils_cons rfl (iop_assign rfl rfl (by decide) (sv (d := .nils) rfl)) <|
      ils_end ?_)
    refine iwp_seq ?_
    refine iwp_reg (ils_cons rfl (iop_assign rfl rfl (by decide) (sv (d := .int _ 0) rfl)) <|
      ils_end ?_)
    refine iwp_block ?_
    refine iwp_loopP (α := Nat × Int × (List UInt8) × Int) (fun z => ⟨[(0, .int .i64 z.2.1), (4, .int .i64 x1), (5, .osl 21 eByte.sz z.2.2.1.length), (6, .int .i64 z.2.2.2)], [(21, .blk 5 (D.flat (z.2.2.1.map eByte.d)))]⟩) (fun z => sennitref02_Put_L0 x1 z.1 z.2.1 z.2.2.1 z.2.2.2 = some r) (fun z => z.1) (fuel, a0, ([] : (List UInt8)), 0) (fun i => if i = 21 then 71 else i) ⟨(.cons (.same rfl rfl) (.cons (.same rfl rfl) (.cons (.nilo rfl) (.cons (.same rfl rfl) .nil)))), (.cons (.nilb rfl) .nil), nd_of [71] rfl (by decide), (fun i hi => by first | rfl | (show (if _ then _ else _) = _; (repeat' split) <;> omega))⟩ ?_ ?_
    · exact h
    ·
      rintro ⟨n0, v12, v13, v14⟩ h
      cases n0 with
      | zero => exact absurd h (by unfold sennitref02_Put_L0; exact nofun)
      | succ n0 =>
        unfold sennitref02_Put_L0 at h
        refine iwp_seq ?_
        obtain ⟨x23, hx23, h⟩ := bnd_e h
        refine iwp_reg (ils_cons rfl (iop_move rfl rfl (by decide) (sv (d := .int _ _) rfl)) <|
          ils_cons rfl (iop_move rfl rfl (by decide) (sv (d := .int _ _) rfl)) <|
          ils_cons rfl (iop_cmpx rfl rfl (by decide) (sv (d := .int _ _) rfl) (sv (d := .int _ _) rfl) rfl hx23) <|
          ils_end ?_)
        refine iwp_cond (b := _) rfl (fun hc24 => ?_) (fun hc24 => ?_)
        ·
          replace h := bif_t h hc24
          refine iwp_skip ?_
          refine thenQ_n ?_
          refine iwp_seq ?_
          refine iwp_block ?_
          obtain ⟨x25, hx25, h⟩ := bno_e h
          obtain ⟨x26, hx26, h⟩ := bnd_e h
          obtain ⟨x27, hx27, h⟩ := bno_e h
          obtain ⟨x28, hx28, h⟩ := bno_e h
          refine iwp_reg (ils_cons rfl (iop_move rfl rfl (by decide) (sv (d := .int _ _) rfl)) <|
            ils_cons rfl (iop_remx rfl rfl (by decide) (sv (d := .int _ _) rfl) (sv (d := .int _ 256) rfl) hx25) <|
            ils_cons rfl (iop_int_conv rfl rfl (by decide) ⟨_, Try.underlying3⟩ Try.underlying5 (sv (d := .int _ _) rfl) hx26) <|
            ils_cons rfl (iop_bsO eByte.toEnc0 ([x27] : (List UInt8)) 22 rfl rfl (by decide) Try.underlying65 ti5 rfl (.cons (sv_int (sv (d := .int _ _) rfl) (toU8_e hx27)) .nil) rfl rfl (by decide)) <|
            ils_cons rfl (iop_move rfl rfl (by decide) (sv (d := .osl _ _ _) rfl)) <|
            ils_cons rfl (iop_appO eByte.toEnc0 23 rfl rfl (by decide) Try.underlying65 ti5 rfl rfl rfl rfl rfl (src_O eByte.toEnc0 rfl rfl rfl) hx28) <|
            ils_cons rfl (iop_assign rfl rfl (by decide) (sv (d := .osl _ _ _) rfl)) <|
            ils_end ?_)
          obtain ⟨x29, hx29, h⟩ := bno_e h
          refine iwp_region (ils_cons rfl (iop_move rfl rfl (by decide) (sv (d := .int _ _) rfl)) <|
            ils_cons rfl (iop_quox rfl rfl (by decide) (sv (d := .int _ _) rfl) (sv (d := .int _ 256) rfl) hx29) <|
            ils_cons rfl (iop_assign rfl rfl (by decide) (sv (d := .int _ _) rfl)) <|
            ils_nil ?_)
          refine blockQ_n ?_
          refine thenQ_n ?_
          obtain ⟨x30, hx30, h⟩ := bnd_e h
          refine iwp_region (ils_cons rfl (iop_move rfl rfl (by decide) (sv (d := .int _ _) rfl)) <|
            ils_cons rfl (iop_intx rfl rfl (by decide) (sv (d := .int _ _) rfl) (sv (d := .int _ 1) rfl) rfl hx30) <|
            ils_cons rfl (iop_assign rfl rfl (by decide) (sv (d := .int _ _) rfl)) <|
            ils_nil ?_)
          refine thenQ_n ⟨(n0, x29, x28, x30), (fun i => if i = 21 then 23 else i), ⟨(.cons (.same rfl rfl) (.cons (.same rfl rfl) (.cons (.same rfl rfl) (.cons (.same rfl rfl) .nil)))), (.cons (EntW.lst rfl) .nil), nd_of [23] rfl (by decide), (fun i hi => by first | rfl | (show (if _ then _ else _) = _; (repeat' split) <;> omega))⟩, ?_, ?_⟩
          exact h
          exact Nat.lt_succ_self _
        ·
          replace h := bif_f h hc24
          refine iwp_exit ?_
          refine thenQ_e ?_
          refine thenQ_e ?_
          refine blockQ_e ?_
          refine thenQ_n ?_
          obtain ⟨x31, hx31, h⟩ := bno_e h
          obtain ⟨x32, hx32, h⟩ := bno_e h
          obtain ⟨x33, hx33, h⟩ := bno_e h
          obtain ⟨x34, hx34, h⟩ := bnd_e h
          obtain ⟨x35, hx35, h⟩ := bnd_e h
          obtain ⟨x36, hx36, h⟩ := bno_e h
          obtain ⟨x37, hx37, h⟩ := bno_e h
          obtain ⟨x38, hx38, h⟩ := bno_e h
          obtain ⟨x39, hx39, h⟩ := bnd_e h
          refine iwp_drw rfl [⟨[5], [], [(24, .osl 21 eByte.sz v13.length)], []⟩,
            ⟨[24], [], [(25, .ref 21 (((0 : Int).toNat) * eByte.sz + 0))], []⟩,
            ⟨[25], [21], [(26, .int .u8 (x32.toNat : Int))], []⟩,
            ⟨[4], [], [(27, .int .i64 x1)], []⟩,
            ⟨[27], [], [(28, .int .i64 x33)], []⟩,
            ⟨[28], [], [(29, .int .u8 x34)], []⟩,
            ⟨[26, 29], [], [(30, .int .u8 x35)], []⟩,
            ⟨[24], [], [(31, .ref 21 (((0 : Int).toNat) * eByte.sz + 0))], []⟩,
            ⟨[30, 31], [21], [], [(21, .blk 5 (D.flat (x39.map eByte.d)))]⟩] rfl ?_ (by kernel_rfl) ?_
          · refine .cons (lop rfl rfl fun S hA => (iop_move rfl rfl (by decide) (sv (d := .osl _ _ _) (agr hA rfl rfl)))) ?_
            refine .cons (lop rfl rfl fun S hA => (iop_idxO eByte.toEnc0 rfl rfl (by decide) Try.underlying65 ti5 (sv (d := .osl _ _ _) (agr hA rfl rfl)) rfl (sv (d := .int _ 0) rfl) hx31)) ?_
            refine .cons (lop rfl rfl fun S hA => (iop_loadEs eByte.toEnc0 (d := .int _ _) rfl rfl (by decide) Try.underlying5 ag5 ti5 (by decide) (sv (d := .ref _ _) (agr hA rfl rfl)) (agi hA rfl rfl) hx32 (nle rfl) rfl)) ?_
            refine .cons (lop rfl rfl fun S hA => (iop_move rfl rfl (by decide) (sv (d := .int _ _) (agr hA rfl rfl)))) ?_
            refine .cons (lop rfl rfl fun S hA => (iop_call (r := .int _ _) rfl rfl (by decide) cl57 (.cons (sv (d := .int _ _) (agr hA rfl rfl)) .nil) rfl (p_sennitref02_mark _ _ hx33))) ?_
            refine .cons (lop rfl rfl fun S hA => (iop_int_conv rfl rfl (by decide) ⟨_, Try.underlying3⟩ Try.underlying5 (sv (d := .int _ _) (agr hA rfl rfl)) hx34)) ?_
            refine .cons (lop rfl rfl fun S hA => (iop_intx rfl rfl (by decide) (sv (d := .int _ _) (agr hA rfl rfl)) (sv (d := .int _ _) (agr hA rfl rfl)) rfl hx35)) ?_
            refine .cons (lop rfl rfl fun S hA => (iop_idxO eByte.toEnc0 rfl rfl (by decide) Try.underlying65 ti5 (sv (d := .osl _ _ _) (agr hA rfl rfl)) rfl (sv (d := .int _ 0) rfl) hx36)) ?_
            refine .cons (lop rfl rfl fun S hA => (iop_storeE eByte.toEnc0 (a' := x38) rfl rfl ti5 (sv (d := .ref _ _) (agr hA rfl rfl)) (agi hA rfl rfl) (sv_int (sv (d := .int _ _) (agr hA rfl rfl)) (toU8_e hx38)) rfl rfl rfl hx37 (nle rfl) rfl hx39)) ?_
            exact .nil
          refine iwp_reg (ils_cons rfl (iop_move rfl rfl (by decide) (sv (d := .osl _ _ _) rfl)) <|
            ils_cons rfl (iop_assign rfl rfl (by decide) (sv (d := .osl _ _ _) rfl)) <|
            ils_cons rfl (iop_assign rfl rfl (by decide) (sv (d := .int _ 0) rfl)) <|
            ils_end ?_)
          refine iwp_ret ?_
          obtain rfl := Option.some.inj h
          refine ⟨.inr rfl, _, (.cons (sv rfl) (.cons (sv rfl) .nil)), (.cons (FDT eByte rfl (len_set hx39 rfl)) (.cons (.refl _) .nil))⟩

set_option maxRecDepth 8000 in
set_option maxHeartbeats 2000000 in
theorem p_sennitref02_Join (a0 : (List Int)) (r : ((List UInt8) × Int)) (h : sennitref02_Join a0 = some r) : PureAt Try.prog 55 [.slice false (a0.map (eInt .i64).d)] (retD [.slice false (r.1.map eByte.d), .int .i64 r.2]) := by
  refine pure_of_iwp (rs := [.slice false (r.1.map eByte.d), .int .i64 r.2]) Try.func55 rfl Try.ntmps55 (nle rfl) rfl fun O hO => ?_
  show IWP _ _ _ _ ⟨[(0, .slice false (a0.map (eInt .i64).d))], []⟩ _
  unfold sennitref02_Join at h
  refine iwp_reg (ils_cons rfl (iop_assign rfl rfl (by decide) (sv (d := .nils) rfl)) <|
    ils_cons rfl (iop_assign rfl rfl (by decide) (sv (d := .int _ 0) rfl)) <|
    ils_end ?_)
  refine iwp_reg (ils_cons rfl (iop_assign rfl rfl (by decide) (sv (d := .nils) rfl)) <|
    ils_end ?_)
  refine iwp_seq ?_
  refine iwp_reg (ils_cons rfl (iop_assign rfl rfl (by decide) (sv (d := .int _ 0) rfl)) <|
    ils_end ?_)
  refine iwp_block ?_
  refine iwp_loopP (α := Nat × (List UInt8) × Int) (fun z => ⟨[(0, .slice false (a0.map (eInt .i64).d)), (4, .gsl 21 eByte.sz (z.2.1.map eByte.d)), (5, .int .i64 z.2.2)], [(21, .tail 5 eByte.sz z.2.1.length)]⟩) (fun z => sennitref02_Join_L0 a0 z.1 z.2.1 z.2.2 = some r) (fun z => z.1) (fuel, ([] : (List UInt8)), 0) (fun i => if i = 21 then 71 else i) ⟨(.cons (.same rfl rfl) (.cons (.nils rfl) (.cons (.same rfl rfl) .nil))), (.cons (.nils rfl) .nil), nd_of [71] rfl (by decide), (fun i hi => by first | rfl | (show (if _ then _ else _) = _; (repeat' split) <;> omega))⟩ ?_ ?_
  · exact h
  ·
    rintro ⟨n0, v9, v10⟩ h
    cases n0 with
    | zero => exact absurd h (by unfold sennitref02_Join_L0; exact nofun)
    | succ n0 =>
      unfold sennitref02_Join_L0 at h
      refine iwp_seq ?_
      obtain ⟨x19, hx19, h⟩ := bnd_e h
      refine iwp_reg (ils_cons rfl (iop_move rfl rfl (by decide) (sv (d := .int _ _) rfl)) <|
        ils_cons rfl (iop_move rfl rfl (by decide) (sv (d := .slice _ _) rfl)) <|
        ils_cons rfl (iop_lenT (eInt .i64) (l := a0) rfl rfl (by decide) Try.underlying88 (sv (d := .slice _ _) rfl)) <|
        ils_cons rfl (iop_cmpx rfl rfl (by decide) (sv (d := .int _ _) rfl) (sv (d := .int _ _) rfl) rfl hx19) <|
        ils_end ?_)
      refine iwp_cond (b := _) rfl (fun hc20 => ?_) (fun hc20 => ?_)
      ·
        replace h := bif_t h hc20
        refine iwp_skip ?_
        refine thenQ_n ?_
        refine iwp_seq ?_
        refine iwp_block ?_
        obtain ⟨x21, hx21, h⟩ := bno_e h
        obtain ⟨x22, hx22, h⟩ := bno_e h
        refine iwp_reg (ils_cons rfl (iop_move rfl rfl (by decide) (sv (d := .slice _ _) rfl)) <|
          ils_cons rfl (iop_move rfl rfl (by decide) (sv (d := .int _ _) rfl)) <|
          ils_cons rfl (iop_idxT (eInt .i64) (cs := [.int _ _]) rfl rfl (by decide) Try.underlying88 ti3 (sv (d := .slice _ _) rfl) (sv (d := .int _ _) rfl) hx21 rfl rfl) <|
          ils_cons rfl (iop_load_fs rfl rfl (by decide) Try.underlying3 ag3 ti3 (by decide) (sv (d := .fptr [.int _ _]) rfl) (nle rfl)) <|
          ils_cons rfl (iop_call (r := .tuple [.slice _ _, .int _ _]) rfl rfl (by decide) cl36 (.cons (sv (d := .int _ _) rfl) .nil) rfl (p_sennitref02_Put _ _ hx22)) <|
          ils_cons rfl (iop_move rfl rfl (by decide) (sv (d := .tuple [.slice _ _, .int _ _]) rfl)) <|
          ils_cons rfl (iop_extract (d := .slice _ _) rfl rfl (by decide) (sv (d := .tuple [.slice _ _, .int _ _]) rfl) rfl) <|
          ils_cons rfl (iop_extract (d := .int _ _) rfl rfl (by decide) (sv (d := .tuple [.slice _ _, .int _ _]) rfl) rfl) <|
          ils_cons rfl (iop_assign rfl rfl (by decide) (sv (d := .slice _ _) rfl)) <|
          ils_cons rfl (iop_assign rfl rfl (by decide) (sv (d := .int _ _) rfl)) <|
          ils_end ?_)
        refine iwp_seq ?_
        obtain ⟨x23, hx23, h⟩ := bnd_e h
        refine iwp_reg (ils_cons rfl (iop_move rfl rfl (by decide) (sv (d := .int _ _) rfl)) <|
          ils_cons rfl (iop_cmpx rfl rfl (by decide) (sv (d := .int _ _) rfl) (sv (d := .int _ 0) rfl) rfl hx23) <|
          ils_end ?_)
        refine iwp_cond (b := _) rfl (fun hc24 => ?_) (fun hc24 => ?_)
        ·
          replace h := bif_t h hc24
          refine iwp_reg (ils_cons rfl (iop_move rfl rfl (by decide) (sv (d := .int _ _) rfl)) <|
            ils_cons rfl (iop_assign rfl rfl (by decide) (sv (d := .nils) rfl)) <|
            ils_cons rfl (iop_assign rfl rfl (by decide) (sv (d := .int _ _) rfl)) <|
            ils_end ?_)
          refine iwp_ret ?_
          refine thenQ_r ?_
          refine blockQ_r ?_
          refine thenQ_r ?_
          refine thenQ_r ?_
          refine blockQ_r ?_
          refine thenQ_r ?_
          obtain rfl := Option.some.inj h
          refine ⟨.inr rfl, (.cons (svn_of rfl rfl) (.cons (sv rfl) .nil))⟩
        ·
          replace h := bif_f h hc24
          refine iwp_skip ?_
          refine thenQ_n ?_
          obtain ⟨x25, hx25, h⟩ := bno_e h
          refine iwp_region (ils_cons rfl (iop_move rfl rfl (by decide) (sv (d := .gsl _ _ _) rfl)) <|
            ils_cons rfl (iop_move rfl rfl (by decide) (sv (d := .slice _ _) rfl)) <|
            ils_cons rfl (iop_appT eByte 22 rfl rfl (by decide) Try.underlying65 ti5 rfl rfl rfl rfl (sv (d := .slice _ _) rfl) hx25) <|
            ils_cons rfl (iop_assign rfl rfl (by decide) (sv (d := .gsl _ _ _) rfl)) <|
            ils_nil ?_)
          refine blockQ_n ?_
          refine thenQ_n ?_
          obtain ⟨x26, hx26, h⟩ := bnd_e h
          refine iwp_region (ils_cons rfl (iop_move rfl rfl (by decide) (sv (d := .int _ _) rfl)) <|
            ils_cons rfl (iop_intx rfl rfl (by decide) (sv (d := .int _ _) rfl) (sv (d := .int _ 1) rfl) rfl hx26) <|
            ils_cons rfl (iop_assign rfl rfl (by decide) (sv (d := .int _ _) rfl)) <|
            ils_nil ?_)
          refine thenQ_n ⟨(n0, x25, x26), (fun i => if i = 21 then 22 else i), ⟨(.cons (.same rfl rfl) (.cons (.same rfl rfl) (.cons (.same rfl rfl) .nil))), (.cons (.tail rfl) .nil), nd_of [22] rfl (by decide), (fun i hi => by first | rfl | (show (if _ then _ else _) = _; (repeat' split) <;> omega))⟩, ?_, ?_⟩
          exact h
          exact Nat.lt_succ_self _
      ·
        replace h := bif_f h hc20
        refine iwp_exit ?_
        refine thenQ_e ?_
        refine thenQ_e ?_
        refine blockQ_e ?_
        refine thenQ_n ?_
        refine iwp_reg (ils_cons rfl (iop_move rfl rfl (by decide) (sv (d := .gsl _ _ _) rfl)) <|
          ils_cons rfl (iop_assign rfl rfl (by decide) (sv (d := .gsl _ _ _) rfl)) <|
          ils_cons rfl (iop_assign rfl rfl (by decide) (sv (d := .int _ 0) rfl)) <|
          ils_end ?_)
        refine iwp_ret ?_
        obtain rfl := Option.some.inj h
        refine ⟨.inr rfl, (.cons (svg_of rfl rfl) (.cons (sv rfl) .nil))⟩

set_option maxRecDepth 8000 in
set_option maxHeartbeats 2000000 in
theorem p_sennitref15_payload (a0 : T_frame_Frame) (r : (List UInt8)) (h : sennitref15_payload a0 = some r) : PureAt Try.prog 35 [.agg [.int .u8 a0.Kind, .bool a0.Flag, .int .i64 a0.Stream, .int .i64 a0.Offset, .int .i64 a0.Dep, .int .i64 a0.Weight, .int .i64 a0.N, .int .i64 a0.Code, .slice false (a0.Pairs.map E_api_Pair.d), .str a0.Data]] (.str r) := by
  refine pure_of_iwp (rs := [.str r]) Try.func35 rfl Try.ntmps35 (nle rfl) rfl fun O hO => ?_
  show IWP _ _ _ _ ⟨[(0, .agg [.int .u8 a0.Kind, .bool a0.Flag, .int .i64 a0.Stream, .int .i64 a0.Offset, .int .i64 a0.Dep, .int .i64 a0.Weight, .int .i64 a0.N, .int .i64 a0.Code, .slice false (a0.Pairs.map E_api_Pair.d), .str a0.Data])], []⟩ _
  unfold sennitref15_payload at h
  refine iwp_reg (ils_cons rfl (iop_box' (cs := [.int _ _, .bool _, .int _ _, .int _ _, .int _ _, .int _ _, .int _ _, .int _ _, .slice _ _, .str _]) 0 rfl rfl (by decide) rfl (sv (d := .agg [.int _ _, .bool _, .int _ _, .int _ _, .int _ _, .int _ _, .int _ _, .int _ _, .slice _ _, .str _]) rfl) rfl rfl) <|
    ils_cons rfl (iop_assign rfl rfl (by decide) (sv (d := .str []) rfl)) <|
    ils_end ?_)
  refine iwp_reg (ils_cons rfl (iop_assign rfl rfl (by decide) (sv (d := .nils) rfl)) <|
    ils_end ?_)
  obtain ⟨x1, hx1, h⟩ := bno_e h
  refine iwp_reg (ils_cons rfl (iop_fieldAddr_ref rfl rfl (by decide) Try.underlying40 rfl ti5 (by decide) (sv (d := .ref _ _) rfl) (off' := 0) rfl) <|
    ils_cons rfl (iop_load_rs (d := .int _ _) rfl rfl (by decide) Try.underlying5 ag5 ti5 (by decide) (sv (d := .ref _ _) rfl) rfl (nle rfl) rfl) <|
    ils_cons rfl (iop_call (r := .str _) rfl rfl (by decide) cl40 (.cons (sv (d := .int _ _) rfl) .nil) rfl (p_sennitref15_fields _ _ hx1)) <|
    ils_cons rfl (iop_assign rfl rfl (by decide) (sv (d := .str _) rfl)) <|
    ils_end ?_)
  refine iwp_seq ?_
  refine iwp_reg (ils_cons rfl (iop_assign rfl rfl (by decide) (sv (d := .int _ 0) rfl)) <|
    ils_end ?_)
  refine iwp_block ?_
  refine iwp_loopP (α := Nat × (List Int) × Int) (fun z => ⟨[(1, .ref 0 0), (3, .gsl 22 (eInt .i64).sz (z.2.1.map (eInt .i64).d)), (4, .str x1), (5, .int .i64 z.2.2)], [(0, .blk 40 [.int .u8 a0.Kind, .bool a0.Flag, .int .i64 a0.Stream, .int .i64 a0.Offset, .int .i64 a0.Dep, .int .i64 a0.Weight, .int .i64 a0.N, .int .i64 a0.Code, .slice false (a0.Pairs.map E_api_Pair.d), .str a0.Data]), (22, .tail 3 (eInt .i64).sz z.2.1.length)]⟩) (fun z => sennitref15_payload_L0 a0 x1 z.1 z.2.1 z.2.2 = some r) (fun z => z.1) (fuel, ([] : (List Int)), 0) (fun i => if i = 22 then 73 else i) ⟨(.cons (.same rfl rfl) (.cons (.nils rfl) (.cons (.same rfl rfl) (.cons (.same rfl rfl) .nil)))), (.cons (.blk rfl rfl rfl) (.cons (.nils rfl) .nil)), nd_of [0, 73] rfl (by decide), (fun i hi => by first | rfl | (show (if _ then _ else _) = _; (repeat' split) <;> omega))⟩ ?_ ?_
  · exact h
  ·
    rintro ⟨n0, v8, v9⟩ h
    cases n0 with
    | zero => exact absurd h (by unfold sennitref15_payload_L0; exact nofun)
    | succ n0 =>
      unfold sennitref15_payload_L0 at h
      refine iwp_seq ?_
      obtain ⟨x16, hx16, h⟩ := bnd_e h
      refine iwp_reg (ils_cons rfl (iop_move rfl rfl (by decide) (sv (d := .int _ _) rfl)) <|
        ils_cons rfl (iop_move rfl rfl (by decide) (sv (d := .str _) rfl)) <|
        ils_cons rfl (iop_len_str rfl rfl (by decide) Try.underlying9 (sv (d := .str _) rfl) rfl) <|
        ils_cons rfl (iop_cmpx rfl rfl (by decide) (sv (d := .int _ _) rfl) (sv (d := .int _ _) rfl) rfl hx16) <|
        ils_end ?_)
      refine iwp_cond (b := _) rfl (fun hc17 => ?_) (fun hc17 => ?_)
      ·
        replace h := bif_t h hc17
        refine iwp_skip ?_
        refine thenQ_n ?_
        refine iwp_seq ?_
        refine iwp_block ?_
        obtain ⟨x18, hx18, h⟩ := bno_e h
        obtain ⟨x19, hx19, h⟩ := bno_e h
        obtain ⟨x20, hx20, h⟩ := bno_e h
        refine iwp_draw rfl [⟨[3], [], [(18, .gsl 22 (eInt .i64).sz (v8.map (eInt .i64).d))], []⟩,
          ⟨[1], [0], [(19, .agg [.int .u8 a0.Kind, .bool a0.Flag, .int .i64 a0.Stream, .int .i64 a0.Offset, .int .i64 a0.Dep, .int .i64 a0.Weight, .int .i64 a0.N, .int .i64 a0.Code, .slice false (a0.Pairs.map E_api_Pair.d), .str a0.Data])], []⟩,
          ⟨[4], [], [(20, .str x1)], []⟩,
          ⟨[5], [], [(21, .int .i64 v9)], []⟩,
          ⟨[20, 21], [], [(22, .int .u8 (x18.toNat : Int))], []⟩,
          ⟨[19, 22], [], [(23, .int .i64 x19)], []⟩,
          ⟨[23], [23], [(24, .gsl 23 (eInt .i64).sz (([x19] : (List Int)).map (eInt .i64).d))], [(23, .tail 3 (eInt .i64).sz ([x19] : (List Int)).length)]⟩,
          ⟨[18, 24], [22, 24], [(25, .gsl 24 (eInt .i64).sz (x20.map (eInt .i64).d))], [(24, .tail 3 (eInt .i64).sz x20.length), (22, .none)]⟩,
          ⟨[25], [], [(3, .gsl 24 (eInt .i64).sz (x20.map (eInt .i64).d))], []⟩] rfl ?_ (by kernel_rfl) ?_
        · refine .cons (lop rfl rfl fun S hA => (iop_move rfl rfl (by decide) (sv (d := .gsl _ _ _) (agr hA rfl rfl)))) ?_
          refine .cons (lop rfl rfl fun S hA => (iop_load_ra (cs := [.int _ _, .bool _, .int _ _, .int _ _, .int _ _, .int _ _, .int _ _, .int _ _, .slice _ _, .str _]) rfl rfl (by decide) Try.underlying40 ag40 ti40 (by decide) (sv (d := .ref _ _) (agr hA rfl rfl)) (agi hA rfl rfl) (nle rfl) rfl)) ?_
          refine .cons (lop rfl rfl fun S hA => (iop_move rfl rfl (by decide) (sv (d := .str _) (agr hA rfl rfl)))) ?_
          refine .cons (lop rfl rfl fun S hA => (iop_move rfl rfl (by decide) (sv (d := .int _ _) (agr hA rfl rfl)))) ?_
          refine .cons (lop rfl rfl fun S hA => (iop_str_at rfl rfl (by decide) Try.underlying9 (sv (d := .str _) (agr hA rfl rfl)) (sv (d := .int _ _) (agr hA rfl rfl)) hx18)) ?_
          refine .cons (lop rfl rfl fun S hA => (iop_call (r := .int _ _) rfl rfl (by decide) cl54 (.cons (sv (d := .agg [.int _ _, .bool _, .int _ _, .int _ _, .int _ _, .int _ _, .int _ _, .int _ _, .slice _ _, .str _]) (agr hA rfl rfl)) (.cons (sv (d := .int _ _) (agr hA rfl rfl)) .nil)) rfl (p_sennitref15_value _ _ _ hx19))) ?_
          refine .cons (lop rfl rfl fun S hA => (iop_bsT (eInt .i64) ([x19] : (List Int)) 23 rfl rfl (by decide) Try.underlying88 ti3 (agi hA rfl rfl) (.cons (sv (d := .int _ _) (agr hA rfl rfl)) .nil) rfl rfl (by decide))) ?_
          refine .cons (lop rfl rfl fun S hA => (iop_appT (eInt .i64) 24 rfl rfl (by decide) Try.underlying88 ti3 rfl (agr hA rfl rfl) (agi hA rfl rfl) (agi hA rfl rfl) (svg (agr hA rfl rfl)) hx20)) ?_
          refine .cons (lop rfl rfl fun S hA => (iop_assign rfl rfl (by decide) (sv (d := .gsl _ _ _) (agr hA rfl rfl)))) ?_
          exact .nil
        refine blockQ_n ?_
        refine thenQ_n ?_
        obtain ⟨x21, hx21, h⟩ := bnd_e h
        refine iwp_region (ils_cons rfl (iop_move rfl rfl (by decide) (sv (d := .int _ _) rfl)) <|
          ils_cons rfl (iop_intx rfl rfl (by decide) (sv (d := .int _ _) rfl) (sv (d := .int _ 1) rfl) rfl hx21) <|
          ils_cons rfl (iop_assign rfl rfl (by decide) (sv (d := .int _ _) rfl)) <|
          ils_nil ?_)
        refine thenQ_n ⟨(n0, x20, x21), (fun i => if i = 22 then 24 else i), ⟨(.cons (.same rfl rfl) (.cons (.same rfl rfl) (.cons (.same rfl rfl) (.cons (.same rfl rfl) .nil)))), (.cons (.blk rfl rfl rfl) (.cons (.tail rfl) .nil)), nd_of [0, 24] rfl (by decide), (fun i hi => by first | rfl | (show (if _ then _ else _) = _; (repeat' split) <;> omega))⟩, ?_, ?_⟩
        exact h
        exact Nat.lt_succ_self _
      ·
        replace h := bif_f h hc17
        refine iwp_exit ?_
        refine thenQ_e ?_
        refine thenQ_e ?_
        refine blockQ_e ?_
        refine thenQ_n ?_
        refine iwp_seq ?_
        refine iwp_reg (ils_cons rfl (iop_assign rfl rfl (by decide) (sv (d := .int _ 0) rfl)) <|
          ils_end ?_)
        refine iwp_block ?_
        refine iwp_loopP (α := Nat × (List Int) × Int) (fun z => ⟨[(1, .ref 0 0), (3, .gsl 22 (eInt .i64).sz (z.2.1.map (eInt .i64).d)), (6, .int .i64 z.2.2)], [(0, .blk 40 [.int .u8 a0.Kind, .bool a0.Flag, .int .i64 a0.Stream, .int .i64 a0.Offset, .int .i64 a0.Dep, .int .i64 a0.Weight, .int .i64 a0.N, .int .i64 a0.Code, .slice false (a0.Pairs.map E_api_Pair.d), .str a0.Data]), (22, .tail 3 (eInt .i64).sz z.2.1.length)]⟩) (fun z => sennitref15_payload_L1 a0 z.1 z.2.1 z.2.2 = some r) (fun z => z.1) (fuel, v8, 0) (fun i => i) ⟨(.cons (.same rfl rfl) (.cons (.same rfl rfl) (.cons (.same rfl rfl) .nil))), (.cons (.blk rfl rfl rfl) (.cons (.tail rfl) .nil)), nd_of [0, 22] rfl (by decide), (fun i hi => by first | rfl | (show (if _ then _ else _) = _; (repeat' split) <;> omega))⟩ ?_ ?_
        · exact h
        ·
          rintro ⟨n1, v28, v29⟩ h
          cases n1 with
          | zero => exact absurd h (by unfold sennitref15_payload_L1; exact nofun)
          | succ n1 =>
            unfold sennitref15_payload_L1 at h
            refine iwp_seq ?_
            obtain ⟨x36, hx36, h⟩ := bnd_e h
            refine iwp_reg (ils_cons rfl (iop_move rfl rfl (by decide) (sv (d := .int _ _) rfl)) <|
              ils_cons rfl (iop_fieldAddr_ref rfl rfl (by decide) Try.underlying40 rfl ti38 (by decide) (sv (d := .ref _ _) rfl) (off' := 8) rfl) <|
              ils_cons rfl (iop_load_rs (d := .slice _ _) rfl rfl (by decide) Try.underlying38 ag38 ti38 (by decide) (sv (d := .ref _ _) rfl) rfl (nle rfl) rfl) <|
              ils_cons rfl (iop_lenT E_api_Pair (l := a0.Pairs) rfl rfl (by decide) Try.underlying38 (sv (d := .slice _ _) rfl)) <|
              ils_cons rfl (iop_cmpx rfl rfl (by decide) (sv (d := .int _ _) rfl) (sv (d := .int _ _) rfl) rfl hx36) <|
              ils_end ?_)
            refine iwp_cond (b := _) rfl (fun hc37 => ?_) (fun hc37 => ?_)
            ·
              replace h := bif_t h hc37
              refine iwp_skip ?_
              refine thenQ_n ?_
              refine iwp_seq ?_
              refine iwp_block ?_
              obtain ⟨x38, hx38, h⟩ := bno_e h
              obtain ⟨x39, hx39, h⟩ := bno_e h
              obtain ⟨x40, hx40, h⟩ := bno_e h
              refine iwp_draw rfl [⟨[3], [], [(33, .gsl 22 (eInt .i64).sz (v28.map (eInt .i64).d))], []⟩,
                ⟨[1], [], [(34, .ref 0 8)], []⟩,
                ⟨[34], [0], [(35, .slice false (a0.Pairs.map E_api_Pair.d))], []⟩,
                ⟨[6], [], [(36, .int .i64 v29)], []⟩,
                ⟨[35, 36], [], [(37, .fptr [.int .i64 x38.ID, .int .i64 x38.Value])], []⟩,
                ⟨[37], [], [(38, .fptr [.int .i64 x38.ID])], []⟩,
                ⟨[38], [], [(39, .int .i64 x38.ID)], []⟩,
                ⟨[1], [], [(40, .ref 0 8)], []⟩,
                ⟨[40], [0], [(41, .slice false (a0.Pairs.map E_api_Pair.d))], []⟩,
                ⟨[6], [], [(42, .int .i64 v29)], []⟩,
                ⟨[41, 42], [], [(43, .fptr [.int .i64 x39.ID, .int .i64 x39.Value])], []⟩,
                ⟨[43], [], [(44, .fptr [.int .i64 x39.Value])], []⟩,
                ⟨[44], [], [(45, .int .i64 x39.Value)], []⟩,
                ⟨[39, 45], [23], [(46, .gsl 23 (eInt .i64).sz (([x38.ID, x39.Value] : (List Int)).map (eInt .i64).d))], [(23, .tail 3 (eInt .i64).sz ([x38.ID, x39.Value] : (List Int)).length)]⟩,
                ⟨[33, 46], [22, 24], [(47, .gsl 24 (eInt .i64).sz (x40.map (eInt .i64).d))], [(24, .tail 3 (eInt .i64).sz x40.length), (22, .none)]⟩,
                ⟨[47], [], [(3, .gsl 24 (eInt .i64).sz (x40.map (eInt .i64).d))], []⟩] rfl ?_ (by kernel_rfl) ?_
              · refine .cons (lop rfl rfl fun S hA => (iop_move rfl rfl (by decide) (sv (d := .gsl _ _ _) (agr hA rfl rfl)))) ?_
                refine .cons (lop rfl rfl fun S hA => (iop_fieldAddr_ref rfl rfl (by decide) Try.underlying40 rfl ti38 (by decide) (sv (d := .ref _ _) (agr hA rfl rfl)) (off' := 8) rfl)) ?_
                refine .cons (lop rfl rfl fun S hA => (iop_load_rs (d := .slice _ _) rfl rfl (by decide) Try.underlying38 ag38 ti38 (by decide) (sv (d := .ref _ _) (agr hA rfl rfl)) (agi hA rfl rfl) (nle rfl) rfl)) ?_
                refine .cons (lop rfl rfl fun S hA => (iop_move rfl rfl (by decide) (sv (d := .int _ _) (agr hA rfl rfl)))) ?_
                refine .cons (lop rfl rfl fun S hA => (iop_idxT E_api_Pair (cs := [.int _ _, .int _ _]) rfl rfl (by decide) Try.underlying38 ti77 (sv (d := .slice _ _) (agr hA rfl rfl)) (sv (d := .int _ _) (agr hA rfl rfl)) hx38 rfl rfl)) ?_
                refine .cons (lop rfl rfl fun S hA => (iop_fieldAddr_fptr (cs' := [.int _ _]) rfl rfl (by decide) Try.underlying77 rfl ti3 (by decide) (sv (d := .fptr [.int _ _, .int _ _]) (agr hA rfl rfl)) rfl)) ?_
                refine .cons (lop rfl rfl fun S hA => (iop_load_fs rfl rfl (by decide) Try.underlying3 ag3 ti3 (by decide) (sv (d := .fptr [.int _ _]) (agr hA rfl rfl)) (nle rfl))) ?_
                refine .cons (lop rfl rfl fun S hA => (iop_fieldAddr_ref rfl rfl (by decide) Try.underlying40 rfl ti38 (by decide) (sv (d := .ref _ _) (agr hA rfl rfl)) (off' := 8) rfl)) ?_
                refine .cons (lop rfl rfl fun S hA => (iop_load_rs (d := .slice _ _) rfl rfl (by decide) Try.underlying38 ag38 ti38 (by decide) (sv (d := .ref _ _) (agr hA rfl rfl)) (agi hA rfl rfl) (nle rfl) rfl)) ?_
                refine .cons (lop rfl rfl fun S hA => (iop_move rfl rfl (by decide) (sv (d := .int _ _) (agr hA rfl rfl)))) ?_
                refine .cons (lop rfl rfl fun S hA => (iop_idxT E_api_Pair (cs := [.int _ _, .int _ _]) rfl rfl (by decide) Try.underlying38 ti77 (sv (d := .slice _ _) (agr hA rfl rfl)) (sv (d := .int _ _) (agr hA rfl rfl)) hx39 rfl rfl)) ?_
                refine .cons (lop rfl rfl fun S hA => (iop_fieldAddr_fptr (cs' := [.int _ _]) rfl rfl (by decide) Try.underlying77 rfl ti3 (by decide) (sv (d := .fptr [.int _ _, .int _ _]) (agr hA rfl rfl)) rfl)) ?_
                refine .cons (lop rfl rfl fun S hA => (iop_load_fs rfl rfl (by decide) Try.underlying3 ag3 ti3 (by decide) (sv (d := .fptr [.int _ _]) (agr hA rfl rfl)) (nle rfl))) ?_
                refine .cons (lop rfl rfl fun S hA => (iop_bsT (eInt .i64) ([x38.ID, x39.Value] : (List Int)) 23 rfl rfl (by decide) Try.underlying88 ti3 (agi hA rfl rfl) (.cons (sv (d := .int _ _) (agr hA rfl rfl)) (.cons (sv (d := .int _ _) (agr hA rfl rfl)) .nil)) rfl rfl (by decide))) ?_
                refine .cons (lop rfl rfl fun S hA => (iop_appT (eInt .i64) 24 rfl rfl (by decide) Try.underlying88 ti3 rfl (agr hA rfl rfl) (agi hA rfl rfl) (agi hA rfl rfl) (svg (agr hA rfl rfl)) hx40)) ?_
                refine .cons (lop rfl rfl fun S hA => (iop_assign rfl rfl (by decide) (sv (d := .gsl _ _ _) (agr hA rfl rfl)))) ?_
                exact .nil
              refine blockQ_n ?_
              refine thenQ_n ?_
              obtain ⟨x41, hx41, h⟩ := bnd_e h
              refine iwp_region (ils_cons rfl (iop_move rfl rfl (by decide) (sv (d := .int _ _) rfl)) <|
                ils_cons rfl (iop_intx rfl rfl (by decide) (sv (d := .int _ _) rfl) (sv (d := .int _ 1) rfl) rfl hx41) <|
                ils_cons rfl (iop_assign rfl rfl (by decide) (sv (d := .int _ _) rfl)) <|
                ils_nil ?_)
              refine thenQ_n ⟨(n1, x40, x41), (fun i => if i = 22 then 24 else i), ⟨(.cons (.same rfl rfl) (.cons (.same rfl rfl) (.cons (.same rfl rfl) .nil))), (.cons (.blk rfl rfl rfl) (.cons (.tail rfl) .nil)), nd_of [0, 24] rfl (by decide), (fun i hi => by first | rfl | (show (if _ then _ else _) = _; (repeat' split) <;> omega))⟩, ?_, ?_⟩
              exact h
              exact Nat.lt_succ_self _
            ·
              replace h := bif_f h hc37
              refine iwp_exit ?_
              refine thenQ_e ?_
              refine thenQ_e ?_
              refine blockQ_e ?_
              refine thenQ_n ?_
              obtain ⟨x42, hx42, h⟩ := bno_e h
              refine iwp_reg (ils_cons rfl (iop_move rfl rfl (by decide) (sv (d := .gsl _ _ _) rfl)) <|
                ils_cons rfl (iop_call (r := .tuple [.slice _ _, .int _ _]) rfl rfl (by decide) cl55 (.cons (svg rfl) .nil) rfl (p_sennitref02_Join _ _ hx42)) <|
                ils_cons rfl (iop_move rfl rfl (by decide) (sv (d := .tuple [.slice _ _, .int _ _]) rfl)) <|
                ils_cons rfl (iop_extract (d := .slice _ _) rfl rfl (by decide) (sv (d := .tuple [.slice _ _, .int _ _]) rfl) rfl) <|
                ils_cons rfl (iop_extract (d := .int _ _) rfl rfl (by decide) (sv (d := .tuple [.slice _ _, .int _ _]) rfl) rfl) <|
                ils_cons rfl (iop_assign rfl rfl (by decide) (sv (d := .slice _ _) rfl)) <|
                ils_cons rfl (iop_assign rfl rfl (by decide) (sv (d := .int _ _) rfl)) <|
                ils_end ?_)
              obtain ⟨x43, hx43, h⟩ := bno_e h
              refine iwp_reg (ils_cons rfl (iop_move rfl rfl (by decide) (sv (d := .slice _ _) rfl)) <|
                ils_cons rfl (iop_bytes_str (l := x42.1) rfl rfl (by decide) Try.underlying65 Try.underlying5 Try.underlying9 (sv (d := .slice _ _) rfl)) <|
                ils_cons rfl (iop_fieldAddr_ref rfl rfl (by decide) Try.underlying40 rfl ti9 (by decide) (sv (d := .ref _ _) rfl) (off' := 9) rfl) <|
                ils_cons rfl (iop_load_rs (d := .str _) rfl rfl (by decide) Try.underlying9 ag9 ti9 (by decide) (sv (d := .ref _ _) rfl) rfl (nle rfl) rfl) <|
                ils_cons rfl (iop_catx rfl rfl (by decide) (sv (d := .str _) rfl) (sv (d := .str _) rfl) hx43) <|
                ils_cons rfl (iop_assign rfl rfl (by decide) (sv (d := .str _) rfl)) <|
                ils_end ?_)
              refine iwp_ret ?_
              obtain rfl := Option.some.inj h
              refine ⟨.inr rfl, (.cons (sv rfl) .nil)⟩

set_option maxRecDepth 8000 in
set_option maxHeartbeats 2000000 in
theorem p_sennitref15_Put (a0 : T_frame_Frame) (r : ((List UInt8) × Int)) (h : sennitref15_Put a0 = some r) : PureAt Try.prog 21 [.agg [.int .u8 a0.Kind, .bool a0.Flag, .int .i64 a0.Stream, .int .i64 a0.Offset, .int .i64 a0.Dep, .int .i64 a0.Weight, .int .i64 a0.N, .int .i64 a0.Code, .slice false (a0.Pairs.map E_api_Pair.d), .str a0.Data]] (retD [.str r.1, .int .i64 r.2]) := by
  refine pure_of_iwp (rs := [.str r.1, .int .i64 r.2]) Try.func21 rfl Try.ntmps21 (nle rfl) rfl fun O hO => ?_
  show IWP _ _ _ _ ⟨[(0, .agg [.int .u8 a0.Kind, .bool a0.Flag, .int .i64 a0.Stream, .int .i64 a0.Offset, .int .i64 a0.Dep, .int .i64 a0.Weight, .int .i64 a0.N, .int .i64 a0.Code, .slice false (a0.Pairs.map E_api_Pair.d), .str a0.Data])], []⟩ _
  unfold sennitref15_Put at h
  refine iwp_reg (ils_cons rfl (iop_box' (cs := [.int _ _, .bool _, .int _ _, .int _ _, .int _ _, .int _ _, .int _ _, .int _ _, .slice _ _, .str _]) 0 rfl rfl (by decide) rfl (sv (d := .agg [.int _ _, .bool _, .int _ _, .int _ _, .int _ _, .int _ _, .int _ _, .int _ _, .slice _ _, .str _]) rfl) rfl rfl) <|
    ils_cons rfl (iop_assign rfl rfl (by decide) (sv (d := .str []) rfl)) <|
    ils_cons rfl (iop_assign rfl rfl (by decide) (sv (d := .int _ 0) rfl)) <|
    ils_end ?_)
  obtain ⟨x1, hx1, h⟩ := bno_e h
  refine iwp_reg (ils_cons rfl (iop_load_ra (cs := [.int _ _, .bool _, .int _ _, .int _ _, .int _ _, .int _ _, .int _ _, .int _ _, .slice _ _, .str _]) rfl rfl (by decide) Try.underlying40 ag40 ti40 (by decide) (sv (d := .ref _ _) rfl) rfl (nle rfl) rfl) <|
    ils_cons rfl (iop_call (r := .int _ _) rfl rfl (by decide) cl23 (.cons (sv (d := .agg [.int _ _, .bool _, .int _ _, .int _ _, .int _ _, .int _ _, .int _ _, .int _ _, .slice _ _, .str _]) rfl) .nil) rfl (p_sennitref15_Check _ _ hx1)) <|
    ils_cons rfl (iop_assign rfl rfl (by decide) (sv (d := .int _ _) rfl)) <|
    ils_end ?_)
  refine iwp_seq ?_
  obtain ⟨x2, hx2, h⟩ := bnd_e h
  refine iwp_reg (ils_cons rfl (iop_move rfl rfl (by decide) (sv (d := .int _ _) rfl)) <|
    ils_cons rfl (iop_cmpx rfl rfl (by decide) (sv (d := .int _ _) rfl) (sv (d := .int _ 0) rfl) rfl hx2) <|
    ils_end ?_)
  refine iwp_cond (b := _) rfl (fun hc3 => ?_) (fun hc3 => ?_)
  ·
    replace h := bif_t h hc3
    refine iwp_reg (ils_cons rfl (iop_move rfl rfl (by decide) (sv (d := .int _ _) rfl)) <|
      ils_cons rfl (iop_assign rfl rfl (by decide) (sv (d := .str []) rfl)) <|
      ils_cons rfl (iop_assign rfl rfl (by decide) (sv (d := .int _ _) rfl)) <|
      ils_end ?_)
    refine iwp_ret ?_
    refine thenQ_r ?_
    obtain rfl := Option.some.inj h
    refine ⟨.inr rfl, (.cons (sv rfl) (.cons (sv rfl) .nil))⟩
  ·
    replace h := bif_f h hc3
    refine iwp_skip ?_
    refine thenQ_n ?_
    refine iwp_reg (ils_cons rfl (iop_assign rfl rfl (by decide) (sv (d := .int _ 0) rfl)) <|
      ils_end ?_)
    refine iwp_join (α := Int) (fun z => ⟨[(1, .ref 0 0), (5, .int .u8 z)], [(0, .blk 40 [.int .u8 a0.Kind, .bool a0.Flag, .int .i64 a0.Stream, .int .i64 a0.Offset, .int .i64 a0.Dep, .int .i64 a0.Weight, .int .i64 a0.N, .int .i64 a0.Code, .slice false (a0.Pairs.map E_api_Pair.d), .str a0.Data])]⟩) (fun z => sennitref15_Put_J0 a0 z = some r) ?_ ?_
    ·
      refine iwp_reg (ils_cons rfl (iop_fieldAddr_ref rfl rfl (by decide) Try.underlying40 rfl ti4 (by decide) (sv (d := .ref _ _) rfl) (off' := 1) rfl) <|
        ils_cons rfl (iop_load_rs (d := .bool _) rfl rfl (by decide) Try.underlying4 ag4 ti4 (by decide) (sv (d := .ref _ _) rfl) rfl (nle rfl) rfl) <|
        ils_end ?_)
      refine iwp_cond (b := _) rfl (fun hc12 => ?_) (fun hc12 => ?_)
      ·
        replace h := bif_t h hc12
        refine iwp_region (ils_cons rfl (iop_assign rfl rfl (by decide) (sv (d := .int _ 1) rfl)) <|
          ils_nil ?_)
        refine thenQ_n ⟨1, (fun i => i), ⟨(.cons (.same rfl rfl) (.cons (.same rfl rfl) .nil)), (.cons (.blk rfl rfl rfl) .nil), nd_of [0] rfl (by decide), (fun i hi => by first | rfl | (show (if _ then _ else _) = _; (repeat' split) <;> omega))⟩, ?_⟩
        exact h
      ·
        replace h := bif_f h hc12
        refine iwp_skip ?_
        refine thenQ_n ⟨0, (fun i => i), ⟨(.cons (.same rfl rfl) (.cons (.same rfl rfl) .nil)), (.cons (.blk rfl rfl rfl) .nil), nd_of [0] rfl (by decide), (fun i hi => by first | rfl | (show (if _ then _ else _) = _; (repeat' split) <;> omega))⟩, ?_⟩
        exact h
    ·
      rintro v5 h
      unfold sennitref15_Put_J0 at h
      obtain ⟨x6, hx6, h⟩ := bno_e h
      refine iwp_reg (ils_cons rfl (iop_load_ra (cs := [.int _ _, .bool _, .int _ _, .int _ _, .int _ _, .int _ _, .int _ _, .int _ _, .slice _ _, .str _]) rfl rfl (by decide) Try.underlying40 ag40 ti40 (by decide) (sv (d := .ref _ _) rfl) rfl (nle rfl) rfl) <|
        ils_cons rfl (iop_call (r := .str _) rfl rfl (by decide) cl35 (.cons (sv (d := .agg [.int _ _, .bool _, .int _ _, .int _ _, .int _ _, .int _ _, .int _ _, .int _ _, .slice _ _, .str _]) rfl) .nil) rfl (p_sennitref15_payload _ _ hx6)) <|
        ils_cons rfl (iop_assign rfl rfl (by decide) (sv (d := .str _) rfl)) <|
        ils_end ?_)
      obtain ⟨x7, hx7, h⟩ := bno_e h
      refine iwp_reg (ils_cons rfl (iop_move rfl rfl (by decide) (sv (d := .str _) rfl)) <|
        ils_cons rfl (iop_len_str rfl rfl (by decide) Try.underlying9 (sv (d := .str _) rfl) rfl) <|
        ils_cons rfl (iop_call (r := .tuple [.slice _ _, .int _ _]) rfl rfl (by decide) cl36 (.cons (sv (d := .int _ _) rfl) .nil) rfl (p_sennitref02_Put _ _ hx7)) <|
        ils_cons rfl (iop_move rfl rfl (by decide) (sv (d := .tuple [.slice _ _, .int _ _]) rfl)) <|
        ils_cons rfl (iop_extract (d := .slice _ _) rfl rfl (by decide) (sv (d := .tuple [.slice _ _, .int _ _]) rfl) rfl) <|
        ils_cons rfl (iop_extract (d := .int _ _) rfl rfl (by decide) (sv (d := .tuple [.slice _ _, .int _ _]) rfl) rfl) <|
        ils_cons rfl (iop_assign rfl rfl (by decide) (sv (d := .slice _ _) rfl)) <|
        ils_cons rfl (iop_assign rfl rfl (by decide) (sv (d := .int _ _) rfl)) <|
        ils_end ?_)
      obtain ⟨x8, hx8, h⟩ := bno_e h
      obtain ⟨x9, hx9, h⟩ := bno_e h
      obtain ⟨x10, hx10, h⟩ := bno_e h
      obtain ⟨x11, hx11, h⟩ := bno_e h
      refine iwp_reg (ils_cons rfl (iop_fieldAddr_ref rfl rfl (by decide) Try.underlying40 rfl ti5 (by decide) (sv (d := .ref _ _) rfl) (off' := 0) rfl) <|
        ils_cons rfl (iop_load_rs (d := .int _ _) rfl rfl (by decide) Try.underlying5 ag5 ti5 (by decide) (sv (d := .ref _ _) rfl) rfl (nle rfl) rfl) <|
        ils_cons rfl (iop_move rfl rfl (by decide) (sv (d := .int _ _) rfl)) <|
        ils_cons rfl (iop_bsT eByte ([x8, x9] : (List UInt8)) 1 rfl rfl (by decide) Try.underlying65 ti5 rfl (.cons (sv_int (sv (d := .int _ _) rfl) (toU8_e hx8)) (.cons (sv_int (sv (d := .int _ _) rfl) (toU8_e hx9)) .nil)) rfl rfl (by decide)) <|
        ils_cons rfl (iop_bytes_str (l := ([x8, x9] : (List UInt8))) rfl rfl (by decide) Try.underlying65 Try.underlying5 Try.underlying9 (svg rfl)) <|
        ils_cons rfl (iop_move rfl rfl (by decide) (sv (d := .slice _ _) rfl)) <|
        ils_cons rfl (iop_bytes_str (l := x7.1) rfl rfl (by decide) Try.underlying65 Try.underlying5 Try.underlying9 (sv (d := .slice _ _) rfl)) <|
        ils_cons rfl (iop_catx rfl rfl (by decide) (sv (d := .str _) rfl) (sv (d := .str _) rfl) hx10) <|
        ils_cons rfl (iop_move rfl rfl (by decide) (sv (d := .str _) rfl)) <|
        ils_cons rfl (iop_catx rfl rfl (by decide) (sv (d := .str _) rfl) (sv (d := .str _) rfl) hx11) <|
        ils_cons rfl (iop_assign rfl rfl (by decide) (sv (d := .str _) rfl)) <|
        ils_cons rfl (iop_assign rfl rfl (by decide) (sv (d := .int _ 0) rfl)) <|
        ils_end ?_)
      refine iwp_ret ?_
      obtain rfl := Option.some.inj h
      refine ⟨.inr rfl, (.cons (sv rfl) (.cons (sv rfl) .nil))⟩

set_option maxRecDepth 8000 in
set_option maxHeartbeats 2000000 in
theorem p_sennitref15_Size (a0 : T_frame_Frame) (r : Int) (h : sennitref15_Size a0 = some r) : PureAt Try.prog 25 [.agg [.int .u8 a0.Kind, .bool a0.Flag, .int .i64 a0.Stream, .int .i64 a0.Offset, .int .i64 a0.Dep, .int .i64 a0.Weight, .int .i64 a0.N, .int .i64 a0.Code, .slice false (a0.Pairs.map E_api_Pair.d), .str a0.Data]] (.int .i64 r) := by
  refine pure_of_iwp (rs := [.int .i64 r]) Try.func25 rfl Try.ntmps25 (nle rfl) rfl fun O hO => ?_
  show IWP _ _ _ _ ⟨[(0, .agg [.int .u8 a0.Kind, .bool a0.Flag, .int .i64 a0.Stream, .int .i64 a0.Offset, .int .i64 a0.Dep, .int .i64 a0.Weight, .int .i64 a0.N, .int .i64 a0.Code, .slice false (a0.Pairs.map E_api_Pair.d), .str a0.Data])], []⟩ _
  unfold sennitref15_Size at h
  refine iwp_reg (ils_cons rfl (iop_box' (cs := [.int _ _, .bool _, .int _ _, .int _ _, .int _ _, .int _ _, .int _ _, .int _ _, .slice _ _, .str _]) 0 rfl rfl (by decide) rfl (sv (d := .agg [.int _ _, .bool _, .int _ _, .int _ _, .int _ _, .int _ _, .int _ _, .int _ _, .slice _ _, .str _]) rfl) rfl rfl) <|
    ils_cons rfl (iop_assign rfl rfl (by decide) (sv (d := .int _ 0) rfl)) <|
    ils_end ?_)
  obtain ⟨x1, hx1, h⟩ := bno_e h
  refine iwp_reg (ils_cons rfl (iop_load_ra (cs := [.int _ _, .bool _, .int _ _, .int _ _, .int _ _, .int _ _, .int _ _, .int _ _, .slice _ _, .str _]) rfl rfl (by decide) Try.underlying40 ag40 ti40 (by decide) (sv (d := .ref _ _) rfl) rfl (nle rfl) rfl) <|
    ils_cons rfl (iop_call (r := .tuple [.str _, .int _ _]) rfl rfl (by decide) cl21 (.cons (sv (d := .agg [.int _ _, .bool _, .int _ _, .int _ _, .int _ _, .int _ _, .int _ _, .int _ _, .slice _ _, .str _]) rfl) .nil) rfl (p_sennitref15_Put _ _ hx1)) <|
    ils_cons rfl (iop_move rfl rfl (by decide) (sv (d := .tuple [.str _, .int _ _]) rfl)) <|
    ils_cons rfl (iop_extract (d := .str _) rfl rfl (by decide) (sv (d := .tuple [.str _, .int _ _]) rfl) rfl) <|
    ils_cons rfl (iop_extract (d := .int _ _) rfl rfl (by decide) (sv (d := .tuple [.str _, .int _ _]) rfl) rfl) <|
    ils_cons rfl (iop_assign rfl rfl (by decide) (sv (d := .str _) rfl)) <|
    ils_cons rfl (iop_assign rfl rfl (by decide) (sv (d := .int _ _) rfl)) <|
    ils_end ?_)
  refine iwp_reg (ils_cons rfl (iop_move rfl rfl (by decide) (sv (d := .str _) rfl)) <|
    ils_cons rfl (iop_len_str rfl rfl (by decide) Try.underlying9 (sv (d := .str _) rfl) rfl) <|
    ils_cons rfl (iop_assign rfl rfl (by decide) (sv (d := .int _ _) rfl)) <|
    ils_end ?_)
  refine iwp_ret ?_
  obtain rfl := Option.some.inj h
  refine ⟨.inr rfl, (.cons (sv rfl) .nil)⟩

set_option maxRecDepth 8000 in
set_option maxHeartbeats 2000000 in
theorem p_sennitref15_Same (a0 : T_frame_Frame) (a1 : T_frame_Frame) (r : Bool) (h : sennitref15_Same a0 a1 = some r) : PureAt Try.prog 27 [.agg [.int .u8 a0.Kind, .bool a0.Flag, .int .i64 a0.Stream, .int .i64 a0.Offset, .int .i64 a0.Dep, .int .i64 a0.Weight, .int .i64 a0.N, .int .i64 a0.Code, .slice false (a0.Pairs.map E_api_Pair.d), .str a0.Data], .agg [.int .u8 a1.Kind, .bool a1.Flag, .int .i64 a1.Stream, .int .i64 a1.Offset, .int .i64 a1.Dep, .int .i64 a1.Weight, .int .i64 a1.N, .int .i64 a1.Code, .slice false (a1.Pairs.map E_api_Pair.d), .str a1.Data]] (.bool r) := by
  refine pure_of_iwp (rs := [.bool r]) Try.func27 rfl Try.ntmps27 (nle rfl) rfl fun O hO => ?_
  show IWP _ _ _ _ ⟨[(0, .agg [.int .u8 a0.Kind, .bool a0.Flag, .int .i64 a0.Stream, .int .i64 a0.Offset, .int .i64 a0.Dep, .int .i64 a0.Weight, .int .i64 a0.N, .int .i64 a0.Code, .slice false (a0.Pairs.map E_api_Pair.d), .str a0.Data]), (1, .agg [.int .u8 a1.Kind, .bool a1.Flag, .int .i64 a1.Stream, .int .i64 a1.Offset, .int .i64 a1.Dep, .int .i64 a1.Weight, .int .i64 a1.N, .int .i64 a1.Code, .slice false (a1.Pairs.map E_api_Pair.d), .str a1.Data])], []⟩ _
  unfold sennitref15_Same at h
  refine iwp_reg (ils_cons rfl (iop_box' (cs := [.int _ _, .bool _, .int _ _, .int _ _, .int _ _, .int _ _, .int _ _, .int _ _, .slice _ _, .str _]) 0 rfl rfl (by decide) rfl (sv (d := .agg [.int _ _, .bool _, .int _ _, .int _ _, .int _ _, .int _ _, .int _ _, .int _ _, .slice _ _, .str _]) rfl) rfl rfl) <|
    ils_cons rfl (iop_box' (cs := [.int _ _, .bool _, .int _ _, .int _ _, .int _ _, .int _ _, .int _ _, .int _ _, .slice _ _, .str _]) 1 rfl rfl (by decide) rfl (sv (d := .agg [.int _ _, .bool _, .int _ _, .int _ _, .int _ _, .int _ _, .int _ _, .int _ _, .slice _ _, .str _]) rfl) rfl rfl) <|
    ils_cons rfl (iop_assign rfl rfl (by decide) (sv (d := .bool false) rfl)) <|
    ils_end ?_)
  refine iwp_seq ?_
  obtain ⟨x1, hx1, h⟩ := bnd_e h
  refine iwp_reg (ils_cons rfl (iop_fieldAddr_ref rfl rfl (by decide) Try.underlying40 rfl ti38 (by decide) (sv (d := .ref _ _) rfl) (off' := 8) rfl) <|
    ils_cons rfl (iop_load_rs (d := .slice _ _) rfl rfl (by decide) Try.underlying38 ag38 ti38 (by decide) (sv (d := .ref _ _) rfl) rfl (nle rfl) rfl) <|
    ils_cons rfl (iop_lenT E_api_Pair (l := a0.Pairs) rfl rfl (by decide) Try.underlying38 (sv (d := .slice _ _) rfl)) <|
    ils_cons rfl (iop_fieldAddr_ref rfl rfl (by decide) Try.underlying40 rfl ti38 (by decide) (sv (d := .ref _ _) rfl) (off' := 8) rfl) <|
    ils_cons rfl (iop_load_rs (d := .slice _ _) rfl rfl (by decide) Try.underlying38 ag38 ti38 (by decide) (sv (d := .ref _ _) rfl) rfl (nle rfl) rfl) <|
    ils_cons rfl (iop_lenT E_api_Pair (l := a1.Pairs) rfl rfl (by decide) Try.underlying38 (sv (d := .slice _ _) rfl)) <|
    ils_cons rfl (iop_cmpx rfl rfl (by decide) (sv (d := .int _ _) rfl) (sv (d := .int _ _) rfl) rfl hx1) <|
    ils_end ?_)
  refine iwp_cond (b := _) rfl (fun hc2 => ?_) (fun hc2 => ?_)
  ·
    replace h := bif_t h hc2
    refine iwp_reg (ils_cons rfl (iop_assign rfl rfl (by decide) (sv (d := .bool false) rfl)) <|
      ils_end ?_)
    refine iwp_ret ?_
    refine thenQ_r ?_
    obtain rfl := Option.some.inj h
    refine ⟨.inr rfl, (.cons (sv rfl) .nil)⟩
  ·
    replace h := bif_f h hc2
    refine iwp_skip ?_
    refine thenQ_n ?_
    refine iwp_seq ?_
    refine iwp_reg (ils_cons rfl (iop_assign rfl rfl (by decide) (sv (d := .int _ 0) rfl)) <|
      ils_end ?_)
    refine iwp_block ?_
    refine iwp_loopP (α := Nat × Int) (fun z => ⟨[(2, .ref 0 0), (3, .ref 1 0), (5, .int .i64 z.2)], [(0, .blk 40 [.int .u8 a0.Kind, .bool a0.Flag, .int .i64 a0.Stream, .int .i64 a0.Offset, .int .i64 a0.Dep, .int .i64 a0.Weight, .int .i64 a0.N, .int .i64 a0.Code, .slice false (a0.Pairs.map E_api_Pair.d), .str a0.Data]), (1, .blk 40 [.int .u8 a1.Kind, .bool a1.Flag, .int .i64 a1.Stream, .int .i64 a1.Offset, .int .i64 a1.Dep, .int .i64 a1.Weight, .int .i64 a1.N, .int .i64 a1.Code, .slice false (a1.Pairs.map E_api_Pair.d), .str a1.Data])]⟩) (fun z => sennitref15_Same_L0 a0 a1 z.1 z.2 = some r) (fun z => z.1) (fuel, 0) (fun i => i) ⟨(.cons (.same rfl rfl) (.cons (.same rfl rfl) (.cons (.same rfl rfl) .nil))), (.cons (.blk rfl rfl rfl) (.cons (.blk rfl rfl rfl) .nil)), nd_of [0, 1] rfl (by decide), (fun i hi => by first | rfl | (show (if _ then _ else _) = _; (repeat' split) <;> omega))⟩ ?_ ?_
    · exact h
    ·
      rintro ⟨n0, v10⟩ h
      cases n0 with
      | zero => exact absurd h (by unfold sennitref15_Same_L0; exact nofun)
      | succ n0 =>
        unfold sennitref15_Same_L0 at h
        refine iwp_seq ?_
        obtain ⟨x18, hx18, h⟩ := bnd_e h
        refine iwp_reg (ils_cons rfl (iop_move rfl rfl (by decide) (sv (d := .int _ _) rfl)) <|
          ils_cons rfl (iop_fieldAddr_ref rfl rfl (by decide) Try.underlying40 rfl ti38 (by decide) (sv (d := .ref _ _) rfl) (off' := 8) rfl) <|
          ils_cons rfl (iop_load_rs (d := .slice _ _) rfl rfl (by decide) Try.underlying38 ag38 ti38 (by decide) (sv (d := .ref _ _) rfl) rfl (nle rfl) rfl) <|
          ils_cons rfl (iop_lenT E_api_Pair (l := a0.Pairs) rfl rfl (by decide) Try.underlying38 (sv (d := .slice _ _) rfl)) <|
          ils_cons rfl (iop_cmpx rfl rfl (by decide) (sv (d := .int _ _) rfl) (sv (d := .int _ _) rfl) rfl hx18) <|
          ils_end ?_)
        refine iwp_cond (b := _) rfl (fun hc19 => ?_) (fun hc19 => ?_)
        ·
          replace h := bif_t h hc19
          refine iwp_skip ?_
          refine thenQ_n ?_
          refine iwp_seq ?_
          refine iwp_block ?_
          obtain ⟨x20, hx20, h⟩ := bno_e h
          obtain ⟨x21, hx21, h⟩ := bno_e h
          obtain ⟨x22, hx22, h⟩ := bnd_e h
          refine iwp_drw rfl [⟨[2], [], [(20, .ref 0 8)], []⟩,
            ⟨[20], [0], [(21, .slice false (a0.Pairs.map E_api_Pair.d))], []⟩,
            ⟨[5], [], [(22, .int .i64 v10)], []⟩,
            ⟨[21, 22], [], [(23, .fptr [.int .i64 x20.ID, .int .i64 x20.Value])], []⟩,
            ⟨[23], [], [(24, .agg [.int .i64 x20.ID, .int .i64 x20.Value])], []⟩,
            ⟨[3], [], [(25, .ref 1 8)], []⟩,
            ⟨[25], [1], [(26, .slice false (a1.Pairs.map E_api_Pair.d))], []⟩,
            ⟨[5], [], [(27, .int .i64 v10)], []⟩,
            ⟨[26, 27], [], [(28, .fptr [.int .i64 x21.ID, .int .i64 x21.Value])], []⟩,
            ⟨[28], [], [(29, .agg [.int .i64 x21.ID, .int .i64 x21.Value])], []⟩,
            ⟨[24, 29], [], [(30, .bool (!x22))], []⟩] rfl ?_ (by kernel_rfl) ?_
          · refine .cons (lop rfl rfl fun S hA => (iop_fieldAddr_ref rfl rfl (by decide) Try.underlying40 rfl ti38 (by decide) (sv (d := .ref _ _) (agr hA rfl rfl)) (off' := 8) rfl)) ?_
            refine .cons (lop rfl rfl fun S hA => (iop_load_rs (d := .slice _ _) rfl rfl (by decide) Try.underlying38 ag38 ti38 (by decide) (sv (d := .ref _ _) (agr hA rfl rfl)) (agi hA rfl rfl) (nle rfl) rfl)) ?_
            refine .cons (lop rfl rfl fun S hA => (iop_move rfl rfl (by decide) (sv (d := .int _ _) (agr hA rfl rfl)))) ?_
            refine .cons (lop rfl rfl fun S hA => (iop_idxT E_api_Pair (cs := [.int _ _, .int _ _]) rfl rfl (by decide) Try.underlying38 ti77 (sv (d := .slice _ _) (agr hA rfl rfl)) (sv (d := .int _ _) (agr hA rfl rfl)) hx20 rfl rfl)) ?_
            refine .cons (lop rfl rfl fun S hA => (iop_load_fa (cs := [.int _ _, .int _ _]) rfl rfl (by decide) Try.underlying77 ag77 ti77 (by decide) (sv (d := .fptr [.int _ _, .int _ _]) (agr hA rfl rfl)) (nle rfl) rfl)) ?_
            refine .cons (lop rfl rfl fun S hA => (iop_fieldAddr_ref rfl rfl (by decide) Try.underlying40 rfl ti38 (by decide) (sv (d := .ref _ _) (agr hA rfl rfl)) (off' := 8) rfl)) ?_
            refine .cons (lop rfl rfl fun S hA => (iop_load_rs (d := .slice _ _) rfl rfl (by decide) Try.underlying38 ag38 ti38 (by decide) (sv (d := .ref _ _) (agr hA rfl rfl)) (agi hA rfl rfl) (nle rfl) rfl)) ?_
            refine .cons (lop rfl rfl fun S hA => (iop_move rfl rfl (by decide) (sv (d := .int _ _) (agr hA rfl rfl)))) ?_
            refine .cons (lop rfl rfl fun S hA => (iop_idxT E_api_Pair (cs := [.int _ _, .int _ _]) rfl rfl (by decide) Try.underlying38 ti77 (sv (d := .slice _ _) (agr hA rfl rfl)) (sv (d := .int _ _) (agr hA rfl rfl)) hx21 rfl rfl)) ?_
            refine .cons (lop rfl rfl fun S hA => (iop_load_fa (cs := [.int _ _, .int _ _]) rfl rfl (by decide) Try.underlying77 ag77 ti77 (by decide) (sv (d := .fptr [.int _ _, .int _ _]) (agr hA rfl rfl)) (nle rfl) rfl)) ?_
            refine .cons (lop rfl rfl fun S hA => (iop_nes rfl rfl (by decide) Try.underlying77 st77.1 st77.2 (sv (d := .agg [.int _ _, .int _ _]) (agr hA rfl rfl)) (sv (d := .agg [.int _ _, .int _ _]) (agr hA rfl rfl)) (congrArg some hx22))) ?_
            exact .nil
          refine iwp_cond (b := _) rfl (fun hc23 => ?_) (fun hc23 => ?_)
          ·
            replace h := bif_t h hc23
            refine iwp_reg (ils_cons rfl (iop_assign rfl rfl (by decide) (sv (d := .bool false) rfl)) <|
              ils_end ?_)
            refine iwp_ret ?_
            refine blockQ_r ?_
            refine thenQ_r ?_
            refine thenQ_r ?_
            refine blockQ_r ?_
            refine thenQ_r ?_
            obtain rfl := Option.some.inj h
            refine ⟨.inr rfl, (.cons (sv rfl) .nil)⟩
          ·
            replace h := bif_f h hc23
            refine iwp_skip ?_
            refine blockQ_n ?_
            refine thenQ_n ?_
            obtain ⟨x24, hx24, h⟩ := bnd_e h
            refine iwp_region (ils_cons rfl (iop_move rfl rfl (by decide) (sv (d := .int _ _) rfl)) <|
              ils_cons rfl (iop_intx rfl rfl (by decide) (sv (d := .int _ _) rfl) (sv (d := .int _ 1) rfl) rfl hx24) <|
              ils_cons rfl (iop_assign rfl rfl (by decide) (sv (d := .int _ _) rfl)) <|
              ils_nil ?_)
            refine thenQ_n ⟨(n0, x24), (fun i => i), ⟨(.cons (.same rfl rfl) (.cons (.same rfl rfl) (.cons (.same rfl rfl) .nil))), (.cons (.blk rfl rfl rfl) (.cons (.blk rfl rfl rfl) .nil)), nd_of [0, 1] rfl (by decide), (fun i hi => by first | rfl | (show (if _ then _ else _) = _; (repeat' split) <;> omega))⟩, ?_, ?_⟩
            exact h
            exact Nat.lt_succ_self _
        ·
          replace h := bif_f h hc19
          refine iwp_exit ?_
          refine thenQ_e ?_
          refine thenQ_e ?_
          refine blockQ_e ?_
          refine thenQ_n ?_
          obtain ⟨x25, hx25, h⟩ := bnd_e h
          obtain ⟨x26, hx26, h⟩ := bnd_e h
          obtain ⟨x27, hx27, h⟩ := bnd_e h
          obtain ⟨x28, hx28, h⟩ := bnd_e h
          obtain ⟨x29, hx29, h⟩ := bnd_e h
          obtain ⟨x30, hx30, h⟩ := bnd_e h
          obtain ⟨x31, hx31, h⟩ := bnd_e h
          obtain ⟨x32, hx32, h⟩ := bnd_e h
          obtain ⟨x33, hx33, h⟩ := bnd_e h
          obtain ⟨x34, hx34, h⟩ := bnd_e h
          obtain ⟨x35, hx35, h⟩ := bnd_e h
          obtain ⟨x36, hx36, h⟩ := bnd_e h
          obtain ⟨x37, hx37, h⟩ := bnd_e h
          obtain ⟨x38, hx38, h⟩ := bnd_e h
          obtain ⟨x39, hx39, h⟩ := bnd_e h
          obtain ⟨x40, hx40, h⟩ := bnd_e h
          obtain ⟨x41, hx41, h⟩ := bnd_e h
          refine iwp_reg (ils_cons rfl (iop_fieldAddr_ref rfl rfl (by decide) Try.underlying40 rfl ti5 (by decide) (sv (d := .ref _ _) rfl) (off' := 0) rfl) <|
            ils_cons rfl (iop_load_rs (d := .int _ _) rfl rfl (by decide) Try.underlying5 ag5 ti5 (by decide) (sv (d := .ref _ _) rfl) rfl (nle rfl) rfl) <|
            ils_cons rfl (iop_fieldAddr_ref rfl rfl (by decide) Try.underlying40 rfl ti5 (by decide) (sv (d := .ref _ _) rfl) (off' := 0) rfl) <|
            ils_cons rfl (iop_load_rs (d := .int _ _) rfl rfl (by decide) Try.underlying5 ag5 ti5 (by decide) (sv (d := .ref _ _) rfl) rfl (nle rfl) rfl) <|
            ils_cons rfl (iop_cmpx rfl rfl (by decide) (sv (d := .int _ _) rfl) (sv (d := .int _ _) rfl) rfl hx25) <|
            ils_cons rfl (iop_move rfl rfl (by decide) (sv (d := .bool _) rfl)) <|
            ils_guard rfl rfl (.one rfl) rfl (by decide) (fun hb => (iop_fieldAddr_ref rfl rfl (by decide) Try.underlying40 rfl ti4 (by decide) (sv (d := .ref _ _) rfl) (off' := 1) rfl)) <|
            ils_guard rfl rfl (.one rfl) rfl (by decide) (fun hb => (iop_load_rs (d := .bool _) rfl rfl (by decide) Try.underlying4 ag4 ti4 (by decide) (svc (d := .ref _ _) rfl hb) rfl (nle rfl) rfl)) <|
            ils_guard rfl rfl (.one rfl) rfl (by decide) (fun hb => (iop_fieldAddr_ref rfl rfl (by decide) Try.underlying40 rfl ti4 (by decide) (sv (d := .ref _ _) rfl) (off' := 1) rfl)) <|
            ils_guard rfl rfl (.one rfl) rfl (by decide) (fun hb => (iop_load_rs (d := .bool _) rfl rfl (by decide) Try.underlying4 ag4 ti4 (by decide) (svc (d := .ref _ _) rfl hb) rfl (nle rfl) rfl)) <|
            ils_guard rfl rfl (.one rfl) rfl (by decide) (fun hb => (iop_eqbx rfl rfl (by decide) Try.underlying4 (svc (d := .bool _) rfl hb) (svc (d := .bool _) rfl hb) hx26)) <|
            ils_cons rfl (iop_andx rfl rfl (by decide) (sv (d := .bool _) rfl) rfl rfl hx27) <|
            ils_cons rfl (iop_move rfl rfl (by decide) (sv (d := .bool _) rfl)) <|
            ils_guard rfl rfl (.one rfl) rfl (by decide) (fun hb => (iop_fieldAddr_ref rfl rfl (by decide) Try.underlying40 rfl ti3 (by decide) (sv (d := .ref _ _) rfl) (off' := 2) rfl)) <|
            ils_guard rfl rfl (.one rfl) rfl (by decide) (fun hb => (iop_load_rs (d := .int _ _) rfl rfl (by decide) Try.underlying3 ag3 ti3 (by decide) (svc (d := .ref _ _) rfl hb) rfl (nle rfl) rfl)) <|
            ils_guard rfl rfl (.one rfl) rfl (by decide) (fun hb => (iop_fieldAddr_ref rfl rfl (by decide) Try.underlying40 rfl ti3 (by decide) (sv (d := .ref _ _) rfl) (off' := 2) rfl)) <|
            ils_guard rfl rfl (.one rfl) rfl (by decide) (fun hb => (iop_load_rs (d := .int _ _) rfl rfl (by decide) Try.underlying3 ag3 ti3 (by decide) (svc (d := .ref _ _) rfl hb) rfl (nle rfl) rfl)) <|
            ils_guard rfl rfl (.one rfl) rfl (by decide) (fun hb => (iop_cmpx rfl rfl (by decide) (svc (d := .int _ _) rfl hb) (svc (d := .int _ _) rfl hb) rfl hx28)) <|
            ils_cons rfl (iop_andx rfl rfl (by decide) (sv (d := .bool _) rfl) rfl rfl hx29) <|
            ils_cons rfl (iop_move rfl rfl (by decide) (sv (d := .bool _) rfl)) <|
            ils_guard rfl rfl (.one rfl) rfl (by decide) (fun hb => (iop_fieldAddr_ref rfl rfl (by decide) Try.underlying40 rfl ti3 (by decide) (sv (d := .ref _ _) rfl) (off' := 3) rfl)) <|
            ils_guard rfl rfl (.one rfl) rfl (by decide) (fun hb => (iop_load_rs (d := .int _ _) rfl rfl (by decide) Try.underlying3 ag3 ti3 (by decide) (svc (d := .ref _ _) rfl hb) rfl (nle rfl) rfl)) <|
            ils_guard rfl rfl (.one rfl) rfl (by decide) (fun hb => (iop_fieldAddr_ref rfl rfl (by decide) Try.underlying40 rfl ti3 (by decide) (sv (d := .ref _ _) rfl) (off' := 3) rfl)) <|
            ils_guard rfl rfl (.one rfl) rfl (by decide) (fun hb => (iop_load_rs (d := .int _ _) rfl rfl (by decide) Try.underlying3 ag3 ti3 (by decide) (svc (d := .ref _ _) rfl hb) rfl (nle rfl) rfl)) <|
            ils_guard rfl rfl (.one rfl) rfl (by decide) (fun hb => (iop_cmpx rfl rfl (by decide) (svc (d := .int _ _) rfl hb) (svc (d := .int _ _) rfl hb) rfl hx30)) <|
            ils_cons rfl (iop_andx rfl rfl (by decide) (sv (d := .bool _) rfl) rfl rfl hx31) <|
            ils_cons rfl (iop_move rfl rfl (by decide) (sv (d := .bool _) rfl)) <|
            ils_guard rfl rfl (.one rfl) rfl (by decide) (fun hb => (iop_fieldAddr_ref rfl rfl (by decide) Try.underlying40 rfl ti3 (by decide) (sv (d := .ref _ _) rfl) (off' := 4) rfl)) <|
            ils_guard rfl rfl (.one rfl) rfl (by decide) (fun hb => (iop_load_rs (d := .int _ _) rfl rfl (by decide) Try.underlying3 ag3 ti3 (by decide) (svc (d := .ref _ _) rfl hb) rfl (nle rfl) rfl)) <|
            ils_guard rfl rfl (.one rfl) rfl (by decide) (fun hb => (iop_fieldAddr_ref rfl rfl (by decide) Try.underlying40 rfl ti3 (by decide) (sv (d := .ref _ _) rfl) (off' := 4) rfl)) <|
            ils_guard rfl rfl (.one rfl) rfl (by decide) (fun hb => (iop_load_rs (d := .int _ _) rfl rfl (by decide) Try.underlying3 ag3 ti3 (by decide) (svc (d := .ref _ _) rfl hb) rfl (nle rfl) rfl)) <|
            ils_guard rfl rfl (.one rfl) rfl (by decide) (fun hb => (iop_cmpx rfl rfl (by decide) (svc (d := .int _ _) rfl hb) (svc (d := .int _ _) rfl hb) rfl hx32)) <|
            ils_cons rfl (iop_andx rfl rfl (by decide) (sv (d := .bool _) rfl) rfl rfl hx33) <|
            ils_cons rfl (iop_move rfl rfl (by decide) (sv (d := .bool _) rfl)) <|
            ils_guard rfl rfl (.one rfl) rfl (by decide) (fun hb => (iop_fieldAddr_ref rfl rfl (by decide) Try.underlying40 rfl ti3 (by decide) (sv (d := .ref _ _) rfl) (off' := 5) rfl)) <|
            ils_guard rfl rfl (.one rfl) rfl (by decide) (fun hb => (iop_load_rs (d := .int _ _) rfl rfl (by decide) Try.underlying3 ag3 ti3 (by decide) (svc (d := .ref _ _) rfl hb) rfl (nle rfl) rfl)) <|
            ils_guard rfl rfl (.one rfl) rfl (by decide) (fun hb => (iop_fieldAddr_ref rfl rfl (by decide) Try.underlying40 rfl ti3 (by decide) (sv (d := .ref _ _) rfl) (off' := 5) rfl)) <|
            ils_guard rfl rfl (.one rfl) rfl (by decide) (fun hb => (iop_load_rs (d := .int _ _) rfl rfl (by decide) Try.underlying3 ag3 ti3 (by decide) (svc (d := .ref _ _) rfl hb) rfl (nle rfl) rfl)) <|
            ils_guard rfl rfl (.one rfl) rfl (by decide) (fun hb => (iop_cmpx rfl rfl (by decide) (svc (d := .int _ _) rfl hb) (svc (d := .int _ _) rfl hb) rfl hx34)) <|
            ils_cons rfl (iop_andx rfl rfl (by decide) (sv (d := .bool _) rfl) rfl rfl hx35) <|
            ils_cons rfl (iop_move rfl rfl (by decide) (sv (d := .bool _) rfl)) <|
            ils_guard rfl rfl (.one rfl) rfl (by decide) (fun hb => (iop_fieldAddr_ref rfl rfl (by decide) Try.underlying40 rfl ti3 (by decide) (sv (d := .ref _ _) rfl) (off' := 6) rfl)) <|
            ils_guard rfl rfl (.one rfl) rfl (by decide) (fun hb => (iop_load_rs (d := .int _ _) rfl rfl (by decide) Try.underlying3 ag3 ti3 (by decide) (svc (d := .ref _ _) rfl hb) rfl (nle rfl) rfl)) <|
            ils_guard rfl rfl (.one rfl) rfl (by decide) (fun hb => (iop_fieldAddr_ref rfl rfl (by decide) Try.underlying40 rfl ti3 (by decide) (sv (d := .ref _ _) rfl) (off' := 6) rfl)) <|
            ils_guard rfl rfl (.one rfl) rfl (by decide) (fun hb => (iop_load_rs (d := .int _ _) rfl rfl (by decide) Try.underlying3 ag3 ti3 (by decide) (svc (d := .ref _ _) rfl hb) rfl (nle rfl) rfl)) <|
            ils_guard rfl rfl (.one rfl) rfl (by decide) (fun hb => (iop_cmpx rfl rfl (by decide) (svc (d := .int _ _) rfl hb) (svc (d := .int _ _) rfl hb) rfl hx36)) <|
            ils_cons rfl (iop_andx rfl rfl (by decide) (sv (d := .bool _) rfl) rfl rfl hx37) <|
            ils_cons rfl (iop_move rfl rfl (by decide) (sv (d := .bool _) rfl)) <|
            ils_guard rfl rfl (.one rfl) rfl (by decide) (fun hb => (iop_fieldAddr_ref rfl rfl (by decide) Try.underlying40 rfl ti3 (by decide) (sv (d := .ref _ _) rfl) (off' := 7) rfl)) <|
            ils_guard rfl rfl (.one rfl) rfl (by decide) (fun hb => (iop_load_rs (d := .int _ _) rfl rfl (by decide) Try.underlying3 ag3 ti3 (by decide) (svc (d := .ref _ _) rfl hb) rfl (nle rfl) rfl)) <|
            ils_guard rfl rfl (.one rfl) rfl (by decide) (fun hb => (iop_fieldAddr_ref rfl rfl (by decide) Try.underlying40 rfl ti3 (by decide) (sv (d := .ref _ _) rfl) (off' := 7) rfl)) <|
            ils_guard rfl rfl (.one rfl) rfl (by decide) (fun hb => (iop_load_rs (d := .int _ _) rfl rfl (by decide) Try.underlying3 ag3 ti3 (by decide) (svc (d := .ref _ _) rfl hb) rfl (nle rfl) rfl)) <|
            ils_guard rfl rfl (.one rfl) rfl (by decide) (fun hb => (iop_cmpx rfl rfl (by decide) (svc (d := .int _ _) rfl hb) (svc (d := .int _ _) rfl hb) rfl hx38)) <|
            ils_cons rfl (iop_andx rfl rfl (by decide) (sv (d := .bool _) rfl) rfl rfl hx39) <|
            ils_cons rfl (iop_move rfl rfl (by decide) (sv (d := .bool _) rfl)) <|
            ils_guard rfl rfl (.one rfl) rfl (by decide) (fun hb => (iop_fieldAddr_ref rfl rfl (by decide) Try.underlying40 rfl ti9 (by decide) (sv (d := .ref _ _) rfl) (off' := 9) rfl)) <|
            ils_guard rfl rfl (.one rfl) rfl (by decide) (fun hb => (iop_load_rs (d := .str _) rfl rfl (by decide) Try.underlying9 ag9 ti9 (by decide) (svc (d := .ref _ _) rfl hb) rfl (nle rfl) rfl)) <|
            ils_guard rfl rfl (.one rfl) rfl (by decide) (fun hb => (iop_fieldAddr_ref rfl rfl (by decide) Try.underlying40 rfl ti9 (by decide) (sv (d := .ref _ _) rfl) (off' := 9) rfl)) <|
            ils_guard rfl rfl (.one rfl) rfl (by decide) (fun hb => (iop_load_rs (d := .str _) rfl rfl (by decide) Try.underlying9 ag9 ti9 (by decide) (svc (d := .ref _ _) rfl hb) rfl (nle rfl) rfl)) <|
            ils_guard rfl rfl (.one rfl) rfl (by decide) (fun hb => (iop_strx rfl rfl (by decide) (svc (d := .str _) rfl hb) (svc (d := .str _) rfl hb) rfl hx40)) <|
            ils_cons rfl (iop_andx rfl rfl (by decide) (sv (d := .bool _) rfl) rfl rfl hx41) <|
            ils_cons rfl (iop_assign rfl rfl (by decide) (sv (d := .bool _) rfl)) <|
            ils_end ?_)
          refine iwp_ret ?_
          obtain rfl := Option.some.inj h
          refine ⟨.inr rfl, (.cons (sv rfl) .nil)⟩

set_option maxRecDepth 8000 in
set_option maxHeartbeats 2000000 in
theorem p_sennitlaw15_FramePuts (a0 : T_frame_Frame) (a1 : T_frame_Frame) (r : Bool) (h : sennitlaw15_FramePuts a0 a1 = some r) : PureAt Try.prog 5 [.agg [.int .u8 a0.Kind, .bool a0.Flag, .int .i64 a0.Stream, .int .i64 a0.Offset, .int .i64 a0.Dep, .int .i64 a0.Weight, .int .i64 a0.N, .int .i64 a0.Code, .slice false (a0.Pairs.map E_api_Pair.d), .str a0.Data], .agg [.int .u8 a1.Kind, .bool a1.Flag, .int .i64 a1.Stream, .int .i64 a1.Offset, .int .i64 a1.Dep, .int .i64 a1.Weight, .int .i64 a1.N, .int .i64 a1.Code, .slice false (a1.Pairs.map E_api_Pair.d), .str a1.Data]] (.bool r) := by
  refine pure_of_iwp (rs := [.bool r]) Try.func5 rfl Try.ntmps5 (nle rfl) rfl fun O hO => ?_
  show IWP _ _ _ _ ⟨[(0, .agg [.int .u8 a0.Kind, .bool a0.Flag, .int .i64 a0.Stream, .int .i64 a0.Offset, .int .i64 a0.Dep, .int .i64 a0.Weight, .int .i64 a0.N, .int .i64 a0.Code, .slice false (a0.Pairs.map E_api_Pair.d), .str a0.Data]), (1, .agg [.int .u8 a1.Kind, .bool a1.Flag, .int .i64 a1.Stream, .int .i64 a1.Offset, .int .i64 a1.Dep, .int .i64 a1.Weight, .int .i64 a1.N, .int .i64 a1.Code, .slice false (a1.Pairs.map E_api_Pair.d), .str a1.Data])], []⟩ _
  unfold sennitlaw15_FramePuts at h
  refine iwp_reg (ils_cons rfl (iop_box' (cs := [.int _ _, .bool _, .int _ _, .int _ _, .int _ _, .int _ _, .int _ _, .int _ _, .slice _ _, .str _]) 0 rfl rfl (by decide) rfl (sv (d := .agg [.int _ _, .bool _, .int _ _, .int _ _, .int _ _, .int _ _, .int _ _, .int _ _, .slice _ _, .str _]) rfl) rfl rfl) <|
    ils_cons rfl (iop_box' (cs := [.int _ _, .bool _, .int _ _, .int _ _, .int _ _, .int _ _, .int _ _, .int _ _, .slice _ _, .str _]) 1 rfl rfl (by decide) rfl (sv (d := .agg [.int _ _, .bool _, .int _ _, .int _ _, .int _ _, .int _ _, .int _ _, .int _ _, .slice _ _, .str _]) rfl) rfl rfl) <|
    ils_cons rfl (iop_assign rfl rfl (by decide) (sv (d := .bool false) rfl)) <|
    ils_end ?_)
  refine iwp_seq ?_
  obtain ⟨x1, hx1, h⟩ := bno_e h
  obtain ⟨x2, hx2, h⟩ := bno_e h
  obtain ⟨x3, hx3, h⟩ := bnd_e h
  refine iwp_reg (ils_cons rfl (iop_load_ra (cs := [.int _ _, .bool _, .int _ _, .int _ _, .int _ _, .int _ _, .int _ _, .int _ _, .slice _ _, .str _]) rfl rfl (by decide) Try.underlying40 ag40 ti40 (by decide) (sv (d := .ref _ _) rfl) rfl (nle rfl) rfl) <|
    ils_cons rfl (iop_call (r := .bool _) rfl rfl (by decide) cl18 (.cons (sv (d := .agg [.int _ _, .bool _, .int _ _, .int _ _, .int _ _, .int _ _, .int _ _, .int _ _, .slice _ _, .str _]) rfl) .nil) rfl (p_sennitref15_Light _ _ hx1)) <|
    ils_cons rfl (iop_not rfl rfl (by decide) (sv (d := .bool _) rfl)) <|
    ils_cons rfl (iop_move rfl rfl (by decide) (sv (d := .bool _) rfl)) <|
    ils_guard rfl rfl (.one rfl) rfl (by decide) (fun hb => (iop_load_ra (cs := [.int _ _, .bool _, .int _ _, .int _ _, .int _ _, .int _ _, .int _ _, .int _ _, .slice _ _, .str _]) rfl rfl (by decide) Try.underlying40 ag40 ti40 (by decide) (sv (d := .ref _ _) rfl) rfl (nle rfl) rfl)) <|
    ils_guard rfl rfl (.one rfl) rfl (by decide) (fun hb => (iop_call (r := .bool _) rfl rfl (by decide) cl18 (.cons (svc (d := .agg [.int _ _, .bool _, .int _ _, .int _ _, .int _ _, .int _ _, .int _ _, .int _ _, .slice _ _, .str _]) rfl hb) .nil) rfl (p_sennitref15_Light _ _ (gd_t hx2 hb)))) <|
    ils_guard rfl rfl (.one rfl) rfl (by decide) (fun hb => (iop_not rfl rfl (by decide) (svc (d := .bool _) rfl hb))) <|
    ils_cons rfl (iop_orx rfl rfl (by decide) (sv (d := .bool _) rfl) rfl rfl hx3) <|
    ils_end ?_)
  refine iwp_cond (b := _) rfl (fun hc4 => ?_) (fun hc4 => ?_)
  ·
    replace h := bif_t h hc4
    obtain ⟨x5, hx5, h⟩ := bno_e h
    refine iwp_reg (ils_cons rfl (iop_call (r := .bool _) rfl rfl (by decide) cl19 .nil rfl (p_sennitlaw15_awake  _ hx5)) <|
      ils_cons rfl (iop_assign rfl rfl (by decide) (sv (d := .bool _) rfl)) <|
      ils_end ?_)
    refine iwp_ret ?_
    refine thenQ_r ?_
    obtain rfl := Option.some.inj h
    refine ⟨.inr rfl, (.cons (sv rfl) .nil)⟩
  ·
    replace h := bif_f h hc4
    refine iwp_skip ?_
    refine thenQ_n ?_
    refine iwp_reg (ils_cons rfl (iop_load_ra (cs := [.int _ _, .bool _, .int _ _, .int _ _, .int _ _, .int _ _, .int _ _, .int _ _, .slice _ _, .str _]) rfl rfl (by decide) Try.underlying40 ag40 ti40 (by decide) (sv (d := .ref _ _) rfl) rfl (nle rfl) rfl) <|
      ils_cons rfl (iop_allocS (cs := [.int _ _, .bool _, .int _ _, .int _ _, .int _ _, .int _ _, .int _ _, .int _ _, .nils, .str _]) (cs' := [.int .u8 0, .bool false, .int .i64 0, .int .i64 0, .int .i64 0, .int .i64 0, .int .i64 0, .int .i64 0, .slice false (([] : List T_api_Pair).map E_api_Pair.d), .str []]) 2 rfl rfl (by decide) rfl ti42 rfl rfl (.cons (.refl _) (.cons (.refl _) (.cons (.refl _) (.cons (.refl _) (.cons (.refl _) (.cons (.refl _) (.cons (.refl _) (.cons (.refl _) (.cons (.nils _) (.cons (.refl _) .nil))))))))))) <|
      ils_cons rfl (iop_store (ds' := [.int _ _, .bool _, .int _ _, .int _ _, .int _ _, .int _ _, .int _ _, .int _ _, .slice _ _, .str _]) rfl rfl ti42 (sv (d := .ref _ _) rfl) rfl (sv (d := .agg [.int _ _, .bool _, .int _ _, .int _ _, .int _ _, .int _ _, .int _ _, .int _ _, .slice _ _, .str _]) rfl) rfl rfl rfl (nle rfl) rfl) <|
      ils_end ?_)
    obtain ⟨x6, hx6, h⟩ := bno_e h
    refine iwp_reg (ils_cons rfl (iop_load_ra (cs := [.int _ _, .bool _, .int _ _, .int _ _, .int _ _, .int _ _, .int _ _, .int _ _, .slice _ _, .str _]) rfl rfl (by decide) Try.underlying42 ag42 ti42 (by decide) (sv (d := .ref _ _) rfl) rfl (nle rfl) rfl) <|
      ils_cons rfl (iop_call (r := .tuple [.str _, .int _ _]) rfl rfl (by decide) cl20 (.cons (sv (d := .agg [.int _ _, .bool _, .int _ _, .int _ _, .int _ _, .int _ _, .int _ _, .int _ _, .slice _ _, .str _]) rfl) .nil) rfl (p_frame_Put _ _ hx6)) <|
      ils_cons rfl (iop_move rfl rfl (by decide) (sv (d := .tuple [.str _, .int _ _]) rfl)) <|
      ils_cons rfl (iop_extract (d := .str _) rfl rfl (by decide) (sv (d := .tuple [.str _, .int _ _]) rfl) rfl) <|
      ils_cons rfl (iop_extract (d := .int _ _) rfl rfl (by decide) (sv (d := .tuple [.str _, .int _ _]) rfl) rfl) <|
      ils_cons rfl (iop_assign rfl rfl (by decide) (sv (d := .str _) rfl)) <|
      ils_cons rfl (iop_assign rfl rfl (by decide) (sv (d := .int _ _) rfl)) <|
      ils_end ?_)
    obtain ⟨x7, hx7, h⟩ := bno_e h
    refine iwp_reg (ils_cons rfl (iop_load_ra (cs := [.int _ _, .bool _, .int _ _, .int _ _, .int _ _, .int _ _, .int _ _, .int _ _, .slice _ _, .str _]) rfl rfl (by decide) Try.underlying40 ag40 ti40 (by decide) (sv (d := .ref _ _) rfl) rfl (nle rfl) rfl) <|
      ils_cons rfl (iop_call (r := .tuple [.str _, .int _ _]) rfl rfl (by decide) cl21 (.cons (sv (d := .agg [.int _ _, .bool _, .int _ _, .int _ _, .int _ _, .int _ _, .int _ _, .int _ _, .slice _ _, .str _]) rfl) .nil) rfl (p_sennitref15_Put _ _ hx7)) <|
      ils_cons rfl (iop_move rfl rfl (by decide) (sv (d := .tuple [.str _, .int _ _]) rfl)) <|
      ils_cons rfl (iop_extract (d := .str _) rfl rfl (by decide) (sv (d := .tuple [.str _, .int _ _]) rfl) rfl) <|
      ils_cons rfl (iop_extract (d := .int _ _) rfl rfl (by decide) (sv (d := .tuple [.str _, .int _ _]) rfl) rfl) <|
      ils_cons rfl (iop_assign rfl rfl (by decide) (sv (d := .str _) rfl)) <|
      ils_cons rfl (iop_assign rfl rfl (by decide) (sv (d := .int _ _) rfl)) <|
      ils_end ?_)
    obtain ⟨x8, hx8, h⟩ := bnd_e h
    obtain ⟨x9, hx9, h⟩ := bnd_e h
    obtain ⟨x10, hx10, h⟩ := bnd_e h
    obtain ⟨x11, hx11, h⟩ := bno_e h
    obtain ⟨x12, hx12, h⟩ := bno_e h
    obtain ⟨x13, hx13, h⟩ := bnd_e h
    obtain ⟨x14, hx14, h⟩ := bnd_e h
    obtain ⟨x15, hx15, h⟩ := bno_e h
    obtain ⟨x16, hx16, h⟩ := bno_e h
    obtain ⟨x17, hx17, h⟩ := bnd_e h
    obtain ⟨x18, hx18, h⟩ := bnd_e h
    obtain ⟨x19, hx19, h⟩ := bno_e h
    obtain ⟨x20, hx20, h⟩ := bno_e h
    obtain ⟨x21, hx21, h⟩ := bnd_e h
    obtain ⟨x22, hx22, h⟩ := bnd_e h
    obtain ⟨x23, hx23, h⟩ := bno_e h
    obtain ⟨x24, hx24, h⟩ := bnd_e h
    refine iwp_drw rfl [⟨[6], [], [(30, .str x6.1)], []⟩,
      ⟨[8], [], [(31, .str x7.1)], []⟩,
      ⟨[30, 31], [], [(32, .bool x8)], []⟩,
      ⟨[32], [], [(33, .bool x8)], []⟩,
      ⟨[7, 33], [], [(34, .cnd (x8 == true) (.int .i64 x6.2))], []⟩,
      ⟨[9, 33], [], [(35, .cnd (x8 == true) (.int .i64 x7.2))], []⟩,
      ⟨[33, 34, 35], [], [(36, .cnd (x8 == true) (.bool x9))], []⟩,
      ⟨[33, 36], [], [(37, .bool x10)], []⟩,
      ⟨[37], [], [(38, .bool x10)], []⟩,
      ⟨[5, 38], [2], [(39, .cnd (x10 == true) (.agg [.int .u8 a0.Kind, .bool a0.Flag, .int .i64 a0.Stream, .int .i64 a0.Offset, .int .i64 a0.Dep, .int .i64 a0.Weight, .int .i64 a0.N, .int .i64 a0.Code, .slice false (a0.Pairs.map E_api_Pair.d), .str a0.Data]))], []⟩,
      ⟨[38, 39], [], [(40, .cnd (x10 == true) (.int .i64 x11))], []⟩,
      ⟨[2, 38], [0], [(41, .cnd (x10 == true) (.agg [.int .u8 a0.Kind, .bool a0.Flag, .int .i64 a0.Stream, .int .i64 a0.Offset, .int .i64 a0.Dep, .int .i64 a0.Weight, .int .i64 a0.N, .int .i64 a0.Code, .slice false (a0.Pairs.map E_api_Pair.d), .str a0.Data]))], []⟩,
      ⟨[38, 41], [], [(42, .cnd (x10 == true) (.int .i64 x12))], []⟩,
      ⟨[38, 40, 42], [], [(43, .cnd (x10 == true) (.bool x13))], []⟩,
      ⟨[38, 43], [], [(44, .bool x14)], []⟩,
      ⟨[44], [], [(45, .bool x14)], []⟩,
      ⟨[5, 45], [2], [(46, .cnd (x14 == true) (.agg [.int .u8 a0.Kind, .bool a0.Flag, .int .i64 a0.Stream, .int .i64 a0.Offset, .int .i64 a0.Dep, .int .i64 a0.Weight, .int .i64 a0.N, .int .i64 a0.Code, .slice false (a0.Pairs.map E_api_Pair.d), .str a0.Data]))], []⟩,
      ⟨[45, 46], [], [(47, .cnd (x14 == true) (.int .i64 x15))], []⟩,
      ⟨[2, 45], [0], [(48, .cnd (x14 == true) (.agg [.int .u8 a0.Kind, .bool a0.Flag, .int .i64 a0.Stream, .int .i64 a0.Offset, .int .i64 a0.Dep, .int .i64 a0.Weight, .int .i64 a0.N, .int .i64 a0.Code, .slice false (a0.Pairs.map E_api_Pair.d), .str a0.Data]))], []⟩,
      ⟨[45, 48], [], [(49, .cnd (x14 == true) (.int .i64 x16))], []⟩,
      ⟨[45, 47, 49], [], [(50, .cnd (x14 == true) (.bool x17))], []⟩,
      ⟨[45, 50], [], [(51, .bool x18)], []⟩,
      ⟨[51], [], [(52, .bool x18)], []⟩,
      ⟨[5, 52], [2], [(53, .cnd (x18 == true) (.agg [.int .u8 a0.Kind, .bool a0.Flag, .int .i64 a0.Stream, .int .i64 a0.Offset, .int .i64 a0.Dep, .int .i64 a0.Weight, .int .i64 a0.N, .int .i64 a0.Code, .slice false (a0.Pairs.map E_api_Pair.d), .str a0.Data]))], []⟩,
      ⟨[3, 52], [1], [(54, .cnd (x18 == true) (.agg [.int .u8 a1.Kind, .bool a1.Flag, .int .i64 a1.Stream, .int .i64 a1.Offset, .int .i64 a1.Dep, .int .i64 a1.Weight, .int .i64 a1.N, .int .i64 a1.Code, .slice false (a1.Pairs.map E_api_Pair.d), .str a1.Data]))], []⟩,
      ⟨[52, 53, 54], [], [(55, .cnd (x18 == true) (.bool x19))], []⟩,
      ⟨[2, 52], [0], [(56, .cnd (x18 == true) (.agg [.int .u8 a0.Kind, .bool a0.Flag, .int .i64 a0.Stream, .int .i64 a0.Offset, .int .i64 a0.Dep, .int .i64 a0.Weight, .int .i64 a0.N, .int .i64 a0.Code, .slice false (a0.Pairs.map E_api_Pair.d), .str a0.Data]))], []⟩,
      ⟨[3, 52], [1], [(57, .cnd (x18 == true) (.agg [.int .u8 a1.Kind, .bool a1.Flag, .int .i64 a1.Stream, .int .i64 a1.Offset, .int .i64 a1.Dep, .int .i64 a1.Weight, .int .i64 a1.N, .int .i64 a1.Code, .slice false (a1.Pairs.map E_api_Pair.d), .str a1.Data]))], []⟩,
      ⟨[52, 56, 57], [], [(58, .cnd (x18 == true) (.bool x20))], []⟩,
      ⟨[52, 55, 58], [], [(59, .cnd (x18 == true) (.bool x21))], []⟩,
      ⟨[52, 59], [], [(60, .bool x22)], []⟩,
      ⟨[60], [], [(61, .bool x22)], []⟩,
      ⟨[61], [], [(62, .cnd (x22 == true) (.bool x23))], []⟩,
      ⟨[61, 62], [], [(63, .bool x24)], []⟩,
      ⟨[63], [], [(4, .bool x24)], []⟩] rfl ?_ (by kernel_rfl) ?_
    · refine .cons (lop rfl rfl fun S hA => (iop_move rfl rfl (by decide) (sv (d := .str _) (agr hA rfl rfl)))) ?_
      refine .cons (lop rfl rfl fun S hA => (iop_move rfl rfl (by decide) (sv (d := .str _) (agr hA rfl rfl)))) ?_
      refine .cons (lop rfl rfl fun S hA => (iop_strx rfl rfl (by decide) (sv (d := .str _) (agr hA rfl rfl)) (sv (d := .str _) (agr hA rfl rfl)) rfl hx8)) ?_
      refine .cons (lop rfl rfl fun S hA => (iop_move rfl rfl (by decide) (sv (d := .bool _) (agr hA rfl rfl)))) ?_
      refine .cons (lopg rfl rfl rfl rfl (by decide) (fun S hA => grd1 hA rfl rfl) (fun S hA hb => (iop_move rfl rfl (by decide) (sv (d := .int _ _) (agr hA rfl rfl))))) ?_
      refine .cons (lopg rfl rfl rfl rfl (by decide) (fun S hA => grd1 hA rfl rfl) (fun S hA hb => (iop_move rfl rfl (by decide) (sv (d := .int _ _) (agr hA rfl rfl))))) ?_
      refine .cons (lopg rfl rfl rfl rfl (by decide) (fun S hA => grd1 hA rfl rfl) (fun S hA hb => (iop_cmpx rfl rfl (by decide) (svc (d := .int _ _) (agr hA rfl rfl) hb) (svc (d := .int _ _) (agr hA rfl rfl) hb) rfl hx9))) ?_
      refine .cons (lop rfl rfl fun S hA => (iop_andx rfl rfl (by decide) (sv (d := .bool _) (agr hA rfl rfl)) (agr hA rfl rfl) rfl hx10)) ?_
      refine .cons (lop rfl rfl fun S hA => (iop_move rfl rfl (by decide) (sv (d := .bool _) (agr hA rfl rfl)))) ?_
      refine .cons (lopg rfl rfl rfl rfl (by decide) (fun S hA => grd1 hA rfl rfl) (fun S hA hb => (iop_load_ra (cs := [.int _ _, .bool _, .int _ _, .int _ _, .int _ _, .int _ _, .int _ _, .int _ _, .slice _ _, .str _]) rfl rfl (by decide) Try.underlying42 ag42 ti42 (by decide) (sv (d := .ref _ _) (agr hA rfl rfl)) (agi hA rfl rfl) (nle rfl) rfl))) ?_
      refine .cons (lopg rfl rfl rfl rfl (by decide) (fun S hA => grd1 hA rfl rfl) (fun S hA hb => (iop_call (r := .int _ _) rfl rfl (by decide) cl22 (.cons (svc (d := .agg [.int _ _, .bool _, .int _ _, .int _ _, .int _ _, .int _ _, .int _ _, .int _ _, .slice _ _, .str _]) (agr hA rfl rfl) hb) .nil) rfl (p_frame_Check _ _ (gd_t hx11 hb))))) ?_
      refine .cons (lopg rfl rfl rfl rfl (by decide) (fun S hA => grd1 hA rfl rfl) (fun S hA hb => (iop_load_ra (cs := [.int _ _, .bool _, .int _ _, .int _ _, .int _ _, .int _ _, .int _ _, .int _ _, .slice _ _, .str _]) rfl rfl (by decide) Try.underlying40 ag40 ti40 (by decide) (sv (d := .ref _ _) (agr hA rfl rfl)) (agi hA rfl rfl) (nle rfl) rfl))) ?_
      refine .cons (lopg rfl rfl rfl rfl (by decide) (fun S hA => grd1 hA rfl rfl) (fun S hA hb => (iop_call (r := .int _ _) rfl rfl (by decide) cl23 (.cons (svc (d := .agg [.int _ _, .bool _, .int _ _, .int _ _, .int _ _, .int _ _, .int _ _, .int _ _, .slice _ _, .str _]) (agr hA rfl rfl) hb) .nil) rfl (p_sennitref15_Check _ _ (gd_t hx12 hb))))) ?_
      refine .cons (lopg rfl rfl rfl rfl (by decide) (fun S hA => grd1 hA rfl rfl) (fun S hA hb => (iop_cmpx rfl rfl (by decide) (svc (d := .int _ _) (agr hA rfl rfl) hb) (svc (d := .int _ _) (agr hA rfl rfl) hb) rfl hx13))) ?_
      refine .cons (lop rfl rfl fun S hA => (iop_andx rfl rfl (by decide) (sv (d := .bool _) (agr hA rfl rfl)) (agr hA rfl rfl) rfl hx14)) ?_
      refine .cons (lop rfl rfl fun S hA => (iop_move rfl rfl (by decide) (sv (d := .bool _) (agr hA rfl rfl)))) ?_
      refine .cons (lopg rfl rfl rfl rfl (by decide) (fun S hA => grd1 hA rfl rfl) (fun S hA hb => (iop_load_ra (cs := [.int _ _, .bool _, .int _ _, .int _ _, .int _ _, .int _ _, .int _ _, .int _ _, .slice _ _, .str _]) rfl rfl (by decide) Try.underlying42 ag42 ti42 (by decide) (sv (d := .ref _ _) (agr hA rfl rfl)) (agi hA rfl rfl) (nle rfl) rfl))) ?_
      refine .cons (lopg rfl rfl rfl rfl (by decide) (fun S hA => grd1 hA rfl rfl) (fun S hA hb => (iop_call (r := .int _ _) rfl rfl (by decide) cl24 (.cons (svc (d := .agg [.int _ _, .bool _, .int _ _, .int _ _, .int _ _, .int _ _, .int _ _, .int _ _, .slice _ _, .str _]) (agr hA rfl rfl) hb) .nil) rfl (p_frame_Size _ _ (gd_t hx15 hb))))) ?_
      refine .cons (lopg rfl rfl rfl rfl (by decide) (fun S hA => grd1 hA rfl rfl) (fun S hA hb => (iop_load_ra (cs := [.int _ _, .bool _, .int _ _, .int _ _, .int _ _, .int _ _, .int _ _, .int _ _, .slice _ _, .str _]) rfl rfl (by decide) Try.underlying40 ag40 ti40 (by decide) (sv (d := .ref _ _) (agr hA rfl rfl)) (agi hA rfl rfl) (nle rfl) rfl))) ?_
      refine .cons (lopg rfl rfl rfl rfl (by decide) (fun S hA => grd1 hA rfl rfl) (fun S hA hb => (iop_call (r := .int _ _) rfl rfl (by decide) cl25 (.cons (svc (d := .agg [.int _ _, .bool _, .int _ _, .int _ _, .int _ _, .int _ _, .int _ _, .int _ _, .slice _ _, .str _]) (agr hA rfl rfl) hb) .nil) rfl (p_sennitref15_Size _ _ (gd_t hx16 hb))))) ?_
      refine .cons (lopg rfl rfl rfl rfl (by decide) (fun S hA => grd1 hA rfl rfl) (fun S hA hb => (iop_cmpx rfl rfl (by decide) (svc (d := .int _ _) (agr hA rfl rfl) hb) (svc (d := .int _ _) (agr hA rfl rfl) hb) rfl hx17))) ?_
      refine .cons (lop rfl rfl fun S hA => (iop_andx rfl rfl (by decide) (sv (d := .bool _) (agr hA rfl rfl)) (agr hA rfl rfl) rfl hx18)) ?_
      refine .cons (lop rfl rfl fun S hA => (iop_move rfl rfl (by decide) (sv (d := .bool _) (agr hA rfl rfl)))) ?_
      refine .cons (lopg rfl rfl rfl rfl (by decide) (fun S hA => grd1 hA rfl rfl) (fun S hA hb => (iop_load_ra (cs := [.int _ _, .bool _, .int _ _, .int _ _, .int _ _, .int _ _, .int _ _, .int _ _, .slice _ _, .str _]) rfl rfl (by decide) Try.underlying42 ag42 ti42 (by decide) (sv (d := .ref _ _) (agr hA rfl rfl)) (agi hA rfl rfl) (nle rfl) rfl))) ?_
      refine .cons (lopg rfl rfl rfl rfl (by decide) (fun S hA => grd1 hA rfl rfl) (fun S hA hb => (iop_load_ra (cs := [.int _ _, .bool _, .int _ _, .int _ _, .int _ _, .int _ _, .int _ _, .int _ _, .slice _ _, .str _]) rfl rfl (by decide) Try.underlying40 ag40 ti40 (by decide) (sv (d := .ref _ _) (agr hA rfl rfl)) (agi hA rfl rfl) (nle rfl) rfl))) ?_
      refine .cons (lopg rfl rfl rfl rfl (by decide) (fun S hA => grd1 hA rfl rfl) (fun S hA hb => (iop_call (r := .bool _) rfl rfl (by decide) cl26 (.cons (svc (d := .agg [.int _ _, .bool _, .int _ _, .int _ _, .int _ _, .int _ _, .int _ _, .int _ _, .slice _ _, .str _]) (agr hA rfl rfl) hb) (.cons (svc (d := .agg [.int _ _, .bool _, .int _ _, .int _ _, .int _ _, .int _ _, .int _ _, .int _ _, .slice _ _, .str _]) (agr hA rfl rfl) hb) .nil)) rfl (p_frame_Same _ _ _ (gd_t hx19 hb))))) ?_
      refine .cons (lopg rfl rfl rfl rfl (by decide) (fun S hA => grd1 hA rfl rfl) (fun S hA hb => (iop_load_ra (cs := [.int _ _, .bool _, .int _ _, .int _ _, .int _ _, .int _ _, .int _ _, .int _ _, .slice _ _, .str _]) rfl rfl (by decide) Try.underlying40 ag40 ti40 (by decide) (sv (d := .ref _ _) (agr hA rfl rfl)) (agi hA rfl rfl) (nle rfl) rfl))) ?_
      refine .cons (lopg rfl rfl rfl rfl (by decide) (fun S hA => grd1 hA rfl rfl) (fun S hA hb => (iop_load_ra (cs := [.int _ _, .bool _, .int _ _, .int _ _, .int _ _, .int _ _, .int _ _, .int _ _, .slice _ _, .str _]) rfl rfl (by decide) Try.underlying40 ag40 ti40 (by decide) (sv (d := .ref _ _) (agr hA rfl rfl)) (agi hA rfl rfl) (nle rfl) rfl))) ?_
      refine .cons (lopg rfl rfl rfl rfl (by decide) (fun S hA => grd1 hA rfl rfl) (fun S hA hb => (iop_call (r := .bool _) rfl rfl (by decide) cl27 (.cons (svc (d := .agg [.int _ _, .bool _, .int _ _, .int _ _, .int _ _, .int _ _, .int _ _, .int _ _, .slice _ _, .str _]) (agr hA rfl rfl) hb) (.cons (svc (d := .agg [.int _ _, .bool _, .int _ _, .int _ _, .int _ _, .int _ _, .int _ _, .int _ _, .slice _ _, .str _]) (agr hA rfl rfl) hb) .nil)) rfl (p_sennitref15_Same _ _ _ (gd_t hx20 hb))))) ?_
      refine .cons (lopg rfl rfl rfl rfl (by decide) (fun S hA => grd1 hA rfl rfl) (fun S hA hb => (iop_eqbx rfl rfl (by decide) Try.underlying4 (svc (d := .bool _) (agr hA rfl rfl) hb) (svc (d := .bool _) (agr hA rfl rfl) hb) hx21))) ?_
      refine .cons (lop rfl rfl fun S hA => (iop_andx rfl rfl (by decide) (sv (d := .bool _) (agr hA rfl rfl)) (agr hA rfl rfl) rfl hx22)) ?_
      refine .cons (lop rfl rfl fun S hA => (iop_move rfl rfl (by decide) (sv (d := .bool _) (agr hA rfl rfl)))) ?_
      refine .cons (lopg rfl rfl rfl rfl (by decide) (fun S hA => grd1 hA rfl rfl) (fun S hA hb => (iop_call (r := .bool _) rfl rfl (by decide) cl19 .nil rfl (p_sennitlaw15_awake  _ (gd_t hx23 hb))))) ?_
      refine .cons (lop rfl rfl fun S hA => (iop_andx rfl rfl (by decide) (sv (d := .bool _) (agr hA rfl rfl)) (agr hA rfl rfl) rfl hx24)) ?_
      refine .cons (lop rfl rfl fun S hA => (iop_assign rfl rfl (by decide) (sv (d := .bool _) (agr hA rfl rfl)))) ?_
      exact .nil
    refine iwp_ret ?_
    obtain rfl := Option.some.inj h
    refine ⟨.inr rfl, (.cons (sv rfl) .nil)⟩

set_option maxRecDepth 8000 in
set_option maxHeartbeats 2000000 in
theorem p_sennitref02_long (a0 : Int) (r : Int) (h : sennitref02_long a0 = some r) : PureAt Try.prog 66 [.int .u8 a0] (.int .i64 r) := by
  refine pure_of_iwp (rs := [.int .i64 r]) Try.func66 rfl Try.ntmps66 (nle rfl) rfl fun O hO => ?_
  show IWP _ _ _ _ ⟨[(0, .int .u8 a0)], []⟩ _
  unfold sennitref02_long at h
  refine iwp_reg (ils_cons rfl (iop_assign rfl rfl (by decide) (sv (d := .int _ 0) rfl)) <|
    ils_end ?_)
  refine iwp_seq ?_
  obtain ⟨x1, hx1, h⟩ := bno_e h
  refine iwp_reg (ils_cons rfl (iop_move rfl rfl (by decide) (sv (d := .int _ _) rfl)) <|
    ils_cons rfl (iop_quox rfl rfl (by decide) (sv (d := .int _ _) rfl) (sv (d := .int _ 64) rfl) hx1) <|
    ils_end ?_)
  refine iwp_block ?_
  obtain ⟨x2, hx2, h⟩ := bnd_e h
  refine iwp_reg (ils_cons rfl (iop_cmpx rfl rfl (by decide) (sv (d := .int _ _) rfl) (sv (d := .int _ 0) rfl) rfl hx2) <|
    ils_cons rfl (iop_assign rfl rfl (by decide) (sv (d := .bool _) rfl)) <|
    ils_end ?_)
  refine iwp_cond (b := _) rfl (fun hc3 => ?_) (fun hc3 => ?_)
  ·
    replace h := bif_t h hc3
    refine iwp_reg (ils_cons rfl (iop_assign rfl rfl (by decide) (sv (d := .int _ 1) rfl)) <|
      ils_end ?_)
    refine iwp_ret ?_
    refine blockQ_r ?_
    refine thenQ_r ?_
    obtain rfl := Option.some.inj h
    refine ⟨.inr rfl, (.cons (sv rfl) .nil)⟩
  ·
    replace h := bif_f h hc3
    obtain ⟨x4, hx4, h⟩ := bnd_e h
    refine iwp_reg (ils_cons rfl (iop_cmpx rfl rfl (by decide) (sv (d := .int _ _) rfl) (sv (d := .int _ 1) rfl) rfl hx4) <|
      ils_cons rfl (iop_assign rfl rfl (by decide) (sv (d := .bool _) rfl)) <|
      ils_end ?_)
    refine iwp_cond (b := _) rfl (fun hc5 => ?_) (fun hc5 => ?_)
    ·
      replace h := bif_t h hc5
      refine iwp_reg (ils_cons rfl (iop_assign rfl rfl (by decide) (sv (d := .int _ 2) rfl)) <|
        ils_end ?_)
      refine iwp_ret ?_
      refine blockQ_r ?_
      refine thenQ_r ?_
      obtain rfl := Option.some.inj h
      refine ⟨.inr rfl, (.cons (sv rfl) .nil)⟩
    ·
      replace h := bif_f h hc5
      obtain ⟨x6, hx6, h⟩ := bnd_e h
      refine iwp_reg (ils_cons rfl (iop_cmpx rfl rfl (by decide) (sv (d := .int _ _) rfl) (sv (d := .int _ 2) rfl) rfl hx6) <|
        ils_cons rfl (iop_assign rfl rfl (by decide) (sv (d := .bool _) rfl)) <|
        ils_end ?_)
      refine iwp_cond (b := _) rfl (fun hc7 => ?_) (fun hc7 => ?_)
      ·
        replace h := bif_t h hc7
        refine iwp_reg (ils_cons rfl (iop_assign rfl rfl (by decide) (sv (d := .int _ 4) rfl)) <|
          ils_end ?_)
        refine iwp_ret ?_
        refine blockQ_r ?_
        refine thenQ_r ?_
        obtain rfl := Option.some.inj h
        refine ⟨.inr rfl, (.cons (sv rfl) .nil)⟩
      ·
        replace h := bif_f h hc7
        refine iwp_skip ?_
        refine blockQ_n ?_
        refine thenQ_n ?_
        refine iwp_reg (ils_cons rfl (iop_assign rfl rfl (by decide) (sv (d := .int _ 8) rfl)) <|
          ils_end ?_)
        refine iwp_ret ?_
        obtain rfl := Option.some.inj h
        refine ⟨.inr rfl, (.cons (sv rfl) .nil)⟩

set_option maxRecDepth 8000 in
set_option maxHeartbeats 2000000 in
theorem p_sennitref02_Get (a0 : (List UInt8)) (r : (Int × Int × Int)) (h : sennitref02_Get a0 = some r) : PureAt Try.prog 46 [.str a0] (retD [.int .i64 r.1, .int .i64 r.2.1, .int .i64 r.2.2]) := by
  refine pure_of_iwp (rs := [.int .i64 r.1, .int .i64 r.2.1, .int .i64 r.2.2]) Try.func46 rfl Try.ntmps46 (nle rfl) rfl fun O hO => ?_
  show IWP _ _ _ _ ⟨[(0, .str a0)], []⟩ _
  unfold sennitref02_Get at h
  refine iwp_reg (ils_cons rfl (iop_assign rfl rfl (by decide) (sv (d := .int _ 0) rfl)) <|
    ils_cons rfl (iop_assign rfl rfl (by decide) (sv (d := .int _ 0) rfl)) <|
    ils_cons rfl (iop_assign rfl rfl (by decide) (sv (d := .int _ 0) rfl)) <|
    ils_end ?_)
  refine iwp_seq ?_
  obtain ⟨x1, hx1, h⟩ := bnd_e h
  obtain ⟨x2, hx2, h⟩ := bno_e h
  obtain ⟨x3, hx3, h⟩ := bno_e h
  obtain ⟨x4, hx4, h⟩ := bnd_e h
  obtain ⟨x5, hx5, h⟩ := bnd_e h
  refine iwp_reg (ils_cons rfl (iop_move rfl rfl (by decide) (sv (d := .str _) rfl)) <|
    ils_cons rfl (iop_strx rfl rfl (by decide) (sv (d := .str _) rfl) (sv (d := .str []) rfl) rfl hx1) <|
    ils_cons rfl (iop_move rfl rfl (by decide) (sv (d := .bool _) rfl)) <|
    ils_guard rfl rfl (.one rfl) rfl (by decide) (fun hb => (iop_move rfl rfl (by decide) (sv (d := .str _) rfl))) <|
    ils_guard rfl rfl (.one rfl) rfl (by decide) (fun hb => (iop_len_str rfl rfl (by decide) Try.underlying9 (svc (d := .str _) rfl hb) rfl)) <|
    ils_guard rfl rfl (.one rfl) rfl (by decide) (fun hb => (iop_move rfl rfl (by decide) (sv (d := .str _) rfl))) <|
    ils_guard rfl rfl (.one rfl) rfl (by decide) (fun hb => (iop_str_at rfl rfl (by decide) Try.underlying9 (svc (d := .str _) rfl hb) (sv (d := .int _ 0) rfl) (gd_t hx2 hb))) <|
    ils_guard rfl rfl (.one rfl) rfl (by decide) (fun hb => (iop_call (r := .int _ _) rfl rfl (by decide) cl66 (.cons (svc (d := .int _ _) rfl hb) .nil) rfl (p_sennitref02_long _ _ (gd_t hx3 hb)))) <|
    ils_guard rfl rfl (.one rfl) rfl (by decide) (fun hb => (iop_cmpx rfl rfl (by decide) (svc (d := .int _ _) rfl hb) (svc (d := .int _ _) rfl hb) rfl hx4)) <|
    ils_cons rfl (iop_orx rfl rfl (by decide) (sv (d := .bool _) rfl) rfl rfl hx5) <|
    ils_end ?_)
  refine iwp_cond (b := _) rfl (fun hc6 => ?_) (fun hc6 => ?_)
  ·
    replace h := bif_t h hc6
    refine iwp_reg (ils_cons rfl (iop_assign rfl rfl (by decide) (sv (d := .int _ 0) rfl)) <|
      ils_cons rfl (iop_assign rfl rfl (by decide) (sv (d := .int _ 0) rfl)) <|
      ils_cons rfl (iop_assign rfl rfl (by decide) (sv (d := .int _ 3) rfl)) <|
      ils_end ?_)
    refine iwp_ret ?_
    refine thenQ_r ?_
    obtain rfl := Option.some.inj h
    refine ⟨.inr rfl, (.cons (sv rfl) (.cons (sv rfl) (.cons (sv rfl) .nil)))⟩
  ·
    replace h := bif_f h hc6
    refine iwp_skip ?_
    refine thenQ_n ?_
    obtain ⟨x7, hx7, h⟩ := bno_e h
    obtain ⟨x8, hx8, h⟩ := bno_e h
    refine iwp_reg (ils_cons rfl (iop_move rfl rfl (by decide) (sv (d := .str _) rfl)) <|
      ils_cons rfl (iop_str_at rfl rfl (by decide) Try.underlying9 (sv (d := .str _) rfl) (sv (d := .int _ 0) rfl) hx7) <|
      ils_cons rfl (iop_call (r := .int _ _) rfl rfl (by decide) cl66 (.cons (sv (d := .int _ _) rfl) .nil) rfl (p_sennitref02_long _ _ hx8)) <|
      ils_cons rfl (iop_assign rfl rfl (by decide) (sv (d := .int _ _) rfl)) <|
      ils_end ?_)
    obtain ⟨x9, hx9, h⟩ := bno_e h
    obtain ⟨x10, hx10, h⟩ := bno_e h
    obtain ⟨x11, hx11, h⟩ := bnd_e h
    refine iwp_reg (ils_cons rfl (iop_move rfl rfl (by decide) (sv (d := .str _) rfl)) <|
      ils_cons rfl (iop_str_at rfl rfl (by decide) Try.underlying9 (sv (d := .str _) rfl) (sv (d := .int _ 0) rfl) hx9) <|
      ils_cons rfl (iop_remx rfl rfl (by decide) (sv (d := .int _ _) rfl) (sv (d := .int _ 64) rfl) hx10) <|
      ils_cons rfl (iop_int_conv rfl rfl (by decide) ⟨_, Try.underlying5⟩ Try.underlying3 (sv (d := .int _ _) rfl) hx11) <|
      ils_cons rfl (iop_assign rfl rfl (by decide) (sv (d := .int _ _) rfl)) <|
      ils_end ?_)
    refine iwp_seq ?_
    refine iwp_reg (ils_cons rfl (iop_assign rfl rfl (by decide) (sv (d := .int _ 1) rfl)) <|
      ils_end ?_)
    refine iwp_block ?_
    refine iwp_loopP (α := Nat × Int × Int) (fun z => ⟨[(0, .str a0), (5, .int .i64 x8), (6, .int .i64 z.2.1), (7, .int .i64 z.2.2)], []⟩) (fun z => sennitref02_Get_L0 a0 x8 z.1 z.2.1 z.2.2 = some r) (fun z => z.1) (fuel, x11, 1) (fun i => i) ⟨(.cons (.same rfl rfl) (.cons (.same rfl rfl) (.cons (.same rfl rfl) (.cons (.same rfl rfl) .nil)))), .nil, nd_of [] rfl (by decide), (fun i hi => by first | rfl | (show (if _ then _ else _) = _; (repeat' split) <;> omega))⟩ ?_ ?_
    · exact h
    ·
      rintro ⟨n0, v19, v20⟩ h
      cases n0 with
      | zero => exact absurd h (by unfold sennitref02_Get_L0; exact nofun)
      | succ n0 =>
        unfold sennitref02_Get_L0 at h
        refine iwp_seq ?_
        obtain ⟨x28, hx28, h⟩ := bnd_e h
        refine iwp_reg (ils_cons rfl (iop_move rfl rfl (by decide) (sv (d := .int _ _) rfl)) <|
          ils_cons rfl (iop_move rfl rfl (by decide) (sv (d := .int _ _) rfl)) <|
          ils_cons rfl (iop_cmpx rfl rfl (by decide) (sv (d := .int _ _) rfl) (sv (d := .int _ _) rfl) rfl hx28) <|
          ils_end ?_)
        refine iwp_cond (b := _) rfl (fun hc29 => ?_) (fun hc29 => ?_)
        ·
          replace h := bif_t h hc29
          refine iwp_skip ?_
          refine thenQ_n ?_
          refine iwp_seq ?_
          refine iwp_block ?_
          obtain ⟨x30, hx30, h⟩ := bnd_e h
          obtain ⟨x31, hx31, h⟩ := bno_e h
          obtain ⟨x32, hx32, h⟩ := bnd_e h
          obtain ⟨x33, hx33, h⟩ := bnd_e h
          refine iwp_region (ils_cons rfl (iop_move rfl rfl (by decide) (sv (d := .int _ _) rfl)) <|
            ils_cons rfl (iop_intx rfl rfl (by decide) (sv (d := .int _ 256) rfl) (sv (d := .int _ _) rfl) rfl hx30) <|
            ils_cons rfl (iop_move rfl rfl (by decide) (sv (d := .str _) rfl)) <|
            ils_cons rfl (iop_move rfl rfl (by decide) (sv (d := .int _ _) rfl)) <|
            ils_cons rfl (iop_str_at rfl rfl (by decide) Try.underlying9 (sv (d := .str _) rfl) (sv (d := .int _ _) rfl) hx31) <|
            ils_cons rfl (iop_int_conv rfl rfl (by decide) ⟨_, Try.underlying5⟩ Try.underlying3 (sv (d := .int _ _) rfl) hx32) <|
            ils_cons rfl (iop_intx rfl rfl (by decide) (sv (d := .int _ _) rfl) (sv (d := .int _ _) rfl) rfl hx33) <|
            ils_cons rfl (iop_assign rfl rfl (by decide) (sv (d := .int _ _) rfl)) <|
            ils_nil ?_)
          refine blockQ_n ?_
          refine thenQ_n ?_
          obtain ⟨x34, hx34, h⟩ := bnd_e h
          refine iwp_region (ils_cons rfl (iop_move rfl rfl (by decide) (sv (d := .int _ _) rfl)) <|
            ils_cons rfl (iop_intx rfl rfl (by decide) (sv (d := .int _ _) rfl) (sv (d := .int _ 1) rfl) rfl hx34) <|
            ils_cons rfl (iop_assign rfl rfl (by decide) (sv (d := .int _ _) rfl)) <|
            ils_nil ?_)
          refine thenQ_n ⟨(n0, x33, x34), (fun i => i), ⟨(.cons (.same rfl rfl) (.cons (.same rfl rfl) (.cons (.same rfl rfl) (.cons (.same rfl rfl) .nil)))), .nil, nd_of [] rfl (by decide), (fun i hi => by first | rfl | (show (if _ then _ else _) = _; (repeat' split) <;> omega))⟩, ?_, ?_⟩
          exact h
          exact Nat.lt_succ_self _
        ·
          replace h := bif_f h hc29
          refine iwp_exit ?_
          refine thenQ_e ?_
          refine thenQ_e ?_
          refine blockQ_e ?_
          refine thenQ_n ?_
          refine iwp_seq ?_
          obtain ⟨x35, hx35, h⟩ := bno_e h
          obtain ⟨x36, hx36, h⟩ := bnd_e h
          refine iwp_reg (ils_cons rfl (iop_move rfl rfl (by decide) (sv (d := .int _ _) rfl)) <|
            ils_cons rfl (iop_call (r := .int _ _) rfl rfl (by decide) cl56 (.cons (sv (d := .int _ _) rfl) .nil) rfl (p_sennitref02_Size _ _ hx35)) <|
            ils_cons rfl (iop_move rfl rfl (by decide) (sv (d := .int _ _) rfl)) <|
            ils_cons rfl (iop_cmpx rfl rfl (by decide) (sv (d := .int _ _) rfl) (sv (d := .int _ _) rfl) rfl hx36) <|
            ils_end ?_)
          refine iwp_cond (b := _) rfl (fun hc37 => ?_) (fun hc37 => ?_)
          ·
            replace h := bif_t h hc37
            refine iwp_reg (ils_cons rfl (iop_assign rfl rfl (by decide) (sv (d := .int _ 0) rfl)) <|
              ils_cons rfl (iop_assign rfl rfl (by decide) (sv (d := .int _ 0) rfl)) <|
              ils_cons rfl (iop_assign rfl rfl (by decide) (sv (d := .int _ 4) rfl)) <|
              ils_end ?_)
            refine iwp_ret ?_
            refine thenQ_r ?_
            obtain rfl := Option.some.inj h
            refine ⟨.inr rfl, (.cons (sv rfl) (.cons (sv rfl) (.cons (sv rfl) .nil)))⟩
          ·
            replace h := bif_f h hc37
            refine iwp_skip ?_
            refine thenQ_n ?_
            refine iwp_reg (ils_cons rfl (iop_move rfl rfl (by decide) (sv (d := .int _ _) rfl)) <|
              ils_cons rfl (iop_move rfl rfl (by decide) (sv (d := .int _ _) rfl)) <|
              ils_cons rfl (iop_assign rfl rfl (by decide) (sv (d := .int _ _) rfl)) <|
              ils_cons rfl (iop_assign rfl rfl (by decide) (sv (d := .int _ _) rfl)) <|
              ils_cons rfl (iop_assign rfl rfl (by decide) (sv (d := .int _ 0) rfl)) <|
              ils_end ?_)
            refine iwp_ret ?_
            obtain rfl := Option.some.inj h
            refine ⟨.inr rfl, (.cons (sv rfl) (.cons (sv rfl) (.cons (sv rfl) .nil)))⟩

set_option maxRecDepth 8000 in
set_option maxHeartbeats 2000000 in
theorem p_sennitref15_set_n (a0 : Int) (a1 : Bool) (a2 : Int) (a3 : Int) (a4 : Int) (a5 : Int) (a6 : Int) (a7 : Int) (a8 : (List UInt8)) (a9 : Int) (a10 : Int) (r : (Int × Bool × Int × Int × Int × Int × Int × Int × (List UInt8))) (h : sennitref15_set_n a0 a1 a2 a3 a4 a5 a6 a7 a8 a9 a10 = some r) : PureAt Try.prog 67 [.agg [.int .u8 a0, .bool a1, .int .i64 a2, .int .i64 a3, .int .i64 a4, .int .i64 a5, .int .i64 a6, .int .i64 a7, .nils, .str a8], .int .u8 a9, .int .i64 a10] (.agg [.int .u8 r.1, .bool r.2.1, .int .i64 r.2.2.1, .int .i64 r.2.2.2.1, .int .i64 r.2.2.2.2.1, .int .i64 r.2.2.2.2.2.1, .int .i64 r.2.2.2.2.2.2.1, .int .i64 r.2.2.2.2.2.2.2.1, .nils, .str r.2.2.2.2.2.2.2.2]) := by
  refine pure_of_iwp (rs := [.agg [.int .u8 r.1, .bool r.2.1, .int .i64 r.2.2.1, .int .i64 r.2.2.2.1, .int .i64 r.2.2.2.2.1, .int .i64 r.2.2.2.2.2.1, .int .i64 r.2.2.2.2.2.2.1, .int .i64 r.2.2.2.2.2.2.2.1, .nils, .str r.2.2.2.2.2.2.2.2]]) Try.func67 rfl Try.ntmps67 (nle rfl) rfl fun O hO => ?_
  show IWP _ _ _ _ ⟨[(0, .agg [.int .u8 a0, .bool a1, .int .i64 a2, .int .i64 a3, .int .i64 a4, .int .i64 a5, .int .i64 a6, .int .i64 a7, .nils, .str a8]), (1, .int .u8 a9), (2, .int .i64 a10)], []⟩ _
  unfold sennitref15_set_n at h
  refine iwp_reg (ils_cons rfl (iop_box' (cs := [.int _ _, .bool _, .int _ _, .int _ _, .int _ _, .int _ _, .int _ _, .int _ _, .nils, .str _]) 0 rfl rfl (by decide) rfl (sv (d := .agg [.int _ _, .bool _, .int _ _, .int _ _, .int _ _, .int _ _, .int _ _, .int _ _, .nils, .str _]) rfl) rfl rfl) <|
    ils_cons rfl (iop_allocS (cs := [.int _ _, .bool _, .int _ _, .int _ _, .int _ _, .int _ _, .int _ _, .int _ _, .nils, .str _]) (cs' := [.int .u8 0, .bool false, .int .i64 0, .int .i64 0, .int .i64 0, .int .i64 0, .int .i64 0, .int .i64 0, .nils, .str []]) 1 rfl rfl (by decide) rfl ti40 rfl rfl (.cons (.refl _) (.cons (.refl _) (.cons (.refl _) (.cons (.refl _) (.cons (.refl _) (.cons (.refl _) (.cons (.refl _) (.cons (.refl _) (.cons (.refl _) (.cons (.refl _) .nil))))))))))) <|
    ils_end ?_)
  refine iwp_seq ?_
  refine iwp_reg (ils_cons rfl (iop_move rfl rfl (by decide) (sv (d := .int _ _) rfl)) <|
    ils_end ?_)
  refine iwp_block ?_
  obtain ⟨x1, hx1, h⟩ := bnd_e h
  refine iwp_reg (ils_cons rfl (iop_cmpx rfl rfl (by decide) (sv (d := .int _ _) rfl) (sv (d := .int _ 115) rfl) rfl hx1) <|
    ils_cons rfl (iop_assign rfl rfl (by decide) (sv (d := .bool _) rfl)) <|
    ils_end ?_)
  refine iwp_cond (b := _) rfl (fun hc2 => ?_) (fun hc2 => ?_)
  ·
    replace h := bif_t h hc2
    refine iwp_region (ils_cons rfl (iop_move rfl rfl (by decide) (sv (d := .int _ _) rfl)) <|
      ils_cons rfl (iop_fieldAddr_ref rfl rfl (by decide) Try.underlying40 rfl ti3 (by decide) (sv (d := .ref _ _) rfl) (off' := 2) rfl) <|
      ils_cons rfl (iop_store (ds' := [.int _ _, .bool _, .int _ _, .int _ _, .int _ _, .int _ _, .int _ _, .int _ _, .nils, .str _]) rfl rfl ti3 (sv (d := .ref _ _) rfl) rfl (sv (d := .int _ _) rfl) rfl rfl rfl (nle rfl) rfl) <|
      ils_nil ?_)
    refine blockQ_n ?_
    refine thenQ_n ?_
    refine iwp_reg (ils_cons rfl (iop_load_ra (cs := [.int _ _, .bool _, .int _ _, .int _ _, .int _ _, .int _ _, .int _ _, .int _ _, .nils, .str _]) rfl rfl (by decide) Try.underlying40 ag40 ti40 (by decide) (sv (d := .ref _ _) rfl) rfl (nle rfl) rfl) <|
      ils_cons rfl (iop_store (ds' := [.int _ _, .bool _, .int _ _, .int _ _, .int _ _, .int _ _, .int _ _, .int _ _, .nils, .str _]) rfl rfl ti40 (sv (d := .ref _ _) rfl) rfl (sv (d := .agg [.int _ _, .bool _, .int _ _, .int _ _, .int _ _, .int _ _, .int _ _, .int _ _, .nils, .str _]) rfl) rfl rfl rfl (nle rfl) rfl) <|
      ils_end ?_)
    refine iwp_ret ?_
    obtain rfl := Option.some.inj h
    refine ⟨.inr rfl, (.cons (resv_a rfl rfl Try.underlying40 ag40 ti40 (by decide) (nle rfl) rfl) .nil)⟩
  ·
    replace h := bif_f h hc2
    obtain ⟨x3, hx3, h⟩ := bnd_e h
    refine iwp_reg (ils_cons rfl (iop_cmpx rfl rfl (by decide) (sv (d := .int _ _) rfl) (sv (d := .int _ 111) rfl) rfl hx3) <|
      ils_cons rfl (iop_assign rfl rfl (by decide) (sv (d := .bool _) rfl)) <|
      ils_end ?_)
    refine iwp_cond (b := _) rfl (fun hc4 => ?_) (fun hc4 => ?_)
    ·
      replace h := bif_t h hc4
      refine iwp_region (ils_cons rfl (iop_move rfl rfl (by decide) (sv (d := .int _ _) rfl)) <|
        ils_cons rfl (iop_fieldAddr_ref rfl rfl (by decide) Try.underlying40 rfl ti3 (by decide) (sv (d := .ref _ _) rfl) (off' := 3) rfl) <|
        ils_cons rfl (iop_store (ds' := [.int _ _, .bool _, .int _ _, .int _ _, .int _ _, .int _ _, .int _ _, .int _ _, .nils, .str _]) rfl rfl ti3 (sv (d := .ref _ _) rfl) rfl (sv (d := .int _ _) rfl) rfl rfl rfl (nle rfl) rfl) <|
        ils_nil ?_)
      refine blockQ_n ?_
      refine thenQ_n ?_
      refine iwp_reg (ils_cons rfl (iop_load_ra (cs := [.int _ _, .bool _, .int _ _, .int _ _, .int _ _, .int _ _, .int _ _, .int _ _, .nils, .str _]) rfl rfl (by decide) Try.underlying40 ag40 ti40 (by decide) (sv (d := .ref _ _) rfl) rfl (nle rfl) rfl) <|
        ils_cons rfl (iop_store (ds' := [.int _ _, .bool _, .int _ _, .int _ _, .int _ _, .int _ _, .int _ _, .int _ _, .nils, .str _]) rfl rfl ti40 (sv (d := .ref _ _) rfl) rfl (sv (d := .agg [.int _ _, .bool _, .int _ _, .int _ _, .int _ _, .int _ _, .int _ _, .int _ _, .nils, .str _]) rfl) rfl rfl rfl (nle rfl) rfl) <|
        ils_end ?_)
      refine iwp_ret ?_
      obtain rfl := Option.some.inj h
      refine ⟨.inr rfl, (.cons (resv_a rfl rfl Try.underlying40 ag40 ti40 (by decide) (nle rfl) rfl) .nil)⟩
    ·
      replace h := bif_f h hc4
      obtain ⟨x5, hx5, h⟩ := bnd_e h
      refine iwp_reg (ils_cons rfl (iop_cmpx rfl rfl (by decide) (sv (d := .int _ _) rfl) (sv (d := .int _ 100) rfl) rfl hx5) <|
        ils_cons rfl (iop_assign rfl rfl (by decide) (sv (d := .bool _) rfl)) <|
        ils_end ?_)
      refine iwp_cond (b := _) rfl (fun hc6 => ?_) (fun hc6 => ?_)
      ·
        replace h := bif_t h hc6
        refine iwp_region (ils_cons rfl (iop_move rfl rfl (by decide) (sv (d := .int _ _) rfl)) <|
          ils_cons rfl (iop_fieldAddr_ref rfl rfl (by decide) Try.underlying40 rfl ti3 (by decide) (sv (d := .ref _ _) rfl) (off' := 4) rfl) <|
          ils_cons rfl (iop_store (ds' := [.int _ _, .bool _, .int _ _, .int _ _, .int _ _, .int _ _, .int _ _, .int _ _, .nils, .str _]) rfl rfl ti3 (sv (d := .ref _ _) rfl) rfl (sv (d := .int _ _) rfl) rfl rfl rfl (nle rfl) rfl) <|
          ils_nil ?_)
        refine blockQ_n ?_
        refine thenQ_n ?_
        refine iwp_reg (ils_cons rfl (iop_load_ra (cs := [.int _ _, .bool _, .int _ _, .int _ _, .int _ _, .int _ _, .int _ _, .int _ _, .nils, .str _]) rfl rfl (by decide) Try.underlying40 ag40 ti40 (by decide) (sv (d := .ref _ _) rfl) rfl (nle rfl) rfl) <|
          ils_cons rfl (iop_store (ds' := [.int _ _, .bool _, .int _ _, .int _ _, .int _ _, .int _ _, .int _ _, .int _ _, .nils, .str _]) rfl rfl ti40 (sv (d := .ref _ _) rfl) rfl (sv (d := .agg [.int _ _, .bool _, .int _ _, .int _ _, .int _ _, .int _ _, .int _ _, .int _ _, .nils, .str _]) rfl) rfl rfl rfl (nle rfl) rfl) <|
          ils_end ?_)
        refine iwp_ret ?_
        obtain rfl := Option.some.inj h
        refine ⟨.inr rfl, (.cons (resv_a rfl rfl Try.underlying40 ag40 ti40 (by decide) (nle rfl) rfl) .nil)⟩
      ·
        replace h := bif_f h hc6
        obtain ⟨x7, hx7, h⟩ := bnd_e h
        refine iwp_reg (ils_cons rfl (iop_cmpx rfl rfl (by decide) (sv (d := .int _ _) rfl) (sv (d := .int _ 119) rfl) rfl hx7) <|
          ils_cons rfl (iop_assign rfl rfl (by decide) (sv (d := .bool _) rfl)) <|
          ils_end ?_)
        refine iwp_cond (b := _) rfl (fun hc8 => ?_) (fun hc8 => ?_)
        ·
          replace h := bif_t h hc8
          refine iwp_region (ils_cons rfl (iop_move rfl rfl (by decide) (sv (d := .int _ _) rfl)) <|
            ils_cons rfl (iop_fieldAddr_ref rfl rfl (by decide) Try.underlying40 rfl ti3 (by decide) (sv (d := .ref _ _) rfl) (off' := 5) rfl) <|
            ils_cons rfl (iop_store (ds' := [.int _ _, .bool _, .int _ _, .int _ _, .int _ _, .int _ _, .int _ _, .int _ _, .nils, .str _]) rfl rfl ti3 (sv (d := .ref _ _) rfl) rfl (sv (d := .int _ _) rfl) rfl rfl rfl (nle rfl) rfl) <|
            ils_nil ?_)
          refine blockQ_n ?_
          refine thenQ_n ?_
          refine iwp_reg (ils_cons rfl (iop_load_ra (cs := [.int _ _, .bool _, .int _ _, .int _ _, .int _ _, .int _ _, .int _ _, .int _ _, .nils, .str _]) rfl rfl (by decide) Try.underlying40 ag40 ti40 (by decide) (sv (d := .ref _ _) rfl) rfl (nle rfl) rfl) <|
            ils_cons rfl (iop_store (ds' := [.int _ _, .bool _, .int _ _, .int _ _, .int _ _, .int _ _, .int _ _, .int _ _, .nils, .str _]) rfl rfl ti40 (sv (d := .ref _ _) rfl) rfl (sv (d := .agg [.int _ _, .bool _, .int _ _, .int _ _, .int _ _, .int _ _, .int _ _, .int _ _, .nils, .str _]) rfl) rfl rfl rfl (nle rfl) rfl) <|
            ils_end ?_)
          refine iwp_ret ?_
          obtain rfl := Option.some.inj h
          refine ⟨.inr rfl, (.cons (resv_a rfl rfl Try.underlying40 ag40 ti40 (by decide) (nle rfl) rfl) .nil)⟩
        ·
          replace h := bif_f h hc8
          obtain ⟨x9, hx9, h⟩ := bnd_e h
          refine iwp_reg (ils_cons rfl (iop_cmpx rfl rfl (by decide) (sv (d := .int _ _) rfl) (sv (d := .int _ 110) rfl) rfl hx9) <|
            ils_cons rfl (iop_assign rfl rfl (by decide) (sv (d := .bool _) rfl)) <|
            ils_end ?_)
          refine iwp_cond (b := _) rfl (fun hc10 => ?_) (fun hc10 => ?_)
          ·
            replace h := bif_t h hc10
            refine iwp_region (ils_cons rfl (iop_move rfl rfl (by decide) (sv (d := .int _ _) rfl)) <|
              ils_cons rfl (iop_fieldAddr_ref rfl rfl (by decide) Try.underlying40 rfl ti3 (by decide) (sv (d := .ref _ _) rfl) (off' := 6) rfl) <|
              ils_cons rfl (iop_store (ds' := [.int _ _, .bool _, .int _ _, .int _ _, .int _ _, .int _ _, .int _ _, .int _ _, .nils, .str _]) rfl rfl ti3 (sv (d := .ref _ _) rfl) rfl (sv (d := .int _ _) rfl) rfl rfl rfl (nle rfl) rfl) <|
              ils_nil ?_)
            refine blockQ_n ?_
            refine thenQ_n ?_
            refine iwp_reg (ils_cons rfl (iop_load_ra (cs := [.int _ _, .bool _, .int _ _, .int _ _, .int _ _, .int _ _, .int _ _, .int _ _, .nils, .str _]) rfl rfl (by decide) Try.underlying40 ag40 ti40 (by decide) (sv (d := .ref _ _) rfl) rfl (nle rfl) rfl) <|
              ils_cons rfl (iop_store (ds' := [.int _ _, .bool _, .int _ _, .int _ _, .int _ _, .int _ _, .int _ _, .int _ _, .nils, .str _]) rfl rfl ti40 (sv (d := .ref _ _) rfl) rfl (sv (d := .agg [.int _ _, .bool _, .int _ _, .int _ _, .int _ _, .int _ _, .int _ _, .int _ _, .nils, .str _]) rfl) rfl rfl rfl (nle rfl) rfl) <|
              ils_end ?_)
            refine iwp_ret ?_
            obtain rfl := Option.some.inj h
            refine ⟨.inr rfl, (.cons (resv_a rfl rfl Try.underlying40 ag40 ti40 (by decide) (nle rfl) rfl) .nil)⟩
          ·
            replace h := bif_f h hc10
            refine iwp_region (ils_cons rfl (iop_move rfl rfl (by decide) (sv (d := .int _ _) rfl)) <|
              ils_cons rfl (iop_fieldAddr_ref rfl rfl (by decide) Try.underlying40 rfl ti3 (by decide) (sv (d := .ref _ _) rfl) (off' := 7) rfl) <|
              ils_cons rfl (iop_store (ds' := [.int _ _, .bool _, .int _ _, .int _ _, .int _ _, .int _ _, .int _ _, .int _ _, .nils, .str _]) rfl rfl ti3 (sv (d := .ref _ _) rfl) rfl (sv (d := .int _ _) rfl) rfl rfl rfl (nle rfl) rfl) <|
              ils_nil ?_)
            refine blockQ_n ?_
            refine thenQ_n ?_
            refine iwp_reg (ils_cons rfl (iop_load_ra (cs := [.int _ _, .bool _, .int _ _, .int _ _, .int _ _, .int _ _, .int _ _, .int _ _, .nils, .str _]) rfl rfl (by decide) Try.underlying40 ag40 ti40 (by decide) (sv (d := .ref _ _) rfl) rfl (nle rfl) rfl) <|
              ils_cons rfl (iop_store (ds' := [.int _ _, .bool _, .int _ _, .int _ _, .int _ _, .int _ _, .int _ _, .int _ _, .nils, .str _]) rfl rfl ti40 (sv (d := .ref _ _) rfl) rfl (sv (d := .agg [.int _ _, .bool _, .int _ _, .int _ _, .int _ _, .int _ _, .int _ _, .int _ _, .nils, .str _]) rfl) rfl rfl rfl (nle rfl) rfl) <|
              ils_end ?_)
            refine iwp_ret ?_
            obtain rfl := Option.some.inj h
            refine ⟨.inr rfl, (.cons (resv_a rfl rfl Try.underlying40 ag40 ti40 (by decide) (nle rfl) rfl) .nil)⟩

set_option maxRecDepth 8000 in
set_option maxHeartbeats 2000000 in
theorem p_sennitref02_All (a0 : (List UInt8)) (r : ((List Int) × Int)) (h : sennitref02_All a0 = some r) : PureAt Try.prog 68 [.str a0] (retD [.slice false (r.1.map (eInt .i64).d), .int .i64 r.2]) := by
  refine pure_of_iwp (rs := [.slice false (r.1.map (eInt .i64).d), .int .i64 r.2]) Try.func68 rfl Try.ntmps68 (nle rfl) rfl fun O hO => ?_
  show IWP _ _ _ _ ⟨[(0, .str a0)], []⟩ _
  unfold sennitref02_All at h
  refine iwp_reg (ils_cons rfl (iop_assign rfl rfl (by decide) (sv (d := .nils) rfl)) <|
    ils_cons rfl (iop_assign rfl rfl (by decide) (sv (d := .int _ 0) rfl)) <|
    ils_end ?_)
  refine iwp_reg (ils_cons rfl (iop_assign rfl rfl (by decide) (sv (d := .nils) rfl)) <|
    ils_end ?_)
  refine iwp_reg (ils_cons rfl (iop_assign rfl rfl (by decide) (sv (d := .int _ 0) rfl)) <|
    ils_end ?_)
  refine iwp_seq ?_
  refine iwp_block ?_
  refine iwp_loopP (α := Nat × (List Int) × Int) (fun z => ⟨[(0, .str a0), (4, .gsl 21 (eInt .i64).sz (z.2.1.map (eInt .i64).d)), (5, .int .i64 z.2.2)], [(21, .tail 3 (eInt .i64).sz z.2.1.length)]⟩) (fun z => sennitref02_All_L0 a0 z.1 z.2.1 z.2.2 = some r) (fun z => z.1) (fuel, ([] : (List Int)), 0) (fun i => if i = 21 then 71 else i) ⟨(.cons (.same rfl rfl) (.cons (.nils rfl) (.cons (.same rfl rfl) .nil))), (.cons (.nils rfl) .nil), nd_of [71] rfl (by decide), (fun i hi => by first | rfl | (show (if _ then _ else _) = _; (repeat' split) <;> omega))⟩ ?_ ?_
  · exact h
  ·
    rintro ⟨n0, v9, v10⟩ h
    cases n0 with
    | zero => exact absurd h (by unfold sennitref02_All_L0; exact nofun)
    | succ n0 =>
      unfold sennitref02_All_L0 at h
      refine iwp_seq ?_
      obtain ⟨x19, hx19, h⟩ := bnd_e h
      refine iwp_reg (ils_cons rfl (iop_move rfl rfl (by decide) (sv (d := .int _ _) rfl)) <|
        ils_cons rfl (iop_move rfl rfl (by decide) (sv (d := .str _) rfl)) <|
        ils_cons rfl (iop_len_str rfl rfl (by decide) Try.underlying9 (sv (d := .str _) rfl) rfl) <|
        ils_cons rfl (iop_cmpx rfl rfl (by decide) (sv (d := .int _ _) rfl) (sv (d := .int _ _) rfl) rfl hx19) <|
        ils_end ?_)
      refine iwp_cond (b := _) rfl (fun hc20 => ?_) (fun hc20 => ?_)
      ·
        replace h := bif_t h hc20
        refine iwp_skip ?_
        refine thenQ_n ?_
        refine iwp_block ?_
        obtain ⟨x21, hx21, h⟩ := bno_e h
        obtain ⟨x22, hx22, h⟩ := bno_e h
        refine iwp_reg (ils_cons rfl (iop_move rfl rfl (by decide) (sv (d := .str _) rfl)) <|
          ils_cons rfl (iop_move rfl rfl (by decide) (sv (d := .int _ _) rfl)) <|
          ils_cons rfl (iop_cutS rfl rfl (by decide) Try.underlying9 (sv (d := .str _) rfl) ⟨_, (sv (d := .int _ _) rfl)⟩ rfl hx21) <|
          ils_cons rfl (iop_call (r := .tuple [.int _ _, .int _ _, .int _ _]) rfl rfl (by decide) cl46 (.cons (sv (d := .str _) rfl) .nil) rfl (p_sennitref02_Get _ _ hx22)) <|
          ils_cons rfl (iop_move rfl rfl (by decide) (sv (d := .tuple [.int _ _, .int _ _, .int _ _]) rfl)) <|
          ils_cons rfl (iop_extract (d := .int _ _) rfl rfl (by decide) (sv (d := .tuple [.int _ _, .int _ _, .int _ _]) rfl) rfl) <|
          ils_cons rfl (iop_extract (d := .int _ _) rfl rfl (by decide) (sv (d := .tuple [.int _ _, .int _ _, .int _ _]) rfl) rfl) <|
          ils_cons rfl (iop_extract (d := .int _ _) rfl rfl (by decide) (sv (d := .tuple [.int _ _, .int _ _, .int _ _]) rfl) rfl) <|
          ils_cons rfl (iop_assign rfl rfl (by decide) (sv (d := .int _ _) rfl)) <|
          ils_cons rfl (iop_assign rfl rfl (by decide) (sv (d := .int _ _) rfl)) <|
          ils_cons rfl (iop_assign rfl rfl (by decide) (sv (d := .int _ _) rfl)) <|
          ils_end ?_)
        refine iwp_seq ?_
        obtain ⟨x23, hx23, h⟩ := bnd_e h
        refine iwp_reg (ils_cons rfl (iop_move rfl rfl (by decide) (sv (d := .int _ _) rfl)) <|
          ils_cons rfl (iop_cmpx rfl rfl (by decide) (sv (d := .int _ _) rfl) (sv (d := .int _ 0) rfl) rfl hx23) <|
          ils_end ?_)
        refine iwp_cond (b := _) rfl (fun hc24 => ?_) (fun hc24 => ?_)
        ·
          replace h := bif_t h hc24
          refine iwp_reg (ils_cons rfl (iop_move rfl rfl (by decide) (sv (d := .int _ _) rfl)) <|
            ils_cons rfl (iop_assign rfl rfl (by decide) (sv (d := .nils) rfl)) <|
            ils_cons rfl (iop_assign rfl rfl (by decide) (sv (d := .int _ _) rfl)) <|
            ils_end ?_)
          refine iwp_ret ?_
          refine thenQ_r ?_
          refine blockQ_r ?_
          refine thenQ_r ?_
          refine blockQ_r ?_
          refine thenQ_r ?_
          obtain rfl := Option.some.inj h
          refine ⟨.inr rfl, (.cons (svn_of rfl rfl) (.cons (sv rfl) .nil))⟩
        ·
          replace h := bif_f h hc24
          refine iwp_skip ?_
          refine thenQ_n ?_
          obtain ⟨x25, hx25, h⟩ := bno_e h
          refine iwp_reg (ils_cons rfl (iop_move rfl rfl (by decide) (sv (d := .gsl _ _ _) rfl)) <|
            ils_cons rfl (iop_move rfl rfl (by decide) (sv (d := .int _ _) rfl)) <|
            ils_cons rfl (iop_bsT (eInt .i64) ([x22.1] : (List Int)) 22 rfl rfl (by decide) Try.underlying88 ti3 rfl (.cons (sv (d := .int _ _) rfl) .nil) rfl rfl (by decide)) <|
            ils_cons rfl (iop_appT (eInt .i64) 23 rfl rfl (by decide) Try.underlying88 ti3 rfl rfl rfl rfl (svg rfl) hx25) <|
            ils_cons rfl (iop_assign rfl rfl (by decide) (sv (d := .gsl _ _ _) rfl)) <|
            ils_end ?_)
          obtain ⟨x26, hx26, h⟩ := bnd_e h
          refine iwp_region (ils_cons rfl (iop_move rfl rfl (by decide) (sv (d := .int _ _) rfl)) <|
            ils_cons rfl (iop_move rfl rfl (by decide) (sv (d := .int _ _) rfl)) <|
            ils_cons rfl (iop_intx rfl rfl (by decide) (sv (d := .int _ _) rfl) (sv (d := .int _ _) rfl) rfl hx26) <|
            ils_cons rfl (iop_assign rfl rfl (by decide) (sv (d := .int _ _) rfl)) <|
            ils_nil ?_)
          refine blockQ_n ?_
          refine thenQ_n ⟨(n0, x25, x26), (fun i => if i = 21 then 23 else i), ⟨(.cons (.same rfl rfl) (.cons (.same rfl rfl) (.cons (.same rfl rfl) .nil))), (.cons (.tail rfl) .nil), nd_of [23] rfl (by decide), (fun i hi => by first | rfl | (show (if _ then _ else _) = _; (repeat' split) <;> omega))⟩, ?_, ?_⟩
          exact h
          exact Nat.lt_succ_self _
      ·
        replace h := bif_f h hc20
        refine iwp_exit ?_
        refine thenQ_e ?_
        refine thenQ_e ?_
        refine blockQ_e ?_
        refine thenQ_n ?_
        refine iwp_reg (ils_cons rfl (iop_move rfl rfl (by decide) (sv (d := .gsl _ _ _) rfl)) <|
          ils_cons rfl (iop_assign rfl rfl (by decide) (sv (d := .gsl _ _ _) rfl)) <|
          ils_cons rfl (iop_assign rfl rfl (by decide) (sv (d := .int _ 0) rfl)) <|
          ils_end ?_)
        refine iwp_ret ?_
        obtain rfl := Option.some.inj h
        refine ⟨.inr rfl, (.cons (svg_of rfl rfl) (.cons (sv rfl) .nil))⟩

set_option maxRecDepth 8000 in
set_option maxHeartbeats 2000000 in
theorem p_sennitref15_read_n (a0 : Int) (a1 : Bool) (a2 : Int) (a3 : Int) (a4 : Int) (a5 : Int) (a6 : Int) (a7 : Int) (a8 : (List UInt8)) (a9 : (List UInt8)) (r : (T_frame_Frame × Bool)) (h : sennitref15_read_n a0 a1 a2 a3 a4 a5 a6 a7 a8 a9 = some r) : PureAt Try.prog 47 [.agg [.int .u8 a0, .bool a1, .int .i64 a2, .int .i64 a3, .int .i64 a4, .int .i64 a5, .int .i64 a6, .int .i64 a7, .nils, .str a8], .str a9] (retD [.agg [.int .u8 r.1.Kind, .bool r.1.Flag, .int .i64 r.1.Stream, .int .i64 r.1.Offset, .int .i64 r.1.Dep, .int .i64 r.1.Weight, .int .i64 r.1.N, .int .i64 r.1.Code, .slice false (r.1.Pairs.map E_api_Pair.d), .str r.1.Data], .bool r.2]) := by
  refine pure_of_iwpF (rs := [.agg [.int .u8 r.1.Kind, .bool r.1.Flag, .int .i64 r.1.Stream, .int .i64 r.1.Offset, .int .i64 r.1.Dep, .int .i64 r.1.Weight, .int .i64 r.1.N, .int .i64 r.1.Code, .slice false (r.1.Pairs.map E_api_Pair.d), .str r.1.Data], .bool r.2]) Try.func47 rfl Try.ntmps47 (nle rfl) rfl fun O hO => ?_
  show IWP _ _ _ _ ⟨[(0, .agg [.int .u8 a0, .bool a1, .int .i64 a2, .int .i64 a3, .int .i64 a4, .int .i64 a5, .int .i64 a6, .int .i64 a7, .nils, .str a8]), (1, .str a9)], []⟩ _
  unfold sennitref15_read_n at h
  refine iwp_reg (ils_cons rfl (iop_box' (cs := [.int _ _, .bool _, .int _ _, .int _ _, .int _ _, .int _ _, .int _ _, .int _ _, .nils, .str _]) 0 rfl rfl (by decide) rfl (sv (d := .agg [.int _ _, .bool _, .int _ _, .int _ _, .int _ _, .int _ _, .int _ _, .int _ _, .nils, .str _]) rfl) rfl rfl) <|
    ils_cons rfl (iop_allocS (cs := [.int _ _, .bool _, .int _ _, .int _ _, .int _ _, .int _ _, .int _ _, .int _ _, .nils, .str _]) (cs' := [.int .u8 0, .bool false, .int .i64 0, .int .i64 0, .int .i64 0, .int .i64 0, .int .i64 0, .int .i64 0, .nils, .str []]) 1 rfl rfl (by decide) rfl ti40 rfl rfl (.cons (.refl _) (.cons (.refl _) (.cons (.refl _) (.cons (.refl _) (.cons (.refl _) (.cons (.refl _) (.cons (.refl _) (.cons (.refl _) (.cons (.refl _) (.cons (.refl _) .nil))))))))))) <|
    ils_cons rfl (iop_assign rfl rfl (by decide) (sv (d := .bool false) rfl)) <|
    ils_end ?_)
  obtain ⟨x1, hx1, h⟩ := bno_e h
  refine iwp_reg (ils_cons rfl (iop_fieldAddr_ref rfl rfl (by decide) Try.underlying40 rfl ti5 (by decide) (sv (d := .ref _ _) rfl) (off' := 0) rfl) <|
    ils_cons rfl (iop_load_rs (d := .int _ _) rfl rfl (by decide) Try.underlying5 ag5 ti5 (by decide) (sv (d := .ref _ _) rfl) rfl (nle rfl) rfl) <|
    ils_cons rfl (iop_call (r := .str _) rfl rfl (by decide) cl40 (.cons (sv (d := .int _ _) rfl) .nil) rfl (p_sennitref15_fields _ _ hx1)) <|
    ils_cons rfl (iop_assign rfl rfl (by decide) (sv (d := .str _) rfl)) <|
    ils_end ?_)
  refine iwp_seq ?_
  refine iwp_reg (ils_cons rfl (iop_assign rfl rfl (by decide) (sv (d := .int _ 0) rfl)) <|
    ils_end ?_)
  refine iwp_block ?_
  refine iwp_loopP (α := Nat × (List UInt8) × Int × Int × Bool × Int × Int × Int × Int × Int × Int × (List UInt8)) (fun z => ⟨[(1, .str z.2.1), (2, .ref 0 0), (4, .ref 1 0), (6, .str x1), (7, .int .i64 z.2.2.1)], [(0, .blk 40 [.int .u8 z.2.2.2.1, .bool z.2.2.2.2.1, .int .i64 z.2.2.2.2.2.1, .int .i64 z.2.2.2.2.2.2.1, .int .i64 z.2.2.2.2.2.2.2.1, .int .i64 z.2.2.2.2.2.2.2.2.1, .int .i64 z.2.2.2.2.2.2.2.2.2.1, .int .i64 z.2.2.2.2.2.2.2.2.2.2.1, .nils, .str z.2.2.2.2.2.2.2.2.2.2.2]), (1, .blk 40 [.int .u8 0, .bool false, .int .i64 0, .int .i64 0, .int .i64 0, .int .i64 0, .int .i64 0, .int .i64 0, .nils, .str []])]⟩) (fun z => sennitref15_read_n_L0 x1 z.1 z.2.1 z.2.2.1 z.2.2.2.1 z.2.2.2.2.1 z.2.2.2.2.2.1 z.2.2.2.2.2.2.1 z.2.2.2.2.2.2.2.1 z.2.2.2.2.2.2.2.2.1 z.2.2.2.2.2.2.2.2.2.1 z.2.2.2.2.2.2.2.2.2.2.1 z.2.2.2.2.2.2.2.2.2.2.2 = some r) (fun z => z.1) (fuel, a9, 0, a0, a1, a2, a3, a4, a5, a6, a7, a8) (fun i => i) ⟨(.cons (.same rfl rfl) (.cons (.same rfl rfl) (.cons (.same rfl rfl) (.cons (.same rfl rfl) (.cons (.same rfl rfl) .nil))))), (.cons (.blk rfl rfl rfl) (.cons (.blk rfl rfl rfl) .nil)), nd_of [0, 1] rfl (by decide), (fun i hi => by first | rfl | (show (if _ then _ else _) = _; (repeat' split) <;> omega))⟩ ?_ ?_
  · exact h
  ·
    rintro ⟨n0, v11, v12, v13, v14, v15, v16, v17, v18, v19, v20, v21⟩ h
    cases n0 with
    | zero => exact absurd h (by unfold sennitref15_read_n_L0; exact nofun)
    | succ n0 =>
      unfold sennitref15_read_n_L0 at h
      refine iwp_seq ?_
      obtain ⟨x31, hx31, h⟩ := bnd_e h
      refine iwp_reg (ils_cons rfl (iop_move rfl rfl (by decide) (sv (d := .int _ _) rfl)) <|
        ils_cons rfl (iop_move rfl rfl (by decide) (sv (d := .str _) rfl)) <|
        ils_cons rfl (iop_len_str rfl rfl (by decide) Try.underlying9 (sv (d := .str _) rfl) rfl) <|
        ils_cons rfl (iop_cmpx rfl rfl (by decide) (sv (d := .int _ _) rfl) (sv (d := .int _ _) rfl) rfl hx31) <|
        ils_end ?_)
      refine iwp_cond (b := _) rfl (fun hc32 => ?_) (fun hc32 => ?_)
      ·
        replace h := bif_t h hc32
        refine iwp_skip ?_
        refine thenQ_n ?_
        refine iwp_seq ?_
        refine iwp_block ?_
        obtain ⟨x33, hx33, h⟩ := bno_e h
        refine iwp_reg (ils_cons rfl (iop_move rfl rfl (by decide) (sv (d := .str _) rfl)) <|
          ils_cons rfl (iop_call (r := .tuple [.int _ _, .int _ _, .int _ _]) rfl rfl (by decide) cl46 (.cons (sv (d := .str _) rfl) .nil) rfl (p_sennitref02_Get _ _ hx33)) <|
          ils_cons rfl (iop_move rfl rfl (by decide) (sv (d := .tuple [.int _ _, .int _ _, .int _ _]) rfl)) <|
          ils_cons rfl (iop_extract (d := .int _ _) rfl rfl (by decide) (sv (d := .tuple [.int _ _, .int _ _, .int _ _]) rfl) rfl) <|
          ils_cons rfl (iop_extract (d := .int _ _) rfl rfl (by decide) (sv (d := .tuple [.int _ _, .int _ _, .int _ _]) rfl) rfl) <|
          ils_cons rfl (iop_extract (d := .int _ _) rfl rfl (by decide) (sv (d := .tuple [.int _ _, .int _ _, .int _ _]) rfl) rfl) <|
          ils_cons rfl (iop_assign rfl rfl (by decide) (sv (d := .int _ _) rfl)) <|
          ils_cons rfl (iop_assign rfl rfl (by decide) (sv (d := .int _ _) rfl)) <|
          ils_cons rfl (iop_assign rfl rfl (by decide) (sv (d := .int _ _) rfl)) <|
          ils_end ?_)
        refine iwp_seq ?_
        obtain ⟨x34, hx34, h⟩ := bnd_e h
        refine iwp_reg (ils_cons rfl (iop_move rfl rfl (by decide) (sv (d := .int _ _) rfl)) <|
          ils_cons rfl (iop_cmpx rfl rfl (by decide) (sv (d := .int _ _) rfl) (sv (d := .int _ 0) rfl) rfl hx34) <|
          ils_end ?_)
        refine iwp_cond (b := _) rfl (fun hc35 => ?_) (fun hc35 => ?_)
        ·
          replace h := bif_t h hc35
          refine iwp_reg (ils_cons rfl (iop_load_ra (cs := [.int _ _, .bool _, .int _ _, .int _ _, .int _ _, .int _ _, .int _ _, .int _ _, .nils, .str _]) rfl rfl (by decide) Try.underlying40 ag40 ti40 (by decide) (sv (d := .ref _ _) rfl) rfl (nle rfl) rfl) <|
            ils_cons rfl (iop_store (ds' := [.int _ _, .bool _, .int _ _, .int _ _, .int _ _, .int _ _, .int _ _, .int _ _, .nils, .str _]) rfl rfl ti40 (sv (d := .ref _ _) rfl) rfl (sv (d := .agg [.int _ _, .bool _, .int _ _, .int _ _, .int _ _, .int _ _, .int _ _, .int _ _, .nils, .str _]) rfl) rfl rfl rfl (nle rfl) rfl) <|
            ils_cons rfl (iop_assign rfl rfl (by decide) (sv (d := .bool false) rfl)) <|
            ils_end ?_)
          refine iwp_ret ?_
          refine thenQ_r ?_
          refine blockQ_r ?_
          refine thenQ_r ?_
          refine thenQ_r ?_
          refine blockQ_r ?_
          refine thenQ_r ?_
          obtain rfl := Option.some.inj h
          refine ⟨.inr rfl, _, (.cons (resv_a rfl rfl Try.underlying40 ag40 ti40 (by decide) (nle rfl) rfl) (.cons (sv rfl) .nil)), (.cons (.agg (.cons (.refl _) (.cons (.refl _) (.cons (.refl _) (.cons (.refl _) (.cons (.refl _) (.cons (.refl _) (.cons (.refl _) (.cons (.refl _) (.cons (.nils _) (.cons (.refl _) .nil))))))))))) (.cons (.refl _) .nil))⟩
        ·
          replace h := bif_f h hc35
          refine iwp_skip ?_
          refine thenQ_n ?_
          obtain ⟨x36, hx36, h⟩ := bno_e h
          obtain ⟨x37, hx37, h⟩ := bno_e h
          refine iwp_drw rfl [⟨[2], [0], [(32, .agg [.int .u8 v13, .bool v14, .int .i64 v15, .int .i64 v16, .int .i64 v17, .int .i64 v18, .int .i64 v19, .int .i64 v20, .nils, .str v21])], []⟩,
            ⟨[6], [], [(33, .str x1)], []⟩,
            ⟨[7], [], [(34, .int .i64 v12)], []⟩,
            ⟨[33, 34], [], [(35, .int .u8 (x36.toNat : Int))], []⟩,
            ⟨[8], [], [(36, .int .i64 x33.1)], []⟩,
            ⟨[32, 35, 36], [], [(37, .agg [.int .u8 x37.1, .bool x37.2.1, .int .i64 x37.2.2.1, .int .i64 x37.2.2.2.1, .int .i64 x37.2.2.2.2.1, .int .i64 x37.2.2.2.2.2.1, .int .i64 x37.2.2.2.2.2.2.1, .int .i64 x37.2.2.2.2.2.2.2.1, .nils, .str x37.2.2.2.2.2.2.2.2])], []⟩,
            ⟨[2, 37], [0], [], [(0, .blk 40 [.int .u8 x37.1, .bool x37.2.1, .int .i64 x37.2.2.1, .int .i64 x37.2.2.2.1, .int .i64 x37.2.2.2.2.1, .int .i64 x37.2.2.2.2.2.1, .int .i64 x37.2.2.2.2.2.2.1, .int .i64 x37.2.2.2.2.2.2.2.1, .nils, .str x37.2.2.2.2.2.2.2.2])]⟩] rfl ?_ (by kernel_rfl) ?_
          · refine .cons (lop rfl rfl fun S hA => (iop_load_ra (cs := [.int _ _, .bool _, .int _ _, .int _ _, .int _ _, .int _ _, .int _ _, .int _ _, .nils, .str _]) rfl rfl (by decide) Try.underlying40 ag40 ti40 (by decide) (sv (d := .ref _ _) (agr hA rfl rfl)) (agi hA rfl rfl) (nle rfl) rfl)) ?_
            refine .cons (lop rfl rfl fun S hA => (iop_move rfl rfl (by decide) (sv (d := .str _) (agr hA rfl rfl)))) ?_
            refine .cons (lop rfl rfl fun S hA => (iop_move rfl rfl (by decide) (sv (d := .int _ _) (agr hA rfl rfl)))) ?_
            refine .cons (lop rfl rfl fun S hA => (iop_str_at rfl rfl (by decide) Try.underlying9 (sv (d := .str _) (agr hA rfl rfl)) (sv (d := .int _ _) (agr hA rfl rfl)) hx36)) ?_
            refine .cons (lop rfl rfl fun S hA => (iop_move rfl rfl (by decide) (sv (d := .int _ _) (agr hA rfl rfl)))) ?_
            refine .cons (lop rfl rfl fun S hA => (iop_call (r := .agg [.int _ _, .bool _, .int _ _, .int _ _, .int _ _, .int _ _, .int _ _, .int _ _, .nils, .str _]) rfl rfl (by decide) cl67 (.cons (sv (d := .agg [.int _ _, .bool _, .int _ _, .int _ _, .int _ _, .int _ _, .int _ _, .int _ _, .nils, .str _]) (agr hA rfl rfl)) (.cons (sv (d := .int _ _) (agr hA rfl rfl)) (.cons (sv (d := .int _ _) (agr hA rfl rfl)) .nil))) rfl (p_sennitref15_set_n _ _ _ _ _ _ _ _ _ _ _ _ hx37))) ?_
            refine .cons (lop rfl rfl fun S hA => (iop_store (ds' := [.int _ _, .bool _, .int _ _, .int _ _, .int _ _, .int _ _, .int _ _, .int _ _, .nils, .str _]) rfl rfl ti40 (sv (d := .ref _ _) (agr hA rfl rfl)) (agi hA rfl rfl) (sv (d := .agg [.int _ _, .bool _, .int _ _, .int _ _, .int _ _, .int _ _, .int _ _, .int _ _, .nils, .str _]) (agr hA rfl rfl)) rfl rfl rfl (nle rfl) rfl)) ?_
            exact .nil
          obtain ⟨x38, hx38, h⟩ := bno_e h
          refine iwp_region (ils_cons rfl (iop_move rfl rfl (by decide) (sv (d := .str _) rfl)) <|
            ils_cons rfl (iop_move rfl rfl (by decide) (sv (d := .int _ _) rfl)) <|
            ils_cons rfl (iop_cutS rfl rfl (by decide) Try.underlying9 (sv (d := .str _) rfl) ⟨_, (sv (d := .int _ _) rfl)⟩ rfl hx38) <|
            ils_cons rfl (iop_assign rfl rfl (by decide) (sv (d := .str _) rfl)) <|
            ils_nil ?_)
          refine blockQ_n ?_
          refine thenQ_n ?_
          obtain ⟨x39, hx39, h⟩ := bnd_e h
          refine iwp_region (ils_cons rfl (iop_move rfl rfl (by decide) (sv (d := .int _ _) rfl)) <|
            ils_cons rfl (iop_intx rfl rfl (by decide) (sv (d := .int _ _) rfl) (sv (d := .int _ 1) rfl) rfl hx39) <|
            ils_cons rfl (iop_assign rfl rfl (by decide) (sv (d := .int _ _) rfl)) <|
            ils_nil ?_)
          refine thenQ_n ⟨(n0, x38, x39, x37.1, x37.2.1, x37.2.2.1, x37.2.2.2.1, x37.2.2.2.2.1, x37.2.2.2.2.2.1, x37.2.2.2.2.2.2.1, x37.2.2.2.2.2.2.2.1, x37.2.2.2.2.2.2.2.2), (fun i => i), ⟨(.cons (.same rfl rfl) (.cons (.same rfl rfl) (.cons (.same rfl rfl) (.cons (.same rfl rfl) (.cons (.same rfl rfl) .nil))))), (.cons (.blk rfl rfl rfl) (.cons (.blk rfl rfl rfl) .nil)), nd_of [0, 1] rfl (by decide), (fun i hi => by first | rfl | (show (if _ then _ else _) = _; (repeat' split) <;> omega))⟩, ?_, ?_⟩
          exact h
          exact Nat.lt_succ_self _
      ·
        replace h := bif_f h hc32
        refine iwp_exit ?_
        refine thenQ_e ?_
        refine thenQ_e ?_
        refine blockQ_e ?_
        refine thenQ_n ?_
        refine iwp_seq ?_
        obtain ⟨x40, hx40, h⟩ := bnd_e h
        refine iwp_reg (ils_cons rfl (iop_fieldAddr_ref rfl rfl (by decide) Try.underlying40 rfl ti5 (by decide) (sv (d := .ref _ _) rfl) (off' := 0) rfl) <|
          ils_cons rfl (iop_load_rs (d := .int _ _) rfl rfl (by decide) Try.underlying5 ag5 ti5 (by decide) (sv (d := .ref _ _) rfl) rfl (nle rfl) rfl) <|
          ils_cons rfl (iop_cmpx rfl rfl (by decide) (sv (d := .int _ _) rfl) (sv (d := .int _ 0) rfl) rfl hx40) <|
          ils_end ?_)
        refine iwp_cond (b := _) rfl (fun hc41 => ?_) (fun hc41 => ?_)
        ·
          replace h := bif_t h hc41
          refine iwp_reg (ils_cons rfl (iop_move rfl rfl (by decide) (sv (d := .str _) rfl)) <|
            ils_cons rfl (iop_fieldAddr_ref rfl rfl (by decide) Try.underlying40 rfl ti9 (by decide) (sv (d := .ref _ _) rfl) (off' := 9) rfl) <|
            ils_cons rfl (iop_store (ds' := [.int _ _, .bool _, .int _ _, .int _ _, .int _ _, .int _ _, .int _ _, .int _ _, .nils, .str _]) rfl rfl ti9 (sv (d := .ref _ _) rfl) rfl (sv (d := .str _) rfl) rfl rfl rfl (nle rfl) rfl) <|
            ils_end ?_)
          refine iwp_reg (ils_cons rfl (iop_load_ra (cs := [.int _ _, .bool _, .int _ _, .int _ _, .int _ _, .int _ _, .int _ _, .int _ _, .nils, .str _]) rfl rfl (by decide) Try.underlying40 ag40 ti40 (by decide) (sv (d := .ref _ _) rfl) rfl (nle rfl) rfl) <|
            ils_cons rfl (iop_store (ds' := [.int _ _, .bool _, .int _ _, .int _ _, .int _ _, .int _ _, .int _ _, .int _ _, .nils, .str _]) rfl rfl ti40 (sv (d := .ref _ _) rfl) rfl (sv (d := .agg [.int _ _, .bool _, .int _ _, .int _ _, .int _ _, .int _ _, .int _ _, .int _ _, .nils, .str _]) rfl) rfl rfl rfl (nle rfl) rfl) <|
            ils_cons rfl (iop_assign rfl rfl (by decide) (sv (d := .bool true) rfl)) <|
            ils_end ?_)
          refine iwp_ret ?_
          refine thenQ_r ?_
          obtain rfl := Option.some.inj h
          refine ⟨.inr rfl, _, (.cons (resv_a rfl rfl Try.underlying40 ag40 ti40 (by decide) (nle rfl) rfl) (.cons (sv rfl) .nil)), (.cons (.agg (.cons (.refl _) (.cons (.refl _) (.cons (.refl _) (.cons (.refl _) (.cons (.refl _) (.cons (.refl _) (.cons (.refl _) (.cons (.refl _) (.cons (.nils _) (.cons (.refl _) .nil))))))))))) (.cons (.refl _) .nil))⟩
        ·
          replace h := bif_f h hc41
          refine iwp_skip ?_
          refine thenQ_n ?_
          refine iwp_seq ?_
          obtain ⟨x42, hx42, h⟩ := bnd_e h
          refine iwp_reg (ils_cons rfl (iop_fieldAddr_ref rfl rfl (by decide) Try.underlying40 rfl ti5 (by decide) (sv (d := .ref _ _) rfl) (off' := 0) rfl) <|
            ils_cons rfl (iop_load_rs (d := .int _ _) rfl rfl (by decide) Try.underlying5 ag5 ti5 (by decide) (sv (d := .ref _ _) rfl) rfl (nle rfl) rfl) <|
            ils_cons rfl (iop_cmpx rfl rfl (by decide) (sv (d := .int _ _) rfl) (sv (d := .int _ 4) rfl) rfl hx42) <|
            ils_end ?_)
          refine iwp_cond (b := _) rfl (fun hc43 => ?_) (fun hc43 => ?_)
          ·
            replace h := bif_t h hc43
            obtain ⟨x44, hx44, h⟩ := bno_e h
            refine iwp_reg (ils_cons rfl (iop_move rfl rfl (by decide) (sv (d := .str _) rfl)) <|
              ils_cons rfl (iop_call (r := .tuple [.slice _ _, .int _ _]) rfl rfl (by decide) cl68 (.cons (sv (d := .str _) rfl) .nil) rfl (p_sennitref02_All _ _ hx44)) <|
              ils_cons rfl (iop_move rfl rfl (by decide) (sv (d := .tuple [.slice _ _, .int _ _]) rfl)) <|
              ils_cons rfl (iop_extract (d := .slice _ _) rfl rfl (by decide) (sv (d := .tuple [.slice _ _, .int _ _]) rfl) rfl) <|
              ils_cons rfl (iop_extract (d := .int _ _) rfl rfl (by decide) (sv (d := .tuple [.slice _ _, .int _ _]) rfl) rfl) <|
              ils_cons rfl (iop_assign rfl rfl (by decide) (sv (d := .slice _ _) rfl)) <|
              ils_cons rfl (iop_assign rfl rfl (by decide) (sv (d := .int _ _) rfl)) <|
              ils_end ?_)
            refine iwp_seq ?_
            obtain ⟨x45, hx45, h⟩ := bnd_e h
            obtain ⟨x46, hx46, h⟩ := bno_e h
            obtain ⟨x47, hx47, h⟩ := bnd_e h
            obtain ⟨x48, hx48, h⟩ := bnd_e h
            refine iwp_reg (ils_cons rfl (iop_move rfl rfl (by decide) (sv (d := .int _ _) rfl)) <|
              ils_cons rfl (iop_cmpx rfl rfl (by decide) (sv (d := .int _ _) rfl) (sv (d := .int _ 0) rfl) rfl hx45) <|
              ils_cons rfl (iop_move rfl rfl (by decide) (sv (d := .bool _) rfl)) <|
              ils_guard rfl rfl (.one rfl) rfl (by decide) (fun hb => (iop_move rfl rfl (by decide) (sv (d := .slice _ _) rfl))) <|
              ils_guard rfl rfl (.one rfl) rfl (by decide) (fun hb => (iop_lenT (eInt .i64) (l := x44.1) rfl rfl (by decide) Try.underlying88 (svc (d := .slice _ _) rfl hb))) <|
              ils_guard rfl rfl (.one rfl) rfl (by decide) (fun hb => (iop_remx rfl rfl (by decide) (svc (d := .int _ _) rfl hb) (sv (d := .int _ 2) rfl) (gd_t hx46 hb))) <|
              ils_guard rfl rfl (.one rfl) rfl (by decide) (fun hb => (iop_cmpx rfl rfl (by decide) (svc (d := .int _ _) rfl hb) (sv (d := .int _ 0) rfl) rfl hx47)) <|
              ils_cons rfl (iop_orx rfl rfl (by decide) (sv (d := .bool _) rfl) rfl rfl hx48) <|
              ils_end ?_)
            refine iwp_cond (b := _) rfl (fun hc49 => ?_) (fun hc49 => ?_)
            ·
              replace h := bif_t h hc49
              refine iwp_reg (ils_cons rfl (iop_load_ra (cs := [.int _ _, .bool _, .int _ _, .int _ _, .int _ _, .int _ _, .int _ _, .int _ _, .nils, .str _]) rfl rfl (by decide) Try.underlying40 ag40 ti40 (by decide) (sv (d := .ref _ _) rfl) rfl (nle rfl) rfl) <|
                ils_cons rfl (iop_store (ds' := [.int _ _, .bool _, .int _ _, .int _ _, .int _ _, .int _ _, .int _ _, .int _ _, .nils, .str _]) rfl rfl ti40 (sv (d := .ref _ _) rfl) rfl (sv (d := .agg [.int _ _, .bool _, .int _ _, .int _ _, .int _ _, .int _ _, .int _ _, .int _ _, .nils, .str _]) rfl) rfl rfl rfl (nle rfl) rfl) <|
                ils_cons rfl (iop_assign rfl rfl (by decide) (sv (d := .bool false) rfl)) <|
                ils_end ?_)
              refine iwp_ret ?_
              refine thenQ_r ?_
              refine thenQ_r ?_
              obtain rfl := Option.some.inj h
              refine ⟨.inr rfl, _, (.cons (resv_a rfl rfl Try.underlying40 ag40 ti40 (by decide) (nle rfl) rfl) (.cons (sv rfl) .nil)), (.cons (.agg (.cons (.refl _) (.cons (.refl _) (.cons (.refl _) (.cons (.refl _) (.cons (.refl _) (.cons (.refl _) (.cons (.refl _) (.cons (.refl _) (.cons (.nils _) (.cons (.refl _) .nil))))))))))) (.cons (.refl _) .nil))⟩
            ·
              replace h := bif_f h hc49
              refine iwp_skip ?_
              refine thenQ_n ?_
              refine iwp_seq ?_
              refine iwp_reg (ils_cons rfl (iop_assign rfl rfl (by decide) (sv (d := .int _ 0) rfl)) <|
                ils_end ?_)
              refine iwp_block ?_
              refine iwp_loopP (α := Nat × Int × (List T_api_Pair)) (fun z => ⟨[(2, .ref 0 0), (4, .ref 1 0), (11, .slice false (x44.1.map (eInt .i64).d)), (13, .int .i64 z.2.1)], [(0, .blk 40 [.int .u8 v13, .bool v14, .int .i64 v15, .int .i64 v16, .int .i64 v17, .int .i64 v18, .int .i64 v19, .int .i64 v20, .gsl 23 E_api_Pair.sz (z.2.2.map E_api_Pair.d), .str v21]), (1, .blk 40 [.int .u8 0, .bool false, .int .i64 0, .int .i64 0, .int .i64 0, .int .i64 0, .int .i64 0, .int .i64 0, .nils, .str []]), (23, .tail 77 E_api_Pair.sz z.2.2.length)]⟩) (fun z => sennitref15_read_n_L1 v13 v14 v15 v16 v17 v18 v19 v20 v21 x44 z.1 z.2.1 z.2.2 = some r) (fun z => z.1) (fuel, 0, ([] : (List T_api_Pair))) (fun i => if i = 23 then 75 else i) ⟨(.cons (.same rfl rfl) (.cons (.same rfl rfl) (.cons (.same rfl rfl) (.cons (.same rfl rfl) .nil)))), (.cons (.sub rfl (.same (.same (.same (.same (.same (.same (.same (.same (.nilg (.same .nil)))))))))) rfl) (.cons (.blk rfl rfl rfl) (.cons (.nils rfl) .nil))), nd_of [0, 1, 75] rfl (by decide), (fun i hi => by first | rfl | (show (if _ then _ else _) = _; (repeat' split) <;> omega))⟩ ?_ ?_
              · exact h
              ·
                rintro ⟨n1, v58, v59⟩ h
                cases n1 with
                | zero => exact absurd h (by unfold sennitref15_read_n_L1; exact nofun)
                | succ n1 =>
                  unfold sennitref15_read_n_L1 at h
                  refine iwp_seq ?_
                  obtain ⟨x68, hx68, h⟩ := bnd_e h
                  obtain ⟨x69, hx69, h⟩ := bnd_e h
                  refine iwp_reg (ils_cons rfl (iop_move rfl rfl (by decide) (sv (d := .int _ _) rfl)) <|
                    ils_cons rfl (iop_intx rfl rfl (by decide) (sv (d := .int _ _) rfl) (sv (d := .int _ 1) rfl) rfl hx68) <|
                    ils_cons rfl (iop_move rfl rfl (by decide) (sv (d := .slice _ _) rfl)) <|
                    ils_cons rfl (iop_lenT (eInt .i64) (l := x44.1) rfl rfl (by decide) Try.underlying88 (sv (d := .slice _ _) rfl)) <|
                    ils_cons rfl (iop_cmpx rfl rfl (by decide) (sv (d := .int _ _) rfl) (sv (d := .int _ _) rfl) rfl hx69) <|
                    ils_end ?_)
                  refine iwp_cond (b := _) rfl (fun hc70 => ?_) (fun hc70 => ?_)
                  ·
                    replace h := bif_t h hc70
                    refine iwp_skip ?_
                    refine thenQ_n ?_
                    refine iwp_seq ?_
                    refine iwp_block ?_
                    obtain ⟨x71, hx71, h⟩ := bno_e h
                    obtain ⟨x72, hx72, h⟩ := bnd_e h
                    obtain ⟨x73, hx73, h⟩ := bno_e h
                    obtain ⟨x74, hx74, h⟩ := bno_e h
                    refine iwp_draw rfl [⟨[2], [], [(71, .ref 0 8)], []⟩,
                      ⟨[71], [0], [(72, .gsl 23 E_api_Pair.sz (v59.map E_api_Pair.d))], []⟩,
                      ⟨[11], [], [(73, .slice false (x44.1.map (eInt .i64).d))], []⟩,
                      ⟨[13], [], [(74, .int .i64 v58)], []⟩,
                      ⟨[73, 74], [], [(75, .fptr [.int .i64 x71])], []⟩,
                      ⟨[75], [], [(76, .int .i64 x71)], []⟩,
                      ⟨[11], [], [(77, .slice false (x44.1.map (eInt .i64).d))], []⟩,
                      ⟨[13], [], [(78, .int .i64 v58)], []⟩,
                      ⟨[78], [], [(79, .int .i64 x72)], []⟩,
                      ⟨[77, 79], [], [(80, .fptr [.int .i64 x73])], []⟩,
                      ⟨[80], [], [(81, .int .i64 x73)], []⟩,
                      ⟨[76, 81], [], [(82, .agg [.int .i64 x71, .int .i64 x73])], []⟩,
                      ⟨[82], [24], [(83, .gsl 24 E_api_Pair.sz ((([(⟨x71, x73⟩ : T_api_Pair)] : (List T_api_Pair))).map E_api_Pair.d))], [(24, .tail 77 E_api_Pair.sz (([(⟨x71, x73⟩ : T_api_Pair)] : (List T_api_Pair))).length)]⟩,
                      ⟨[72, 83], [23, 25], [(84, .gsl 25 E_api_Pair.sz (x74.map E_api_Pair.d))], [(25, .tail 77 E_api_Pair.sz x74.length), (23, .none)]⟩,
                      ⟨[2], [], [(85, .ref 0 8)], []⟩,
                      ⟨[84, 85], [0], [], [(0, .blk 40 [.int .u8 v13, .bool v14, .int .i64 v15, .int .i64 v16, .int .i64 v17, .int .i64 v18, .int .i64 v19, .int .i64 v20, .gsl 25 E_api_Pair.sz (x74.map E_api_Pair.d), .str v21])]⟩] rfl ?_ (by kernel_rfl) ?_
                    · refine .cons (lop rfl rfl fun S hA => (iop_fieldAddr_ref rfl rfl (by decide) Try.underlying40 rfl ti38 (by decide) (sv (d := .ref _ _) (agr hA rfl rfl)) (off' := 8) rfl)) ?_
                      refine .cons (lop rfl rfl fun S hA => (iop_load_rs (d := .gsl _ _ _) rfl rfl (by decide) Try.underlying38 ag38 ti38 (by decide) (sv (d := .ref _ _) (agr hA rfl rfl)) (agi hA rfl rfl) (nle rfl) rfl)) ?_
                      refine .cons (lop rfl rfl fun S hA => (iop_move rfl rfl (by decide) (sv (d := .slice _ _) (agr hA rfl rfl)))) ?_
                      refine .cons (lop rfl rfl fun S hA => (iop_move rfl rfl (by decide) (sv (d := .int _ _) (agr hA rfl rfl)))) ?_
                      refine .cons (lop rfl rfl fun S hA => (iop_idxT (eInt .i64) (cs := [.int _ _]) rfl rfl (by decide) Try.underlying88 ti3 (sv (d := .slice _ _) (agr hA rfl rfl)) (sv (d := .int _ _) (agr hA rfl rfl)) hx71 rfl rfl)) ?_
                      refine .cons (lop rfl rfl fun S hA => (iop_load_fs rfl rfl (by decide) Try.underlying3 ag3 ti3 (by decide) (sv (d := .fptr [.int _ _]) (agr hA rfl rfl)) (nle rfl))) ?_
                      refine .cons (lop rfl rfl fun S hA => (iop_move rfl rfl (by decide) (sv (d := .slice _ _) (agr hA rfl rfl)))) ?_
                      refine .cons (lop rfl rfl fun S hA => (iop_move rfl rfl (by decide) (sv (d := .int _ _) (agr hA rfl rfl)))) ?_
                      refine .cons (lop rfl rfl fun S hA => (iop_intx rfl rfl (by decide) (sv (d := .int _ _) (agr hA rfl rfl)) (sv (d := .int _ 1) rfl) rfl hx72)) ?_
                      refine .cons (lop rfl rfl fun S hA => (iop_idxT (eInt .i64) (cs := [.int _ _]) rfl rfl (by decide) Try.underlying88 ti3 (sv (d := .slice _ _) (agr hA rfl rfl)) (sv (d := .int _ _) (agr hA rfl rfl)) hx73 rfl rfl)) ?_
                      refine .cons (lop rfl rfl fun S hA => (iop_load_fs rfl rfl (by decide) Try.underlying3 ag3 ti3 (by decide) (sv (d := .fptr [.int _ _]) (agr hA rfl rfl)) (nle rfl))) ?_
                      refine .cons (lop rfl rfl fun S hA => (iop_build_struct (cs := [.int _ _, .int _ _]) rfl rfl (by decide) Try.underlying77 ti77 pl77 rfl (.cons (sv (d := .int _ _) (agr hA rfl rfl)) (.cons (sv (d := .int _ _) (agr hA rfl rfl)) .nil)) rfl)) ?_
                      refine .cons (lop rfl rfl fun S hA => (iop_bsT E_api_Pair ([(⟨x71, x73⟩ : T_api_Pair)] : (List T_api_Pair)) 24 rfl rfl (by decide) Try.underlying38 ti77 (agi hA rfl rfl) (.cons (sv (d := .agg [.int _ _, .int _ _]) (agr hA rfl rfl)) .nil) rfl rfl (by decide))) ?_
                      refine .cons (lop rfl rfl fun S hA => (iop_appT E_api_Pair 25 rfl rfl (by decide) Try.underlying38 ti77 rfl (agr hA rfl rfl) (agi hA rfl rfl) (agi hA rfl rfl) (svg (agr hA rfl rfl)) hx74)) ?_
                      refine .cons (lop rfl rfl fun S hA => (iop_fieldAddr_ref rfl rfl (by decide) Try.underlying40 rfl ti38 (by decide) (sv (d := .ref _ _) (agr hA rfl rfl)) (off' := 8) rfl)) ?_
                      refine .cons (lop rfl rfl fun S hA => (iop_store (ds' := [.int _ _, .bool _, .int _ _, .int _ _, .int _ _, .int _ _, .int _ _, .int _ _, .gsl _ _ _, .str _]) rfl rfl ti38 (sv (d := .ref _ _) (agr hA rfl rfl)) (agi hA rfl rfl) (sv (d := .gsl _ _ _) (agr hA rfl rfl)) rfl rfl rfl (nle rfl) rfl)) ?_
                      exact .nil
                    refine blockQ_n ?_
                    refine thenQ_n ?_
                    obtain ⟨x75, hx75, h⟩ := bnd_e h
                    refine iwp_region (ils_cons rfl (iop_move rfl rfl (by decide) (sv (d := .int _ _) rfl)) <|
                      ils_cons rfl (iop_intx rfl rfl (by decide) (sv (d := .int _ _) rfl) (sv (d := .int _ 2) rfl) rfl hx75) <|
                      ils_cons rfl (iop_assign rfl rfl (by decide) (sv (d := .int _ _) rfl)) <|
                      ils_nil ?_)
                    refine thenQ_n ⟨(n1, x75, x74), (fun i => if i = 23 then 25 else i), ⟨(.cons (.same rfl rfl) (.cons (.same rfl rfl) (.cons (.same rfl rfl) (.cons (.same rfl rfl) .nil)))), (.cons (.blk rfl rfl rfl) (.cons (.blk rfl rfl rfl) (.cons (.tail rfl) .nil))), nd_of [0, 1, 25] rfl (by decide), (fun i hi => by first | rfl | (show (if _ then _ else _) = _; (repeat' split) <;> omega))⟩, ?_, ?_⟩
                    exact h
                    exact Nat.lt_succ_self _
                  ·
                    replace h := bif_f h hc70
                    refine iwp_exit ?_
                    refine thenQ_e ?_
                    refine thenQ_e ?_
                    refine blockQ_e ?_
                    refine thenQ_n ?_
                    refine iwp_reg (ils_cons rfl (iop_load_ra (cs := [.int _ _, .bool _, .int _ _, .int _ _, .int _ _, .int _ _, .int _ _, .int _ _, .gsl _ _ _, .str _]) rfl rfl (by decide) Try.underlying40 ag40 ti40 (by decide) (sv (d := .ref _ _) rfl) rfl (nle rfl) rfl) <|
                      ils_cons rfl (iop_store (ds' := [.int _ _, .bool _, .int _ _, .int _ _, .int _ _, .int _ _, .int _ _, .int _ _, .gsl _ _ _, .str _]) rfl rfl ti40 (sv (d := .ref _ _) rfl) rfl (sv (d := .agg [.int _ _, .bool _, .int _ _, .int _ _, .int _ _, .int _ _, .int _ _, .int _ _, .gsl _ _ _, .str _]) rfl) rfl rfl rfl (nle rfl) rfl) <|
                      ils_cons rfl (iop_assign rfl rfl (by decide) (sv (d := .bool true) rfl)) <|
                      ils_end ?_)
                    refine iwp_ret ?_
                    refine thenQ_r ?_
                    obtain rfl := Option.some.inj h
                    refine ⟨.inr rfl, _, (.cons (resv_a rfl rfl Try.underlying40 ag40 ti40 (by decide) (nle rfl) rfl) (.cons (sv rfl) .nil)), (.cons (.agg (.cons (.refl _) (.cons (.refl _) (.cons (.refl _) (.cons (.refl _) (.cons (.refl _) (.cons (.refl _) (.cons (.refl _) (.cons (.refl _) (.cons (.gsl _ _ _) (.cons (.refl _) .nil))))))))))) (.cons (.refl _) .nil))⟩
          ·
            replace h := bif_f h hc43
            refine iwp_skip ?_
            refine thenQ_n ?_
            obtain ⟨x76, hx76, h⟩ := bnd_e h
            refine iwp_reg (ils_cons rfl (iop_load_ra (cs := [.int _ _, .bool _, .int _ _, .int _ _, .int _ _, .int _ _, .int _ _, .int _ _, .nils, .str _]) rfl rfl (by decide) Try.underlying40 ag40 ti40 (by decide) (sv (d := .ref _ _) rfl) rfl (nle rfl) rfl) <|
              ils_cons rfl (iop_move rfl rfl (by decide) (sv (d := .str _) rfl)) <|
              ils_cons rfl (iop_strx rfl rfl (by decide) (sv (d := .str _) rfl) (sv (d := .str []) rfl) rfl hx76) <|
              ils_cons rfl (iop_store (ds' := [.int _ _, .bool _, .int _ _, .int _ _, .int _ _, .int _ _, .int _ _, .int _ _, .nils, .str _]) rfl rfl ti40 (sv (d := .ref _ _) rfl) rfl (sv (d := .agg [.int _ _, .bool _, .int _ _, .int _ _, .int _ _, .int _ _, .int _ _, .int _ _, .nils, .str _]) rfl) rfl rfl rfl (nle rfl) rfl) <|
              ils_cons rfl (iop_assign rfl rfl (by decide) (sv (d := .bool _) rfl)) <|
              ils_end ?_)
            refine iwp_ret ?_
            obtain rfl := Option.some.inj h
            refine ⟨.inr rfl, _, (.cons (resv_a rfl rfl Try.underlying40 ag40 ti40 (by decide) (nle rfl) rfl) (.cons (sv rfl) .nil)), (.cons (.agg (.cons (.refl _) (.cons (.refl _) (.cons (.refl _) (.cons (.refl _) (.cons (.refl _) (.cons (.refl _) (.cons (.refl _) (.cons (.refl _) (.cons (.nils _) (.cons (.refl _) .nil))))))))))) (.cons (.refl _) .nil))⟩
end Go.Proofs.Ytleninhggapmeaa
