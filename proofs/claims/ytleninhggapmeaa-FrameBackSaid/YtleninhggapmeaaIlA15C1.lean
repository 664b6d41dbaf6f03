/-
  A part of the proof: rules and plain facts. No condition.
-/
import Derived.Test.YtleninhggapmeaaProg
import Derived.KernelRfl
import Derived.Test.YtleninhggapmeaaIlZ
import Derived.Test.YtleninhggapmeaaIlA15D
set_option linter.all false
set_option linter.unusedSimpArgs false
set_option linter.unusedVariables false
open Go Go.IL Go.Fn Go.Proofs
namespace Go.Proofs.Ytleninhggapmeaa
theorem ti3 : TI Try.prog 3 (some (.int .i64 0)) 1 8 := by unfold TI; kernel_rfl
theorem ti4 : TI Try.prog 4 (some (.bool false)) 1 1 := by unfold TI; kernel_rfl
theorem ti5 : TI Try.prog 5 (some (.int .u8 0)) 1 1 := by unfold TI; kernel_rfl
theorem ti9 : TI Try.prog 9 (some (.string ⟨#[]⟩)) 1 16 := by unfold TI; kernel_rfl
theorem ti38 : TI Try.prog 38 (some (.slice none 0 0)) 1 24 := by unfold TI; kernel_rfl
theorem ti42 : TI Try.prog 42 (some (.agg #[.int .u8 0, .bool false, .int .i64 0, .int .i64 0, .int .i64 0, .int .i64 0, .int .i64 0, .int .i64 0, .slice none 0 0, .string ⟨#[]⟩])) 10 96 := by unfold TI; kernel_rfl
theorem ti77 : TI Try.prog 77 (some (.agg #[.int .i64 0, .int .i64 0])) 2 16 := by unfold TI; kernel_rfl
theorem ti91 : TI Try.prog 91 (some (.pointer none)) 1 8 := by unfold TI; kernel_rfl
theorem ag3 : aggOf Try.prog 3 = false := by kernel_rfl
theorem ag4 : aggOf Try.prog 4 = false := by kernel_rfl
theorem ag5 : aggOf Try.prog 5 = false := by kernel_rfl
theorem ag9 : aggOf Try.prog 9 = false := by kernel_rfl
theorem ag38 : aggOf Try.prog 38 = false := by kernel_rfl
theorem ag42 : aggOf Try.prog 42 = true := by kernel_rfl
theorem ag77 : aggOf Try.prog 77 = true := by kernel_rfl
theorem ag91 : aggOf Try.prog 91 = false := by kernel_rfl
theorem pl42 : ∀ w, (Array.mapM (m := Sem) (fun (f : Field) => Functor.map (Prod.mk f.offset) (sizeOf f.type)) (fieldsOf Try.prog 42)).run Try.prog w = .ok #[(0, 1), (1, 1), (2, 1), (3, 1), (4, 1), (5, 1), (6, 1), (7, 1), (8, 1), (9, 1)] w := fun w => by kernel_rfl
theorem pl77 : ∀ w, (Array.mapM (m := Sem) (fun (f : Field) => Functor.map (Prod.mk f.offset) (sizeOf f.type)) (fieldsOf Try.prog 77)).run Try.prog w = .ok #[(0, 1), (1, 1)] w := fun w => by kernel_rfl
theorem st77 : Try.prog.stoodInHeld 77 = false ∧ Try.prog.eqGuardType Try.prog.depth 77 = false := ⟨by kernel_rfl, by kernel_rfl⟩
theorem cl22 : Callable Try.prog 22 := ⟨Try.f22, Try.func22, rfl, rfl⟩
theorem cl26 : Callable Try.prog 26 := ⟨Try.f26, Try.func26, rfl, rfl⟩
theorem cl31 : Callable Try.prog 31 := ⟨Try.f31, Try.func31, rfl, rfl⟩
theorem cl32 : Callable Try.prog 32 := ⟨Try.f32, Try.func32, rfl, rfl⟩
theorem cl33 : Callable Try.prog 33 := ⟨Try.f33, Try.func33, rfl, rfl⟩
theorem cl34 : Callable Try.prog 34 := ⟨Try.f34, Try.func34, rfl, rfl⟩
theorem cl37 : Callable Try.prog 37 := ⟨Try.f37, Try.func37, rfl, rfl⟩
theorem cl38 : Callable Try.prog 38 := ⟨Try.f38, Try.func38, rfl, rfl⟩
theorem cl39 : Callable Try.prog 39 := ⟨Try.f39, Try.func39, rfl, rfl⟩
theorem cl43 : Callable Try.prog 43 := ⟨Try.f43, Try.func43, rfl, rfl⟩
theorem cl49 : Callable Try.prog 49 := ⟨Try.f49, Try.func49, rfl, rfl⟩
theorem cl50 : Callable Try.prog 50 := ⟨Try.f50, Try.func50, rfl, rfl⟩
theorem cl51 : Callable Try.prog 51 := ⟨Try.f51, Try.func51, rfl, rfl⟩
theorem cl52 : Callable Try.prog 52 := ⟨Try.f52, Try.func52, rfl, rfl⟩
theorem cl53 : Callable Try.prog 53 := ⟨Try.f53, Try.func53, rfl, rfl⟩
theorem cl58 : Callable Try.prog 58 := ⟨Try.f58, Try.func58, rfl, rfl⟩
theorem cl59 : Callable Try.prog 59 := ⟨Try.f59, Try.func59, rfl, rfl⟩
theorem cl60 : Callable Try.prog 60 := ⟨Try.f60, Try.func60, rfl, rfl⟩
theorem cl61 : Callable Try.prog 61 := ⟨Try.f61, Try.func61, rfl, rfl⟩
theorem cl65 : Callable Try.prog 65 := ⟨Try.f65, Try.func65, rfl, rfl⟩
theorem cl69 : Callable Try.prog 69 := ⟨Try.f69, Try.func69, rfl, rfl⟩
theorem cl70 : Callable Try.prog 70 := ⟨Try.f70, Try.func70, rfl, rfl⟩
theorem cl71 : Callable Try.prog 71 := ⟨Try.f71, Try.func71, rfl, rfl⟩
theorem cl72 : Callable Try.prog 72 := ⟨Try.f72, Try.func72, rfl, rfl⟩
theorem cl74 : Callable Try.prog 74 := ⟨Try.f74, Try.func74, rfl, rfl⟩

set_option maxRecDepth 8000 in
set_option maxHeartbeats 2000000 in
theorem p_sennitref15_Light (a0 : T_frame_Frame) (r : Bool) (h : sennitref15_Light a0 = some r) : PureAt Try.prog 18 [.agg [.int .u8 a0.Kind, .bool a0.Flag, .int .i64 a0.Stream, .int .i64 a0.Offset, .int .i64 a0.Dep, .int .i64 a0.Weight, .int .i64 a0.N, .int .i64 a0.Code, .slice false (a0.Pairs.map E_api_Pair.d), .str a0.Data]] (.bool r) := by
  refine pure_of_iwp (rs := [.bool r]) Try.func18 rfl Try.ntmps18 (nle rfl) rfl fun O hO => ?_
  show IWP _ _ _ _ ⟨[(0, .agg [.int .u8 a0.Kind, .bool a0.Flag, .int .i64 a0.Stream, .int .i64 a0.Offset, .int .i64 a0.Dep, .int .i64 a0.Weight, .int .i64 a0.N, .int .i64 a0.Code, .slice false (a0.Pairs.map E_api_Pair.d), .str a0.Data])], []⟩ _
  unfold sennitref15_Light at h
  refine iwp_reg (ils_cons rfl (iop_box' (cs := [.int _ _, .bool _, .int _ _, .int _ _, .int _ _, .int _ _, .int _ _, .int _ _, .slice _ _, .str _]) 0 rfl rfl (by decide) rfl (sv (d := .agg [.int _ _, .bool _, .int _ _, .int _ _, .int _ _, .int _ _, .int _ _, .int _ _, .slice _ _, .str _]) rfl) rfl rfl) <|
    ils_cons rfl (iop_assign rfl rfl (by decide) (sv (d := .bool false) rfl)) <|
    ils_end ?_)
  obtain ⟨x1, hx1, h⟩ := bnd_e h
  obtain ⟨x2, hx2, h⟩ := bnd_e h
  obtain ⟨x3, hx3, h⟩ := bnd_e h
  refine iwp_reg (ils_cons rfl (iop_fieldAddr_ref rfl rfl (by decide) Try.underlying40 rfl ti38 (by decide) (sv (d := .ref _ _) rfl) (off' := 8) rfl) <|
    ils_cons rfl (iop_load_rs (d := .slice _ _) rfl rfl (by decide) Try.underlying38 ag38 ti38 (by decide) (sv (d := .ref _ _) rfl) rfl (nle rfl) rfl) <|
    ils_cons rfl (iop_lenT E_api_Pair (l := a0.Pairs) rfl rfl (by decide) Try.underlying38 (sv (d := .slice _ _) rfl)) <|
    ils_cons rfl (iop_cmpx rfl rfl (by decide) (sv (d := .int _ _) rfl) (sv (d := .int _ 10) rfl) rfl hx1) <|
    ils_cons rfl (iop_move rfl rfl (by decide) (sv (d := .bool _) rfl)) <|
    ils_guard rfl rfl (.one rfl) rfl (by decide) (fun hb => (iop_fieldAddr_ref rfl rfl (by decide) Try.underlying40 rfl ti9 (by decide) (sv (d := .ref _ _) rfl) (off' := 9) rfl)) <|
    ils_guard rfl rfl (.one rfl) rfl (by decide) (fun hb => (iop_load_rs (d := .str _) rfl rfl (by decide) Try.underlying9 ag9 ti9 (by decide) (svc (d := .ref _ _) rfl hb) rfl (nle rfl) rfl)) <|
    ils_guard rfl rfl (.one rfl) rfl (by decide) (fun hb => (iop_len_str rfl rfl (by decide) Try.underlying9 (svc (d := .str _) rfl hb) rfl)) <|
    ils_guard rfl rfl (.one rfl) rfl (by decide) (fun hb => (iop_cmpx rfl rfl (by decide) (svc (d := .int _ _) rfl hb) (sv (d := .int _ 100) rfl) rfl hx2)) <|
    ils_cons rfl (iop_andx rfl rfl (by decide) (sv (d := .bool _) rfl) rfl rfl hx3) <|
    ils_cons rfl (iop_assign rfl rfl (by decide) (sv (d := .bool _) rfl)) <|
    ils_end ?_)
  refine iwp_ret ?_
  obtain rfl := Option.some.inj h
  refine ⟨.inr rfl, (.cons (sv rfl) .nil)⟩

set_option maxRecDepth 8000 in
set_option maxHeartbeats 2000000 in
theorem p_frame_known (a0 : Int) (r : Bool) (h : frame_known a0 = some r) : PureAt Try.prog 37 [.int .u8 a0] (.bool r) := by
  refine pure_of_iwp (rs := [.bool r]) Try.func37 rfl Try.ntmps37 (nle rfl) rfl fun O hO => ?_
  show IWP _ _ _ _ ⟨[(0, .int .u8 a0)], []⟩ _
  unfold frame_known at h
  refine iwp_reg (ils_cons rfl (iop_assign rfl rfl (by decide) (sv (d := .bool false) rfl)) <|
    ils_end ?_)
  obtain ⟨x1, hx1, h⟩ := bnd_e h
  obtain ⟨x2, hx2, h⟩ := bnd_e h
  obtain ⟨x3, hx3, h⟩ := bnd_e h
  refine iwp_reg (ils_cons rfl (iop_move rfl rfl (by decide) (sv (d := .int _ _) rfl)) <|
    ils_cons rfl (iop_cmpx rfl rfl (by decide) (sv (d := .int _ _) rfl) (sv (d := .int _ 10) rfl) rfl hx1) <|
    ils_cons rfl (iop_move rfl rfl (by decide) (sv (d := .bool _) rfl)) <|
    ils_guard rfl rfl (.one rfl) rfl (by decide) (fun hb => (iop_move rfl rfl (by decide) (sv (d := .int _ _) rfl))) <|
    ils_guard rfl rfl (.one rfl) rfl (by decide) (fun hb => (iop_cmpx rfl rfl (by decide) (svc (d := .int _ _) rfl hb) (sv (d := .int _ 5) rfl) rfl hx2)) <|
    ils_cons rfl (iop_andx rfl rfl (by decide) (sv (d := .bool _) rfl) rfl rfl hx3) <|
    ils_cons rfl (iop_assign rfl rfl (by decide) (sv (d := .bool _) rfl)) <|
    ils_end ?_)
  refine iwp_ret ?_
  obtain rfl := Option.some.inj h
  refine ⟨.inr rfl, (.cons (sv rfl) .nil)⟩

set_option maxRecDepth 8000 in
set_option maxHeartbeats 2000000 in
theorem p_frame_in (a0 : Int) (a1 : Int) (a2 : Int) (r : Bool) (h : frame_in a0 a1 a2 = some r) : PureAt Try.prog 58 [.int .i64 a0, .int .i64 a1, .int .i64 a2] (.bool r) := by
  refine pure_of_iwp (rs := [.bool r]) Try.func58 rfl Try.ntmps58 (nle rfl) rfl fun O hO => ?_
  show IWP _ _ _ _ ⟨[(0, .int .i64 a0), (1, .int .i64 a1), (2, .int .i64 a2)], []⟩ _
  unfold frame_in at h
  refine iwp_reg (ils_cons rfl (iop_assign rfl rfl (by decide) (sv (d := .bool false) rfl)) <|
    ils_end ?_)
  obtain ⟨x1, hx1, h⟩ := bnd_e h
  obtain ⟨x2, hx2, h⟩ := bnd_e h
  obtain ⟨x3, hx3, h⟩ := bnd_e h
  refine iwp_reg (ils_cons rfl (iop_move rfl rfl (by decide) (sv (d := .int _ _) rfl)) <|
    ils_cons rfl (iop_move rfl rfl (by decide) (sv (d := .int _ _) rfl)) <|
    ils_cons rfl (iop_cmpx rfl rfl (by decide) (sv (d := .int _ _) rfl) (sv (d := .int _ _) rfl) rfl hx1) <|
    ils_cons rfl (iop_move rfl rfl (by decide) (sv (d := .bool _) rfl)) <|
    ils_guard rfl rfl (.one rfl) rfl (by decide) (fun hb => (iop_move rfl rfl (by decide) (sv (d := .int _ _) rfl))) <|
    ils_guard rfl rfl (.one rfl) rfl (by decide) (fun hb => (iop_move rfl rfl (by decide) (sv (d := .int _ _) rfl))) <|
    ils_guard rfl rfl (.one rfl) rfl (by decide) (fun hb => (iop_cmpx rfl rfl (by decide) (svc (d := .int _ _) rfl hb) (svc (d := .int _ _) rfl hb) rfl hx2)) <|
    ils_cons rfl (iop_andx rfl rfl (by decide) (sv (d := .bool _) rfl) rfl rfl hx3) <|
    ils_cons rfl (iop_assign rfl rfl (by decide) (sv (d := .bool _) rfl)) <|
    ils_end ?_)
  refine iwp_ret ?_
  obtain rfl := Option.some.inj h
  refine ⟨.inr rfl, (.cons (sv rfl) .nil)⟩

set_option maxRecDepth 8000 in
set_option maxHeartbeats 2000000 in
theorem p_frame_Frame_ranges_1 (a0 : T_api_Pair) (r : Bool) (h : frame_Frame_ranges_1 a0 = some r) : PureAt Try.prog 59 [.agg [.int .i64 a0.ID, .int .i64 a0.Value]] (.bool r) := by
  refine pure_of_iwp (rs := [.bool r]) Try.func59 rfl Try.ntmps59 (nle rfl) rfl fun O hO => ?_
  show IWP _ _ _ _ ⟨[(0, .agg [.int .i64 a0.ID, .int .i64 a0.Value])], []⟩ _
  unfold frame_Frame_ranges_1 at h
  refine iwp_reg (ils_cons rfl (iop_box' (cs := [.int _ _, .int _ _]) 0 rfl rfl (by decide) rfl (sv (d := .agg [.int _ _, .int _ _]) rfl) rfl rfl) <|
    ils_cons rfl (iop_assign rfl rfl (by decide) (sv (d := .bool false) rfl)) <|
    ils_end ?_)
  obtain ⟨x1, hx1, h⟩ := bno_e h
  obtain ⟨x2, hx2, h⟩ := bno_e h
  obtain ⟨x3, hx3, h⟩ := bnd_e h
  refine iwp_reg (ils_cons rfl (iop_fieldAddr_ref rfl rfl (by decide) Try.underlying77 rfl ti3 (by decide) (sv (d := .ref _ _) rfl) (off' := 0) rfl) <|
    ils_cons rfl (iop_load_rs (d := .int _ _) rfl rfl (by decide) Try.underlying3 ag3 ti3 (by decide) (sv (d := .ref _ _) rfl) rfl (nle rfl) rfl) <|
    ils_cons rfl (iop_call (r := .bool _) rfl rfl (by decide) cl58 (.cons (sv (d := .int _ _) rfl) (.cons (sv (d := .int _ 0) rfl) (.cons (sv (d := .int _ 1099511627776) rfl) .nil))) rfl (p_frame_in _ _ _ _ hx1)) <|
    ils_cons rfl (iop_not rfl rfl (by decide) (sv (d := .bool _) rfl)) <|
    ils_cons rfl (iop_move rfl rfl (by decide) (sv (d := .bool _) rfl)) <|
    ils_guard rfl rfl (.one rfl) rfl (by decide) (fun hb => (iop_fieldAddr_ref rfl rfl (by decide) Try.underlying77 rfl ti3 (by decide) (sv (d := .ref _ _) rfl) (off' := 1) rfl)) <|
    ils_guard rfl rfl (.one rfl) rfl (by decide) (fun hb => (iop_load_rs (d := .int _ _) rfl rfl (by decide) Try.underlying3 ag3 ti3 (by decide) (svc (d := .ref _ _) rfl hb) rfl (nle rfl) rfl)) <|
    ils_guard rfl rfl (.one rfl) rfl (by decide) (fun hb => (iop_call (r := .bool _) rfl rfl (by decide) cl58 (.cons (svc (d := .int _ _) rfl hb) (.cons (sv (d := .int _ 0) rfl) (.cons (sv (d := .int _ 1099511627776) rfl) .nil))) rfl (p_frame_in _ _ _ _ (gd_t hx2 hb)))) <|
    ils_guard rfl rfl (.one rfl) rfl (by decide) (fun hb => (iop_not rfl rfl (by decide) (svc (d := .bool _) rfl hb))) <|
    ils_cons rfl (iop_orx rfl rfl (by decide) (sv (d := .bool _) rfl) rfl rfl hx3) <|
    ils_cons rfl (iop_assign rfl rfl (by decide) (sv (d := .bool _) rfl)) <|
    ils_end ?_)
  refine iwp_ret ?_
  obtain rfl := Option.some.inj h
  refine ⟨.inr rfl, (.cons (sv rfl) .nil)⟩

set_option maxRecDepth 8000 in
set_option maxHeartbeats 2000000 in
theorem p_slices_IndexFunc_api_Pair_api_Pair_ranges_1 (a0 : (List T_api_Pair)) (r : Int) (h : slices_IndexFunc_api_Pair_api_Pair_ranges_1 a0 = some r) : PureAt Try.prog 71 [.slice false (a0.map E_api_Pair.d), .fn 59 []] (.int .i64 r) := by
  refine pure_of_iwp (rs := [.int .i64 r]) Try.func71 rfl Try.ntmps71 (nle rfl) rfl fun O hO => ?_
  show IWP _ _ _ _ ⟨[(0, .slice false (a0.map E_api_Pair.d)), (1, .fn 59 [])], []⟩ _
  unfold slices_IndexFunc_api_Pair_api_Pair_ranges_1 at h
  refine iwp_reg (ils_cons rfl (iop_assign rfl rfl (by decide) (sv (d := .int _ 0) rfl)) <|
    ils_end ?_)
  refine iwp_seq ?_
  refine iwp_reg (ils_cons rfl (iop_move rfl rfl (by decide) (sv (d := .slice _ _) rfl)) <|
    ils_cons rfl (iop_lenT E_api_Pair (l := a0) rfl rfl (by decide) Try.underlying38 (sv (d := .slice _ _) rfl)) <|
    ils_cons rfl (iop_move rfl rfl (by decide) (sv (d := .int _ 0) rfl)) <|
    ils_end ?_)
  refine iwp_block ?_
  refine iwp_loopP (α := Nat × Int) (fun z => ⟨[(0, .slice false (a0.map E_api_Pair.d)), (1, .fn 59 []), (7, .int .i64 (a0.length : Int)), (8, .int .i64 z.2)], []⟩) (fun z => slices_IndexFunc_api_Pair_api_Pair_ranges_1_L0 a0 z.1 z.2 = some r) (fun z => z.1) (fuel, 0) (fun i => i) ⟨(.cons (.same rfl rfl) (.cons (.same rfl rfl) (.cons (.same rfl rfl) (.cons (.same rfl rfl) .nil)))), .nil, nd_of [] rfl (by decide), (fun i hi => by first | rfl | (show (if _ then _ else _) = _; (repeat' split) <;> omega))⟩ ?_ ?_
  · exact h
  ·
    rintro ⟨n0, v7⟩ h
    cases n0 with
    | zero => exact absurd h (by unfold slices_IndexFunc_api_Pair_api_Pair_ranges_1_L0; exact nofun)
    | succ n0 =>
      unfold slices_IndexFunc_api_Pair_api_Pair_ranges_1_L0 at h
      obtain ⟨x14, hx14, h⟩ := bnd_e h
      refine iwp_reg (ils_cons rfl (iop_cmpx rfl rfl (by decide) (sv (d := .int _ _) rfl) (sv (d := .int _ _) rfl) rfl hx14) <|
        ils_end ?_)
      refine iwp_seq ?_
      refine iwp_cond (b := _) rfl (fun hc15 => ?_) (fun hc15 => ?_)
      ·
        replace h := bif_t h hc15
        refine iwp_skip ?_
        refine thenQ_n ?_
        refine iwp_seq ?_
        refine iwp_block ?_
        refine iwp_reg (ils_cons rfl (iop_move rfl rfl (by decide) (sv (d := .int _ _) rfl)) <|
          ils_cons rfl (iop_assign rfl rfl (by decide) (sv (d := .int _ _) rfl)) <|
          ils_end ?_)
        obtain ⟨x16, hx16, h⟩ := bno_e h
        obtain ⟨x17, hx17, h⟩ := bno_e h
        refine iwp_reg (ils_cons rfl (iop_move rfl rfl (by decide) (sv (d := .fn 59 []) rfl)) <|
          ils_cons rfl (iop_move rfl rfl (by decide) (sv (d := .slice _ _) rfl)) <|
          ils_cons rfl (iop_move rfl rfl (by decide) (sv (d := .int _ _) rfl)) <|
          ils_cons rfl (iop_idxT E_api_Pair (cs := [.int _ _, .int _ _]) rfl rfl (by decide) Try.underlying38 ti77 (sv (d := .slice _ _) rfl) (sv (d := .int _ _) rfl) hx16 rfl rfl) <|
          ils_cons rfl (iop_load_fa (cs := [.int _ _, .int _ _]) rfl rfl (by decide) Try.underlying77 ag77 ti77 (by decide) (sv (d := .fptr [.int _ _, .int _ _]) rfl) (nle rfl) rfl) <|
          ils_cons rfl (iop_callv (r := .bool _) rfl rfl (by decide) cl59 (sv (d := .fn 59 []) rfl) (.cons (sv (d := .agg [.int _ _, .int _ _]) rfl) .nil) rfl (p_frame_Frame_ranges_1 _ _ hx17)) <|
          ils_end ?_)
        refine iwp_cond (b := _) rfl (fun hc18 => ?_) (fun hc18 => ?_)
        ·
          replace h := bif_t h hc18
          refine iwp_reg (ils_cons rfl (iop_move rfl rfl (by decide) (sv (d := .int _ _) rfl)) <|
            ils_cons rfl (iop_assign rfl rfl (by decide) (sv (d := .int _ _) rfl)) <|
            ils_end ?_)
          refine iwp_ret ?_
          refine blockQ_r ?_
          refine thenQ_r ?_
          refine thenQ_r ?_
          refine blockQ_r ?_
          refine thenQ_r ?_
          obtain rfl := Option.some.inj h
          refine ⟨.inr rfl, (.cons (sv rfl) .nil)⟩
        ·
          replace h := bif_f h hc18
          refine iwp_skip ?_
          refine blockQ_n ?_
          refine thenQ_n ?_
          obtain ⟨x19, hx19, h⟩ := bnd_e h
          refine iwp_region (ils_cons rfl (iop_intx rfl rfl (by decide) (sv (d := .int _ _) rfl) (sv (d := .int _ 1) rfl) rfl hx19) <|
            ils_cons rfl (iop_move rfl rfl (by decide) (sv (d := .int _ _) rfl)) <|
            ils_nil ?_)
          refine thenQ_n ⟨(n0, x19), (fun i => i), ⟨(.cons (.same rfl rfl) (.cons (.same rfl rfl) (.cons (.same rfl rfl) (.cons (.same rfl rfl) .nil)))), .nil, nd_of [] rfl (by decide), (fun i hi => by first | rfl | (show (if _ then _ else _) = _; (repeat' split) <;> omega))⟩, ?_, ?_⟩
          exact h
          exact Nat.lt_succ_self _
      ·
        replace h := bif_f h hc15
        refine iwp_exit ?_
        refine thenQ_e ?_
        refine thenQ_e ?_
        refine blockQ_e ?_
        refine thenQ_n ?_
        refine iwp_reg (ils_cons rfl (iop_assign rfl rfl (by decide) (sv (d := .int _ (-1)) rfl)) <|
          ils_end ?_)
        refine iwp_ret ?_
        obtain rfl := Option.some.inj h
        refine ⟨.inr rfl, (.cons (sv rfl) .nil)⟩

set_option maxRecDepth 8000 in
set_option maxHeartbeats 2000000 in
theorem p_slices_ContainsFunc_api_Pair_api_Pair_ranges_1 (a0 : (List T_api_Pair)) (r : Bool) (h : slices_ContainsFunc_api_Pair_api_Pair_ranges_1 a0 = some r) : PureAt Try.prog 60 [.slice false (a0.map E_api_Pair.d), .fn 59 []] (.bool r) := by
  refine pure_of_iwp (rs := [.bool r]) Try.func60 rfl Try.ntmps60 (nle rfl) rfl fun O hO => ?_
  show IWP _ _ _ _ ⟨[(0, .slice false (a0.map E_api_Pair.d)), (1, .fn 59 [])], []⟩ _
  unfold slices_ContainsFunc_api_Pair_api_Pair_ranges_1 at h
  refine iwp_reg (ils_cons rfl (iop_assign rfl rfl (by decide) (sv (d := .bool false) rfl)) <|
    ils_end ?_)
  obtain ⟨x1, hx1, h⟩ := bno_e h
  obtain ⟨x2, hx2, h⟩ := bnd_e h
  refine iwp_reg (ils_cons rfl (iop_move rfl rfl (by decide) (sv (d := .slice _ _) rfl)) <|
    ils_cons rfl (iop_move rfl rfl (by decide) (sv (d := .fn 59 []) rfl)) <|
    ils_cons rfl (iop_call (r := .int _ _) rfl rfl (by decide) cl71 (.cons (sv (d := .slice _ _) rfl) (.cons (sv (d := .fn 59 []) rfl) .nil)) rfl (p_slices_IndexFunc_api_Pair_api_Pair_ranges_1 _ _ hx1)) <|
    ils_cons rfl (iop_cmpx rfl rfl (by decide) (sv (d := .int _ _) rfl) (sv (d := .int _ 0) rfl) rfl hx2) <|
    ils_cons rfl (iop_assign rfl rfl (by decide) (sv (d := .bool _) rfl)) <|
    ils_end ?_)
  refine iwp_ret ?_
  obtain rfl := Option.some.inj h
  refine ⟨.inr rfl, (.cons (sv rfl) .nil)⟩

set_option maxRecDepth 8000 in
set_option maxHeartbeats 2000000 in
theorem p_frame_Frame_ranges (a0 : T_frame_Frame) (r : Bool) (h : frame_Frame_ranges a0 = some r) : PureAt Try.prog 38 [.agg [.int .u8 a0.Kind, .bool a0.Flag, .int .i64 a0.Stream, .int .i64 a0.Offset, .int .i64 a0.Dep, .int .i64 a0.Weight, .int .i64 a0.N, .int .i64 a0.Code, .slice false (a0.Pairs.map E_api_Pair.d), .str a0.Data]] (.bool r) := by
  refine pure_of_iwp (rs := [.bool r]) Try.func38 rfl Try.ntmps38 (nle rfl) rfl fun O hO => ?_
  show IWP _ _ _ _ ⟨[(0, .agg [.int .u8 a0.Kind, .bool a0.Flag, .int .i64 a0.Stream, .int .i64 a0.Offset, .int .i64 a0.Dep, .int .i64 a0.Weight, .int .i64 a0.N, .int .i64 a0.Code, .slice false (a0.Pairs.map E_api_Pair.d), .str a0.Data])], []⟩ _
  unfold frame_Frame_ranges at h
  refine iwp_reg (ils_cons rfl (iop_box' (cs := [.int _ _, .bool _, .int _ _, .int _ _, .int _ _, .int _ _, .int _ _, .int _ _, .slice _ _, .str _]) 0 rfl rfl (by decide) rfl (sv (d := .agg [.int _ _, .bool _, .int _ _, .int _ _, .int _ _, .int _ _, .int _ _, .int _ _, .slice _ _, .str _]) rfl) rfl rfl) <|
    ils_cons rfl (iop_assign rfl rfl (by decide) (sv (d := .bool false) rfl)) <|
    ils_end ?_)
  refine iwp_reg (ils_cons rfl (iop_assign rfl rfl (by decide) (sv (d := .int _ 0) rfl)) <|
    ils_cons rfl (iop_assign rfl rfl (by decide) (sv (d := .int _ 1099511627776) rfl)) <|
    ils_cons rfl (iop_assign rfl rfl (by decide) (sv (d := .int _ 255) rfl)) <|
    ils_end ?_)
  refine iwp_join (α := Int × Int × Int) (fun z => ⟨[(1, .ref 0 0), (3, .int .i64 z.1), (4, .int .i64 z.2.1), (5, .int .i64 z.2.2)], [(0, .blk 42 [.int .u8 a0.Kind, .bool a0.Flag, .int .i64 a0.Stream, .int .i64 a0.Offset, .int .i64 a0.Dep, .int .i64 a0.Weight, .int .i64 a0.N, .int .i64 a0.Code, .slice false (a0.Pairs.map E_api_Pair.d), .str a0.Data])]⟩) (fun z => frame_Frame_ranges_J1 a0 z.1 z.2.1 z.2.2 = some r) ?_ ?_
  ·
    refine iwp_reg (ils_cons rfl (iop_fieldAddr_ref rfl rfl (by decide) Try.underlying42 rfl ti5 (by decide) (sv (d := .ref _ _) rfl) (off' := 0) rfl) <|
      ils_cons rfl (iop_load_rs (d := .int _ _) rfl rfl (by decide) Try.underlying5 ag5 ti5 (by decide) (sv (d := .ref _ _) rfl) rfl (nle rfl) rfl) <|
      ils_end ?_)
    refine iwp_block ?_
    obtain ⟨x29, hx29, h⟩ := bnd_e h
    refine iwp_reg (ils_cons rfl (iop_cmpx rfl rfl (by decide) (sv (d := .int _ _) rfl) (sv (d := .int _ 8) rfl) rfl hx29) <|
      ils_cons rfl (iop_assign rfl rfl (by decide) (sv (d := .bool _) rfl)) <|
      ils_end ?_)
    refine iwp_cond (b := _) rfl (fun hc30 => ?_) (fun hc30 => ?_)
    ·
      replace h := bif_t h hc30
      refine iwp_region (ils_cons rfl (iop_assign rfl rfl (by decide) (sv (d := .int _ 1) rfl)) <|
        ils_nil ?_)
      refine blockQ_n ?_
      refine thenQ_n ⟨(1, 1099511627776, 255), (fun i => i), ⟨(.cons (.same rfl rfl) (.cons (.same rfl rfl) (.cons (.same rfl rfl) (.cons (.same rfl rfl) .nil)))), (.cons (.blk rfl rfl rfl) .nil), nd_of [0] rfl (by decide), (fun i hi => by first | rfl | (show (if _ then _ else _) = _; (repeat' split) <;> omega))⟩, ?_⟩
      exact h
    ·
      replace h := bif_f h hc30
      obtain ⟨x31, hx31, h⟩ := bnd_e h
      refine iwp_reg (ils_cons rfl (iop_cmpx rfl rfl (by decide) (sv (d := .int _ _) rfl) (sv (d := .int _ 10) rfl) rfl hx31) <|
        ils_cons rfl (iop_assign rfl rfl (by decide) (sv (d := .bool _) rfl)) <|
        ils_end ?_)
      refine iwp_cond (b := _) rfl (fun hc32 => ?_) (fun hc32 => ?_)
      ·
        replace h := bif_t h hc32
        refine iwp_region (ils_cons rfl (iop_assign rfl rfl (by decide) (sv (d := .int _ 3) rfl)) <|
          ils_cons rfl (iop_assign rfl rfl (by decide) (sv (d := .int _ 1) rfl)) <|
          ils_nil ?_)
        refine blockQ_n ?_
        refine thenQ_n ⟨(0, 3, 1), (fun i => i), ⟨(.cons (.same rfl rfl) (.cons (.same rfl rfl) (.cons (.same rfl rfl) (.cons (.same rfl rfl) .nil)))), (.cons (.blk rfl rfl rfl) .nil), nd_of [0] rfl (by decide), (fun i hi => by first | rfl | (show (if _ then _ else _) = _; (repeat' split) <;> omega))⟩, ?_⟩
        exact h
      ·
        replace h := bif_f h hc32
        refine iwp_join (α := Bool) (fun z => ⟨[(1, .ref 0 0), (3, .int .i64 0), (4, .int .i64 1099511627776), (5, .int .i64 255), (13, .bool z)], [(0, .blk 42 [.int .u8 a0.Kind, .bool a0.Flag, .int .i64 a0.Stream, .int .i64 a0.Offset, .int .i64 a0.Dep, .int .i64 a0.Weight, .int .i64 a0.N, .int .i64 a0.Code, .slice false (a0.Pairs.map E_api_Pair.d), .str a0.Data])]⟩) (fun z => frame_Frame_ranges_J2 a0 z = some r) ?_ ?_
        ·
          obtain ⟨x40, hx40, h⟩ := bnd_e h
          refine iwp_reg (ils_cons rfl (iop_cmpx rfl rfl (by decide) (sv (d := .int _ _) rfl) (sv (d := .int _ 1) rfl) rfl hx40) <|
            ils_cons rfl (iop_assign rfl rfl (by decide) (sv (d := .bool _) rfl)) <|
            ils_end ?_)
          refine iwp_cond (b := _) rfl (fun hc41 => ?_) (fun hc41 => ?_)
          ·
            replace h := bif_t h hc41
            refine iwp_skip ?_
            refine thenQ_n ⟨x40, (fun i => i), ⟨(.cons (.same rfl rfl) (.cons (.same rfl rfl) (.cons (.same rfl rfl) (.cons (.same rfl rfl) (.cons (.same rfl rfl) .nil))))), (.cons (.blk rfl rfl rfl) .nil), nd_of [0] rfl (by decide), (fun i hi => by first | rfl | (show (if _ then _ else _) = _; (repeat' split) <;> omega))⟩, ?_⟩
            exact h
          ·
            replace h := bif_f h hc41
            obtain ⟨x42, hx42, h⟩ := bnd_e h
            refine iwp_region (ils_cons rfl (iop_cmpx rfl rfl (by decide) (sv (d := .int _ _) rfl) (sv (d := .int _ 2) rfl) rfl hx42) <|
              ils_cons rfl (iop_assign rfl rfl (by decide) (sv (d := .bool _) rfl)) <|
              ils_nil ?_)
            refine thenQ_n ⟨x42, (fun i => i), ⟨(.cons (.same rfl rfl) (.cons (.same rfl rfl) (.cons (.same rfl rfl) (.cons (.same rfl rfl) (.cons (.same rfl rfl) .nil))))), (.cons (.blk rfl rfl rfl) .nil), nd_of [0] rfl (by decide), (fun i hi => by first | rfl | (show (if _ then _ else _) = _; (repeat' split) <;> omega))⟩, ?_⟩
            exact h
        ·
          rintro v36 h
          unfold frame_Frame_ranges_J2 at h
          refine iwp_cond (b := _) rfl (fun hc37 => ?_) (fun hc37 => ?_)
          ·
            replace h := bif_t h hc37
            obtain ⟨x38, hx38, h⟩ := bno_e h
            refine iwp_reg (ils_cons rfl (iop_fieldAddr_ref rfl rfl (by decide) Try.underlying42 rfl ti3 (by decide) (sv (d := .ref _ _) rfl) (off' := 5) rfl) <|
              ils_cons rfl (iop_load_rs (d := .int _ _) rfl rfl (by decide) Try.underlying3 ag3 ti3 (by decide) (sv (d := .ref _ _) rfl) rfl (nle rfl) rfl) <|
              ils_cons rfl (iop_call (r := .bool _) rfl rfl (by decide) cl58 (.cons (sv (d := .int _ _) rfl) (.cons (sv (d := .int _ 1) rfl) (.cons (sv (d := .int _ 256) rfl) .nil))) rfl (p_frame_in _ _ _ _ hx38)) <|
              ils_cons rfl (iop_not rfl rfl (by decide) (sv (d := .bool _) rfl)) <|
              ils_end ?_)
            refine iwp_cond (b := _) rfl (fun hc39 => ?_) (fun hc39 => ?_)
            ·
              replace h := bif_t h hc39
              refine iwp_reg (ils_cons rfl (iop_assign rfl rfl (by decide) (sv (d := .bool false) rfl)) <|
                ils_end ?_)
              refine iwp_ret ?_
              refine blockQ_r ?_
              refine thenQ_r ?_
              obtain rfl := Option.some.inj h
              refine ⟨.inr rfl, (.cons (sv rfl) .nil)⟩
            ·
              replace h := bif_f h hc39
              refine iwp_skip ?_
              refine blockQ_n ?_
              refine thenQ_n ⟨(0, 1099511627776, 255), (fun i => i), ⟨(.cons (.same rfl rfl) (.cons (.same rfl rfl) (.cons (.same rfl rfl) (.cons (.same rfl rfl) .nil)))), (.cons (.blk rfl rfl rfl) .nil), nd_of [0] rfl (by decide), (fun i hi => by first | rfl | (show (if _ then _ else _) = _; (repeat' split) <;> omega))⟩, ?_⟩
              exact h
          ·
            replace h := bif_f h hc37
            refine iwp_skip ?_
            refine blockQ_n ?_
            refine thenQ_n ⟨(0, 1099511627776, 255), (fun i => i), ⟨(.cons (.same rfl rfl) (.cons (.same rfl rfl) (.cons (.same rfl rfl) (.cons (.same rfl rfl) .nil)))), (.cons (.blk rfl rfl rfl) .nil), nd_of [0] rfl (by decide), (fun i hi => by first | rfl | (show (if _ then _ else _) = _; (repeat' split) <;> omega))⟩, ?_⟩
            exact h
  ·
    rintro ⟨v15, v16, v17⟩ h
    unfold frame_Frame_ranges_J1 at h
    refine iwp_reg (ils_cons rfl (iop_assign rfl rfl (by decide) (sv (d := .fn 59 []) rfl)) <|
      ils_end ?_)
    refine iwp_seq ?_
    obtain ⟨x18, hx18, h⟩ := bno_e h
    obtain ⟨x19, hx19, h⟩ := bno_e h
    obtain ⟨x20, hx20, h⟩ := bnd_e h
    obtain ⟨x21, hx21, h⟩ := bno_e h
    obtain ⟨x22, hx22, h⟩ := bnd_e h
    refine iwp_reg (ils_cons rfl (iop_fieldAddr_ref rfl rfl (by decide) Try.underlying42 rfl ti38 (by decide) (sv (d := .ref _ _) rfl) (off' := 8) rfl) <|
      ils_cons rfl (iop_load_rs (d := .slice _ _) rfl rfl (by decide) Try.underlying38 ag38 ti38 (by decide) (sv (d := .ref _ _) rfl) rfl (nle rfl) rfl) <|
      ils_cons rfl (iop_move rfl rfl (by decide) (sv (d := .fn 59 []) rfl)) <|
      ils_cons rfl (iop_call (r := .bool _) rfl rfl (by decide) cl60 (.cons (sv (d := .slice _ _) rfl) (.cons (sv (d := .fn 59 []) rfl) .nil)) rfl (p_slices_ContainsFunc_api_Pair_api_Pair_ranges_1 _ _ hx18)) <|
      ils_cons rfl (iop_move rfl rfl (by decide) (sv (d := .bool _) rfl)) <|
      ils_guard rfl rfl (.one rfl) rfl (by decide) (fun hb => (iop_fieldAddr_ref rfl rfl (by decide) Try.underlying42 rfl ti3 (by decide) (sv (d := .ref _ _) rfl) (off' := 6) rfl)) <|
      ils_guard rfl rfl (.one rfl) rfl (by decide) (fun hb => (iop_load_rs (d := .int _ _) rfl rfl (by decide) Try.underlying3 ag3 ti3 (by decide) (svc (d := .ref _ _) rfl hb) rfl (nle rfl) rfl)) <|
      ils_guard rfl rfl (.one rfl) rfl (by decide) (fun hb => (iop_move rfl rfl (by decide) (sv (d := .int _ _) rfl))) <|
      ils_guard rfl rfl (.one rfl) rfl (by decide) (fun hb => (iop_move rfl rfl (by decide) (sv (d := .int _ _) rfl))) <|
      ils_guard rfl rfl (.one rfl) rfl (by decide) (fun hb => (iop_call (r := .bool _) rfl rfl (by decide) cl58 (.cons (svc (d := .int _ _) rfl hb) (.cons (svc (d := .int _ _) rfl hb) (.cons (svc (d := .int _ _) rfl hb) .nil))) rfl (p_frame_in _ _ _ _ (gd_t hx19 hb)))) <|
      ils_guard rfl rfl (.one rfl) rfl (by decide) (fun hb => (iop_not rfl rfl (by decide) (svc (d := .bool _) rfl hb))) <|
      ils_cons rfl (iop_orx rfl rfl (by decide) (sv (d := .bool _) rfl) rfl rfl hx20) <|
      ils_cons rfl (iop_move rfl rfl (by decide) (sv (d := .bool _) rfl)) <|
      ils_guard rfl rfl (.one rfl) rfl (by decide) (fun hb => (iop_fieldAddr_ref rfl rfl (by decide) Try.underlying42 rfl ti3 (by decide) (sv (d := .ref _ _) rfl) (off' := 7) rfl)) <|
      ils_guard rfl rfl (.one rfl) rfl (by decide) (fun hb => (iop_load_rs (d := .int _ _) rfl rfl (by decide) Try.underlying3 ag3 ti3 (by decide) (svc (d := .ref _ _) rfl hb) rfl (nle rfl) rfl)) <|
      ils_guard rfl rfl (.one rfl) rfl (by decide) (fun hb => (iop_move rfl rfl (by decide) (sv (d := .int _ _) rfl))) <|
      ils_guard rfl rfl (.one rfl) rfl (by decide) (fun hb => (iop_call (r := .bool _) rfl rfl (by decide) cl58 (.cons (svc (d := .int _ _) rfl hb) (.cons (sv (d := .int _ 0) rfl) (.cons (svc (d := .int _ _) rfl hb) .nil))) rfl (p_frame_in _ _ _ _ (gd_t hx21 hb)))) <|
      ils_guard rfl rfl (.one rfl) rfl (by decide) (fun hb => (iop_not rfl rfl (by decide) (svc (d := .bool _) rfl hb))) <|
      ils_cons rfl (iop_orx rfl rfl (by decide) (sv (d := .bool _) rfl) rfl rfl hx22) <|
      ils_end ?_)
    refine iwp_cond (b := _) rfl (fun hc23 => ?_) (fun hc23 => ?_)
    ·
      replace h := bif_t h hc23
      refine iwp_reg (ils_cons rfl (iop_assign rfl rfl (by decide) (sv (d := .bool false) rfl)) <|
        ils_end ?_)
      refine iwp_ret ?_
      refine thenQ_r ?_
      obtain rfl := Option.some.inj h
      refine ⟨.inr rfl, (.cons (sv rfl) .nil)⟩
    ·
      replace h := bif_f h hc23
      refine iwp_skip ?_
      refine thenQ_n ?_
      obtain ⟨x24, hx24, h⟩ := bno_e h
      obtain ⟨x25, hx25, h⟩ := bno_e h
      obtain ⟨x26, hx26, h⟩ := bnd_e h
      obtain ⟨x27, hx27, h⟩ := bno_e h
      obtain ⟨x28, hx28, h⟩ := bnd_e h
      refine iwp_reg (ils_cons rfl (iop_fieldAddr_ref rfl rfl (by decide) Try.underlying42 rfl ti3 (by decide) (sv (d := .ref _ _) rfl) (off' := 2) rfl) <|
        ils_cons rfl (iop_load_rs (d := .int _ _) rfl rfl (by decide) Try.underlying3 ag3 ti3 (by decide) (sv (d := .ref _ _) rfl) rfl (nle rfl) rfl) <|
        ils_cons rfl (iop_call (r := .bool _) rfl rfl (by decide) cl58 (.cons (sv (d := .int _ _) rfl) (.cons (sv (d := .int _ 0) rfl) (.cons (sv (d := .int _ 1048576) rfl) .nil))) rfl (p_frame_in _ _ _ _ hx24)) <|
        ils_cons rfl (iop_move rfl rfl (by decide) (sv (d := .bool _) rfl)) <|
        ils_guard rfl rfl (.one rfl) rfl (by decide) (fun hb => (iop_fieldAddr_ref rfl rfl (by decide) Try.underlying42 rfl ti3 (by decide) (sv (d := .ref _ _) rfl) (off' := 4) rfl)) <|
        ils_guard rfl rfl (.one rfl) rfl (by decide) (fun hb => (iop_load_rs (d := .int _ _) rfl rfl (by decide) Try.underlying3 ag3 ti3 (by decide) (svc (d := .ref _ _) rfl hb) rfl (nle rfl) rfl)) <|
        ils_guard rfl rfl (.one rfl) rfl (by decide) (fun hb => (iop_call (r := .bool _) rfl rfl (by decide) cl58 (.cons (svc (d := .int _ _) rfl hb) (.cons (sv (d := .int _ 0) rfl) (.cons (sv (d := .int _ 1048576) rfl) .nil))) rfl (p_frame_in _ _ _ _ (gd_t hx25 hb)))) <|
        ils_cons rfl (iop_andx rfl rfl (by decide) (sv (d := .bool _) rfl) rfl rfl hx26) <|
        ils_cons rfl (iop_move rfl rfl (by decide) (sv (d := .bool _) rfl)) <|
        ils_guard rfl rfl (.one rfl) rfl (by decide) (fun hb => (iop_fieldAddr_ref rfl rfl (by decide) Try.underlying42 rfl ti3 (by decide) (sv (d := .ref _ _) rfl) (off' := 3) rfl)) <|
        ils_guard rfl rfl (.one rfl) rfl (by decide) (fun hb => (iop_load_rs (d := .int _ _) rfl rfl (by decide) Try.underlying3 ag3 ti3 (by decide) (svc (d := .ref _ _) rfl hb) rfl (nle rfl) rfl)) <|
        ils_guard rfl rfl (.one rfl) rfl (by decide) (fun hb => (iop_call (r := .bool _) rfl rfl (by decide) cl58 (.cons (svc (d := .int _ _) rfl hb) (.cons (sv (d := .int _ 0) rfl) (.cons (sv (d := .int _ 1099511627776) rfl) .nil))) rfl (p_frame_in _ _ _ _ (gd_t hx27 hb)))) <|
        ils_cons rfl (iop_andx rfl rfl (by decide) (sv (d := .bool _) rfl) rfl rfl hx28) <|
        ils_cons rfl (iop_assign rfl rfl (by decide) (sv (d := .bool _) rfl)) <|
        ils_end ?_)
      refine iwp_ret ?_
      obtain rfl := Option.some.inj h
      refine ⟨.inr rfl, (.cons (sv rfl) .nil)⟩

set_option maxRecDepth 8000 in
set_option maxHeartbeats 2000000 in
theorem p_frame_Frame_numbers_h (a0 : T_frame_Frame) (r : (List Nat)) (h : frame_Frame_numbers_h a0 = some r) : FnH Try.prog 50 [.ref 1000 0] [(1000, .blk 42 [.int .u8 a0.Kind, .bool a0.Flag, .int .i64 a0.Stream, .int .i64 a0.Offset, .int .i64 a0.Dep, .int .i64 a0.Weight, .int .i64 a0.N, .int .i64 a0.Code, .slice false (a0.Pairs.map E_api_Pair.d), .str a0.Data])] (.osl 0 (eRef 1000).sz r.length) [(1000, .blk 42 [.int .u8 a0.Kind, .bool a0.Flag, .int .i64 a0.Stream, .int .i64 a0.Offset, .int .i64 a0.Dep, .int .i64 a0.Weight, .int .i64 a0.N, .int .i64 a0.Code, .slice false (a0.Pairs.map E_api_Pair.d), .str a0.Data]), (0, .blk 91 (D.flat (r.map (eRef 1000).d)))] := by
  refine fnh_of_iwp (rs := [.osl 0 (eRef 1000).sz r.length]) Try.func50 rfl Try.ntmps50 (nle rfl) fun O => ?_
  show IWP _ _ _ _ ⟨[(0, .ref 1000 0)], [(1000, .blk 42 [.int .u8 a0.Kind, .bool a0.Flag, .int .i64 a0.Stream, .int .i64 a0.Offset, .int .i64 a0.Dep, .int .i64 a0.Weight, .int .i64 a0.N, .int .i64 a0.Code, .slice false (a0.Pairs.map E_api_Pair.d), .str a0.Data])]⟩ _
  unfold frame_Frame_numbers_h at h
  refine iwp_reg (ils_cons rfl (iop_assign rfl rfl (by decide) (sv (d := .nils) rfl)) <|
    ils_end ?_)
  refine iwp_reg (ils_cons rfl (iop_assign rfl rfl (by decide) (sv (d := .nils) rfl)) <|
    ils_end ?_)
  refine iwp_seq ?_
  refine iwp_reg (ils_cons rfl (iop_move rfl rfl (by decide) (sv (d := .ref _ _) rfl)) <|
    ils_cons rfl (iop_nilCheck_ref rfl rfl (by decide) (sv (d := .ref _ _) rfl)) <|
    ils_cons rfl (iop_fieldAddr_ref rfl rfl (by decide) Try.underlying42 rfl ti5 (by decide) (sv (d := .ref _ _) rfl) (off' := 0) rfl) <|
    ils_cons rfl (iop_load_rs (d := .int _ _) rfl rfl (by decide) Try.underlying5 ag5 ti5 (by decide) (sv (d := .ref _ _) rfl) rfl (nle rfl) rfl) <|
    ils_end ?_)
  refine iwp_block ?_
  refine iwp_seq ?_
  refine iwp_block ?_
  refine iwp_join (α := (List Nat)) (fun z => ⟨[(0, .ref 1000 0), (3, .osl 1 (eRef 1000).sz z.length)], [(1000, .blk 42 [.int .u8 a0.Kind, .bool a0.Flag, .int .i64 a0.Stream, .int .i64 a0.Offset, .int .i64 a0.Dep, .int .i64 a0.Weight, .int .i64 a0.N, .int .i64 a0.Code, .slice false (a0.Pairs.map E_api_Pair.d), .str a0.Data]), (1, .blk 91 (D.flat (z.map (eRef 1000).d)))]⟩) (fun z => frame_Frame_numbers_h_J0 z = some r) ?_ ?_
  ·
    refine iwp_block ?_
    refine iwp_seq ?_
    refine iwp_block ?_
    refine iwp_seq ?_
    refine iwp_block ?_
    refine iwp_seq ?_
    refine iwp_block ?_
    refine iwp_seq ?_
    refine iwp_block ?_
    refine iwp_seq ?_
    refine iwp_block ?_
    refine iwp_seq ?_
    refine iwp_seq ?_
    refine iwp_seq ?_
    obtain ⟨x28, hx28, h⟩ := bnd_e h
    refine iwp_reg (ils_cons rfl (iop_cmpx rfl rfl (by decide) (sv (d := .int _ _) rfl) (sv (d := .int _ 0) rfl) rfl hx28) <|
      ils_cons rfl (iop_assign rfl rfl (by decide) (sv (d := .bool _) rfl)) <|
      ils_end ?_)
    refine iwp_cond (b := _) rfl (fun hc29 => ?_) (fun hc29 => ?_)
    ·
      replace h := bif_t h hc29
      refine iwp_skip ?_
      refine thenQ_n ?_
      refine iwp_cond_t rfl hc29 ?_
      refine iwp_exit ?_
      refine thenQ_e ?_
      refine thenQ_e ?_
      refine blockQ_e ?_
      refine thenQ_n ?_
      obtain ⟨x30, hx30, h⟩ := bno_e h
      refine iwp_drw rfl [⟨[3], [], [(24, .nils)], []⟩,
        ⟨[0], [], [(25, .ref 1000 0)], []⟩,
        ⟨[25], [], [(26, .ref 1000 0)], []⟩,
        ⟨[26], [], [(27, .ref 1000 2)], []⟩,
        ⟨[0], [], [(28, .ref 1000 0)], []⟩,
        ⟨[28], [], [(29, .ref 1000 0)], []⟩,
        ⟨[29], [], [(30, .ref 1000 3)], []⟩,
        ⟨[27, 30], [0], [(31, .osl 0 (eRef 1000).sz (([2, 3] : (List Nat)).length))], [(0, .blk 91 (D.flat (([2, 3] : (List Nat)).map (eRef 1000).d)))]⟩,
        ⟨[24, 31], [0, 1], [(32, .osl 1 (eRef 1000).sz x30.length)], [(1, .blk 91 (D.flat (x30.map (eRef 1000).d)))]⟩,
        ⟨[32], [], [(3, .osl 1 (eRef 1000).sz x30.length)], []⟩] rfl ?_ (by kernel_rfl) ?_
      · refine .cons (lop rfl rfl fun S hA => (iop_move rfl rfl (by decide) (sv (d := .nils) (agr hA rfl rfl)))) ?_
        refine .cons (lop rfl rfl fun S hA => (iop_move rfl rfl (by decide) (sv (d := .ref _ _) (agr hA rfl rfl)))) ?_
        refine .cons (lop rfl rfl fun S hA => (iop_nilCheck_ref rfl rfl (by decide) (sv (d := .ref _ _) (agr hA rfl rfl)))) ?_
        refine .cons (lop rfl rfl fun S hA => (iop_fieldAddr_ref rfl rfl (by decide) Try.underlying42 rfl ti3 (by decide) (sv (d := .ref _ _) (agr hA rfl rfl)) (off' := 2) rfl)) ?_
        refine .cons (lop rfl rfl fun S hA => (iop_move rfl rfl (by decide) (sv (d := .ref _ _) (agr hA rfl rfl)))) ?_
        refine .cons (lop rfl rfl fun S hA => (iop_nilCheck_ref rfl rfl (by decide) (sv (d := .ref _ _) (agr hA rfl rfl)))) ?_
        refine .cons (lop rfl rfl fun S hA => (iop_fieldAddr_ref rfl rfl (by decide) Try.underlying42 rfl ti3 (by decide) (sv (d := .ref _ _) (agr hA rfl rfl)) (off' := 3) rfl)) ?_
        refine .cons (lop rfl rfl fun S hA => (iop_bsO (eRef 1000) ([2, 3] : (List Nat)) 0 rfl rfl (by decide) Try.underlying89 ti91 (agi hA rfl rfl) (.cons (sv (d := .ref _ _) (agr hA rfl rfl)) (.cons (sv (d := .ref _ _) (agr hA rfl rfl)) .nil)) rfl rfl (by decide))) ?_
        refine .cons (lop rfl rfl fun S hA => (iop_appOn (eRef 1000) 1 rfl rfl (by decide) Try.underlying89 ti91 rfl (agr hA rfl rfl) (agi hA rfl rfl) (src_O (eRef 1000) (agr hA rfl rfl) rfl (agi hA rfl rfl)) hx30)) ?_
        refine .cons (lop rfl rfl fun S hA => (iop_assign rfl rfl (by decide) (sv (d := .osl _ _ _) (agr hA rfl rfl)))) ?_
        exact .nil
      refine iwp_exit ?_
      refine blockQ_x rfl ?_
      refine thenQ_e ?_
      refine blockQ_x rfl ?_
      refine thenQ_e ?_
      refine blockQ_x rfl ?_
      refine thenQ_e ?_
      refine blockQ_x rfl ?_
      refine thenQ_e ?_
      refine blockQ_x rfl ?_
      refine thenQ_e ?_
      refine blockQ_x rfl ?_
      refine thenQ_e ?_
      refine blockQ_e ?_
      refine thenQ_n ?_
      refine iwp_reg (ils_cons rfl (iop_move rfl rfl (by decide) (sv (d := .osl _ _ _) rfl)) <|
        ils_cons rfl (iop_assign rfl rfl (by decide) (sv (d := .osl _ _ _) rfl)) <|
        ils_end ?_)
      refine iwp_ret ?_
      obtain rfl := Option.some.inj h
      refine ⟨.inr rfl, (fun i => if i = 0 then 1 else i), ⟨.nil, (.cons (.blk rfl rfl rfl) (.cons (EntW.lstR rfl rfl) .nil)), nd_of [1000, 1] rfl (by decide), (fun i hi => by first | rfl | (show (if _ then _ else _) = _; (repeat' split) <;> omega))⟩, (.cons (sv rfl) .nil), rfl⟩
    ·
      replace h := bif_f h hc29
      obtain ⟨x31, hx31, h⟩ := bnd_e h
      refine iwp_region (ils_cons rfl (iop_cmpx rfl rfl (by decide) (sv (d := .int _ _) rfl) (sv (d := .int _ 9) rfl) rfl hx31) <|
        ils_cons rfl (iop_assign rfl rfl (by decide) (sv (d := .bool _) rfl)) <|
        ils_nil ?_)
      refine thenQ_n ?_
      refine iwp_cond (b := _) rfl (fun hc32 => ?_) (fun hc32 => ?_)
      ·
        replace h := bif_t h hc32
        refine iwp_exit ?_
        refine thenQ_e ?_
        refine thenQ_e ?_
        refine blockQ_e ?_
        refine thenQ_n ?_
        obtain ⟨x33, hx33, h⟩ := bno_e h
        refine iwp_drw rfl [⟨[3], [], [(24, .nils)], []⟩,
          ⟨[0], [], [(25, .ref 1000 0)], []⟩,
          ⟨[25], [], [(26, .ref 1000 0)], []⟩,
          ⟨[26], [], [(27, .ref 1000 2)], []⟩,
          ⟨[0], [], [(28, .ref 1000 0)], []⟩,
          ⟨[28], [], [(29, .ref 1000 0)], []⟩,
          ⟨[29], [], [(30, .ref 1000 3)], []⟩,
          ⟨[27, 30], [0], [(31, .osl 0 (eRef 1000).sz (([2, 3] : (List Nat)).length))], [(0, .blk 91 (D.flat (([2, 3] : (List Nat)).map (eRef 1000).d)))]⟩,
          ⟨[24, 31], [0, 1], [(32, .osl 1 (eRef 1000).sz x33.length)], [(1, .blk 91 (D.flat (x33.map (eRef 1000).d)))]⟩,
          ⟨[32], [], [(3, .osl 1 (eRef 1000).sz x33.length)], []⟩] rfl ?_ (by kernel_rfl) ?_
        · refine .cons (lop rfl rfl fun S hA => (iop_move rfl rfl (by decide) (sv (d := .nils) (agr hA rfl rfl)))) ?_
          refine .cons (lop rfl rfl fun S hA => (iop_move rfl rfl (by decide) (sv (d := .ref _ _) (agr hA rfl rfl)))) ?_
          refine .cons (lop rfl rfl fun S hA => (iop_nilCheck_ref rfl rfl (by decide) (sv (d := .ref _ _) (agr hA rfl rfl)))) ?_
          refine .cons (lop rfl rfl fun S hA => (iop_fieldAddr_ref rfl rfl (by decide) Try.underlying42 rfl ti3 (by decide) (sv (d := .ref _ _) (agr hA rfl rfl)) (off' := 2) rfl)) ?_
          refine .cons (lop rfl rfl fun S hA => (iop_move rfl rfl (by decide) (sv (d := .ref _ _) (agr hA rfl rfl)))) ?_
          refine .cons (lop rfl rfl fun S hA => (iop_nilCheck_ref rfl rfl (by decide) (sv (d := .ref _ _) (agr hA rfl rfl)))) ?_
          refine .cons (lop rfl rfl fun S hA => (iop_fieldAddr_ref rfl rfl (by decide) Try.underlying42 rfl ti3 (by decide) (sv (d := .ref _ _) (agr hA rfl rfl)) (off' := 3) rfl)) ?_
          refine .cons (lop rfl rfl fun S hA => (iop_bsO (eRef 1000) ([2, 3] : (List Nat)) 0 rfl rfl (by decide) Try.underlying89 ti91 (agi hA rfl rfl) (.cons (sv (d := .ref _ _) (agr hA rfl rfl)) (.cons (sv (d := .ref _ _) (agr hA rfl rfl)) .nil)) rfl rfl (by decide))) ?_
          refine .cons (lop rfl rfl fun S hA => (iop_appOn (eRef 1000) 1 rfl rfl (by decide) Try.underlying89 ti91 rfl (agr hA rfl rfl) (agi hA rfl rfl) (src_O (eRef 1000) (agr hA rfl rfl) rfl (agi hA rfl rfl)) hx33)) ?_
          refine .cons (lop rfl rfl fun S hA => (iop_assign rfl rfl (by decide) (sv (d := .osl _ _ _) (agr hA rfl rfl)))) ?_
          exact .nil
        refine iwp_exit ?_
        refine blockQ_x rfl ?_
        refine thenQ_e ?_
        refine blockQ_x rfl ?_
        refine thenQ_e ?_
        refine blockQ_x rfl ?_
        refine thenQ_e ?_
        refine blockQ_x rfl ?_
        refine thenQ_e ?_
        refine blockQ_x rfl ?_
        refine thenQ_e ?_
        refine blockQ_x rfl ?_
        refine thenQ_e ?_
        refine blockQ_e ?_
        refine thenQ_n ?_
        refine iwp_reg (ils_cons rfl (iop_move rfl rfl (by decide) (sv (d := .osl _ _ _) rfl)) <|
          ils_cons rfl (iop_assign rfl rfl (by decide) (sv (d := .osl _ _ _) rfl)) <|
          ils_end ?_)
        refine iwp_ret ?_
        obtain rfl := Option.some.inj h
        refine ⟨.inr rfl, (fun i => if i = 0 then 1 else i), ⟨.nil, (.cons (.blk rfl rfl rfl) (.cons (EntW.lstR rfl rfl) .nil)), nd_of [1000, 1] rfl (by decide), (fun i hi => by first | rfl | (show (if _ then _ else _) = _; (repeat' split) <;> omega))⟩, (.cons (sv rfl) .nil), rfl⟩
      ·
        replace h := bif_f h hc32
        refine iwp_skip ?_
        refine thenQ_n ?_
        refine iwp_seq ?_
        refine iwp_seq ?_
        obtain ⟨x34, hx34, h⟩ := bnd_e h
        refine iwp_reg (ils_cons rfl (iop_cmpx rfl rfl (by decide) (sv (d := .int _ _) rfl) (sv (d := .int _ 1) rfl) rfl hx34) <|
          ils_cons rfl (iop_assign rfl rfl (by decide) (sv (d := .bool _) rfl)) <|
          ils_end ?_)
        refine iwp_cond (b := _) rfl (fun hc35 => ?_) (fun hc35 => ?_)
        ·
          replace h := bif_t h hc35
          refine iwp_skip ?_
          refine thenQ_n ?_
          refine iwp_cond_t rfl hc35 ?_
          refine iwp_exit ?_
          refine thenQ_e ?_
          refine thenQ_e ?_
          refine blockQ_x rfl ?_
          refine thenQ_e ?_
          refine blockQ_e ?_
          refine thenQ_n ?_
          obtain ⟨x36, hx36, h⟩ := bno_e h
          refine iwp_drw rfl [⟨[3], [], [(33, .nils)], []⟩,
            ⟨[0], [], [(34, .ref 1000 0)], []⟩,
            ⟨[34], [], [(35, .ref 1000 0)], []⟩,
            ⟨[35], [], [(36, .ref 1000 2)], []⟩,
            ⟨[0], [], [(37, .ref 1000 0)], []⟩,
            ⟨[37], [], [(38, .ref 1000 0)], []⟩,
            ⟨[38], [], [(39, .ref 1000 4)], []⟩,
            ⟨[0], [], [(40, .ref 1000 0)], []⟩,
            ⟨[40], [], [(41, .ref 1000 0)], []⟩,
            ⟨[41], [], [(42, .ref 1000 5)], []⟩,
            ⟨[36, 39, 42], [0], [(43, .osl 0 (eRef 1000).sz (([2, 4, 5] : (List Nat)).length))], [(0, .blk 91 (D.flat (([2, 4, 5] : (List Nat)).map (eRef 1000).d)))]⟩,
            ⟨[33, 43], [0, 1], [(44, .osl 1 (eRef 1000).sz x36.length)], [(1, .blk 91 (D.flat (x36.map (eRef 1000).d)))]⟩,
            ⟨[44], [], [(3, .osl 1 (eRef 1000).sz x36.length)], []⟩] rfl ?_ (by kernel_rfl) ?_
          · refine .cons (lop rfl rfl fun S hA => (iop_move rfl rfl (by decide) (sv (d := .nils) (agr hA rfl rfl)))) ?_
            refine .cons (lop rfl rfl fun S hA => (iop_move rfl rfl (by decide) (sv (d := .ref _ _) (agr hA rfl rfl)))) ?_
            refine .cons (lop rfl rfl fun S hA => (iop_nilCheck_ref rfl rfl (by decide) (sv (d := .ref _ _) (agr hA rfl rfl)))) ?_
            refine .cons (lop rfl rfl fun S hA => (iop_fieldAddr_ref rfl rfl (by decide) Try.underlying42 rfl ti3 (by decide) (sv (d := .ref _ _) (agr hA rfl rfl)) (off' := 2) rfl)) ?_
            refine .cons (lop rfl rfl fun S hA => (iop_move rfl rfl (by decide) (sv (d := .ref _ _) (agr hA rfl rfl)))) ?_
            refine .cons (lop rfl rfl fun S hA => (iop_nilCheck_ref rfl rfl (by decide) (sv (d := .ref _ _) (agr hA rfl rfl)))) ?_
            refine .cons (lop rfl rfl fun S hA => (iop_fieldAddr_ref rfl rfl (by decide) Try.underlying42 rfl ti3 (by decide) (sv (d := .ref _ _) (agr hA rfl rfl)) (off' := 4) rfl)) ?_
            refine .cons (lop rfl rfl fun S hA => (iop_move rfl rfl (by decide) (sv (d := .ref _ _) (agr hA rfl rfl)))) ?_
            refine .cons (lop rfl rfl fun S hA => (iop_nilCheck_ref rfl rfl (by decide) (sv (d := .ref _ _) (agr hA rfl rfl)))) ?_
            refine .cons (lop rfl rfl fun S hA => (iop_fieldAddr_ref rfl rfl (by decide) Try.underlying42 rfl ti3 (by decide) (sv (d := .ref _ _) (agr hA rfl rfl)) (off' := 5) rfl)) ?_
            refine .cons (lop rfl rfl fun S hA => (iop_bsO (eRef 1000) ([2, 4, 5] : (List Nat)) 0 rfl rfl (by decide) Try.underlying89 ti91 (agi hA rfl rfl) (.cons (sv (d := .ref _ _) (agr hA rfl rfl)) (.cons (sv (d := .ref _ _) (agr hA rfl rfl)) (.cons (sv (d := .ref _ _) (agr hA rfl rfl)) .nil))) rfl rfl (by decide))) ?_
            refine .cons (lop rfl rfl fun S hA => (iop_appOn (eRef 1000) 1 rfl rfl (by decide) Try.underlying89 ti91 rfl (agr hA rfl rfl) (agi hA rfl rfl) (src_O (eRef 1000) (agr hA rfl rfl) rfl (agi hA rfl rfl)) hx36)) ?_
            refine .cons (lop rfl rfl fun S hA => (iop_assign rfl rfl (by decide) (sv (d := .osl _ _ _) (agr hA rfl rfl)))) ?_
            exact .nil
          refine iwp_exit ?_
          refine blockQ_x rfl ?_
          refine thenQ_e ?_
          refine blockQ_x rfl ?_
          refine thenQ_e ?_
          refine blockQ_x rfl ?_
          refine thenQ_e ?_
          refine blockQ_x rfl ?_
          refine thenQ_e ?_
          refine blockQ_x rfl ?_
          refine thenQ_e ?_
          refine blockQ_e ?_
          refine thenQ_n ?_
          refine iwp_reg (ils_cons rfl (iop_move rfl rfl (by decide) (sv (d := .osl _ _ _) rfl)) <|
            ils_cons rfl (iop_assign rfl rfl (by decide) (sv (d := .osl _ _ _) rfl)) <|
            ils_end ?_)
          refine iwp_ret ?_
          obtain rfl := Option.some.inj h
          refine ⟨.inr rfl, (fun i => if i = 0 then 1 else i), ⟨.nil, (.cons (.blk rfl rfl rfl) (.cons (EntW.lstR rfl rfl) .nil)), nd_of [1000, 1] rfl (by decide), (fun i hi => by first | rfl | (show (if _ then _ else _) = _; (repeat' split) <;> omega))⟩, (.cons (sv rfl) .nil), rfl⟩
        ·
          replace h := bif_f h hc35
          obtain ⟨x37, hx37, h⟩ := bnd_e h
          refine iwp_region (ils_cons rfl (iop_cmpx rfl rfl (by decide) (sv (d := .int _ _) rfl) (sv (d := .int _ 2) rfl) rfl hx37) <|
            ils_cons rfl (iop_assign rfl rfl (by decide) (sv (d := .bool _) rfl)) <|
            ils_nil ?_)
          refine thenQ_n ?_
          refine iwp_cond (b := _) rfl (fun hc38 => ?_) (fun hc38 => ?_)
          ·
            replace h := bif_t h hc38
            refine iwp_exit ?_
            refine thenQ_e ?_
            refine thenQ_e ?_
            refine blockQ_x rfl ?_
            refine thenQ_e ?_
            refine blockQ_e ?_
            refine thenQ_n ?_
            obtain ⟨x39, hx39, h⟩ := bno_e h
            refine iwp_drw rfl [⟨[3], [], [(33, .nils)], []⟩,
              ⟨[0], [], [(34, .ref 1000 0)], []⟩,
              ⟨[34], [], [(35, .ref 1000 0)], []⟩,
              ⟨[35], [], [(36, .ref 1000 2)], []⟩,
              ⟨[0], [], [(37, .ref 1000 0)], []⟩,
              ⟨[37], [], [(38, .ref 1000 0)], []⟩,
              ⟨[38], [], [(39, .ref 1000 4)], []⟩,
              ⟨[0], [], [(40, .ref 1000 0)], []⟩,
              ⟨[40], [], [(41, .ref 1000 0)], []⟩,
              ⟨[41], [], [(42, .ref 1000 5)], []⟩,
              ⟨[36, 39, 42], [0], [(43, .osl 0 (eRef 1000).sz (([2, 4, 5] : (List Nat)).length))], [(0, .blk 91 (D.flat (([2, 4, 5] : (List Nat)).map (eRef 1000).d)))]⟩,
              ⟨[33, 43], [0, 1], [(44, .osl 1 (eRef 1000).sz x39.length)], [(1, .blk 91 (D.flat (x39.map (eRef 1000).d)))]⟩,
              ⟨[44], [], [(3, .osl 1 (eRef 1000).sz x39.length)], []⟩] rfl ?_ (by kernel_rfl) ?_
            · refine .cons (lop rfl rfl fun S hA => (iop_move rfl rfl (by decide) (sv (d := .nils) (agr hA rfl rfl)))) ?_
              refine .cons (lop rfl rfl fun S hA => (iop_move rfl rfl (by decide) (sv (d := .ref _ _) (agr hA rfl rfl)))) ?_
              refine .cons (lop rfl rfl fun S hA => (iop_nilCheck_ref rfl rfl (by decide) (sv (d := .ref _ _) (agr hA rfl rfl)))) ?_
              refine .cons (lop rfl rfl fun S hA => (iop_fieldAddr_ref rfl rfl (by decide) Try.underlying42 rfl ti3 (by decide) (sv (d := .ref _ _) (agr hA rfl rfl)) (off' := 2) rfl)) ?_
              refine .cons (lop rfl rfl fun S hA => (iop_move rfl rfl (by decide) (sv (d := .ref _ _) (agr hA rfl rfl)))) ?_
              refine .cons (lop rfl rfl fun S hA => (iop_nilCheck_ref rfl rfl (by decide) (sv (d := .ref _ _) (agr hA rfl rfl)))) ?_
              refine .cons (lop rfl rfl fun S hA => (iop_fieldAddr_ref rfl rfl (by decide) Try.underlying42 rfl ti3 (by decide) (sv (d := .ref _ _) (agr hA rfl rfl)) (off' := 4) rfl)) ?_
              refine .cons (lop rfl rfl fun S hA => (iop_move rfl rfl (by decide) (sv (d := .ref _ _) (agr hA rfl rfl)))) ?_
              refine .cons (lop rfl rfl fun S hA => (iop_nilCheck_ref rfl rfl (by decide) (sv (d := .ref _ _) (agr hA rfl rfl)))) ?_
              refine .cons (lop rfl rfl fun S hA => (iop_fieldAddr_ref rfl rfl (by decide) Try.underlying42 rfl ti3 (by decide) (sv (d := .ref _ _) (agr hA rfl rfl)) (off' := 5) rfl)) ?_
              refine .cons (lop rfl rfl fun S hA => (iop_bsO (eRef 1000) ([2, 4, 5] : (List Nat)) 0 rfl rfl (by decide) Try.underlying89 ti91 (agi hA rfl rfl) (.cons (sv (d := .ref _ _) (agr hA rfl rfl)) (.cons (sv (d := .ref _ _) (agr hA rfl rfl)) (.cons (sv (d := .ref _ _) (agr hA rfl rfl)) .nil))) rfl rfl (by decide))) ?_
              refine .cons (lop rfl rfl fun S hA => (iop_appOn (eRef 1000) 1 rfl rfl (by decide) Try.underlying89 ti91 rfl (agr hA rfl rfl) (agi hA rfl rfl) (src_O (eRef 1000) (agr hA rfl rfl) rfl (agi hA rfl rfl)) hx39)) ?_
              refine .cons (lop rfl rfl fun S hA => (iop_assign rfl rfl (by decide) (sv (d := .osl _ _ _) (agr hA rfl rfl)))) ?_
              exact .nil
            refine iwp_exit ?_
            refine blockQ_x rfl ?_
            refine thenQ_e ?_
            refine blockQ_x rfl ?_
            refine thenQ_e ?_
            refine blockQ_x rfl ?_
            refine thenQ_e ?_
            refine blockQ_x rfl ?_
            refine thenQ_e ?_
            refine blockQ_x rfl ?_
            refine thenQ_e ?_
            refine blockQ_e ?_
            refine thenQ_n ?_
            refine iwp_reg (ils_cons rfl (iop_move rfl rfl (by decide) (sv (d := .osl _ _ _) rfl)) <|
              ils_cons rfl (iop_assign rfl rfl (by decide) (sv (d := .osl _ _ _) rfl)) <|
              ils_end ?_)
            refine iwp_ret ?_
            obtain rfl := Option.some.inj h
            refine ⟨.inr rfl, (fun i => if i = 0 then 1 else i), ⟨.nil, (.cons (.blk rfl rfl rfl) (.cons (EntW.lstR rfl rfl) .nil)), nd_of [1000, 1] rfl (by decide), (fun i hi => by first | rfl | (show (if _ then _ else _) = _; (repeat' split) <;> omega))⟩, (.cons (sv rfl) .nil), rfl⟩
          ·
            replace h := bif_f h hc38
            refine iwp_skip ?_
            refine thenQ_n ?_
            refine iwp_seq ?_
            obtain ⟨x40, hx40, h⟩ := bnd_e h
            refine iwp_reg (ils_cons rfl (iop_cmpx rfl rfl (by decide) (sv (d := .int _ _) rfl) (sv (d := .int _ 3) rfl) rfl hx40) <|
              ils_cons rfl (iop_assign rfl rfl (by decide) (sv (d := .bool _) rfl)) <|
              ils_end ?_)
            refine iwp_cond (b := _) rfl (fun hc41 => ?_) (fun hc41 => ?_)
            ·
              replace h := bif_t h hc41
              refine iwp_exit ?_
              refine thenQ_e ?_
              refine thenQ_e ?_
              refine blockQ_x rfl ?_
              refine thenQ_e ?_
              refine blockQ_x rfl ?_
              refine thenQ_e ?_
              refine blockQ_e ?_
              refine thenQ_n ?_
              obtain ⟨x42, hx42, h⟩ := bno_e h
              refine iwp_drw rfl [⟨[3], [], [(45, .nils)], []⟩,
                ⟨[0], [], [(46, .ref 1000 0)], []⟩,
                ⟨[46], [], [(47, .ref 1000 0)], []⟩,
                ⟨[47], [], [(48, .ref 1000 2)], []⟩,
                ⟨[0], [], [(49, .ref 1000 0)], []⟩,
                ⟨[49], [], [(50, .ref 1000 0)], []⟩,
                ⟨[50], [], [(51, .ref 1000 6)], []⟩,
                ⟨[0], [], [(52, .ref 1000 0)], []⟩,
                ⟨[52], [], [(53, .ref 1000 0)], []⟩,
                ⟨[53], [], [(54, .ref 1000 7)], []⟩,
                ⟨[48, 51, 54], [0], [(55, .osl 0 (eRef 1000).sz (([2, 6, 7] : (List Nat)).length))], [(0, .blk 91 (D.flat (([2, 6, 7] : (List Nat)).map (eRef 1000).d)))]⟩,
                ⟨[45, 55], [0, 1], [(56, .osl 1 (eRef 1000).sz x42.length)], [(1, .blk 91 (D.flat (x42.map (eRef 1000).d)))]⟩,
                ⟨[56], [], [(3, .osl 1 (eRef 1000).sz x42.length)], []⟩] rfl ?_ (by kernel_rfl) ?_
              · refine .cons (lop rfl rfl fun S hA => (iop_move rfl rfl (by decide) (sv (d := .nils) (agr hA rfl rfl)))) ?_
                refine .cons (lop rfl rfl fun S hA => (iop_move rfl rfl (by decide) (sv (d := .ref _ _) (agr hA rfl rfl)))) ?_
                refine .cons (lop rfl rfl fun S hA => (iop_nilCheck_ref rfl rfl (by decide) (sv (d := .ref _ _) (agr hA rfl rfl)))) ?_
                refine .cons (lop rfl rfl fun S hA => (iop_fieldAddr_ref rfl rfl (by decide) Try.underlying42 rfl ti3 (by decide) (sv (d := .ref _ _) (agr hA rfl rfl)) (off' := 2) rfl)) ?_
                refine .cons (lop rfl rfl fun S hA => (iop_move rfl rfl (by decide) (sv (d := .ref _ _) (agr hA rfl rfl)))) ?_
                refine .cons (lop rfl rfl fun S hA => (iop_nilCheck_ref rfl rfl (by decide) (sv (d := .ref _ _) (agr hA rfl rfl)))) ?_
                refine .cons (lop rfl rfl fun S hA => (iop_fieldAddr_ref rfl rfl (by decide) Try.underlying42 rfl ti3 (by decide) (sv (d := .ref _ _) (agr hA rfl rfl)) (off' := 6) rfl)) ?_
                refine .cons (lop rfl rfl fun S hA => (iop_move rfl rfl (by decide) (sv (d := .ref _ _) (agr hA rfl rfl)))) ?_
                refine .cons (lop rfl rfl fun S hA => (iop_nilCheck_ref rfl rfl (by decide) (sv (d := .ref _ _) (agr hA rfl rfl)))) ?_
                refine .cons (lop rfl rfl fun S hA => (iop_fieldAddr_ref rfl rfl (by decide) Try.underlying42 rfl ti3 (by decide) (sv (d := .ref _ _) (agr hA rfl rfl)) (off' := 7) rfl)) ?_
                refine .cons (lop rfl rfl fun S hA => (iop_bsO (eRef 1000) ([2, 6, 7] : (List Nat)) 0 rfl rfl (by decide) Try.underlying89 ti91 (agi hA rfl rfl) (.cons (sv (d := .ref _ _) (agr hA rfl rfl)) (.cons (sv (d := .ref _ _) (agr hA rfl rfl)) (.cons (sv (d := .ref _ _) (agr hA rfl rfl)) .nil))) rfl rfl (by decide))) ?_
                refine .cons (lop rfl rfl fun S hA => (iop_appOn (eRef 1000) 1 rfl rfl (by decide) Try.underlying89 ti91 rfl (agr hA rfl rfl) (agi hA rfl rfl) (src_O (eRef 1000) (agr hA rfl rfl) rfl (agi hA rfl rfl)) hx42)) ?_
                refine .cons (lop rfl rfl fun S hA => (iop_assign rfl rfl (by decide) (sv (d := .osl _ _ _) (agr hA rfl rfl)))) ?_
                exact .nil
              refine iwp_exit ?_
              refine blockQ_x rfl ?_
              refine thenQ_e ?_
              refine blockQ_x rfl ?_
              refine thenQ_e ?_
              refine blockQ_x rfl ?_
              refine thenQ_e ?_
              refine blockQ_x rfl ?_
              refine thenQ_e ?_
              refine blockQ_e ?_
              refine thenQ_n ?_
              refine iwp_reg (ils_cons rfl (iop_move rfl rfl (by decide) (sv (d := .osl _ _ _) rfl)) <|
                ils_cons rfl (iop_assign rfl rfl (by decide) (sv (d := .osl _ _ _) rfl)) <|
                ils_end ?_)
              refine iwp_ret ?_
              obtain rfl := Option.some.inj h
              refine ⟨.inr rfl, (fun i => if i = 0 then 1 else i), ⟨.nil, (.cons (.blk rfl rfl rfl) (.cons (EntW.lstR rfl rfl) .nil)), nd_of [1000, 1] rfl (by decide), (fun i hi => by first | rfl | (show (if _ then _ else _) = _; (repeat' split) <;> omega))⟩, (.cons (sv rfl) .nil), rfl⟩
            ·
              replace h := bif_f h hc41
              refine iwp_skip ?_
              refine thenQ_n ?_
              refine iwp_seq ?_
              obtain ⟨x43, hx43, h⟩ := bnd_e h
              refine iwp_reg (ils_cons rfl (iop_cmpx rfl rfl (by decide) (sv (d := .int _ _) rfl) (sv (d := .int _ 7) rfl) rfl hx43) <|
                ils_cons rfl (iop_assign rfl rfl (by decide) (sv (d := .bool _) rfl)) <|
                ils_end ?_)
              refine iwp_cond (b := _) rfl (fun hc44 => ?_) (fun hc44 => ?_)
              ·
                replace h := bif_t h hc44
                refine iwp_exit ?_
                refine thenQ_e ?_
                refine thenQ_e ?_
                refine blockQ_x rfl ?_
                refine thenQ_e ?_
                refine blockQ_x rfl ?_
                refine thenQ_e ?_
                refine blockQ_x rfl ?_
                refine thenQ_e ?_
                refine blockQ_e ?_
                refine thenQ_n ?_
                obtain ⟨x45, hx45, h⟩ := bno_e h
                refine iwp_drw rfl [⟨[3], [], [(57, .nils)], []⟩,
                  ⟨[0], [], [(58, .ref 1000 0)], []⟩,
                  ⟨[58], [], [(59, .ref 1000 0)], []⟩,
                  ⟨[59], [], [(60, .ref 1000 2)], []⟩,
                  ⟨[0], [], [(61, .ref 1000 0)], []⟩,
                  ⟨[61], [], [(62, .ref 1000 0)], []⟩,
                  ⟨[62], [], [(63, .ref 1000 7)], []⟩,
                  ⟨[60, 63], [0], [(64, .osl 0 (eRef 1000).sz (([2, 7] : (List Nat)).length))], [(0, .blk 91 (D.flat (([2, 7] : (List Nat)).map (eRef 1000).d)))]⟩,
                  ⟨[57, 64], [0, 1], [(65, .osl 1 (eRef 1000).sz x45.length)], [(1, .blk 91 (D.flat (x45.map (eRef 1000).d)))]⟩,
                  ⟨[65], [], [(3, .osl 1 (eRef 1000).sz x45.length)], []⟩] rfl ?_ (by kernel_rfl) ?_
                · refine .cons (lop rfl rfl fun S hA => (iop_move rfl rfl (by decide) (sv (d := .nils) (agr hA rfl rfl)))) ?_
                  refine .cons (lop rfl rfl fun S hA => (iop_move rfl rfl (by decide) (sv (d := .ref _ _) (agr hA rfl rfl)))) ?_
                  refine .cons (lop rfl rfl fun S hA => (iop_nilCheck_ref rfl rfl (by decide) (sv (d := .ref _ _) (agr hA rfl rfl)))) ?_
                  refine .cons (lop rfl rfl fun S hA => (iop_fieldAddr_ref rfl rfl (by decide) Try.underlying42 rfl ti3 (by decide) (sv (d := .ref _ _) (agr hA rfl rfl)) (off' := 2) rfl)) ?_
                  refine .cons (lop rfl rfl fun S hA => (iop_move rfl rfl (by decide) (sv (d := .ref _ _) (agr hA rfl rfl)))) ?_
                  refine .cons (lop rfl rfl fun S hA => (iop_nilCheck_ref rfl rfl (by decide) (sv (d := .ref _ _) (agr hA rfl rfl)))) ?_
                  refine .cons (lop rfl rfl fun S hA => (iop_fieldAddr_ref rfl rfl (by decide) Try.underlying42 rfl ti3 (by decide) (sv (d := .ref _ _) (agr hA rfl rfl)) (off' := 7) rfl)) ?_
                  refine .cons (lop rfl rfl fun S hA => (iop_bsO (eRef 1000) ([2, 7] : (List Nat)) 0 rfl rfl (by decide) Try.underlying89 ti91 (agi hA rfl rfl) (.cons (sv (d := .ref _ _) (agr hA rfl rfl)) (.cons (sv (d := .ref _ _) (agr hA rfl rfl)) .nil)) rfl rfl (by decide))) ?_
                  refine .cons (lop rfl rfl fun S hA => (iop_appOn (eRef 1000) 1 rfl rfl (by decide) Try.underlying89 ti91 rfl (agr hA rfl rfl) (agi hA rfl rfl) (src_O (eRef 1000) (agr hA rfl rfl) rfl (agi hA rfl rfl)) hx45)) ?_
                  refine .cons (lop rfl rfl fun S hA => (iop_assign rfl rfl (by decide) (sv (d := .osl _ _ _) (agr hA rfl rfl)))) ?_
                  exact .nil
                refine iwp_exit ?_
                refine blockQ_x rfl ?_
                refine thenQ_e ?_
                refine blockQ_x rfl ?_
                refine thenQ_e ?_
                refine blockQ_x rfl ?_
                refine thenQ_e ?_
                refine blockQ_e ?_
                refine thenQ_n ?_
                refine iwp_reg (ils_cons rfl (iop_move rfl rfl (by decide) (sv (d := .osl _ _ _) rfl)) <|
                  ils_cons rfl (iop_assign rfl rfl (by decide) (sv (d := .osl _ _ _) rfl)) <|
                  ils_end ?_)
                refine iwp_ret ?_
                obtain rfl := Option.some.inj h
                refine ⟨.inr rfl, (fun i => if i = 0 then 1 else i), ⟨.nil, (.cons (.blk rfl rfl rfl) (.cons (EntW.lstR rfl rfl) .nil)), nd_of [1000, 1] rfl (by decide), (fun i hi => by first | rfl | (show (if _ then _ else _) = _; (repeat' split) <;> omega))⟩, (.cons (sv rfl) .nil), rfl⟩
              ·
                replace h := bif_f h hc44
                refine iwp_skip ?_
                refine thenQ_n ?_
                refine iwp_seq ?_
                obtain ⟨x46, hx46, h⟩ := bnd_e h
                refine iwp_reg (ils_cons rfl (iop_cmpx rfl rfl (by decide) (sv (d := .int _ _) rfl) (sv (d := .int _ 8) rfl) rfl hx46) <|
                  ils_cons rfl (iop_assign rfl rfl (by decide) (sv (d := .bool _) rfl)) <|
                  ils_end ?_)
                refine iwp_cond (b := _) rfl (fun hc47 => ?_) (fun hc47 => ?_)
                ·
                  replace h := bif_t h hc47
                  refine iwp_exit ?_
                  refine thenQ_e ?_
                  refine thenQ_e ?_
                  refine blockQ_x rfl ?_
                  refine thenQ_e ?_
                  refine blockQ_x rfl ?_
                  refine thenQ_e ?_
                  refine blockQ_x rfl ?_
                  refine thenQ_e ?_
                  refine blockQ_x rfl ?_
                  refine thenQ_e ?_
                  refine blockQ_e ?_
                  refine thenQ_n ?_
                  obtain ⟨x48, hx48, h⟩ := bno_e h
                  refine iwp_region (ils_cons rfl (iop_move rfl rfl (by decide) (sv (d := .nils) rfl)) <|
                    ils_cons rfl (iop_move rfl rfl (by decide) (sv (d := .ref _ _) rfl)) <|
                    ils_cons rfl (iop_nilCheck_ref rfl rfl (by decide) (sv (d := .ref _ _) rfl)) <|
                    ils_cons rfl (iop_fieldAddr_ref rfl rfl (by decide) Try.underlying42 rfl ti3 (by decide) (sv (d := .ref _ _) rfl) (off' := 2) rfl) <|
                    ils_cons rfl (iop_bsO (eRef 1000) ([2] : (List Nat)) 0 rfl rfl (by decide) Try.underlying89 ti91 rfl (.cons (sv (d := .ref _ _) rfl) .nil) rfl rfl (by decide)) <|
                    ils_cons rfl (iop_appOn (eRef 1000) 1 rfl rfl (by decide) Try.underlying89 ti91 rfl rfl rfl (src_O (eRef 1000) rfl rfl rfl) hx48) <|
                    ils_cons rfl (iop_assign rfl rfl (by decide) (sv (d := .osl _ _ _) rfl)) <|
                    ils_nil ?_)
                  refine blockQ_n ?_
                  refine thenQ_n ⟨x48, (fun i => i), ⟨(.cons (.same rfl rfl) (.cons (.same rfl rfl) .nil)), (.cons (.blk rfl rfl rfl) (.cons (EntW.lstR rfl rfl) .nil)), nd_of [1000, 1] rfl (by decide), (fun i hi => by first | rfl | (show (if _ then _ else _) = _; (repeat' split) <;> omega))⟩, ?_⟩
                  exact h
                ·
                  replace h := bif_f h hc47
                  refine iwp_skip ?_
                  refine thenQ_n ?_
                  refine iwp_seq ?_
                  obtain ⟨x49, hx49, h⟩ := bnd_e h
                  refine iwp_reg (ils_cons rfl (iop_cmpx rfl rfl (by decide) (sv (d := .int _ _) rfl) (sv (d := .int _ 6) rfl) rfl hx49) <|
                    ils_cons rfl (iop_assign rfl rfl (by decide) (sv (d := .bool _) rfl)) <|
                    ils_end ?_)
                  refine iwp_cond (b := _) rfl (fun hc50 => ?_) (fun hc50 => ?_)
                  ·
                    replace h := bif_t h hc50
                    refine iwp_exit ?_
                    refine thenQ_e ?_
                    refine thenQ_e ?_
                    refine blockQ_x rfl ?_
                    refine thenQ_e ?_
                    refine blockQ_x rfl ?_
                    refine thenQ_e ?_
                    refine blockQ_x rfl ?_
                    refine thenQ_e ?_
                    refine blockQ_x rfl ?_
                    refine thenQ_e ?_
                    refine blockQ_x rfl ?_
                    refine thenQ_e ?_
                    refine blockQ_e ?_
                    refine thenQ_n ⟨([] : (List Nat)), (fun i => if i = 1 then 51 else i), ⟨(.cons (.same rfl rfl) (.cons (.nilo rfl) .nil)), (.cons (.blk rfl rfl rfl) (.cons (.nilb rfl) .nil)), nd_of [1000, 51] rfl (by decide), (fun i hi => by first | rfl | (show (if _ then _ else _) = _; (repeat' split) <;> omega))⟩, ?_⟩
                    exact h
                  ·
                    replace h := bif_f h hc50
                    refine iwp_skip ?_
                    refine thenQ_n ?_
                    obtain ⟨x51, hx51, h⟩ := bnd_e h
                    refine iwp_reg (ils_cons rfl (iop_cmpx rfl rfl (by decide) (sv (d := .int _ _) rfl) (sv (d := .int _ 10) rfl) rfl hx51) <|
                      ils_cons rfl (iop_assign rfl rfl (by decide) (sv (d := .bool _) rfl)) <|
                      ils_end ?_)
                    refine iwp_cond (b := _) rfl (fun hc52 => ?_) (fun hc52 => ?_)
                    ·
                      replace h := bif_t h hc52
                      refine iwp_exit ?_
                      refine thenQ_e ?_
                      refine blockQ_x rfl ?_
                      refine thenQ_e ?_
                      refine blockQ_x rfl ?_
                      refine thenQ_e ?_
                      refine blockQ_x rfl ?_
                      refine thenQ_e ?_
                      refine blockQ_x rfl ?_
                      refine thenQ_e ?_
                      refine blockQ_x rfl ?_
                      refine thenQ_e ?_
                      refine blockQ_x rfl ?_
                      refine thenQ_e ?_
                      refine blockQ_e ?_
                      refine thenQ_n ?_
                      obtain ⟨x53, hx53, h⟩ := bno_e h
                      refine iwp_drw rfl [⟨[3], [], [(78, .nils)], []⟩,
                        ⟨[0], [], [(79, .ref 1000 0)], []⟩,
                        ⟨[79], [], [(80, .ref 1000 0)], []⟩,
                        ⟨[80], [], [(81, .ref 1000 6)], []⟩,
                        ⟨[0], [], [(82, .ref 1000 0)], []⟩,
                        ⟨[82], [], [(83, .ref 1000 0)], []⟩,
                        ⟨[83], [], [(84, .ref 1000 7)], []⟩,
                        ⟨[81, 84], [0], [(85, .osl 0 (eRef 1000).sz (([6, 7] : (List Nat)).length))], [(0, .blk 91 (D.flat (([6, 7] : (List Nat)).map (eRef 1000).d)))]⟩,
                        ⟨[78, 85], [0, 1], [(86, .osl 1 (eRef 1000).sz x53.length)], [(1, .blk 91 (D.flat (x53.map (eRef 1000).d)))]⟩,
                        ⟨[86], [], [(3, .osl 1 (eRef 1000).sz x53.length)], []⟩] rfl ?_ (by kernel_rfl) ?_
                      · refine .cons (lop rfl rfl fun S hA => (iop_move rfl rfl (by decide) (sv (d := .nils) (agr hA rfl rfl)))) ?_
                        refine .cons (lop rfl rfl fun S hA => (iop_move rfl rfl (by decide) (sv (d := .ref _ _) (agr hA rfl rfl)))) ?_
                        refine .cons (lop rfl rfl fun S hA => (iop_nilCheck_ref rfl rfl (by decide) (sv (d := .ref _ _) (agr hA rfl rfl)))) ?_
                        refine .cons (lop rfl rfl fun S hA => (iop_fieldAddr_ref rfl rfl (by decide) Try.underlying42 rfl ti3 (by decide) (sv (d := .ref _ _) (agr hA rfl rfl)) (off' := 6) rfl)) ?_
                        refine .cons (lop rfl rfl fun S hA => (iop_move rfl rfl (by decide) (sv (d := .ref _ _) (agr hA rfl rfl)))) ?_
                        refine .cons (lop rfl rfl fun S hA => (iop_nilCheck_ref rfl rfl (by decide) (sv (d := .ref _ _) (agr hA rfl rfl)))) ?_
                        refine .cons (lop rfl rfl fun S hA => (iop_fieldAddr_ref rfl rfl (by decide) Try.underlying42 rfl ti3 (by decide) (sv (d := .ref _ _) (agr hA rfl rfl)) (off' := 7) rfl)) ?_
                        refine .cons (lop rfl rfl fun S hA => (iop_bsO (eRef 1000) ([6, 7] : (List Nat)) 0 rfl rfl (by decide) Try.underlying89 ti91 (agi hA rfl rfl) (.cons (sv (d := .ref _ _) (agr hA rfl rfl)) (.cons (sv (d := .ref _ _) (agr hA rfl rfl)) .nil)) rfl rfl (by decide))) ?_
                        refine .cons (lop rfl rfl fun S hA => (iop_appOn (eRef 1000) 1 rfl rfl (by decide) Try.underlying89 ti91 rfl (agr hA rfl rfl) (agi hA rfl rfl) (src_O (eRef 1000) (agr hA rfl rfl) rfl (agi hA rfl rfl)) hx53)) ?_
                        refine .cons (lop rfl rfl fun S hA => (iop_assign rfl rfl (by decide) (sv (d := .osl _ _ _) (agr hA rfl rfl)))) ?_
                        exact .nil
                      refine iwp_exit ?_
                      refine blockQ_e ?_
                      refine thenQ_n ?_
                      refine iwp_reg (ils_cons rfl (iop_move rfl rfl (by decide) (sv (d := .osl _ _ _) rfl)) <|
                        ils_cons rfl (iop_assign rfl rfl (by decide) (sv (d := .osl _ _ _) rfl)) <|
                        ils_end ?_)
                      refine iwp_ret ?_
                      obtain rfl := Option.some.inj h
                      refine ⟨.inr rfl, (fun i => if i = 0 then 1 else i), ⟨.nil, (.cons (.blk rfl rfl rfl) (.cons (EntW.lstR rfl rfl) .nil)), nd_of [1000, 1] rfl (by decide), (fun i hi => by first | rfl | (show (if _ then _ else _) = _; (repeat' split) <;> omega))⟩, (.cons (sv rfl) .nil), rfl⟩
                    ·
                      replace h := bif_f h hc52
                      refine iwp_skip ?_
                      refine thenQ_n ?_
                      refine iwp_exit ?_
                      refine blockQ_x rfl ?_
                      refine thenQ_e ?_
                      refine blockQ_x rfl ?_
                      refine thenQ_e ?_
                      refine blockQ_x rfl ?_
                      refine thenQ_e ?_
                      refine blockQ_x rfl ?_
                      refine thenQ_e ?_
                      refine blockQ_x rfl ?_
                      refine thenQ_e ?_
                      refine blockQ_x rfl ?_
                      refine thenQ_e ?_
                      refine blockQ_x rfl ?_
                      refine thenQ_e ?_
                      refine blockQ_e ?_
                      refine thenQ_n ?_
                      refine iwp_reg (ils_cons rfl (iop_move rfl rfl (by decide) (sv (d := .nils) rfl)) <|
                        ils_cons rfl (iop_assign rfl rfl (by decide) (sv (d := .nils) rfl)) <|
                        ils_end ?_)
                      refine iwp_ret ?_
                      obtain rfl := Option.some.inj h
                      refine ⟨.inr rfl, (fun i => if i = 0 then 50 else i), ⟨.nil, (.cons (.blk rfl rfl rfl) (.cons (.nilb rfl) .nil)), nd_of [1000, 50] rfl (by decide), (fun i hi => by first | rfl | (show (if _ then _ else _) = _; (repeat' split) <;> omega))⟩, (.cons (svno rfl) .nil), rfl⟩
  ·
    rintro v26 h
    unfold frame_Frame_numbers_h_J0 at h
    obtain ⟨x27, hx27, h⟩ := bno_e h
    refine iwp_reg (ils_cons rfl (iop_move rfl rfl (by decide) (sv (d := .osl _ _ _) rfl)) <|
      ils_cons rfl (iop_move rfl rfl (by decide) (sv (d := .ref _ _) rfl)) <|
      ils_cons rfl (iop_nilCheck_ref rfl rfl (by decide) (sv (d := .ref _ _) rfl)) <|
      ils_cons rfl (iop_fieldAddr_ref rfl rfl (by decide) Try.underlying42 rfl ti3 (by decide) (sv (d := .ref _ _) rfl) (off' := 6) rfl) <|
      ils_cons rfl (iop_bsO (eRef 1000) ([6] : (List Nat)) 2 rfl rfl (by decide) Try.underlying89 ti91 rfl (.cons (sv (d := .ref _ _) rfl) .nil) rfl rfl (by decide)) <|
      ils_cons rfl (iop_appO (eRef 1000) 3 rfl rfl (by decide) Try.underlying89 ti91 rfl rfl rfl rfl rfl (src_O (eRef 1000) rfl rfl rfl) hx27) <|
      ils_cons rfl (iop_assign rfl rfl (by decide) (sv (d := .osl _ _ _) rfl)) <|
      ils_end ?_)
    refine iwp_exit ?_
    refine blockQ_x rfl ?_
    refine thenQ_e ?_
    refine blockQ_e ?_
    refine thenQ_n ?_
    refine iwp_reg (ils_cons rfl (iop_move rfl rfl (by decide) (sv (d := .osl _ _ _) rfl)) <|
      ils_cons rfl (iop_assign rfl rfl (by decide) (sv (d := .osl _ _ _) rfl)) <|
      ils_end ?_)
    refine iwp_ret ?_
    obtain rfl := Option.some.inj h
    refine ⟨.inr rfl, (fun i => if i = 0 then 3 else i), ⟨.nil, (.cons (.blk rfl rfl rfl) (.cons (EntW.lstR rfl rfl) .nil)), nd_of [1000, 3] rfl (by decide), (fun i hi => by first | rfl | (show (if _ then _ else _) = _; (repeat' split) <;> omega))⟩, (.cons (sv rfl) .nil), rfl⟩

set_option maxRecDepth 8000 in
set_option maxHeartbeats 2000000 in
theorem p_frame_flagged (a0 : Int) (r : Bool) (h : frame_flagged a0 = some r) : PureAt Try.prog 61 [.int .u8 a0] (.bool r) := by
  refine pure_of_iwp (rs := [.bool r]) Try.func61 rfl Try.ntmps61 (nle rfl) rfl fun O hO => ?_
  show IWP _ _ _ _ ⟨[(0, .int .u8 a0)], []⟩ _
  unfold frame_flagged at h
  refine iwp_reg (ils_cons rfl (iop_assign rfl rfl (by decide) (sv (d := .bool false) rfl)) <|
    ils_end ?_)
  refine iwp_seq ?_
  refine iwp_reg (ils_cons rfl (iop_move rfl rfl (by decide) (sv (d := .int _ _) rfl)) <|
    ils_end ?_)
  refine iwp_block ?_
  refine iwp_seq ?_
  obtain ⟨x1, hx1, h⟩ := bnd_e h
  refine iwp_reg (ils_cons rfl (iop_cmpx rfl rfl (by decide) (sv (d := .int _ _) rfl) (sv (d := .int _ 0) rfl) rfl hx1) <|
    ils_cons rfl (iop_assign rfl rfl (by decide) (sv (d := .bool _) rfl)) <|
    ils_end ?_)
  refine iwp_cond (b := _) rfl (fun hc2 => ?_) (fun hc2 => ?_)
  ·
    replace h := bif_t h hc2
    refine iwp_skip ?_
    refine thenQ_n ?_
    refine iwp_cond_t rfl hc2 ?_
    refine iwp_reg (ils_cons rfl (iop_assign rfl rfl (by decide) (sv (d := .bool true) rfl)) <|
      ils_end ?_)
    refine iwp_ret ?_
    refine blockQ_r ?_
    refine thenQ_r ?_
    obtain rfl := Option.some.inj h
    refine ⟨.inr rfl, (.cons (sv rfl) .nil)⟩
  ·
    replace h := bif_f h hc2
    obtain ⟨x3, hx3, h⟩ := bnd_e h
    refine iwp_reg (ils_cons rfl (iop_cmpx rfl rfl (by decide) (sv (d := .int _ _) rfl) (sv (d := .int _ 1) rfl) rfl hx3) <|
      ils_cons rfl (iop_assign rfl rfl (by decide) (sv (d := .bool _) rfl)) <|
      ils_end ?_)
    refine iwp_cond (b := _) rfl (fun hc4 => ?_) (fun hc4 => ?_)
    ·
      replace h := bif_t h hc4
      refine iwp_skip ?_
      refine thenQ_n ?_
      refine iwp_cond_t rfl hc4 ?_
      refine iwp_reg (ils_cons rfl (iop_assign rfl rfl (by decide) (sv (d := .bool true) rfl)) <|
        ils_end ?_)
      refine iwp_ret ?_
      refine blockQ_r ?_
      refine thenQ_r ?_
      obtain rfl := Option.some.inj h
      refine ⟨.inr rfl, (.cons (sv rfl) .nil)⟩
    ·
      replace h := bif_f h hc4
      obtain ⟨x5, hx5, h⟩ := bnd_e h
      refine iwp_reg (ils_cons rfl (iop_cmpx rfl rfl (by decide) (sv (d := .int _ _) rfl) (sv (d := .int _ 2) rfl) rfl hx5) <|
        ils_cons rfl (iop_assign rfl rfl (by decide) (sv (d := .bool _) rfl)) <|
        ils_end ?_)
      refine iwp_cond (b := _) rfl (fun hc6 => ?_) (fun hc6 => ?_)
      ·
        replace h := bif_t h hc6
        refine iwp_skip ?_
        refine thenQ_n ?_
        refine iwp_cond_t rfl hc6 ?_
        refine iwp_reg (ils_cons rfl (iop_assign rfl rfl (by decide) (sv (d := .bool true) rfl)) <|
          ils_end ?_)
        refine iwp_ret ?_
        refine blockQ_r ?_
        refine thenQ_r ?_
        obtain rfl := Option.some.inj h
        refine ⟨.inr rfl, (.cons (sv rfl) .nil)⟩
      ·
        replace h := bif_f h hc6
        obtain ⟨x7, hx7, h⟩ := bnd_e h
        refine iwp_reg (ils_cons rfl (iop_cmpx rfl rfl (by decide) (sv (d := .int _ _) rfl) (sv (d := .int _ 4) rfl) rfl hx7) <|
          ils_cons rfl (iop_assign rfl rfl (by decide) (sv (d := .bool _) rfl)) <|
          ils_end ?_)
        refine iwp_cond (b := _) rfl (fun hc8 => ?_) (fun hc8 => ?_)
        ·
          replace h := bif_t h hc8
          refine iwp_skip ?_
          refine thenQ_n ?_
          refine iwp_cond_t rfl hc8 ?_
          refine iwp_reg (ils_cons rfl (iop_assign rfl rfl (by decide) (sv (d := .bool true) rfl)) <|
            ils_end ?_)
          refine iwp_ret ?_
          refine blockQ_r ?_
          refine thenQ_r ?_
          obtain rfl := Option.some.inj h
          refine ⟨.inr rfl, (.cons (sv rfl) .nil)⟩
        ·
          replace h := bif_f h hc8
          obtain ⟨x9, hx9, h⟩ := bnd_e h
          refine iwp_reg (ils_cons rfl (iop_cmpx rfl rfl (by decide) (sv (d := .int _ _) rfl) (sv (d := .int _ 6) rfl) rfl hx9) <|
            ils_cons rfl (iop_assign rfl rfl (by decide) (sv (d := .bool _) rfl)) <|
            ils_end ?_)
          refine iwp_cond (b := _) rfl (fun hc10 => ?_) (fun hc10 => ?_)
          ·
            replace h := bif_t h hc10
            refine iwp_skip ?_
            refine thenQ_n ?_
            refine iwp_cond_t rfl hc10 ?_
            refine iwp_reg (ils_cons rfl (iop_assign rfl rfl (by decide) (sv (d := .bool true) rfl)) <|
              ils_end ?_)
            refine iwp_ret ?_
            refine blockQ_r ?_
            refine thenQ_r ?_
            obtain rfl := Option.some.inj h
            refine ⟨.inr rfl, (.cons (sv rfl) .nil)⟩
          ·
            replace h := bif_f h hc10
            obtain ⟨x11, hx11, h⟩ := bnd_e h
            refine iwp_region (ils_cons rfl (iop_cmpx rfl rfl (by decide) (sv (d := .int _ _) rfl) (sv (d := .int _ 9) rfl) rfl hx11) <|
              ils_cons rfl (iop_assign rfl rfl (by decide) (sv (d := .bool _) rfl)) <|
              ils_nil ?_)
            refine thenQ_n ?_
            refine iwp_cond (b := _) rfl (fun hc12 => ?_) (fun hc12 => ?_)
            ·
              replace h := bif_t h hc12
              refine iwp_reg (ils_cons rfl (iop_assign rfl rfl (by decide) (sv (d := .bool true) rfl)) <|
                ils_end ?_)
              refine iwp_ret ?_
              refine blockQ_r ?_
              refine thenQ_r ?_
              obtain rfl := Option.some.inj h
              refine ⟨.inr rfl, (.cons (sv rfl) .nil)⟩
            ·
              replace h := bif_f h hc12
              refine iwp_skip ?_
              refine blockQ_n ?_
              refine thenQ_n ?_
              refine iwp_reg (ils_cons rfl (iop_assign rfl rfl (by decide) (sv (d := .bool false) rfl)) <|
                ils_end ?_)
              refine iwp_ret ?_
              obtain rfl := Option.some.inj h
              refine ⟨.inr rfl, (.cons (sv rfl) .nil)⟩

set_option maxRecDepth 8000 in
set_option maxHeartbeats 2000000 in
theorem p_frame_Frame_bare (a0 : T_frame_Frame) (r : T_frame_Frame) (h : frame_Frame_bare a0 = some r) : PureAt Try.prog 39 [.agg [.int .u8 a0.Kind, .bool a0.Flag, .int .i64 a0.Stream, .int .i64 a0.Offset, .int .i64 a0.Dep, .int .i64 a0.Weight, .int .i64 a0.N, .int .i64 a0.Code, .slice false (a0.Pairs.map E_api_Pair.d), .str a0.Data]] (.agg [.int .u8 r.Kind, .bool r.Flag, .int .i64 r.Stream, .int .i64 r.Offset, .int .i64 r.Dep, .int .i64 r.Weight, .int .i64 r.N, .int .i64 r.Code, .slice false (r.Pairs.map E_api_Pair.d), .str r.Data]) := by
  refine pure_of_iwp (rs := [.agg [.int .u8 r.Kind, .bool r.Flag, .int .i64 r.Stream, .int .i64 r.Offset, .int .i64 r.Dep, .int .i64 r.Weight, .int .i64 r.N, .int .i64 r.Code, .slice false (r.Pairs.map E_api_Pair.d), .str r.Data]]) Try.func39 rfl Try.ntmps39 (nle rfl) rfl fun O hO => ?_
  show IWP _ _ _ _ ⟨[(0, .agg [.int .u8 a0.Kind, .bool a0.Flag, .int .i64 a0.Stream, .int .i64 a0.Offset, .int .i64 a0.Dep, .int .i64 a0.Weight, .int .i64 a0.N, .int .i64 a0.Code, .slice false (a0.Pairs.map E_api_Pair.d), .str a0.Data])], []⟩ _
  unfold frame_Frame_bare at h
  refine iwp_reg (ils_cons rfl (iop_box' (cs := [.int _ _, .bool _, .int _ _, .int _ _, .int _ _, .int _ _, .int _ _, .int _ _, .slice _ _, .str _]) 0 rfl rfl (by decide) rfl (sv (d := .agg [.int _ _, .bool _, .int _ _, .int _ _, .int _ _, .int _ _, .int _ _, .int _ _, .slice _ _, .str _]) rfl) rfl rfl) <|
    ils_cons rfl (iop_allocS (cs := [.int _ _, .bool _, .int _ _, .int _ _, .int _ _, .int _ _, .int _ _, .int _ _, .nils, .str _]) (cs' := [.int .u8 0, .bool false, .int .i64 0, .int .i64 0, .int .i64 0, .int .i64 0, .int .i64 0, .int .i64 0, .slice false (([] : List T_api_Pair).map E_api_Pair.d), .str []]) 1 rfl rfl (by decide) rfl ti42 rfl rfl (.cons (.refl _) (.cons (.refl _) (.cons (.refl _) (.cons (.refl _) (.cons (.refl _) (.cons (.refl _) (.cons (.refl _) (.cons (.refl _) (.cons (.nils _) (.cons (.refl _) .nil))))))))))) <|
    ils_end ?_)
  refine iwp_seq ?_
  obtain ⟨x1, hx1, h⟩ := bno_e h
  refine iwp_reg (ils_cons rfl (iop_callh2 (r' := .osl 2 (eRef 0).sz x1.length) (H1' := [(0, .blk 42 [.int .u8 a0.Kind, .bool a0.Flag, .int .i64 a0.Stream, .int .i64 a0.Offset, .int .i64 a0.Dep, .int .i64 a0.Weight, .int .i64 a0.N, .int .i64 a0.Code, .slice false (a0.Pairs.map E_api_Pair.d), .str a0.Data]), (2, .blk 91 (D.flat (x1.map (eRef 0).d)))]) 2 [0] rfl rfl (by decide) cl50 (.cons (sv (d := .ref _ _) rfl) .nil) rfl rfl ⟨rfl, rfl, by decide, rfl, List.forall_mem_cons.2 ⟨⟨rfl, rfl, rfl, rfl⟩, List.forall_mem_nil _⟩⟩ (p_frame_Frame_numbers_h _ _ hx1) rfl rfl (List.forall_mem_cons.2 ⟨⟨rfl, rfl⟩, List.forall_mem_cons.2 ⟨⟨rfl, (handRr rfl)⟩, List.forall_mem_nil _⟩⟩) (by simp only [List.map_cons, List.map_nil, Ent.ren, renL_flat, renL_ref]; rfl)) <|
    ils_cons rfl (iop_lenO rfl rfl (by decide) Try.underlying89 (sv (d := .osl _ _ _) rfl)) <|
    ils_cons rfl (iop_move rfl rfl (by decide) (sv (d := .int _ 0) rfl)) <|
    ils_end ?_)
  refine iwp_block ?_
  refine iwp_loopP (α := Nat × Int × Int × Int × Int × Int × Int × Int) (fun z => ⟨[(1, .ref 0 0), (2, .ref 1 0), (5, .osl 2 (eRef 0).sz x1.length), (6, .int .i64 (x1.length : Int)), (7, .int .i64 z.2.1)], [(0, .blk 42 [.int .u8 a0.Kind, .bool a0.Flag, .int .i64 z.2.2.1, .int .i64 z.2.2.2.1, .int .i64 z.2.2.2.2.1, .int .i64 z.2.2.2.2.2.1, .int .i64 z.2.2.2.2.2.2.1, .int .i64 z.2.2.2.2.2.2.2, .slice false (a0.Pairs.map E_api_Pair.d), .str a0.Data]), (1, .blk 42 [.int .u8 0, .bool false, .int .i64 0, .int .i64 0, .int .i64 0, .int .i64 0, .int .i64 0, .int .i64 0, .slice false (([] : List T_api_Pair).map E_api_Pair.d), .str []]), (2, .blk 91 (D.flat (x1.map (eRef 0).d)))]⟩) (fun z => frame_Frame_bare_L0 a0 x1 z.1 z.2.1 z.2.2.1 z.2.2.2.1 z.2.2.2.2.1 z.2.2.2.2.2.1 z.2.2.2.2.2.2.1 z.2.2.2.2.2.2.2 = some r) (fun z => z.1) (fuel, 0, a0.Stream, a0.Offset, a0.Dep, a0.Weight, a0.N, a0.Code) (fun i => i) ⟨(.cons (.same rfl rfl) (.cons (.same rfl rfl) (.cons (.same rfl rfl) (.cons (.same rfl rfl) (.cons (.same rfl rfl) .nil))))), (.cons (.blk rfl rfl rfl) (.cons (.blk rfl rfl rfl) (.cons (EntW.lstR rfl rfl) .nil))), nd_of [0, 1, 2] rfl (by decide), (fun i hi => by first | rfl | (show (if _ then _ else _) = _; (repeat' split) <;> omega))⟩ ?_ ?_
  · exact h
  ·
    rintro ⟨n0, v8, v9, v10, v11, v12, v13, v14⟩ h
    cases n0 with
    | zero => exact absurd h (by unfold frame_Frame_bare_L0; exact nofun)
    | succ n0 =>
      unfold frame_Frame_bare_L0 at h
      obtain ⟨x21, hx21, h⟩ := bnd_e h
      refine iwp_reg (ils_cons rfl (iop_cmpx rfl rfl (by decide) (sv (d := .int _ _) rfl) (sv (d := .int _ _) rfl) rfl hx21) <|
        ils_end ?_)
      refine iwp_seq ?_
      refine iwp_cond (b := _) rfl (fun hc22 => ?_) (fun hc22 => ?_)
      ·
        replace h := bif_t h hc22
        refine iwp_skip ?_
        refine thenQ_n ?_
        refine iwp_seq ?_
        refine iwp_block ?_
        obtain ⟨x23, hx23, h⟩ := bno_e h
        obtain ⟨x24, hx24, h⟩ := bno_e h
        refine iwp_reg (ils_cons rfl (iop_idxO (eRef 0) rfl rfl (by decide) Try.underlying89 ti91 (sv (d := .osl _ _ _) rfl) rfl (sv (d := .int _ _) rfl) hx23) <|
          ils_cons rfl (iop_loadEs (eRef 0) (d := .ref _ _) rfl rfl (by decide) Try.underlying91 ag91 ti91 (by decide) (sv (d := .ref _ _) rfl) rfl hx24 (nle rfl) rfl) <|
          ils_cons rfl (iop_assign rfl rfl (by decide) (sv (d := .ref _ _) rfl)) <|
          ils_end ?_)
        obtain ⟨x25, hx25, h⟩ := bno_e h
        refine iwp_region (ils_cons rfl (iop_move rfl rfl (by decide) (sv (d := .ref _ _) rfl)) <|
          ils_cons rfl (iop_nilCheck_ref rfl rfl (by decide) (sv (d := .ref _ _) rfl)) <|
          ils_cons rfl (iop_store_sym (cs' := [.int .u8 a0.Kind, .bool a0.Flag, .int .i64 (bif Nat.beq x24 2 then 0 else v9), .int .i64 (bif Nat.beq x24 3 then 0 else v10), .int .i64 (bif Nat.beq x24 4 then 0 else v11), .int .i64 (bif Nat.beq x24 5 then 0 else v12), .int .i64 (bif Nat.beq x24 6 then 0 else v13), .int .i64 (bif Nat.beq x24 7 then 0 else v14), .slice false (a0.Pairs.map E_api_Pair.d), .str a0.Data]) rfl rfl ti3 (sv (d := .ref _ _) rfl) rfl (sv (d := .int _ 0) rfl) hx25 rfl) <|
          ils_nil ?_)
        refine blockQ_n ?_
        refine thenQ_n ?_
        obtain ⟨x26, hx26, h⟩ := bnd_e h
        refine iwp_region (ils_cons rfl (iop_intx rfl rfl (by decide) (sv (d := .int _ _) rfl) (sv (d := .int _ 1) rfl) rfl hx26) <|
          ils_cons rfl (iop_move rfl rfl (by decide) (sv (d := .int _ _) rfl)) <|
          ils_nil ?_)
        refine thenQ_n ⟨(n0, x26, (bif Nat.beq x24 2 then 0 else v9), (bif Nat.beq x24 3 then 0 else v10), (bif Nat.beq x24 4 then 0 else v11), (bif Nat.beq x24 5 then 0 else v12), (bif Nat.beq x24 6 then 0 else v13), (bif Nat.beq x24 7 then 0 else v14)), (fun i => i), ⟨(.cons (.same rfl rfl) (.cons (.same rfl rfl) (.cons (.same rfl rfl) (.cons (.same rfl rfl) (.cons (.same rfl rfl) .nil))))), (.cons (.blk rfl rfl rfl) (.cons (.blk rfl rfl rfl) (.cons (EntW.lstR rfl rfl) .nil))), nd_of [0, 1, 2] rfl (by decide), (fun i hi => by first | rfl | (show (if _ then _ else _) = _; (repeat' split) <;> omega))⟩, ?_, ?_⟩
        exact h
        exact Nat.lt_succ_self _
      ·
        replace h := bif_f h hc22
        refine iwp_exit ?_
        refine thenQ_e ?_
        refine thenQ_e ?_
        refine blockQ_e ?_
        refine thenQ_n ?_
        refine iwp_join (α := (List T_api_Pair) × (List UInt8)) (fun z => ⟨[(1, .ref 0 0), (2, .ref 1 0)], [(0, .blk 42 [.int .u8 a0.Kind, .bool a0.Flag, .int .i64 v9, .int .i64 v10, .int .i64 v11, .int .i64 v12, .int .i64 v13, .int .i64 v14, .slice false (z.1.map E_api_Pair.d), .str z.2]), (1, .blk 42 [.int .u8 0, .bool false, .int .i64 0, .int .i64 0, .int .i64 0, .int .i64 0, .int .i64 0, .int .i64 0, .slice false (([] : List T_api_Pair).map E_api_Pair.d), .str []])]⟩) (fun z => frame_Frame_bare_J1 a0 v9 v10 v11 v12 v13 v14 z.1 z.2 = some r) ?_ ?_
        ·
          refine iwp_reg (ils_cons rfl (iop_fieldAddr_ref rfl rfl (by decide) Try.underlying42 rfl ti5 (by decide) (sv (d := .ref _ _) rfl) (off' := 0) rfl) <|
            ils_cons rfl (iop_load_rs (d := .int _ _) rfl rfl (by decide) Try.underlying5 ag5 ti5 (by decide) (sv (d := .ref _ _) rfl) rfl (nle rfl) rfl) <|
            ils_end ?_)
          refine iwp_block ?_
          obtain ⟨x36, hx36, h⟩ := bnd_e h
          refine iwp_reg (ils_cons rfl (iop_cmpx rfl rfl (by decide) (sv (d := .int _ _) rfl) (sv (d := .int _ 0) rfl) rfl hx36) <|
            ils_cons rfl (iop_assign rfl rfl (by decide) (sv (d := .bool _) rfl)) <|
            ils_end ?_)
          refine iwp_cond (b := _) rfl (fun hc37 => ?_) (fun hc37 => ?_)
          ·
            replace h := bif_t h hc37
            refine iwp_region (ils_cons rfl (iop_fieldAddr_ref rfl rfl (by decide) Try.underlying42 rfl ti9 (by decide) (sv (d := .ref _ _) rfl) (off' := 9) rfl) <|
              ils_cons rfl (iop_store (ds' := [.int _ _, .bool _, .int _ _, .int _ _, .int _ _, .int _ _, .int _ _, .int _ _, .slice _ _, .str _]) rfl rfl ti9 (sv (d := .ref _ _) rfl) rfl (sv (d := .str []) rfl) rfl rfl rfl (nle rfl) rfl) <|
              ils_nil ?_)
            refine blockQ_n ?_
            refine thenQ_n ⟨(a0.Pairs, ([] : (List UInt8))), (fun i => i), ⟨(.cons (.same rfl rfl) (.cons (.same rfl rfl) .nil)), (.cons (.blk rfl rfl rfl) (.cons (.blk rfl rfl rfl) .nil)), nd_of [0, 1] rfl (by decide), (fun i hi => by first | rfl | (show (if _ then _ else _) = _; (repeat' split) <;> omega))⟩, ?_⟩
            exact h
          ·
            replace h := bif_f h hc37
            obtain ⟨x38, hx38, h⟩ := bnd_e h
            refine iwp_reg (ils_cons rfl (iop_cmpx rfl rfl (by decide) (sv (d := .int _ _) rfl) (sv (d := .int _ 4) rfl) rfl hx38) <|
              ils_cons rfl (iop_assign rfl rfl (by decide) (sv (d := .bool _) rfl)) <|
              ils_end ?_)
            refine iwp_cond (b := _) rfl (fun hc39 => ?_) (fun hc39 => ?_)
            ·
              replace h := bif_t h hc39
              refine iwp_reg (ils_cons rfl (iop_fieldAddr_ref rfl rfl (by decide) Try.underlying42 rfl ti4 (by decide) (sv (d := .ref _ _) rfl) (off' := 1) rfl) <|
                ils_cons rfl (iop_load_rs (d := .bool _) rfl rfl (by decide) Try.underlying4 ag4 ti4 (by decide) (sv (d := .ref _ _) rfl) rfl (nle rfl) rfl) <|
                ils_cons rfl (iop_not rfl rfl (by decide) (sv (d := .bool _) rfl)) <|
                ils_end ?_)
              refine iwp_cond (b := _) rfl (fun hc40 => ?_) (fun hc40 => ?_)
              ·
                replace h := bif_t h hc40
                refine iwp_region (ils_cons rfl (iop_fieldAddr_ref rfl rfl (by decide) Try.underlying42 rfl ti38 (by decide) (sv (d := .ref _ _) rfl) (off' := 8) rfl) <|
                  ils_cons rfl (iop_store (ds' := [.int _ _, .bool _, .int _ _, .int _ _, .int _ _, .int _ _, .int _ _, .int _ _, .slice false (([] : List T_api_Pair).map E_api_Pair.d), .str _]) rfl rfl ti38 (sv (d := .ref _ _) rfl) rfl (svn rfl) rfl rfl rfl (nle rfl) rfl) <|
                  ils_nil ?_)
                refine blockQ_n ?_
                refine thenQ_n ⟨(([] : (List T_api_Pair)), a0.Data), (fun i => i), ⟨(.cons (.same rfl rfl) (.cons (.same rfl rfl) .nil)), (.cons (.blk rfl rfl rfl) (.cons (.blk rfl rfl rfl) .nil)), nd_of [0, 1] rfl (by decide), (fun i hi => by first | rfl | (show (if _ then _ else _) = _; (repeat' split) <;> omega))⟩, ?_⟩
                exact h
              ·
                replace h := bif_f h hc40
                refine iwp_skip ?_
                refine blockQ_n ?_
                refine thenQ_n ⟨(a0.Pairs, a0.Data), (fun i => i), ⟨(.cons (.same rfl rfl) (.cons (.same rfl rfl) .nil)), (.cons (.blk rfl rfl rfl) (.cons (.blk rfl rfl rfl) .nil)), nd_of [0, 1] rfl (by decide), (fun i hi => by first | rfl | (show (if _ then _ else _) = _; (repeat' split) <;> omega))⟩, ?_⟩
                exact h
            ·
              replace h := bif_f h hc39
              refine iwp_skip ?_
              refine blockQ_n ?_
              refine thenQ_n ⟨(a0.Pairs, a0.Data), (fun i => i), ⟨(.cons (.same rfl rfl) (.cons (.same rfl rfl) .nil)), (.cons (.blk rfl rfl rfl) (.cons (.blk rfl rfl rfl) .nil)), nd_of [0, 1] rfl (by decide), (fun i hi => by first | rfl | (show (if _ then _ else _) = _; (repeat' split) <;> omega))⟩, ?_⟩
              exact h
        ·
          rintro ⟨v32, v33⟩ h
          unfold frame_Frame_bare_J1 at h
          refine iwp_seq ?_
          obtain ⟨x34, hx34, h⟩ := bno_e h
          refine iwp_reg (ils_cons rfl (iop_fieldAddr_ref rfl rfl (by decide) Try.underlying42 rfl ti5 (by decide) (sv (d := .ref _ _) rfl) (off' := 0) rfl) <|
            ils_cons rfl (iop_load_rs (d := .int _ _) rfl rfl (by decide) Try.underlying5 ag5 ti5 (by decide) (sv (d := .ref _ _) rfl) rfl (nle rfl) rfl) <|
            ils_cons rfl (iop_call (r := .bool _) rfl rfl (by decide) cl61 (.cons (sv (d := .int _ _) rfl) .nil) rfl (p_frame_flagged _ _ hx34)) <|
            ils_end ?_)
          refine iwp_cond (b := _) rfl (fun hc35 => ?_) (fun hc35 => ?_)
          ·
            replace h := bif_t h hc35
            refine iwp_region (ils_cons rfl (iop_fieldAddr_ref rfl rfl (by decide) Try.underlying42 rfl ti4 (by decide) (sv (d := .ref _ _) rfl) (off' := 1) rfl) <|
              ils_cons rfl (iop_store (ds' := [.int _ _, .bool _, .int _ _, .int _ _, .int _ _, .int _ _, .int _ _, .int _ _, .slice _ _, .str _]) rfl rfl ti4 (sv (d := .ref _ _) rfl) rfl (sv (d := .bool false) rfl) rfl rfl rfl (nle rfl) rfl) <|
              ils_nil ?_)
            refine thenQ_n ?_
            refine iwp_reg (ils_cons rfl (iop_load_ra (cs := [.int _ _, .bool _, .int _ _, .int _ _, .int _ _, .int _ _, .int _ _, .int _ _, .slice _ _, .str _]) rfl rfl (by decide) Try.underlying42 ag42 ti42 (by decide) (sv (d := .ref _ _) rfl) rfl (nle rfl) rfl) <|
              ils_cons rfl (iop_store (ds' := [.int _ _, .bool _, .int _ _, .int _ _, .int _ _, .int _ _, .int _ _, .int _ _, .slice _ _, .str _]) rfl rfl ti42 (sv (d := .ref _ _) rfl) rfl (sv (d := .agg [.int _ _, .bool _, .int _ _, .int _ _, .int _ _, .int _ _, .int _ _, .int _ _, .slice _ _, .str _]) rfl) rfl rfl rfl (nle rfl) rfl) <|
              ils_end ?_)
            refine iwp_ret ?_
            obtain rfl := Option.some.inj h
            refine ⟨.inr rfl, (.cons (resv_a rfl rfl Try.underlying42 ag42 ti42 (by decide) (nle rfl) rfl) .nil)⟩
          ·
            replace h := bif_f h hc35
            refine iwp_skip ?_
            refine thenQ_n ?_
            refine iwp_reg (ils_cons rfl (iop_load_ra (cs := [.int _ _, .bool _, .int _ _, .int _ _, .int _ _, .int _ _, .int _ _, .int _ _, .slice _ _, .str _]) rfl rfl (by decide) Try.underlying42 ag42 ti42 (by decide) (sv (d := .ref _ _) rfl) rfl (nle rfl) rfl) <|
              ils_cons rfl (iop_store (ds' := [.int _ _, .bool _, .int _ _, .int _ _, .int _ _, .int _ _, .int _ _, .int _ _, .slice _ _, .str _]) rfl rfl ti42 (sv (d := .ref _ _) rfl) rfl (sv (d := .agg [.int _ _, .bool _, .int _ _, .int _ _, .int _ _, .int _ _, .int _ _, .int _ _, .slice _ _, .str _]) rfl) rfl rfl rfl (nle rfl) rfl) <|
              ils_end ?_)
            refine iwp_ret ?_
            obtain rfl := Option.some.inj h
            refine ⟨.inr rfl, (.cons (resv_a rfl rfl Try.underlying42 ag42 ti42 (by decide) (nle rfl) rfl) .nil)⟩

set_option maxRecDepth 8000 in
set_option maxHeartbeats 2000000 in
theorem p_slices_Equal_api_Pair_api_Pair (a0 : (List T_api_Pair)) (a1 : (List T_api_Pair)) (r : Bool) (h : slices_Equal_api_Pair_api_Pair a0 a1 = some r) : PureAt Try.prog 43 [.slice false (a0.map E_api_Pair.d), .slice false (a1.map E_api_Pair.d)] (.bool r) := by
  refine pure_of_iwp (rs := [.bool r]) Try.func43 rfl Try.ntmps43 (nle rfl) rfl fun O hO => ?_
  show IWP _ _ _ _ ⟨[(0, .slice false (a0.map E_api_Pair.d)), (1, .slice false (a1.map E_api_Pair.d))], []⟩ _
  unfold slices_Equal_api_Pair_api_Pair at h
  refine iwp_reg (ils_cons rfl (iop_assign rfl rfl (by decide) (sv (d := .bool false) rfl)) <|
    ils_end ?_)
  refine iwp_seq ?_
  obtain ⟨x1, hx1, h⟩ := bnd_e h
  refine iwp_reg (ils_cons rfl (iop_move rfl rfl (by decide) (sv (d := .slice _ _) rfl)) <|
    ils_cons rfl (iop_lenT E_api_Pair (l := a0) rfl rfl (by decide) Try.underlying38 (sv (d := .slice _ _) rfl)) <|
    ils_cons rfl (iop_move rfl rfl (by decide) (sv (d := .slice _ _) rfl)) <|
    ils_cons rfl (iop_lenT E_api_Pair (l := a1) rfl rfl (by decide) Try.underlying38 (sv (d := .slice _ _) rfl)) <|
    ils_cons rfl (iop_cmpx rfl rfl (by decide) (sv (d := .int _ _) rfl) (sv (d := .int _ _) rfl) rfl hx1) <|
    ils_end ?_)
  refine iwp_cond (b := _) rfl (fun hc2 => ?_) (fun hc2 => ?_)
  ·
    replace h := bif_t h hc2
    refine iwp_reg (ils_cons rfl (iop_assign rfl rfl (by decide) (sv (d := .bool false) rfl)) <|
      ils_end ?_)
    refine iwp_ret ?_
    refine thenQ_r ?_
    obtain rfl := Option.some.inj h
    refine ⟨.inr rfl, (.cons (sv rfl) .nil)⟩
  ·
    replace h := bif_f h hc2
    refine iwp_skip ?_
    refine thenQ_n ?_
    refine iwp_seq ?_
    refine iwp_reg (ils_cons rfl (iop_move rfl rfl (by decide) (sv (d := .slice _ _) rfl)) <|
      ils_cons rfl (iop_lenT E_api_Pair (l := a0) rfl rfl (by decide) Try.underlying38 (sv (d := .slice _ _) rfl)) <|
      ils_cons rfl (iop_move rfl rfl (by decide) (sv (d := .int _ 0) rfl)) <|
      ils_end ?_)
    refine iwp_block ?_
    refine iwp_loopP (α := Nat × Int) (fun z => ⟨[(0, .slice false (a0.map E_api_Pair.d)), (1, .slice false (a1.map E_api_Pair.d)), (12, .int .i64 (a0.length : Int)), (13, .int .i64 z.2)], []⟩) (fun z => slices_Equal_api_Pair_api_Pair_L0 a0 a1 z.1 z.2 = some r) (fun z => z.1) (fuel, 0) (fun i => i) ⟨(.cons (.same rfl rfl) (.cons (.same rfl rfl) (.cons (.same rfl rfl) (.cons (.same rfl rfl) .nil)))), .nil, nd_of [] rfl (by decide), (fun i hi => by first | rfl | (show (if _ then _ else _) = _; (repeat' split) <;> omega))⟩ ?_ ?_
    · exact h
    ·
      rintro ⟨n0, v10⟩ h
      cases n0 with
      | zero => exact absurd h (by unfold slices_Equal_api_Pair_api_Pair_L0; exact nofun)
      | succ n0 =>
        unfold slices_Equal_api_Pair_api_Pair_L0 at h
        obtain ⟨x18, hx18, h⟩ := bnd_e h
        refine iwp_reg (ils_cons rfl (iop_cmpx rfl rfl (by decide) (sv (d := .int _ _) rfl) (sv (d := .int _ _) rfl) rfl hx18) <|
          ils_end ?_)
        refine iwp_seq ?_
        refine iwp_cond (b := _) rfl (fun hc19 => ?_) (fun hc19 => ?_)
        ·
          replace h := bif_t h hc19
          refine iwp_skip ?_
          refine thenQ_n ?_
          refine iwp_seq ?_
          refine iwp_block ?_
          refine iwp_reg (ils_cons rfl (iop_move rfl rfl (by decide) (sv (d := .int _ _) rfl)) <|
            ils_cons rfl (iop_assign rfl rfl (by decide) (sv (d := .int _ _) rfl)) <|
            ils_end ?_)
          obtain ⟨x20, hx20, h⟩ := bno_e h
          obtain ⟨x21, hx21, h⟩ := bno_e h
          obtain ⟨x22, hx22, h⟩ := bnd_e h
          refine iwp_drw rfl [⟨[0], [], [(16, .slice false (a0.map E_api_Pair.d))], []⟩,
            ⟨[5], [], [(17, .int .i64 v10)], []⟩,
            ⟨[16, 17], [], [(18, .fptr [.int .i64 x20.ID, .int .i64 x20.Value])], []⟩,
            ⟨[18], [], [(19, .agg [.int .i64 x20.ID, .int .i64 x20.Value])], []⟩,
            ⟨[1], [], [(20, .slice false (a1.map E_api_Pair.d))], []⟩,
            ⟨[5], [], [(21, .int .i64 v10)], []⟩,
            ⟨[20, 21], [], [(22, .fptr [.int .i64 x21.ID, .int .i64 x21.Value])], []⟩,
            ⟨[22], [], [(23, .agg [.int .i64 x21.ID, .int .i64 x21.Value])], []⟩,
            ⟨[19, 23], [], [(24, .bool (!x22))], []⟩] rfl ?_ (by kernel_rfl) ?_
          · refine .cons (lop rfl rfl fun S hA => (iop_move rfl rfl (by decide) (sv (d := .slice _ _) (agr hA rfl rfl)))) ?_
            refine .cons (lop rfl rfl fun S hA => (iop_move rfl rfl (by decide) (sv (d := .int _ _) (agr hA rfl rfl)))) ?_
            refine .cons (lop rfl rfl fun S hA => (iop_idxT E_api_Pair (cs := [.int _ _, .int _ _]) rfl rfl (by decide) Try.underlying38 ti77 (sv (d := .slice _ _) (agr hA rfl rfl)) (sv (d := .int _ _) (agr hA rfl rfl)) hx20 rfl rfl)) ?_
            refine .cons (lop rfl rfl fun S hA => (iop_load_fa (cs := [.int _ _, .int _ _]) rfl rfl (by decide) Try.underlying77 ag77 ti77 (by decide) (sv (d := .fptr [.int _ _, .int _ _]) (agr hA rfl rfl)) (nle rfl) rfl)) ?_
            refine .cons (lop rfl rfl fun S hA => (iop_move rfl rfl (by decide) (sv (d := .slice _ _) (agr hA rfl rfl)))) ?_
            refine .cons (lop rfl rfl fun S hA => (iop_move rfl rfl (by decide) (sv (d := .int _ _) (agr hA rfl rfl)))) ?_
            refine .cons (lop rfl rfl fun S hA => (iop_idxT E_api_Pair (cs := [.int _ _, .int _ _]) rfl rfl (by decide) Try.underlying38 ti77 (sv (d := .slice _ _) (agr hA rfl rfl)) (sv (d := .int _ _) (agr hA rfl rfl)) hx21 rfl rfl)) ?_
            refine .cons (lop rfl rfl fun S hA => (iop_load_fa (cs := [.int _ _, .int _ _]) rfl rfl (by decide) Try.underlying77 ag77 ti77 (by decide) (sv (d := .fptr [.int _ _, .int _ _]) (agr hA rfl rfl)) (nle rfl) rfl)) ?_
            refine .cons (lop rfl rfl fun S hA => (iop_nes rfl rfl (by decide) Try.underlying77 st77.1 st77.2 (sv (d := .agg [.int _ _, .int _ _]) (agr hA rfl rfl)) (sv (d := .agg [.int _ _, .int _ _]) (agr hA rfl rfl)) (congrArg some hx22))) ?_
            exact .nil
          refine iwp_cond (b := _) rfl (fun hc23 => ?_) (fun hc23 => ?_)
          ·
            replace h := bif_t h hc23
            refine iwp_reg (ils_cons rfl (iop_assign rfl rfl (by decide) (sv (d := .bool false) rfl)) <|
              ils_end ?_)
            refine iwp_ret ?_
            refine blockQ_r ?_
            refine thenQ_r ?_
            refine thenQ_r ?_
            refine blockQ_r ?_
            refine thenQ_r ?_
            obtain rfl := Option.some.inj h
            refine ⟨.inr rfl, (.cons (sv rfl) .nil)⟩
          ·
            replace h := bif_f h hc23
            refine iwp_skip ?_
            refine blockQ_n ?_
            refine thenQ_n ?_
            obtain ⟨x24, hx24, h⟩ := bnd_e h
            refine iwp_region (ils_cons rfl (iop_intx rfl rfl (by decide) (sv (d := .int _ _) rfl) (sv (d := .int _ 1) rfl) rfl hx24) <|
              ils_cons rfl (iop_move rfl rfl (by decide) (sv (d := .int _ _) rfl)) <|
              ils_nil ?_)
            refine thenQ_n ⟨(n0, x24), (fun i => i), ⟨(.cons (.same rfl rfl) (.cons (.same rfl rfl) (.cons (.same rfl rfl) (.cons (.same rfl rfl) .nil)))), .nil, nd_of [] rfl (by decide), (fun i hi => by first | rfl | (show (if _ then _ else _) = _; (repeat' split) <;> omega))⟩, ?_, ?_⟩
            exact h
            exact Nat.lt_succ_self _
        ·
          replace h := bif_f h hc19
          refine iwp_exit ?_
          refine thenQ_e ?_
          refine thenQ_e ?_
          refine blockQ_e ?_
          refine thenQ_n ?_
          refine iwp_reg (ils_cons rfl (iop_assign rfl rfl (by decide) (sv (d := .bool true) rfl)) <|
            ils_end ?_)
          refine iwp_ret ?_
          obtain rfl := Option.some.inj h
          refine ⟨.inr rfl, (.cons (sv rfl) .nil)⟩

set_option maxRecDepth 8000 in
set_option maxHeartbeats 2000000 in
theorem p_frame_Same (a0 : T_frame_Frame) (a1 : T_frame_Frame) (r : Bool) (h : frame_Same a0 a1 = some r) : PureAt Try.prog 26 [.agg [.int .u8 a0.Kind, .bool a0.Flag, .int .i64 a0.Stream, .int .i64 a0.Offset, .int .i64 a0.Dep, .int .i64 a0.Weight, .int .i64 a0.N, .int .i64 a0.Code, .slice false (a0.Pairs.map E_api_Pair.d), .str a0.Data], .agg [.int .u8 a1.Kind, .bool a1.Flag, .int .i64 a1.Stream, .int .i64 a1.Offset, .int .i64 a1.Dep, .int .i64 a1.Weight, .int .i64 a1.N, .int .i64 a1.Code, .slice false (a1.Pairs.map E_api_Pair.d), .str a1.Data]] (.bool r) := by
  refine pure_of_iwp (rs := [.bool r]) Try.func26 rfl Try.ntmps26 (nle rfl) rfl fun O hO => ?_
  show IWP _ _ _ _ ⟨[(0, .agg [.int .u8 a0.Kind, .bool a0.Flag, .int .i64 a0.Stream, .int .i64 a0.Offset, .int .i64 a0.Dep, .int .i64 a0.Weight, .int .i64 a0.N, .int .i64 a0.Code, .slice false (a0.Pairs.map E_api_Pair.d), .str a0.Data]), (1, .agg [.int .u8 a1.Kind, .bool a1.Flag, .int .i64 a1.Stream, .int .i64 a1.Offset, .int .i64 a1.Dep, .int .i64 a1.Weight, .int .i64 a1.N, .int .i64 a1.Code, .slice false (a1.Pairs.map E_api_Pair.d), .str a1.Data])], []⟩ _
  unfold frame_Same at h
  refine iwp_reg (ils_cons rfl (iop_box' (cs := [.int _ _, .bool _, .int _ _, .int _ _, .int _ _, .int _ _, .int _ _, .int _ _, .slice _ _, .str _]) 0 rfl rfl (by decide) rfl (sv (d := .agg [.int _ _, .bool _, .int _ _, .int _ _, .int _ _, .int _ _, .int _ _, .int _ _, .slice _ _, .str _]) rfl) rfl rfl) <|
    ils_cons rfl (iop_box' (cs := [.int _ _, .bool _, .int _ _, .int _ _, .int _ _, .int _ _, .int _ _, .int _ _, .slice _ _, .str _]) 1 rfl rfl (by decide) rfl (sv (d := .agg [.int _ _, .bool _, .int _ _, .int _ _, .int _ _, .int _ _, .int _ _, .int _ _, .slice _ _, .str _]) rfl) rfl rfl) <|
    ils_cons rfl (iop_assign rfl rfl (by decide) (sv (d := .bool false) rfl)) <|
    ils_end ?_)
  refine iwp_seq ?_
  obtain ⟨x1, hx1, h⟩ := bnd_e h
  obtain ⟨x2, hx2, h⟩ := bnd_e h
  obtain ⟨x3, hx3, h⟩ := bnd_e h
  obtain ⟨x4, hx4, h⟩ := bno_e h
  obtain ⟨x5, hx5, h⟩ := bnd_e h
  refine iwp_reg (ils_cons rfl (iop_fieldAddr_ref rfl rfl (by decide) Try.underlying42 rfl ti5 (by decide) (sv (d := .ref _ _) rfl) (off' := 0) rfl) <|
    ils_cons rfl (iop_load_rs (d := .int _ _) rfl rfl (by decide) Try.underlying5 ag5 ti5 (by decide) (sv (d := .ref _ _) rfl) rfl (nle rfl) rfl) <|
    ils_cons rfl (iop_fieldAddr_ref rfl rfl (by decide) Try.underlying42 rfl ti5 (by decide) (sv (d := .ref _ _) rfl) (off' := 0) rfl) <|
    ils_cons rfl (iop_load_rs (d := .int _ _) rfl rfl (by decide) Try.underlying5 ag5 ti5 (by decide) (sv (d := .ref _ _) rfl) rfl (nle rfl) rfl) <|
    ils_cons rfl (iop_cmpx rfl rfl (by decide) (sv (d := .int _ _) rfl) (sv (d := .int _ _) rfl) rfl hx1) <|
    ils_cons rfl (iop_move rfl rfl (by decide) (sv (d := .bool _) rfl)) <|
    ils_guard rfl rfl (.one rfl) rfl (by decide) (fun hb => (iop_fieldAddr_ref rfl rfl (by decide) Try.underlying42 rfl ti4 (by decide) (sv (d := .ref _ _) rfl) (off' := 1) rfl)) <|
    ils_guard rfl rfl (.one rfl) rfl (by decide) (fun hb => (iop_load_rs (d := .bool _) rfl rfl (by decide) Try.underlying4 ag4 ti4 (by decide) (svc (d := .ref _ _) rfl hb) rfl (nle rfl) rfl)) <|
    ils_guard rfl rfl (.one rfl) rfl (by decide) (fun hb => (iop_fieldAddr_ref rfl rfl (by decide) Try.underlying42 rfl ti4 (by decide) (sv (d := .ref _ _) rfl) (off' := 1) rfl)) <|
    ils_guard rfl rfl (.one rfl) rfl (by decide) (fun hb => (iop_load_rs (d := .bool _) rfl rfl (by decide) Try.underlying4 ag4 ti4 (by decide) (svc (d := .ref _ _) rfl hb) rfl (nle rfl) rfl)) <|
    ils_guard rfl rfl (.one rfl) rfl (by decide) (fun hb => (iop_nebx rfl rfl (by decide) Try.underlying4 (svc (d := .bool _) rfl hb) (svc (d := .bool _) rfl hb) hx2)) <|
    ils_cons rfl (iop_orx rfl rfl (by decide) (sv (d := .bool _) rfl) rfl rfl hx3) <|
    ils_cons rfl (iop_move rfl rfl (by decide) (sv (d := .bool _) rfl)) <|
    ils_guard rfl rfl (.one rfl) rfl (by decide) (fun hb => (iop_fieldAddr_ref rfl rfl (by decide) Try.underlying42 rfl ti38 (by decide) (sv (d := .ref _ _) rfl) (off' := 8) rfl)) <|
    ils_guard rfl rfl (.one rfl) rfl (by decide) (fun hb => (iop_load_rs (d := .slice _ _) rfl rfl (by decide) Try.underlying38 ag38 ti38 (by decide) (svc (d := .ref _ _) rfl hb) rfl (nle rfl) rfl)) <|
    ils_guard rfl rfl (.one rfl) rfl (by decide) (fun hb => (iop_fieldAddr_ref rfl rfl (by decide) Try.underlying42 rfl ti38 (by decide) (sv (d := .ref _ _) rfl) (off' := 8) rfl)) <|
    ils_guard rfl rfl (.one rfl) rfl (by decide) (fun hb => (iop_load_rs (d := .slice _ _) rfl rfl (by decide) Try.underlying38 ag38 ti38 (by decide) (svc (d := .ref _ _) rfl hb) rfl (nle rfl) rfl)) <|
    ils_guard rfl rfl (.one rfl) rfl (by decide) (fun hb => (iop_call (r := .bool _) rfl rfl (by decide) cl43 (.cons (svc (d := .slice _ _) rfl hb) (.cons (svc (d := .slice _ _) rfl hb) .nil)) rfl (p_slices_Equal_api_Pair_api_Pair _ _ _ (gd_t hx4 hb)))) <|
    ils_guard rfl rfl (.one rfl) rfl (by decide) (fun hb => (iop_not rfl rfl (by decide) (svc (d := .bool _) rfl hb))) <|
    ils_cons rfl (iop_orx rfl rfl (by decide) (sv (d := .bool _) rfl) rfl rfl hx5) <|
    ils_end ?_)
  refine iwp_cond (b := _) rfl (fun hc6 => ?_) (fun hc6 => ?_)
  ·
    replace h := bif_t h hc6
    refine iwp_reg (ils_cons rfl (iop_assign rfl rfl (by decide) (sv (d := .bool false) rfl)) <|
      ils_end ?_)
    refine iwp_ret ?_
    refine thenQ_r ?_
    obtain rfl := Option.some.inj h
    refine ⟨.inr rfl, (.cons (sv rfl) .nil)⟩
  ·
    replace h := bif_f h hc6
    refine iwp_skip ?_
    refine thenQ_n ?_
    obtain ⟨x7, hx7, h⟩ := bnd_e h
    obtain ⟨x8, hx8, h⟩ := bnd_e h
    obtain ⟨x9, hx9, h⟩ := bnd_e h
    obtain ⟨x10, hx10, h⟩ := bnd_e h
    obtain ⟨x11, hx11, h⟩ := bnd_e h
    obtain ⟨x12, hx12, h⟩ := bnd_e h
    obtain ⟨x13, hx13, h⟩ := bnd_e h
    refine iwp_reg (ils_cons rfl (iop_fieldAddr_ref rfl rfl (by decide) Try.underlying42 rfl ti3 (by decide) (sv (d := .ref _ _) rfl) (off' := 2) rfl) <|
      ils_cons rfl (iop_load_rs (d := .int _ _) rfl rfl (by decide) Try.underlying3 ag3 ti3 (by decide) (sv (d := .ref _ _) rfl) rfl (nle rfl) rfl) <|
      ils_cons rfl (iop_fieldAddr_ref rfl rfl (by decide) Try.underlying42 rfl ti3 (by decide) (sv (d := .ref _ _) rfl) (off' := 2) rfl) <|
      ils_cons rfl (iop_load_rs (d := .int _ _) rfl rfl (by decide) Try.underlying3 ag3 ti3 (by decide) (sv (d := .ref _ _) rfl) rfl (nle rfl) rfl) <|
      ils_cons rfl (iop_cmpx rfl rfl (by decide) (sv (d := .int _ _) rfl) (sv (d := .int _ _) rfl) rfl hx7) <|
      ils_cons rfl (iop_move rfl rfl (by decide) (sv (d := .bool _) rfl)) <|
      ils_guard rfl rfl (.one rfl) rfl (by decide) (fun hb => (iop_fieldAddr_ref rfl rfl (by decide) Try.underlying42 rfl ti3 (by decide) (sv (d := .ref _ _) rfl) (off' := 3) rfl)) <|
      ils_guard rfl rfl (.one rfl) rfl (by decide) (fun hb => (iop_load_rs (d := .int _ _) rfl rfl (by decide) Try.underlying3 ag3 ti3 (by decide) (svc (d := .ref _ _) rfl hb) rfl (nle rfl) rfl)) <|
      ils_guard rfl rfl (.one rfl) rfl (by decide) (fun hb => (iop_fieldAddr_ref rfl rfl (by decide) Try.underlying42 rfl ti3 (by decide) (sv (d := .ref _ _) rfl) (off' := 3) rfl)) <|
      ils_guard rfl rfl (.one rfl) rfl (by decide) (fun hb => (iop_load_rs (d := .int _ _) rfl rfl (by decide) Try.underlying3 ag3 ti3 (by decide) (svc (d := .ref _ _) rfl hb) rfl (nle rfl) rfl)) <|
      ils_guard rfl rfl (.one rfl) rfl (by decide) (fun hb => (iop_cmpx rfl rfl (by decide) (svc (d := .int _ _) rfl hb) (svc (d := .int _ _) rfl hb) rfl hx8)) <|
      ils_cons rfl (iop_andx rfl rfl (by decide) (sv (d := .bool _) rfl) rfl rfl hx9) <|
      ils_cons rfl (iop_move rfl rfl (by decide) (sv (d := .bool _) rfl)) <|
      ils_guard rfl rfl (.one rfl) rfl (by decide) (fun hb => (iop_fieldAddr_ref rfl rfl (by decide) Try.underlying42 rfl ti3 (by decide) (sv (d := .ref _ _) rfl) (off' := 4) rfl)) <|
      ils_guard rfl rfl (.one rfl) rfl (by decide) (fun hb => (iop_load_rs (d := .int _ _) rfl rfl (by decide) Try.underlying3 ag3 ti3 (by decide) (svc (d := .ref _ _) rfl hb) rfl (nle rfl) rfl)) <|
      ils_guard rfl rfl (.one rfl) rfl (by decide) (fun hb => (iop_fieldAddr_ref rfl rfl (by decide) Try.underlying42 rfl ti3 (by decide) (sv (d := .ref _ _) rfl) (off' := 4) rfl)) <|
      ils_guard rfl rfl (.one rfl) rfl (by decide) (fun hb => (iop_load_rs (d := .int _ _) rfl rfl (by decide) Try.underlying3 ag3 ti3 (by decide) (svc (d := .ref _ _) rfl hb) rfl (nle rfl) rfl)) <|
      ils_guard rfl rfl (.one rfl) rfl (by decide) (fun hb => (iop_cmpx rfl rfl (by decide) (svc (d := .int _ _) rfl hb) (svc (d := .int _ _) rfl hb) rfl hx10)) <|
      ils_cons rfl (iop_andx rfl rfl (by decide) (sv (d := .bool _) rfl) rfl rfl hx11) <|
      ils_cons rfl (iop_move rfl rfl (by decide) (sv (d := .bool _) rfl)) <|
      ils_guard rfl rfl (.one rfl) rfl (by decide) (fun hb => (iop_fieldAddr_ref rfl rfl (by decide) Try.underlying42 rfl ti3 (by decide) (sv (d := .ref _ _) rfl) (off' := 5) rfl)) <|
      ils_guard rfl rfl (.one rfl) rfl (by decide) (fun hb => (iop_load_rs (d := .int _ _) rfl rfl (by decide) Try.underlying3 ag3 ti3 (by decide) (svc (d := .ref _ _) rfl hb) rfl (nle rfl) rfl)) <|
      ils_guard rfl rfl (.one rfl) rfl (by decide) (fun hb => (iop_fieldAddr_ref rfl rfl (by decide) Try.underlying42 rfl ti3 (by decide) (sv (d := .ref _ _) rfl) (off' := 5) rfl)) <|
      ils_guard rfl rfl (.one rfl) rfl (by decide) (fun hb => (iop_load_rs (d := .int _ _) rfl rfl (by decide) Try.underlying3 ag3 ti3 (by decide) (svc (d := .ref _ _) rfl hb) rfl (nle rfl) rfl)) <|
      ils_guard rfl rfl (.one rfl) rfl (by decide) (fun hb => (iop_cmpx rfl rfl (by decide) (svc (d := .int _ _) rfl hb) (svc (d := .int _ _) rfl hb) rfl hx12)) <|
      ils_cons rfl (iop_andx rfl rfl (by decide) (sv (d := .bool _) rfl) rfl rfl hx13) <|
      ils_cons rfl (iop_assign rfl rfl (by decide) (sv (d := .bool _) rfl)) <|
      ils_end ?_)
    obtain ⟨x14, hx14, h⟩ := bnd_e h
    obtain ⟨x15, hx15, h⟩ := bnd_e h
    obtain ⟨x16, hx16, h⟩ := bnd_e h
    obtain ⟨x17, hx17, h⟩ := bnd_e h
    obtain ⟨x18, hx18, h⟩ := bnd_e h
    obtain ⟨x19, hx19, h⟩ := bnd_e h
    refine iwp_reg (ils_cons rfl (iop_move rfl rfl (by decide) (sv (d := .bool _) rfl)) <|
      ils_cons rfl (iop_move rfl rfl (by decide) (sv (d := .bool _) rfl)) <|
      ils_guard rfl rfl (.one rfl) rfl (by decide) (fun hb => (iop_fieldAddr_ref rfl rfl (by decide) Try.underlying42 rfl ti3 (by decide) (sv (d := .ref _ _) rfl) (off' := 6) rfl)) <|
      ils_guard rfl rfl (.one rfl) rfl (by decide) (fun hb => (iop_load_rs (d := .int _ _) rfl rfl (by decide) Try.underlying3 ag3 ti3 (by decide) (svc (d := .ref _ _) rfl hb) rfl (nle rfl) rfl)) <|
      ils_guard rfl rfl (.one rfl) rfl (by decide) (fun hb => (iop_fieldAddr_ref rfl rfl (by decide) Try.underlying42 rfl ti3 (by decide) (sv (d := .ref _ _) rfl) (off' := 6) rfl)) <|
      ils_guard rfl rfl (.one rfl) rfl (by decide) (fun hb => (iop_load_rs (d := .int _ _) rfl rfl (by decide) Try.underlying3 ag3 ti3 (by decide) (svc (d := .ref _ _) rfl hb) rfl (nle rfl) rfl)) <|
      ils_guard rfl rfl (.one rfl) rfl (by decide) (fun hb => (iop_cmpx rfl rfl (by decide) (svc (d := .int _ _) rfl hb) (svc (d := .int _ _) rfl hb) rfl hx14)) <|
      ils_cons rfl (iop_andx rfl rfl (by decide) (sv (d := .bool _) rfl) rfl rfl hx15) <|
      ils_cons rfl (iop_move rfl rfl (by decide) (sv (d := .bool _) rfl)) <|
      ils_guard rfl rfl (.one rfl) rfl (by decide) (fun hb => (iop_fieldAddr_ref rfl rfl (by decide) Try.underlying42 rfl ti3 (by decide) (sv (d := .ref _ _) rfl) (off' := 7) rfl)) <|
      ils_guard rfl rfl (.one rfl) rfl (by decide) (fun hb => (iop_load_rs (d := .int _ _) rfl rfl (by decide) Try.underlying3 ag3 ti3 (by decide) (svc (d := .ref _ _) rfl hb) rfl (nle rfl) rfl)) <|
      ils_guard rfl rfl (.one rfl) rfl (by decide) (fun hb => (iop_fieldAddr_ref rfl rfl (by decide) Try.underlying42 rfl ti3 (by decide) (sv (d := .ref _ _) rfl) (off' := 7) rfl)) <|
      ils_guard rfl rfl (.one rfl) rfl (by decide) (fun hb => (iop_load_rs (d := .int _ _) rfl rfl (by decide) Try.underlying3 ag3 ti3 (by decide) (svc (d := .ref _ _) rfl hb) rfl (nle rfl) rfl)) <|
      ils_guard rfl rfl (.one rfl) rfl (by decide) (fun hb => (iop_cmpx rfl rfl (by decide) (svc (d := .int _ _) rfl hb) (svc (d := .int _ _) rfl hb) rfl hx16)) <|
      ils_cons rfl (iop_andx rfl rfl (by decide) (sv (d := .bool _) rfl) rfl rfl hx17) <|
      ils_cons rfl (iop_move rfl rfl (by decide) (sv (d := .bool _) rfl)) <|
      ils_guard rfl rfl (.one rfl) rfl (by decide) (fun hb => (iop_fieldAddr_ref rfl rfl (by decide) Try.underlying42 rfl ti9 (by decide) (sv (d := .ref _ _) rfl) (off' := 9) rfl)) <|
      ils_guard rfl rfl (.one rfl) rfl (by decide) (fun hb => (iop_load_rs (d := .str _) rfl rfl (by decide) Try.underlying9 ag9 ti9 (by decide) (svc (d := .ref _ _) rfl hb) rfl (nle rfl) rfl)) <|
      ils_guard rfl rfl (.one rfl) rfl (by decide) (fun hb => (iop_fieldAddr_ref rfl rfl (by decide) Try.underlying42 rfl ti9 (by decide) (sv (d := .ref _ _) rfl) (off' := 9) rfl)) <|
      ils_guard rfl rfl (.one rfl) rfl (by decide) (fun hb => (iop_load_rs (d := .str _) rfl rfl (by decide) Try.underlying9 ag9 ti9 (by decide) (svc (d := .ref _ _) rfl hb) rfl (nle rfl) rfl)) <|
      ils_guard rfl rfl (.one rfl) rfl (by decide) (fun hb => (iop_strx rfl rfl (by decide) (svc (d := .str _) rfl hb) (svc (d := .str _) rfl hb) rfl hx18)) <|
      ils_cons rfl (iop_andx rfl rfl (by decide) (sv (d := .bool _) rfl) rfl rfl hx19) <|
      ils_cons rfl (iop_assign rfl rfl (by decide) (sv (d := .bool _) rfl)) <|
      ils_end ?_)
    refine iwp_ret ?_
    obtain rfl := Option.some.inj h
    refine ⟨.inr rfl, (.cons (sv rfl) .nil)⟩

set_option maxRecDepth 8000 in
set_option maxHeartbeats 2000000 in
theorem p_frame_Check (a0 : T_frame_Frame) (r : Int) (h : frame_Check a0 = some r) : PureAt Try.prog 22 [.agg [.int .u8 a0.Kind, .bool a0.Flag, .int .i64 a0.Stream, .int .i64 a0.Offset, .int .i64 a0.Dep, .int .i64 a0.Weight, .int .i64 a0.N, .int .i64 a0.Code, .slice false (a0.Pairs.map E_api_Pair.d), .str a0.Data]] (.int .i64 r) := by
  refine pure_of_iwp (rs := [.int .i64 r]) Try.func22 rfl Try.ntmps22 (nle rfl) rfl fun O hO => ?_
  show IWP _ _ _ _ ⟨[(0, .agg [.int .u8 a0.Kind, .bool a0.Flag, .int .i64 a0.Stream, .int .i64 a0.Offset, .int .i64 a0.Dep, .int .i64 a0.Weight, .int .i64 a0.N, .int .i64 a0.Code, .slice false (a0.Pairs.map E_api_Pair.d), .str a0.Data])], []⟩ _
  unfold frame_Check at h
  refine iwp_reg (ils_cons rfl (iop_box' (cs := [.int _ _, .bool _, .int _ _, .int _ _, .int _ _, .int _ _, .int _ _, .int _ _, .slice _ _, .str _]) 0 rfl rfl (by decide) rfl (sv (d := .agg [.int _ _, .bool _, .int _ _, .int _ _, .int _ _, .int _ _, .int _ _, .int _ _, .slice _ _, .str _]) rfl) rfl rfl) <|
    ils_cons rfl (iop_assign rfl rfl (by decide) (sv (d := .int _ 0) rfl)) <|
    ils_end ?_)
  refine iwp_seq ?_
  refine iwp_block ?_
  obtain ⟨x1, hx1, h⟩ := bno_e h
  refine iwp_reg (ils_cons rfl (iop_fieldAddr_ref rfl rfl (by decide) Try.underlying42 rfl ti5 (by decide) (sv (d := .ref _ _) rfl) (off' := 0) rfl) <|
    ils_cons rfl (iop_load_rs (d := .int _ _) rfl rfl (by decide) Try.underlying5 ag5 ti5 (by decide) (sv (d := .ref _ _) rfl) rfl (nle rfl) rfl) <|
    ils_cons rfl (iop_call (r := .bool _) rfl rfl (by decide) cl37 (.cons (sv (d := .int _ _) rfl) .nil) rfl (p_frame_known _ _ hx1)) <|
    ils_cons rfl (iop_not rfl rfl (by decide) (sv (d := .bool _) rfl)) <|
    ils_cons rfl (iop_assign rfl rfl (by decide) (sv (d := .bool _) rfl)) <|
    ils_end ?_)
  refine iwp_cond (b := _) rfl (fun hc2 => ?_) (fun hc2 => ?_)
  ·
    replace h := bif_t h hc2
    refine iwp_reg (ils_cons rfl (iop_assign rfl rfl (by decide) (sv (d := .int _ 12) rfl)) <|
      ils_end ?_)
    refine iwp_ret ?_
    refine blockQ_r ?_
    refine thenQ_r ?_
    obtain rfl := Option.some.inj h
    refine ⟨.inr rfl, (.cons (sv rfl) .nil)⟩
  ·
    replace h := bif_f h hc2
    obtain ⟨x3, hx3, h⟩ := bno_e h
    refine iwp_reg (ils_cons rfl (iop_load_ra (cs := [.int _ _, .bool _, .int _ _, .int _ _, .int _ _, .int _ _, .int _ _, .int _ _, .slice _ _, .str _]) rfl rfl (by decide) Try.underlying42 ag42 ti42 (by decide) (sv (d := .ref _ _) rfl) rfl (nle rfl) rfl) <|
      ils_cons rfl (iop_call (r := .bool _) rfl rfl (by decide) cl38 (.cons (sv (d := .agg [.int _ _, .bool _, .int _ _, .int _ _, .int _ _, .int _ _, .int _ _, .int _ _, .slice _ _, .str _]) rfl) .nil) rfl (p_frame_Frame_ranges _ _ hx3)) <|
      ils_cons rfl (iop_not rfl rfl (by decide) (sv (d := .bool _) rfl)) <|
      ils_cons rfl (iop_assign rfl rfl (by decide) (sv (d := .bool _) rfl)) <|
      ils_end ?_)
    refine iwp_cond (b := _) rfl (fun hc4 => ?_) (fun hc4 => ?_)
    ·
      replace h := bif_t h hc4
      refine iwp_reg (ils_cons rfl (iop_assign rfl rfl (by decide) (sv (d := .int _ 8) rfl)) <|
        ils_end ?_)
      refine iwp_ret ?_
      refine blockQ_r ?_
      refine thenQ_r ?_
      obtain rfl := Option.some.inj h
      refine ⟨.inr rfl, (.cons (sv rfl) .nil)⟩
    ·
      replace h := bif_f h hc4
      refine iwp_join (α := Bool) (fun z => ⟨[(1, .ref 0 0), (12, .bool z)], [(0, .blk 42 [.int .u8 a0.Kind, .bool a0.Flag, .int .i64 a0.Stream, .int .i64 a0.Offset, .int .i64 a0.Dep, .int .i64 a0.Weight, .int .i64 a0.N, .int .i64 a0.Code, .slice false (a0.Pairs.map E_api_Pair.d), .str a0.Data])]⟩) (fun z => frame_Check_J0 a0 z = some r) ?_ ?_
      ·
        obtain ⟨x13, hx13, h⟩ := bnd_e h
        refine iwp_reg (ils_cons rfl (iop_fieldAddr_ref rfl rfl (by decide) Try.underlying42 rfl ti9 (by decide) (sv (d := .ref _ _) rfl) (off' := 9) rfl) <|
          ils_cons rfl (iop_load_rs (d := .str _) rfl rfl (by decide) Try.underlying9 ag9 ti9 (by decide) (sv (d := .ref _ _) rfl) rfl (nle rfl) rfl) <|
          ils_cons rfl (iop_len_str rfl rfl (by decide) Try.underlying9 (sv (d := .str _) rfl) rfl) <|
          ils_cons rfl (iop_cmpx rfl rfl (by decide) (sv (d := .int _ _) rfl) (sv (d := .int _ 32) rfl) rfl hx13) <|
          ils_cons rfl (iop_assign rfl rfl (by decide) (sv (d := .bool _) rfl)) <|
          ils_end ?_)
        refine iwp_cond (b := _) rfl (fun hc14 => ?_) (fun hc14 => ?_)
        ·
          replace h := bif_t h hc14
          refine iwp_skip ?_
          refine thenQ_n ⟨x13, (fun i => i), ⟨(.cons (.same rfl rfl) (.cons (.same rfl rfl) .nil)), (.cons (.blk rfl rfl rfl) .nil), nd_of [0] rfl (by decide), (fun i hi => by first | rfl | (show (if _ then _ else _) = _; (repeat' split) <;> omega))⟩, ?_⟩
          exact h
        ·
          replace h := bif_f h hc14
          obtain ⟨x15, hx15, h⟩ := bnd_e h
          refine iwp_region (ils_cons rfl (iop_fieldAddr_ref rfl rfl (by decide) Try.underlying42 rfl ti38 (by decide) (sv (d := .ref _ _) rfl) (off' := 8) rfl) <|
            ils_cons rfl (iop_load_rs (d := .slice _ _) rfl rfl (by decide) Try.underlying38 ag38 ti38 (by decide) (sv (d := .ref _ _) rfl) rfl (nle rfl) rfl) <|
            ils_cons rfl (iop_lenT E_api_Pair (l := a0.Pairs) rfl rfl (by decide) Try.underlying38 (sv (d := .slice _ _) rfl)) <|
            ils_cons rfl (iop_cmpx rfl rfl (by decide) (sv (d := .int _ _) rfl) (sv (d := .int _ 4) rfl) rfl hx15) <|
            ils_cons rfl (iop_assign rfl rfl (by decide) (sv (d := .bool _) rfl)) <|
            ils_nil ?_)
          refine thenQ_n ⟨x15, (fun i => i), ⟨(.cons (.same rfl rfl) (.cons (.same rfl rfl) .nil)), (.cons (.blk rfl rfl rfl) .nil), nd_of [0] rfl (by decide), (fun i hi => by first | rfl | (show (if _ then _ else _) = _; (repeat' split) <;> omega))⟩, ?_⟩
          exact h
      ·
        rintro v8 h
        unfold frame_Check_J0 at h
        refine iwp_cond (b := _) rfl (fun hc9 => ?_) (fun hc9 => ?_)
        ·
          replace h := bif_t h hc9
          refine iwp_reg (ils_cons rfl (iop_assign rfl rfl (by decide) (sv (d := .int _ 5) rfl)) <|
            ils_end ?_)
          refine iwp_ret ?_
          refine blockQ_r ?_
          refine thenQ_r ?_
          obtain rfl := Option.some.inj h
          refine ⟨.inr rfl, (.cons (sv rfl) .nil)⟩
        ·
          replace h := bif_f h hc9
          obtain ⟨x10, hx10, h⟩ := bno_e h
          obtain ⟨x11, hx11, h⟩ := bno_e h
          refine iwp_drw rfl [⟨[1], [0], [(22, .agg [.int .u8 a0.Kind, .bool a0.Flag, .int .i64 a0.Stream, .int .i64 a0.Offset, .int .i64 a0.Dep, .int .i64 a0.Weight, .int .i64 a0.N, .int .i64 a0.Code, .slice false (a0.Pairs.map E_api_Pair.d), .str a0.Data])], []⟩,
            ⟨[22], [], [(23, .agg [.int .u8 x10.Kind, .bool x10.Flag, .int .i64 x10.Stream, .int .i64 x10.Offset, .int .i64 x10.Dep, .int .i64 x10.Weight, .int .i64 x10.N, .int .i64 x10.Code, .slice false (x10.Pairs.map E_api_Pair.d), .str x10.Data])], []⟩,
            ⟨[1], [], [(24, .ref 0 0)], []⟩,
            ⟨[24], [0], [(25, .int .u8 a0.Kind)], []⟩,
            ⟨[25], [], [(26, .agg [.int .u8 a0.Kind, .bool false, .int .i64 0, .int .i64 0, .int .i64 0, .int .i64 0, .int .i64 0, .int .i64 0, .slice false (([] : List T_api_Pair).map E_api_Pair.d), .str []])], []⟩,
            ⟨[23, 26], [], [(27, .bool x11)], []⟩,
            ⟨[27], [], [(28, .bool (!x11))], []⟩,
            ⟨[28], [], [(21, .bool (!x11))], []⟩] rfl ?_ (by kernel_rfl) ?_
          · refine .cons (lop rfl rfl fun S hA => (iop_load_ra (cs := [.int _ _, .bool _, .int _ _, .int _ _, .int _ _, .int _ _, .int _ _, .int _ _, .slice _ _, .str _]) rfl rfl (by decide) Try.underlying42 ag42 ti42 (by decide) (sv (d := .ref _ _) (agr hA rfl rfl)) (agi hA rfl rfl) (nle rfl) rfl)) ?_
            refine .cons (lop rfl rfl fun S hA => (iop_call (r := .agg [.int _ _, .bool _, .int _ _, .int _ _, .int _ _, .int _ _, .int _ _, .int _ _, .slice _ _, .str _]) rfl rfl (by decide) cl39 (.cons (sv (d := .agg [.int _ _, .bool _, .int _ _, .int _ _, .int _ _, .int _ _, .int _ _, .int _ _, .slice _ _, .str _]) (agr hA rfl rfl)) .nil) rfl (p_frame_Frame_bare _ _ hx10))) ?_
            refine .cons (lop rfl rfl fun S hA => (iop_fieldAddr_ref rfl rfl (by decide) Try.underlying42 rfl ti5 (by decide) (sv (d := .ref _ _) (agr hA rfl rfl)) (off' := 0) rfl)) ?_
            refine .cons (lop rfl rfl fun S hA => (iop_load_rs (d := .int _ _) rfl rfl (by decide) Try.underlying5 ag5 ti5 (by decide) (sv (d := .ref _ _) (agr hA rfl rfl)) (agi hA rfl rfl) (nle rfl) rfl)) ?_
            refine .cons (lop rfl rfl fun S hA => (iop_sub (d' := .agg [.int .u8 a0.Kind, .bool false, .int .i64 0, .int .i64 0, .int .i64 0, .int .i64 0, .int .i64 0, .int .i64 0, .slice false (([] : List T_api_Pair).map E_api_Pair.d), .str []]) (iop_build_struct (cs := [.int _ _, .bool _, .int _ _, .int _ _, .int _ _, .int _ _, .int _ _, .int _ _, .nils, .str _]) rfl rfl (by decide) Try.underlying42 ti42 pl42 rfl (.cons (sv (d := .int _ _) (agr hA rfl rfl)) .nil) rfl) (.agg (.cons (.refl _) (.cons (.refl _) (.cons (.refl _) (.cons (.refl _) (.cons (.refl _) (.cons (.refl _) (.cons (.refl _) (.cons (.refl _) (.cons (.nils _) (.cons (.refl _) .nil))))))))))))) ?_
            refine .cons (lop rfl rfl fun S hA => (iop_call (r := .bool _) rfl rfl (by decide) cl26 (.cons (sv (d := .agg [.int _ _, .bool _, .int _ _, .int _ _, .int _ _, .int _ _, .int _ _, .int _ _, .slice _ _, .str _]) (agr hA rfl rfl)) (.cons (sv (d := .agg [.int _ _, .bool _, .int _ _, .int _ _, .int _ _, .int _ _, .int _ _, .int _ _, .slice _ _, .str _]) (agr hA rfl rfl)) .nil)) rfl (p_frame_Same _ _ _ hx11))) ?_
            refine .cons (lop rfl rfl fun S hA => (iop_not rfl rfl (by decide) (sv (d := .bool _) (agr hA rfl rfl)))) ?_
            refine .cons (lop rfl rfl fun S hA => (iop_assign rfl rfl (by decide) (sv (d := .bool _) (agr hA rfl rfl)))) ?_
            exact .nil
          refine iwp_cond (b := _) rfl (fun hc12 => ?_) (fun hc12 => ?_)
          ·
            replace h := bif_t h hc12
            refine iwp_reg (ils_cons rfl (iop_assign rfl rfl (by decide) (sv (d := .int _ 4) rfl)) <|
              ils_end ?_)
            refine iwp_ret ?_
            refine blockQ_r ?_
            refine thenQ_r ?_
            obtain rfl := Option.some.inj h
            refine ⟨.inr rfl, (.cons (sv rfl) .nil)⟩
          ·
            replace h := bif_f h hc12
            refine iwp_skip ?_
            refine blockQ_n ?_
            refine thenQ_n ?_
            refine iwp_reg (ils_cons rfl (iop_assign rfl rfl (by decide) (sv (d := .int _ 0) rfl)) <|
              ils_end ?_)
            refine iwp_ret ?_
            obtain rfl := Option.some.inj h
            refine ⟨.inr rfl, (.cons (sv rfl) .nil)⟩

set_option maxRecDepth 8000 in
set_option maxHeartbeats 2000000 in
theorem p_math_bits_Len64 (a0 : Int) (r : Int) (h : math_bits_Len64 a0 = some r) : PureAt Try.prog 74 [.int .u64 a0] (.int .i64 r) := by
  refine pure_of_iwp (rs := [.int .i64 r]) Try.func74 rfl Try.ntmps74 (nle rfl) rfl fun O hO => ?_
  show IWP _ _ _ _ ⟨[(0, .int .u64 a0)], []⟩ _
  unfold math_bits_Len64 at h
  refine iwp_reg (ils_cons rfl (iop_assign rfl rfl (by decide) (sv (d := .int _ 0) rfl)) <|
    ils_end ?_)
  refine iwp_join (α := Int × Int) (fun z => ⟨[(0, .int .u64 z.1), (2, .int .i64 z.2)], []⟩) (fun z => math_bits_Len64_J0 z.1 z.2 = some r) ?_ ?_
  ·
    obtain ⟨x30, hx30, h⟩ := bnd_e h
    refine iwp_reg (ils_cons rfl (iop_move rfl rfl (by decide) (sv (d := .int _ _) rfl)) <|
      ils_cons rfl (iop_cmpx rfl rfl (by decide) (sv (d := .int _ _) rfl) (sv (d := .int _ 4294967296) rfl) rfl hx30) <|
      ils_end ?_)
    refine iwp_cond (b := _) rfl (fun hc31 => ?_) (fun hc31 => ?_)
    ·
      replace h := bif_t h hc31
      obtain ⟨x32, hx32, h⟩ := bno_e h
      refine iwp_reg (ils_cons rfl (iop_move rfl rfl (by decide) (sv (d := .int _ _) rfl)) <|
        ils_cons rfl (iop_shrx rfl rfl (by decide) (sv (d := .int _ _) rfl) (sv (d := .int _ 32) rfl) hx32) <|
        ils_cons rfl (iop_assign rfl rfl (by decide) (sv (d := .int _ _) rfl)) <|
        ils_end ?_)
      refine iwp_region (ils_cons rfl (iop_assign rfl rfl (by decide) (sv (d := .int _ 32) rfl)) <|
        ils_nil ?_)
      refine thenQ_n ⟨(x32, 32), (fun i => i), ⟨(.cons (.same rfl rfl) (.cons (.same rfl rfl) .nil)), .nil, nd_of [] rfl (by decide), (fun i hi => by first | rfl | (show (if _ then _ else _) = _; (repeat' split) <;> omega))⟩, ?_⟩
      exact h
    ·
      replace h := bif_f h hc31
      refine iwp_skip ?_
      refine thenQ_n ⟨(a0, 0), (fun i => i), ⟨(.cons (.same rfl rfl) (.cons (.same rfl rfl) .nil)), .nil, nd_of [] rfl (by decide), (fun i hi => by first | rfl | (show (if _ then _ else _) = _; (repeat' split) <;> omega))⟩, ?_⟩
      exact h
  ·
    rintro ⟨v4, v5⟩ h
    unfold math_bits_Len64_J0 at h
    refine iwp_join (α := Int × Int) (fun z => ⟨[(0, .int .u64 z.1), (2, .int .i64 z.2)], []⟩) (fun z => math_bits_Len64_J1 z.1 z.2 = some r) ?_ ?_
    ·
      obtain ⟨x26, hx26, h⟩ := bnd_e h
      refine iwp_reg (ils_cons rfl (iop_move rfl rfl (by decide) (sv (d := .int _ _) rfl)) <|
        ils_cons rfl (iop_cmpx rfl rfl (by decide) (sv (d := .int _ _) rfl) (sv (d := .int _ 65536) rfl) rfl hx26) <|
        ils_end ?_)
      refine iwp_cond (b := _) rfl (fun hc27 => ?_) (fun hc27 => ?_)
      ·
        replace h := bif_t h hc27
        obtain ⟨x28, hx28, h⟩ := bno_e h
        refine iwp_reg (ils_cons rfl (iop_move rfl rfl (by decide) (sv (d := .int _ _) rfl)) <|
          ils_cons rfl (iop_shrx rfl rfl (by decide) (sv (d := .int _ _) rfl) (sv (d := .int _ 16) rfl) hx28) <|
          ils_cons rfl (iop_assign rfl rfl (by decide) (sv (d := .int _ _) rfl)) <|
          ils_end ?_)
        obtain ⟨x29, hx29, h⟩ := bnd_e h
        refine iwp_region (ils_cons rfl (iop_move rfl rfl (by decide) (sv (d := .int _ _) rfl)) <|
          ils_cons rfl (iop_intx rfl rfl (by decide) (sv (d := .int _ _) rfl) (sv (d := .int _ 16) rfl) rfl hx29) <|
          ils_cons rfl (iop_assign rfl rfl (by decide) (sv (d := .int _ _) rfl)) <|
          ils_nil ?_)
        refine thenQ_n ⟨(x28, x29), (fun i => i), ⟨(.cons (.same rfl rfl) (.cons (.same rfl rfl) .nil)), .nil, nd_of [] rfl (by decide), (fun i hi => by first | rfl | (show (if _ then _ else _) = _; (repeat' split) <;> omega))⟩, ?_⟩
        exact h
      ·
        replace h := bif_f h hc27
        refine iwp_skip ?_
        refine thenQ_n ⟨(v4, v5), (fun i => i), ⟨(.cons (.same rfl rfl) (.cons (.same rfl rfl) .nil)), .nil, nd_of [] rfl (by decide), (fun i hi => by first | rfl | (show (if _ then _ else _) = _; (repeat' split) <;> omega))⟩, ?_⟩
        exact h
    ·
      rintro ⟨v10, v11⟩ h
      unfold math_bits_Len64_J1 at h
      refine iwp_join (α := Int × Int) (fun z => ⟨[(0, .int .u64 z.1), (2, .int .i64 z.2)], []⟩) (fun z => math_bits_Len64_J2 z.1 z.2 = some r) ?_ ?_
      ·
        obtain ⟨x22, hx22, h⟩ := bnd_e h
        refine iwp_reg (ils_cons rfl (iop_move rfl rfl (by decide) (sv (d := .int _ _) rfl)) <|
          ils_cons rfl (iop_cmpx rfl rfl (by decide) (sv (d := .int _ _) rfl) (sv (d := .int _ 256) rfl) rfl hx22) <|
          ils_end ?_)
        refine iwp_cond (b := _) rfl (fun hc23 => ?_) (fun hc23 => ?_)
        ·
          replace h := bif_t h hc23
          obtain ⟨x24, hx24, h⟩ := bno_e h
          refine iwp_reg (ils_cons rfl (iop_move rfl rfl (by decide) (sv (d := .int _ _) rfl)) <|
            ils_cons rfl (iop_shrx rfl rfl (by decide) (sv (d := .int _ _) rfl) (sv (d := .int _ 8) rfl) hx24) <|
            ils_cons rfl (iop_assign rfl rfl (by decide) (sv (d := .int _ _) rfl)) <|
            ils_end ?_)
          obtain ⟨x25, hx25, h⟩ := bnd_e h
          refine iwp_region (ils_cons rfl (iop_move rfl rfl (by decide) (sv (d := .int _ _) rfl)) <|
            ils_cons rfl (iop_intx rfl rfl (by decide) (sv (d := .int _ _) rfl) (sv (d := .int _ 8) rfl) rfl hx25) <|
            ils_cons rfl (iop_assign rfl rfl (by decide) (sv (d := .int _ _) rfl)) <|
            ils_nil ?_)
          refine thenQ_n ⟨(x24, x25), (fun i => i), ⟨(.cons (.same rfl rfl) (.cons (.same rfl rfl) .nil)), .nil, nd_of [] rfl (by decide), (fun i hi => by first | rfl | (show (if _ then _ else _) = _; (repeat' split) <;> omega))⟩, ?_⟩
          exact h
        ·
          replace h := bif_f h hc23
          refine iwp_skip ?_
          refine thenQ_n ⟨(v10, v11), (fun i => i), ⟨(.cons (.same rfl rfl) (.cons (.same rfl rfl) .nil)), .nil, nd_of [] rfl (by decide), (fun i hi => by first | rfl | (show (if _ then _ else _) = _; (repeat' split) <;> omega))⟩, ?_⟩
          exact h
      ·
        rintro ⟨v16, v17⟩ h
        unfold math_bits_Len64_J2 at h
        obtain ⟨x18, hx18, h⟩ := bnd_e h
        obtain ⟨x19, hx19, h⟩ := bno_e h
        obtain ⟨x20, hx20, h⟩ := bnd_e h
        obtain ⟨x21, hx21, h⟩ := bnd_e h
        refine iwp_reg (ils_cons rfl (iop_move rfl rfl (by decide) (sv (d := .int _ _) rfl)) <|
          ils_cons rfl (iop_move rfl rfl (by decide) (sv (d := .int _ _) rfl)) <|
          ils_cons rfl (iop_int_conv rfl rfl (by decide) ⟨_, Try.underlying115⟩ Try.underlying5 (sv (d := .int _ _) rfl) hx18) <|
          ils_cons rfl (iop_str_at rfl rfl (by decide) Try.underlying9 (sv (d := .str [0, 1, 2, 2, 3, 3, 3, 3, 4, 4, 4, 4, 4, 4, 4, 4, 5, 5, 5, 5, 5, 5, 5, 5, 5, 5, 5, 5, 5, 5, 5, 5, 6, 6, 6, 6, 6, 6, 6, 6, 6, 6, 6, 6, 6, 6, 6, 6, 6, 6, 6, 6, 6, 6, 6, 6, 6, 6, 6, 6, 6, 6, 6, 6, 7, 7, 7, 7, 7, 7, 7, 7, 7, 7, 7, 7, 7, 7, 7, 7, 7, 7, 7, 7, 7, 7, 7, 7, 7, 7, 7, 7, 7, 7, 7, 7, 7, 7, 7, 7, 7, 7, 7, 7, 7, 7, 7, 7, 7, 7, 7, 7, 7, 7, 7, 7, 7, 7, 7, 7, 7, 7, 7, 7, 7, 7, 7, 7, 8, 8, 8, 8, 8, 8, 8, 8, 8, 8, 8, 8, 8, 8, 8, 8, 8, 8, 8, 8, 8, 8, 8, 8, 8, 8, 8, 8, 8, 8, 8, 8, 8, 8, 8, 8, 8, 8, 8, 8, 8, 8, 8, 8, 8, 8, 8, 8, 8, 8, 8, 8, 8, 8, 8, 8, 8, 8, 8, 8, 8, 8, 8, 8, 8, 8, 8, 8, 8, 8, 8, 8, 8, 8, 8, 8, 8, 8, 8, 8, 8, 8, 8, 8, 8, 8, 8, 8, 8, 8, 8, 8, 8, 8, 8, 8, 8, 8, 8, 8, 8, 8, 8, 8, 8, 8, 8, 8, 8, 8, 8, 8, 8, 8, 8, 8, 8, 8, 8, 8, 8, 8, 8, 8, 8, 8, 8, 8]) rfl) (sv (d := .int _ _) rfl) hx19) <|
          ils_cons rfl (iop_int_conv rfl rfl (by decide) ⟨_, Try.underlying5⟩ Try.underlying3 (sv (d := .int _ _) rfl) hx20) <|
          ils_cons rfl (iop_intx rfl rfl (by decide) (sv (d := .int _ _) rfl) (sv (d := .int _ _) rfl) rfl hx21) <|
          ils_cons rfl (iop_assign rfl rfl (by decide) (sv (d := .int _ _) rfl)) <|
          ils_end ?_)
        refine iwp_ret ?_
        obtain rfl := Option.some.inj h
        refine ⟨.inr rfl, (.cons (sv rfl) .nil)⟩

set_option maxRecDepth 8000 in
set_option maxHeartbeats 2000000 in
theorem p_math_bits_Len (a0 : Int) (r : Int) (h : math_bits_Len a0 = some r) : PureAt Try.prog 69 [.int .u64 a0] (.int .i64 r) := by
  refine pure_of_iwp (rs := [.int .i64 r]) Try.func69 rfl Try.ntmps69 (nle rfl) rfl fun O hO => ?_
  show IWP _ _ _ _ ⟨[(0, .int .u64 a0)], []⟩ _
  unfold math_bits_Len at h
  refine iwp_reg (ils_cons rfl (iop_assign rfl rfl (by decide) (sv (d := .int _ 0) rfl)) <|
    ils_end ?_)
  refine iwp_seq ?_
  refine iwp_cond_f rfl rfl ?_
  refine iwp_skip ?_
  refine thenQ_n ?_
  obtain ⟨x1, hx1, h⟩ := bno_e h
  refine iwp_reg (ils_cons rfl (iop_move rfl rfl (by decide) (sv (d := .int _ _) rfl)) <|
    ils_cons rfl (iop_call (r := .int _ _) rfl rfl (by decide) cl74 (.cons (sv (d := .int _ _) rfl) .nil) rfl (p_math_bits_Len64 _ _ hx1)) <|
    ils_cons rfl (iop_assign rfl rfl (by decide) (sv (d := .int _ _) rfl)) <|
    ils_end ?_)
  refine iwp_ret ?_
  obtain rfl := Option.some.inj h
  refine ⟨.inr rfl, (.cons (sv rfl) .nil)⟩

set_option maxRecDepth 8000 in
set_option maxHeartbeats 2000000 in
theorem p_varint_kind (a0 : Int) (r : Int) (h : varint_kind a0 = some r) : PureAt Try.prog 49 [.int .i64 a0] (.int .i64 r) := by
  refine pure_of_iwp (rs := [.int .i64 r]) Try.func49 rfl Try.ntmps49 (nle rfl) rfl fun O hO => ?_
  show IWP _ _ _ _ ⟨[(0, .int .i64 a0)], []⟩ _
  unfold varint_kind at h
  refine iwp_reg (ils_cons rfl (iop_assign rfl rfl (by decide) (sv (d := .int _ 0) rfl)) <|
    ils_end ?_)
  refine iwp_seq ?_
  obtain ⟨x1, hx1, h⟩ := bnd_e h
  obtain ⟨x2, hx2, h⟩ := bnd_e h
  obtain ⟨x3, hx3, h⟩ := bnd_e h
  refine iwp_reg (ils_cons rfl (iop_move rfl rfl (by decide) (sv (d := .int _ _) rfl)) <|
    ils_cons rfl (iop_cmpx rfl rfl (by decide) (sv (d := .int _ _) rfl) (sv (d := .int _ 0) rfl) rfl hx1) <|
    ils_cons rfl (iop_move rfl rfl (by decide) (sv (d := .bool _) rfl)) <|
    ils_guard rfl rfl (.one rfl) rfl (by decide) (fun hb => (iop_move rfl rfl (by decide) (sv (d := .int _ _) rfl))) <|
    ils_guard rfl rfl (.one rfl) rfl (by decide) (fun hb => (iop_cmpx rfl rfl (by decide) (svc (d := .int _ _) rfl hb) (sv (d := .int _ 4611686018427387903) rfl) rfl hx2)) <|
    ils_cons rfl (iop_orx rfl rfl (by decide) (sv (d := .bool _) rfl) rfl rfl hx3) <|
    ils_end ?_)
  refine iwp_cond (b := _) rfl (fun hc4 => ?_) (fun hc4 => ?_)
  ·
    replace h := bif_t h hc4
    refine iwp_reg (ils_cons rfl (iop_assign rfl rfl (by decide) (sv (d := .int _ (-1)) rfl)) <|
      ils_end ?_)
    refine iwp_ret ?_
    refine thenQ_r ?_
    obtain rfl := Option.some.inj h
    refine ⟨.inr rfl, (.cons (sv rfl) .nil)⟩
  ·
    replace h := bif_f h hc4
    refine iwp_skip ?_
    refine thenQ_n ?_
    refine iwp_seq ?_
    refine iwp_reg (ils_cons rfl (iop_move rfl rfl (by decide) (sv (d := .int _ 0) rfl)) <|
      ils_end ?_)
    refine iwp_block ?_
    refine iwp_loopP (α := Nat × Int) (fun z => ⟨[(0, .int .i64 a0), (10, .int .i64 z.2)], []⟩) (fun z => varint_kind_L0 a0 z.1 z.2 = some r) (fun z => z.1) (fuel, 0) (fun i => i) ⟨(.cons (.same rfl rfl) (.cons (.same rfl rfl) .nil)), .nil, nd_of [] rfl (by decide), (fun i hi => by first | rfl | (show (if _ then _ else _) = _; (repeat' split) <;> omega))⟩ ?_ ?_
    · exact h
    ·
      rintro ⟨n0, v14⟩ h
      cases n0 with
      | zero => exact absurd h (by unfold varint_kind_L0; exact nofun)
      | succ n0 =>
        unfold varint_kind_L0 at h
        obtain ⟨x24, hx24, h⟩ := bnd_e h
        refine iwp_reg (ils_cons rfl (iop_cmpx rfl rfl (by decide) (sv (d := .int _ _) rfl) (sv (d := .int _ 4) rfl) rfl hx24) <|
          ils_end ?_)
        refine iwp_seq ?_
        refine iwp_cond (b := _) rfl (fun hc25 => ?_) (fun hc25 => ?_)
        ·
          replace h := bif_t h hc25
          refine iwp_skip ?_
          refine thenQ_n ?_
          refine iwp_seq ?_
          refine iwp_block ?_
          refine iwp_reg (ils_cons rfl (iop_move rfl rfl (by decide) (sv (d := .int _ _) rfl)) <|
            ils_cons rfl (iop_assign rfl rfl (by decide) (sv (d := .int _ _) rfl)) <|
            ils_end ?_)
          obtain ⟨x26, hx26, h⟩ := bnd_e h
          obtain ⟨x27, hx27, h⟩ := bno_e h
          obtain ⟨x28, hx28, h⟩ := bno_e h
          obtain ⟨x29, hx29, h⟩ := bnd_e h
          obtain ⟨x30, hx30, h⟩ := bnd_e h
          refine iwp_drw rfl [⟨[0], [], [(13, .int .i64 a0)], []⟩,
            ⟨[13], [], [(14, .int .u64 x26)], []⟩,
            ⟨[14], [], [(15, .int .i64 x27)], []⟩,
            ⟨[3], [], [(16, .int .i64 v14)], []⟩,
            ⟨[16], [], [(17, .int .i64 x28)], []⟩,
            ⟨[17], [], [(18, .int .i64 x29)], []⟩,
            ⟨[15, 18], [], [(19, .bool x30)], []⟩] rfl ?_ (by kernel_rfl) ?_
          · refine .cons (lop rfl rfl fun S hA => (iop_move rfl rfl (by decide) (sv (d := .int _ _) (agr hA rfl rfl)))) ?_
            refine .cons (lop rfl rfl fun S hA => (iop_int_conv rfl rfl (by decide) ⟨_, Try.underlying3⟩ Try.underlying86 (sv (d := .int _ _) (agr hA rfl rfl)) hx26)) ?_
            refine .cons (lop rfl rfl fun S hA => (iop_call (r := .int _ _) rfl rfl (by decide) cl69 (.cons (sv (d := .int _ _) (agr hA rfl rfl)) .nil) rfl (p_math_bits_Len _ _ hx27))) ?_
            refine .cons (lop rfl rfl fun S hA => (iop_move rfl rfl (by decide) (sv (d := .int _ _) (agr hA rfl rfl)))) ?_
            refine .cons (lop rfl rfl fun S hA => (iop_shlx rfl rfl (by decide) (sv (d := .int _ 8) rfl) (sv (d := .int _ _) (agr hA rfl rfl)) hx28)) ?_
            refine .cons (lop rfl rfl fun S hA => (iop_intx rfl rfl (by decide) (sv (d := .int _ _) (agr hA rfl rfl)) (sv (d := .int _ 2) rfl) rfl hx29)) ?_
            refine .cons (lop rfl rfl fun S hA => (iop_cmpx rfl rfl (by decide) (sv (d := .int _ _) (agr hA rfl rfl)) (sv (d := .int _ _) (agr hA rfl rfl)) rfl hx30)) ?_
            exact .nil
          refine iwp_cond (b := _) rfl (fun hc31 => ?_) (fun hc31 => ?_)
          ·
            replace h := bif_t h hc31
            refine iwp_reg (ils_cons rfl (iop_move rfl rfl (by decide) (sv (d := .int _ _) rfl)) <|
              ils_cons rfl (iop_assign rfl rfl (by decide) (sv (d := .int _ _) rfl)) <|
              ils_end ?_)
            refine iwp_ret ?_
            refine blockQ_r ?_
            refine thenQ_r ?_
            refine thenQ_r ?_
            refine blockQ_r ?_
            refine thenQ_r ?_
            obtain rfl := Option.some.inj h
            refine ⟨.inr rfl, (.cons (sv rfl) .nil)⟩
          ·
            replace h := bif_f h hc31
            refine iwp_skip ?_
            refine blockQ_n ?_
            refine thenQ_n ?_
            obtain ⟨x32, hx32, h⟩ := bnd_e h
            refine iwp_region (ils_cons rfl (iop_intx rfl rfl (by decide) (sv (d := .int _ _) rfl) (sv (d := .int _ 1) rfl) rfl hx32) <|
              ils_cons rfl (iop_move rfl rfl (by decide) (sv (d := .int _ _) rfl)) <|
              ils_nil ?_)
            refine thenQ_n ⟨(n0, x32), (fun i => i), ⟨(.cons (.same rfl rfl) (.cons (.same rfl rfl) .nil)), .nil, nd_of [] rfl (by decide), (fun i hi => by first | rfl | (show (if _ then _ else _) = _; (repeat' split) <;> omega))⟩, ?_, ?_⟩
            exact h
            exact Nat.lt_succ_self _
        ·
          replace h := bif_f h hc25
          refine iwp_exit ?_
          refine thenQ_e ?_
          refine thenQ_e ?_
          refine blockQ_e ?_
          refine thenQ_n ?_
          refine iwp_reg (ils_cons rfl (iop_assign rfl rfl (by decide) (sv (d := .int _ (-1)) rfl)) <|
            ils_end ?_)
          refine iwp_ret ?_
          obtain rfl := Option.some.inj h
          refine ⟨.inr rfl, (.cons (sv rfl) .nil)⟩

set_option maxRecDepth 8000 in
set_option maxHeartbeats 2000000 in
theorem p_varint_Put (a0 : Int) (r : ((List UInt8) × Int)) (h : varint_Put a0 = some r) : PureAt Try.prog 33 [.int .i64 a0] (retD [.slice false (r.1.map eByte.d), .int .i64 r.2]) := by
  refine pure_of_iwpF (rs := [.slice false (r.1.map eByte.d), .int .i64 r.2]) Try.func33 rfl Try.ntmps33 (nle rfl) rfl fun O hO => ?_
  show IWP _ _ _ _ ⟨[(0, .int .i64 a0)], []⟩ _
  unfold varint_Put at h
  refine iwp_reg (ils_cons rfl (iop_assign rfl rfl (by decide) (sv (d := .nils) rfl)) <|
    ils_cons rfl (iop_assign rfl rfl (by decide) (sv (d := .int _ 0) rfl)) <|
    ils_end ?_)
  obtain ⟨x1, hx1, h⟩ := bno_e h
  refine iwp_reg (ils_cons rfl (iop_move rfl rfl (by decide) (sv (d := .int _ _) rfl)) <|
    ils_cons rfl (iop_call (r := .int _ _) rfl rfl (by decide) cl49 (.cons (sv (d := .int _ _) rfl) .nil) rfl (p_varint_kind _ _ hx1)) <|
    ils_cons rfl (iop_assign rfl rfl (by decide) (sv (d := .int _ _) rfl)) <|
    ils_end ?_)
  refine iwp_seq ?_
  obtain ⟨x2, hx2, h⟩ := bnd_e h
  refine iwp_reg (ils_cons rfl (iop_move rfl rfl (by decide) (sv (d := .int _ _) rfl)) <|
    ils_cons rfl (iop_cmpx rfl rfl (by decide) (sv (d := .int _ _) rfl) (sv (d := .int _ 0) rfl) rfl hx2) <|
    ils_end ?_)
  refine iwp_cond (b := _) rfl (fun hc3 => ?_) (fun hc3 => ?_)
  ·
    replace h := bif_t h hc3
    refine iwp_reg (ils_cons rfl (iop_assign rfl rfl (by decide) (sv (d := .nils) rfl)) <|
      ils_cons rfl (iop_assign rfl rfl (by decide) (sv (d := .int _ 8) rfl)) <|
      ils_end ?_)
    refine iwp_ret ?_
    refine thenQ_r ?_
    obtain rfl := Option.some.inj h
    refine ⟨.inr rfl, _, (.cons (sv rfl) (.cons (sv rfl) .nil)), (.cons (.nils _) (.cons (.refl _) .nil))⟩
  ·
    replace h := bif_f h hc3
    refine iwp_skip ?_
    refine thenQ_n ?_
    obtain ⟨x4, hx4, h⟩ := bno_e h
    obtain ⟨x5, hx5, h⟩ := bno_e h
    refine iwp_reg (ils_cons rfl (iop_move rfl rfl (by decide) (sv (d := .int _ _) rfl)) <|
      ils_cons rfl (iop_shlx rfl rfl (by decide) (sv (d := .int _ 1) rfl) (sv (d := .int _ _) rfl) hx4) <|
      ils_cons rfl (iop_makeT eByte.toEnc0 (0 : UInt8) 0 rfl rfl (by decide) Try.underlying65 ti5 rfl rfl (sv (d := .int _ _) rfl) hx5 (.cons (.refl _) .nil)) <|
      ils_cons rfl (iop_assign rfl rfl (by decide) (sv (d := .osl _ _ _) rfl)) <|
      ils_end ?_)
    refine iwp_seq ?_
    obtain ⟨x6, hx6, h⟩ := bnd_e h
    refine iwp_reg (ils_cons rfl (iop_move rfl rfl (by decide) (sv (d := .osl _ _ _) rfl)) <|
      ils_cons rfl (iop_lenO rfl rfl (by decide) Try.underlying65 (sv (d := .osl _ _ _) rfl)) <|
      ils_cons rfl (iop_intx rfl rfl (by decide) (sv (d := .int _ _) rfl) (sv (d := .int _ 1) rfl) rfl hx6) <|
      ils_cons rfl (iop_assign rfl rfl (by decide) (sv (d := .int _ _) rfl)) <|
      ils_end ?_)
    refine iwp_block ?_
    refine iwp_loopP (α := Nat × Int × (List UInt8) × Int) (fun z => ⟨[(0, .int .i64 z.2.1), (4, .int .i64 x1), (5, .osl 0 eByte.sz z.2.2.1.length), (6, .int .i64 z.2.2.2)], [(0, .blk 5 (D.flat (z.2.2.1.map eByte.d)))]⟩) (fun z => varint_Put_L0 x1 z.1 z.2.1 z.2.2.1 z.2.2.2 = some r) (fun z => z.1) (fuel, a0, x5, x6) (fun i => i) ⟨(.cons (.same rfl rfl) (.cons (.same rfl rfl) (.cons (.same rfl rfl) (.cons (.same rfl rfl) .nil)))), (.cons (EntW.lst rfl) .nil), nd_of [0] rfl (by decide), (fun i hi => by first | rfl | (show (if _ then _ else _) = _; (repeat' split) <;> omega))⟩ ?_ ?_
    · exact h
    ·
      rintro ⟨n0, v16, v17, v18⟩ h
      cases n0 with
      | zero => exact absurd h (by unfold varint_Put_L0; exact nofun)
      | succ n0 =>
        unfold varint_Put_L0 at h
        refine iwp_seq ?_
        obtain ⟨x28, hx28, h⟩ := bnd_e h
        refine iwp_reg (ils_cons rfl (iop_move rfl rfl (by decide) (sv (d := .int _ _) rfl)) <|
          ils_cons rfl (iop_cmpx rfl rfl (by decide) (sv (d := .int _ _) rfl) (sv (d := .int _ 0) rfl) rfl hx28) <|
          ils_end ?_)
        refine iwp_cond (b := _) rfl (fun hc29 => ?_) (fun hc29 => ?_)
        ·
          replace h := bif_t h hc29
          refine iwp_skip ?_
          refine thenQ_n ?_
          refine iwp_seq ?_
          refine iwp_block ?_
          obtain ⟨x30, hx30, h⟩ := bnd_e h
          obtain ⟨x31, hx31, h⟩ := bno_e h
          obtain ⟨x32, hx32, h⟩ := bno_e h
          obtain ⟨x33, hx33, h⟩ := bno_e h
          obtain ⟨x34, hx34, h⟩ := bnd_e h
          refine iwp_reg (ils_cons rfl (iop_move rfl rfl (by decide) (sv (d := .osl _ _ _) rfl)) <|
            ils_cons rfl (iop_move rfl rfl (by decide) (sv (d := .int _ _) rfl)) <|
            ils_cons rfl (iop_move rfl rfl (by decide) (sv (d := .int _ _) rfl)) <|
            ils_cons rfl (iop_int_conv rfl rfl (by decide) ⟨_, Try.underlying3⟩ Try.underlying5 (sv (d := .int _ _) rfl) hx30) <|
            ils_cons rfl (iop_idxO eByte.toEnc0 rfl rfl (by decide) Try.underlying65 ti5 (sv (d := .osl _ _ _) rfl) rfl (sv (d := .int _ _) rfl) hx31) <|
            ils_cons rfl (iop_storeE eByte.toEnc0 (a' := x33) rfl rfl ti5 (sv (d := .ref _ _) rfl) rfl (sv_int (sv (d := .int _ _) rfl) (toU8_e hx33)) rfl rfl rfl hx32 (nle rfl) rfl hx34) <|
            ils_end ?_)
          obtain ⟨x35, hx35, h⟩ := bno_e h
          refine iwp_region (ils_cons rfl (iop_move rfl rfl (by decide) (sv (d := .int _ _) rfl)) <|
            ils_cons rfl (iop_shrx rfl rfl (by decide) (sv (d := .int _ _) rfl) (sv (d := .int _ 8) rfl) hx35) <|
            ils_cons rfl (iop_assign rfl rfl (by decide) (sv (d := .int _ _) rfl)) <|
            ils_nil ?_)
          refine blockQ_n ?_
          refine thenQ_n ?_
          obtain ⟨x36, hx36, h⟩ := bnd_e h
          refine iwp_region (ils_cons rfl (iop_move rfl rfl (by decide) (sv (d := .int _ _) rfl)) <|
            ils_cons rfl (iop_intx rfl rfl (by decide) (sv (d := .int _ _) rfl) (sv (d := .int _ 1) rfl) rfl hx36) <|
            ils_cons rfl (iop_assign rfl rfl (by decide) (sv (d := .int _ _) rfl)) <|
            ils_nil ?_)
          refine thenQ_n ⟨(n0, x35, x34, x36), (fun i => i), ⟨(.cons (.same rfl rfl) (.cons (.same rfl rfl) (.cons (.same (congrArg (D.osl _ _) (len_set hx34 rfl).symm) rfl) (.cons (.same rfl rfl) .nil)))), (.cons (EntW.lst rfl) .nil), nd_of [0] rfl (by decide), (fun i hi => by first | rfl | (show (if _ then _ else _) = _; (repeat' split) <;> omega))⟩, ?_, ?_⟩
          exact h
          exact Nat.lt_succ_self _
        ·
          replace h := bif_f h hc29
          refine iwp_exit ?_
          refine thenQ_e ?_
          refine thenQ_e ?_
          refine blockQ_e ?_
          refine thenQ_n ?_
          obtain ⟨x37, hx37, h⟩ := bno_e h
          obtain ⟨x38, hx38, h⟩ := bno_e h
          obtain ⟨x39, hx39, h⟩ := bno_e h
          obtain ⟨x40, hx40, h⟩ := bnd_e h
          obtain ⟨x41, hx41, h⟩ := bnd_e h
          obtain ⟨x42, hx42, h⟩ := bno_e h
          obtain ⟨x43, hx43, h⟩ := bno_e h
          obtain ⟨x44, hx44, h⟩ := bno_e h
          obtain ⟨x45, hx45, h⟩ := bnd_e h
          refine iwp_reg (ils_cons rfl (iop_move rfl rfl (by decide) (sv (d := .osl _ _ _) rfl)) <|
            ils_cons rfl (iop_idxO eByte.toEnc0 rfl rfl (by decide) Try.underlying65 ti5 (sv (d := .osl _ _ _) rfl) rfl (sv (d := .int _ 0) rfl) hx37) <|
            ils_cons rfl (iop_loadEs eByte.toEnc0 (d := .int _ _) rfl rfl (by decide) Try.underlying5 ag5 ti5 (by decide) (sv (d := .ref _ _) rfl) rfl hx38 (nle rfl) rfl) <|
            ils_cons rfl (iop_move rfl rfl (by decide) (sv (d := .int _ _) rfl)) <|
            ils_cons rfl (iop_shlx rfl rfl (by decide) (sv (d := .int _ _) rfl) (sv (d := .int _ 6) rfl) hx39) <|
            ils_cons rfl (iop_int_conv rfl rfl (by decide) ⟨_, Try.underlying3⟩ Try.underlying5 (sv (d := .int _ _) rfl) hx40) <|
            ils_cons rfl (iop_intx rfl rfl (by decide) (sv (d := .int _ _) rfl) (sv (d := .int _ _) rfl) rfl hx41) <|
            ils_cons rfl (iop_idxO eByte.toEnc0 rfl rfl (by decide) Try.underlying65 ti5 (sv (d := .osl _ _ _) rfl) rfl (sv (d := .int _ 0) rfl) hx42) <|
            ils_cons rfl (iop_storeE eByte.toEnc0 (a' := x44) rfl rfl ti5 (sv (d := .ref _ _) rfl) rfl (sv_int (sv (d := .int _ _) rfl) (toU8_e hx44)) rfl rfl rfl hx43 (nle rfl) rfl hx45) <|
            ils_end ?_)
          refine iwp_reg (ils_cons rfl (iop_move rfl rfl (by decide) (sv (d := .osl _ _ _) rfl)) <|
            ils_cons rfl (iop_assign rfl rfl (by decide) (sv (d := .osl _ _ _) rfl)) <|
            ils_cons rfl (iop_assign rfl rfl (by decide) (sv (d := .int _ 0) rfl)) <|
            ils_end ?_)
          refine iwp_ret ?_
          obtain rfl := Option.some.inj h
          refine ⟨.inr rfl, _, (.cons (sv rfl) (.cons (sv rfl) .nil)), (.cons (FDT eByte rfl (len_set hx45 rfl)) (.cons (.refl _) .nil))⟩

set_option maxRecDepth 8000 in
set_option maxHeartbeats 2000000 in
theorem p_varint_join (a0 : (List Int)) (r : ((List UInt8) × Int)) (h : varint_join a0 = some r) : PureAt Try.prog 70 [.slice false (a0.map (eInt .i64).d)] (retD [.slice false (r.1.map eByte.d), .int .i64 r.2]) := by
  refine pure_of_iwp (rs := [.slice false (r.1.map eByte.d), .int .i64 r.2]) Try.func70 rfl Try.ntmps70 (nle rfl) rfl fun O hO => ?_
  show IWP _ _ _ _ ⟨[(0, .slice false (a0.map (eInt .i64).d))], []⟩ _
  unfold varint_join at h
  refine iwp_reg (ils_cons rfl (iop_assign rfl rfl (by decide) (sv (d := .nils) rfl)) <|
    ils_cons rfl (iop_assign rfl rfl (by decide) (sv (d := .int _ 0) rfl)) <|
    ils_end ?_)
  refine iwp_reg (ils_cons rfl (iop_assign rfl rfl (by decide) (sv (d := .nils) rfl)) <|
    ils_end ?_)
  refine iwp_seq ?_
  refine iwp_reg (ils_cons rfl (iop_move rfl rfl (by decide) (sv (d := .slice _ _) rfl)) <|
    ils_cons rfl (iop_lenT (eInt .i64) (l := a0) rfl rfl (by decide) Try.underlying88 (sv (d := .slice _ _) rfl)) <|
    ils_cons rfl (iop_move rfl rfl (by decide) (sv (d := .int _ 0) rfl)) <|
    ils_end ?_)
  refine iwp_block ?_
  refine iwp_loopP (α := Nat × (List UInt8) × Int) (fun z => ⟨[(4, .gsl 21 eByte.sz (z.2.1.map eByte.d)), (9, .slice false (a0.map (eInt .i64).d)), (10, .int .i64 (a0.length : Int)), (11, .int .i64 z.2.2)], [(21, .tail 5 eByte.sz z.2.1.length)]⟩) (fun z => varint_join_L0 a0 z.1 z.2.1 z.2.2 = some r) (fun z => z.1) (fuel, ([] : (List UInt8)), 0) (fun i => if i = 21 then 71 else i) ⟨(.cons (.nils rfl) (.cons (.same rfl rfl) (.cons (.same rfl rfl) (.cons (.same rfl rfl) .nil)))), (.cons (.nils rfl) .nil), nd_of [71] rfl (by decide), (fun i hi => by first | rfl | (show (if _ then _ else _) = _; (repeat' split) <;> omega))⟩ ?_ ?_
  · exact h
  ·
    rintro ⟨n0, v9, v10⟩ h
    cases n0 with
    | zero => exact absurd h (by unfold varint_join_L0; exact nofun)
    | succ n0 =>
      unfold varint_join_L0 at h
      obtain ⟨x19, hx19, h⟩ := bnd_e h
      refine iwp_reg (ils_cons rfl (iop_cmpx rfl rfl (by decide) (sv (d := .int _ _) rfl) (sv (d := .int _ _) rfl) rfl hx19) <|
        ils_end ?_)
      refine iwp_seq ?_
      refine iwp_cond (b := _) rfl (fun hc20 => ?_) (fun hc20 => ?_)
      ·
        replace h := bif_t h hc20
        refine iwp_skip ?_
        refine thenQ_n ?_
        refine iwp_seq ?_
        refine iwp_block ?_
        obtain ⟨x21, hx21, h⟩ := bno_e h
        refine iwp_reg (ils_cons rfl (iop_idxT (eInt .i64) (cs := [.int _ _]) rfl rfl (by decide) Try.underlying88 ti3 (sv (d := .slice _ _) rfl) (sv (d := .int _ _) rfl) hx21 rfl rfl) <|
          ils_cons rfl (iop_load_fs rfl rfl (by decide) Try.underlying3 ag3 ti3 (by decide) (sv (d := .fptr [.int _ _]) rfl) (nle rfl)) <|
          ils_cons rfl (iop_assign rfl rfl (by decide) (sv (d := .int _ _) rfl)) <|
          ils_end ?_)
        obtain ⟨x22, hx22, h⟩ := bno_e h
        refine iwp_reg (ils_cons rfl (iop_move rfl rfl (by decide) (sv (d := .int _ _) rfl)) <|
          ils_cons rfl (iop_call (r := .tuple [.slice _ _, .int _ _]) rfl rfl (by decide) cl33 (.cons (sv (d := .int _ _) rfl) .nil) rfl (p_varint_Put _ _ hx22)) <|
          ils_cons rfl (iop_move rfl rfl (by decide) (sv (d := .tuple [.slice _ _, .int _ _]) rfl)) <|
          ils_cons rfl (iop_extract (d := .slice _ _) rfl rfl (by decide) (sv (d := .tuple [.slice _ _, .int _ _]) rfl) rfl) <|
          ils_cons rfl (iop_extract (d := .int _ _) rfl rfl (by decide) (sv (d := .tuple [.slice _ _, .int _ _]) rfl) rfl) <|
          ils_cons rfl (iop_assign rfl rfl (by decide) (sv (d := .slice _ _) rfl)) <|
          ils_cons rfl (iop_assign rfl rfl (by decide) (sv (d := .int _ _) rfl)) <|
          ils_end ?_)
        refine iwp_seq ?_
        obtain ⟨x23, hx23, h⟩ := bnd_e h
        refine iwp_reg (ils_cons rfl (iop_move rfl rfl (by decide) (sv (d := .int _ _) rfl)) <|
          ils_cons rfl (iop_cmpx rfl rfl (by decide) (sv (d := .int _ _) rfl) (sv (d := .int _ 0) rfl) rfl hx23) <|
          ils_end ?_)
        refine iwp_cond (b := _) rfl (fun hc24 => ?_) (fun hc24 => ?_)
        ·
          replace h := bif_t h hc24
          refine iwp_reg (ils_cons rfl (iop_move rfl rfl (by decide) (sv (d := .int _ _) rfl)) <|
            ils_cons rfl (iop_assign rfl rfl (by decide) (sv (d := .nils) rfl)) <|
            ils_cons rfl (iop_assign rfl rfl (by decide) (sv (d := .int _ _) rfl)) <|
            ils_end ?_)
          refine iwp_ret ?_
          refine thenQ_r ?_
          refine blockQ_r ?_
          refine thenQ_r ?_
          refine thenQ_r ?_
          refine blockQ_r ?_
          refine thenQ_r ?_
          obtain rfl := Option.some.inj h
          refine ⟨.inr rfl, (.cons (svn_of rfl rfl) (.cons (sv rfl) .nil))⟩
        ·
          replace h := bif_f h hc24
          refine iwp_skip ?_
          refine thenQ_n ?_
          obtain ⟨x25, hx25, h⟩ := bno_e h
          refine iwp_region (ils_cons rfl (iop_move rfl rfl (by decide) (sv (d := .gsl _ _ _) rfl)) <|
            ils_cons rfl (iop_move rfl rfl (by decide) (sv (d := .slice _ _) rfl)) <|
            ils_cons rfl (iop_appT eByte 22 rfl rfl (by decide) Try.underlying65 ti5 rfl rfl rfl rfl (sv (d := .slice _ _) rfl) hx25) <|
            ils_cons rfl (iop_assign rfl rfl (by decide) (sv (d := .gsl _ _ _) rfl)) <|
            ils_nil ?_)
          refine blockQ_n ?_
          refine thenQ_n ?_
          obtain ⟨x26, hx26, h⟩ := bnd_e h
          refine iwp_region (ils_cons rfl (iop_intx rfl rfl (by decide) (sv (d := .int _ _) rfl) (sv (d := .int _ 1) rfl) rfl hx26) <|
            ils_cons rfl (iop_move rfl rfl (by decide) (sv (d := .int _ _) rfl)) <|
            ils_nil ?_)
          refine thenQ_n ⟨(n0, x25, x26), (fun i => if i = 21 then 22 else i), ⟨(.cons (.same rfl rfl) (.cons (.same rfl rfl) (.cons (.same rfl rfl) (.cons (.same rfl rfl) .nil)))), (.cons (.tail rfl) .nil), nd_of [22] rfl (by decide), (fun i hi => by first | rfl | (show (if _ then _ else _) = _; (repeat' split) <;> omega))⟩, ?_, ?_⟩
          exact h
          exact Nat.lt_succ_self _
      ·
        replace h := bif_f h hc20
        refine iwp_exit ?_
        refine thenQ_e ?_
        refine thenQ_e ?_
        refine blockQ_e ?_
        refine thenQ_n ?_
        refine iwp_reg (ils_cons rfl (iop_move rfl rfl (by decide) (sv (d := .gsl _ _ _) rfl)) <|
          ils_cons rfl (iop_assign rfl rfl (by decide) (sv (d := .gsl _ _ _) rfl)) <|
          ils_cons rfl (iop_assign rfl rfl (by decide) (sv (d := .int _ 0) rfl)) <|
          ils_end ?_)
        refine iwp_ret ?_
        obtain rfl := Option.some.inj h
        refine ⟨.inr rfl, (.cons (svg_of rfl rfl) (.cons (sv rfl) .nil))⟩

set_option maxRecDepth 8000 in
set_option maxHeartbeats 2000000 in
theorem p_varint_Join (a0 : (List Int)) (r : ((List UInt8) × Int)) (h : varint_Join a0 = some r) : PureAt Try.prog 51 [.slice false (a0.map (eInt .i64).d)] (retD [.slice false (r.1.map eByte.d), .int .i64 r.2]) := by
  refine pure_of_iwp (rs := [.slice false (r.1.map eByte.d), .int .i64 r.2]) Try.func51 rfl Try.ntmps51 (nle rfl) rfl fun O hO => ?_
  show IWP _ _ _ _ ⟨[(0, .slice false (a0.map (eInt .i64).d))], []⟩ _
  unfold varint_Join at h
  refine iwp_reg (ils_cons rfl (iop_assign rfl rfl (by decide) (sv (d := .nils) rfl)) <|
    ils_cons rfl (iop_assign rfl rfl (by decide) (sv (d := .int _ 0) rfl)) <|
    ils_end ?_)
  obtain ⟨x1, hx1, h⟩ := bno_e h
  refine iwp_reg (ils_cons rfl (iop_move rfl rfl (by decide) (sv (d := .slice _ _) rfl)) <|
    ils_cons rfl (iop_call (r := .tuple [.slice _ _, .int _ _]) rfl rfl (by decide) cl70 (.cons (sv (d := .slice _ _) rfl) .nil) rfl (p_varint_join _ _ hx1)) <|
    ils_cons rfl (iop_extract (d := .slice _ _) rfl rfl (by decide) (sv (d := .tuple [.slice _ _, .int _ _]) rfl) rfl) <|
    ils_cons rfl (iop_extract (d := .int _ _) rfl rfl (by decide) (sv (d := .tuple [.slice _ _, .int _ _]) rfl) rfl) <|
    ils_cons rfl (iop_assign rfl rfl (by decide) (sv (d := .slice _ _) rfl)) <|
    ils_cons rfl (iop_assign rfl rfl (by decide) (sv (d := .int _ _) rfl)) <|
    ils_end ?_)
  refine iwp_ret ?_
  obtain rfl := Option.some.inj h
  refine ⟨.inr rfl, (.cons (sv rfl) (.cons (sv rfl) .nil))⟩

set_option maxRecDepth 8000 in
set_option maxHeartbeats 2000000 in
theorem p_frame_Frame_payload (a0 : T_frame_Frame) (r : (List UInt8)) (h : frame_Frame_payload a0 = some r) : PureAt Try.prog 32 [.agg [.int .u8 a0.Kind, .bool a0.Flag, .int .i64 a0.Stream, .int .i64 a0.Offset, .int .i64 a0.Dep, .int .i64 a0.Weight, .int .i64 a0.N, .int .i64 a0.Code, .slice false (a0.Pairs.map E_api_Pair.d), .str a0.Data]] (.str r) := by
  refine pure_of_iwp (rs := [.str r]) Try.func32 rfl Try.ntmps32 (nle rfl) rfl fun O hO => ?_
  show IWP _ _ _ _ ⟨[(0, .agg [.int .u8 a0.Kind, .bool a0.Flag, .int .i64 a0.Stream, .int .i64 a0.Offset, .int .i64 a0.Dep, .int .i64 a0.Weight, .int .i64 a0.N, .int .i64 a0.Code, .slice false (a0.Pairs.map E_api_Pair.d), .str a0.Data])], []⟩ _
  unfold frame_Frame_payload at h
  refine iwp_reg (ils_cons rfl (iop_box' (cs := [.int _ _, .bool _, .int _ _, .int _ _, .int _ _, .int _ _, .int _ _, .int _ _, .slice _ _, .str _]) 0 rfl rfl (by decide) rfl (sv (d := .agg [.int _ _, .bool _, .int _ _, .int _ _, .int _ _, .int _ _, .int _ _, .int _ _, .slice _ _, .str _]) rfl) rfl rfl) <|
    ils_cons rfl (iop_assign rfl rfl (by decide) (sv (d := .str []) rfl)) <|
    ils_end ?_)
  refine iwp_reg (ils_cons rfl (iop_assign rfl rfl (by decide) (sv (d := .nils) rfl)) <|
    ils_end ?_)
  refine iwp_seq ?_
  obtain ⟨x1, hx1, h⟩ := bno_e h
  refine iwp_reg (ils_cons rfl (iop_callh2 (r' := .osl 1 (eRef 0).sz x1.length) (H1' := [(0, .blk 42 [.int .u8 a0.Kind, .bool a0.Flag, .int .i64 a0.Stream, .int .i64 a0.Offset, .int .i64 a0.Dep, .int .i64 a0.Weight, .int .i64 a0.N, .int .i64 a0.Code, .slice false (a0.Pairs.map E_api_Pair.d), .str a0.Data]), (1, .blk 91 (D.flat (x1.map (eRef 0).d)))]) 1 [0] rfl rfl (by decide) cl50 (.cons (sv (d := .ref _ _) rfl) .nil) rfl rfl ⟨rfl, rfl, by decide, rfl, List.forall_mem_cons.2 ⟨⟨rfl, rfl, rfl, rfl⟩, List.forall_mem_nil _⟩⟩ (p_frame_Frame_numbers_h _ _ hx1) rfl rfl (List.forall_mem_cons.2 ⟨⟨rfl, rfl⟩, List.forall_mem_cons.2 ⟨⟨rfl, (handRr rfl)⟩, List.forall_mem_nil _⟩⟩) (by simp only [List.map_cons, List.map_nil, Ent.ren, renL_flat, renL_ref]; rfl)) <|
    ils_cons rfl (iop_lenO rfl rfl (by decide) Try.underlying89 (sv (d := .osl _ _ _) rfl)) <|
    ils_cons rfl (iop_move rfl rfl (by decide) (sv (d := .int _ 0) rfl)) <|
    ils_end ?_)
  refine iwp_block ?_
  refine iwp_loopP (α := Nat × (List Int) × Int) (fun z => ⟨[(1, .ref 0 0), (3, .gsl 23 (eInt .i64).sz (z.2.1.map (eInt .i64).d)), (10, .osl 1 (eRef 0).sz x1.length), (11, .int .i64 (x1.length : Int)), (12, .int .i64 z.2.2)], [(0, .blk 42 [.int .u8 a0.Kind, .bool a0.Flag, .int .i64 a0.Stream, .int .i64 a0.Offset, .int .i64 a0.Dep, .int .i64 a0.Weight, .int .i64 a0.N, .int .i64 a0.Code, .slice false (a0.Pairs.map E_api_Pair.d), .str a0.Data]), (23, .tail 3 (eInt .i64).sz z.2.1.length), (1, .blk 91 (D.flat (x1.map (eRef 0).d)))]⟩) (fun z => frame_Frame_payload_L0 a0 x1 z.1 z.2.1 z.2.2 = some r) (fun z => z.1) (fuel, ([] : (List Int)), 0) (fun i => if i = 23 then 75 else i) ⟨(.cons (.same rfl rfl) (.cons (.nils rfl) (.cons (.same rfl rfl) (.cons (.same rfl rfl) (.cons (.same rfl rfl) .nil))))), (.cons (.blk rfl rfl rfl) (.cons (.nils rfl) (.cons (EntW.lstR rfl rfl) .nil))), nd_of [0, 75, 1] rfl (by decide), (fun i hi => by first | rfl | (show (if _ then _ else _) = _; (repeat' split) <;> omega))⟩ ?_ ?_
  · exact h
  ·
    rintro ⟨n0, v9, v10⟩ h
    cases n0 with
    | zero => exact absurd h (by unfold frame_Frame_payload_L0; exact nofun)
    | succ n0 =>
      unfold frame_Frame_payload_L0 at h
      obtain ⟨x18, hx18, h⟩ := bnd_e h
      refine iwp_reg (ils_cons rfl (iop_cmpx rfl rfl (by decide) (sv (d := .int _ _) rfl) (sv (d := .int _ _) rfl) rfl hx18) <|
        ils_end ?_)
      refine iwp_seq ?_
      refine iwp_cond (b := _) rfl (fun hc19 => ?_) (fun hc19 => ?_)
      ·
        replace h := bif_t h hc19
        refine iwp_skip ?_
        refine thenQ_n ?_
        refine iwp_seq ?_
        refine iwp_block ?_
        obtain ⟨x20, hx20, h⟩ := bno_e h
        obtain ⟨x21, hx21, h⟩ := bno_e h
        refine iwp_reg (ils_cons rfl (iop_idxO (eRef 0) rfl rfl (by decide) Try.underlying89 ti91 (sv (d := .osl _ _ _) rfl) rfl (sv (d := .int _ _) rfl) hx20) <|
          ils_cons rfl (iop_loadEs (eRef 0) (d := .ref _ _) rfl rfl (by decide) Try.underlying91 ag91 ti91 (by decide) (sv (d := .ref _ _) rfl) rfl hx21 (nle rfl) rfl) <|
          ils_cons rfl (iop_assign rfl rfl (by decide) (sv (d := .ref _ _) rfl)) <|
          ils_end ?_)
        obtain ⟨x22, hx22, h⟩ := bno_e h
        obtain ⟨x23, hx23, h⟩ := bno_e h
        refine iwp_region (ils_cons rfl (iop_move rfl rfl (by decide) (sv (d := .gsl _ _ _) rfl)) <|
          ils_cons rfl (iop_move rfl rfl (by decide) (sv (d := .ref _ _) rfl)) <|
          ils_cons rfl (iop_nilCheck_ref rfl rfl (by decide) (sv (d := .ref _ _) rfl)) <|
          ils_cons rfl (iop_load_sym rfl rfl (by decide) Try.underlying3 ag3 ti3 (sv (d := .ref _ _) rfl) rfl hx22) <|
          ils_cons rfl (iop_bsT (eInt .i64) ([x22] : (List Int)) 24 rfl rfl (by decide) Try.underlying88 ti3 rfl (.cons (sv (d := .int _ _) rfl) .nil) rfl rfl (by decide)) <|
          ils_cons rfl (iop_appT (eInt .i64) 25 rfl rfl (by decide) Try.underlying88 ti3 rfl rfl rfl rfl (svg rfl) hx23) <|
          ils_cons rfl (iop_assign rfl rfl (by decide) (sv (d := .gsl _ _ _) rfl)) <|
          ils_nil ?_)
        refine blockQ_n ?_
        refine thenQ_n ?_
        obtain ⟨x24, hx24, h⟩ := bnd_e h
        refine iwp_region (ils_cons rfl (iop_intx rfl rfl (by decide) (sv (d := .int _ _) rfl) (sv (d := .int _ 1) rfl) rfl hx24) <|
          ils_cons rfl (iop_move rfl rfl (by decide) (sv (d := .int _ _) rfl)) <|
          ils_nil ?_)
        refine thenQ_n ⟨(n0, x23, x24), (fun i => if i = 23 then 25 else i), ⟨(.cons (.same rfl rfl) (.cons (.same rfl rfl) (.cons (.same rfl rfl) (.cons (.same rfl rfl) (.cons (.same rfl rfl) .nil))))), (.cons (.blk rfl rfl rfl) (.cons (.tail rfl) (.cons (EntW.lstR rfl rfl) .nil))), nd_of [0, 25, 1] rfl (by decide), (fun i hi => by first | rfl | (show (if _ then _ else _) = _; (repeat' split) <;> omega))⟩, ?_, ?_⟩
        exact h
        exact Nat.lt_succ_self _
      ·
        replace h := bif_f h hc19
        refine iwp_exit ?_
        refine thenQ_e ?_
        refine thenQ_e ?_
        refine blockQ_e ?_
        refine thenQ_n ?_
        refine iwp_seq ?_
        refine iwp_reg (ils_cons rfl (iop_fieldAddr_ref rfl rfl (by decide) Try.underlying42 rfl ti38 (by decide) (sv (d := .ref _ _) rfl) (off' := 8) rfl) <|
          ils_cons rfl (iop_load_rs (d := .slice _ _) rfl rfl (by decide) Try.underlying38 ag38 ti38 (by decide) (sv (d := .ref _ _) rfl) rfl (nle rfl) rfl) <|
          ils_cons rfl (iop_lenT E_api_Pair (l := a0.Pairs) rfl rfl (by decide) Try.underlying38 (sv (d := .slice _ _) rfl)) <|
          ils_cons rfl (iop_move rfl rfl (by decide) (sv (d := .int _ 0) rfl)) <|
          ils_end ?_)
        refine iwp_block ?_
        refine iwp_loopP (α := Nat × (List Int) × Int) (fun z => ⟨[(1, .ref 0 0), (3, .gsl 23 (eInt .i64).sz (z.2.1.map (eInt .i64).d)), (24, .slice false (a0.Pairs.map E_api_Pair.d)), (25, .int .i64 (a0.Pairs.length : Int)), (26, .int .i64 z.2.2)], [(0, .blk 42 [.int .u8 a0.Kind, .bool a0.Flag, .int .i64 a0.Stream, .int .i64 a0.Offset, .int .i64 a0.Dep, .int .i64 a0.Weight, .int .i64 a0.N, .int .i64 a0.Code, .slice false (a0.Pairs.map E_api_Pair.d), .str a0.Data]), (23, .tail 3 (eInt .i64).sz z.2.1.length)]⟩) (fun z => frame_Frame_payload_L1 a0 z.1 z.2.1 z.2.2 = some r) (fun z => z.1) (fuel, v9, 0) (fun i => i) ⟨(.cons (.same rfl rfl) (.cons (.same rfl rfl) (.cons (.same rfl rfl) (.cons (.same rfl rfl) (.cons (.same rfl rfl) .nil))))), (.cons (.blk rfl rfl rfl) (.cons (.tail rfl) .nil)), nd_of [0, 23] rfl (by decide), (fun i hi => by first | rfl | (show (if _ then _ else _) = _; (repeat' split) <;> omega))⟩ ?_ ?_
        · exact h
        ·
          rintro ⟨n1, v30, v31⟩ h
          cases n1 with
          | zero => exact absurd h (by unfold frame_Frame_payload_L1; exact nofun)
          | succ n1 =>
            unfold frame_Frame_payload_L1 at h
            obtain ⟨x37, hx37, h⟩ := bnd_e h
            refine iwp_reg (ils_cons rfl (iop_cmpx rfl rfl (by decide) (sv (d := .int _ _) rfl) (sv (d := .int _ _) rfl) rfl hx37) <|
              ils_end ?_)
            refine iwp_seq ?_
            refine iwp_cond (b := _) rfl (fun hc38 => ?_) (fun hc38 => ?_)
            ·
              replace h := bif_t h hc38
              refine iwp_skip ?_
              refine thenQ_n ?_
              refine iwp_seq ?_
              refine iwp_block ?_
              obtain ⟨x39, hx39, h⟩ := bno_e h
              refine iwp_reg (ils_cons rfl (iop_idxT E_api_Pair (cs := [.int _ _, .int _ _]) rfl rfl (by decide) Try.underlying38 ti77 (sv (d := .slice _ _) rfl) (sv (d := .int _ _) rfl) hx39 rfl rfl) <|
                ils_cons rfl (iop_load_fa (cs := [.int _ _, .int _ _]) rfl rfl (by decide) Try.underlying77 ag77 ti77 (by decide) (sv (d := .fptr [.int _ _, .int _ _]) rfl) (nle rfl) rfl) <|
                ils_cons rfl (iop_allocS (cs := [.int _ _, .int _ _]) (cs' := [.int .i64 0, .int .i64 0]) 24 rfl rfl (by decide) rfl ti77 rfl rfl (.cons (.refl _) (.cons (.refl _) .nil))) <|
                ils_cons rfl (iop_store (ds' := [.int _ _, .int _ _]) rfl rfl ti77 (sv (d := .ref _ _) rfl) rfl (sv (d := .agg [.int _ _, .int _ _]) rfl) rfl rfl rfl (nle rfl) rfl) <|
                ils_end ?_)
              obtain ⟨x40, hx40, h⟩ := bno_e h
              refine iwp_region (ils_cons rfl (iop_move rfl rfl (by decide) (sv (d := .gsl _ _ _) rfl)) <|
                ils_cons rfl (iop_fieldAddr_ref rfl rfl (by decide) Try.underlying77 rfl ti3 (by decide) (sv (d := .ref _ _) rfl) (off' := 0) rfl) <|
                ils_cons rfl (iop_load_rs (d := .int _ _) rfl rfl (by decide) Try.underlying3 ag3 ti3 (by decide) (sv (d := .ref _ _) rfl) rfl (nle rfl) rfl) <|
                ils_cons rfl (iop_fieldAddr_ref rfl rfl (by decide) Try.underlying77 rfl ti3 (by decide) (sv (d := .ref _ _) rfl) (off' := 1) rfl) <|
                ils_cons rfl (iop_load_rs (d := .int _ _) rfl rfl (by decide) Try.underlying3 ag3 ti3 (by decide) (sv (d := .ref _ _) rfl) rfl (nle rfl) rfl) <|
                ils_cons rfl (iop_bsT (eInt .i64) ([x39.ID, x39.Value] : (List Int)) 25 rfl rfl (by decide) Try.underlying88 ti3 rfl (.cons (sv (d := .int _ _) rfl) (.cons (sv (d := .int _ _) rfl) .nil)) rfl rfl (by decide)) <|
                ils_cons rfl (iop_appT (eInt .i64) 26 rfl rfl (by decide) Try.underlying88 ti3 rfl rfl rfl rfl (svg rfl) hx40) <|
                ils_cons rfl (iop_assign rfl rfl (by decide) (sv (d := .gsl _ _ _) rfl)) <|
                ils_nil ?_)
              refine blockQ_n ?_
              refine thenQ_n ?_
              obtain ⟨x41, hx41, h⟩ := bnd_e h
              refine iwp_region (ils_cons rfl (iop_intx rfl rfl (by decide) (sv (d := .int _ _) rfl) (sv (d := .int _ 1) rfl) rfl hx41) <|
                ils_cons rfl (iop_move rfl rfl (by decide) (sv (d := .int _ _) rfl)) <|
                ils_nil ?_)
              refine thenQ_n ⟨(n1, x40, x41), (fun i => if i = 23 then 26 else i), ⟨(.cons (.same rfl rfl) (.cons (.same rfl rfl) (.cons (.same rfl rfl) (.cons (.same rfl rfl) (.cons (.same rfl rfl) .nil))))), (.cons (.blk rfl rfl rfl) (.cons (.tail rfl) .nil)), nd_of [0, 26] rfl (by decide), (fun i hi => by first | rfl | (show (if _ then _ else _) = _; (repeat' split) <;> omega))⟩, ?_, ?_⟩
              exact h
              exact Nat.lt_succ_self _
            ·
              replace h := bif_f h hc38
              refine iwp_exit ?_
              refine thenQ_e ?_
              refine thenQ_e ?_
              refine blockQ_e ?_
              refine thenQ_n ?_
              obtain ⟨x42, hx42, h⟩ := bno_e h
              refine iwp_reg (ils_cons rfl (iop_move rfl rfl (by decide) (sv (d := .gsl _ _ _) rfl)) <|
                ils_cons rfl (iop_call (r := .tuple [.slice _ _, .int _ _]) rfl rfl (by decide) cl51 (.cons (svg rfl) .nil) rfl (p_varint_Join _ _ hx42)) <|
                ils_cons rfl (iop_move rfl rfl (by decide) (sv (d := .tuple [.slice _ _, .int _ _]) rfl)) <|
                ils_cons rfl (iop_extract (d := .slice _ _) rfl rfl (by decide) (sv (d := .tuple [.slice _ _, .int _ _]) rfl) rfl) <|
                ils_cons rfl (iop_extract (d := .int _ _) rfl rfl (by decide) (sv (d := .tuple [.slice _ _, .int _ _]) rfl) rfl) <|
                ils_cons rfl (iop_assign rfl rfl (by decide) (sv (d := .slice _ _) rfl)) <|
                ils_cons rfl (iop_assign rfl rfl (by decide) (sv (d := .int _ _) rfl)) <|
                ils_end ?_)
              obtain ⟨x43, hx43, h⟩ := bno_e h
              refine iwp_reg (ils_cons rfl (iop_move rfl rfl (by decide) (sv (d := .slice _ _) rfl)) <|
                ils_cons rfl (iop_bytes_str (l := x42.1) rfl rfl (by decide) Try.underlying65 Try.underlying5 Try.underlying9 (sv (d := .slice _ _) rfl)) <|
                ils_cons rfl (iop_fieldAddr_ref rfl rfl (by decide) Try.underlying42 rfl ti9 (by decide) (sv (d := .ref _ _) rfl) (off' := 9) rfl) <|
                ils_cons rfl (iop_load_rs (d := .str _) rfl rfl (by decide) Try.underlying9 ag9 ti9 (by decide) (sv (d := .ref _ _) rfl) rfl (nle rfl) rfl) <|
                ils_cons rfl (iop_catx rfl rfl (by decide) (sv (d := .str _) rfl) (sv (d := .str _) rfl) hx43) <|
                ils_cons rfl (iop_assign rfl rfl (by decide) (sv (d := .str _) rfl)) <|
                ils_end ?_)
              refine iwp_ret ?_
              obtain rfl := Option.some.inj h
              refine ⟨.inr rfl, (.cons (sv rfl) .nil)⟩

set_option maxRecDepth 8000 in
set_option maxHeartbeats 2000000 in
theorem p_slices_Clone_byte_byte_h (a0 : (List UInt8)) (r : (List UInt8)) (h : slices_Clone_byte_byte_h a0 = some r) : FnH Try.prog 52 [.slice false (a0.map eByte.d)] [] (.osl 0 eByte.sz r.length) [(0, .blk 5 (D.flat (r.map eByte.d)))] := by
  refine fnh_of_iwp (rs := [.osl 0 eByte.sz r.length]) Try.func52 rfl Try.ntmps52 (nle rfl) fun O => ?_
  show IWP _ _ _ _ ⟨[(0, .slice false (a0.map eByte.d))], []⟩ _
  unfold slices_Clone_byte_byte_h at h
  refine iwp_reg (ils_cons rfl (iop_assign rfl rfl (by decide) (sv (d := .nils) rfl)) <|
    ils_end ?_)
  refine iwp_seq ?_
  refine iwp_reg (ils_cons rfl (iop_move rfl rfl (by decide) (sv (d := .slice _ _) rfl)) <|
    ils_eqnil rfl rfl rfl (by decide) Try.underlying65 (sv (d := .slice _ _) rfl) rfl <| fun bn1 hbn1 =>
    ils_end ?_)
  refine iwp_cond (b := _) rfl (fun hc2 => ?_) (fun hc2 => ?_)
  ·
    replace h := bothE_t h (mapE (hbn1 hc2))
    refine iwp_reg (ils_cons rfl (iop_assign rfl rfl (by decide) (sv (d := .nils) rfl)) <|
      ils_end ?_)
    refine iwp_ret ?_
    refine thenQ_r ?_
    obtain rfl := Option.some.inj h
    refine ⟨.inr rfl, (fun i => if i = 0 then 50 else i), ⟨.nil, (.cons (.nilb rfl) .nil), nd_of [50] rfl (by decide), (fun i hi => by first | rfl | (show (if _ then _ else _) = _; (repeat' split) <;> omega))⟩, (.cons (svno rfl) .nil), rfl⟩
  ·
    replace h := bothE_f h
    refine iwp_skip ?_
    refine thenQ_n ?_
    obtain ⟨x3, hx3, h⟩ := bno_e h
    refine iwp_reg (ils_cons rfl (iop_bsO eByte.toEnc0 ([] : (List UInt8)) 0 rfl rfl (by decide) Try.underlying65 ti5 rfl .nil rfl rfl (by decide)) <|
      ils_cons rfl (iop_move rfl rfl (by decide) (sv (d := .slice _ _) rfl)) <|
      ils_cons rfl (iop_appO eByte.toEnc0 1 rfl rfl (by decide) Try.underlying65 ti5 rfl rfl rfl rfl rfl (src_T eByte (ys := a0) (sv (d := .slice _ _) rfl)) hx3) <|
      ils_cons rfl (iop_assign rfl rfl (by decide) (sv (d := .osl _ _ _) rfl)) <|
      ils_end ?_)
    refine iwp_ret ?_
    obtain rfl := Option.some.inj h
    refine ⟨.inr rfl, (fun i => if i = 0 then 1 else i), ⟨.nil, (.cons (EntW.lst rfl) .nil), nd_of [1] rfl (by decide), (fun i hi => by first | rfl | (show (if _ then _ else _) = _; (repeat' split) <;> omega))⟩, (.cons (sv rfl) .nil), rfl⟩

set_option maxRecDepth 8000 in
set_option maxHeartbeats 2000000 in
theorem p_cursor_Fits (a0 : Int) (a1 : Int) (r : Bool) (h : cursor_Fits a0 a1 = some r) : PureAt Try.prog 53 [.int .i64 a0, .int .i64 a1] (.bool r) := by
  refine pure_of_iwp (rs := [.bool r]) Try.func53 rfl Try.ntmps53 (nle rfl) rfl fun O hO => ?_
  show IWP _ _ _ _ ⟨[(0, .int .i64 a0), (1, .int .i64 a1)], []⟩ _
  unfold cursor_Fits at h
  refine iwp_reg (ils_cons rfl (iop_assign rfl rfl (by decide) (sv (d := .bool false) rfl)) <|
    ils_end ?_)
  obtain ⟨x1, hx1, h⟩ := bnd_e h
  obtain ⟨x2, hx2, h⟩ := bnd_e h
  obtain ⟨x3, hx3, h⟩ := bnd_e h
  obtain ⟨x4, hx4, h⟩ := bnd_e h
  obtain ⟨x5, hx5, h⟩ := bnd_e h
  obtain ⟨x6, hx6, h⟩ := bnd_e h
  obtain ⟨x7, hx7, h⟩ := bno_e h
  obtain ⟨x8, hx8, h⟩ := bnd_e h
  obtain ⟨x9, hx9, h⟩ := bnd_e h
  refine iwp_reg (ils_cons rfl (iop_move rfl rfl (by decide) (sv (d := .int _ _) rfl)) <|
    ils_cons rfl (iop_cmpx rfl rfl (by decide) (sv (d := .int _ _) rfl) (sv (d := .int _ 0) rfl) rfl hx1) <|
    ils_cons rfl (iop_move rfl rfl (by decide) (sv (d := .bool _) rfl)) <|
    ils_guard rfl rfl (.one rfl) rfl (by decide) (fun hb => (iop_move rfl rfl (by decide) (sv (d := .int _ _) rfl))) <|
    ils_guard rfl rfl (.one rfl) rfl (by decide) (fun hb => (iop_cmpx rfl rfl (by decide) (svc (d := .int _ _) rfl hb) (sv (d := .int _ 1) rfl) rfl hx2)) <|
    ils_cons rfl (iop_andx rfl rfl (by decide) (sv (d := .bool _) rfl) rfl rfl hx3) <|
    ils_cons rfl (iop_move rfl rfl (by decide) (sv (d := .bool _) rfl)) <|
    ils_guard rfl rfl (.one rfl) rfl (by decide) (fun hb => (iop_move rfl rfl (by decide) (sv (d := .int _ _) rfl))) <|
    ils_guard rfl rfl (.one rfl) rfl (by decide) (fun hb => (iop_cmpx rfl rfl (by decide) (svc (d := .int _ _) rfl hb) (sv (d := .int _ 7) rfl) rfl hx4)) <|
    ils_cons rfl (iop_andx rfl rfl (by decide) (sv (d := .bool _) rfl) rfl rfl hx5) <|
    ils_cons rfl (iop_move rfl rfl (by decide) (sv (d := .bool _) rfl)) <|
    ils_guard rfl rfl (.one rfl) rfl (by decide) (fun hb => (iop_move rfl rfl (by decide) (sv (d := .int _ _) rfl))) <|
    ils_guard rfl rfl (.one rfl) rfl (by decide) (fun hb => (iop_move rfl rfl (by decide) (sv (d := .int _ _) rfl))) <|
    ils_guard rfl rfl (.one rfl) rfl (by decide) (fun hb => (iop_intx rfl rfl (by decide) (sv (d := .int _ 8) rfl) (svc (d := .int _ _) rfl hb) rfl hx6)) <|
    ils_guard rfl rfl (.one rfl) rfl (by decide) (fun hb => (iop_shrx rfl rfl (by decide) (svc (d := .int _ _) rfl hb) (svc (d := .int _ _) rfl hb) (gd_t hx7 hb))) <|
    ils_guard rfl rfl (.one rfl) rfl (by decide) (fun hb => (iop_cmpx rfl rfl (by decide) (svc (d := .int _ _) rfl hb) (sv (d := .int _ 0) rfl) rfl hx8)) <|
    ils_cons rfl (iop_andx rfl rfl (by decide) (sv (d := .bool _) rfl) rfl rfl hx9) <|
    ils_cons rfl (iop_assign rfl rfl (by decide) (sv (d := .bool _) rfl)) <|
    ils_end ?_)
  refine iwp_ret ?_
  obtain rfl := Option.some.inj h
  refine ⟨.inr rfl, (.cons (sv rfl) .nil)⟩

set_option maxRecDepth 8000 in
set_option maxHeartbeats 2000000 in
theorem p_cursor_Lay (a0 : (List UInt8)) (a1 : Int) (a2 : Int) (r : (List UInt8)) (h : cursor_Lay a0 a1 a2 = some r) : PureAt Try.prog 34 [.slice false (a0.map eByte.d), .int .i64 a1, .int .i64 a2] (.slice false (r.map eByte.d)) := by
  refine pure_of_iwpF (rs := [.slice false (r.map eByte.d)]) Try.func34 rfl Try.ntmps34 (nle rfl) rfl fun O hO => ?_
  show IWP _ _ _ _ ⟨[(0, .slice false (a0.map eByte.d)), (1, .int .i64 a1), (2, .int .i64 a2)], []⟩ _
  unfold cursor_Lay at h
  refine iwp_reg (ils_cons rfl (iop_assign rfl rfl (by decide) (sv (d := .nils) rfl)) <|
    ils_end ?_)
  obtain ⟨x1, hx1, h⟩ := bno_e h
  refine iwp_reg (ils_cons rfl (iop_move rfl rfl (by decide) (sv (d := .slice _ _) rfl)) <|
    ils_cons rfl (iop_callh2 (r' := .osl 0 eByte.sz x1.length) (H1' := [(0, .blk 5 (D.flat (x1.map eByte.d)))]) 0 [] rfl rfl (by decide) cl52 (.cons (sv (d := .slice _ _) rfl) .nil) rfl rfl ⟨rfl, rfl, by decide, rfl, List.forall_mem_nil _⟩ (p_slices_Clone_byte_byte_h _ _ hx1) rfl rfl (List.forall_mem_cons.2 ⟨⟨rfl, (handLr eByte)⟩, List.forall_mem_nil _⟩) (by simp only [List.map_cons, List.map_nil, Ent.ren, renL_flat, renL_ref]; rfl)) <|
    ils_cons rfl (iop_assign rfl rfl (by decide) (sv (d := .osl _ _ _) rfl)) <|
    ils_end ?_)
  refine iwp_seq ?_
  obtain ⟨x2, hx2, h⟩ := bno_e h
  refine iwp_reg (ils_cons rfl (iop_move rfl rfl (by decide) (sv (d := .int _ _) rfl)) <|
    ils_cons rfl (iop_move rfl rfl (by decide) (sv (d := .int _ _) rfl)) <|
    ils_cons rfl (iop_call (r := .bool _) rfl rfl (by decide) cl53 (.cons (sv (d := .int _ _) rfl) (.cons (sv (d := .int _ _) rfl) .nil)) rfl (p_cursor_Fits _ _ _ hx2)) <|
    ils_cons rfl (iop_not rfl rfl (by decide) (sv (d := .bool _) rfl)) <|
    ils_end ?_)
  refine iwp_cond (b := _) rfl (fun hc3 => ?_) (fun hc3 => ?_)
  ·
    replace h := bif_t h hc3
    refine iwp_reg (ils_cons rfl (iop_move rfl rfl (by decide) (sv (d := .osl _ _ _) rfl)) <|
      ils_cons rfl (iop_assign rfl rfl (by decide) (sv (d := .osl _ _ _) rfl)) <|
      ils_end ?_)
    refine iwp_ret ?_
    refine thenQ_r ?_
    obtain rfl := Option.some.inj h
    refine ⟨.inr rfl, _, (.cons (sv rfl) .nil), (.cons (FDT eByte rfl rfl) .nil)⟩
  ·
    replace h := bif_f h hc3
    refine iwp_skip ?_
    refine thenQ_n ?_
    refine iwp_seq ?_
    refine iwp_reg (ils_cons rfl (iop_move rfl rfl (by decide) (sv (d := .int _ _) rfl)) <|
      ils_cons rfl (iop_move rfl rfl (by decide) (sv (d := .int _ 0) rfl)) <|
      ils_end ?_)
    refine iwp_block ?_
    refine iwp_loopP (α := Nat × (List UInt8) × Int) (fun z => ⟨[(1, .int .i64 a1), (2, .int .i64 a2), (7, .osl 0 eByte.sz z.2.1.length), (16, .int .i64 a2), (17, .int .i64 z.2.2)], [(0, .blk 5 (D.flat (z.2.1.map eByte.d)))]⟩) (fun z => cursor_Lay_L0 a1 a2 z.1 z.2.1 z.2.2 = some r) (fun z => z.1) (fuel, x1, 0) (fun i => i) ⟨(.cons (.same rfl rfl) (.cons (.same rfl rfl) (.cons (.same rfl rfl) (.cons (.same rfl rfl) (.cons (.same rfl rfl) .nil))))), (.cons (EntW.lst rfl) .nil), nd_of [0] rfl (by decide), (fun i hi => by first | rfl | (show (if _ then _ else _) = _; (repeat' split) <;> omega))⟩ ?_ ?_
    · exact h
    ·
      rintro ⟨n0, v14, v15⟩ h
      cases n0 with
      | zero => exact absurd h (by unfold cursor_Lay_L0; exact nofun)
      | succ n0 =>
        unfold cursor_Lay_L0 at h
        obtain ⟨x26, hx26, h⟩ := bnd_e h
        refine iwp_reg (ils_cons rfl (iop_cmpx rfl rfl (by decide) (sv (d := .int _ _) rfl) (sv (d := .int _ _) rfl) rfl hx26) <|
          ils_end ?_)
        refine iwp_seq ?_
        refine iwp_cond (b := _) rfl (fun hc27 => ?_) (fun hc27 => ?_)
        ·
          replace h := bif_t h hc27
          refine iwp_skip ?_
          refine thenQ_n ?_
          refine iwp_seq ?_
          refine iwp_block ?_
          refine iwp_reg (ils_cons rfl (iop_move rfl rfl (by decide) (sv (d := .int _ _) rfl)) <|
            ils_cons rfl (iop_assign rfl rfl (by decide) (sv (d := .int _ _) rfl)) <|
            ils_end ?_)
          obtain ⟨x28, hx28, h⟩ := bnd_e h
          obtain ⟨x29, hx29, h⟩ := bnd_e h
          obtain ⟨x30, hx30, h⟩ := bnd_e h
          obtain ⟨x31, hx31, h⟩ := bno_e h
          obtain ⟨x32, hx32, h⟩ := bnd_e h
          obtain ⟨x33, hx33, h⟩ := bno_e h
          obtain ⟨x34, hx34, h⟩ := bno_e h
          refine iwp_region (ils_cons rfl (iop_move rfl rfl (by decide) (sv (d := .osl _ _ _) rfl)) <|
            ils_cons rfl (iop_move rfl rfl (by decide) (sv (d := .int _ _) rfl)) <|
            ils_cons rfl (iop_move rfl rfl (by decide) (sv (d := .int _ _) rfl)) <|
            ils_cons rfl (iop_intx rfl rfl (by decide) (sv (d := .int _ _) rfl) (sv (d := .int _ 1) rfl) rfl hx28) <|
            ils_cons rfl (iop_move rfl rfl (by decide) (sv (d := .int _ _) rfl)) <|
            ils_cons rfl (iop_intx rfl rfl (by decide) (sv (d := .int _ _) rfl) (sv (d := .int _ _) rfl) rfl hx29) <|
            ils_cons rfl (iop_intx rfl rfl (by decide) (sv (d := .int _ 8) rfl) (sv (d := .int _ _) rfl) rfl hx30) <|
            ils_cons rfl (iop_shrx rfl rfl (by decide) (sv (d := .int _ _) rfl) (sv (d := .int _ _) rfl) hx31) <|
            ils_cons rfl (iop_int_conv rfl rfl (by decide) ⟨_, Try.underlying3⟩ Try.underlying5 (sv (d := .int _ _) rfl) hx32) <|
            ils_cons rfl (iop_bsO eByte.toEnc0 ([x33] : (List UInt8)) 1 rfl rfl (by decide) Try.underlying65 ti5 rfl (.cons (sv_int (sv (d := .int _ _) rfl) (toU8_e hx33)) .nil) rfl rfl (by decide)) <|
            ils_cons rfl (iop_appO eByte.toEnc0 2 rfl rfl (by decide) Try.underlying65 ti5 rfl rfl rfl rfl rfl (src_O eByte.toEnc0 rfl rfl rfl) hx34) <|
            ils_cons rfl (iop_assign rfl rfl (by decide) (sv (d := .osl _ _ _) rfl)) <|
            ils_nil ?_)
          refine blockQ_n ?_
          refine thenQ_n ?_
          obtain ⟨x35, hx35, h⟩ := bnd_e h
          refine iwp_region (ils_cons rfl (iop_intx rfl rfl (by decide) (sv (d := .int _ _) rfl) (sv (d := .int _ 1) rfl) rfl hx35) <|
            ils_cons rfl (iop_move rfl rfl (by decide) (sv (d := .int _ _) rfl)) <|
            ils_nil ?_)
          refine thenQ_n ⟨(n0, x34, x35), (fun i => if i = 0 then 2 else i), ⟨(.cons (.same rfl rfl) (.cons (.same rfl rfl) (.cons (.same rfl rfl) (.cons (.same rfl rfl) (.cons (.same rfl rfl) .nil))))), (.cons (EntW.lst rfl) .nil), nd_of [2] rfl (by decide), (fun i hi => by first | rfl | (show (if _ then _ else _) = _; (repeat' split) <;> omega))⟩, ?_, ?_⟩
          exact h
          exact Nat.lt_succ_self _
        ·
          replace h := bif_f h hc27
          refine iwp_exit ?_
          refine thenQ_e ?_
          refine thenQ_e ?_
          refine blockQ_e ?_
          refine thenQ_n ?_
          refine iwp_reg (ils_cons rfl (iop_move rfl rfl (by decide) (sv (d := .osl _ _ _) rfl)) <|
            ils_cons rfl (iop_assign rfl rfl (by decide) (sv (d := .osl _ _ _) rfl)) <|
            ils_end ?_)
          refine iwp_ret ?_
          obtain rfl := Option.some.inj h
          refine ⟨.inr rfl, _, (.cons (sv rfl) .nil), (.cons (FDT eByte rfl rfl) .nil)⟩

set_option maxRecDepth 8000 in
set_option maxHeartbeats 2000000 in
theorem p_frame_Put (a0 : T_frame_Frame) (r : ((List UInt8) × Int)) (h : frame_Put a0 = some r) : PureAt Try.prog 20 [.agg [.int .u8 a0.Kind, .bool a0.Flag, .int .i64 a0.Stream, .int .i64 a0.Offset, .int .i64 a0.Dep, .int .i64 a0.Weight, .int .i64 a0.N, .int .i64 a0.Code, .slice false (a0.Pairs.map E_api_Pair.d), .str a0.Data]] (retD [.str r.1, .int .i64 r.2]) := by
  refine pure_of_iwp (rs := [.str r.1, .int .i64 r.2]) Try.func20 rfl Try.ntmps20 (nle rfl) rfl fun O hO => ?_
  show IWP _ _ _ _ ⟨[(0, .agg [.int .u8 a0.Kind, .bool a0.Flag, .int .i64 a0.Stream, .int .i64 a0.Offset, .int .i64 a0.Dep, .int .i64 a0.Weight, .int .i64 a0.N, .int .i64 a0.Code, .slice false (a0.Pairs.map E_api_Pair.d), .str a0.Data])], []⟩ _
  unfold frame_Put at h
  refine iwp_reg (ils_cons rfl (iop_box' (cs := [.int _ _, .bool _, .int _ _, .int _ _, .int _ _, .int _ _, .int _ _, .int _ _, .slice _ _, .str _]) 0 rfl rfl (by decide) rfl (sv (d := .agg [.int _ _, .bool _, .int _ _, .int _ _, .int _ _, .int _ _, .int _ _, .int _ _, .slice _ _, .str _]) rfl) rfl rfl) <|
    ils_cons rfl (iop_assign rfl rfl (by decide) (sv (d := .str []) rfl)) <|
    ils_cons rfl (iop_assign rfl rfl (by decide) (sv (d := .int _ 0) rfl)) <|
    ils_end ?_)
  refine iwp_seq ?_
  obtain ⟨x1, hx1, h⟩ := bno_e h
  refine iwp_reg (ils_cons rfl (iop_load_ra (cs := [.int _ _, .bool _, .int _ _, .int _ _, .int _ _, .int _ _, .int _ _, .int _ _, .slice _ _, .str _]) rfl rfl (by decide) Try.underlying42 ag42 ti42 (by decide) (sv (d := .ref _ _) rfl) rfl (nle rfl) rfl) <|
    ils_cons rfl (iop_call (r := .int _ _) rfl rfl (by decide) cl22 (.cons (sv (d := .agg [.int _ _, .bool _, .int _ _, .int _ _, .int _ _, .int _ _, .int _ _, .int _ _, .slice _ _, .str _]) rfl) .nil) rfl (p_frame_Check _ _ hx1)) <|
    ils_cons rfl (iop_assign rfl rfl (by decide) (sv (d := .int _ _) rfl)) <|
    ils_end ?_)
  obtain ⟨x2, hx2, h⟩ := bnd_e h
  refine iwp_reg (ils_cons rfl (iop_move rfl rfl (by decide) (sv (d := .int _ _) rfl)) <|
    ils_cons rfl (iop_cmpx rfl rfl (by decide) (sv (d := .int _ _) rfl) (sv (d := .int _ 0) rfl) rfl hx2) <|
    ils_end ?_)
  refine iwp_cond (b := _) rfl (fun hc3 => ?_) (fun hc3 => ?_)
  ·
    replace h := bif_t h hc3
    refine iwp_reg (ils_cons rfl (iop_move rfl rfl (by decide) (sv (d := .int _ _) rfl)) <|
      ils_cons rfl (iop_assign rfl rfl (by decide) (sv (d := .str []) rfl)) <|
      ils_cons rfl (iop_assign rfl rfl (by decide) (sv (d := .int _ _) rfl)) <|
      ils_end ?_)
    refine iwp_ret ?_
    refine thenQ_r ?_
    obtain rfl := Option.some.inj h
    refine ⟨.inr rfl, (.cons (sv rfl) (.cons (sv rfl) .nil))⟩
  ·
    replace h := bif_f h hc3
    refine iwp_skip ?_
    refine thenQ_n ?_
    refine iwp_reg (ils_cons rfl (iop_assign rfl rfl (by decide) (sv (d := .int _ 0) rfl)) <|
      ils_end ?_)
    refine iwp_join (α := Int) (fun z => ⟨[(1, .ref 0 0), (5, .int .i64 z)], [(0, .blk 42 [.int .u8 a0.Kind, .bool a0.Flag, .int .i64 a0.Stream, .int .i64 a0.Offset, .int .i64 a0.Dep, .int .i64 a0.Weight, .int .i64 a0.N, .int .i64 a0.Code, .slice false (a0.Pairs.map E_api_Pair.d), .str a0.Data])]⟩) (fun z => frame_Put_J0 a0 z = some r) ?_ ?_
    ·
      refine iwp_reg (ils_cons rfl (iop_fieldAddr_ref rfl rfl (by decide) Try.underlying42 rfl ti4 (by decide) (sv (d := .ref _ _) rfl) (off' := 1) rfl) <|
        ils_cons rfl (iop_load_rs (d := .bool _) rfl rfl (by decide) Try.underlying4 ag4 ti4 (by decide) (sv (d := .ref _ _) rfl) rfl (nle rfl) rfl) <|
        ils_end ?_)
      refine iwp_cond (b := _) rfl (fun hc15 => ?_) (fun hc15 => ?_)
      ·
        replace h := bif_t h hc15
        refine iwp_region (ils_cons rfl (iop_assign rfl rfl (by decide) (sv (d := .int _ 1) rfl)) <|
          ils_nil ?_)
        refine thenQ_n ⟨1, (fun i => i), ⟨(.cons (.same rfl rfl) (.cons (.same rfl rfl) .nil)), (.cons (.blk rfl rfl rfl) .nil), nd_of [0] rfl (by decide), (fun i hi => by first | rfl | (show (if _ then _ else _) = _; (repeat' split) <;> omega))⟩, ?_⟩
        exact h
      ·
        replace h := bif_f h hc15
        refine iwp_skip ?_
        refine thenQ_n ⟨0, (fun i => i), ⟨(.cons (.same rfl rfl) (.cons (.same rfl rfl) .nil)), (.cons (.blk rfl rfl rfl) .nil), nd_of [0] rfl (by decide), (fun i hi => by first | rfl | (show (if _ then _ else _) = _; (repeat' split) <;> omega))⟩, ?_⟩
        exact h
    ·
      rintro v5 h
      unfold frame_Put_J0 at h
      obtain ⟨x6, hx6, h⟩ := bno_e h
      refine iwp_reg (ils_cons rfl (iop_load_ra (cs := [.int _ _, .bool _, .int _ _, .int _ _, .int _ _, .int _ _, .int _ _, .int _ _, .slice _ _, .str _]) rfl rfl (by decide) Try.underlying42 ag42 ti42 (by decide) (sv (d := .ref _ _) rfl) rfl (nle rfl) rfl) <|
        ils_cons rfl (iop_call (r := .str _) rfl rfl (by decide) cl32 (.cons (sv (d := .agg [.int _ _, .bool _, .int _ _, .int _ _, .int _ _, .int _ _, .int _ _, .int _ _, .slice _ _, .str _]) rfl) .nil) rfl (p_frame_Frame_payload _ _ hx6)) <|
        ils_cons rfl (iop_assign rfl rfl (by decide) (sv (d := .str _) rfl)) <|
        ils_end ?_)
      obtain ⟨x7, hx7, h⟩ := bno_e h
      refine iwp_reg (ils_cons rfl (iop_move rfl rfl (by decide) (sv (d := .str _) rfl)) <|
        ils_cons rfl (iop_len_str rfl rfl (by decide) Try.underlying9 (sv (d := .str _) rfl) rfl) <|
        ils_cons rfl (iop_call (r := .tuple [.slice _ _, .int _ _]) rfl rfl (by decide) cl33 (.cons (sv (d := .int _ _) rfl) .nil) rfl (p_varint_Put _ _ hx7)) <|
        ils_cons rfl (iop_move rfl rfl (by decide) (sv (d := .tuple [.slice _ _, .int _ _]) rfl)) <|
        ils_cons rfl (iop_extract (d := .slice _ _) rfl rfl (by decide) (sv (d := .tuple [.slice _ _, .int _ _]) rfl) rfl) <|
        ils_cons rfl (iop_extract (d := .int _ _) rfl rfl (by decide) (sv (d := .tuple [.slice _ _, .int _ _]) rfl) rfl) <|
        ils_cons rfl (iop_assign rfl rfl (by decide) (sv (d := .slice _ _) rfl)) <|
        ils_cons rfl (iop_assign rfl rfl (by decide) (sv (d := .int _ _) rfl)) <|
        ils_end ?_)
      refine iwp_seq ?_
      obtain ⟨x8, hx8, h⟩ := bnd_e h
      refine iwp_reg (ils_cons rfl (iop_move rfl rfl (by decide) (sv (d := .int _ _) rfl)) <|
        ils_cons rfl (iop_cmpx rfl rfl (by decide) (sv (d := .int _ _) rfl) (sv (d := .int _ 0) rfl) rfl hx8) <|
        ils_end ?_)
      refine iwp_cond (b := _) rfl (fun hc9 => ?_) (fun hc9 => ?_)
      ·
        replace h := bif_t h hc9
        refine iwp_reg (ils_cons rfl (iop_move rfl rfl (by decide) (sv (d := .int _ _) rfl)) <|
          ils_cons rfl (iop_assign rfl rfl (by decide) (sv (d := .str []) rfl)) <|
          ils_cons rfl (iop_assign rfl rfl (by decide) (sv (d := .int _ _) rfl)) <|
          ils_end ?_)
        refine iwp_ret ?_
        refine thenQ_r ?_
        obtain rfl := Option.some.inj h
        refine ⟨.inr rfl, (.cons (sv rfl) (.cons (sv rfl) .nil))⟩
      ·
        replace h := bif_f h hc9
        refine iwp_skip ?_
        refine thenQ_n ?_
        obtain ⟨x10, hx10, h⟩ := bnd_e h
        obtain ⟨x11, hx11, h⟩ := bno_e h
        obtain ⟨x12, hx12, h⟩ := bno_e h
        refine iwp_reg (ils_cons rfl (iop_fieldAddr_ref rfl rfl (by decide) Try.underlying42 rfl ti5 (by decide) (sv (d := .ref _ _) rfl) (off' := 0) rfl) <|
          ils_cons rfl (iop_load_rs (d := .int _ _) rfl rfl (by decide) Try.underlying5 ag5 ti5 (by decide) (sv (d := .ref _ _) rfl) rfl (nle rfl) rfl) <|
          ils_cons rfl (iop_int_conv rfl rfl (by decide) ⟨_, Try.underlying5⟩ Try.underlying3 (sv (d := .int _ _) rfl) hx10) <|
          ils_cons rfl (iop_call (r := .slice _ _) rfl rfl (by decide) cl34 (.cons (svn rfl) (.cons (sv (d := .int _ _) rfl) (.cons (sv (d := .int _ 1) rfl) .nil))) rfl (p_cursor_Lay _ _ _ _ hx11)) <|
          ils_cons rfl (iop_move rfl rfl (by decide) (sv (d := .int _ _) rfl)) <|
          ils_cons rfl (iop_call (r := .slice _ _) rfl rfl (by decide) cl34 (.cons (sv (d := .slice _ _) rfl) (.cons (sv (d := .int _ _) rfl) (.cons (sv (d := .int _ 1) rfl) .nil))) rfl (p_cursor_Lay _ _ _ _ hx12)) <|
          ils_cons rfl (iop_assign rfl rfl (by decide) (sv (d := .slice _ _) rfl)) <|
          ils_end ?_)
        obtain ⟨x13, hx13, h⟩ := bno_e h
        obtain ⟨x14, hx14, h⟩ := bno_e h
        refine iwp_reg (ils_cons rfl (iop_move rfl rfl (by decide) (sv (d := .slice _ _) rfl)) <|
          ils_cons rfl (iop_bytes_str (l := x12) rfl rfl (by decide) Try.underlying65 Try.underlying5 Try.underlying9 (sv (d := .slice _ _) rfl)) <|
          ils_cons rfl (iop_move rfl rfl (by decide) (sv (d := .slice _ _) rfl)) <|
          ils_cons rfl (iop_bytes_str (l := x7.1) rfl rfl (by decide) Try.underlying65 Try.underlying5 Try.underlying9 (sv (d := .slice _ _) rfl)) <|
          ils_cons rfl (iop_catx rfl rfl (by decide) (sv (d := .str _) rfl) (sv (d := .str _) rfl) hx13) <|
          ils_cons rfl (iop_move rfl rfl (by decide) (sv (d := .str _) rfl)) <|
          ils_cons rfl (iop_catx rfl rfl (by decide) (sv (d := .str _) rfl) (sv (d := .str _) rfl) hx14) <|
          ils_cons rfl (iop_assign rfl rfl (by decide) (sv (d := .str _) rfl)) <|
          ils_cons rfl (iop_assign rfl rfl (by decide) (sv (d := .int _ 0) rfl)) <|
          ils_end ?_)
        refine iwp_ret ?_
        obtain rfl := Option.some.inj h
        refine ⟨.inr rfl, (.cons (sv rfl) (.cons (sv rfl) .nil))⟩

set_option maxRecDepth 8000 in
set_option maxHeartbeats 2000000 in
theorem p_varint_Get (a0 : (List UInt8)) (r : (Int × Int × Int)) (h : varint_Get a0 = some r) : PureAt Try.prog 31 [.str a0] (retD [.int .i64 r.1, .int .i64 r.2.1, .int .i64 r.2.2]) := by
  refine pure_of_iwp (rs := [.int .i64 r.1, .int .i64 r.2.1, .int .i64 r.2.2]) Try.func31 rfl Try.ntmps31 (nle rfl) rfl fun O hO => ?_
  show IWP _ _ _ _ ⟨[(0, .str a0)], []⟩ _
  unfold varint_Get at h
  refine iwp_reg (ils_cons rfl (iop_assign rfl rfl (by decide) (sv (d := .int _ 0) rfl)) <|
    ils_cons rfl (iop_assign rfl rfl (by decide) (sv (d := .int _ 0) rfl)) <|
    ils_cons rfl (iop_assign rfl rfl (by decide) (sv (d := .int _ 0) rfl)) <|
    ils_end ?_)
  refine iwp_seq ?_
  obtain ⟨x1, hx1, h⟩ := bnd_e h
  refine iwp_reg (ils_cons rfl (iop_move rfl rfl (by decide) (sv (d := .str _) rfl)) <|
    ils_cons rfl (iop_strx rfl rfl (by decide) (sv (d := .str _) rfl) (sv (d := .str []) rfl) rfl hx1) <|
    ils_end ?_)
  refine iwp_cond (b := _) rfl (fun hc2 => ?_) (fun hc2 => ?_)
  ·
    replace h := bif_t h hc2
    refine iwp_reg (ils_cons rfl (iop_assign rfl rfl (by decide) (sv (d := .int _ 0) rfl)) <|
      ils_cons rfl (iop_assign rfl rfl (by decide) (sv (d := .int _ 0) rfl)) <|
      ils_cons rfl (iop_assign rfl rfl (by decide) (sv (d := .int _ 3) rfl)) <|
      ils_end ?_)
    refine iwp_ret ?_
    refine thenQ_r ?_
    obtain rfl := Option.some.inj h
    refine ⟨.inr rfl, (.cons (sv rfl) (.cons (sv rfl) (.cons (sv rfl) .nil)))⟩
  ·
    replace h := bif_f h hc2
    refine iwp_skip ?_
    refine thenQ_n ?_
    obtain ⟨x3, hx3, h⟩ := bno_e h
    obtain ⟨x4, hx4, h⟩ := bno_e h
    obtain ⟨x5, hx5, h⟩ := bnd_e h
    refine iwp_reg (ils_cons rfl (iop_move rfl rfl (by decide) (sv (d := .str _) rfl)) <|
      ils_cons rfl (iop_str_at rfl rfl (by decide) Try.underlying9 (sv (d := .str _) rfl) (sv (d := .int _ 0) rfl) hx3) <|
      ils_cons rfl (iop_shrx rfl rfl (by decide) (sv (d := .int _ _) rfl) (sv (d := .int _ 6) rfl) hx4) <|
      ils_cons rfl (iop_int_conv rfl rfl (by decide) ⟨_, Try.underlying5⟩ Try.underlying3 (sv (d := .int _ _) rfl) hx5) <|
      ils_cons rfl (iop_assign rfl rfl (by decide) (sv (d := .int _ _) rfl)) <|
      ils_end ?_)
    obtain ⟨x6, hx6, h⟩ := bno_e h
    refine iwp_reg (ils_cons rfl (iop_move rfl rfl (by decide) (sv (d := .int _ _) rfl)) <|
      ils_cons rfl (iop_shlx rfl rfl (by decide) (sv (d := .int _ 1) rfl) (sv (d := .int _ _) rfl) hx6) <|
      ils_cons rfl (iop_assign rfl rfl (by decide) (sv (d := .int _ _) rfl)) <|
      ils_end ?_)
    refine iwp_seq ?_
    obtain ⟨x7, hx7, h⟩ := bnd_e h
    refine iwp_reg (ils_cons rfl (iop_move rfl rfl (by decide) (sv (d := .str _) rfl)) <|
      ils_cons rfl (iop_len_str rfl rfl (by decide) Try.underlying9 (sv (d := .str _) rfl) rfl) <|
      ils_cons rfl (iop_move rfl rfl (by decide) (sv (d := .int _ _) rfl)) <|
      ils_cons rfl (iop_cmpx rfl rfl (by decide) (sv (d := .int _ _) rfl) (sv (d := .int _ _) rfl) rfl hx7) <|
      ils_end ?_)
    refine iwp_cond (b := _) rfl (fun hc8 => ?_) (fun hc8 => ?_)
    ·
      replace h := bif_t h hc8
      refine iwp_reg (ils_cons rfl (iop_assign rfl rfl (by decide) (sv (d := .int _ 0) rfl)) <|
        ils_cons rfl (iop_assign rfl rfl (by decide) (sv (d := .int _ 0) rfl)) <|
        ils_cons rfl (iop_assign rfl rfl (by decide) (sv (d := .int _ 3) rfl)) <|
        ils_end ?_)
      refine iwp_ret ?_
      refine thenQ_r ?_
      obtain rfl := Option.some.inj h
      refine ⟨.inr rfl, (.cons (sv rfl) (.cons (sv rfl) (.cons (sv rfl) .nil)))⟩
    ·
      replace h := bif_f h hc8
      refine iwp_skip ?_
      refine thenQ_n ?_
      obtain ⟨x9, hx9, h⟩ := bno_e h
      obtain ⟨x10, hx10, h⟩ := bnd_e h
      obtain ⟨x11, hx11, h⟩ := bnd_e h
      refine iwp_reg (ils_cons rfl (iop_move rfl rfl (by decide) (sv (d := .str _) rfl)) <|
        ils_cons rfl (iop_str_at rfl rfl (by decide) Try.underlying9 (sv (d := .str _) rfl) (sv (d := .int _ 0) rfl) hx9) <|
        ils_cons rfl (iop_intx rfl rfl (by decide) (sv (d := .int _ _) rfl) (sv (d := .int _ 63) rfl) rfl hx10) <|
        ils_cons rfl (iop_int_conv rfl rfl (by decide) ⟨_, Try.underlying5⟩ Try.underlying3 (sv (d := .int _ _) rfl) hx11) <|
        ils_cons rfl (iop_assign rfl rfl (by decide) (sv (d := .int _ _) rfl)) <|
        ils_end ?_)
      refine iwp_seq ?_
      obtain ⟨x12, hx12, h⟩ := bno_e h
      refine iwp_reg (ils_cons rfl (iop_move rfl rfl (by decide) (sv (d := .str _) rfl)) <|
        ils_cons rfl (iop_move rfl rfl (by decide) (sv (d := .int _ _) rfl)) <|
        ils_cons rfl (iop_cutS rfl rfl (by decide) Try.underlying9 (sv (d := .str _) rfl) ⟨_, (sv (d := .int _ 1) rfl)⟩ ⟨_, (sv (d := .int _ _) rfl)⟩ hx12) <|
        ils_cons rfl (iop_str_bytes rfl rfl (by decide) Try.underlying9 Try.underlying65 Try.underlying5 (sv (d := .str _) rfl)) <|
        ils_cons rfl (iop_lenT eByte (l := x12) rfl rfl (by decide) Try.underlying65 (sv (d := .slice _ _) rfl)) <|
        ils_cons rfl (iop_move rfl rfl (by decide) (sv (d := .int _ 0) rfl)) <|
        ils_end ?_)
      refine iwp_block ?_
      refine iwp_loopP (α := Nat × Int × Int) (fun z => ⟨[(5, .int .i64 x5), (6, .int .i64 x6), (7, .int .i64 z.2.1), (29, .slice false (x12.map eByte.d)), (30, .int .i64 (x12.length : Int)), (31, .int .i64 z.2.2)], []⟩) (fun z => varint_Get_L0 x5 x6 x12 z.1 z.2.1 z.2.2 = some r) (fun z => z.1) (fuel, x11, 0) (fun i => i) ⟨(.cons (.same rfl rfl) (.cons (.same rfl rfl) (.cons (.same rfl rfl) (.cons (.same rfl rfl) (.cons (.same rfl rfl) (.cons (.same rfl rfl) .nil)))))), .nil, nd_of [] rfl (by decide), (fun i hi => by first | rfl | (show (if _ then _ else _) = _; (repeat' split) <;> omega))⟩ ?_ ?_
      · exact h
      ·
        rintro ⟨n0, v20, v21⟩ h
        cases n0 with
        | zero => exact absurd h (by unfold varint_Get_L0; exact nofun)
        | succ n0 =>
          unfold varint_Get_L0 at h
          obtain ⟨x29, hx29, h⟩ := bnd_e h
          refine iwp_reg (ils_cons rfl (iop_cmpx rfl rfl (by decide) (sv (d := .int _ _) rfl) (sv (d := .int _ _) rfl) rfl hx29) <|
            ils_end ?_)
          refine iwp_seq ?_
          refine iwp_cond (b := _) rfl (fun hc30 => ?_) (fun hc30 => ?_)
          ·
            replace h := bif_t h hc30
            refine iwp_skip ?_
            refine thenQ_n ?_
            refine iwp_seq ?_
            refine iwp_block ?_
            obtain ⟨x31, hx31, h⟩ := bno_e h
            refine iwp_reg (ils_cons rfl (iop_idxT eByte (cs := [.int _ _]) rfl rfl (by decide) Try.underlying65 ti5 (sv (d := .slice _ _) rfl) (sv (d := .int _ _) rfl) hx31 rfl rfl) <|
              ils_cons rfl (iop_load_fs rfl rfl (by decide) Try.underlying5 ag5 ti5 (by decide) (sv (d := .fptr [.int _ _]) rfl) (nle rfl)) <|
              ils_cons rfl (iop_assign rfl rfl (by decide) (sv (d := .int _ _) rfl)) <|
              ils_end ?_)
            obtain ⟨x32, hx32, h⟩ := bno_e h
            obtain ⟨x33, hx33, h⟩ := bnd_e h
            obtain ⟨x34, hx34, h⟩ := bnd_e h
            refine iwp_region (ils_cons rfl (iop_move rfl rfl (by decide) (sv (d := .int _ _) rfl)) <|
              ils_cons rfl (iop_shlx rfl rfl (by decide) (sv (d := .int _ _) rfl) (sv (d := .int _ 8) rfl) hx32) <|
              ils_cons rfl (iop_move rfl rfl (by decide) (sv (d := .int _ _) rfl)) <|
              ils_cons rfl (iop_int_conv rfl rfl (by decide) ⟨_, Try.underlying5⟩ Try.underlying3 (sv (d := .int _ _) rfl) hx33) <|
              ils_cons rfl (iop_intx rfl rfl (by decide) (sv (d := .int _ _) rfl) (sv (d := .int _ _) rfl) rfl hx34) <|
              ils_cons rfl (iop_assign rfl rfl (by decide) (sv (d := .int _ _) rfl)) <|
              ils_nil ?_)
            refine blockQ_n ?_
            refine thenQ_n ?_
            obtain ⟨x35, hx35, h⟩ := bnd_e h
            refine iwp_region (ils_cons rfl (iop_intx rfl rfl (by decide) (sv (d := .int _ _) rfl) (sv (d := .int _ 1) rfl) rfl hx35) <|
              ils_cons rfl (iop_move rfl rfl (by decide) (sv (d := .int _ _) rfl)) <|
              ils_nil ?_)
            refine thenQ_n ⟨(n0, x34, x35), (fun i => i), ⟨(.cons (.same rfl rfl) (.cons (.same rfl rfl) (.cons (.same rfl rfl) (.cons (.same rfl rfl) (.cons (.same rfl rfl) (.cons (.same rfl rfl) .nil)))))), .nil, nd_of [] rfl (by decide), (fun i hi => by first | rfl | (show (if _ then _ else _) = _; (repeat' split) <;> omega))⟩, ?_, ?_⟩
            exact h
            exact Nat.lt_succ_self _
          ·
            replace h := bif_f h hc30
            refine iwp_exit ?_
            refine thenQ_e ?_
            refine thenQ_e ?_
            refine blockQ_e ?_
            refine thenQ_n ?_
            refine iwp_seq ?_
            obtain ⟨x36, hx36, h⟩ := bno_e h
            obtain ⟨x37, hx37, h⟩ := bnd_e h
            refine iwp_reg (ils_cons rfl (iop_move rfl rfl (by decide) (sv (d := .int _ _) rfl)) <|
              ils_cons rfl (iop_call (r := .int _ _) rfl rfl (by decide) cl49 (.cons (sv (d := .int _ _) rfl) .nil) rfl (p_varint_kind _ _ hx36)) <|
              ils_cons rfl (iop_move rfl rfl (by decide) (sv (d := .int _ _) rfl)) <|
              ils_cons rfl (iop_cmpx rfl rfl (by decide) (sv (d := .int _ _) rfl) (sv (d := .int _ _) rfl) rfl hx37) <|
              ils_end ?_)
            refine iwp_cond (b := _) rfl (fun hc38 => ?_) (fun hc38 => ?_)
            ·
              replace h := bif_t h hc38
              refine iwp_reg (ils_cons rfl (iop_assign rfl rfl (by decide) (sv (d := .int _ 0) rfl)) <|
                ils_cons rfl (iop_assign rfl rfl (by decide) (sv (d := .int _ 0) rfl)) <|
                ils_cons rfl (iop_assign rfl rfl (by decide) (sv (d := .int _ 4) rfl)) <|
                ils_end ?_)
              refine iwp_ret ?_
              refine thenQ_r ?_
              obtain rfl := Option.some.inj h
              refine ⟨.inr rfl, (.cons (sv rfl) (.cons (sv rfl) (.cons (sv rfl) .nil)))⟩
            ·
              replace h := bif_f h hc38
              refine iwp_skip ?_
              refine thenQ_n ?_
              refine iwp_reg (ils_cons rfl (iop_move rfl rfl (by decide) (sv (d := .int _ _) rfl)) <|
                ils_cons rfl (iop_move rfl rfl (by decide) (sv (d := .int _ _) rfl)) <|
                ils_cons rfl (iop_assign rfl rfl (by decide) (sv (d := .int _ _) rfl)) <|
                ils_cons rfl (iop_assign rfl rfl (by decide) (sv (d := .int _ _) rfl)) <|
                ils_cons rfl (iop_assign rfl rfl (by decide) (sv (d := .int _ 0) rfl)) <|
                ils_end ?_)
              refine iwp_ret ?_
              obtain rfl := Option.some.inj h
              refine ⟨.inr rfl, (.cons (sv rfl) (.cons (sv rfl) (.cons (sv rfl) .nil)))⟩

set_option maxRecDepth 8000 in
set_option maxHeartbeats 2000000 in
theorem p_frame_head (a0 : (List UInt8)) (r : (T_frame_Frame × Int × Int × Int)) (h : frame_head a0 = some r) : PureAt Try.prog 44 [.str a0] (retD [.agg [.int .u8 r.1.Kind, .bool r.1.Flag, .int .i64 r.1.Stream, .int .i64 r.1.Offset, .int .i64 r.1.Dep, .int .i64 r.1.Weight, .int .i64 r.1.N, .int .i64 r.1.Code, .slice false (r.1.Pairs.map E_api_Pair.d), .str r.1.Data], .int .i64 r.2.1, .int .i64 r.2.2.1, .int .i64 r.2.2.2]) := by
  refine pure_of_iwp (rs := [.agg [.int .u8 r.1.Kind, .bool r.1.Flag, .int .i64 r.1.Stream, .int .i64 r.1.Offset, .int .i64 r.1.Dep, .int .i64 r.1.Weight, .int .i64 r.1.N, .int .i64 r.1.Code, .slice false (r.1.Pairs.map E_api_Pair.d), .str r.1.Data], .int .i64 r.2.1, .int .i64 r.2.2.1, .int .i64 r.2.2.2]) Try.func44 rfl Try.ntmps44 (nle rfl) rfl fun O hO => ?_
  show IWP _ _ _ _ ⟨[(0, .str a0)], []⟩ _
  unfold frame_head at h
  refine iwp_reg (ils_cons rfl (iop_allocS (cs := [.int _ _, .bool _, .int _ _, .int _ _, .int _ _, .int _ _, .int _ _, .int _ _, .nils, .str _]) (cs' := [.int .u8 0, .bool false, .int .i64 0, .int .i64 0, .int .i64 0, .int .i64 0, .int .i64 0, .int .i64 0, .slice false (([] : List T_api_Pair).map E_api_Pair.d), .str []]) 0 rfl rfl (by decide) rfl ti42 rfl rfl (.cons (.refl _) (.cons (.refl _) (.cons (.refl _) (.cons (.refl _) (.cons (.refl _) (.cons (.refl _) (.cons (.refl _) (.cons (.refl _) (.cons (.nils _) (.cons (.refl _) .nil))))))))))) <|
    ils_cons rfl (iop_assign rfl rfl (by decide) (sv (d := .int _ 0) rfl)) <|
    ils_cons rfl (iop_assign rfl rfl (by decide) (sv (d := .int _ 0) rfl)) <|
    ils_cons rfl (iop_assign rfl rfl (by decide) (sv (d := .int _ 0) rfl)) <|
    ils_end ?_)
  refine iwp_reg (ils_cons rfl (iop_allocS (cs := [.int _ _, .bool _, .int _ _, .int _ _, .int _ _, .int _ _, .int _ _, .int _ _, .nils, .str _]) (cs' := [.int .u8 0, .bool false, .int .i64 0, .int .i64 0, .int .i64 0, .int .i64 0, .int .i64 0, .int .i64 0, .slice false (([] : List T_api_Pair).map E_api_Pair.d), .str []]) 1 rfl rfl (by decide) rfl ti42 rfl rfl (.cons (.refl _) (.cons (.refl _) (.cons (.refl _) (.cons (.refl _) (.cons (.refl _) (.cons (.refl _) (.cons (.refl _) (.cons (.refl _) (.cons (.nils _) (.cons (.refl _) .nil))))))))))) <|
    ils_end ?_)
  refine iwp_seq ?_
  obtain ⟨x1, hx1, h⟩ := bnd_e h
  refine iwp_reg (ils_cons rfl (iop_move rfl rfl (by decide) (sv (d := .str _) rfl)) <|
    ils_cons rfl (iop_strx rfl rfl (by decide) (sv (d := .str _) rfl) (sv (d := .str []) rfl) rfl hx1) <|
    ils_end ?_)
  refine iwp_cond (b := _) rfl (fun hc2 => ?_) (fun hc2 => ?_)
  ·
    replace h := bif_t h hc2
    refine iwp_reg (ils_cons rfl (iop_load_ra (cs := [.int _ _, .bool _, .int _ _, .int _ _, .int _ _, .int _ _, .int _ _, .int _ _, .slice _ _, .str _]) rfl rfl (by decide) Try.underlying42 ag42 ti42 (by decide) (sv (d := .ref _ _) rfl) rfl (nle rfl) rfl) <|
      ils_cons rfl (iop_store (ds' := [.int _ _, .bool _, .int _ _, .int _ _, .int _ _, .int _ _, .int _ _, .int _ _, .slice false (([] : List T_api_Pair).map E_api_Pair.d), .str _]) rfl rfl ti42 (sv (d := .ref _ _) rfl) rfl (sv (d := .agg [.int _ _, .bool _, .int _ _, .int _ _, .int _ _, .int _ _, .int _ _, .int _ _, .slice _ _, .str _]) rfl) rfl rfl rfl (nle rfl) rfl) <|
      ils_cons rfl (iop_assign rfl rfl (by decide) (sv (d := .int _ 0) rfl)) <|
      ils_cons rfl (iop_assign rfl rfl (by decide) (sv (d := .int _ 0) rfl)) <|
      ils_cons rfl (iop_assign rfl rfl (by decide) (sv (d := .int _ 3) rfl)) <|
      ils_end ?_)
    refine iwp_ret ?_
    refine thenQ_r ?_
    obtain rfl := Option.some.inj h
    refine ⟨.inr rfl, (.cons (resv_a rfl rfl Try.underlying42 ag42 ti42 (by decide) (nle rfl) rfl) (.cons (sv rfl) (.cons (sv rfl) (.cons (sv rfl) .nil))))⟩
  ·
    replace h := bif_f h hc2
    refine iwp_skip ?_
    refine thenQ_n ?_
    refine iwp_seq ?_
    obtain ⟨x3, hx3, h⟩ := bno_e h
    obtain ⟨x4, hx4, h⟩ := bno_e h
    refine iwp_reg (ils_cons rfl (iop_move rfl rfl (by decide) (sv (d := .str _) rfl)) <|
      ils_cons rfl (iop_str_at rfl rfl (by decide) Try.underlying9 (sv (d := .str _) rfl) (sv (d := .int _ 0) rfl) hx3) <|
      ils_cons rfl (iop_call (r := .bool _) rfl rfl (by decide) cl37 (.cons (sv (d := .int _ _) rfl) .nil) rfl (p_frame_known _ _ hx4)) <|
      ils_cons rfl (iop_not rfl rfl (by decide) (sv (d := .bool _) rfl)) <|
      ils_end ?_)
    refine iwp_cond (b := _) rfl (fun hc5 => ?_) (fun hc5 => ?_)
    ·
      replace h := bif_t h hc5
      refine iwp_reg (ils_cons rfl (iop_load_ra (cs := [.int _ _, .bool _, .int _ _, .int _ _, .int _ _, .int _ _, .int _ _, .int _ _, .slice _ _, .str _]) rfl rfl (by decide) Try.underlying42 ag42 ti42 (by decide) (sv (d := .ref _ _) rfl) rfl (nle rfl) rfl) <|
        ils_cons rfl (iop_store (ds' := [.int _ _, .bool _, .int _ _, .int _ _, .int _ _, .int _ _, .int _ _, .int _ _, .slice false (([] : List T_api_Pair).map E_api_Pair.d), .str _]) rfl rfl ti42 (sv (d := .ref _ _) rfl) rfl (sv (d := .agg [.int _ _, .bool _, .int _ _, .int _ _, .int _ _, .int _ _, .int _ _, .int _ _, .slice _ _, .str _]) rfl) rfl rfl rfl (nle rfl) rfl) <|
        ils_cons rfl (iop_assign rfl rfl (by decide) (sv (d := .int _ 0) rfl)) <|
        ils_cons rfl (iop_assign rfl rfl (by decide) (sv (d := .int _ 0) rfl)) <|
        ils_cons rfl (iop_assign rfl rfl (by decide) (sv (d := .int _ 12) rfl)) <|
        ils_end ?_)
      refine iwp_ret ?_
      refine thenQ_r ?_
      obtain rfl := Option.some.inj h
      refine ⟨.inr rfl, (.cons (resv_a rfl rfl Try.underlying42 ag42 ti42 (by decide) (nle rfl) rfl) (.cons (sv rfl) (.cons (sv rfl) (.cons (sv rfl) .nil))))⟩
    ·
      replace h := bif_f h hc5
      refine iwp_skip ?_
      refine thenQ_n ?_
      refine iwp_seq ?_
      obtain ⟨x6, hx6, h⟩ := bnd_e h
      refine iwp_reg (ils_cons rfl (iop_move rfl rfl (by decide) (sv (d := .str _) rfl)) <|
        ils_cons rfl (iop_len_str rfl rfl (by decide) Try.underlying9 (sv (d := .str _) rfl) rfl) <|
        ils_cons rfl (iop_cmpx rfl rfl (by decide) (sv (d := .int _ _) rfl) (sv (d := .int _ 2) rfl) rfl hx6) <|
        ils_end ?_)
      refine iwp_cond (b := _) rfl (fun hc7 => ?_) (fun hc7 => ?_)
      ·
        replace h := bif_t h hc7
        refine iwp_reg (ils_cons rfl (iop_load_ra (cs := [.int _ _, .bool _, .int _ _, .int _ _, .int _ _, .int _ _, .int _ _, .int _ _, .slice _ _, .str _]) rfl rfl (by decide) Try.underlying42 ag42 ti42 (by decide) (sv (d := .ref _ _) rfl) rfl (nle rfl) rfl) <|
          ils_cons rfl (iop_store (ds' := [.int _ _, .bool _, .int _ _, .int _ _, .int _ _, .int _ _, .int _ _, .int _ _, .slice false (([] : List T_api_Pair).map E_api_Pair.d), .str _]) rfl rfl ti42 (sv (d := .ref _ _) rfl) rfl (sv (d := .agg [.int _ _, .bool _, .int _ _, .int _ _, .int _ _, .int _ _, .int _ _, .int _ _, .slice _ _, .str _]) rfl) rfl rfl rfl (nle rfl) rfl) <|
          ils_cons rfl (iop_assign rfl rfl (by decide) (sv (d := .int _ 0) rfl)) <|
          ils_cons rfl (iop_assign rfl rfl (by decide) (sv (d := .int _ 0) rfl)) <|
          ils_cons rfl (iop_assign rfl rfl (by decide) (sv (d := .int _ 3) rfl)) <|
          ils_end ?_)
        refine iwp_ret ?_
        refine thenQ_r ?_
        obtain rfl := Option.some.inj h
        refine ⟨.inr rfl, (.cons (resv_a rfl rfl Try.underlying42 ag42 ti42 (by decide) (nle rfl) rfl) (.cons (sv rfl) (.cons (sv rfl) (.cons (sv rfl) .nil))))⟩
      ·
        replace h := bif_f h hc7
        refine iwp_skip ?_
        refine thenQ_n ?_
        refine iwp_seq ?_
        obtain ⟨x8, hx8, h⟩ := bno_e h
        obtain ⟨x9, hx9, h⟩ := bnd_e h
        refine iwp_reg (ils_cons rfl (iop_move rfl rfl (by decide) (sv (d := .str _) rfl)) <|
          ils_cons rfl (iop_str_at rfl rfl (by decide) Try.underlying9 (sv (d := .str _) rfl) (sv (d := .int _ 1) rfl) hx8) <|
          ils_cons rfl (iop_cmpx rfl rfl (by decide) (sv (d := .int _ _) rfl) (sv (d := .int _ 1) rfl) rfl hx9) <|
          ils_end ?_)
        refine iwp_cond (b := _) rfl (fun hc10 => ?_) (fun hc10 => ?_)
        ·
          replace h := bif_t h hc10
          refine iwp_reg (ils_cons rfl (iop_load_ra (cs := [.int _ _, .bool _, .int _ _, .int _ _, .int _ _, .int _ _, .int _ _, .int _ _, .slice _ _, .str _]) rfl rfl (by decide) Try.underlying42 ag42 ti42 (by decide) (sv (d := .ref _ _) rfl) rfl (nle rfl) rfl) <|
            ils_cons rfl (iop_store (ds' := [.int _ _, .bool _, .int _ _, .int _ _, .int _ _, .int _ _, .int _ _, .int _ _, .slice false (([] : List T_api_Pair).map E_api_Pair.d), .str _]) rfl rfl ti42 (sv (d := .ref _ _) rfl) rfl (sv (d := .agg [.int _ _, .bool _, .int _ _, .int _ _, .int _ _, .int _ _, .int _ _, .int _ _, .slice _ _, .str _]) rfl) rfl rfl rfl (nle rfl) rfl) <|
            ils_cons rfl (iop_assign rfl rfl (by decide) (sv (d := .int _ 0) rfl)) <|
            ils_cons rfl (iop_assign rfl rfl (by decide) (sv (d := .int _ 0) rfl)) <|
            ils_cons rfl (iop_assign rfl rfl (by decide) (sv (d := .int _ 4) rfl)) <|
            ils_end ?_)
          refine iwp_ret ?_
          refine thenQ_r ?_
          obtain rfl := Option.some.inj h
          refine ⟨.inr rfl, (.cons (resv_a rfl rfl Try.underlying42 ag42 ti42 (by decide) (nle rfl) rfl) (.cons (sv rfl) (.cons (sv rfl) (.cons (sv rfl) .nil))))⟩
        ·
          replace h := bif_f h hc10
          refine iwp_skip ?_
          refine thenQ_n ?_
          obtain ⟨x11, hx11, h⟩ := bno_e h
          obtain ⟨x12, hx12, h⟩ := bno_e h
          refine iwp_reg (ils_cons rfl (iop_move rfl rfl (by decide) (sv (d := .str _) rfl)) <|
            ils_cons rfl (iop_cutS rfl rfl (by decide) Try.underlying9 (sv (d := .str _) rfl) ⟨_, (sv (d := .int _ 2) rfl)⟩ rfl hx11) <|
            ils_cons rfl (iop_call (r := .tuple [.int _ _, .int _ _, .int _ _]) rfl rfl (by decide) cl31 (.cons (sv (d := .str _) rfl) .nil) rfl (p_varint_Get _ _ hx12)) <|
            ils_cons rfl (iop_move rfl rfl (by decide) (sv (d := .tuple [.int _ _, .int _ _, .int _ _]) rfl)) <|
            ils_cons rfl (iop_extract (d := .int _ _) rfl rfl (by decide) (sv (d := .tuple [.int _ _, .int _ _, .int _ _]) rfl) rfl) <|
            ils_cons rfl (iop_extract (d := .int _ _) rfl rfl (by decide) (sv (d := .tuple [.int _ _, .int _ _, .int _ _]) rfl) rfl) <|
            ils_cons rfl (iop_extract (d := .int _ _) rfl rfl (by decide) (sv (d := .tuple [.int _ _, .int _ _, .int _ _]) rfl) rfl) <|
            ils_cons rfl (iop_assign rfl rfl (by decide) (sv (d := .int _ _) rfl)) <|
            ils_cons rfl (iop_assign rfl rfl (by decide) (sv (d := .int _ _) rfl)) <|
            ils_cons rfl (iop_assign rfl rfl (by decide) (sv (d := .int _ _) rfl)) <|
            ils_end ?_)
          refine iwp_seq ?_
          refine iwp_block ?_
          obtain ⟨x13, hx13, h⟩ := bnd_e h
          refine iwp_reg (ils_cons rfl (iop_move rfl rfl (by decide) (sv (d := .int _ _) rfl)) <|
            ils_cons rfl (iop_cmpx rfl rfl (by decide) (sv (d := .int _ _) rfl) (sv (d := .int _ 0) rfl) rfl hx13) <|
            ils_cons rfl (iop_assign rfl rfl (by decide) (sv (d := .bool _) rfl)) <|
            ils_end ?_)
          refine iwp_cond (b := _) rfl (fun hc14 => ?_) (fun hc14 => ?_)
          ·
            replace h := bif_t h hc14
            refine iwp_reg (ils_cons rfl (iop_load_ra (cs := [.int _ _, .bool _, .int _ _, .int _ _, .int _ _, .int _ _, .int _ _, .int _ _, .slice _ _, .str _]) rfl rfl (by decide) Try.underlying42 ag42 ti42 (by decide) (sv (d := .ref _ _) rfl) rfl (nle rfl) rfl) <|
              ils_cons rfl (iop_move rfl rfl (by decide) (sv (d := .int _ _) rfl)) <|
              ils_cons rfl (iop_store (ds' := [.int _ _, .bool _, .int _ _, .int _ _, .int _ _, .int _ _, .int _ _, .int _ _, .slice false (([] : List T_api_Pair).map E_api_Pair.d), .str _]) rfl rfl ti42 (sv (d := .ref _ _) rfl) rfl (sv (d := .agg [.int _ _, .bool _, .int _ _, .int _ _, .int _ _, .int _ _, .int _ _, .int _ _, .slice _ _, .str _]) rfl) rfl rfl rfl (nle rfl) rfl) <|
              ils_cons rfl (iop_assign rfl rfl (by decide) (sv (d := .int _ 0) rfl)) <|
              ils_cons rfl (iop_assign rfl rfl (by decide) (sv (d := .int _ 0) rfl)) <|
              ils_cons rfl (iop_assign rfl rfl (by decide) (sv (d := .int _ _) rfl)) <|
              ils_end ?_)
            refine iwp_ret ?_
            refine blockQ_r ?_
            refine thenQ_r ?_
            obtain rfl := Option.some.inj h
            refine ⟨.inr rfl, (.cons (resv_a rfl rfl Try.underlying42 ag42 ti42 (by decide) (nle rfl) rfl) (.cons (sv rfl) (.cons (sv rfl) (.cons (sv rfl) .nil))))⟩
          ·
            replace h := bif_f h hc14
            obtain ⟨x15, hx15, h⟩ := bnd_e h
            refine iwp_reg (ils_cons rfl (iop_move rfl rfl (by decide) (sv (d := .int _ _) rfl)) <|
              ils_cons rfl (iop_cmpx rfl rfl (by decide) (sv (d := .int _ _) rfl) (sv (d := .int _ 64) rfl) rfl hx15) <|
              ils_cons rfl (iop_assign rfl rfl (by decide) (sv (d := .bool _) rfl)) <|
              ils_end ?_)
            refine iwp_cond (b := _) rfl (fun hc16 => ?_) (fun hc16 => ?_)
            ·
              replace h := bif_t h hc16
              refine iwp_reg (ils_cons rfl (iop_load_ra (cs := [.int _ _, .bool _, .int _ _, .int _ _, .int _ _, .int _ _, .int _ _, .int _ _, .slice _ _, .str _]) rfl rfl (by decide) Try.underlying42 ag42 ti42 (by decide) (sv (d := .ref _ _) rfl) rfl (nle rfl) rfl) <|
                ils_cons rfl (iop_store (ds' := [.int _ _, .bool _, .int _ _, .int _ _, .int _ _, .int _ _, .int _ _, .int _ _, .slice false (([] : List T_api_Pair).map E_api_Pair.d), .str _]) rfl rfl ti42 (sv (d := .ref _ _) rfl) rfl (sv (d := .agg [.int _ _, .bool _, .int _ _, .int _ _, .int _ _, .int _ _, .int _ _, .int _ _, .slice _ _, .str _]) rfl) rfl rfl rfl (nle rfl) rfl) <|
                ils_cons rfl (iop_assign rfl rfl (by decide) (sv (d := .int _ 0) rfl)) <|
                ils_cons rfl (iop_assign rfl rfl (by decide) (sv (d := .int _ 0) rfl)) <|
                ils_cons rfl (iop_assign rfl rfl (by decide) (sv (d := .int _ 5) rfl)) <|
                ils_end ?_)
              refine iwp_ret ?_
              refine blockQ_r ?_
              refine thenQ_r ?_
              obtain rfl := Option.some.inj h
              refine ⟨.inr rfl, (.cons (resv_a rfl rfl Try.underlying42 ag42 ti42 (by decide) (nle rfl) rfl) (.cons (sv rfl) (.cons (sv rfl) (.cons (sv rfl) .nil))))⟩
            ·
              replace h := bif_f h hc16
              obtain ⟨x17, hx17, h⟩ := bnd_e h
              obtain ⟨x18, hx18, h⟩ := bnd_e h
              obtain ⟨x19, hx19, h⟩ := bnd_e h
              refine iwp_reg (ils_cons rfl (iop_move rfl rfl (by decide) (sv (d := .int _ _) rfl)) <|
                ils_cons rfl (iop_move rfl rfl (by decide) (sv (d := .str _) rfl)) <|
                ils_cons rfl (iop_len_str rfl rfl (by decide) Try.underlying9 (sv (d := .str _) rfl) rfl) <|
                ils_cons rfl (iop_intx rfl rfl (by decide) (sv (d := .int _ _) rfl) (sv (d := .int _ 2) rfl) rfl hx17) <|
                ils_cons rfl (iop_move rfl rfl (by decide) (sv (d := .int _ _) rfl)) <|
                ils_cons rfl (iop_intx rfl rfl (by decide) (sv (d := .int _ _) rfl) (sv (d := .int _ _) rfl) rfl hx18) <|
                ils_cons rfl (iop_cmpx rfl rfl (by decide) (sv (d := .int _ _) rfl) (sv (d := .int _ _) rfl) rfl hx19) <|
                ils_cons rfl (iop_assign rfl rfl (by decide) (sv (d := .bool _) rfl)) <|
                ils_end ?_)
              refine iwp_cond (b := _) rfl (fun hc20 => ?_) (fun hc20 => ?_)
              ·
                replace h := bif_t h hc20
                refine iwp_reg (ils_cons rfl (iop_load_ra (cs := [.int _ _, .bool _, .int _ _, .int _ _, .int _ _, .int _ _, .int _ _, .int _ _, .slice _ _, .str _]) rfl rfl (by decide) Try.underlying42 ag42 ti42 (by decide) (sv (d := .ref _ _) rfl) rfl (nle rfl) rfl) <|
                  ils_cons rfl (iop_store (ds' := [.int _ _, .bool _, .int _ _, .int _ _, .int _ _, .int _ _, .int _ _, .int _ _, .slice false (([] : List T_api_Pair).map E_api_Pair.d), .str _]) rfl rfl ti42 (sv (d := .ref _ _) rfl) rfl (sv (d := .agg [.int _ _, .bool _, .int _ _, .int _ _, .int _ _, .int _ _, .int _ _, .int _ _, .slice _ _, .str _]) rfl) rfl rfl rfl (nle rfl) rfl) <|
                  ils_cons rfl (iop_assign rfl rfl (by decide) (sv (d := .int _ 0) rfl)) <|
                  ils_cons rfl (iop_assign rfl rfl (by decide) (sv (d := .int _ 0) rfl)) <|
                  ils_cons rfl (iop_assign rfl rfl (by decide) (sv (d := .int _ 3) rfl)) <|
                  ils_end ?_)
                refine iwp_ret ?_
                refine blockQ_r ?_
                refine thenQ_r ?_
                obtain rfl := Option.some.inj h
                refine ⟨.inr rfl, (.cons (resv_a rfl rfl Try.underlying42 ag42 ti42 (by decide) (nle rfl) rfl) (.cons (sv rfl) (.cons (sv rfl) (.cons (sv rfl) .nil))))⟩
              ·
                replace h := bif_f h hc20
                refine iwp_skip ?_
                refine blockQ_n ?_
                refine thenQ_n ?_
                obtain ⟨x21, hx21, h⟩ := bno_e h
                obtain ⟨x22, hx22, h⟩ := bno_e h
                obtain ⟨x23, hx23, h⟩ := bnd_e h
                refine iwp_drw rfl [⟨[0], [], [(51, .str a0)], []⟩,
                  ⟨[51], [], [(52, .int .u8 (x21.toNat : Int))], []⟩,
                  ⟨[0], [], [(53, .str a0)], []⟩,
                  ⟨[53], [], [(54, .int .u8 (x22.toNat : Int))], []⟩,
                  ⟨[54], [], [(55, .bool x23)], []⟩,
                  ⟨[6], [], [(56, .ref 1 0)], []⟩,
                  ⟨[52, 56], [1], [], [(1, .blk 42 [.int .u8 (x21.toNat : Int), .bool false, .int .i64 0, .int .i64 0, .int .i64 0, .int .i64 0, .int .i64 0, .int .i64 0, .slice false (([] : List T_api_Pair).map E_api_Pair.d), .str []])]⟩,
                  ⟨[6], [], [(57, .ref 1 1)], []⟩,
                  ⟨[55, 57], [1], [], [(1, .blk 42 [.int .u8 (x21.toNat : Int), .bool x23, .int .i64 0, .int .i64 0, .int .i64 0, .int .i64 0, .int .i64 0, .int .i64 0, .slice false (([] : List T_api_Pair).map E_api_Pair.d), .str []])]⟩] rfl ?_ (by kernel_rfl) ?_
                · refine .cons (lop rfl rfl fun S hA => (iop_move rfl rfl (by decide) (sv (d := .str _) (agr hA rfl rfl)))) ?_
                  refine .cons (lop rfl rfl fun S hA => (iop_str_at rfl rfl (by decide) Try.underlying9 (sv (d := .str _) (agr hA rfl rfl)) (sv (d := .int _ 0) rfl) hx21)) ?_
                  refine .cons (lop rfl rfl fun S hA => (iop_move rfl rfl (by decide) (sv (d := .str _) (agr hA rfl rfl)))) ?_
                  refine .cons (lop rfl rfl fun S hA => (iop_str_at rfl rfl (by decide) Try.underlying9 (sv (d := .str _) (agr hA rfl rfl)) (sv (d := .int _ 1) rfl) hx22)) ?_
                  refine .cons (lop rfl rfl fun S hA => (iop_cmpx rfl rfl (by decide) (sv (d := .int _ _) (agr hA rfl rfl)) (sv (d := .int _ 1) rfl) rfl hx23)) ?_
                  refine .cons (lop rfl rfl fun S hA => (iop_fieldAddr_ref rfl rfl (by decide) Try.underlying42 rfl ti5 (by decide) (sv (d := .ref _ _) (agr hA rfl rfl)) (off' := 0) rfl)) ?_
                  refine .cons (lop rfl rfl fun S hA => (iop_store (ds' := [.int _ _, .bool _, .int _ _, .int _ _, .int _ _, .int _ _, .int _ _, .int _ _, .slice false (([] : List T_api_Pair).map E_api_Pair.d), .str _]) rfl rfl ti5 (sv (d := .ref _ _) (agr hA rfl rfl)) (agi hA rfl rfl) (sv (d := .int _ _) (agr hA rfl rfl)) rfl rfl rfl (nle rfl) rfl)) ?_
                  refine .cons (lop rfl rfl fun S hA => (iop_fieldAddr_ref rfl rfl (by decide) Try.underlying42 rfl ti4 (by decide) (sv (d := .ref _ _) (agr hA rfl rfl)) (off' := 1) rfl)) ?_
                  refine .cons (lop rfl rfl fun S hA => (iop_store (ds' := [.int _ _, .bool _, .int _ _, .int _ _, .int _ _, .int _ _, .int _ _, .int _ _, .slice false (([] : List T_api_Pair).map E_api_Pair.d), .str _]) rfl rfl ti4 (sv (d := .ref _ _) (agr hA rfl rfl)) (agi hA rfl rfl) (sv (d := .bool _) (agr hA rfl rfl)) rfl rfl rfl (nle rfl) rfl)) ?_
                  exact .nil
                obtain ⟨x24, hx24, h⟩ := bnd_e h
                obtain ⟨x25, hx25, h⟩ := bnd_e h
                obtain ⟨x26, hx26, h⟩ := bnd_e h
                refine iwp_reg (ils_cons rfl (iop_load_ra (cs := [.int _ _, .bool _, .int _ _, .int _ _, .int _ _, .int _ _, .int _ _, .int _ _, .slice _ _, .str _]) rfl rfl (by decide) Try.underlying42 ag42 ti42 (by decide) (sv (d := .ref _ _) rfl) rfl (nle rfl) rfl) <|
                  ils_cons rfl (iop_move rfl rfl (by decide) (sv (d := .int _ _) rfl)) <|
                  ils_cons rfl (iop_intx rfl rfl (by decide) (sv (d := .int _ 2) rfl) (sv (d := .int _ _) rfl) rfl hx24) <|
                  ils_cons rfl (iop_move rfl rfl (by decide) (sv (d := .int _ _) rfl)) <|
                  ils_cons rfl (iop_intx rfl rfl (by decide) (sv (d := .int _ 2) rfl) (sv (d := .int _ _) rfl) rfl hx25) <|
                  ils_cons rfl (iop_move rfl rfl (by decide) (sv (d := .int _ _) rfl)) <|
                  ils_cons rfl (iop_intx rfl rfl (by decide) (sv (d := .int _ _) rfl) (sv (d := .int _ _) rfl) rfl hx26) <|
                  ils_cons rfl (iop_store (ds' := [.int _ _, .bool _, .int _ _, .int _ _, .int _ _, .int _ _, .int _ _, .int _ _, .slice false (([] : List T_api_Pair).map E_api_Pair.d), .str _]) rfl rfl ti42 (sv (d := .ref _ _) rfl) rfl (sv (d := .agg [.int _ _, .bool _, .int _ _, .int _ _, .int _ _, .int _ _, .int _ _, .int _ _, .slice _ _, .str _]) rfl) rfl rfl rfl (nle rfl) rfl) <|
                  ils_cons rfl (iop_assign rfl rfl (by decide) (sv (d := .int _ _) rfl)) <|
                  ils_cons rfl (iop_assign rfl rfl (by decide) (sv (d := .int _ _) rfl)) <|
                  ils_cons rfl (iop_assign rfl rfl (by decide) (sv (d := .int _ 0) rfl)) <|
                  ils_end ?_)
                refine iwp_ret ?_
                obtain rfl := Option.some.inj h
                refine ⟨.inr rfl, (.cons (resv_a rfl rfl Try.underlying42 ag42 ti42 (by decide) (nle rfl) rfl) (.cons (sv rfl) (.cons (sv rfl) (.cons (sv rfl) .nil))))⟩

set_option maxRecDepth 8000 in
set_option maxHeartbeats 2000000 in
theorem p_varint_All (a0 : (List UInt8)) (r : ((List Int) × Int)) (h : varint_All a0 = some r) : PureAt Try.prog 72 [.str a0] (retD [.slice false (r.1.map (eInt .i64).d), .int .i64 r.2]) := by
  refine pure_of_iwp (rs := [.slice false (r.1.map (eInt .i64).d), .int .i64 r.2]) Try.func72 rfl Try.ntmps72 (nle rfl) rfl fun O hO => ?_
  show IWP _ _ _ _ ⟨[(0, .str a0)], []⟩ _
  unfold varint_All at h
  refine iwp_reg (ils_cons rfl (iop_assign rfl rfl (by decide) (sv (d := .nils) rfl)) <|
    ils_cons rfl (iop_assign rfl rfl (by decide) (sv (d := .int _ 0) rfl)) <|
    ils_end ?_)
  refine iwp_reg (ils_cons rfl (iop_assign rfl rfl (by decide) (sv (d := .nils) rfl)) <|
    ils_end ?_)
  refine iwp_seq ?_
  refine iwp_block ?_
  refine iwp_loopP (α := Nat × (List UInt8) × (List Int)) (fun z => ⟨[(0, .str z.2.1), (4, .gsl 21 (eInt .i64).sz (z.2.2.map (eInt .i64).d))], [(21, .tail 3 (eInt .i64).sz z.2.2.length)]⟩) (fun z => varint_All_L0 z.1 z.2.1 z.2.2 = some r) (fun z => z.1) (fuel, a0, ([] : (List Int))) (fun i => if i = 21 then 71 else i) ⟨(.cons (.same rfl rfl) (.cons (.nils rfl) .nil)), (.cons (.nils rfl) .nil), nd_of [71] rfl (by decide), (fun i hi => by first | rfl | (show (if _ then _ else _) = _; (repeat' split) <;> omega))⟩ ?_ ?_
  · exact h
  ·
    rintro ⟨n0, v8, v9⟩ h
    cases n0 with
    | zero => exact absurd h (by unfold varint_All_L0; exact nofun)
    | succ n0 =>
      unfold varint_All_L0 at h
      refine iwp_seq ?_
      obtain ⟨x17, hx17, h⟩ := bnd_e h
      refine iwp_reg (ils_cons rfl (iop_move rfl rfl (by decide) (sv (d := .str _) rfl)) <|
        ils_cons rfl (iop_strx rfl rfl (by decide) (sv (d := .str _) rfl) (sv (d := .str []) rfl) rfl hx17) <|
        ils_end ?_)
      refine iwp_cond (b := _) rfl (fun hc18 => ?_) (fun hc18 => ?_)
      ·
        replace h := bif_t h hc18
        refine iwp_skip ?_
        refine thenQ_n ?_
        refine iwp_block ?_
        obtain ⟨x19, hx19, h⟩ := bno_e h
        refine iwp_reg (ils_cons rfl (iop_move rfl rfl (by decide) (sv (d := .str _) rfl)) <|
          ils_cons rfl (iop_call (r := .tuple [.int _ _, .int _ _, .int _ _]) rfl rfl (by decide) cl31 (.cons (sv (d := .str _) rfl) .nil) rfl (p_varint_Get _ _ hx19)) <|
          ils_cons rfl (iop_move rfl rfl (by decide) (sv (d := .tuple [.int _ _, .int _ _, .int _ _]) rfl)) <|
          ils_cons rfl (iop_extract (d := .int _ _) rfl rfl (by decide) (sv (d := .tuple [.int _ _, .int _ _, .int _ _]) rfl) rfl) <|
          ils_cons rfl (iop_extract (d := .int _ _) rfl rfl (by decide) (sv (d := .tuple [.int _ _, .int _ _, .int _ _]) rfl) rfl) <|
          ils_cons rfl (iop_extract (d := .int _ _) rfl rfl (by decide) (sv (d := .tuple [.int _ _, .int _ _, .int _ _]) rfl) rfl) <|
          ils_cons rfl (iop_assign rfl rfl (by decide) (sv (d := .int _ _) rfl)) <|
          ils_cons rfl (iop_assign rfl rfl (by decide) (sv (d := .int _ _) rfl)) <|
          ils_cons rfl (iop_assign rfl rfl (by decide) (sv (d := .int _ _) rfl)) <|
          ils_end ?_)
        refine iwp_seq ?_
        obtain ⟨x20, hx20, h⟩ := bnd_e h
        refine iwp_reg (ils_cons rfl (iop_move rfl rfl (by decide) (sv (d := .int _ _) rfl)) <|
          ils_cons rfl (iop_cmpx rfl rfl (by decide) (sv (d := .int _ _) rfl) (sv (d := .int _ 0) rfl) rfl hx20) <|
          ils_end ?_)
        refine iwp_cond (b := _) rfl (fun hc21 => ?_) (fun hc21 => ?_)
        ·
          replace h := bif_t h hc21
          refine iwp_reg (ils_cons rfl (iop_move rfl rfl (by decide) (sv (d := .int _ _) rfl)) <|
            ils_cons rfl (iop_assign rfl rfl (by decide) (sv (d := .nils) rfl)) <|
            ils_cons rfl (iop_assign rfl rfl (by decide) (sv (d := .int _ _) rfl)) <|
            ils_end ?_)
          refine iwp_ret ?_
          refine thenQ_r ?_
          refine blockQ_r ?_
          refine thenQ_r ?_
          refine blockQ_r ?_
          refine thenQ_r ?_
          obtain rfl := Option.some.inj h
          refine ⟨.inr rfl, (.cons (svn_of rfl rfl) (.cons (sv rfl) .nil))⟩
        ·
          replace h := bif_f h hc21
          refine iwp_skip ?_
          refine thenQ_n ?_
          obtain ⟨x22, hx22, h⟩ := bno_e h
          refine iwp_reg (ils_cons rfl (iop_move rfl rfl (by decide) (sv (d := .gsl _ _ _) rfl)) <|
            ils_cons rfl (iop_move rfl rfl (by decide) (sv (d := .int _ _) rfl)) <|
            ils_cons rfl (iop_bsT (eInt .i64) ([x19.1] : (List Int)) 22 rfl rfl (by decide) Try.underlying88 ti3 rfl (.cons (sv (d := .int _ _) rfl) .nil) rfl rfl (by decide)) <|
            ils_cons rfl (iop_appT (eInt .i64) 23 rfl rfl (by decide) Try.underlying88 ti3 rfl rfl rfl rfl (svg rfl) hx22) <|
            ils_cons rfl (iop_assign rfl rfl (by decide) (sv (d := .gsl _ _ _) rfl)) <|
            ils_end ?_)
          obtain ⟨x23, hx23, h⟩ := bno_e h
          refine iwp_region (ils_cons rfl (iop_move rfl rfl (by decide) (sv (d := .str _) rfl)) <|
            ils_cons rfl (iop_move rfl rfl (by decide) (sv (d := .int _ _) rfl)) <|
            ils_cons rfl (iop_cutS rfl rfl (by decide) Try.underlying9 (sv (d := .str _) rfl) ⟨_, (sv (d := .int _ _) rfl)⟩ rfl hx23) <|
            ils_cons rfl (iop_assign rfl rfl (by decide) (sv (d := .str _) rfl)) <|
            ils_nil ?_)
          refine blockQ_n ?_
          refine thenQ_n ⟨(n0, x23, x22), (fun i => if i = 21 then 23 else i), ⟨(.cons (.same rfl rfl) (.cons (.same rfl rfl) .nil)), (.cons (.tail rfl) .nil), nd_of [23] rfl (by decide), (fun i hi => by first | rfl | (show (if _ then _ else _) = _; (repeat' split) <;> omega))⟩, ?_, ?_⟩
          exact h
          exact Nat.lt_succ_self _
      ·
        replace h := bif_f h hc18
        refine iwp_exit ?_
        refine thenQ_e ?_
        refine thenQ_e ?_
        refine blockQ_e ?_
        refine thenQ_n ?_
        refine iwp_reg (ils_cons rfl (iop_move rfl rfl (by decide) (sv (d := .gsl _ _ _) rfl)) <|
          ils_cons rfl (iop_assign rfl rfl (by decide) (sv (d := .gsl _ _ _) rfl)) <|
          ils_cons rfl (iop_assign rfl rfl (by decide) (sv (d := .int _ 0) rfl)) <|
          ils_end ?_)
        refine iwp_ret ?_
        obtain rfl := Option.some.inj h
        refine ⟨.inr rfl, (.cons (svg_of rfl rfl) (.cons (sv rfl) .nil))⟩

set_option maxRecDepth 8000 in
set_option maxHeartbeats 2000000 in
theorem p_frame_settings (a0 : (List UInt8)) (r : ((List T_api_Pair) × Bool)) (h : frame_settings a0 = some r) : PureAt Try.prog 65 [.str a0] (retD [.slice false (r.1.map E_api_Pair.d), .bool r.2]) := by
  refine pure_of_iwp (rs := [.slice false (r.1.map E_api_Pair.d), .bool r.2]) Try.func65 rfl Try.ntmps65 (nle rfl) rfl fun O hO => ?_
  show IWP _ _ _ _ ⟨[(0, .str a0)], []⟩ _
  unfold frame_settings at h
  refine iwp_reg (ils_cons rfl (iop_assign rfl rfl (by decide) (sv (d := .nils) rfl)) <|
    ils_cons rfl (iop_assign rfl rfl (by decide) (sv (d := .bool false) rfl)) <|
    ils_end ?_)
  obtain ⟨x1, hx1, h⟩ := bno_e h
  refine iwp_reg (ils_cons rfl (iop_move rfl rfl (by decide) (sv (d := .str _) rfl)) <|
    ils_cons rfl (iop_call (r := .tuple [.slice _ _, .int _ _]) rfl rfl (by decide) cl72 (.cons (sv (d := .str _) rfl) .nil) rfl (p_varint_All _ _ hx1)) <|
    ils_cons rfl (iop_move rfl rfl (by decide) (sv (d := .tuple [.slice _ _, .int _ _]) rfl)) <|
    ils_cons rfl (iop_extract (d := .slice _ _) rfl rfl (by decide) (sv (d := .tuple [.slice _ _, .int _ _]) rfl) rfl) <|
    ils_cons rfl (iop_extract (d := .int _ _) rfl rfl (by decide) (sv (d := .tuple [.slice _ _, .int _ _]) rfl) rfl) <|
    ils_cons rfl (iop_assign rfl rfl (by decide) (sv (d := .slice _ _) rfl)) <|
    ils_cons rfl (iop_assign rfl rfl (by decide) (sv (d := .int _ _) rfl)) <|
    ils_end ?_)
  refine iwp_seq ?_
  obtain ⟨x2, hx2, h⟩ := bnd_e h
  obtain ⟨x3, hx3, h⟩ := bno_e h
  obtain ⟨x4, hx4, h⟩ := bnd_e h
  obtain ⟨x5, hx5, h⟩ := bnd_e h
  refine iwp_reg (ils_cons rfl (iop_move rfl rfl (by decide) (sv (d := .int _ _) rfl)) <|
    ils_cons rfl (iop_cmpx rfl rfl (by decide) (sv (d := .int _ _) rfl) (sv (d := .int _ 0) rfl) rfl hx2) <|
    ils_cons rfl (iop_move rfl rfl (by decide) (sv (d := .bool _) rfl)) <|
    ils_guard rfl rfl (.one rfl) rfl (by decide) (fun hb => (iop_move rfl rfl (by decide) (sv (d := .slice _ _) rfl))) <|
    ils_guard rfl rfl (.one rfl) rfl (by decide) (fun hb => (iop_lenT (eInt .i64) (l := x1.1) rfl rfl (by decide) Try.underlying88 (svc (d := .slice _ _) rfl hb))) <|
    ils_guard rfl rfl (.one rfl) rfl (by decide) (fun hb => (iop_remx rfl rfl (by decide) (svc (d := .int _ _) rfl hb) (sv (d := .int _ 2) rfl) (gd_t hx3 hb))) <|
    ils_guard rfl rfl (.one rfl) rfl (by decide) (fun hb => (iop_cmpx rfl rfl (by decide) (svc (d := .int _ _) rfl hb) (sv (d := .int _ 1) rfl) rfl hx4)) <|
    ils_cons rfl (iop_orx rfl rfl (by decide) (sv (d := .bool _) rfl) rfl rfl hx5) <|
    ils_end ?_)
  refine iwp_cond (b := _) rfl (fun hc6 => ?_) (fun hc6 => ?_)
  ·
    replace h := bif_t h hc6
    refine iwp_reg (ils_cons rfl (iop_assign rfl rfl (by decide) (sv (d := .nils) rfl)) <|
      ils_cons rfl (iop_assign rfl rfl (by decide) (sv (d := .bool false) rfl)) <|
      ils_end ?_)
    refine iwp_ret ?_
    refine thenQ_r ?_
    obtain rfl := Option.some.inj h
    refine ⟨.inr rfl, (.cons (svn_of rfl rfl) (.cons (sv rfl) .nil))⟩
  ·
    replace h := bif_f h hc6
    refine iwp_skip ?_
    refine thenQ_n ?_
    refine iwp_reg (ils_cons rfl (iop_assign rfl rfl (by decide) (sv (d := .nils) rfl)) <|
      ils_end ?_)
    refine iwp_seq ?_
    refine iwp_block ?_
    refine iwp_loopP (α := Nat × (List Int) × (List T_api_Pair)) (fun z => ⟨[(4, .slice false (z.2.1.map (eInt .i64).d)), (6, .gsl 21 E_api_Pair.sz (z.2.2.map E_api_Pair.d))], [(21, .tail 77 E_api_Pair.sz z.2.2.length)]⟩) (fun z => frame_settings_L0 z.1 z.2.1 z.2.2 = some r) (fun z => z.1) (fuel, x1.1, ([] : (List T_api_Pair))) (fun i => if i = 21 then 71 else i) ⟨(.cons (.same rfl rfl) (.cons (.nils rfl) .nil)), (.cons (.nils rfl) .nil), nd_of [71] rfl (by decide), (fun i hi => by first | rfl | (show (if _ then _ else _) = _; (repeat' split) <;> omega))⟩ ?_ ?_
    · exact h
    ·
      rintro ⟨n0, v13, v14⟩ h
      cases n0 with
      | zero => exact absurd h (by unfold frame_settings_L0; exact nofun)
      | succ n0 =>
        unfold frame_settings_L0 at h
        refine iwp_seq ?_
        obtain ⟨x21, hx21, h⟩ := bnd_e h
        refine iwp_reg (ils_cons rfl (iop_move rfl rfl (by decide) (sv (d := .slice _ _) rfl)) <|
          ils_cons rfl (iop_lenT (eInt .i64) (l := v13) rfl rfl (by decide) Try.underlying88 (sv (d := .slice _ _) rfl)) <|
          ils_cons rfl (iop_cmpx rfl rfl (by decide) (sv (d := .int _ _) rfl) (sv (d := .int _ 0) rfl) rfl hx21) <|
          ils_end ?_)
        refine iwp_cond (b := _) rfl (fun hc22 => ?_) (fun hc22 => ?_)
        ·
          replace h := bif_t h hc22
          refine iwp_skip ?_
          refine thenQ_n ?_
          refine iwp_seq ?_
          refine iwp_block ?_
          obtain ⟨x23, hx23, h⟩ := bno_e h
          obtain ⟨x24, hx24, h⟩ := bno_e h
          obtain ⟨x25, hx25, h⟩ := bno_e h
          refine iwp_draw rfl [⟨[6], [], [(25, .gsl 21 E_api_Pair.sz (v14.map E_api_Pair.d))], []⟩,
            ⟨[4], [], [(26, .slice false (v13.map (eInt .i64).d))], []⟩,
            ⟨[26], [], [(27, .fptr [.int .i64 x23])], []⟩,
            ⟨[27], [], [(28, .int .i64 x23)], []⟩,
            ⟨[4], [], [(29, .slice false (v13.map (eInt .i64).d))], []⟩,
            ⟨[29], [], [(30, .fptr [.int .i64 x24])], []⟩,
            ⟨[30], [], [(31, .int .i64 x24)], []⟩,
            ⟨[28, 31], [], [(32, .agg [.int .i64 x23, .int .i64 x24])], []⟩,
            ⟨[32], [22], [(33, .gsl 22 E_api_Pair.sz ((([(⟨x23, x24⟩ : T_api_Pair)] : (List T_api_Pair))).map E_api_Pair.d))], [(22, .tail 77 E_api_Pair.sz (([(⟨x23, x24⟩ : T_api_Pair)] : (List T_api_Pair))).length)]⟩,
            ⟨[25, 33], [21, 23], [(34, .gsl 23 E_api_Pair.sz (x25.map E_api_Pair.d))], [(23, .tail 77 E_api_Pair.sz x25.length), (21, .none)]⟩,
            ⟨[34], [], [(6, .gsl 23 E_api_Pair.sz (x25.map E_api_Pair.d))], []⟩] rfl ?_ (by kernel_rfl) ?_
          · refine .cons (lop rfl rfl fun S hA => (iop_move rfl rfl (by decide) (sv (d := .gsl _ _ _) (agr hA rfl rfl)))) ?_
            refine .cons (lop rfl rfl fun S hA => (iop_move rfl rfl (by decide) (sv (d := .slice _ _) (agr hA rfl rfl)))) ?_
            refine .cons (lop rfl rfl fun S hA => (iop_idxT (eInt .i64) (cs := [.int _ _]) rfl rfl (by decide) Try.underlying88 ti3 (sv (d := .slice _ _) (agr hA rfl rfl)) (sv (d := .int _ 0) rfl) hx23 rfl rfl)) ?_
            refine .cons (lop rfl rfl fun S hA => (iop_load_fs rfl rfl (by decide) Try.underlying3 ag3 ti3 (by decide) (sv (d := .fptr [.int _ _]) (agr hA rfl rfl)) (nle rfl))) ?_
            refine .cons (lop rfl rfl fun S hA => (iop_move rfl rfl (by decide) (sv (d := .slice _ _) (agr hA rfl rfl)))) ?_
            refine .cons (lop rfl rfl fun S hA => (iop_idxT (eInt .i64) (cs := [.int _ _]) rfl rfl (by decide) Try.underlying88 ti3 (sv (d := .slice _ _) (agr hA rfl rfl)) (sv (d := .int _ 1) rfl) hx24 rfl rfl)) ?_
            refine .cons (lop rfl rfl fun S hA => (iop_load_fs rfl rfl (by decide) Try.underlying3 ag3 ti3 (by decide) (sv (d := .fptr [.int _ _]) (agr hA rfl rfl)) (nle rfl))) ?_
            refine .cons (lop rfl rfl fun S hA => (iop_build_struct (cs := [.int _ _, .int _ _]) rfl rfl (by decide) Try.underlying77 ti77 pl77 rfl (.cons (sv (d := .int _ _) (agr hA rfl rfl)) (.cons (sv (d := .int _ _) (agr hA rfl rfl)) .nil)) rfl)) ?_
            refine .cons (lop rfl rfl fun S hA => (iop_bsT E_api_Pair ([(⟨x23, x24⟩ : T_api_Pair)] : (List T_api_Pair)) 22 rfl rfl (by decide) Try.underlying38 ti77 (agi hA rfl rfl) (.cons (sv (d := .agg [.int _ _, .int _ _]) (agr hA rfl rfl)) .nil) rfl rfl (by decide))) ?_
            refine .cons (lop rfl rfl fun S hA => (iop_appT E_api_Pair 23 rfl rfl (by decide) Try.underlying38 ti77 rfl (agr hA rfl rfl) (agi hA rfl rfl) (agi hA rfl rfl) (svg (agr hA rfl rfl)) hx25)) ?_
            refine .cons (lop rfl rfl fun S hA => (iop_assign rfl rfl (by decide) (sv (d := .gsl _ _ _) (agr hA rfl rfl)))) ?_
            exact .nil
          refine blockQ_n ?_
          refine thenQ_n ?_
          obtain ⟨x26, hx26, h⟩ := bno_e h
          refine iwp_region (ils_cons rfl (iop_move rfl rfl (by decide) (sv (d := .slice _ _) rfl)) <|
            ils_cons rfl (iop_cutT (eInt .i64) rfl rfl (by decide) Try.underlying88 ti3 (sv (d := .slice _ _) rfl) ⟨_, (sv (d := .int _ 2) rfl)⟩ rfl hx26) <|
            ils_cons rfl (iop_assign rfl rfl (by decide) (sv (d := .slice _ _) rfl)) <|
            ils_nil ?_)
          refine thenQ_n ⟨(n0, x26, x25), (fun i => if i = 21 then 23 else i), ⟨(.cons (.same rfl rfl) (.cons (.same rfl rfl) .nil)), (.cons (.tail rfl) .nil), nd_of [23] rfl (by decide), (fun i hi => by first | rfl | (show (if _ then _ else _) = _; (repeat' split) <;> omega))⟩, ?_, ?_⟩
          exact h
          exact Nat.lt_succ_self _
        ·
          replace h := bif_f h hc22
          refine iwp_exit ?_
          refine thenQ_e ?_
          refine thenQ_e ?_
          refine blockQ_e ?_
          refine thenQ_n ?_
          refine iwp_reg (ils_cons rfl (iop_move rfl rfl (by decide) (sv (d := .gsl _ _ _) rfl)) <|
            ils_cons rfl (iop_assign rfl rfl (by decide) (sv (d := .gsl _ _ _) rfl)) <|
            ils_cons rfl (iop_assign rfl rfl (by decide) (sv (d := .bool true) rfl)) <|
            ils_end ?_)
          refine iwp_ret ?_
          obtain rfl := Option.some.inj h
          refine ⟨.inr rfl, (.cons (svg_of rfl rfl) (.cons (sv rfl) .nil))⟩

set_option maxRecDepth 8000 in
set_option maxHeartbeats 2000000 in
theorem p_frame_Frame_read_h (a0 : (List UInt8)) (a1 : T_frame_Frame) (r : (Bool × T_frame_Frame)) (h : frame_Frame_read_h a0 a1 = some r) : FnH Try.prog 45 [.ref 1000 0, .str a0] [(1000, .blk 42 [.int .u8 a1.Kind, .bool a1.Flag, .int .i64 a1.Stream, .int .i64 a1.Offset, .int .i64 a1.Dep, .int .i64 a1.Weight, .int .i64 a1.N, .int .i64 a1.Code, .slice false (a1.Pairs.map E_api_Pair.d), .str a1.Data])] (.bool r.1) [(1000, .blk 42 [.int .u8 r.2.Kind, .bool r.2.Flag, .int .i64 r.2.Stream, .int .i64 r.2.Offset, .int .i64 r.2.Dep, .int .i64 r.2.Weight, .int .i64 r.2.N, .int .i64 r.2.Code, .slice false (r.2.Pairs.map E_api_Pair.d), .str r.2.Data])] := by
  refine fnh_of_iwp (rs := [.bool r.1]) Try.func45 rfl Try.ntmps45 (nle rfl) fun O => ?_
  show IWP _ _ _ _ ⟨[(0, .ref 1000 0), (1, .str a0)], [(1000, .blk 42 [.int .u8 a1.Kind, .bool a1.Flag, .int .i64 a1.Stream, .int .i64 a1.Offset, .int .i64 a1.Dep, .int .i64 a1.Weight, .int .i64 a1.N, .int .i64 a1.Code, .slice false (a1.Pairs.map E_api_Pair.d), .str a1.Data])]⟩ _
  unfold frame_Frame_read_h at h
  refine iwp_reg (ils_cons rfl (iop_assign rfl rfl (by decide) (sv (d := .bool false) rfl)) <|
    ils_end ?_)
  refine iwp_seq ?_
  obtain ⟨x1, hx1, h⟩ := bno_e h
  refine iwp_reg (ils_cons rfl (iop_move rfl rfl (by decide) (sv (d := .ref _ _) rfl)) <|
    ils_cons rfl (iop_callh2 (r' := .osl 0 (eRef 1000).sz x1.length) (H1' := [(1000, .blk 42 [.int .u8 a1.Kind, .bool a1.Flag, .int .i64 a1.Stream, .int .i64 a1.Offset, .int .i64 a1.Dep, .int .i64 a1.Weight, .int .i64 a1.N, .int .i64 a1.Code, .slice false (a1.Pairs.map E_api_Pair.d), .str a1.Data]), (0, .blk 91 (D.flat (x1.map (eRef 1000).d)))]) 0 [1000] rfl rfl (by decide) cl50 (.cons (sv (d := .ref _ _) rfl) .nil) rfl rfl ⟨rfl, rfl, by decide, rfl, List.forall_mem_cons.2 ⟨⟨rfl, rfl, rfl, rfl⟩, List.forall_mem_nil _⟩⟩ (p_frame_Frame_numbers_h _ _ hx1) rfl rfl (List.forall_mem_cons.2 ⟨⟨rfl, rfl⟩, List.forall_mem_cons.2 ⟨⟨rfl, (handRr rfl)⟩, List.forall_mem_nil _⟩⟩) (by simp only [List.map_cons, List.map_nil, Ent.ren, renL_flat, renL_ref]; rfl)) <|
    ils_cons rfl (iop_lenO rfl rfl (by decide) Try.underlying89 (sv (d := .osl _ _ _) rfl)) <|
    ils_cons rfl (iop_move rfl rfl (by decide) (sv (d := .int _ 0) rfl)) <|
    ils_end ?_)
  refine iwp_block ?_
  refine iwp_loopP (α := Nat × (List UInt8) × Int × Int × Int × Int × Int × Int × Int) (fun z => ⟨[(0, .ref 1000 0), (1, .str z.2.1), (13, .osl 0 (eRef 1000).sz x1.length), (14, .int .i64 (x1.length : Int)), (15, .int .i64 z.2.2.1)], [(1000, .blk 42 [.int .u8 a1.Kind, .bool a1.Flag, .int .i64 z.2.2.2.1, .int .i64 z.2.2.2.2.1, .int .i64 z.2.2.2.2.2.1, .int .i64 z.2.2.2.2.2.2.1, .int .i64 z.2.2.2.2.2.2.2.1, .int .i64 z.2.2.2.2.2.2.2.2, .slice false (a1.Pairs.map E_api_Pair.d), .str a1.Data]), (0, .blk 91 (D.flat (x1.map (eRef 1000).d)))]⟩) (fun z => frame_Frame_read_h_L0 a1 x1 z.1 z.2.1 z.2.2.1 z.2.2.2.1 z.2.2.2.2.1 z.2.2.2.2.2.1 z.2.2.2.2.2.2.1 z.2.2.2.2.2.2.2.1 z.2.2.2.2.2.2.2.2 = some r) (fun z => z.1) (fuel, a0, 0, a1.Stream, a1.Offset, a1.Dep, a1.Weight, a1.N, a1.Code) (fun i => i) ⟨(.cons (.same rfl rfl) (.cons (.same rfl rfl) (.cons (.same rfl rfl) (.cons (.same rfl rfl) (.cons (.same rfl rfl) .nil))))), (.cons (.blk rfl rfl rfl) (.cons (EntW.lstR rfl rfl) .nil)), nd_of [1000, 0] rfl (by decide), (fun i hi => by first | rfl | (show (if _ then _ else _) = _; (repeat' split) <;> omega))⟩ ?_ ?_
  · exact h
  ·
    rintro ⟨n0, v12, v13, v14, v15, v16, v17, v18, v19⟩ h
    cases n0 with
    | zero => exact absurd h (by unfold frame_Frame_read_h_L0; exact nofun)
    | succ n0 =>
      unfold frame_Frame_read_h_L0 at h
      obtain ⟨x30, hx30, h⟩ := bnd_e h
      refine iwp_reg (ils_cons rfl (iop_cmpx rfl rfl (by decide) (sv (d := .int _ _) rfl) (sv (d := .int _ _) rfl) rfl hx30) <|
        ils_end ?_)
      refine iwp_seq ?_
      refine iwp_cond (b := _) rfl (fun hc31 => ?_) (fun hc31 => ?_)
      ·
        replace h := bif_t h hc31
        refine iwp_skip ?_
        refine thenQ_n ?_
        refine iwp_seq ?_
        refine iwp_block ?_
        obtain ⟨x32, hx32, h⟩ := bno_e h
        obtain ⟨x33, hx33, h⟩ := bno_e h
        refine iwp_reg (ils_cons rfl (iop_idxO (eRef 1000) rfl rfl (by decide) Try.underlying89 ti91 (sv (d := .osl _ _ _) rfl) rfl (sv (d := .int _ _) rfl) hx32) <|
          ils_cons rfl (iop_loadEs (eRef 1000) (d := .ref _ _) rfl rfl (by decide) Try.underlying91 ag91 ti91 (by decide) (sv (d := .ref _ _) rfl) rfl hx33 (nle rfl) rfl) <|
          ils_cons rfl (iop_assign rfl rfl (by decide) (sv (d := .ref _ _) rfl)) <|
          ils_end ?_)
        obtain ⟨x34, hx34, h⟩ := bno_e h
        refine iwp_reg (ils_cons rfl (iop_move rfl rfl (by decide) (sv (d := .str _) rfl)) <|
          ils_cons rfl (iop_call (r := .tuple [.int _ _, .int _ _, .int _ _]) rfl rfl (by decide) cl31 (.cons (sv (d := .str _) rfl) .nil) rfl (p_varint_Get _ _ hx34)) <|
          ils_cons rfl (iop_move rfl rfl (by decide) (sv (d := .tuple [.int _ _, .int _ _, .int _ _]) rfl)) <|
          ils_cons rfl (iop_extract (d := .int _ _) rfl rfl (by decide) (sv (d := .tuple [.int _ _, .int _ _, .int _ _]) rfl) rfl) <|
          ils_cons rfl (iop_extract (d := .int _ _) rfl rfl (by decide) (sv (d := .tuple [.int _ _, .int _ _, .int _ _]) rfl) rfl) <|
          ils_cons rfl (iop_extract (d := .int _ _) rfl rfl (by decide) (sv (d := .tuple [.int _ _, .int _ _, .int _ _]) rfl) rfl) <|
          ils_cons rfl (iop_assign rfl rfl (by decide) (sv (d := .int _ _) rfl)) <|
          ils_cons rfl (iop_assign rfl rfl (by decide) (sv (d := .int _ _) rfl)) <|
          ils_cons rfl (iop_assign rfl rfl (by decide) (sv (d := .int _ _) rfl)) <|
          ils_end ?_)
        refine iwp_seq ?_
        obtain ⟨x35, hx35, h⟩ := bnd_e h
        refine iwp_reg (ils_cons rfl (iop_move rfl rfl (by decide) (sv (d := .int _ _) rfl)) <|
          ils_cons rfl (iop_cmpx rfl rfl (by decide) (sv (d := .int _ _) rfl) (sv (d := .int _ 0) rfl) rfl hx35) <|
          ils_end ?_)
        refine iwp_cond (b := _) rfl (fun hc36 => ?_) (fun hc36 => ?_)
        ·
          replace h := bif_t h hc36
          refine iwp_reg (ils_cons rfl (iop_assign rfl rfl (by decide) (sv (d := .bool false) rfl)) <|
            ils_end ?_)
          refine iwp_ret ?_
          refine thenQ_r ?_
          refine blockQ_r ?_
          refine thenQ_r ?_
          refine thenQ_r ?_
          refine blockQ_r ?_
          refine thenQ_r ?_
          obtain rfl := Option.some.inj h
          refine ⟨.inr rfl, (fun i => i), ⟨.nil, (.cons (.blk rfl rfl rfl) .nil), nd_of [1000] rfl (by decide), (fun i hi => by first | rfl | (show (if _ then _ else _) = _; (repeat' split) <;> omega))⟩, (.cons (sv rfl) .nil), rfl⟩
        ·
          replace h := bif_f h hc36
          refine iwp_skip ?_
          refine thenQ_n ?_
          obtain ⟨x37, hx37, h⟩ := bno_e h
          refine iwp_reg (ils_cons rfl (iop_move rfl rfl (by decide) (sv (d := .ref _ _) rfl)) <|
            ils_cons rfl (iop_move rfl rfl (by decide) (sv (d := .int _ _) rfl)) <|
            ils_cons rfl (iop_nilCheck_ref rfl rfl (by decide) (sv (d := .ref _ _) rfl)) <|
            ils_cons rfl (iop_store_sym (cs' := [.int .u8 a1.Kind, .bool a1.Flag, .int .i64 (bif Nat.beq x33 2 then x34.1 else v14), .int .i64 (bif Nat.beq x33 3 then x34.1 else v15), .int .i64 (bif Nat.beq x33 4 then x34.1 else v16), .int .i64 (bif Nat.beq x33 5 then x34.1 else v17), .int .i64 (bif Nat.beq x33 6 then x34.1 else v18), .int .i64 (bif Nat.beq x33 7 then x34.1 else v19), .slice false (a1.Pairs.map E_api_Pair.d), .str a1.Data]) rfl rfl ti3 (sv (d := .ref _ _) rfl) rfl (sv (d := .int _ _) rfl) hx37 rfl) <|
            ils_end ?_)
          obtain ⟨x38, hx38, h⟩ := bno_e h
          refine iwp_region (ils_cons rfl (iop_move rfl rfl (by decide) (sv (d := .str _) rfl)) <|
            ils_cons rfl (iop_move rfl rfl (by decide) (sv (d := .int _ _) rfl)) <|
            ils_cons rfl (iop_cutS rfl rfl (by decide) Try.underlying9 (sv (d := .str _) rfl) ⟨_, (sv (d := .int _ _) rfl)⟩ rfl hx38) <|
            ils_cons rfl (iop_assign rfl rfl (by decide) (sv (d := .str _) rfl)) <|
            ils_nil ?_)
          refine blockQ_n ?_
          refine thenQ_n ?_
          obtain ⟨x39, hx39, h⟩ := bnd_e h
          refine iwp_region (ils_cons rfl (iop_intx rfl rfl (by decide) (sv (d := .int _ _) rfl) (sv (d := .int _ 1) rfl) rfl hx39) <|
            ils_cons rfl (iop_move rfl rfl (by decide) (sv (d := .int _ _) rfl)) <|
            ils_nil ?_)
          refine thenQ_n ⟨(n0, x38, x39, (bif Nat.beq x33 2 then x34.1 else v14), (bif Nat.beq x33 3 then x34.1 else v15), (bif Nat.beq x33 4 then x34.1 else v16), (bif Nat.beq x33 5 then x34.1 else v17), (bif Nat.beq x33 6 then x34.1 else v18), (bif Nat.beq x33 7 then x34.1 else v19)), (fun i => i), ⟨(.cons (.same rfl rfl) (.cons (.same rfl rfl) (.cons (.same rfl rfl) (.cons (.same rfl rfl) (.cons (.same rfl rfl) .nil))))), (.cons (.blk rfl rfl rfl) (.cons (EntW.lstR rfl rfl) .nil)), nd_of [1000, 0] rfl (by decide), (fun i hi => by first | rfl | (show (if _ then _ else _) = _; (repeat' split) <;> omega))⟩, ?_, ?_⟩
          exact h
          exact Nat.lt_succ_self _
      ·
        replace h := bif_f h hc31
        refine iwp_exit ?_
        refine thenQ_e ?_
        refine thenQ_e ?_
        refine blockQ_e ?_
        refine thenQ_n ?_
        refine iwp_seq ?_
        refine iwp_reg (ils_cons rfl (iop_move rfl rfl (by decide) (sv (d := .ref _ _) rfl)) <|
          ils_cons rfl (iop_nilCheck_ref rfl rfl (by decide) (sv (d := .ref _ _) rfl)) <|
          ils_cons rfl (iop_fieldAddr_ref rfl rfl (by decide) Try.underlying42 rfl ti5 (by decide) (sv (d := .ref _ _) rfl) (off' := 0) rfl) <|
          ils_cons rfl (iop_load_rs (d := .int _ _) rfl rfl (by decide) Try.underlying5 ag5 ti5 (by decide) (sv (d := .ref _ _) rfl) rfl (nle rfl) rfl) <|
          ils_end ?_)
        refine iwp_block ?_
        obtain ⟨x40, hx40, h⟩ := bnd_e h
        refine iwp_reg (ils_cons rfl (iop_cmpx rfl rfl (by decide) (sv (d := .int _ _) rfl) (sv (d := .int _ 0) rfl) rfl hx40) <|
          ils_cons rfl (iop_assign rfl rfl (by decide) (sv (d := .bool _) rfl)) <|
          ils_end ?_)
        refine iwp_cond (b := _) rfl (fun hc41 => ?_) (fun hc41 => ?_)
        ·
          replace h := bif_t h hc41
          refine iwp_reg (ils_cons rfl (iop_move rfl rfl (by decide) (sv (d := .ref _ _) rfl)) <|
            ils_cons rfl (iop_move rfl rfl (by decide) (sv (d := .str _) rfl)) <|
            ils_cons rfl (iop_nilCheck_ref rfl rfl (by decide) (sv (d := .ref _ _) rfl)) <|
            ils_cons rfl (iop_fieldAddr_ref rfl rfl (by decide) Try.underlying42 rfl ti9 (by decide) (sv (d := .ref _ _) rfl) (off' := 9) rfl) <|
            ils_cons rfl (iop_store (ds' := [.int _ _, .bool _, .int _ _, .int _ _, .int _ _, .int _ _, .int _ _, .int _ _, .slice _ _, .str _]) rfl rfl ti9 (sv (d := .ref _ _) rfl) rfl (sv (d := .str _) rfl) rfl rfl rfl (nle rfl) rfl) <|
            ils_end ?_)
          refine iwp_reg (ils_cons rfl (iop_assign rfl rfl (by decide) (sv (d := .bool true) rfl)) <|
            ils_end ?_)
          refine iwp_ret ?_
          refine blockQ_r ?_
          refine thenQ_r ?_
          obtain rfl := Option.some.inj h
          refine ⟨.inr rfl, (fun i => i), ⟨.nil, (.cons (.blk rfl rfl rfl) .nil), nd_of [1000] rfl (by decide), (fun i hi => by first | rfl | (show (if _ then _ else _) = _; (repeat' split) <;> omega))⟩, (.cons (sv rfl) .nil), rfl⟩
        ·
          replace h := bif_f h hc41
          obtain ⟨x42, hx42, h⟩ := bnd_e h
          refine iwp_reg (ils_cons rfl (iop_cmpx rfl rfl (by decide) (sv (d := .int _ _) rfl) (sv (d := .int _ 4) rfl) rfl hx42) <|
            ils_cons rfl (iop_assign rfl rfl (by decide) (sv (d := .bool _) rfl)) <|
            ils_end ?_)
          refine iwp_cond (b := _) rfl (fun hc43 => ?_) (fun hc43 => ?_)
          ·
            replace h := bif_t h hc43
            obtain ⟨x44, hx44, h⟩ := bno_e h
            refine iwp_reg (ils_cons rfl (iop_move rfl rfl (by decide) (sv (d := .str _) rfl)) <|
              ils_cons rfl (iop_call (r := .tuple [.slice _ _, .bool _]) rfl rfl (by decide) cl65 (.cons (sv (d := .str _) rfl) .nil) rfl (p_frame_settings _ _ hx44)) <|
              ils_cons rfl (iop_move rfl rfl (by decide) (sv (d := .tuple [.slice _ _, .bool _]) rfl)) <|
              ils_cons rfl (iop_extract (d := .slice _ _) rfl rfl (by decide) (sv (d := .tuple [.slice _ _, .bool _]) rfl) rfl) <|
              ils_cons rfl (iop_extract (d := .bool _) rfl rfl (by decide) (sv (d := .tuple [.slice _ _, .bool _]) rfl) rfl) <|
              ils_cons rfl (iop_assign rfl rfl (by decide) (sv (d := .slice _ _) rfl)) <|
              ils_cons rfl (iop_assign rfl rfl (by decide) (sv (d := .bool _) rfl)) <|
              ils_end ?_)
            refine iwp_reg (ils_cons rfl (iop_move rfl rfl (by decide) (sv (d := .ref _ _) rfl)) <|
              ils_cons rfl (iop_move rfl rfl (by decide) (sv (d := .slice _ _) rfl)) <|
              ils_cons rfl (iop_nilCheck_ref rfl rfl (by decide) (sv (d := .ref _ _) rfl)) <|
              ils_cons rfl (iop_fieldAddr_ref rfl rfl (by decide) Try.underlying42 rfl ti38 (by decide) (sv (d := .ref _ _) rfl) (off' := 8) rfl) <|
              ils_cons rfl (iop_store (ds' := [.int _ _, .bool _, .int _ _, .int _ _, .int _ _, .int _ _, .int _ _, .int _ _, .slice _ _, .str _]) rfl rfl ti38 (sv (d := .ref _ _) rfl) rfl (sv (d := .slice _ _) rfl) rfl rfl rfl (nle rfl) rfl) <|
              ils_end ?_)
            refine iwp_reg (ils_cons rfl (iop_move rfl rfl (by decide) (sv (d := .bool _) rfl)) <|
              ils_cons rfl (iop_assign rfl rfl (by decide) (sv (d := .bool _) rfl)) <|
              ils_end ?_)
            refine iwp_ret ?_
            refine blockQ_r ?_
            refine thenQ_r ?_
            obtain rfl := Option.some.inj h
            refine ⟨.inr rfl, (fun i => i), ⟨.nil, (.cons (.blk rfl rfl rfl) .nil), nd_of [1000] rfl (by decide), (fun i hi => by first | rfl | (show (if _ then _ else _) = _; (repeat' split) <;> omega))⟩, (.cons (sv rfl) .nil), rfl⟩
          ·
            replace h := bif_f h hc43
            refine iwp_skip ?_
            refine blockQ_n ?_
            refine thenQ_n ?_
            obtain ⟨x45, hx45, h⟩ := bnd_e h
            refine iwp_reg (ils_cons rfl (iop_move rfl rfl (by decide) (sv (d := .str _) rfl)) <|
              ils_cons rfl (iop_strx rfl rfl (by decide) (sv (d := .str _) rfl) (sv (d := .str []) rfl) rfl hx45) <|
              ils_cons rfl (iop_assign rfl rfl (by decide) (sv (d := .bool _) rfl)) <|
              ils_end ?_)
            refine iwp_ret ?_
            obtain rfl := Option.some.inj h
            refine ⟨.inr rfl, (fun i => i), ⟨.nil, (.cons (.blk rfl rfl rfl) .nil), nd_of [1000] rfl (by decide), (fun i hi => by first | rfl | (show (if _ then _ else _) = _; (repeat' split) <;> omega))⟩, (.cons (sv rfl) .nil), rfl⟩
end Go.Proofs.Ytleninhggapmeaa
