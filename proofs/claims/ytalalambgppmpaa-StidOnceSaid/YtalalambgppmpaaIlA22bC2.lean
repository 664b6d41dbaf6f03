/-
  A part of the proof: rules and plain facts. No condition.
-/
import Derived.Test.YtalalambgppmpaaProg
import Derived.KernelRfl
import Derived.Test.YtalalambgppmpaaIlTm
import Derived.Test.YtalalambgppmpaaIlA22bC1
set_option linter.all false
set_option linter.unusedSimpArgs false
set_option linter.unusedVariables false
open Go Go.IL Go.Fn Go.Proofs
namespace Go.Proofs.Ytalalambgppmpaa
theorem ti5 : TI Try.prog 5 (some (.int .u8 0)) 1 1 := by unfold TI; kernel_rfl
theorem ti61 : TI Try.prog 61 (some (.agg #[.bool false, .bool false, .bool false, .bool false, .bool false, .bool false, .bool false, .bool false, .bool false, .bool false, .bool false, .bool false, .bool false, .bool false, .bool false, .bool false, .bool false, .bool false, .bool false, .bool false, .bool false, .bool false, .bool false, .bool false, .bool false, .bool false, .bool false, .bool false, .bool false, .bool false, .bool false, .bool false, .bool false, .bool false, .bool false, .bool false, .bool false, .bool false, .bool false, .bool false, .bool false, .bool false, .bool false, .bool false, .bool false, .bool false, .bool false, .bool false, .bool false, .bool false, .bool false, .bool false, .bool false, .bool false, .bool false, .bool false, .bool false, .bool false, .bool false, .bool false, .bool false, .bool false, .bool false, .bool false, .bool false, .bool false, .bool false, .bool false, .bool false, .bool false, .bool false, .bool false, .bool false, .bool false, .bool false, .bool false, .bool false, .bool false, .bool false, .bool false, .bool false, .bool false, .bool false, .bool false, .bool false, .bool false, .bool false, .bool false, .bool false, .bool false, .bool false, .bool false, .bool false, .bool false, .bool false, .bool false, .bool false, .bool false, .bool false, .bool false, .bool false, .bool false, .bool false, .bool false, .bool false, .bool false, .bool false, .bool false, .bool false, .bool false, .bool false, .bool false, .bool false, .bool false, .bool false, .bool false, .bool false, .bool false, .bool false, .bool false, .bool false, .bool false, .bool false, .bool false, .bool false, .bool false, .bool false, .bool false, .bool false, .bool false, .bool false, .bool false, .bool false, .bool false, .bool false, .bool false, .bool false, .bool false, .bool false, .bool false, .bool false, .bool false, .bool false, .bool false, .bool false, .bool false, .bool false, .bool false, .bool false, .bool false, .bool false, .bool false, .bool false, .bool false, .bool false, .bool false, .bool false, .bool false, .bool false, .bool false, .bool false, .bool false, .bool false, .bool false, .bool false, .bool false, .bool false, .bool false, .bool false, .bool false, .bool false, .bool false, .bool false, .bool false, .bool false, .bool false, .bool false, .bool false, .bool false, .bool false, .bool false, .bool false, .bool false, .bool false, .bool false, .bool false, .bool false, .bool false, .bool false, .bool false, .bool false, .bool false, .bool false, .bool false, .bool false, .bool false, .bool false, .bool false, .bool false, .bool false, .bool false, .bool false, .bool false, .bool false, .bool false, .bool false, .bool false, .bool false, .bool false, .bool false, .bool false, .bool false, .bool false, .bool false, .bool false, .bool false, .bool false, .bool false, .bool false, .bool false, .bool false, .bool false, .bool false, .bool false, .bool false, .bool false, .bool false, .bool false, .bool false, .bool false, .bool false, .bool false, .bool false, .bool false, .bool false, .bool false, .bool false, .bool false, .bool false, .bool false, .bool false, .bool false, .bool false, .bool false, .bool false, .bool false, .bool false, .bool false, .bool false, .bool false, .bool false, .bool false, .bool false, .bool false, .bool false, .bool false, .bool false, .bool false, .bool false, .bool false, .bool false, .bool false, .bool false, .bool false, .bool false, .bool false, .bool false, .bool false, .bool false, .bool false, .bool false, .bool false, .bool false, .bool false, .bool false, .bool false, .bool false, .bool false, .bool false, .bool false, .bool false, .bool false, .bool false, .bool false, .bool false, .bool false, .bool false, .bool false, .bool false, .bool false, .bool false, .bool false, .bool false, .bool false, .bool false, .bool false, .bool false, .bool false, .bool false, .bool false, .bool false, .bool false, .bool false, .bool false, .bool false, .bool false, .bool false, .bool false, .bool false, .bool false, .bool false, .bool false, .bool false, .bool false, .bool false, .bool false, .bool false, .bool false, .bool false, .bool false, .bool false, .bool false, .bool false, .bool false, .bool false, .bool false, .bool false, .bool false, .bool false, .bool false, .bool false, .bool false, .bool false, .bool false, .bool false, .bool false, .bool false, .bool false, .bool false, .bool false, .bool false, .bool false, .bool false, .bool false, .bool false, .bool false, .bool false, .bool false, .bool false, .bool false, .bool false, .bool false, .bool false, .bool false, .bool false, .bool false, .bool false, .bool false, .bool false, .bool false, .bool false, .bool false, .bool false, .bool false, .bool false, .bool false, .bool false, .bool false, .bool false, .bool false, .bool false, .bool false, .bool false, .bool false, .bool false, .bool false, .bool false, .bool false, .bool false, .bool false, .bool false, .bool false, .bool false, .bool false, .bool false, .bool false, .bool false, .bool false, .bool false, .bool false, .bool false, .bool false, .bool false, .bool false, .bool false, .bool false, .bool false, .bool false, .bool false, .bool false, .bool false, .bool false, .bool false, .bool false, .bool false, .bool false, .bool false, .bool false, .bool false, .bool false, .bool false, .bool false, .bool false, .bool false, .bool false, .bool false, .bool false, .bool false, .bool false, .bool false, .bool false, .bool false, .bool false, .bool false, .bool false, .bool false, .bool false, .bool false, .bool false, .bool false, .bool false, .bool false, .bool false, .bool false, .bool false, .bool false, .bool false, .bool false, .bool false, .bool false, .bool false, .bool false, .bool false, .bool false, .bool false, .bool false, .bool false, .bool false, .bool false, .bool false, .bool false, .bool false, .bool false, .bool false, .bool false, .bool false, .bool false, .bool false, .bool false, .bool false, .bool false, .bool false, .bool false, .bool false, .bool false, .bool false, .bool false, .bool false, .bool false, .bool false, .bool false, .bool false, .bool false, .bool false, .bool false, .bool false, .bool false, .bool false, .bool false, .bool false, .bool false, .bool false, .bool false, .bool false, .bool false, .bool false, .bool false, .bool false, .bool false, .bool false, .bool false, .bool false, .bool false, .bool false, .bool false, .bool false, .bool false, .bool false, .bool false, .bool false, .bool false, .bool false, .bool false, .bool false, .bool false, .bool false, .bool false, .bool false, .bool false, .bool false, .bool false, .bool false, .bool false, .bool false, .bool false, .bool false, .bool false, .bool false, .bool false, .bool false, .bool false, .bool false, .bool false, .bool false, .bool false, .bool false, .bool false, .bool false, .bool false, .bool false, .bool false, .bool false, .bool false, .bool false, .bool false, .bool false, .bool false, .bool false, .bool false, .bool false, .bool false, .bool false, .bool false, .bool false, .bool false, .bool false, .bool false, .bool false, .bool false, .bool false, .bool false, .bool false, .bool false, .bool false, .bool false, .bool false, .bool false, .bool false, .bool false, .bool false, .bool false, .bool false, .bool false, .bool false, .bool false, .bool false, .bool false, .bool false, .bool false, .bool false, .bool false, .bool false, .bool false, .bool false, .bool false, .bool false, .bool false, .bool false, .bool false, .bool false, .bool false, .bool false, .bool false, .bool false, .bool false, .bool false, .bool false, .bool false, .bool false, .bool false, .bool false, .bool false, .bool false, .bool false, .bool false, .bool false, .bool false, .bool false, .bool false, .bool false])) 600 600 := by unfold TI; kernel_rfl
theorem ti63 : TI Try.prog 63 (some (.agg #[.int .u8 0, .int .u8 0])) 2 2 := by unfold TI; kernel_rfl
theorem ag5 : aggOf Try.prog 5 = false := by kernel_rfl
theorem st36 : Try.prog.stoodInHeld 36 = false ∧ Try.prog.eqGuardType Try.prog.depth 36 = false := ⟨by kernel_rfl, by kernel_rfl⟩
theorem cl7 : Callable Try.prog 7 := ⟨Try.f7, Try.func7, rfl, rfl⟩
theorem cl8 : Callable Try.prog 8 := ⟨Try.f8, Try.func8, rfl, rfl⟩
theorem cl10 : Callable Try.prog 10 := ⟨Try.f10, Try.func10, rfl, rfl⟩
theorem cl12 : Callable Try.prog 12 := ⟨Try.f12, Try.func12, rfl, rfl⟩
theorem cl14 : Callable Try.prog 14 := ⟨Try.f14, Try.func14, rfl, rfl⟩
theorem cl16 : Callable Try.prog 16 := ⟨Try.f16, Try.func16, rfl, rfl⟩
theorem cl21 : Callable Try.prog 21 := ⟨Try.f21, Try.func21, rfl, rfl⟩
theorem cl22 : Callable Try.prog 22 := ⟨Try.f22, Try.func22, rfl, rfl⟩
theorem cl23 : Callable Try.prog 23 := ⟨Try.f23, Try.func23, rfl, rfl⟩
theorem cl27 : Callable Try.prog 27 := ⟨Try.f27, Try.func27, rfl, rfl⟩
theorem cl50 : Callable Try.prog 50 := ⟨Try.f50, Try.func50, rfl, rfl⟩

set_option maxRecDepth 8000 in
set_option maxHeartbeats 2000000 in
theorem p_stid_Shut (a0 : T_stid_State) (r : (T_stid_State × Int)) (h : stid_Shut a0 = some r) : PureAt Try.prog 16 [.agg [.bool a0.Odd, .int .i64 a0.Next, .int .i64 a0.Last, .slice false (a0.Live.map (eInt .i64).d), .slice false (a0.Cut.map (eInt .i64).d), .int .i64 a0.Mine, .int .i64 a0.Hers, .int .i64 a0.Heard, .int .i64 a0.Told]] (retD [.agg [.bool r.1.Odd, .int .i64 r.1.Next, .int .i64 r.1.Last, .slice false (r.1.Live.map (eInt .i64).d), .slice false (r.1.Cut.map (eInt .i64).d), .int .i64 r.1.Mine, .int .i64 r.1.Hers, .int .i64 r.1.Heard, .int .i64 r.1.Told], .int .i64 r.2]) := by
  refine pure_of_iwpF (rs := [.agg [.bool r.1.Odd, .int .i64 r.1.Next, .int .i64 r.1.Last, .slice false (r.1.Live.map (eInt .i64).d), .slice false (r.1.Cut.map (eInt .i64).d), .int .i64 r.1.Mine, .int .i64 r.1.Hers, .int .i64 r.1.Heard, .int .i64 r.1.Told], .int .i64 r.2]) Try.func16 rfl Try.ntmps16 (nle rfl) rfl fun O hO => ?_
  show IWP _ _ _ _ ⟨[(0, .agg [.bool a0.Odd, .int .i64 a0.Next, .int .i64 a0.Last, .slice false (a0.Live.map (eInt .i64).d), .slice false (a0.Cut.map (eInt .i64).d), .int .i64 a0.Mine, .int .i64 a0.Hers, .int .i64 a0.Heard, .int .i64 a0.Told])], []⟩ _
  unfold stid_Shut at h
  refine iwp_reg (ils_cons rfl (iop_box' (cs := [.bool _, .int _ _, .int _ _, .slice _ _, .slice _ _, .int _ _, .int _ _, .int _ _, .int _ _]) 0 rfl rfl (by decide) rfl (sv (d := .agg [.bool _, .int _ _, .int _ _, .slice _ _, .slice _ _, .int _ _, .int _ _, .int _ _, .int _ _]) rfl) rfl rfl) <|
    ils_cons rfl (iop_allocS (cs := [.bool _, .int _ _, .int _ _, .nils, .nils, .int _ _, .int _ _, .int _ _, .int _ _]) (cs' := [.bool false, .int .i64 0, .int .i64 0, .slice false (([] : List Int).map (eInt .i64).d), .slice false (([] : List Int).map (eInt .i64).d), .int .i64 0, .int .i64 0, .int .i64 0, .int .i64 0]) 1 rfl rfl (by decide) rfl ti27 rfl rfl (.cons (.refl _) (.cons (.refl _) (.cons (.refl _) (.cons (.nils _) (.cons (.nils _) (.cons (.refl _) (.cons (.refl _) (.cons (.refl _) (.cons (.refl _) .nil)))))))))) <|
    ils_cons rfl (iop_assign rfl rfl (by decide) (sv (d := .int _ 0) rfl)) <|
    ils_end ?_)
  obtain ⟨x1, hx1, h⟩ := bno_e h
  refine iwp_reg (ils_cons rfl (iop_load_ra (cs := [.bool _, .int _ _, .int _ _, .slice _ _, .slice _ _, .int _ _, .int _ _, .int _ _, .int _ _]) rfl rfl (by decide) Try.underlying27 ag27 ti27 (by decide) (sv (d := .ref _ _) rfl) rfl (nle rfl) rfl) <|
    ils_cons rfl (iop_callh2 (r' := .agg [.bool x1.1, .int .i64 x1.2.1, .int .i64 x1.2.2.1, .osl 2 (eInt .i64).sz x1.2.2.2.1.length, .osl 3 (eInt .i64).sz x1.2.2.2.2.1.length, .int .i64 x1.2.2.2.2.2.1, .int .i64 x1.2.2.2.2.2.2.1, .int .i64 x1.2.2.2.2.2.2.2.1, .int .i64 x1.2.2.2.2.2.2.2.2]) (H1' := [(2, .blk 3 (D.flat (x1.2.2.2.1.map (eInt .i64).d))), (3, .blk 3 (D.flat (x1.2.2.2.2.1.map (eInt .i64).d)))]) 2 [] rfl rfl (by decide) cl28 (.cons (sv (d := .agg [.bool _, .int _ _, .int _ _, .slice _ _, .slice _ _, .int _ _, .int _ _, .int _ _, .int _ _]) rfl) .nil) rfl rfl ⟨rfl, rfl, by decide, rfl, List.forall_mem_nil _⟩ (p_stid_State_own_h _ _ hx1) rfl rfl (List.forall_mem_cons.2 ⟨⟨rfl, (handLr (eInt .i64))⟩, List.forall_mem_cons.2 ⟨⟨rfl, (handLr (eInt .i64))⟩, List.forall_mem_nil _⟩⟩) (by simp only [List.map_cons, List.map_nil, Ent.ren, renL_flat, renL_ref]; rfl)) <|
    ils_cons rfl (iop_allocS (cs := [.bool _, .int _ _, .int _ _, .nils, .nils, .int _ _, .int _ _, .int _ _, .int _ _]) (cs' := [.bool false, .int .i64 0, .int .i64 0, .slice false (([] : List Int).map (eInt .i64).d), .slice false (([] : List Int).map (eInt .i64).d), .int .i64 0, .int .i64 0, .int .i64 0, .int .i64 0]) 4 rfl rfl (by decide) rfl ti27 rfl rfl (.cons (.refl _) (.cons (.refl _) (.cons (.refl _) (.cons (.nils _) (.cons (.nils _) (.cons (.refl _) (.cons (.refl _) (.cons (.refl _) (.cons (.refl _) .nil)))))))))) <|
    ils_cons rfl (iop_store (ds' := [.bool _, .int _ _, .int _ _, .osl _ _ _, .osl _ _ _, .int _ _, .int _ _, .int _ _, .int _ _]) rfl rfl ti27 (sv (d := .ref _ _) rfl) rfl (sv (d := .agg [.bool _, .int _ _, .int _ _, .osl _ _ _, .osl _ _ _, .int _ _, .int _ _, .int _ _, .int _ _]) rfl) rfl rfl rfl (nle rfl) rfl) <|
    ils_end ?_)
  refine iwp_seq ?_
  obtain ⟨x2, hx2, h⟩ := bno_e h
  obtain ⟨x3, hx3, h⟩ := bnd_e h
  refine iwp_reg (ils_cons rfl (iop_load_ra (cs := [.bool _, .int _ _, .int _ _, .slice _ _, .slice _ _, .int _ _, .int _ _, .int _ _, .int _ _]) rfl rfl (by decide) Try.underlying27 ag27 ti27 (by decide) (sv (d := .ref _ _) rfl) rfl (nle rfl) rfl) <|
    ils_cons rfl (iop_call (r := .int _ _) rfl rfl (by decide) cl26 (.cons (sv (d := .agg [.bool _, .int _ _, .int _ _, .slice _ _, .slice _ _, .int _ _, .int _ _, .int _ _, .int _ _]) rfl) .nil) rfl (p_stid_Check _ _ hx2)) <|
    ils_cons rfl (iop_cmpx rfl rfl (by decide) (sv (d := .int _ _) rfl) (sv (d := .int _ 0) rfl) rfl hx3) <|
    ils_end ?_)
  refine iwp_cond (b := _) rfl (fun hc4 => ?_) (fun hc4 => ?_)
  ·
    replace h := bif_t h hc4
    refine iwp_reg (ils_cons rfl (iop_load_ra (cs := [.bool _, .int _ _, .int _ _, .osl _ _ _, .osl _ _ _, .int _ _, .int _ _, .int _ _, .int _ _]) rfl rfl (by decide) Try.underlying27 ag27 ti27 (by decide) (sv (d := .ref _ _) rfl) rfl (nle rfl) rfl) <|
      ils_cons rfl (iop_store (ds' := [.bool _, .int _ _, .int _ _, .osl _ _ _, .osl _ _ _, .int _ _, .int _ _, .int _ _, .int _ _]) rfl rfl ti27 (sv (d := .ref _ _) rfl) rfl (sv (d := .agg [.bool _, .int _ _, .int _ _, .osl _ _ _, .osl _ _ _, .int _ _, .int _ _, .int _ _, .int _ _]) rfl) rfl rfl rfl (nle rfl) rfl) <|
      ils_cons rfl (iop_assign rfl rfl (by decide) (sv (d := .int _ (-1)) rfl)) <|
      ils_end ?_)
    refine iwp_ret ?_
    refine thenQ_r ?_
    obtain rfl := Option.some.inj h
    refine ⟨.inr rfl, _, (.cons (resv_a rfl rfl Try.underlying27 ag27 ti27 (by decide) (nle rfl) rfl) (.cons (sv rfl) .nil)), (.cons (.agg (.cons (.refl _) (.cons (.refl _) (.cons (.refl _) (.cons (FDT (eInt .i64) rfl rfl) (.cons (FDT (eInt .i64) rfl rfl) (.cons (.refl _) (.cons (.refl _) (.cons (.refl _) (.cons (.refl _) .nil)))))))))) (.cons (.refl _) .nil))⟩
  ·
    replace h := bif_f h hc4
    refine iwp_skip ?_
    refine thenQ_n ?_
    refine iwp_join (α := Int) (fun z => ⟨[(2, .ref 1 0), (4, .ref 4 0)], [(1, .blk 27 [.bool false, .int .i64 0, .int .i64 0, .slice false (([] : List Int).map (eInt .i64).d), .slice false (([] : List Int).map (eInt .i64).d), .int .i64 0, .int .i64 0, .int .i64 0, .int .i64 0]), (4, .blk 27 [.bool x1.1, .int .i64 x1.2.1, .int .i64 x1.2.2.1, .osl 2 (eInt .i64).sz x1.2.2.2.1.length, .osl 3 (eInt .i64).sz x1.2.2.2.2.1.length, .int .i64 x1.2.2.2.2.2.1, .int .i64 x1.2.2.2.2.2.2.1, .int .i64 x1.2.2.2.2.2.2.2.1, .int .i64 z]), (2, .blk 3 (D.flat (x1.2.2.2.1.map (eInt .i64).d))), (3, .blk 3 (D.flat (x1.2.2.2.2.1.map (eInt .i64).d)))]⟩) (fun z => stid_Shut_J0 x1 z = some r) ?_ ?_
    ·
      obtain ⟨x8, hx8, h⟩ := bnd_e h
      refine iwp_reg (ils_cons rfl (iop_fieldAddr_ref rfl rfl (by decide) Try.underlying27 rfl ti3 (by decide) (sv (d := .ref _ _) rfl) (off' := 8) rfl) <|
        ils_cons rfl (iop_load_rs (d := .int _ _) rfl rfl (by decide) Try.underlying3 ag3 ti3 (by decide) (sv (d := .ref _ _) rfl) rfl (nle rfl) rfl) <|
        ils_cons rfl (iop_cmpx rfl rfl (by decide) (sv (d := .int _ _) rfl) (sv (d := .int _ (-1)) rfl) rfl hx8) <|
        ils_end ?_)
      refine iwp_cond (b := _) rfl (fun hc9 => ?_) (fun hc9 => ?_)
      ·
        replace h := bif_t h hc9
        refine iwp_region (ils_cons rfl (iop_fieldAddr_ref rfl rfl (by decide) Try.underlying27 rfl ti3 (by decide) (sv (d := .ref _ _) rfl) (off' := 2) rfl) <|
          ils_cons rfl (iop_load_rs (d := .int _ _) rfl rfl (by decide) Try.underlying3 ag3 ti3 (by decide) (sv (d := .ref _ _) rfl) rfl (nle rfl) rfl) <|
          ils_cons rfl (iop_fieldAddr_ref rfl rfl (by decide) Try.underlying27 rfl ti3 (by decide) (sv (d := .ref _ _) rfl) (off' := 8) rfl) <|
          ils_cons rfl (iop_store (ds' := [.bool _, .int _ _, .int _ _, .osl _ _ _, .osl _ _ _, .int _ _, .int _ _, .int _ _, .int _ _]) rfl rfl ti3 (sv (d := .ref _ _) rfl) rfl (sv (d := .int _ _) rfl) rfl rfl rfl (nle rfl) rfl) <|
          ils_nil ?_)
        refine thenQ_n ⟨x1.2.2.1, (fun i => i), ⟨(.cons (.same rfl rfl) (.cons (.same rfl rfl) .nil)), (.cons (.blk rfl rfl rfl) (.cons (.blk rfl rfl rfl) (.cons (EntW.lst rfl) (.cons (EntW.lst rfl) .nil)))), nd_of [1, 4, 2, 3] rfl (by decide), (fun i hi => by first | rfl | (show (if _ then _ else _) = _; (repeat' split) <;> omega))⟩, ?_⟩
        exact h
      ·
        replace h := bif_f h hc9
        refine iwp_skip ?_
        refine thenQ_n ⟨x1.2.2.2.2.2.2.2.2, (fun i => i), ⟨(.cons (.same rfl rfl) (.cons (.same rfl rfl) .nil)), (.cons (.blk rfl rfl rfl) (.cons (.blk rfl rfl rfl) (.cons (EntW.lst rfl) (.cons (EntW.lst rfl) .nil)))), nd_of [1, 4, 2, 3] rfl (by decide), (fun i hi => by first | rfl | (show (if _ then _ else _) = _; (repeat' split) <;> omega))⟩, ?_⟩
        exact h
    ·
      rintro v7 h
      unfold stid_Shut_J0 at h
      refine iwp_drw rfl [⟨[4], [4], [(17, .agg [.bool x1.1, .int .i64 x1.2.1, .int .i64 x1.2.2.1, .osl 2 (eInt .i64).sz x1.2.2.2.1.length, .osl 3 (eInt .i64).sz x1.2.2.2.2.1.length, .int .i64 x1.2.2.2.2.2.1, .int .i64 x1.2.2.2.2.2.2.1, .int .i64 x1.2.2.2.2.2.2.2.1, .int .i64 v7])], []⟩,
        ⟨[4], [], [(18, .ref 4 8)], []⟩,
        ⟨[18], [4], [(19, .int .i64 v7)], []⟩,
        ⟨[2, 17], [1], [], [(1, .blk 27 [.bool x1.1, .int .i64 x1.2.1, .int .i64 x1.2.2.1, .osl 2 (eInt .i64).sz x1.2.2.2.1.length, .osl 3 (eInt .i64).sz x1.2.2.2.2.1.length, .int .i64 x1.2.2.2.2.2.1, .int .i64 x1.2.2.2.2.2.2.1, .int .i64 x1.2.2.2.2.2.2.2.1, .int .i64 v7])]⟩,
        ⟨[19], [], [(3, .int .i64 v7)], []⟩] rfl ?_ (by kernel_rfl) ?_
      · refine .cons (lop rfl rfl fun S hA => (iop_load_ra (cs := [.bool _, .int _ _, .int _ _, .osl _ _ _, .osl _ _ _, .int _ _, .int _ _, .int _ _, .int _ _]) rfl rfl (by decide) Try.underlying27 ag27 ti27 (by decide) (sv (d := .ref _ _) (agr hA rfl rfl)) (agi hA rfl rfl) (nle rfl) rfl)) ?_
        refine .cons (lop rfl rfl fun S hA => (iop_fieldAddr_ref rfl rfl (by decide) Try.underlying27 rfl ti3 (by decide) (sv (d := .ref _ _) (agr hA rfl rfl)) (off' := 8) rfl)) ?_
        refine .cons (lop rfl rfl fun S hA => (iop_load_rs (d := .int _ _) rfl rfl (by decide) Try.underlying3 ag3 ti3 (by decide) (sv (d := .ref _ _) (agr hA rfl rfl)) (agi hA rfl rfl) (nle rfl) rfl)) ?_
        refine .cons (lop rfl rfl fun S hA => (iop_store (ds' := [.bool _, .int _ _, .int _ _, .osl _ _ _, .osl _ _ _, .int _ _, .int _ _, .int _ _, .int _ _]) rfl rfl ti27 (sv (d := .ref _ _) (agr hA rfl rfl)) (agi hA rfl rfl) (sv (d := .agg [.bool _, .int _ _, .int _ _, .osl _ _ _, .osl _ _ _, .int _ _, .int _ _, .int _ _, .int _ _]) (agr hA rfl rfl)) rfl rfl rfl (nle rfl) rfl)) ?_
        refine .cons (lop rfl rfl fun S hA => (iop_assign rfl rfl (by decide) (sv (d := .int _ _) (agr hA rfl rfl)))) ?_
        exact .nil
      refine iwp_ret ?_
      obtain rfl := Option.some.inj h
      refine ⟨.inr rfl, _, (.cons (resv_a rfl rfl Try.underlying27 ag27 ti27 (by decide) (nle rfl) rfl) (.cons (sv rfl) .nil)), (.cons (.agg (.cons (.refl _) (.cons (.refl _) (.cons (.refl _) (.cons (FDT (eInt .i64) rfl rfl) (.cons (FDT (eInt .i64) rfl rfl) (.cons (.refl _) (.cons (.refl _) (.cons (.refl _) (.cons (.refl _) .nil)))))))))) (.cons (.refl _) .nil))⟩

set_option maxRecDepth 8000 in
set_option maxHeartbeats 2000000 in
theorem p_sennitref02_SameInts (a0 : (List Int)) (a1 : (List Int)) (r : Bool) (h : sennitref02_SameInts a0 a1 = some r) : PureAt Try.prog 21 [.slice false (a0.map (eInt .i64).d), .slice false (a1.map (eInt .i64).d)] (.bool r) := by
  refine pure_of_iwp (rs := [.bool r]) Try.func21 rfl Try.ntmps21 (nle rfl) rfl fun O hO => ?_
  show IWP _ _ _ _ ⟨[(0, .slice false (a0.map (eInt .i64).d)), (1, .slice false (a1.map (eInt .i64).d))], []⟩ _
  unfold sennitref02_SameInts at h
  refine iwp_reg (ils_cons rfl (iop_assign rfl rfl (by decide) (sv (d := .bool false) rfl)) <|
    ils_end ?_)
  refine iwp_seq ?_
  obtain ⟨x1, hx1, h⟩ := bnd_e h
  refine iwp_reg (ils_cons rfl (iop_move rfl rfl (by decide) (sv (d := .slice _ _) rfl)) <|
    ils_cons rfl (iop_lenT (eInt .i64) (l := a0) rfl rfl (by decide) Try.underlying22 (sv (d := .slice _ _) rfl)) <|
    ils_cons rfl (iop_move rfl rfl (by decide) (sv (d := .slice _ _) rfl)) <|
    ils_cons rfl (iop_lenT (eInt .i64) (l := a1) rfl rfl (by decide) Try.underlying22 (sv (d := .slice _ _) rfl)) <|
    ils_cons rfl (iop_cmpx rfl rfl (by decide) (sv (d := .int _ _) rfl) (sv (d := .int _ _) rfl) rfl hx1) <|
    ils_end ?_)
  refine iwp_cond (b := _) rfl (fun hc2 => ?_) (fun hc2 => ?_)
  ·
    replace h := bif_t h hc2
    refine iwp_reg (ils_cons rfl (iop_assign rfl rfl (by decide) (sv (d := .bool false) rfl)) <|
      ils_end ?_)
    refine iwp_ret ?_
    refine thenQ_r ?_
    obtain rfl := Option.some.inj h
    refine ⟨.inr rfl, (.cons (sv rfl) .nil)⟩
  ·
    replace h := bif_f h hc2
    refine iwp_skip ?_
    refine thenQ_n ?_
    refine iwp_seq ?_
    refine iwp_reg (ils_cons rfl (iop_assign rfl rfl (by decide) (sv (d := .int _ 0) rfl)) <|
      ils_end ?_)
    refine iwp_block ?_
    refine iwp_loopP (α := Nat × Int) (fun z => ⟨[(0, .slice false (a0.map (eInt .i64).d)), (1, .slice false (a1.map (eInt .i64).d)), (5, .int .i64 z.2)], []⟩) (fun z => sennitref02_SameInts_L0 a0 a1 z.1 z.2 = some r) (fun z => z.1) (fuel, 0) (fun i => i) ⟨(.cons (.same rfl rfl) (.cons (.same rfl rfl) (.cons (.same rfl rfl) .nil))), .nil, nd_of [] rfl (by decide), (fun i hi => by first | rfl | (show (if _ then _ else _) = _; (repeat' split) <;> omega))⟩ ?_ ?_
    · exact h
    ·
      rintro ⟨n0, v10⟩ h
      cases n0 with
      | zero => exact absurd h (by unfold sennitref02_SameInts_L0; exact nofun)
      | succ n0 =>
        unfold sennitref02_SameInts_L0 at h
        refine iwp_seq ?_
        obtain ⟨x18, hx18, h⟩ := bnd_e h
        refine iwp_reg (ils_cons rfl (iop_move rfl rfl (by decide) (sv (d := .int _ _) rfl)) <|
          ils_cons rfl (iop_move rfl rfl (by decide) (sv (d := .slice _ _) rfl)) <|
          ils_cons rfl (iop_lenT (eInt .i64) (l := a0) rfl rfl (by decide) Try.underlying22 (sv (d := .slice _ _) rfl)) <|
          ils_cons rfl (iop_cmpx rfl rfl (by decide) (sv (d := .int _ _) rfl) (sv (d := .int _ _) rfl) rfl hx18) <|
          ils_end ?_)
        refine iwp_cond (b := _) rfl (fun hc19 => ?_) (fun hc19 => ?_)
        ·
          replace h := bif_t h hc19
          refine iwp_skip ?_
          refine thenQ_n ?_
          refine iwp_seq ?_
          refine iwp_block ?_
          obtain ⟨x20, hx20, h⟩ := bno_e h
          obtain ⟨x21, hx21, h⟩ := bno_e h
          obtain ⟨x22, hx22, h⟩ := bnd_e h
          refine iwp_drw rfl [⟨[0], [], [(17, .slice false (a0.map (eInt .i64).d))], []⟩,
            ⟨[5], [], [(18, .int .i64 v10)], []⟩,
            ⟨[17, 18], [], [(19, .fptr [.int .i64 x20])], []⟩,
            ⟨[19], [], [(20, .int .i64 x20)], []⟩,
            ⟨[1], [], [(21, .slice false (a1.map (eInt .i64).d))], []⟩,
            ⟨[5], [], [(22, .int .i64 v10)], []⟩,
            ⟨[21, 22], [], [(23, .fptr [.int .i64 x21])], []⟩,
            ⟨[23], [], [(24, .int .i64 x21)], []⟩,
            ⟨[20, 24], [], [(25, .bool x22)], []⟩] rfl ?_ (by kernel_rfl) ?_
          · refine .cons (lop rfl rfl fun S hA => (iop_move rfl rfl (by decide) (sv (d := .slice _ _) (agr hA rfl rfl)))) ?_
            refine .cons (lop rfl rfl fun S hA => (iop_move rfl rfl (by decide) (sv (d := .int _ _) (agr hA rfl rfl)))) ?_
            refine .cons (lop rfl rfl fun S hA => (iop_idxT (eInt .i64) (cs := [.int _ _]) rfl rfl (by decide) Try.underlying22 ti3 (sv (d := .slice _ _) (agr hA rfl rfl)) (sv (d := .int _ _) (agr hA rfl rfl)) hx20 rfl rfl)) ?_
            refine .cons (lop rfl rfl fun S hA => (iop_load_fs rfl rfl (by decide) Try.underlying3 ag3 ti3 (by decide) (sv (d := .fptr [.int _ _]) (agr hA rfl rfl)) (nle rfl))) ?_
            refine .cons (lop rfl rfl fun S hA => (iop_move rfl rfl (by decide) (sv (d := .slice _ _) (agr hA rfl rfl)))) ?_
            refine .cons (lop rfl rfl fun S hA => (iop_move rfl rfl (by decide) (sv (d := .int _ _) (agr hA rfl rfl)))) ?_
            refine .cons (lop rfl rfl fun S hA => (iop_idxT (eInt .i64) (cs := [.int _ _]) rfl rfl (by decide) Try.underlying22 ti3 (sv (d := .slice _ _) (agr hA rfl rfl)) (sv (d := .int _ _) (agr hA rfl rfl)) hx21 rfl rfl)) ?_
            refine .cons (lop rfl rfl fun S hA => (iop_load_fs rfl rfl (by decide) Try.underlying3 ag3 ti3 (by decide) (sv (d := .fptr [.int _ _]) (agr hA rfl rfl)) (nle rfl))) ?_
            refine .cons (lop rfl rfl fun S hA => (iop_cmpx rfl rfl (by decide) (sv (d := .int _ _) (agr hA rfl rfl)) (sv (d := .int _ _) (agr hA rfl rfl)) rfl hx22)) ?_
            exact .nil
          refine iwp_cond (b := _) rfl (fun hc23 => ?_) (fun hc23 => ?_)
          ·
            replace h := bif_t h hc23
            refine iwp_reg (ils_cons rfl (iop_assign rfl rfl (by decide) (sv (d := .bool false) rfl)) <|
              ils_end ?_)
            refine iwp_ret ?_
            refine blockQ_r ?_
            refine thenQ_r ?_
            refine thenQ_r ?_
            refine blockQ_r ?_
            refine thenQ_r ?_
            obtain rfl := Option.some.inj h
            refine ⟨.inr rfl, (.cons (sv rfl) .nil)⟩
          ·
            replace h := bif_f h hc23
            refine iwp_skip ?_
            refine blockQ_n ?_
            refine thenQ_n ?_
            obtain ⟨x24, hx24, h⟩ := bnd_e h
            refine iwp_region (ils_cons rfl (iop_move rfl rfl (by decide) (sv (d := .int _ _) rfl)) <|
              ils_cons rfl (iop_intx rfl rfl (by decide) (sv (d := .int _ _) rfl) (sv (d := .int _ 1) rfl) rfl hx24) <|
              ils_cons rfl (iop_assign rfl rfl (by decide) (sv (d := .int _ _) rfl)) <|
              ils_nil ?_)
            refine thenQ_n ⟨(n0, x24), (fun i => i), ⟨(.cons (.same rfl rfl) (.cons (.same rfl rfl) (.cons (.same rfl rfl) .nil))), .nil, nd_of [] rfl (by decide), (fun i hi => by first | rfl | (show (if _ then _ else _) = _; (repeat' split) <;> omega))⟩, ?_, ?_⟩
            exact h
            exact Nat.lt_succ_self _
        ·
          replace h := bif_f h hc19
          refine iwp_exit ?_
          refine thenQ_e ?_
          refine thenQ_e ?_
          refine blockQ_e ?_
          refine thenQ_n ?_
          refine iwp_reg (ils_cons rfl (iop_assign rfl rfl (by decide) (sv (d := .bool true) rfl)) <|
            ils_end ?_)
          refine iwp_ret ?_
          obtain rfl := Option.some.inj h
          refine ⟨.inr rfl, (.cons (sv rfl) .nil)⟩

set_option maxRecDepth 8000 in
set_option maxHeartbeats 2000000 in
theorem p_stid_Class (a0 : T_stid_State) (a1 : Int) (r : Int) (h : stid_Class a0 a1 = some r) : PureAt Try.prog 23 [.agg [.bool a0.Odd, .int .i64 a0.Next, .int .i64 a0.Last, .slice false (a0.Live.map (eInt .i64).d), .slice false (a0.Cut.map (eInt .i64).d), .int .i64 a0.Mine, .int .i64 a0.Hers, .int .i64 a0.Heard, .int .i64 a0.Told], .int .i64 a1] (.int .u8 r) := by
  refine pure_of_iwp (rs := [.int .u8 r]) Try.func23 rfl Try.ntmps23 (nle rfl) rfl fun O hO => ?_
  show IWP _ _ _ _ ⟨[(0, .agg [.bool a0.Odd, .int .i64 a0.Next, .int .i64 a0.Last, .slice false (a0.Live.map (eInt .i64).d), .slice false (a0.Cut.map (eInt .i64).d), .int .i64 a0.Mine, .int .i64 a0.Hers, .int .i64 a0.Heard, .int .i64 a0.Told]), (1, .int .i64 a1)], []⟩ _
  unfold stid_Class at h
  refine iwp_reg (ils_cons rfl (iop_box' (cs := [.bool _, .int _ _, .int _ _, .slice _ _, .slice _ _, .int _ _, .int _ _, .int _ _, .int _ _]) 0 rfl rfl (by decide) rfl (sv (d := .agg [.bool _, .int _ _, .int _ _, .slice _ _, .slice _ _, .int _ _, .int _ _, .int _ _, .int _ _]) rfl) rfl rfl) <|
    ils_cons rfl (iop_assign rfl rfl (by decide) (sv (d := .int _ 0) rfl)) <|
    ils_end ?_)
  refine iwp_seq ?_
  refine iwp_block ?_
  obtain ⟨x1, hx1, h⟩ := bnd_e h
  refine iwp_reg (ils_cons rfl (iop_move rfl rfl (by decide) (sv (d := .int _ _) rfl)) <|
    ils_cons rfl (iop_cmpx rfl rfl (by decide) (sv (d := .int _ _) rfl) (sv (d := .int _ 0) rfl) rfl hx1) <|
    ils_cons rfl (iop_assign rfl rfl (by decide) (sv (d := .bool _) rfl)) <|
    ils_end ?_)
  refine iwp_cond (b := _) rfl (fun hc2 => ?_) (fun hc2 => ?_)
  ·
    replace h := bif_t h hc2
    refine iwp_reg (ils_cons rfl (iop_assign rfl rfl (by decide) (sv (d := .int _ 0) rfl)) <|
      ils_end ?_)
    refine iwp_ret ?_
    refine blockQ_r ?_
    refine thenQ_r ?_
    obtain rfl := Option.some.inj h
    refine ⟨.inr rfl, (.cons (sv rfl) .nil)⟩
  ·
    replace h := bif_f h hc2
    obtain ⟨x3, hx3, h⟩ := bno_e h
    refine iwp_reg (ils_cons rfl (iop_fieldAddr_ref rfl rfl (by decide) Try.underlying27 rfl ti22 (by decide) (sv (d := .ref _ _) rfl) (off' := 3) rfl) <|
      ils_cons rfl (iop_load_rs (d := .slice _ _) rfl rfl (by decide) Try.underlying22 ag22 ti22 (by decide) (sv (d := .ref _ _) rfl) rfl (nle rfl) rfl) <|
      ils_cons rfl (iop_move rfl rfl (by decide) (sv (d := .int _ _) rfl)) <|
      ils_cons rfl (iop_call (r := .bool _) rfl rfl (by decide) cl35 (.cons (sv (d := .slice _ _) rfl) (.cons (sv (d := .int _ _) rfl) .nil)) rfl (p_slices_Contains_int_int _ _ _ hx3)) <|
      ils_cons rfl (iop_assign rfl rfl (by decide) (sv (d := .bool _) rfl)) <|
      ils_end ?_)
    refine iwp_cond (b := _) rfl (fun hc4 => ?_) (fun hc4 => ?_)
    ·
      replace h := bif_t h hc4
      refine iwp_reg (ils_cons rfl (iop_assign rfl rfl (by decide) (sv (d := .int _ 2) rfl)) <|
        ils_end ?_)
      refine iwp_ret ?_
      refine blockQ_r ?_
      refine thenQ_r ?_
      obtain rfl := Option.some.inj h
      refine ⟨.inr rfl, (.cons (sv rfl) .nil)⟩
    ·
      replace h := bif_f h hc4
      obtain ⟨x5, hx5, h⟩ := bno_e h
      refine iwp_reg (ils_cons rfl (iop_fieldAddr_ref rfl rfl (by decide) Try.underlying27 rfl ti22 (by decide) (sv (d := .ref _ _) rfl) (off' := 4) rfl) <|
        ils_cons rfl (iop_load_rs (d := .slice _ _) rfl rfl (by decide) Try.underlying22 ag22 ti22 (by decide) (sv (d := .ref _ _) rfl) rfl (nle rfl) rfl) <|
        ils_cons rfl (iop_move rfl rfl (by decide) (sv (d := .int _ _) rfl)) <|
        ils_cons rfl (iop_call (r := .bool _) rfl rfl (by decide) cl35 (.cons (sv (d := .slice _ _) rfl) (.cons (sv (d := .int _ _) rfl) .nil)) rfl (p_slices_Contains_int_int _ _ _ hx5)) <|
        ils_cons rfl (iop_assign rfl rfl (by decide) (sv (d := .bool _) rfl)) <|
        ils_end ?_)
      refine iwp_cond (b := _) rfl (fun hc6 => ?_) (fun hc6 => ?_)
      ·
        replace h := bif_t h hc6
        refine iwp_reg (ils_cons rfl (iop_assign rfl rfl (by decide) (sv (d := .int _ 5) rfl)) <|
          ils_end ?_)
        refine iwp_ret ?_
        refine blockQ_r ?_
        refine thenQ_r ?_
        obtain rfl := Option.some.inj h
        refine ⟨.inr rfl, (.cons (sv rfl) .nil)⟩
      ·
        replace h := bif_f h hc6
        obtain ⟨x7, hx7, h⟩ := bno_e h
        refine iwp_reg (ils_cons rfl (iop_load_ra (cs := [.bool _, .int _ _, .int _ _, .slice _ _, .slice _ _, .int _ _, .int _ _, .int _ _, .int _ _]) rfl rfl (by decide) Try.underlying27 ag27 ti27 (by decide) (sv (d := .ref _ _) rfl) rfl (nle rfl) rfl) <|
          ils_cons rfl (iop_move rfl rfl (by decide) (sv (d := .int _ _) rfl)) <|
          ils_cons rfl (iop_call (r := .bool _) rfl rfl (by decide) cl46 (.cons (sv (d := .agg [.bool _, .int _ _, .int _ _, .slice _ _, .slice _ _, .int _ _, .int _ _, .int _ _, .int _ _]) rfl) (.cons (sv (d := .int _ _) rfl) .nil)) rfl (p_stid_State_began _ _ _ hx7)) <|
          ils_cons rfl (iop_assign rfl rfl (by decide) (sv (d := .bool _) rfl)) <|
          ils_end ?_)
        refine iwp_cond (b := _) rfl (fun hc8 => ?_) (fun hc8 => ?_)
        ·
          replace h := bif_t h hc8
          refine iwp_reg (ils_cons rfl (iop_assign rfl rfl (by decide) (sv (d := .int _ 4) rfl)) <|
            ils_end ?_)
          refine iwp_ret ?_
          refine blockQ_r ?_
          refine thenQ_r ?_
          obtain rfl := Option.some.inj h
          refine ⟨.inr rfl, (.cons (sv rfl) .nil)⟩
        ·
          replace h := bif_f h hc8
          refine iwp_seq ?_
          obtain ⟨x9, hx9, h⟩ := bno_e h
          refine iwp_reg (ils_cons rfl (iop_load_ra (cs := [.bool _, .int _ _, .int _ _, .slice _ _, .slice _ _, .int _ _, .int _ _, .int _ _, .int _ _]) rfl rfl (by decide) Try.underlying27 ag27 ti27 (by decide) (sv (d := .ref _ _) rfl) rfl (nle rfl) rfl) <|
            ils_cons rfl (iop_move rfl rfl (by decide) (sv (d := .int _ _) rfl)) <|
            ils_cons rfl (iop_call (r := .bool _) rfl rfl (by decide) cl24 (.cons (sv (d := .agg [.bool _, .int _ _, .int _ _, .slice _ _, .slice _ _, .int _ _, .int _ _, .int _ _, .int _ _]) rfl) (.cons (sv (d := .int _ _) rfl) .nil)) rfl (p_stid_Own _ _ _ hx9)) <|
            ils_cons rfl (iop_assign rfl rfl (by decide) (sv (d := .bool _) rfl)) <|
            ils_end ?_)
          refine iwp_cond (b := _) rfl (fun hc10 => ?_) (fun hc10 => ?_)
          ·
            replace h := bif_t h hc10
            refine iwp_skip ?_
            refine thenQ_n ?_
            refine iwp_cond_t rfl hc10 ?_
            refine iwp_reg (ils_cons rfl (iop_assign rfl rfl (by decide) (sv (d := .int _ 6) rfl)) <|
              ils_end ?_)
            refine iwp_ret ?_
            refine blockQ_r ?_
            refine thenQ_r ?_
            obtain rfl := Option.some.inj h
            refine ⟨.inr rfl, (.cons (sv rfl) .nil)⟩
          ·
            replace h := bif_f h hc10
            obtain ⟨x11, hx11, h⟩ := bno_e h
            refine iwp_region (ils_cons rfl (iop_move rfl rfl (by decide) (sv (d := .int _ _) rfl)) <|
              ils_cons rfl (iop_call (r := .bool _) rfl rfl (by decide) cl34 (.cons (sv (d := .int _ _) rfl) (.cons (sv (d := .int _ 1) rfl) (.cons (sv (d := .int _ 1048576) rfl) .nil))) rfl (p_stid_in _ _ _ _ hx11)) <|
              ils_cons rfl (iop_not rfl rfl (by decide) (sv (d := .bool _) rfl)) <|
              ils_cons rfl (iop_assign rfl rfl (by decide) (sv (d := .bool _) rfl)) <|
              ils_nil ?_)
            refine thenQ_n ?_
            refine iwp_cond (b := _) rfl (fun hc12 => ?_) (fun hc12 => ?_)
            ·
              replace h := bif_t h hc12
              refine iwp_reg (ils_cons rfl (iop_assign rfl rfl (by decide) (sv (d := .int _ 6) rfl)) <|
                ils_end ?_)
              refine iwp_ret ?_
              refine blockQ_r ?_
              refine thenQ_r ?_
              obtain rfl := Option.some.inj h
              refine ⟨.inr rfl, (.cons (sv rfl) .nil)⟩
            ·
              replace h := bif_f h hc12
              refine iwp_skip ?_
              refine blockQ_n ?_
              refine thenQ_n ?_
              refine iwp_reg (ils_cons rfl (iop_assign rfl rfl (by decide) (sv (d := .int _ 1) rfl)) <|
                ils_end ?_)
              refine iwp_ret ?_
              obtain rfl := Option.some.inj h
              refine ⟨.inr rfl, (.cons (sv rfl) .nil)⟩

set_option maxRecDepth 8000 in
set_option maxHeartbeats 2000000 in
theorem p_stid_End (a0 : T_stid_State) (a1 : Int) (a2 : Bool) (r : T_stid_State) (h : stid_End a0 a1 a2 = some r) : PureAt Try.prog 12 [.agg [.bool a0.Odd, .int .i64 a0.Next, .int .i64 a0.Last, .slice false (a0.Live.map (eInt .i64).d), .slice false (a0.Cut.map (eInt .i64).d), .int .i64 a0.Mine, .int .i64 a0.Hers, .int .i64 a0.Heard, .int .i64 a0.Told], .int .i64 a1, .bool a2] (.agg [.bool r.Odd, .int .i64 r.Next, .int .i64 r.Last, .slice false (r.Live.map (eInt .i64).d), .slice false (r.Cut.map (eInt .i64).d), .int .i64 r.Mine, .int .i64 r.Hers, .int .i64 r.Heard, .int .i64 r.Told]) := by
  refine pure_of_iwpF (rs := [.agg [.bool r.Odd, .int .i64 r.Next, .int .i64 r.Last, .slice false (r.Live.map (eInt .i64).d), .slice false (r.Cut.map (eInt .i64).d), .int .i64 r.Mine, .int .i64 r.Hers, .int .i64 r.Heard, .int .i64 r.Told]]) Try.func12 rfl Try.ntmps12 (nle rfl) rfl fun O hO => ?_
  show IWP _ _ _ _ ⟨[(0, .agg [.bool a0.Odd, .int .i64 a0.Next, .int .i64 a0.Last, .slice false (a0.Live.map (eInt .i64).d), .slice false (a0.Cut.map (eInt .i64).d), .int .i64 a0.Mine, .int .i64 a0.Hers, .int .i64 a0.Heard, .int .i64 a0.Told]), (1, .int .i64 a1), (2, .bool a2)], []⟩ _
  unfold stid_End at h
  refine iwp_reg (ils_cons rfl (iop_box' (cs := [.bool _, .int _ _, .int _ _, .slice _ _, .slice _ _, .int _ _, .int _ _, .int _ _, .int _ _]) 0 rfl rfl (by decide) rfl (sv (d := .agg [.bool _, .int _ _, .int _ _, .slice _ _, .slice _ _, .int _ _, .int _ _, .int _ _, .int _ _]) rfl) rfl rfl) <|
    ils_cons rfl (iop_allocS (cs := [.bool _, .int _ _, .int _ _, .nils, .nils, .int _ _, .int _ _, .int _ _, .int _ _]) (cs' := [.bool false, .int .i64 0, .int .i64 0, .slice false (([] : List Int).map (eInt .i64).d), .slice false (([] : List Int).map (eInt .i64).d), .int .i64 0, .int .i64 0, .int .i64 0, .int .i64 0]) 1 rfl rfl (by decide) rfl ti27 rfl rfl (.cons (.refl _) (.cons (.refl _) (.cons (.refl _) (.cons (.nils _) (.cons (.nils _) (.cons (.refl _) (.cons (.refl _) (.cons (.refl _) (.cons (.refl _) .nil)))))))))) <|
    ils_end ?_)
  obtain ⟨x1, hx1, h⟩ := bno_e h
  refine iwp_reg (ils_cons rfl (iop_load_ra (cs := [.bool _, .int _ _, .int _ _, .slice _ _, .slice _ _, .int _ _, .int _ _, .int _ _, .int _ _]) rfl rfl (by decide) Try.underlying27 ag27 ti27 (by decide) (sv (d := .ref _ _) rfl) rfl (nle rfl) rfl) <|
    ils_cons rfl (iop_callh2 (r' := .agg [.bool x1.1, .int .i64 x1.2.1, .int .i64 x1.2.2.1, .osl 2 (eInt .i64).sz x1.2.2.2.1.length, .osl 3 (eInt .i64).sz x1.2.2.2.2.1.length, .int .i64 x1.2.2.2.2.2.1, .int .i64 x1.2.2.2.2.2.2.1, .int .i64 x1.2.2.2.2.2.2.2.1, .int .i64 x1.2.2.2.2.2.2.2.2]) (H1' := [(2, .blk 3 (D.flat (x1.2.2.2.1.map (eInt .i64).d))), (3, .blk 3 (D.flat (x1.2.2.2.2.1.map (eInt .i64).d)))]) 2 [] rfl rfl (by decide) cl28 (.cons (sv (d := .agg [.bool _, .int _ _, .int _ _, .slice _ _, .slice _ _, .int _ _, .int _ _, .int _ _, .int _ _]) rfl) .nil) rfl rfl ⟨rfl, rfl, by decide, rfl, List.forall_mem_nil _⟩ (p_stid_State_own_h _ _ hx1) rfl rfl (List.forall_mem_cons.2 ⟨⟨rfl, (handLr (eInt .i64))⟩, List.forall_mem_cons.2 ⟨⟨rfl, (handLr (eInt .i64))⟩, List.forall_mem_nil _⟩⟩) (by simp only [List.map_cons, List.map_nil, Ent.ren, renL_flat, renL_ref]; rfl)) <|
    ils_cons rfl (iop_allocS (cs := [.bool _, .int _ _, .int _ _, .nils, .nils, .int _ _, .int _ _, .int _ _, .int _ _]) (cs' := [.bool false, .int .i64 0, .int .i64 0, .slice false (([] : List Int).map (eInt .i64).d), .slice false (([] : List Int).map (eInt .i64).d), .int .i64 0, .int .i64 0, .int .i64 0, .int .i64 0]) 4 rfl rfl (by decide) rfl ti27 rfl rfl (.cons (.refl _) (.cons (.refl _) (.cons (.refl _) (.cons (.nils _) (.cons (.nils _) (.cons (.refl _) (.cons (.refl _) (.cons (.refl _) (.cons (.refl _) .nil)))))))))) <|
    ils_cons rfl (iop_store (ds' := [.bool _, .int _ _, .int _ _, .osl _ _ _, .osl _ _ _, .int _ _, .int _ _, .int _ _, .int _ _]) rfl rfl ti27 (sv (d := .ref _ _) rfl) rfl (sv (d := .agg [.bool _, .int _ _, .int _ _, .osl _ _ _, .osl _ _ _, .int _ _, .int _ _, .int _ _, .int _ _]) rfl) rfl rfl rfl (nle rfl) rfl) <|
    ils_end ?_)
  obtain ⟨x2, hx2, h⟩ := bno_e h
  refine iwp_reg (ils_cons rfl (iop_fieldAddr_ref rfl rfl (by decide) Try.underlying27 rfl ti22 (by decide) (sv (d := .ref _ _) rfl) (off' := 3) rfl) <|
    ils_cons rfl (iop_load_rs (d := .osl _ _ _) rfl rfl (by decide) Try.underlying22 ag22 ti22 (by decide) (sv (d := .ref _ _) rfl) rfl (nle rfl) rfl) <|
    ils_cons rfl (iop_move rfl rfl (by decide) (sv (d := .int _ _) rfl)) <|
    ils_cons rfl (iop_callp (r := .tuple [.int .i64 x2.1, .bool x2.2]) rfl rfl (by decide) cl41 (.cons (sv (d := .osl _ _ _) rfl) (.cons (sv (d := .int _ _) rfl) .nil)) (.cons (FDT (eInt .i64) rfl rfl) (.cons (.refl _) .nil)) rfl rfl (p_slices_BinarySearch_int_int _ _ _ hx2)) <|
    ils_cons rfl (iop_move rfl rfl (by decide) (sv (d := .tuple [.int _ _, .bool _]) rfl)) <|
    ils_cons rfl (iop_extract (d := .int _ _) rfl rfl (by decide) (sv (d := .tuple [.int _ _, .bool _]) rfl) rfl) <|
    ils_cons rfl (iop_extract (d := .bool _) rfl rfl (by decide) (sv (d := .tuple [.int _ _, .bool _]) rfl) rfl) <|
    ils_cons rfl (iop_assign rfl rfl (by decide) (sv (d := .int _ _) rfl)) <|
    ils_cons rfl (iop_assign rfl rfl (by decide) (sv (d := .bool _) rfl)) <|
    ils_end ?_)
  refine iwp_seq ?_
  obtain ⟨x3, hx3, h⟩ := bno_e h
  obtain ⟨x4, hx4, h⟩ := bnd_e h
  obtain ⟨x5, hx5, h⟩ := bnd_e h
  refine iwp_reg (ils_cons rfl (iop_load_ra (cs := [.bool _, .int _ _, .int _ _, .slice _ _, .slice _ _, .int _ _, .int _ _, .int _ _, .int _ _]) rfl rfl (by decide) Try.underlying27 ag27 ti27 (by decide) (sv (d := .ref _ _) rfl) rfl (nle rfl) rfl) <|
    ils_cons rfl (iop_call (r := .int _ _) rfl rfl (by decide) cl26 (.cons (sv (d := .agg [.bool _, .int _ _, .int _ _, .slice _ _, .slice _ _, .int _ _, .int _ _, .int _ _, .int _ _]) rfl) .nil) rfl (p_stid_Check _ _ hx3)) <|
    ils_cons rfl (iop_cmpx rfl rfl (by decide) (sv (d := .int _ _) rfl) (sv (d := .int _ 0) rfl) rfl hx4) <|
    ils_cons rfl (iop_move rfl rfl (by decide) (sv (d := .bool _) rfl)) <|
    ils_guard rfl rfl (.one rfl) rfl (by decide) (fun hb => (iop_move rfl rfl (by decide) (sv (d := .bool _) rfl))) <|
    ils_guard rfl rfl (.one rfl) rfl (by decide) (fun hb => (iop_not rfl rfl (by decide) (svc (d := .bool _) rfl hb))) <|
    ils_cons rfl (iop_orx rfl rfl (by decide) (sv (d := .bool _) rfl) rfl rfl hx5) <|
    ils_end ?_)
  refine iwp_cond (b := _) rfl (fun hc6 => ?_) (fun hc6 => ?_)
  ·
    replace h := bif_t h hc6
    refine iwp_reg (ils_cons rfl (iop_load_ra (cs := [.bool _, .int _ _, .int _ _, .osl _ _ _, .osl _ _ _, .int _ _, .int _ _, .int _ _, .int _ _]) rfl rfl (by decide) Try.underlying27 ag27 ti27 (by decide) (sv (d := .ref _ _) rfl) rfl (nle rfl) rfl) <|
      ils_cons rfl (iop_store (ds' := [.bool _, .int _ _, .int _ _, .osl _ _ _, .osl _ _ _, .int _ _, .int _ _, .int _ _, .int _ _]) rfl rfl ti27 (sv (d := .ref _ _) rfl) rfl (sv (d := .agg [.bool _, .int _ _, .int _ _, .osl _ _ _, .osl _ _ _, .int _ _, .int _ _, .int _ _, .int _ _]) rfl) rfl rfl rfl (nle rfl) rfl) <|
      ils_end ?_)
    refine iwp_ret ?_
    refine thenQ_r ?_
    obtain rfl := Option.some.inj h
    refine ⟨.inr rfl, _, (.cons (resv_a rfl rfl Try.underlying27 ag27 ti27 (by decide) (nle rfl) rfl) .nil), (.cons (.agg (.cons (.refl _) (.cons (.refl _) (.cons (.refl _) (.cons (FDT (eInt .i64) rfl rfl) (.cons (FDT (eInt .i64) rfl rfl) (.cons (.refl _) (.cons (.refl _) (.cons (.refl _) (.cons (.refl _) .nil)))))))))) .nil)⟩
  ·
    replace h := bif_f h hc6
    refine iwp_skip ?_
    refine thenQ_n ?_
    obtain ⟨x7, hx7, h⟩ := bnd_e h
    obtain ⟨x8, hx8, h⟩ := bno_e h
    refine iwp_reg (ils_cons rfl (iop_fieldAddr_ref rfl rfl (by decide) Try.underlying27 rfl ti22 (by decide) (sv (d := .ref _ _) rfl) (off' := 3) rfl) <|
      ils_cons rfl (iop_load_rs (d := .osl _ _ _) rfl rfl (by decide) Try.underlying22 ag22 ti22 (by decide) (sv (d := .ref _ _) rfl) rfl (nle rfl) rfl) <|
      ils_cons rfl (iop_move rfl rfl (by decide) (sv (d := .int _ _) rfl)) <|
      ils_cons rfl (iop_move rfl rfl (by decide) (sv (d := .int _ _) rfl)) <|
      ils_cons rfl (iop_intx rfl rfl (by decide) (sv (d := .int _ _) rfl) (sv (d := .int _ 1) rfl) rfl hx7) <|
      ils_cons rfl (iop_callh2 (r' := .osl 5 (eInt .i64).sz x8.length) (H1' := [(5, .blk 3 (D.flat (x8.map (eInt .i64).d)))]) 5 [2] rfl rfl (by decide) cl42 (.cons (sv (d := .osl _ _ _) rfl) (.cons (sv (d := .int _ _) rfl) (.cons (sv (d := .int _ _) rfl) .nil))) rfl rfl ⟨rfl, rfl, by decide, rfl, List.forall_mem_cons.2 ⟨⟨rfl, rfl, (handL (eInt .i64) rfl), (handLr (eInt .i64))⟩, List.forall_mem_nil _⟩⟩ (p_slices_Delete_int_int_h _ _ _ _ hx8) rfl rfl (List.forall_mem_cons.2 ⟨⟨rfl, (handLr (eInt .i64))⟩, List.forall_mem_nil _⟩) (by simp only [List.map_cons, List.map_nil, Ent.ren, renL_flat, renL_ref]; rfl)) <|
      ils_cons rfl (iop_fieldAddr_ref rfl rfl (by decide) Try.underlying27 rfl ti22 (by decide) (sv (d := .ref _ _) rfl) (off' := 3) rfl) <|
      ils_cons rfl (iop_store (ds' := [.bool _, .int _ _, .int _ _, .osl _ _ _, .osl _ _ _, .int _ _, .int _ _, .int _ _, .int _ _]) rfl rfl ti22 (sv (d := .ref _ _) rfl) rfl (sv (d := .osl _ _ _) rfl) rfl rfl rfl (nle rfl) rfl) <|
      ils_end ?_)
    refine iwp_seq ?_
    refine iwp_reg (ils_cons rfl (iop_move rfl rfl (by decide) (sv (d := .bool _) rfl)) <|
      ils_end ?_)
    refine iwp_cond (b := _) rfl (fun hc9 => ?_) (fun hc9 => ?_)
    ·
      replace h := bif_t h hc9
      obtain ⟨x10, hx10, h⟩ := bno_e h
      refine iwp_reg (ils_cons rfl (iop_load_ra (cs := [.bool _, .int _ _, .int _ _, .osl _ _ _, .osl _ _ _, .int _ _, .int _ _, .int _ _, .int _ _]) rfl rfl (by decide) Try.underlying27 ag27 ti27 (by decide) (sv (d := .ref _ _) rfl) rfl (nle rfl) rfl) <|
        ils_cons rfl (iop_move rfl rfl (by decide) (sv (d := .int _ _) rfl)) <|
        ils_cons rfl (iop_callh2 (r' := .agg [.bool x10.1, .int .i64 x10.2.1, .int .i64 x10.2.2.1, .osl 6 (eInt .i64).sz x10.2.2.2.1.length, .osl 7 (eInt .i64).sz x10.2.2.2.2.1.length, .int .i64 x10.2.2.2.2.2.1, .int .i64 x10.2.2.2.2.2.2.1, .int .i64 x10.2.2.2.2.2.2.2.1, .int .i64 x10.2.2.2.2.2.2.2.2]) (H1' := [(6, .blk 3 (D.flat (x10.2.2.2.1.map (eInt .i64).d))), (7, .blk 3 (D.flat (x10.2.2.2.2.1.map (eInt .i64).d)))]) 6 [5, 3] rfl rfl (by decide) cl36 (.cons (sv (d := .agg [.bool _, .int _ _, .int _ _, .osl _ _ _, .osl _ _ _, .int _ _, .int _ _, .int _ _, .int _ _]) rfl) (.cons (sv (d := .int _ _) rfl) .nil)) rfl rfl ⟨rfl, rfl, by decide, rfl, List.forall_mem_cons.2 ⟨⟨rfl, rfl, (handL (eInt .i64) rfl), (handLr (eInt .i64))⟩, List.forall_mem_cons.2 ⟨⟨rfl, rfl, (handL (eInt .i64) rfl), (handLr (eInt .i64))⟩, List.forall_mem_nil _⟩⟩⟩ (p_stid_State_slain_h _ _ _ _ _ _ _ _ _ _ _ hx10) rfl rfl (List.forall_mem_cons.2 ⟨⟨rfl, (handLr (eInt .i64))⟩, List.forall_mem_cons.2 ⟨⟨rfl, (handLr (eInt .i64))⟩, List.forall_mem_nil _⟩⟩) (by simp only [List.map_cons, List.map_nil, Ent.ren, renL_flat, renL_ref]; rfl)) <|
        ils_cons rfl (iop_store (ds' := [.bool _, .int _ _, .int _ _, .osl _ _ _, .osl _ _ _, .int _ _, .int _ _, .int _ _, .int _ _]) rfl rfl ti27 (sv (d := .ref _ _) rfl) rfl (sv (d := .agg [.bool _, .int _ _, .int _ _, .osl _ _ _, .osl _ _ _, .int _ _, .int _ _, .int _ _, .int _ _]) rfl) rfl rfl rfl (nle rfl) rfl) <|
        ils_end ?_)
      refine iwp_ret ?_
      refine thenQ_r ?_
      obtain rfl := Option.some.inj h
      refine ⟨.inr rfl, _, (.cons (resv_a rfl rfl Try.underlying27 ag27 ti27 (by decide) (nle rfl) rfl) .nil), (.cons (.agg (.cons (.refl _) (.cons (.refl _) (.cons (.refl _) (.cons (FDT (eInt .i64) rfl rfl) (.cons (FDT (eInt .i64) rfl rfl) (.cons (.refl _) (.cons (.refl _) (.cons (.refl _) (.cons (.refl _) .nil)))))))))) .nil)⟩
    ·
      replace h := bif_f h hc9
      refine iwp_skip ?_
      refine thenQ_n ?_
      refine iwp_reg (ils_cons rfl (iop_load_ra (cs := [.bool _, .int _ _, .int _ _, .osl _ _ _, .osl _ _ _, .int _ _, .int _ _, .int _ _, .int _ _]) rfl rfl (by decide) Try.underlying27 ag27 ti27 (by decide) (sv (d := .ref _ _) rfl) rfl (nle rfl) rfl) <|
        ils_cons rfl (iop_store (ds' := [.bool _, .int _ _, .int _ _, .osl _ _ _, .osl _ _ _, .int _ _, .int _ _, .int _ _, .int _ _]) rfl rfl ti27 (sv (d := .ref _ _) rfl) rfl (sv (d := .agg [.bool _, .int _ _, .int _ _, .osl _ _ _, .osl _ _ _, .int _ _, .int _ _, .int _ _, .int _ _]) rfl) rfl rfl rfl (nle rfl) rfl) <|
        ils_end ?_)
      refine iwp_ret ?_
      obtain rfl := Option.some.inj h
      refine ⟨.inr rfl, _, (.cons (resv_a rfl rfl Try.underlying27 ag27 ti27 (by decide) (nle rfl) rfl) .nil), (.cons (.agg (.cons (.refl _) (.cons (.refl _) (.cons (.refl _) (.cons (FDT (eInt .i64) rfl rfl) (.cons (FDT (eInt .i64) rfl rfl) (.cons (.refl _) (.cons (.refl _) (.cons (.refl _) (.cons (.refl _) .nil)))))))))) .nil)⟩

set_option maxRecDepth 8000 in
set_option maxHeartbeats 2000000 in
theorem p_slices_Equal_int_int (a0 : (List Int)) (a1 : (List Int)) (r : Bool) (h : slices_Equal_int_int a0 a1 = some r) : PureAt Try.prog 50 [.slice false (a0.map (eInt .i64).d), .slice false (a1.map (eInt .i64).d)] (.bool r) := by
  refine pure_of_iwp (rs := [.bool r]) Try.func50 rfl Try.ntmps50 (nle rfl) rfl fun O hO => ?_
  show IWP _ _ _ _ ⟨[(0, .slice false (a0.map (eInt .i64).d)), (1, .slice false (a1.map (eInt .i64).d))], []⟩ _
  unfold slices_Equal_int_int at h
  refine iwp_reg (ils_cons rfl (iop_assign rfl rfl (by decide) (sv (d := .bool false) rfl)) <|
    ils_end ?_)
  refine iwp_seq ?_
  obtain ⟨x1, hx1, h⟩ := bnd_e h
  refine iwp_reg (ils_cons rfl (iop_move rfl rfl (by decide) (sv (d := .slice _ _) rfl)) <|
    ils_cons rfl (iop_lenT (eInt .i64) (l := a0) rfl rfl (by decide) Try.underlying22 (sv (d := .slice _ _) rfl)) <|
    ils_cons rfl (iop_move rfl rfl (by decide) (sv (d := .slice _ _) rfl)) <|
    ils_cons rfl (iop_lenT (eInt .i64) (l := a1) rfl rfl (by decide) Try.underlying22 (sv (d := .slice _ _) rfl)) <|
    ils_cons rfl (iop_cmpx rfl rfl (by decide) (sv (d := .int _ _) rfl) (sv (d := .int _ _) rfl) rfl hx1) <|
    ils_end ?_)
  refine iwp_cond (b := _) rfl (fun hc2 => ?_) (fun hc2 => ?_)
  ·
    replace h := bif_t h hc2
    refine iwp_reg (ils_cons rfl (iop_assign rfl rfl (by decide) (sv (d := .bool false) rfl)) <|
      ils_end ?_)
    refine iwp_ret ?_
    refine thenQ_r ?_
    obtain rfl := Option.some.inj h
    refine ⟨.inr rfl, (.cons (sv rfl) .nil)⟩
  ·
    replace h := bif_f h hc2
    refine iwp_skip ?_
    refine thenQ_n ?_
    refine iwp_seq ?_
    refine iwp_reg (ils_cons rfl (iop_move rfl rfl (by decide) (sv (d := .slice _ _) rfl)) <|
      ils_cons rfl (iop_lenT (eInt .i64) (l := a0) rfl rfl (by decide) Try.underlying22 (sv (d := .slice _ _) rfl)) <|
      ils_cons rfl (iop_move rfl rfl (by decide) (sv (d := .int _ 0) rfl)) <|
      ils_end ?_)
    refine iwp_block ?_
    refine iwp_loopP (α := Nat × Int) (fun z => ⟨[(0, .slice false (a0.map (eInt .i64).d)), (1, .slice false (a1.map (eInt .i64).d)), (12, .int .i64 (a0.length : Int)), (13, .int .i64 z.2)], []⟩) (fun z => slices_Equal_int_int_L0 a0 a1 z.1 z.2 = some r) (fun z => z.1) (fuel, 0) (fun i => i) ⟨(.cons (.same rfl rfl) (.cons (.same rfl rfl) (.cons (.same rfl rfl) (.cons (.same rfl rfl) .nil)))), .nil, nd_of [] rfl (by decide), (fun i hi => by first | rfl | (show (if _ then _ else _) = _; (repeat' split) <;> omega))⟩ ?_ ?_
    · exact h
    ·
      rintro ⟨n0, v10⟩ h
      cases n0 with
      | zero => exact absurd h (by unfold slices_Equal_int_int_L0; exact nofun)
      | succ n0 =>
        unfold slices_Equal_int_int_L0 at h
        obtain ⟨x18, hx18, h⟩ := bnd_e h
        refine iwp_reg (ils_cons rfl (iop_cmpx rfl rfl (by decide) (sv (d := .int _ _) rfl) (sv (d := .int _ _) rfl) rfl hx18) <|
          ils_end ?_)
        refine iwp_seq ?_
        refine iwp_cond (b := _) rfl (fun hc19 => ?_) (fun hc19 => ?_)
        ·
          replace h := bif_t h hc19
          refine iwp_skip ?_
          refine thenQ_n ?_
          refine iwp_seq ?_
          refine iwp_block ?_
          refine iwp_reg (ils_cons rfl (iop_move rfl rfl (by decide) (sv (d := .int _ _) rfl)) <|
            ils_cons rfl (iop_assign rfl rfl (by decide) (sv (d := .int _ _) rfl)) <|
            ils_end ?_)
          obtain ⟨x20, hx20, h⟩ := bno_e h
          obtain ⟨x21, hx21, h⟩ := bno_e h
          obtain ⟨x22, hx22, h⟩ := bnd_e h
          refine iwp_drw rfl [⟨[0], [], [(16, .slice false (a0.map (eInt .i64).d))], []⟩,
            ⟨[5], [], [(17, .int .i64 v10)], []⟩,
            ⟨[16, 17], [], [(18, .fptr [.int .i64 x20])], []⟩,
            ⟨[18], [], [(19, .int .i64 x20)], []⟩,
            ⟨[1], [], [(20, .slice false (a1.map (eInt .i64).d))], []⟩,
            ⟨[5], [], [(21, .int .i64 v10)], []⟩,
            ⟨[20, 21], [], [(22, .fptr [.int .i64 x21])], []⟩,
            ⟨[22], [], [(23, .int .i64 x21)], []⟩,
            ⟨[19, 23], [], [(24, .bool x22)], []⟩] rfl ?_ (by kernel_rfl) ?_
          · refine .cons (lop rfl rfl fun S hA => (iop_move rfl rfl (by decide) (sv (d := .slice _ _) (agr hA rfl rfl)))) ?_
            refine .cons (lop rfl rfl fun S hA => (iop_move rfl rfl (by decide) (sv (d := .int _ _) (agr hA rfl rfl)))) ?_
            refine .cons (lop rfl rfl fun S hA => (iop_idxT (eInt .i64) (cs := [.int _ _]) rfl rfl (by decide) Try.underlying22 ti3 (sv (d := .slice _ _) (agr hA rfl rfl)) (sv (d := .int _ _) (agr hA rfl rfl)) hx20 rfl rfl)) ?_
            refine .cons (lop rfl rfl fun S hA => (iop_load_fs rfl rfl (by decide) Try.underlying3 ag3 ti3 (by decide) (sv (d := .fptr [.int _ _]) (agr hA rfl rfl)) (nle rfl))) ?_
            refine .cons (lop rfl rfl fun S hA => (iop_move rfl rfl (by decide) (sv (d := .slice _ _) (agr hA rfl rfl)))) ?_
            refine .cons (lop rfl rfl fun S hA => (iop_move rfl rfl (by decide) (sv (d := .int _ _) (agr hA rfl rfl)))) ?_
            refine .cons (lop rfl rfl fun S hA => (iop_idxT (eInt .i64) (cs := [.int _ _]) rfl rfl (by decide) Try.underlying22 ti3 (sv (d := .slice _ _) (agr hA rfl rfl)) (sv (d := .int _ _) (agr hA rfl rfl)) hx21 rfl rfl)) ?_
            refine .cons (lop rfl rfl fun S hA => (iop_load_fs rfl rfl (by decide) Try.underlying3 ag3 ti3 (by decide) (sv (d := .fptr [.int _ _]) (agr hA rfl rfl)) (nle rfl))) ?_
            refine .cons (lop rfl rfl fun S hA => (iop_cmpx rfl rfl (by decide) (sv (d := .int _ _) (agr hA rfl rfl)) (sv (d := .int _ _) (agr hA rfl rfl)) rfl hx22)) ?_
            exact .nil
          refine iwp_cond (b := _) rfl (fun hc23 => ?_) (fun hc23 => ?_)
          ·
            replace h := bif_t h hc23
            refine iwp_reg (ils_cons rfl (iop_assign rfl rfl (by decide) (sv (d := .bool false) rfl)) <|
              ils_end ?_)
            refine iwp_ret ?_
            refine blockQ_r ?_
            refine thenQ_r ?_
            refine thenQ_r ?_
            refine blockQ_r ?_
            refine thenQ_r ?_
            obtain rfl := Option.some.inj h
            refine ⟨.inr rfl, (.cons (sv rfl) .nil)⟩
          ·
            replace h := bif_f h hc23
            refine iwp_skip ?_
            refine blockQ_n ?_
            refine thenQ_n ?_
            obtain ⟨x24, hx24, h⟩ := bnd_e h
            refine iwp_region (ils_cons rfl (iop_intx rfl rfl (by decide) (sv (d := .int _ _) rfl) (sv (d := .int _ 1) rfl) rfl hx24) <|
              ils_cons rfl (iop_move rfl rfl (by decide) (sv (d := .int _ _) rfl)) <|
              ils_nil ?_)
            refine thenQ_n ⟨(n0, x24), (fun i => i), ⟨(.cons (.same rfl rfl) (.cons (.same rfl rfl) (.cons (.same rfl rfl) (.cons (.same rfl rfl) .nil)))), .nil, nd_of [] rfl (by decide), (fun i hi => by first | rfl | (show (if _ then _ else _) = _; (repeat' split) <;> omega))⟩, ?_, ?_⟩
            exact h
            exact Nat.lt_succ_self _
        ·
          replace h := bif_f h hc19
          refine iwp_exit ?_
          refine thenQ_e ?_
          refine thenQ_e ?_
          refine blockQ_e ?_
          refine thenQ_n ?_
          refine iwp_reg (ils_cons rfl (iop_assign rfl rfl (by decide) (sv (d := .bool true) rfl)) <|
            ils_end ?_)
          refine iwp_ret ?_
          obtain rfl := Option.some.inj h
          refine ⟨.inr rfl, (.cons (sv rfl) .nil)⟩

set_option maxRecDepth 8000 in
set_option maxHeartbeats 2000000 in
theorem p_stid_Same (a0 : T_stid_State) (a1 : T_stid_State) (r : Bool) (h : stid_Same a0 a1 = some r) : PureAt Try.prog 27 [.agg [.bool a0.Odd, .int .i64 a0.Next, .int .i64 a0.Last, .slice false (a0.Live.map (eInt .i64).d), .slice false (a0.Cut.map (eInt .i64).d), .int .i64 a0.Mine, .int .i64 a0.Hers, .int .i64 a0.Heard, .int .i64 a0.Told], .agg [.bool a1.Odd, .int .i64 a1.Next, .int .i64 a1.Last, .slice false (a1.Live.map (eInt .i64).d), .slice false (a1.Cut.map (eInt .i64).d), .int .i64 a1.Mine, .int .i64 a1.Hers, .int .i64 a1.Heard, .int .i64 a1.Told]] (.bool r) := by
  refine pure_of_iwp (rs := [.bool r]) Try.func27 rfl Try.ntmps27 (nle rfl) rfl fun O hO => ?_
  show IWP _ _ _ _ ⟨[(0, .agg [.bool a0.Odd, .int .i64 a0.Next, .int .i64 a0.Last, .slice false (a0.Live.map (eInt .i64).d), .slice false (a0.Cut.map (eInt .i64).d), .int .i64 a0.Mine, .int .i64 a0.Hers, .int .i64 a0.Heard, .int .i64 a0.Told]), (1, .agg [.bool a1.Odd, .int .i64 a1.Next, .int .i64 a1.Last, .slice false (a1.Live.map (eInt .i64).d), .slice false (a1.Cut.map (eInt .i64).d), .int .i64 a1.Mine, .int .i64 a1.Hers, .int .i64 a1.Heard, .int .i64 a1.Told])], []⟩ _
  unfold stid_Same at h
  refine iwp_reg (ils_cons rfl (iop_box' (cs := [.bool _, .int _ _, .int _ _, .slice _ _, .slice _ _, .int _ _, .int _ _, .int _ _, .int _ _]) 0 rfl rfl (by decide) rfl (sv (d := .agg [.bool _, .int _ _, .int _ _, .slice _ _, .slice _ _, .int _ _, .int _ _, .int _ _, .int _ _]) rfl) rfl rfl) <|
    ils_cons rfl (iop_box' (cs := [.bool _, .int _ _, .int _ _, .slice _ _, .slice _ _, .int _ _, .int _ _, .int _ _, .int _ _]) 1 rfl rfl (by decide) rfl (sv (d := .agg [.bool _, .int _ _, .int _ _, .slice _ _, .slice _ _, .int _ _, .int _ _, .int _ _, .int _ _]) rfl) rfl rfl) <|
    ils_cons rfl (iop_assign rfl rfl (by decide) (sv (d := .bool false) rfl)) <|
    ils_end ?_)
  refine iwp_seq ?_
  obtain ⟨x1, hx1, h⟩ := bno_e h
  obtain ⟨x2, hx2, h⟩ := bno_e h
  obtain ⟨x3, hx3, h⟩ := bnd_e h
  refine iwp_reg (ils_cons rfl (iop_fieldAddr_ref rfl rfl (by decide) Try.underlying27 rfl ti22 (by decide) (sv (d := .ref _ _) rfl) (off' := 3) rfl) <|
    ils_cons rfl (iop_load_rs (d := .slice _ _) rfl rfl (by decide) Try.underlying22 ag22 ti22 (by decide) (sv (d := .ref _ _) rfl) rfl (nle rfl) rfl) <|
    ils_cons rfl (iop_fieldAddr_ref rfl rfl (by decide) Try.underlying27 rfl ti22 (by decide) (sv (d := .ref _ _) rfl) (off' := 3) rfl) <|
    ils_cons rfl (iop_load_rs (d := .slice _ _) rfl rfl (by decide) Try.underlying22 ag22 ti22 (by decide) (sv (d := .ref _ _) rfl) rfl (nle rfl) rfl) <|
    ils_cons rfl (iop_call (r := .bool _) rfl rfl (by decide) cl50 (.cons (sv (d := .slice _ _) rfl) (.cons (sv (d := .slice _ _) rfl) .nil)) rfl (p_slices_Equal_int_int _ _ _ hx1)) <|
    ils_cons rfl (iop_not rfl rfl (by decide) (sv (d := .bool _) rfl)) <|
    ils_cons rfl (iop_move rfl rfl (by decide) (sv (d := .bool _) rfl)) <|
    ils_guard rfl rfl (.one rfl) rfl (by decide) (fun hb => (iop_fieldAddr_ref rfl rfl (by decide) Try.underlying27 rfl ti22 (by decide) (sv (d := .ref _ _) rfl) (off' := 4) rfl)) <|
    ils_guard rfl rfl (.one rfl) rfl (by decide) (fun hb => (iop_load_rs (d := .slice _ _) rfl rfl (by decide) Try.underlying22 ag22 ti22 (by decide) (svc (d := .ref _ _) rfl hb) rfl (nle rfl) rfl)) <|
    ils_guard rfl rfl (.one rfl) rfl (by decide) (fun hb => (iop_fieldAddr_ref rfl rfl (by decide) Try.underlying27 rfl ti22 (by decide) (sv (d := .ref _ _) rfl) (off' := 4) rfl)) <|
    ils_guard rfl rfl (.one rfl) rfl (by decide) (fun hb => (iop_load_rs (d := .slice _ _) rfl rfl (by decide) Try.underlying22 ag22 ti22 (by decide) (svc (d := .ref _ _) rfl hb) rfl (nle rfl) rfl)) <|
    ils_guard rfl rfl (.one rfl) rfl (by decide) (fun hb => (iop_call (r := .bool _) rfl rfl (by decide) cl50 (.cons (svc (d := .slice _ _) rfl hb) (.cons (svc (d := .slice _ _) rfl hb) .nil)) rfl (p_slices_Equal_int_int _ _ _ (gd_t hx2 hb)))) <|
    ils_guard rfl rfl (.one rfl) rfl (by decide) (fun hb => (iop_not rfl rfl (by decide) (svc (d := .bool _) rfl hb))) <|
    ils_cons rfl (iop_orx rfl rfl (by decide) (sv (d := .bool _) rfl) rfl rfl hx3) <|
    ils_end ?_)
  refine iwp_cond (b := _) rfl (fun hc4 => ?_) (fun hc4 => ?_)
  ·
    replace h := bif_t h hc4
    refine iwp_reg (ils_cons rfl (iop_assign rfl rfl (by decide) (sv (d := .bool false) rfl)) <|
      ils_end ?_)
    refine iwp_ret ?_
    refine thenQ_r ?_
    obtain rfl := Option.some.inj h
    refine ⟨.inr rfl, (.cons (sv rfl) .nil)⟩
  ·
    replace h := bif_f h hc4
    refine iwp_skip ?_
    refine thenQ_n ?_
    obtain ⟨x5, hx5, h⟩ := bnd_e h
    obtain ⟨x6, hx6, h⟩ := bnd_e h
    obtain ⟨x7, hx7, h⟩ := bnd_e h
    obtain ⟨x8, hx8, h⟩ := bnd_e h
    obtain ⟨x9, hx9, h⟩ := bnd_e h
    obtain ⟨x10, hx10, h⟩ := bnd_e h
    obtain ⟨x11, hx11, h⟩ := bnd_e h
    refine iwp_reg (ils_cons rfl (iop_fieldAddr_ref rfl rfl (by decide) Try.underlying27 rfl ti3 (by decide) (sv (d := .ref _ _) rfl) (off' := 1) rfl) <|
      ils_cons rfl (iop_load_rs (d := .int _ _) rfl rfl (by decide) Try.underlying3 ag3 ti3 (by decide) (sv (d := .ref _ _) rfl) rfl (nle rfl) rfl) <|
      ils_cons rfl (iop_fieldAddr_ref rfl rfl (by decide) Try.underlying27 rfl ti3 (by decide) (sv (d := .ref _ _) rfl) (off' := 1) rfl) <|
      ils_cons rfl (iop_load_rs (d := .int _ _) rfl rfl (by decide) Try.underlying3 ag3 ti3 (by decide) (sv (d := .ref _ _) rfl) rfl (nle rfl) rfl) <|
      ils_cons rfl (iop_cmpx rfl rfl (by decide) (sv (d := .int _ _) rfl) (sv (d := .int _ _) rfl) rfl hx5) <|
      ils_cons rfl (iop_move rfl rfl (by decide) (sv (d := .bool _) rfl)) <|
      ils_guard rfl rfl (.one rfl) rfl (by decide) (fun hb => (iop_fieldAddr_ref rfl rfl (by decide) Try.underlying27 rfl ti3 (by decide) (sv (d := .ref _ _) rfl) (off' := 2) rfl)) <|
      ils_guard rfl rfl (.one rfl) rfl (by decide) (fun hb => (iop_load_rs (d := .int _ _) rfl rfl (by decide) Try.underlying3 ag3 ti3 (by decide) (svc (d := .ref _ _) rfl hb) rfl (nle rfl) rfl)) <|
      ils_guard rfl rfl (.one rfl) rfl (by decide) (fun hb => (iop_fieldAddr_ref rfl rfl (by decide) Try.underlying27 rfl ti3 (by decide) (sv (d := .ref _ _) rfl) (off' := 2) rfl)) <|
      ils_guard rfl rfl (.one rfl) rfl (by decide) (fun hb => (iop_load_rs (d := .int _ _) rfl rfl (by decide) Try.underlying3 ag3 ti3 (by decide) (svc (d := .ref _ _) rfl hb) rfl (nle rfl) rfl)) <|
      ils_guard rfl rfl (.one rfl) rfl (by decide) (fun hb => (iop_cmpx rfl rfl (by decide) (svc (d := .int _ _) rfl hb) (svc (d := .int _ _) rfl hb) rfl hx6)) <|
      ils_cons rfl (iop_andx rfl rfl (by decide) (sv (d := .bool _) rfl) rfl rfl hx7) <|
      ils_cons rfl (iop_move rfl rfl (by decide) (sv (d := .bool _) rfl)) <|
      ils_guard rfl rfl (.one rfl) rfl (by decide) (fun hb => (iop_fieldAddr_ref rfl rfl (by decide) Try.underlying27 rfl ti3 (by decide) (sv (d := .ref _ _) rfl) (off' := 7) rfl)) <|
      ils_guard rfl rfl (.one rfl) rfl (by decide) (fun hb => (iop_load_rs (d := .int _ _) rfl rfl (by decide) Try.underlying3 ag3 ti3 (by decide) (svc (d := .ref _ _) rfl hb) rfl (nle rfl) rfl)) <|
      ils_guard rfl rfl (.one rfl) rfl (by decide) (fun hb => (iop_fieldAddr_ref rfl rfl (by decide) Try.underlying27 rfl ti3 (by decide) (sv (d := .ref _ _) rfl) (off' := 7) rfl)) <|
      ils_guard rfl rfl (.one rfl) rfl (by decide) (fun hb => (iop_load_rs (d := .int _ _) rfl rfl (by decide) Try.underlying3 ag3 ti3 (by decide) (svc (d := .ref _ _) rfl hb) rfl (nle rfl) rfl)) <|
      ils_guard rfl rfl (.one rfl) rfl (by decide) (fun hb => (iop_cmpx rfl rfl (by decide) (svc (d := .int _ _) rfl hb) (svc (d := .int _ _) rfl hb) rfl hx8)) <|
      ils_cons rfl (iop_andx rfl rfl (by decide) (sv (d := .bool _) rfl) rfl rfl hx9) <|
      ils_cons rfl (iop_move rfl rfl (by decide) (sv (d := .bool _) rfl)) <|
      ils_guard rfl rfl (.one rfl) rfl (by decide) (fun hb => (iop_fieldAddr_ref rfl rfl (by decide) Try.underlying27 rfl ti3 (by decide) (sv (d := .ref _ _) rfl) (off' := 8) rfl)) <|
      ils_guard rfl rfl (.one rfl) rfl (by decide) (fun hb => (iop_load_rs (d := .int _ _) rfl rfl (by decide) Try.underlying3 ag3 ti3 (by decide) (svc (d := .ref _ _) rfl hb) rfl (nle rfl) rfl)) <|
      ils_guard rfl rfl (.one rfl) rfl (by decide) (fun hb => (iop_fieldAddr_ref rfl rfl (by decide) Try.underlying27 rfl ti3 (by decide) (sv (d := .ref _ _) rfl) (off' := 8) rfl)) <|
      ils_guard rfl rfl (.one rfl) rfl (by decide) (fun hb => (iop_load_rs (d := .int _ _) rfl rfl (by decide) Try.underlying3 ag3 ti3 (by decide) (svc (d := .ref _ _) rfl hb) rfl (nle rfl) rfl)) <|
      ils_guard rfl rfl (.one rfl) rfl (by decide) (fun hb => (iop_cmpx rfl rfl (by decide) (svc (d := .int _ _) rfl hb) (svc (d := .int _ _) rfl hb) rfl hx10)) <|
      ils_cons rfl (iop_andx rfl rfl (by decide) (sv (d := .bool _) rfl) rfl rfl hx11) <|
      ils_cons rfl (iop_assign rfl rfl (by decide) (sv (d := .bool _) rfl)) <|
      ils_end ?_)
    obtain ⟨x12, hx12, h⟩ := bnd_e h
    obtain ⟨x13, hx13, h⟩ := bnd_e h
    obtain ⟨x14, hx14, h⟩ := bnd_e h
    obtain ⟨x15, hx15, h⟩ := bnd_e h
    obtain ⟨x16, hx16, h⟩ := bnd_e h
    obtain ⟨x17, hx17, h⟩ := bnd_e h
    refine iwp_reg (ils_cons rfl (iop_move rfl rfl (by decide) (sv (d := .bool _) rfl)) <|
      ils_cons rfl (iop_move rfl rfl (by decide) (sv (d := .bool _) rfl)) <|
      ils_guard rfl rfl (.one rfl) rfl (by decide) (fun hb => (iop_fieldAddr_ref rfl rfl (by decide) Try.underlying27 rfl ti4 (by decide) (sv (d := .ref _ _) rfl) (off' := 0) rfl)) <|
      ils_guard rfl rfl (.one rfl) rfl (by decide) (fun hb => (iop_load_rs (d := .bool _) rfl rfl (by decide) Try.underlying4 ag4 ti4 (by decide) (svc (d := .ref _ _) rfl hb) rfl (nle rfl) rfl)) <|
      ils_guard rfl rfl (.one rfl) rfl (by decide) (fun hb => (iop_fieldAddr_ref rfl rfl (by decide) Try.underlying27 rfl ti4 (by decide) (sv (d := .ref _ _) rfl) (off' := 0) rfl)) <|
      ils_guard rfl rfl (.one rfl) rfl (by decide) (fun hb => (iop_load_rs (d := .bool _) rfl rfl (by decide) Try.underlying4 ag4 ti4 (by decide) (svc (d := .ref _ _) rfl hb) rfl (nle rfl) rfl)) <|
      ils_guard rfl rfl (.one rfl) rfl (by decide) (fun hb => (iop_eqbx rfl rfl (by decide) Try.underlying4 (svc (d := .bool _) rfl hb) (svc (d := .bool _) rfl hb) hx12)) <|
      ils_cons rfl (iop_andx rfl rfl (by decide) (sv (d := .bool _) rfl) rfl rfl hx13) <|
      ils_cons rfl (iop_move rfl rfl (by decide) (sv (d := .bool _) rfl)) <|
      ils_guard rfl rfl (.one rfl) rfl (by decide) (fun hb => (iop_fieldAddr_ref rfl rfl (by decide) Try.underlying27 rfl ti3 (by decide) (sv (d := .ref _ _) rfl) (off' := 5) rfl)) <|
      ils_guard rfl rfl (.one rfl) rfl (by decide) (fun hb => (iop_load_rs (d := .int _ _) rfl rfl (by decide) Try.underlying3 ag3 ti3 (by decide) (svc (d := .ref _ _) rfl hb) rfl (nle rfl) rfl)) <|
      ils_guard rfl rfl (.one rfl) rfl (by decide) (fun hb => (iop_fieldAddr_ref rfl rfl (by decide) Try.underlying27 rfl ti3 (by decide) (sv (d := .ref _ _) rfl) (off' := 5) rfl)) <|
      ils_guard rfl rfl (.one rfl) rfl (by decide) (fun hb => (iop_load_rs (d := .int _ _) rfl rfl (by decide) Try.underlying3 ag3 ti3 (by decide) (svc (d := .ref _ _) rfl hb) rfl (nle rfl) rfl)) <|
      ils_guard rfl rfl (.one rfl) rfl (by decide) (fun hb => (iop_cmpx rfl rfl (by decide) (svc (d := .int _ _) rfl hb) (svc (d := .int _ _) rfl hb) rfl hx14)) <|
      ils_cons rfl (iop_andx rfl rfl (by decide) (sv (d := .bool _) rfl) rfl rfl hx15) <|
      ils_cons rfl (iop_move rfl rfl (by decide) (sv (d := .bool _) rfl)) <|
      ils_guard rfl rfl (.one rfl) rfl (by decide) (fun hb => (iop_fieldAddr_ref rfl rfl (by decide) Try.underlying27 rfl ti3 (by decide) (sv (d := .ref _ _) rfl) (off' := 6) rfl)) <|
      ils_guard rfl rfl (.one rfl) rfl (by decide) (fun hb => (iop_load_rs (d := .int _ _) rfl rfl (by decide) Try.underlying3 ag3 ti3 (by decide) (svc (d := .ref _ _) rfl hb) rfl (nle rfl) rfl)) <|
      ils_guard rfl rfl (.one rfl) rfl (by decide) (fun hb => (iop_fieldAddr_ref rfl rfl (by decide) Try.underlying27 rfl ti3 (by decide) (sv (d := .ref _ _) rfl) (off' := 6) rfl)) <|
      ils_guard rfl rfl (.one rfl) rfl (by decide) (fun hb => (iop_load_rs (d := .int _ _) rfl rfl (by decide) Try.underlying3 ag3 ti3 (by decide) (svc (d := .ref _ _) rfl hb) rfl (nle rfl) rfl)) <|
      ils_guard rfl rfl (.one rfl) rfl (by decide) (fun hb => (iop_cmpx rfl rfl (by decide) (svc (d := .int _ _) rfl hb) (svc (d := .int _ _) rfl hb) rfl hx16)) <|
      ils_cons rfl (iop_andx rfl rfl (by decide) (sv (d := .bool _) rfl) rfl rfl hx17) <|
      ils_cons rfl (iop_assign rfl rfl (by decide) (sv (d := .bool _) rfl)) <|
      ils_end ?_)
    refine iwp_ret ?_
    obtain rfl := Option.some.inj h
    refine ⟨.inr rfl, (.cons (sv rfl) .nil)⟩

set_option maxRecDepth 8000 in
set_option maxHeartbeats 2000000 in
theorem p_sennitlaw22_awake  (r : Bool) (h : sennitlaw22_awake = some r) : PureAt Try.prog 7 [] (.bool r) := by
  refine pure_of_iwp (rs := [.bool r]) Try.func7 rfl Try.ntmps7 (nle rfl) rfl fun O hO => ?_
  show IWP _ _ _ _ ⟨[], []⟩ _
  unfold sennitlaw22_awake at h
  refine iwp_reg (ils_cons rfl (iop_assign rfl rfl (by decide) (sv (d := .bool false) rfl)) <|
    ils_end ?_)
  obtain ⟨x1, hx1, h⟩ := bno_e h
  refine iwp_reg (ils_cons rfl (iop_call (r := .tuple [.agg [.bool _, .int _ _, .int _ _, .slice _ _, .slice _ _, .int _ _, .int _ _, .int _ _, .int _ _], .int _ _]) rfl rfl (by decide) cl22 (.cons (sv (d := .bool true) rfl) (.cons (sv (d := .int _ 2) rfl) (.cons (sv (d := .int _ 1) rfl) .nil))) rfl (p_stid_New _ _ _ _ hx1)) <|
    ils_cons rfl (iop_move rfl rfl (by decide) (sv (d := .tuple [.agg [.bool _, .int _ _, .int _ _, .slice _ _, .slice _ _, .int _ _, .int _ _, .int _ _, .int _ _], .int _ _]) rfl)) <|
    ils_cons rfl (iop_extract (d := .agg [.bool _, .int _ _, .int _ _, .slice _ _, .slice _ _, .int _ _, .int _ _, .int _ _, .int _ _]) rfl rfl (by decide) (sv (d := .tuple [.agg [.bool _, .int _ _, .int _ _, .slice _ _, .slice _ _, .int _ _, .int _ _, .int _ _, .int _ _], .int _ _]) rfl) rfl) <|
    ils_cons rfl (iop_extract (d := .int _ _) rfl rfl (by decide) (sv (d := .tuple [.agg [.bool _, .int _ _, .int _ _, .slice _ _, .slice _ _, .int _ _, .int _ _, .int _ _, .int _ _], .int _ _]) rfl) rfl) <|
    ils_cons rfl (iop_allocS (cs := [.bool _, .int _ _, .int _ _, .nils, .nils, .int _ _, .int _ _, .int _ _, .int _ _]) (cs' := [.bool false, .int .i64 0, .int .i64 0, .slice false (([] : List Int).map (eInt .i64).d), .slice false (([] : List Int).map (eInt .i64).d), .int .i64 0, .int .i64 0, .int .i64 0, .int .i64 0]) 0 rfl rfl (by decide) rfl ti27 rfl rfl (.cons (.refl _) (.cons (.refl _) (.cons (.refl _) (.cons (.nils _) (.cons (.nils _) (.cons (.refl _) (.cons (.refl _) (.cons (.refl _) (.cons (.refl _) .nil)))))))))) <|
    ils_cons rfl (iop_store (ds' := [.bool _, .int _ _, .int _ _, .slice _ _, .slice _ _, .int _ _, .int _ _, .int _ _, .int _ _]) rfl rfl ti27 (sv (d := .ref _ _) rfl) rfl (sv (d := .agg [.bool _, .int _ _, .int _ _, .slice _ _, .slice _ _, .int _ _, .int _ _, .int _ _, .int _ _]) rfl) rfl rfl rfl (nle rfl) rfl) <|
    ils_cons rfl (iop_assign rfl rfl (by decide) (sv (d := .int _ _) rfl)) <|
    ils_end ?_)
  obtain ⟨x2, hx2, h⟩ := bno_e h
  refine iwp_reg (ils_cons rfl (iop_load_ra (cs := [.bool _, .int _ _, .int _ _, .slice _ _, .slice _ _, .int _ _, .int _ _, .int _ _, .int _ _]) rfl rfl (by decide) Try.underlying27 ag27 ti27 (by decide) (sv (d := .ref _ _) rfl) rfl (nle rfl) rfl) <|
    ils_cons rfl (iop_call (r := .tuple [.agg [.bool _, .int _ _, .int _ _, .slice _ _, .slice _ _, .int _ _, .int _ _, .int _ _, .int _ _], .int _ _, .int _ _]) rfl rfl (by decide) cl8 (.cons (sv (d := .agg [.bool _, .int _ _, .int _ _, .slice _ _, .slice _ _, .int _ _, .int _ _, .int _ _, .int _ _]) rfl) .nil) rfl (p_stid_Open _ _ hx2)) <|
    ils_cons rfl (iop_move rfl rfl (by decide) (sv (d := .tuple [.agg [.bool _, .int _ _, .int _ _, .slice _ _, .slice _ _, .int _ _, .int _ _, .int _ _, .int _ _], .int _ _, .int _ _]) rfl)) <|
    ils_cons rfl (iop_extract (d := .agg [.bool _, .int _ _, .int _ _, .slice _ _, .slice _ _, .int _ _, .int _ _, .int _ _, .int _ _]) rfl rfl (by decide) (sv (d := .tuple [.agg [.bool _, .int _ _, .int _ _, .slice _ _, .slice _ _, .int _ _, .int _ _, .int _ _, .int _ _], .int _ _, .int _ _]) rfl) rfl) <|
    ils_cons rfl (iop_extract (d := .int _ _) rfl rfl (by decide) (sv (d := .tuple [.agg [.bool _, .int _ _, .int _ _, .slice _ _, .slice _ _, .int _ _, .int _ _, .int _ _, .int _ _], .int _ _, .int _ _]) rfl) rfl) <|
    ils_cons rfl (iop_extract (d := .int _ _) rfl rfl (by decide) (sv (d := .tuple [.agg [.bool _, .int _ _, .int _ _, .slice _ _, .slice _ _, .int _ _, .int _ _, .int _ _, .int _ _], .int _ _, .int _ _]) rfl) rfl) <|
    ils_cons rfl (iop_store (ds' := [.bool _, .int _ _, .int _ _, .slice _ _, .slice _ _, .int _ _, .int _ _, .int _ _, .int _ _]) rfl rfl ti27 (sv (d := .ref _ _) rfl) rfl (sv (d := .agg [.bool _, .int _ _, .int _ _, .slice _ _, .slice _ _, .int _ _, .int _ _, .int _ _, .int _ _]) rfl) rfl rfl rfl (nle rfl) rfl) <|
    ils_cons rfl (iop_assign rfl rfl (by decide) (sv (d := .int _ _) rfl)) <|
    ils_cons rfl (iop_assign rfl rfl (by decide) (sv (d := .int _ _) rfl)) <|
    ils_end ?_)
  obtain ⟨x3, hx3, h⟩ := bno_e h
  refine iwp_reg (ils_cons rfl (iop_load_ra (cs := [.bool _, .int _ _, .int _ _, .slice _ _, .slice _ _, .int _ _, .int _ _, .int _ _, .int _ _]) rfl rfl (by decide) Try.underlying27 ag27 ti27 (by decide) (sv (d := .ref _ _) rfl) rfl (nle rfl) rfl) <|
    ils_cons rfl (iop_call (r := .tuple [.agg [.bool _, .int _ _, .int _ _, .slice _ _, .slice _ _, .int _ _, .int _ _, .int _ _, .int _ _], .int _ _, .int _ _]) rfl rfl (by decide) cl8 (.cons (sv (d := .agg [.bool _, .int _ _, .int _ _, .slice _ _, .slice _ _, .int _ _, .int _ _, .int _ _, .int _ _]) rfl) .nil) rfl (p_stid_Open _ _ hx3)) <|
    ils_cons rfl (iop_move rfl rfl (by decide) (sv (d := .tuple [.agg [.bool _, .int _ _, .int _ _, .slice _ _, .slice _ _, .int _ _, .int _ _, .int _ _, .int _ _], .int _ _, .int _ _]) rfl)) <|
    ils_cons rfl (iop_extract (d := .agg [.bool _, .int _ _, .int _ _, .slice _ _, .slice _ _, .int _ _, .int _ _, .int _ _, .int _ _]) rfl rfl (by decide) (sv (d := .tuple [.agg [.bool _, .int _ _, .int _ _, .slice _ _, .slice _ _, .int _ _, .int _ _, .int _ _, .int _ _], .int _ _, .int _ _]) rfl) rfl) <|
    ils_cons rfl (iop_extract (d := .int _ _) rfl rfl (by decide) (sv (d := .tuple [.agg [.bool _, .int _ _, .int _ _, .slice _ _, .slice _ _, .int _ _, .int _ _, .int _ _, .int _ _], .int _ _, .int _ _]) rfl) rfl) <|
    ils_cons rfl (iop_extract (d := .int _ _) rfl rfl (by decide) (sv (d := .tuple [.agg [.bool _, .int _ _, .int _ _, .slice _ _, .slice _ _, .int _ _, .int _ _, .int _ _, .int _ _], .int _ _, .int _ _]) rfl) rfl) <|
    ils_cons rfl (iop_store (ds' := [.bool _, .int _ _, .int _ _, .slice _ _, .slice _ _, .int _ _, .int _ _, .int _ _, .int _ _]) rfl rfl ti27 (sv (d := .ref _ _) rfl) rfl (sv (d := .agg [.bool _, .int _ _, .int _ _, .slice _ _, .slice _ _, .int _ _, .int _ _, .int _ _, .int _ _]) rfl) rfl rfl rfl (nle rfl) rfl) <|
    ils_cons rfl (iop_assign rfl rfl (by decide) (sv (d := .int _ _) rfl)) <|
    ils_cons rfl (iop_assign rfl rfl (by decide) (sv (d := .int _ _) rfl)) <|
    ils_end ?_)
  obtain ⟨x4, hx4, h⟩ := bno_e h
  refine iwp_reg (ils_cons rfl (iop_load_ra (cs := [.bool _, .int _ _, .int _ _, .slice _ _, .slice _ _, .int _ _, .int _ _, .int _ _, .int _ _]) rfl rfl (by decide) Try.underlying27 ag27 ti27 (by decide) (sv (d := .ref _ _) rfl) rfl (nle rfl) rfl) <|
    ils_cons rfl (iop_call (r := .tuple [.agg [.bool _, .int _ _, .int _ _, .slice _ _, .slice _ _, .int _ _, .int _ _, .int _ _, .int _ _], .int _ _, .int _ _]) rfl rfl (by decide) cl8 (.cons (sv (d := .agg [.bool _, .int _ _, .int _ _, .slice _ _, .slice _ _, .int _ _, .int _ _, .int _ _, .int _ _]) rfl) .nil) rfl (p_stid_Open _ _ hx4)) <|
    ils_cons rfl (iop_move rfl rfl (by decide) (sv (d := .tuple [.agg [.bool _, .int _ _, .int _ _, .slice _ _, .slice _ _, .int _ _, .int _ _, .int _ _, .int _ _], .int _ _, .int _ _]) rfl)) <|
    ils_cons rfl (iop_extract (d := .agg [.bool _, .int _ _, .int _ _, .slice _ _, .slice _ _, .int _ _, .int _ _, .int _ _, .int _ _]) rfl rfl (by decide) (sv (d := .tuple [.agg [.bool _, .int _ _, .int _ _, .slice _ _, .slice _ _, .int _ _, .int _ _, .int _ _, .int _ _], .int _ _, .int _ _]) rfl) rfl) <|
    ils_cons rfl (iop_extract (d := .int _ _) rfl rfl (by decide) (sv (d := .tuple [.agg [.bool _, .int _ _, .int _ _, .slice _ _, .slice _ _, .int _ _, .int _ _, .int _ _, .int _ _], .int _ _, .int _ _]) rfl) rfl) <|
    ils_cons rfl (iop_extract (d := .int _ _) rfl rfl (by decide) (sv (d := .tuple [.agg [.bool _, .int _ _, .int _ _, .slice _ _, .slice _ _, .int _ _, .int _ _, .int _ _, .int _ _], .int _ _, .int _ _]) rfl) rfl) <|
    ils_cons rfl (iop_allocS (cs := [.bool _, .int _ _, .int _ _, .nils, .nils, .int _ _, .int _ _, .int _ _, .int _ _]) (cs' := [.bool false, .int .i64 0, .int .i64 0, .slice false (([] : List Int).map (eInt .i64).d), .slice false (([] : List Int).map (eInt .i64).d), .int .i64 0, .int .i64 0, .int .i64 0, .int .i64 0]) 1 rfl rfl (by decide) rfl ti27 rfl rfl (.cons (.refl _) (.cons (.refl _) (.cons (.refl _) (.cons (.nils _) (.cons (.nils _) (.cons (.refl _) (.cons (.refl _) (.cons (.refl _) (.cons (.refl _) .nil)))))))))) <|
    ils_cons rfl (iop_store (ds' := [.bool _, .int _ _, .int _ _, .slice _ _, .slice _ _, .int _ _, .int _ _, .int _ _, .int _ _]) rfl rfl ti27 (sv (d := .ref _ _) rfl) rfl (sv (d := .agg [.bool _, .int _ _, .int _ _, .slice _ _, .slice _ _, .int _ _, .int _ _, .int _ _, .int _ _]) rfl) rfl rfl rfl (nle rfl) rfl) <|
    ils_cons rfl (iop_assign rfl rfl (by decide) (sv (d := .int _ _) rfl)) <|
    ils_cons rfl (iop_assign rfl rfl (by decide) (sv (d := .int _ _) rfl)) <|
    ils_end ?_)
  obtain ⟨x5, hx5, h⟩ := bno_e h
  refine iwp_reg (ils_cons rfl (iop_load_ra (cs := [.bool _, .int _ _, .int _ _, .slice _ _, .slice _ _, .int _ _, .int _ _, .int _ _, .int _ _]) rfl rfl (by decide) Try.underlying27 ag27 ti27 (by decide) (sv (d := .ref _ _) rfl) rfl (nle rfl) rfl) <|
    ils_cons rfl (iop_call (r := .tuple [.agg [.bool _, .int _ _, .int _ _, .slice _ _, .slice _ _, .int _ _, .int _ _, .int _ _, .int _ _], .agg [.int _ _, .int _ _]]) rfl rfl (by decide) cl10 (.cons (sv (d := .agg [.bool _, .int _ _, .int _ _, .slice _ _, .slice _ _, .int _ _, .int _ _, .int _ _, .int _ _]) rfl) (.cons (sv (d := .int _ 2) rfl) .nil)) rfl (p_stid_Begin _ _ _ hx5)) <|
    ils_cons rfl (iop_move rfl rfl (by decide) (sv (d := .tuple [.agg [.bool _, .int _ _, .int _ _, .slice _ _, .slice _ _, .int _ _, .int _ _, .int _ _, .int _ _], .agg [.int _ _, .int _ _]]) rfl)) <|
    ils_cons rfl (iop_extract (d := .agg [.bool _, .int _ _, .int _ _, .slice _ _, .slice _ _, .int _ _, .int _ _, .int _ _, .int _ _]) rfl rfl (by decide) (sv (d := .tuple [.agg [.bool _, .int _ _, .int _ _, .slice _ _, .slice _ _, .int _ _, .int _ _, .int _ _, .int _ _], .agg [.int _ _, .int _ _]]) rfl) rfl) <|
    ils_cons rfl (iop_extract (d := .agg [.int _ _, .int _ _]) rfl rfl (by decide) (sv (d := .tuple [.agg [.bool _, .int _ _, .int _ _, .slice _ _, .slice _ _, .int _ _, .int _ _, .int _ _, .int _ _], .agg [.int _ _, .int _ _]]) rfl) rfl) <|
    ils_cons rfl (iop_allocS (cs := [.bool _, .int _ _, .int _ _, .nils, .nils, .int _ _, .int _ _, .int _ _, .int _ _]) (cs' := [.bool false, .int .i64 0, .int .i64 0, .slice false (([] : List Int).map (eInt .i64).d), .slice false (([] : List Int).map (eInt .i64).d), .int .i64 0, .int .i64 0, .int .i64 0, .int .i64 0]) 2 rfl rfl (by decide) rfl ti27 rfl rfl (.cons (.refl _) (.cons (.refl _) (.cons (.refl _) (.cons (.nils _) (.cons (.nils _) (.cons (.refl _) (.cons (.refl _) (.cons (.refl _) (.cons (.refl _) .nil)))))))))) <|
    ils_cons rfl (iop_allocS (cs := [.int _ _, .int _ _]) (cs' := [.int .i64 0, .int .u32 0]) 3 rfl rfl (by decide) rfl ti36 rfl rfl (.cons (.refl _) (.cons (.refl _) .nil))) <|
    ils_cons rfl (iop_store (ds' := [.bool _, .int _ _, .int _ _, .slice _ _, .slice _ _, .int _ _, .int _ _, .int _ _, .int _ _]) rfl rfl ti27 (sv (d := .ref _ _) rfl) rfl (sv (d := .agg [.bool _, .int _ _, .int _ _, .slice _ _, .slice _ _, .int _ _, .int _ _, .int _ _, .int _ _]) rfl) rfl rfl rfl (nle rfl) rfl) <|
    ils_cons rfl (iop_store (ds' := [.int _ _, .int _ _]) rfl rfl ti36 (sv (d := .ref _ _) rfl) rfl (sv (d := .agg [.int _ _, .int _ _]) rfl) rfl rfl rfl (nle rfl) rfl) <|
    ils_end ?_)
  obtain ⟨x6, hx6, h⟩ := bno_e h
  refine iwp_reg (ils_cons rfl (iop_load_ra (cs := [.bool _, .int _ _, .int _ _, .slice _ _, .slice _ _, .int _ _, .int _ _, .int _ _, .int _ _]) rfl rfl (by decide) Try.underlying27 ag27 ti27 (by decide) (sv (d := .ref _ _) rfl) rfl (nle rfl) rfl) <|
    ils_cons rfl (iop_call (r := .tuple [.agg [.bool _, .int _ _, .int _ _, .slice _ _, .slice _ _, .int _ _, .int _ _, .int _ _, .int _ _], .agg [.int _ _, .int _ _]]) rfl rfl (by decide) cl10 (.cons (sv (d := .agg [.bool _, .int _ _, .int _ _, .slice _ _, .slice _ _, .int _ _, .int _ _, .int _ _, .int _ _]) rfl) (.cons (sv (d := .int _ 6) rfl) .nil)) rfl (p_stid_Begin _ _ _ hx6)) <|
    ils_cons rfl (iop_move rfl rfl (by decide) (sv (d := .tuple [.agg [.bool _, .int _ _, .int _ _, .slice _ _, .slice _ _, .int _ _, .int _ _, .int _ _, .int _ _], .agg [.int _ _, .int _ _]]) rfl)) <|
    ils_cons rfl (iop_extract (d := .agg [.bool _, .int _ _, .int _ _, .slice _ _, .slice _ _, .int _ _, .int _ _, .int _ _, .int _ _]) rfl rfl (by decide) (sv (d := .tuple [.agg [.bool _, .int _ _, .int _ _, .slice _ _, .slice _ _, .int _ _, .int _ _, .int _ _, .int _ _], .agg [.int _ _, .int _ _]]) rfl) rfl) <|
    ils_cons rfl (iop_extract (d := .agg [.int _ _, .int _ _]) rfl rfl (by decide) (sv (d := .tuple [.agg [.bool _, .int _ _, .int _ _, .slice _ _, .slice _ _, .int _ _, .int _ _, .int _ _, .int _ _], .agg [.int _ _, .int _ _]]) rfl) rfl) <|
    ils_cons rfl (iop_allocS (cs := [.bool _, .int _ _, .int _ _, .nils, .nils, .int _ _, .int _ _, .int _ _, .int _ _]) (cs' := [.bool false, .int .i64 0, .int .i64 0, .slice false (([] : List Int).map (eInt .i64).d), .slice false (([] : List Int).map (eInt .i64).d), .int .i64 0, .int .i64 0, .int .i64 0, .int .i64 0]) 4 rfl rfl (by decide) rfl ti27 rfl rfl (.cons (.refl _) (.cons (.refl _) (.cons (.refl _) (.cons (.nils _) (.cons (.nils _) (.cons (.refl _) (.cons (.refl _) (.cons (.refl _) (.cons (.refl _) .nil)))))))))) <|
    ils_cons rfl (iop_allocS (cs := [.int _ _, .int _ _]) (cs' := [.int .i64 0, .int .u32 0]) 5 rfl rfl (by decide) rfl ti36 rfl rfl (.cons (.refl _) (.cons (.refl _) .nil))) <|
    ils_cons rfl (iop_store (ds' := [.bool _, .int _ _, .int _ _, .slice _ _, .slice _ _, .int _ _, .int _ _, .int _ _, .int _ _]) rfl rfl ti27 (sv (d := .ref _ _) rfl) rfl (sv (d := .agg [.bool _, .int _ _, .int _ _, .slice _ _, .slice _ _, .int _ _, .int _ _, .int _ _, .int _ _]) rfl) rfl rfl rfl (nle rfl) rfl) <|
    ils_cons rfl (iop_store (ds' := [.int _ _, .int _ _]) rfl rfl ti36 (sv (d := .ref _ _) rfl) rfl (sv (d := .agg [.int _ _, .int _ _]) rfl) rfl rfl rfl (nle rfl) rfl) <|
    ils_end ?_)
  obtain ⟨x7, hx7, h⟩ := bno_e h
  refine iwp_reg (ils_cons rfl (iop_load_ra (cs := [.bool _, .int _ _, .int _ _, .slice _ _, .slice _ _, .int _ _, .int _ _, .int _ _, .int _ _]) rfl rfl (by decide) Try.underlying27 ag27 ti27 (by decide) (sv (d := .ref _ _) rfl) rfl (nle rfl) rfl) <|
    ils_cons rfl (iop_call (r := .tuple [.agg [.bool _, .int _ _, .int _ _, .slice _ _, .slice _ _, .int _ _, .int _ _, .int _ _, .int _ _], .slice _ _, .bool _]) rfl rfl (by decide) cl14 (.cons (sv (d := .agg [.bool _, .int _ _, .int _ _, .slice _ _, .slice _ _, .int _ _, .int _ _, .int _ _, .int _ _]) rfl) (.cons (sv (d := .int _ 1) rfl) .nil)) rfl (p_stid_Away _ _ _ hx7)) <|
    ils_cons rfl (iop_move rfl rfl (by decide) (sv (d := .tuple [.agg [.bool _, .int _ _, .int _ _, .slice _ _, .slice _ _, .int _ _, .int _ _, .int _ _, .int _ _], .slice _ _, .bool _]) rfl)) <|
    ils_cons rfl (iop_extract (d := .agg [.bool _, .int _ _, .int _ _, .slice _ _, .slice _ _, .int _ _, .int _ _, .int _ _, .int _ _]) rfl rfl (by decide) (sv (d := .tuple [.agg [.bool _, .int _ _, .int _ _, .slice _ _, .slice _ _, .int _ _, .int _ _, .int _ _, .int _ _], .slice _ _, .bool _]) rfl) rfl) <|
    ils_cons rfl (iop_extract (d := .slice _ _) rfl rfl (by decide) (sv (d := .tuple [.agg [.bool _, .int _ _, .int _ _, .slice _ _, .slice _ _, .int _ _, .int _ _, .int _ _, .int _ _], .slice _ _, .bool _]) rfl) rfl) <|
    ils_cons rfl (iop_extract (d := .bool _) rfl rfl (by decide) (sv (d := .tuple [.agg [.bool _, .int _ _, .int _ _, .slice _ _, .slice _ _, .int _ _, .int _ _, .int _ _, .int _ _], .slice _ _, .bool _]) rfl) rfl) <|
    ils_cons rfl (iop_allocS (cs := [.bool _, .int _ _, .int _ _, .nils, .nils, .int _ _, .int _ _, .int _ _, .int _ _]) (cs' := [.bool false, .int .i64 0, .int .i64 0, .slice false (([] : List Int).map (eInt .i64).d), .slice false (([] : List Int).map (eInt .i64).d), .int .i64 0, .int .i64 0, .int .i64 0, .int .i64 0]) 6 rfl rfl (by decide) rfl ti27 rfl rfl (.cons (.refl _) (.cons (.refl _) (.cons (.refl _) (.cons (.nils _) (.cons (.nils _) (.cons (.refl _) (.cons (.refl _) (.cons (.refl _) (.cons (.refl _) .nil)))))))))) <|
    ils_cons rfl (iop_store (ds' := [.bool _, .int _ _, .int _ _, .slice _ _, .slice _ _, .int _ _, .int _ _, .int _ _, .int _ _]) rfl rfl ti27 (sv (d := .ref _ _) rfl) rfl (sv (d := .agg [.bool _, .int _ _, .int _ _, .slice _ _, .slice _ _, .int _ _, .int _ _, .int _ _, .int _ _]) rfl) rfl rfl rfl (nle rfl) rfl) <|
    ils_cons rfl (iop_assign rfl rfl (by decide) (sv (d := .slice _ _) rfl)) <|
    ils_cons rfl (iop_assign rfl rfl (by decide) (sv (d := .bool _) rfl)) <|
    ils_end ?_)
  obtain ⟨x8, hx8, h⟩ := bno_e h
  refine iwp_reg (ils_cons rfl (iop_load_ra (cs := [.bool _, .int _ _, .int _ _, .slice _ _, .slice _ _, .int _ _, .int _ _, .int _ _, .int _ _]) rfl rfl (by decide) Try.underlying27 ag27 ti27 (by decide) (sv (d := .ref _ _) rfl) rfl (nle rfl) rfl) <|
    ils_cons rfl (iop_call (r := .tuple [.agg [.bool _, .int _ _, .int _ _, .slice _ _, .slice _ _, .int _ _, .int _ _, .int _ _, .int _ _], .int _ _]) rfl rfl (by decide) cl16 (.cons (sv (d := .agg [.bool _, .int _ _, .int _ _, .slice _ _, .slice _ _, .int _ _, .int _ _, .int _ _, .int _ _]) rfl) .nil) rfl (p_stid_Shut _ _ hx8)) <|
    ils_cons rfl (iop_move rfl rfl (by decide) (sv (d := .tuple [.agg [.bool _, .int _ _, .int _ _, .slice _ _, .slice _ _, .int _ _, .int _ _, .int _ _, .int _ _], .int _ _]) rfl)) <|
    ils_cons rfl (iop_extract (d := .agg [.bool _, .int _ _, .int _ _, .slice _ _, .slice _ _, .int _ _, .int _ _, .int _ _, .int _ _]) rfl rfl (by decide) (sv (d := .tuple [.agg [.bool _, .int _ _, .int _ _, .slice _ _, .slice _ _, .int _ _, .int _ _, .int _ _, .int _ _], .int _ _]) rfl) rfl) <|
    ils_cons rfl (iop_extract (d := .int _ _) rfl rfl (by decide) (sv (d := .tuple [.agg [.bool _, .int _ _, .int _ _, .slice _ _, .slice _ _, .int _ _, .int _ _, .int _ _, .int _ _], .int _ _]) rfl) rfl) <|
    ils_cons rfl (iop_allocS (cs := [.bool _, .int _ _, .int _ _, .nils, .nils, .int _ _, .int _ _, .int _ _, .int _ _]) (cs' := [.bool false, .int .i64 0, .int .i64 0, .slice false (([] : List Int).map (eInt .i64).d), .slice false (([] : List Int).map (eInt .i64).d), .int .i64 0, .int .i64 0, .int .i64 0, .int .i64 0]) 7 rfl rfl (by decide) rfl ti27 rfl rfl (.cons (.refl _) (.cons (.refl _) (.cons (.refl _) (.cons (.nils _) (.cons (.nils _) (.cons (.refl _) (.cons (.refl _) (.cons (.refl _) (.cons (.refl _) .nil)))))))))) <|
    ils_cons rfl (iop_store (ds' := [.bool _, .int _ _, .int _ _, .slice _ _, .slice _ _, .int _ _, .int _ _, .int _ _, .int _ _]) rfl rfl ti27 (sv (d := .ref _ _) rfl) rfl (sv (d := .agg [.bool _, .int _ _, .int _ _, .slice _ _, .slice _ _, .int _ _, .int _ _, .int _ _, .int _ _]) rfl) rfl rfl rfl (nle rfl) rfl) <|
    ils_cons rfl (iop_assign rfl rfl (by decide) (sv (d := .int _ _) rfl)) <|
    ils_end ?_)
  obtain ⟨x9, hx9, h⟩ := bno_e h
  refine iwp_reg (ils_cons rfl (iop_load_ra (cs := [.bool _, .int _ _, .int _ _, .slice _ _, .slice _ _, .int _ _, .int _ _, .int _ _, .int _ _]) rfl rfl (by decide) Try.underlying27 ag27 ti27 (by decide) (sv (d := .ref _ _) rfl) rfl (nle rfl) rfl) <|
    ils_cons rfl (iop_call (r := .tuple [.agg [.bool _, .int _ _, .int _ _, .slice _ _, .slice _ _, .int _ _, .int _ _, .int _ _, .int _ _], .agg [.int _ _, .int _ _]]) rfl rfl (by decide) cl10 (.cons (sv (d := .agg [.bool _, .int _ _, .int _ _, .slice _ _, .slice _ _, .int _ _, .int _ _, .int _ _, .int _ _]) rfl) (.cons (sv (d := .int _ 8) rfl) .nil)) rfl (p_stid_Begin _ _ _ hx9)) <|
    ils_cons rfl (iop_move rfl rfl (by decide) (sv (d := .tuple [.agg [.bool _, .int _ _, .int _ _, .slice _ _, .slice _ _, .int _ _, .int _ _, .int _ _, .int _ _], .agg [.int _ _, .int _ _]]) rfl)) <|
    ils_cons rfl (iop_extract (d := .agg [.bool _, .int _ _, .int _ _, .slice _ _, .slice _ _, .int _ _, .int _ _, .int _ _, .int _ _]) rfl rfl (by decide) (sv (d := .tuple [.agg [.bool _, .int _ _, .int _ _, .slice _ _, .slice _ _, .int _ _, .int _ _, .int _ _, .int _ _], .agg [.int _ _, .int _ _]]) rfl) rfl) <|
    ils_cons rfl (iop_extract (d := .agg [.int _ _, .int _ _]) rfl rfl (by decide) (sv (d := .tuple [.agg [.bool _, .int _ _, .int _ _, .slice _ _, .slice _ _, .int _ _, .int _ _, .int _ _, .int _ _], .agg [.int _ _, .int _ _]]) rfl) rfl) <|
    ils_cons rfl (iop_allocS (cs := [.bool _, .int _ _, .int _ _, .nils, .nils, .int _ _, .int _ _, .int _ _, .int _ _]) (cs' := [.bool false, .int .i64 0, .int .i64 0, .slice false (([] : List Int).map (eInt .i64).d), .slice false (([] : List Int).map (eInt .i64).d), .int .i64 0, .int .i64 0, .int .i64 0, .int .i64 0]) 8 rfl rfl (by decide) rfl ti27 rfl rfl (.cons (.refl _) (.cons (.refl _) (.cons (.refl _) (.cons (.nils _) (.cons (.nils _) (.cons (.refl _) (.cons (.refl _) (.cons (.refl _) (.cons (.refl _) .nil)))))))))) <|
    ils_cons rfl (iop_allocS (cs := [.int _ _, .int _ _]) (cs' := [.int .i64 0, .int .u32 0]) 9 rfl rfl (by decide) rfl ti36 rfl rfl (.cons (.refl _) (.cons (.refl _) .nil))) <|
    ils_cons rfl (iop_store (ds' := [.bool _, .int _ _, .int _ _, .slice _ _, .slice _ _, .int _ _, .int _ _, .int _ _, .int _ _]) rfl rfl ti27 (sv (d := .ref _ _) rfl) rfl (sv (d := .agg [.bool _, .int _ _, .int _ _, .slice _ _, .slice _ _, .int _ _, .int _ _, .int _ _, .int _ _]) rfl) rfl rfl rfl (nle rfl) rfl) <|
    ils_cons rfl (iop_store (ds' := [.int _ _, .int _ _]) rfl rfl ti36 (sv (d := .ref _ _) rfl) rfl (sv (d := .agg [.int _ _, .int _ _]) rfl) rfl rfl rfl (nle rfl) rfl) <|
    ils_end ?_)
  obtain ⟨x10, hx10, h⟩ := bno_e h
  refine iwp_reg (ils_cons rfl (iop_load_ra (cs := [.bool _, .int _ _, .int _ _, .slice _ _, .slice _ _, .int _ _, .int _ _, .int _ _, .int _ _]) rfl rfl (by decide) Try.underlying27 ag27 ti27 (by decide) (sv (d := .ref _ _) rfl) rfl (nle rfl) rfl) <|
    ils_cons rfl (iop_call (r := .tuple [.int _ _, .int _ _]) rfl rfl (by decide) cl25 (.cons (sv (d := .agg [.bool _, .int _ _, .int _ _, .slice _ _, .slice _ _, .int _ _, .int _ _, .int _ _, .int _ _]) rfl) .nil) rfl (p_stid_Count _ _ hx10)) <|
    ils_cons rfl (iop_move rfl rfl (by decide) (sv (d := .tuple [.int _ _, .int _ _]) rfl)) <|
    ils_cons rfl (iop_extract (d := .int _ _) rfl rfl (by decide) (sv (d := .tuple [.int _ _, .int _ _]) rfl) rfl) <|
    ils_cons rfl (iop_extract (d := .int _ _) rfl rfl (by decide) (sv (d := .tuple [.int _ _, .int _ _]) rfl) rfl) <|
    ils_cons rfl (iop_assign rfl rfl (by decide) (sv (d := .int _ _) rfl)) <|
    ils_cons rfl (iop_assign rfl rfl (by decide) (sv (d := .int _ _) rfl)) <|
    ils_end ?_)
  obtain ⟨x11, hx11, h⟩ := bnd_e h
  obtain ⟨x12, hx12, h⟩ := bnd_e h
  obtain ⟨x13, hx13, h⟩ := bnd_e h
  obtain ⟨x14, hx14, h⟩ := bnd_e h
  obtain ⟨x15, hx15, h⟩ := bnd_e h
  obtain ⟨x16, hx16, h⟩ := bnd_e h
  obtain ⟨x17, hx17, h⟩ := bnd_e h
  obtain ⟨x18, hx18, h⟩ := bnd_e h
  obtain ⟨x19, hx19, h⟩ := bnd_e h
  obtain ⟨x20, hx20, h⟩ := bnd_e h
  obtain ⟨x21, hx21, h⟩ := bnd_e h
  obtain ⟨x22, hx22, h⟩ := bnd_e h
  obtain ⟨x23, hx23, h⟩ := bnd_e h
  obtain ⟨x24, hx24, h⟩ := bnd_e h
  obtain ⟨x25, hx25, h⟩ := bnd_e h
  obtain ⟨x26, hx26, h⟩ := bno_e h
  obtain ⟨x27, hx27, h⟩ := bnd_e h
  obtain ⟨x28, hx28, h⟩ := bnd_e h
  obtain ⟨x29, hx29, h⟩ := bnd_e h
  obtain ⟨x30, hx30, h⟩ := bnd_e h
  obtain ⟨x31, hx31, h⟩ := bnd_e h
  obtain ⟨x32, hx32, h⟩ := bnd_e h
  obtain ⟨x33, hx33, h⟩ := bnd_e h
  obtain ⟨x34, hx34, h⟩ := bnd_e h
  obtain ⟨x35, hx35, h⟩ := bnd_e h
  obtain ⟨x36, hx36, h⟩ := bnd_e h
  obtain ⟨x37, hx37, h⟩ := bno_e h
  obtain ⟨x38, hx38, h⟩ := bnd_e h
  obtain ⟨x39, hx39, h⟩ := bnd_e h
  obtain ⟨x40, hx40, h⟩ := bno_e h
  obtain ⟨x41, hx41, h⟩ := bnd_e h
  obtain ⟨x42, hx42, h⟩ := bnd_e h
  obtain ⟨x43, hx43, h⟩ := bno_e h
  obtain ⟨x44, hx44, h⟩ := bnd_e h
  obtain ⟨x45, hx45, h⟩ := bnd_e h
  obtain ⟨x46, hx46, h⟩ := bno_e h
  obtain ⟨x47, hx47, h⟩ := bnd_e h
  obtain ⟨x48, hx48, h⟩ := bnd_e h
  obtain ⟨x49, hx49, h⟩ := bno_e h
  obtain ⟨x50, hx50, h⟩ := bno_e h
  obtain ⟨x51, hx51, h⟩ := bnd_e h
  obtain ⟨x52, hx52, h⟩ := bnd_e h
  obtain ⟨x53, hx53, h⟩ := bno_e h
  obtain ⟨x54, hx54, h⟩ := bnd_e h
  obtain ⟨x55, hx55, h⟩ := bno_e h
  obtain ⟨x56, hx56, h⟩ := bnd_e h
  obtain ⟨x57, hx57, h⟩ := bno_e h
  obtain ⟨x58, hx58, h⟩ := bnd_e h
  obtain ⟨x59, hx59, h⟩ := bnd_e h
  obtain ⟨x60, hx60, h⟩ := bno_e h
  obtain ⟨x61, hx61, h⟩ := bnd_e h
  obtain ⟨x62, hx62, h⟩ := bnd_e h
  obtain ⟨x63, hx63, h⟩ := bno_e h
  obtain ⟨x64, hx64, h⟩ := bnd_e h
  obtain ⟨x65, hx65, h⟩ := bno_e h
  obtain ⟨x66, hx66, h⟩ := bnd_e h
  obtain ⟨x67, hx67, h⟩ := bnd_e h
  obtain ⟨x68, hx68, h⟩ := bnd_e h
  obtain ⟨x69, hx69, h⟩ := bnd_e h
  refine iwp_reg (ils_cons rfl (iop_move rfl rfl (by decide) (sv (d := .int _ _) rfl)) <|
    ils_cons rfl (iop_cmpx rfl rfl (by decide) (sv (d := .int _ _) rfl) (sv (d := .int _ 0) rfl) rfl hx11) <|
    ils_cons rfl (iop_move rfl rfl (by decide) (sv (d := .bool _) rfl)) <|
    ils_guard rfl rfl (.one rfl) rfl (by decide) (fun hb => (iop_move rfl rfl (by decide) (sv (d := .int _ _) rfl))) <|
    ils_guard rfl rfl (.one rfl) rfl (by decide) (fun hb => (iop_cmpx rfl rfl (by decide) (svc (d := .int _ _) rfl hb) (sv (d := .int _ 1) rfl) rfl hx12)) <|
    ils_cons rfl (iop_andx rfl rfl (by decide) (sv (d := .bool _) rfl) rfl rfl hx13) <|
    ils_cons rfl (iop_move rfl rfl (by decide) (sv (d := .bool _) rfl)) <|
    ils_guard rfl rfl (.one rfl) rfl (by decide) (fun hb => (iop_move rfl rfl (by decide) (sv (d := .int _ _) rfl))) <|
    ils_guard rfl rfl (.one rfl) rfl (by decide) (fun hb => (iop_cmpx rfl rfl (by decide) (svc (d := .int _ _) rfl hb) (sv (d := .int _ 0) rfl) rfl hx14)) <|
    ils_cons rfl (iop_andx rfl rfl (by decide) (sv (d := .bool _) rfl) rfl rfl hx15) <|
    ils_cons rfl (iop_move rfl rfl (by decide) (sv (d := .bool _) rfl)) <|
    ils_guard rfl rfl (.one rfl) rfl (by decide) (fun hb => (iop_move rfl rfl (by decide) (sv (d := .int _ _) rfl))) <|
    ils_guard rfl rfl (.one rfl) rfl (by decide) (fun hb => (iop_cmpx rfl rfl (by decide) (svc (d := .int _ _) rfl hb) (sv (d := .int _ 3) rfl) rfl hx16)) <|
    ils_cons rfl (iop_andx rfl rfl (by decide) (sv (d := .bool _) rfl) rfl rfl hx17) <|
    ils_cons rfl (iop_move rfl rfl (by decide) (sv (d := .bool _) rfl)) <|
    ils_guard rfl rfl (.one rfl) rfl (by decide) (fun hb => (iop_move rfl rfl (by decide) (sv (d := .int _ _) rfl))) <|
    ils_guard rfl rfl (.one rfl) rfl (by decide) (fun hb => (iop_cmpx rfl rfl (by decide) (svc (d := .int _ _) rfl hb) (sv (d := .int _ 0) rfl) rfl hx18)) <|
    ils_cons rfl (iop_andx rfl rfl (by decide) (sv (d := .bool _) rfl) rfl rfl hx19) <|
    ils_cons rfl (iop_move rfl rfl (by decide) (sv (d := .bool _) rfl)) <|
    ils_guard rfl rfl (.one rfl) rfl (by decide) (fun hb => (iop_move rfl rfl (by decide) (sv (d := .int _ _) rfl))) <|
    ils_guard rfl rfl (.one rfl) rfl (by decide) (fun hb => (iop_cmpx rfl rfl (by decide) (svc (d := .int _ _) rfl hb) (sv (d := .int _ 7) rfl) rfl hx20)) <|
    ils_cons rfl (iop_andx rfl rfl (by decide) (sv (d := .bool _) rfl) rfl rfl hx21) <|
    ils_cons rfl (iop_move rfl rfl (by decide) (sv (d := .bool _) rfl)) <|
    ils_guard rfl rfl (.one rfl) rfl (by decide) (fun hb => (iop_load_ra (cs := [.int _ _, .int _ _]) rfl rfl (by decide) Try.underlying36 ag36 ti36 (by decide) (sv (d := .ref _ _) rfl) rfl (nle rfl) rfl)) <|
    ils_guard rfl rfl (.one rfl) rfl (by decide) (fun hb => (iop_build_struct (cs := [.int _ _, .int _ _]) rfl rfl (by decide) Try.underlying36 ti36 pl36 rfl .nil rfl)) <|
    ils_guard rfl rfl (.one rfl) rfl (by decide) (fun hb => (iop_eqs rfl rfl (by decide) Try.underlying36 st36.1 st36.2 (svc (d := .agg [.int .i64 x5.2.Scope, .int .u32 x5.2.Code]) rfl hb) (svc (d := .agg [.int .i64 0, .int .u32 0]) rfl hb) (congrArg some hx22))) <|
    ils_cons rfl (iop_andx rfl rfl (by decide) (sv (d := .bool _) rfl) rfl rfl hx23) <|
    ils_cons rfl (iop_move rfl rfl (by decide) (sv (d := .bool _) rfl)) <|
    ils_guard rfl rfl (.one rfl) rfl (by decide) (fun hb => (iop_load_ra (cs := [.int _ _, .int _ _]) rfl rfl (by decide) Try.underlying36 ag36 ti36 (by decide) (sv (d := .ref _ _) rfl) rfl (nle rfl) rfl)) <|
    ils_guard rfl rfl (.one rfl) rfl (by decide) (fun hb => (iop_build_struct (cs := [.int _ _, .int _ _]) rfl rfl (by decide) Try.underlying36 ti36 pl36 rfl (.cons (sv (d := .int _ 2) rfl) (.cons (sv (d := .int _ 7) rfl) .nil)) rfl)) <|
    ils_guard rfl rfl (.one rfl) rfl (by decide) (fun hb => (iop_eqs rfl rfl (by decide) Try.underlying36 st36.1 st36.2 (svc (d := .agg [.int .i64 x6.2.Scope, .int .u32 x6.2.Code]) rfl hb) (svc (d := .agg [.int .i64 2, .int .u32 7]) rfl hb) (congrArg some hx24))) <|
    ils_cons rfl (iop_andx rfl rfl (by decide) (sv (d := .bool _) rfl) rfl rfl hx25) <|
    ils_cons rfl (iop_move rfl rfl (by decide) (sv (d := .bool _) rfl)) <|
    ils_guard rfl rfl (.one rfl) rfl (by decide) (fun hb => (iop_move rfl rfl (by decide) (sv (d := .slice _ _) rfl))) <|
    ils_guard rfl rfl (.one rfl) rfl (by decide) (fun hb => (iop_bsF (eInt .i64) ([3] : (List Int)) rfl rfl (by decide) Try.underlying22 ti3 (.cons (sv (d := .int _ 3) rfl) .nil) rfl rfl (by decide))) <|
    ils_guard rfl rfl (.one rfl) rfl (by decide) (fun hb => (iop_call (r := .bool _) rfl rfl (by decide) cl21 (.cons (svc (d := .slice _ _) rfl hb) (.cons (svc (d := .slice _ _) rfl hb) .nil)) rfl (p_sennitref02_SameInts _ _ _ (gd_t hx26 hb)))) <|
    ils_cons rfl (iop_andx rfl rfl (by decide) (sv (d := .bool _) rfl) rfl rfl hx27) <|
    ils_cons rfl (iop_move rfl rfl (by decide) (sv (d := .bool _) rfl)) <|
    ils_guard rfl rfl (.one rfl) rfl (by decide) (fun hb => (iop_move rfl rfl (by decide) (sv (d := .bool _) rfl))) <|
    ils_cons rfl (iop_andx rfl rfl (by decide) (sv (d := .bool _) rfl) rfl rfl hx28) <|
    ils_cons rfl (iop_move rfl rfl (by decide) (sv (d := .bool _) rfl)) <|
    ils_guard rfl rfl (.one rfl) rfl (by decide) (fun hb => (iop_move rfl rfl (by decide) (sv (d := .int _ _) rfl))) <|
    ils_guard rfl rfl (.one rfl) rfl (by decide) (fun hb => (iop_cmpx rfl rfl (by decide) (svc (d := .int _ _) rfl hb) (sv (d := .int _ 6) rfl) rfl hx29)) <|
    ils_cons rfl (iop_andx rfl rfl (by decide) (sv (d := .bool _) rfl) rfl rfl hx30) <|
    ils_cons rfl (iop_move rfl rfl (by decide) (sv (d := .bool _) rfl)) <|
    ils_guard rfl rfl (.one rfl) rfl (by decide) (fun hb => (iop_fieldAddr_ref rfl rfl (by decide) Try.underlying36 rfl ti3 (by decide) (sv (d := .ref _ _) rfl) (off' := 0) rfl)) <|
    ils_guard rfl rfl (.one rfl) rfl (by decide) (fun hb => (iop_load_rs (d := .int _ _) rfl rfl (by decide) Try.underlying3 ag3 ti3 (by decide) (svc (d := .ref _ _) rfl hb) rfl (nle rfl) rfl)) <|
    ils_guard rfl rfl (.one rfl) rfl (by decide) (fun hb => (iop_cmpx rfl rfl (by decide) (svc (d := .int _ _) rfl hb) (sv (d := .int _ 1) rfl) rfl hx31)) <|
    ils_cons rfl (iop_andx rfl rfl (by decide) (sv (d := .bool _) rfl) rfl rfl hx32) <|
    ils_cons rfl (iop_move rfl rfl (by decide) (sv (d := .bool _) rfl)) <|
    ils_guard rfl rfl (.one rfl) rfl (by decide) (fun hb => (iop_move rfl rfl (by decide) (sv (d := .int _ _) rfl))) <|
    ils_guard rfl rfl (.one rfl) rfl (by decide) (fun hb => (iop_cmpx rfl rfl (by decide) (svc (d := .int _ _) rfl hb) (sv (d := .int _ 1) rfl) rfl hx33)) <|
    ils_cons rfl (iop_andx rfl rfl (by decide) (sv (d := .bool _) rfl) rfl rfl hx34) <|
    ils_cons rfl (iop_move rfl rfl (by decide) (sv (d := .bool _) rfl)) <|
    ils_guard rfl rfl (.one rfl) rfl (by decide) (fun hb => (iop_move rfl rfl (by decide) (sv (d := .int _ _) rfl))) <|
    ils_guard rfl rfl (.one rfl) rfl (by decide) (fun hb => (iop_cmpx rfl rfl (by decide) (svc (d := .int _ _) rfl hb) (sv (d := .int _ 1) rfl) rfl hx35)) <|
    ils_cons rfl (iop_andx rfl rfl (by decide) (sv (d := .bool _) rfl) rfl rfl hx36) <|
    ils_cons rfl (iop_move rfl rfl (by decide) (sv (d := .bool _) rfl)) <|
    ils_guard rfl rfl (.one rfl) rfl (by decide) (fun hb => (iop_load_ra (cs := [.bool _, .int _ _, .int _ _, .slice _ _, .slice _ _, .int _ _, .int _ _, .int _ _, .int _ _]) rfl rfl (by decide) Try.underlying27 ag27 ti27 (by decide) (sv (d := .ref _ _) rfl) rfl (nle rfl) rfl)) <|
    ils_guard rfl rfl (.one rfl) rfl (by decide) (fun hb => (iop_call (r := .int _ _) rfl rfl (by decide) cl23 (.cons (svc (d := .agg [.bool x7.1.Odd, .int .i64 x7.1.Next, .int .i64 x7.1.Last, .slice false (x7.1.Live.map (eInt .i64).d), .slice false (x7.1.Cut.map (eInt .i64).d), .int .i64 x7.1.Mine, .int .i64 x7.1.Hers, .int .i64 x7.1.Heard, .int .i64 x7.1.Told]) rfl hb) (.cons (sv (d := .int _ 3) rfl) .nil)) rfl (p_stid_Class _ _ _ (gd_t hx37 hb)))) <|
    ils_guard rfl rfl (.one rfl) rfl (by decide) (fun hb => (iop_cmpx rfl rfl (by decide) (svc (d := .int _ _) rfl hb) (sv (d := .int _ 4) rfl) rfl hx38)) <|
    ils_cons rfl (iop_andx rfl rfl (by decide) (sv (d := .bool _) rfl) rfl rfl hx39) <|
    ils_cons rfl (iop_move rfl rfl (by decide) (sv (d := .bool _) rfl)) <|
    ils_guard rfl rfl (.one rfl) rfl (by decide) (fun hb => (iop_load_ra (cs := [.bool _, .int _ _, .int _ _, .slice _ _, .slice _ _, .int _ _, .int _ _, .int _ _, .int _ _]) rfl rfl (by decide) Try.underlying27 ag27 ti27 (by decide) (sv (d := .ref _ _) rfl) rfl (nle rfl) rfl)) <|
    ils_guard rfl rfl (.one rfl) rfl (by decide) (fun hb => (iop_call (r := .int _ _) rfl rfl (by decide) cl23 (.cons (svc (d := .agg [.bool x7.1.Odd, .int .i64 x7.1.Next, .int .i64 x7.1.Last, .slice false (x7.1.Live.map (eInt .i64).d), .slice false (x7.1.Cut.map (eInt .i64).d), .int .i64 x7.1.Mine, .int .i64 x7.1.Hers, .int .i64 x7.1.Heard, .int .i64 x7.1.Told]) rfl hb) (.cons (sv (d := .int _ 6) rfl) .nil)) rfl (p_stid_Class _ _ _ (gd_t hx40 hb)))) <|
    ils_guard rfl rfl (.one rfl) rfl (by decide) (fun hb => (iop_cmpx rfl rfl (by decide) (svc (d := .int _ _) rfl hb) (sv (d := .int _ 5) rfl) rfl hx41)) <|
    ils_cons rfl (iop_andx rfl rfl (by decide) (sv (d := .bool _) rfl) rfl rfl hx42) <|
    ils_cons rfl (iop_move rfl rfl (by decide) (sv (d := .bool _) rfl)) <|
    ils_guard rfl rfl (.one rfl) rfl (by decide) (fun hb => (iop_load_ra (cs := [.bool _, .int _ _, .int _ _, .slice _ _, .slice _ _, .int _ _, .int _ _, .int _ _, .int _ _]) rfl rfl (by decide) Try.underlying27 ag27 ti27 (by decide) (sv (d := .ref _ _) rfl) rfl (nle rfl) rfl)) <|
    ils_guard rfl rfl (.one rfl) rfl (by decide) (fun hb => (iop_call (r := .int _ _) rfl rfl (by decide) cl23 (.cons (svc (d := .agg [.bool x7.1.Odd, .int .i64 x7.1.Next, .int .i64 x7.1.Last, .slice false (x7.1.Live.map (eInt .i64).d), .slice false (x7.1.Cut.map (eInt .i64).d), .int .i64 x7.1.Mine, .int .i64 x7.1.Hers, .int .i64 x7.1.Heard, .int .i64 x7.1.Told]) rfl hb) (.cons (sv (d := .int _ 8) rfl) .nil)) rfl (p_stid_Class _ _ _ (gd_t hx43 hb)))) <|
    ils_guard rfl rfl (.one rfl) rfl (by decide) (fun hb => (iop_cmpx rfl rfl (by decide) (svc (d := .int _ _) rfl hb) (sv (d := .int _ 1) rfl) rfl hx44)) <|
    ils_cons rfl (iop_andx rfl rfl (by decide) (sv (d := .bool _) rfl) rfl rfl hx45) <|
    ils_cons rfl (iop_move rfl rfl (by decide) (sv (d := .bool _) rfl)) <|
    ils_guard rfl rfl (.one rfl) rfl (by decide) (fun hb => (iop_load_ra (cs := [.bool _, .int _ _, .int _ _, .slice _ _, .slice _ _, .int _ _, .int _ _, .int _ _, .int _ _]) rfl rfl (by decide) Try.underlying27 ag27 ti27 (by decide) (sv (d := .ref _ _) rfl) rfl (nle rfl) rfl)) <|
    ils_guard rfl rfl (.one rfl) rfl (by decide) (fun hb => (iop_call (r := .int _ _) rfl rfl (by decide) cl23 (.cons (svc (d := .agg [.bool x7.1.Odd, .int .i64 x7.1.Next, .int .i64 x7.1.Last, .slice false (x7.1.Live.map (eInt .i64).d), .slice false (x7.1.Cut.map (eInt .i64).d), .int .i64 x7.1.Mine, .int .i64 x7.1.Hers, .int .i64 x7.1.Heard, .int .i64 x7.1.Told]) rfl hb) (.cons (sv (d := .int _ 5) rfl) .nil)) rfl (p_stid_Class _ _ _ (gd_t hx46 hb)))) <|
    ils_guard rfl rfl (.one rfl) rfl (by decide) (fun hb => (iop_cmpx rfl rfl (by decide) (svc (d := .int _ _) rfl hb) (sv (d := .int _ 6) rfl) rfl hx47)) <|
    ils_cons rfl (iop_andx rfl rfl (by decide) (sv (d := .bool _) rfl) rfl rfl hx48) <|
    ils_cons rfl (iop_move rfl rfl (by decide) (sv (d := .bool _) rfl)) <|
    ils_guard rfl rfl (.one rfl) rfl (by decide) (fun hb => (iop_load_ra (cs := [.bool _, .int _ _, .int _ _, .slice _ _, .slice _ _, .int _ _, .int _ _, .int _ _, .int _ _]) rfl rfl (by decide) Try.underlying27 ag27 ti27 (by decide) (sv (d := .ref _ _) rfl) rfl (nle rfl) rfl)) <|
    ils_guard rfl rfl (.one rfl) rfl (by decide) (fun hb => (iop_call (r := .agg [.bool _, .int _ _, .int _ _, .slice _ _, .slice _ _, .int _ _, .int _ _, .int _ _, .int _ _]) rfl rfl (by decide) cl12 (.cons (svc (d := .agg [.bool x7.1.Odd, .int .i64 x7.1.Next, .int .i64 x7.1.Last, .slice false (x7.1.Live.map (eInt .i64).d), .slice false (x7.1.Cut.map (eInt .i64).d), .int .i64 x7.1.Mine, .int .i64 x7.1.Hers, .int .i64 x7.1.Heard, .int .i64 x7.1.Told]) rfl hb) (.cons (sv (d := .int _ 2) rfl) (.cons (sv (d := .bool true) rfl) .nil))) rfl (p_stid_End _ _ _ _ (gd_t hx49 hb)))) <|
    ils_guard rfl rfl (.one rfl) rfl (by decide) (fun hb => (iop_call (r := .int _ _) rfl rfl (by decide) cl23 (.cons (svc (d := .agg [.bool x49.Odd, .int .i64 x49.Next, .int .i64 x49.Last, .slice false (x49.Live.map (eInt .i64).d), .slice false (x49.Cut.map (eInt .i64).d), .int .i64 x49.Mine, .int .i64 x49.Hers, .int .i64 x49.Heard, .int .i64 x49.Told]) rfl hb) (.cons (sv (d := .int _ 2) rfl) .nil)) rfl (p_stid_Class _ _ _ (gd_t hx50 hb)))) <|
    ils_guard rfl rfl (.one rfl) rfl (by decide) (fun hb => (iop_cmpx rfl rfl (by decide) (svc (d := .int _ _) rfl hb) (sv (d := .int _ 5) rfl) rfl hx51)) <|
    ils_cons rfl (iop_andx rfl rfl (by decide) (sv (d := .bool _) rfl) rfl rfl hx52) <|
    ils_cons rfl (iop_move rfl rfl (by decide) (sv (d := .bool _) rfl)) <|
    ils_guard rfl rfl (.one rfl) rfl (by decide) (fun hb => (iop_load_ra (cs := [.bool _, .int _ _, .int _ _, .slice _ _, .slice _ _, .int _ _, .int _ _, .int _ _, .int _ _]) rfl rfl (by decide) Try.underlying27 ag27 ti27 (by decide) (sv (d := .ref _ _) rfl) rfl (nle rfl) rfl)) <|
    ils_guard rfl rfl (.one rfl) rfl (by decide) (fun hb => (iop_call (r := .bool _) rfl rfl (by decide) cl24 (.cons (svc (d := .agg [.bool x7.1.Odd, .int .i64 x7.1.Next, .int .i64 x7.1.Last, .slice false (x7.1.Live.map (eInt .i64).d), .slice false (x7.1.Cut.map (eInt .i64).d), .int .i64 x7.1.Mine, .int .i64 x7.1.Hers, .int .i64 x7.1.Heard, .int .i64 x7.1.Told]) rfl hb) (.cons (sv (d := .int _ 5) rfl) .nil)) rfl (p_stid_Own _ _ _ (gd_t hx53 hb)))) <|
    ils_cons rfl (iop_andx rfl rfl (by decide) (sv (d := .bool _) rfl) rfl rfl hx54) <|
    ils_cons rfl (iop_move rfl rfl (by decide) (sv (d := .bool _) rfl)) <|
    ils_guard rfl rfl (.one rfl) rfl (by decide) (fun hb => (iop_load_ra (cs := [.bool _, .int _ _, .int _ _, .slice _ _, .slice _ _, .int _ _, .int _ _, .int _ _, .int _ _]) rfl rfl (by decide) Try.underlying27 ag27 ti27 (by decide) (sv (d := .ref _ _) rfl) rfl (nle rfl) rfl)) <|
    ils_guard rfl rfl (.one rfl) rfl (by decide) (fun hb => (iop_call (r := .bool _) rfl rfl (by decide) cl24 (.cons (svc (d := .agg [.bool x7.1.Odd, .int .i64 x7.1.Next, .int .i64 x7.1.Last, .slice false (x7.1.Live.map (eInt .i64).d), .slice false (x7.1.Cut.map (eInt .i64).d), .int .i64 x7.1.Mine, .int .i64 x7.1.Hers, .int .i64 x7.1.Heard, .int .i64 x7.1.Told]) rfl hb) (.cons (sv (d := .int _ 4) rfl) .nil)) rfl (p_stid_Own _ _ _ (gd_t hx55 hb)))) <|
    ils_guard rfl rfl (.one rfl) rfl (by decide) (fun hb => (iop_not rfl rfl (by decide) (svc (d := .bool _) rfl hb))) <|
    ils_cons rfl (iop_andx rfl rfl (by decide) (sv (d := .bool _) rfl) rfl rfl hx56) <|
    ils_cons rfl (iop_move rfl rfl (by decide) (sv (d := .bool _) rfl)) <|
    ils_guard rfl rfl (.one rfl) rfl (by decide) (fun hb => (iop_load_ra (cs := [.bool _, .int _ _, .int _ _, .slice _ _, .slice _ _, .int _ _, .int _ _, .int _ _, .int _ _]) rfl rfl (by decide) Try.underlying27 ag27 ti27 (by decide) (sv (d := .ref _ _) rfl) rfl (nle rfl) rfl)) <|
    ils_guard rfl rfl (.one rfl) rfl (by decide) (fun hb => (iop_call (r := .int _ _) rfl rfl (by decide) cl26 (.cons (svc (d := .agg [.bool x8.1.Odd, .int .i64 x8.1.Next, .int .i64 x8.1.Last, .slice false (x8.1.Live.map (eInt .i64).d), .slice false (x8.1.Cut.map (eInt .i64).d), .int .i64 x8.1.Mine, .int .i64 x8.1.Hers, .int .i64 x8.1.Heard, .int .i64 x8.1.Told]) rfl hb) .nil) rfl (p_stid_Check _ _ (gd_t hx57 hb)))) <|
    ils_guard rfl rfl (.one rfl) rfl (by decide) (fun hb => (iop_cmpx rfl rfl (by decide) (svc (d := .int _ _) rfl hb) (sv (d := .int _ 0) rfl) rfl hx58)) <|
    ils_cons rfl (iop_andx rfl rfl (by decide) (sv (d := .bool _) rfl) rfl rfl hx59) <|
    ils_cons rfl (iop_move rfl rfl (by decide) (sv (d := .bool _) rfl)) <|
    ils_guard rfl rfl (.one rfl) rfl (by decide) (fun hb => (iop_sub (d' := .agg [.bool false, .int .i64 0, .int .i64 0, .slice false (([] : List Int).map (eInt .i64).d), .slice false (([] : List Int).map (eInt .i64).d), .int .i64 0, .int .i64 0, .int .i64 0, .int .i64 0]) (iop_build_struct (cs := [.bool _, .int _ _, .int _ _, .nils, .nils, .int _ _, .int _ _, .int _ _, .int _ _]) rfl rfl (by decide) Try.underlying27 ti27 pl27 rfl .nil rfl) (.agg (.cons (.refl _) (.cons (.refl _) (.cons (.refl _) (.cons (.nils _) (.cons (.nils _) (.cons (.refl _) (.cons (.refl _) (.cons (.refl _) (.cons (.refl _) .nil)))))))))))) <|
    ils_guard rfl rfl (.one rfl) rfl (by decide) (fun hb => (iop_call (r := .int _ _) rfl rfl (by decide) cl26 (.cons (svc (d := .agg [.bool false, .int .i64 0, .int .i64 0, .slice false (([] : List Int).map (eInt .i64).d), .slice false (([] : List Int).map (eInt .i64).d), .int .i64 0, .int .i64 0, .int .i64 0, .int .i64 0]) rfl hb) .nil) rfl (p_stid_Check _ _ (gd_t hx60 hb)))) <|
    ils_guard rfl rfl (.one rfl) rfl (by decide) (fun hb => (iop_cmpx rfl rfl (by decide) (svc (d := .int _ _) rfl hb) (sv (d := .int _ 8) rfl) rfl hx61)) <|
    ils_cons rfl (iop_andx rfl rfl (by decide) (sv (d := .bool _) rfl) rfl rfl hx62) <|
    ils_cons rfl (iop_move rfl rfl (by decide) (sv (d := .bool _) rfl)) <|
    ils_guard rfl rfl (.one rfl) rfl (by decide) (fun hb => (iop_load_ra (cs := [.bool _, .int _ _, .int _ _, .slice _ _, .slice _ _, .int _ _, .int _ _, .int _ _, .int _ _]) rfl rfl (by decide) Try.underlying27 ag27 ti27 (by decide) (sv (d := .ref _ _) rfl) rfl (nle rfl) rfl)) <|
    ils_guard rfl rfl (.one rfl) rfl (by decide) (fun hb => (iop_load_ra (cs := [.bool _, .int _ _, .int _ _, .slice _ _, .slice _ _, .int _ _, .int _ _, .int _ _, .int _ _]) rfl rfl (by decide) Try.underlying27 ag27 ti27 (by decide) (sv (d := .ref _ _) rfl) rfl (nle rfl) rfl)) <|
    ils_guard rfl rfl (.one rfl) rfl (by decide) (fun hb => (iop_call (r := .bool _) rfl rfl (by decide) cl27 (.cons (svc (d := .agg [.bool x7.1.Odd, .int .i64 x7.1.Next, .int .i64 x7.1.Last, .slice false (x7.1.Live.map (eInt .i64).d), .slice false (x7.1.Cut.map (eInt .i64).d), .int .i64 x7.1.Mine, .int .i64 x7.1.Hers, .int .i64 x7.1.Heard, .int .i64 x7.1.Told]) rfl hb) (.cons (svc (d := .agg [.bool x7.1.Odd, .int .i64 x7.1.Next, .int .i64 x7.1.Last, .slice false (x7.1.Live.map (eInt .i64).d), .slice false (x7.1.Cut.map (eInt .i64).d), .int .i64 x7.1.Mine, .int .i64 x7.1.Hers, .int .i64 x7.1.Heard, .int .i64 x7.1.Told]) rfl hb) .nil)) rfl (p_stid_Same _ _ _ (gd_t hx63 hb)))) <|
    ils_cons rfl (iop_andx rfl rfl (by decide) (sv (d := .bool _) rfl) rfl rfl hx64) <|
    ils_cons rfl (iop_move rfl rfl (by decide) (sv (d := .bool _) rfl)) <|
    ils_guard rfl rfl (.one rfl) rfl (by decide) (fun hb => (iop_load_ra (cs := [.bool _, .int _ _, .int _ _, .slice _ _, .slice _ _, .int _ _, .int _ _, .int _ _, .int _ _]) rfl rfl (by decide) Try.underlying27 ag27 ti27 (by decide) (sv (d := .ref _ _) rfl) rfl (nle rfl) rfl)) <|
    ils_guard rfl rfl (.one rfl) rfl (by decide) (fun hb => (iop_load_ra (cs := [.bool _, .int _ _, .int _ _, .slice _ _, .slice _ _, .int _ _, .int _ _, .int _ _, .int _ _]) rfl rfl (by decide) Try.underlying27 ag27 ti27 (by decide) (sv (d := .ref _ _) rfl) rfl (nle rfl) rfl)) <|
    ils_guard rfl rfl (.one rfl) rfl (by decide) (fun hb => (iop_call (r := .bool _) rfl rfl (by decide) cl27 (.cons (svc (d := .agg [.bool x6.1.Odd, .int .i64 x6.1.Next, .int .i64 x6.1.Last, .slice false (x6.1.Live.map (eInt .i64).d), .slice false (x6.1.Cut.map (eInt .i64).d), .int .i64 x6.1.Mine, .int .i64 x6.1.Hers, .int .i64 x6.1.Heard, .int .i64 x6.1.Told]) rfl hb) (.cons (svc (d := .agg [.bool x7.1.Odd, .int .i64 x7.1.Next, .int .i64 x7.1.Last, .slice false (x7.1.Live.map (eInt .i64).d), .slice false (x7.1.Cut.map (eInt .i64).d), .int .i64 x7.1.Mine, .int .i64 x7.1.Hers, .int .i64 x7.1.Heard, .int .i64 x7.1.Told]) rfl hb) .nil)) rfl (p_stid_Same _ _ _ (gd_t hx65 hb)))) <|
    ils_guard rfl rfl (.one rfl) rfl (by decide) (fun hb => (iop_not rfl rfl (by decide) (svc (d := .bool _) rfl hb))) <|
    ils_cons rfl (iop_andx rfl rfl (by decide) (sv (d := .bool _) rfl) rfl rfl hx66) <|
    ils_cons rfl (iop_move rfl rfl (by decide) (sv (d := .bool _) rfl)) <|
    ils_cons rfl (iop_pickc rfl rfl (by decide) (sv (d := .bool _) rfl) rfl rfl hx67) <|
    ils_cons rfl (iop_move rfl rfl (by decide) (sv (d := .bool _) rfl)) <|
    ils_cons rfl (iop_pickc rfl rfl (by decide) (sv (d := .bool _) rfl) rfl rfl hx68) <|
    ils_cons rfl (iop_move rfl rfl (by decide) (sv (d := .bool _) rfl)) <|
    ils_cons rfl (iop_pickc rfl rfl (by decide) (sv (d := .bool _) rfl) rfl rfl hx69) <|
    ils_cons rfl (iop_assign rfl rfl (by decide) (sv (d := .bool _) rfl)) <|
    ils_end ?_)
  refine iwp_ret ?_
  obtain rfl := Option.some.inj h
  refine ⟨.inr rfl, (.cons (sv rfl) .nil)⟩

set_option maxRecDepth 8000 in
set_option maxHeartbeats 2000000 in
theorem p_sennitlaw22_StidOnce (a0 : Bool) (a1 : (List T_sennitlaw22_Act)) (r : Bool) (h : sennitlaw22_StidOnce a0 a1 = some r) : PureAt Try.prog 4 [.bool a0, .slice false (a1.map E_sennitlaw22_Act.d)] (.bool r) := by
  refine pure_of_iwp (rs := [.bool r]) Try.func4 rfl Try.ntmps4 (nle rfl) rfl fun O hO => ?_
  show IWP _ _ _ _ ⟨[(0, .bool a0), (1, .slice false (a1.map E_sennitlaw22_Act.d))], []⟩ _
  unfold sennitlaw22_StidOnce at h
  refine iwp_reg (ils_cons rfl (iop_assign rfl rfl (by decide) (sv (d := .bool false) rfl)) <|
    ils_end ?_)
  refine iwp_seq ?_
  obtain ⟨x1, hx1, h⟩ := bnd_e h
  refine iwp_reg (ils_cons rfl (iop_move rfl rfl (by decide) (sv (d := .slice _ _) rfl)) <|
    ils_cons rfl (iop_lenT E_sennitlaw22_Act (l := a1) rfl rfl (by decide) Try.underlying58 (sv (d := .slice _ _) rfl)) <|
    ils_cons rfl (iop_cmpx rfl rfl (by decide) (sv (d := .int _ _) rfl) (sv (d := .int _ 100) rfl) rfl hx1) <|
    ils_end ?_)
  refine iwp_cond (b := _) rfl (fun hc2 => ?_) (fun hc2 => ?_)
  ·
    replace h := bif_t h hc2
    obtain ⟨x3, hx3, h⟩ := bno_e h
    refine iwp_reg (ils_cons rfl (iop_call (r := .bool _) rfl rfl (by decide) cl7 .nil rfl (p_sennitlaw22_awake  _ hx3)) <|
      ils_cons rfl (iop_assign rfl rfl (by decide) (sv (d := .bool _) rfl)) <|
      ils_end ?_)
    refine iwp_ret ?_
    refine thenQ_r ?_
    obtain rfl := Option.some.inj h
    refine ⟨.inr rfl, (.cons (sv rfl) .nil)⟩
  ·
    replace h := bif_f h hc2
    refine iwp_skip ?_
    refine thenQ_n ?_
    obtain ⟨x4, hx4, h⟩ := bno_e h
    refine iwp_reg (ils_cons rfl (iop_move rfl rfl (by decide) (sv (d := .bool _) rfl)) <|
      ils_cons rfl (iop_call (r := .tuple [.agg [.bool _, .int _ _, .int _ _, .slice _ _, .slice _ _, .int _ _, .int _ _, .int _ _, .int _ _], .int _ _]) rfl rfl (by decide) cl22 (.cons (sv (d := .bool _) rfl) (.cons (sv (d := .int _ 8) rfl) (.cons (sv (d := .int _ 5) rfl) .nil))) rfl (p_stid_New _ _ _ _ hx4)) <|
      ils_cons rfl (iop_move rfl rfl (by decide) (sv (d := .tuple [.agg [.bool _, .int _ _, .int _ _, .slice _ _, .slice _ _, .int _ _, .int _ _, .int _ _, .int _ _], .int _ _]) rfl)) <|
      ils_cons rfl (iop_extract (d := .agg [.bool _, .int _ _, .int _ _, .slice _ _, .slice _ _, .int _ _, .int _ _, .int _ _, .int _ _]) rfl rfl (by decide) (sv (d := .tuple [.agg [.bool _, .int _ _, .int _ _, .slice _ _, .slice _ _, .int _ _, .int _ _, .int _ _, .int _ _], .int _ _]) rfl) rfl) <|
      ils_cons rfl (iop_extract (d := .int _ _) rfl rfl (by decide) (sv (d := .tuple [.agg [.bool _, .int _ _, .int _ _, .slice _ _, .slice _ _, .int _ _, .int _ _, .int _ _, .int _ _], .int _ _]) rfl) rfl) <|
      ils_cons rfl (iop_allocS (cs := [.bool _, .int _ _, .int _ _, .nils, .nils, .int _ _, .int _ _, .int _ _, .int _ _]) (cs' := [.bool false, .int .i64 0, .int .i64 0, .slice false (([] : List Int).map (eInt .i64).d), .slice false (([] : List Int).map (eInt .i64).d), .int .i64 0, .int .i64 0, .int .i64 0, .int .i64 0]) 0 rfl rfl (by decide) rfl ti27 rfl rfl (.cons (.refl _) (.cons (.refl _) (.cons (.refl _) (.cons (.nils _) (.cons (.nils _) (.cons (.refl _) (.cons (.refl _) (.cons (.refl _) (.cons (.refl _) .nil)))))))))) <|
      ils_cons rfl (iop_store (ds' := [.bool _, .int _ _, .int _ _, .slice _ _, .slice _ _, .int _ _, .int _ _, .int _ _, .int _ _]) rfl rfl ti27 (sv (d := .ref _ _) rfl) rfl (sv (d := .agg [.bool _, .int _ _, .int _ _, .slice _ _, .slice _ _, .int _ _, .int _ _, .int _ _, .int _ _]) rfl) rfl rfl rfl (nle rfl) rfl) <|
      ils_cons rfl (iop_assign rfl rfl (by decide) (sv (d := .int _ _) rfl)) <|
      ils_end ?_)
    refine iwp_seq ?_
    obtain ⟨x5, hx5, h⟩ := bnd_e h
    refine iwp_reg (ils_cons rfl (iop_move rfl rfl (by decide) (sv (d := .int _ _) rfl)) <|
      ils_cons rfl (iop_cmpx rfl rfl (by decide) (sv (d := .int _ _) rfl) (sv (d := .int _ 0) rfl) rfl hx5) <|
      ils_end ?_)
    refine iwp_cond (b := _) rfl (fun hc6 => ?_) (fun hc6 => ?_)
    ·
      replace h := bif_t h hc6
      refine iwp_reg (ils_cons rfl (iop_assign rfl rfl (by decide) (sv (d := .bool false) rfl)) <|
        ils_end ?_)
      refine iwp_ret ?_
      refine thenQ_r ?_
      obtain rfl := Option.some.inj h
      refine ⟨.inr rfl, (.cons (sv rfl) .nil)⟩
    ·
      replace h := bif_f h hc6
      refine iwp_skip ?_
      refine thenQ_n ?_
      obtain ⟨x7, hx7, h⟩ := bnd_e h
      refine iwp_reg (ils_cons rfl (iop_eqE hx7 (iop_alloc_A eBool.toEnc0 (n := 600) (a := false) 1 rfl rfl (by decide) rfl ti61 rfl rfl)) <|
        ils_end ?_)
      refine iwp_reg (ils_cons rfl (iop_assign rfl rfl (by decide) (sv (d := .bool false) rfl)) <|
        ils_cons rfl (iop_assign rfl rfl (by decide) (sv (d := .bool false) rfl)) <|
        ils_end ?_)
      refine iwp_seq ?_
      refine iwp_reg (ils_cons rfl (iop_assign rfl rfl (by decide) (sv (d := .int _ 0) rfl)) <|
        ils_end ?_)
      refine iwp_block ?_
      refine iwp_loopP (α := Nat × Bool × Bool × Int × Bool × Int × Int × (List Int) × (List Int) × Int × Int × Int × Int × (List Bool)) (fun z => ⟨[(1, .slice false (a1.map E_sennitlaw22_Act.d)), (5, .ref 0 0), (7, .ref 1 0), (8, .bool z.2.1), (9, .bool z.2.2.1), (10, .int .i64 z.2.2.2.1)], [(0, .blk 27 [.bool z.2.2.2.2.1, .int .i64 z.2.2.2.2.2.1, .int .i64 z.2.2.2.2.2.2.1, .slice false (z.2.2.2.2.2.2.2.1.map (eInt .i64).d), .slice false (z.2.2.2.2.2.2.2.2.1.map (eInt .i64).d), .int .i64 z.2.2.2.2.2.2.2.2.2.1, .int .i64 z.2.2.2.2.2.2.2.2.2.2.1, .int .i64 z.2.2.2.2.2.2.2.2.2.2.2.1, .int .i64 z.2.2.2.2.2.2.2.2.2.2.2.2.1]), (1, .blk 61 (D.flat (z.2.2.2.2.2.2.2.2.2.2.2.2.2.map eBool.d)))]⟩) (fun z => sennitlaw22_StidOnce_L0 a1 z.1 z.2.1 z.2.2.1 z.2.2.2.1 z.2.2.2.2.1 z.2.2.2.2.2.1 z.2.2.2.2.2.2.1 z.2.2.2.2.2.2.2.1 z.2.2.2.2.2.2.2.2.1 z.2.2.2.2.2.2.2.2.2.1 z.2.2.2.2.2.2.2.2.2.2.1 z.2.2.2.2.2.2.2.2.2.2.2.1 z.2.2.2.2.2.2.2.2.2.2.2.2.1 z.2.2.2.2.2.2.2.2.2.2.2.2.2 = some r) (fun z => z.1) (fuel, false, false, 0, x4.1.Odd, x4.1.Next, x4.1.Last, x4.1.Live, x4.1.Cut, x4.1.Mine, x4.1.Hers, x4.1.Heard, x4.1.Told, x7) (fun i => i) ⟨(.cons (.same rfl rfl) (.cons (.same rfl rfl) (.cons (.same rfl rfl) (.cons (.same rfl rfl) (.cons (.same rfl rfl) (.cons (.same rfl rfl) .nil)))))), (.cons (.blk rfl rfl rfl) (.cons (EntW.lst rfl) .nil)), nd_of [0, 1] rfl (by decide), (fun i hi => by first | rfl | (show (if _ then _ else _) = _; (repeat' split) <;> omega))⟩ ?_ ?_
      · exact h
      ·
        rintro ⟨n0, v278, v279, v280, v281, v282, v283, v284, v285, v286, v287, v288, v289, v290⟩ h
        cases n0 with
        | zero => exact absurd h (by unfold sennitlaw22_StidOnce_L0; exact nofun)
        | succ n0 =>
          unfold sennitlaw22_StidOnce_L0 at h
          refine iwp_seq ?_
          obtain ⟨x569, hx569, h⟩ := bnd_e h
          refine iwp_reg (ils_cons rfl (iop_move rfl rfl (by decide) (sv (d := .int _ _) rfl)) <|
            ils_cons rfl (iop_move rfl rfl (by decide) (sv (d := .slice _ _) rfl)) <|
            ils_cons rfl (iop_lenT E_sennitlaw22_Act (l := a1) rfl rfl (by decide) Try.underlying58 (sv (d := .slice _ _) rfl)) <|
            ils_cons rfl (iop_cmpx rfl rfl (by decide) (sv (d := .int _ _) rfl) (sv (d := .int _ _) rfl) rfl hx569) <|
            ils_end ?_)
          refine iwp_cond (b := _) rfl (fun hc570 => ?_) (fun hc570 => ?_)
          ·
            replace h := bif_t h hc570
            refine iwp_skip ?_
            refine thenQ_n ?_
            refine iwp_seq ?_
            refine iwp_block ?_
            obtain ⟨x571, hx571, h⟩ := bno_e h
            obtain ⟨x572, hx572, h⟩ := bnd_e h
            refine iwp_reg (ils_cons rfl (iop_move rfl rfl (by decide) (sv (d := .slice _ _) rfl)) <|
              ils_cons rfl (iop_move rfl rfl (by decide) (sv (d := .int _ _) rfl)) <|
              ils_cons rfl (iop_idxT E_sennitlaw22_Act (cs := [.int _ _, .int _ _]) rfl rfl (by decide) Try.underlying58 ti63 (sv (d := .slice _ _) rfl) (sv (d := .int _ _) rfl) hx571 rfl rfl) <|
              ils_cons rfl (iop_fieldAddr_fptr (cs' := [.int _ _]) rfl rfl (by decide) Try.underlying63 rfl ti5 (by decide) (sv (d := .fptr [.int _ _, .int _ _]) rfl) rfl) <|
              ils_cons rfl (iop_load_fs rfl rfl (by decide) Try.underlying5 ag5 ti5 (by decide) (sv (d := .fptr [.int _ _]) rfl) (nle rfl)) <|
              ils_cons rfl (iop_int_conv rfl rfl (by decide) ⟨_, Try.underlying5⟩ Try.underlying3 (sv (d := .int _ _) rfl) hx572) <|
              ils_cons rfl (iop_assign rfl rfl (by decide) (sv (d := .int _ _) rfl)) <|
              ils_end ?_)
            refine iwp_reg (ils_cons rfl (iop_load_ra (cs := [.bool _, .int _ _, .int _ _, .slice _ _, .slice _ _, .int _ _, .int _ _, .int _ _, .int _ _]) rfl rfl (by decide) Try.underlying27 ag27 ti27 (by decide) (sv (d := .ref _ _) rfl) rfl (nle rfl) rfl) <|
              ils_cons rfl (iop_allocS (cs := [.bool _, .int _ _, .int _ _, .nils, .nils, .int _ _, .int _ _, .int _ _, .int _ _]) (cs' := [.bool false, .int .i64 0, .int .i64 0, .slice false (([] : List Int).map (eInt .i64).d), .slice false (([] : List Int).map (eInt .i64).d), .int .i64 0, .int .i64 0, .int .i64 0, .int .i64 0]) 2 rfl rfl (by decide) rfl ti27 rfl rfl (.cons (.refl _) (.cons (.refl _) (.cons (.refl _) (.cons (.nils _) (.cons (.nils _) (.cons (.refl _) (.cons (.refl _) (.cons (.refl _) (.cons (.refl _) .nil)))))))))) <|
              ils_cons rfl (iop_store (ds' := [.bool _, .int _ _, .int _ _, .slice _ _, .slice _ _, .int _ _, .int _ _, .int _ _, .int _ _]) rfl rfl ti27 (sv (d := .ref _ _) rfl) rfl (sv (d := .agg [.bool _, .int _ _, .int _ _, .slice _ _, .slice _ _, .int _ _, .int _ _, .int _ _, .int _ _]) rfl) rfl rfl rfl (nle rfl) rfl) <|
              ils_end ?_)
            refine iwp_join (α := Bool × Bool × (List Bool) × Bool × Int × Int × (List Int) × (List Int) × Int × Int × Int × Int) (fun z => ⟨[(1, .slice false (a1.map E_sennitlaw22_Act.d)), (5, .ref 0 0), (7, .ref 1 0), (8, .bool z.1), (9, .bool z.2.1), (10, .int .i64 v280), (12, .ref 2 0)], [(0, .blk 27 [.bool v281, .int .i64 v282, .int .i64 v283, .slice false (v284.map (eInt .i64).d), .slice false (v285.map (eInt .i64).d), .int .i64 v286, .int .i64 v287, .int .i64 v288, .int .i64 v289]), (1, .blk 61 (D.flat (z.2.2.1.map eBool.d))), (2, .blk 27 [.bool z.2.2.2.1, .int .i64 z.2.2.2.2.1, .int .i64 z.2.2.2.2.2.1, .slice false (z.2.2.2.2.2.2.1.map (eInt .i64).d), .slice false (z.2.2.2.2.2.2.2.1.map (eInt .i64).d), .int .i64 z.2.2.2.2.2.2.2.2.1, .int .i64 z.2.2.2.2.2.2.2.2.2.1, .int .i64 z.2.2.2.2.2.2.2.2.2.2.1, .int .i64 z.2.2.2.2.2.2.2.2.2.2.2])]⟩) (fun z => sennitlaw22_StidOnce_J2 v280 (sennitlaw22_StidOnce_L0 a1 n0) z.1 z.2.1 z.2.2.1 z.2.2.2.1 z.2.2.2.2.1 z.2.2.2.2.2.1 z.2.2.2.2.2.2.1 z.2.2.2.2.2.2.2.1 z.2.2.2.2.2.2.2.2.1 z.2.2.2.2.2.2.2.2.2.1 z.2.2.2.2.2.2.2.2.2.2.1 z.2.2.2.2.2.2.2.2.2.2.2 = some r) ?_ ?_
            ·
              obtain ⟨x741, hx741, h⟩ := bno_e h
              obtain ⟨x742, hx742, h⟩ := bno_e h
              refine iwp_reg (ils_cons rfl (iop_move rfl rfl (by decide) (sv (d := .slice _ _) rfl)) <|
                ils_cons rfl (iop_move rfl rfl (by decide) (sv (d := .int _ _) rfl)) <|
                ils_cons rfl (iop_idxT E_sennitlaw22_Act (cs := [.int _ _, .int _ _]) rfl rfl (by decide) Try.underlying58 ti63 (sv (d := .slice _ _) rfl) (sv (d := .int _ _) rfl) hx741 rfl rfl) <|
                ils_cons rfl (iop_fieldAddr_fptr (cs' := [.int _ _]) rfl rfl (by decide) Try.underlying63 rfl ti5 (by decide) (sv (d := .fptr [.int _ _, .int _ _]) rfl) rfl) <|
                ils_cons rfl (iop_load_fs rfl rfl (by decide) Try.underlying5 ag5 ti5 (by decide) (sv (d := .fptr [.int _ _]) rfl) (nle rfl)) <|
                ils_cons rfl (iop_remx rfl rfl (by decide) (sv (d := .int _ _) rfl) (sv (d := .int _ 5) rfl) hx742) <|
                ils_end ?_)
              refine iwp_block ?_
              obtain ⟨x743, hx743, h⟩ := bnd_e h
              refine iwp_reg (ils_cons rfl (iop_cmpx rfl rfl (by decide) (sv (d := .int _ _) rfl) (sv (d := .int _ 0) rfl) rfl hx743) <|
                ils_cons rfl (iop_assign rfl rfl (by decide) (sv (d := .bool _) rfl)) <|
                ils_end ?_)
              refine iwp_cond (b := _) rfl (fun hc744 => ?_) (fun hc744 => ?_)
              ·
                replace h := bif_t h hc744
                obtain ⟨x745, hx745, h⟩ := bno_e h
                refine iwp_reg (ils_cons rfl (iop_load_ra (cs := [.bool _, .int _ _, .int _ _, .slice _ _, .slice _ _, .int _ _, .int _ _, .int _ _, .int _ _]) rfl rfl (by decide) Try.underlying27 ag27 ti27 (by decide) (sv (d := .ref _ _) rfl) rfl (nle rfl) rfl) <|
                  ils_cons rfl (iop_call (r := .tuple [.agg [.bool _, .int _ _, .int _ _, .slice _ _, .slice _ _, .int _ _, .int _ _, .int _ _, .int _ _], .int _ _, .int _ _]) rfl rfl (by decide) cl8 (.cons (sv (d := .agg [.bool _, .int _ _, .int _ _, .slice _ _, .slice _ _, .int _ _, .int _ _, .int _ _, .int _ _]) rfl) .nil) rfl (p_stid_Open _ _ hx745)) <|
                  ils_cons rfl (iop_move rfl rfl (by decide) (sv (d := .tuple [.agg [.bool _, .int _ _, .int _ _, .slice _ _, .slice _ _, .int _ _, .int _ _, .int _ _, .int _ _], .int _ _, .int _ _]) rfl)) <|
                  ils_cons rfl (iop_extract (d := .agg [.bool _, .int _ _, .int _ _, .slice _ _, .slice _ _, .int _ _, .int _ _, .int _ _, .int _ _]) rfl rfl (by decide) (sv (d := .tuple [.agg [.bool _, .int _ _, .int _ _, .slice _ _, .slice _ _, .int _ _, .int _ _, .int _ _, .int _ _], .int _ _, .int _ _]) rfl) rfl) <|
                  ils_cons rfl (iop_extract (d := .int _ _) rfl rfl (by decide) (sv (d := .tuple [.agg [.bool _, .int _ _, .int _ _, .slice _ _, .slice _ _, .int _ _, .int _ _, .int _ _, .int _ _], .int _ _, .int _ _]) rfl) rfl) <|
                  ils_cons rfl (iop_extract (d := .int _ _) rfl rfl (by decide) (sv (d := .tuple [.agg [.bool _, .int _ _, .int _ _, .slice _ _, .slice _ _, .int _ _, .int _ _, .int _ _, .int _ _], .int _ _, .int _ _]) rfl) rfl) <|
                  ils_cons rfl (iop_allocS (cs := [.bool _, .int _ _, .int _ _, .nils, .nils, .int _ _, .int _ _, .int _ _, .int _ _]) (cs' := [.bool false, .int .i64 0, .int .i64 0, .slice false (([] : List Int).map (eInt .i64).d), .slice false (([] : List Int).map (eInt .i64).d), .int .i64 0, .int .i64 0, .int .i64 0, .int .i64 0]) 3 rfl rfl (by decide) rfl ti27 rfl rfl (.cons (.refl _) (.cons (.refl _) (.cons (.refl _) (.cons (.nils _) (.cons (.nils _) (.cons (.refl _) (.cons (.refl _) (.cons (.refl _) (.cons (.refl _) .nil)))))))))) <|
                  ils_cons rfl (iop_store (ds' := [.bool _, .int _ _, .int _ _, .slice _ _, .slice _ _, .int _ _, .int _ _, .int _ _, .int _ _]) rfl rfl ti27 (sv (d := .ref _ _) rfl) rfl (sv (d := .agg [.bool _, .int _ _, .int _ _, .slice _ _, .slice _ _, .int _ _, .int _ _, .int _ _, .int _ _]) rfl) rfl rfl rfl (nle rfl) rfl) <|
                  ils_cons rfl (iop_assign rfl rfl (by decide) (sv (d := .int _ _) rfl)) <|
                  ils_cons rfl (iop_assign rfl rfl (by decide) (sv (d := .int _ _) rfl)) <|
                  ils_end ?_)
                refine iwp_seq ?_
                obtain ⟨x746, hx746, h⟩ := bnd_e h
                obtain ⟨x747, hx747, h⟩ := bnd_e h
                obtain ⟨x748, hx748, h⟩ := bnd_e h
                obtain ⟨x749, hx749, h⟩ := bnd_e h
                obtain ⟨x750, hx750, h⟩ := bno_e h
                obtain ⟨hk751, h⟩ := chk_e h
                obtain ⟨x752, hx752, h⟩ := bno_e h
                obtain ⟨x753, hx753, h⟩ := bnd_e h
                obtain ⟨x754, hx754, h⟩ := bnd_e h
                obtain ⟨x755, hx755, h⟩ := bnd_e h
                obtain ⟨x756, hx756, h⟩ := bno_e h
                obtain ⟨x757, hx757, h⟩ := bnd_e h
                obtain ⟨x758, hx758, h⟩ := bnd_e h
                obtain ⟨x759, hx759, h⟩ := bno_e h
                obtain ⟨x760, hx760, h⟩ := bnd_e h
                obtain ⟨x761, hx761, h⟩ := bnd_e h
                refine iwp_reg (ils_cons rfl (iop_move rfl rfl (by decide) (sv (d := .int _ _) rfl)) <|
                  ils_cons rfl (iop_cmpx rfl rfl (by decide) (sv (d := .int _ _) rfl) (sv (d := .int _ 0) rfl) rfl hx746) <|
                  ils_cons rfl (iop_move rfl rfl (by decide) (sv (d := .bool _) rfl)) <|
                  ils_guard rfl rfl (.one rfl) rfl (by decide) (fun hb => (iop_move rfl rfl (by decide) (sv (d := .int _ _) rfl))) <|
                  ils_guard rfl rfl (.one rfl) rfl (by decide) (fun hb => (iop_cmpx rfl rfl (by decide) (svc (d := .int _ _) rfl hb) (sv (d := .int _ 1) rfl) rfl hx747)) <|
                  ils_guard rfl rfl (.one rfl) rfl (by decide) (fun hb => (iop_move rfl rfl (by decide) (svc (d := .bool _) rfl hb))) <|
                  ils_guard rfl rfl (.two rfl) rfl (by decide) (fun hb => (iop_move rfl rfl (by decide) (sv (d := .int _ _) rfl))) <|
                  ils_guard rfl rfl (.two rfl) rfl (by decide) (fun hb => (iop_cmpx rfl rfl (by decide) (svc (d := .int _ _) rfl hb) (sv (d := .int _ 599) rfl) rfl hx748)) <|
                  ils_guard rfl rfl (.one rfl) rfl (by decide) (fun hb => (iop_or2x rfl rfl (by decide) hb (svc (d := .bool _) rfl hb) rfl rfl hx749)) <|
                  ils_guard rfl rfl (.one rfl) rfl (by decide) (fun hb => (iop_move rfl rfl (by decide) (svc (d := .bool _) rfl hb))) <|
                  ils_guard rfl rfl (.two rfl) rfl (by decide) (fun hb => (iop_move rfl rfl (by decide) (sv (d := .int _ _) rfl))) <|
                  ils_guard rfl rfl (.two rfl) rfl (by decide) (fun hb => (iop_idxA eBool.toEnc0 rfl rfl (by decide) Try.underlying61 ti4 (sv (d := .ref _ _) rfl) (hk751 hb) (svc (d := .int _ _) rfl hb) (gd_t hx750 hb))) <|
                  ils_guard rfl rfl (.two rfl) rfl (by decide) (fun hb => (iop_loadEs eBool.toEnc0 (d := .bool _) rfl rfl (by decide) Try.underlying4 ag4 ti4 (by decide) (svc (d := .ref _ _) rfl hb) rfl (gd_t hx752 hb) (nle rfl) rfl)) <|
                  ils_guard rfl rfl (.one rfl) rfl (by decide) (fun hb => (iop_or2x rfl rfl (by decide) hb (svc (d := .bool _) rfl hb) rfl rfl hx753)) <|
                  ils_guard rfl rfl (.one rfl) rfl (by decide) (fun hb => (iop_move rfl rfl (by decide) (svc (d := .bool _) rfl hb))) <|
                  ils_guard rfl rfl (.two rfl) rfl (by decide) (fun hb => (iop_move rfl rfl (by decide) (sv (d := .bool _) rfl))) <|
                  ils_guard rfl rfl (.one rfl) rfl (by decide) (fun hb => (iop_or2x rfl rfl (by decide) hb (svc (d := .bool _) rfl hb) rfl rfl hx754)) <|
                  ils_guard rfl rfl (.one rfl) rfl (by decide) (fun hb => (iop_move rfl rfl (by decide) (svc (d := .bool _) rfl hb))) <|
                  ils_guard rfl rfl (.two rfl) rfl (by decide) (fun hb => (iop_move rfl rfl (by decide) (sv (d := .bool _) rfl))) <|
                  ils_guard rfl rfl (.one rfl) rfl (by decide) (fun hb => (iop_or2x rfl rfl (by decide) hb (svc (d := .bool _) rfl hb) rfl rfl hx755)) <|
                  ils_guard rfl rfl (.one rfl) rfl (by decide) (fun hb => (iop_move rfl rfl (by decide) (svc (d := .bool _) rfl hb))) <|
                  ils_guard rfl rfl (.two rfl) rfl (by decide) (fun hb => (iop_load_ra (cs := [.bool _, .int _ _, .int _ _, .slice _ _, .slice _ _, .int _ _, .int _ _, .int _ _, .int _ _]) rfl rfl (by decide) Try.underlying27 ag27 ti27 (by decide) (sv (d := .ref _ _) rfl) rfl (nle rfl) rfl)) <|
                  ils_guard rfl rfl (.two rfl) rfl (by decide) (fun hb => (iop_move rfl rfl (by decide) (sv (d := .int _ _) rfl))) <|
                  ils_guard rfl rfl (.two rfl) rfl (by decide) (fun hb => (iop_call (r := .int _ _) rfl rfl (by decide) cl23 (.cons (svc (d := .agg [.bool x745.1.Odd, .int .i64 x745.1.Next, .int .i64 x745.1.Last, .slice false (x745.1.Live.map (eInt .i64).d), .slice false (x745.1.Cut.map (eInt .i64).d), .int .i64 x745.1.Mine, .int .i64 x745.1.Hers, .int .i64 x745.1.Heard, .int .i64 x745.1.Told]) rfl hb) (.cons (svc (d := .int _ _) rfl hb) .nil)) rfl (p_stid_Class _ _ _ (gd_t hx756 hb)))) <|
                  ils_guard rfl rfl (.two rfl) rfl (by decide) (fun hb => (iop_cmpx rfl rfl (by decide) (svc (d := .int _ _) rfl hb) (sv (d := .int _ 2) rfl) rfl hx757)) <|
                  ils_guard rfl rfl (.one rfl) rfl (by decide) (fun hb => (iop_or2x rfl rfl (by decide) hb (svc (d := .bool _) rfl hb) rfl rfl hx758)) <|
                  ils_guard rfl rfl (.one rfl) rfl (by decide) (fun hb => (iop_move rfl rfl (by decide) (svc (d := .bool _) rfl hb))) <|
                  ils_guard rfl rfl (.two rfl) rfl (by decide) (fun hb => (iop_load_ra (cs := [.bool _, .int _ _, .int _ _, .slice _ _, .slice _ _, .int _ _, .int _ _, .int _ _, .int _ _]) rfl rfl (by decide) Try.underlying27 ag27 ti27 (by decide) (sv (d := .ref _ _) rfl) rfl (nle rfl) rfl)) <|
                  ils_guard rfl rfl (.two rfl) rfl (by decide) (fun hb => (iop_move rfl rfl (by decide) (sv (d := .int _ _) rfl))) <|
                  ils_guard rfl rfl (.two rfl) rfl (by decide) (fun hb => (iop_call (r := .bool _) rfl rfl (by decide) cl24 (.cons (svc (d := .agg [.bool x745.1.Odd, .int .i64 x745.1.Next, .int .i64 x745.1.Last, .slice false (x745.1.Live.map (eInt .i64).d), .slice false (x745.1.Cut.map (eInt .i64).d), .int .i64 x745.1.Mine, .int .i64 x745.1.Hers, .int .i64 x745.1.Heard, .int .i64 x745.1.Told]) rfl hb) (.cons (svc (d := .int _ _) rfl hb) .nil)) rfl (p_stid_Own _ _ _ (gd_t hx759 hb)))) <|
                  ils_guard rfl rfl (.two rfl) rfl (by decide) (fun hb => (iop_not rfl rfl (by decide) (svc (d := .bool _) rfl hb))) <|
                  ils_guard rfl rfl (.one rfl) rfl (by decide) (fun hb => (iop_or2x rfl rfl (by decide) hb (svc (d := .bool _) rfl hb) rfl rfl hx760)) <|
                  ils_cons rfl (iop_andx rfl rfl (by decide) (sv (d := .bool _) rfl) rfl rfl hx761) <|
                  ils_end ?_)
                refine iwp_cond (b := _) rfl (fun hc762 => ?_) (fun hc762 => ?_)
                ·
                  replace h := bif_t h hc762
                  refine iwp_reg (ils_cons rfl (iop_assign rfl rfl (by decide) (sv (d := .bool false) rfl)) <|
                    ils_end ?_)
                  refine iwp_ret ?_
                  refine thenQ_r ?_
                  refine blockQ_r ?_
                  refine thenQ_r ?_
                  refine blockQ_r ?_
                  refine thenQ_r ?_
                  refine thenQ_r ?_
                  refine blockQ_r ?_
                  refine thenQ_r ?_
                  obtain rfl := Option.some.inj h
                  refine ⟨.inr rfl, (.cons (sv rfl) .nil)⟩
                ·
                  replace h := bif_f h hc762
                  refine iwp_skip ?_
                  refine thenQ_n ?_
                  refine iwp_seq ?_
                  obtain ⟨x763, hx763, h⟩ := bnd_e h
                  refine iwp_reg (ils_cons rfl (iop_move rfl rfl (by decide) (sv (d := .int _ _) rfl)) <|
                    ils_cons rfl (iop_cmpx rfl rfl (by decide) (sv (d := .int _ _) rfl) (sv (d := .int _ 0) rfl) rfl hx763) <|
                    ils_end ?_)
                  refine iwp_cond (b := _) rfl (fun hc764 => ?_) (fun hc764 => ?_)
                  ·
                    replace h := bif_t h hc764
                    obtain ⟨x765, hx765, h⟩ := bno_e h
                    obtain ⟨hk766, h⟩ := chk_e h
                    obtain ⟨x767, hx767, h⟩ := bno_e h
                    obtain ⟨x768, hx768, h⟩ := bnd_e h
                    refine iwp_region (ils_cons rfl (iop_move rfl rfl (by decide) (sv (d := .int _ _) rfl)) <|
                      ils_cons rfl (iop_idxA eBool.toEnc0 rfl rfl (by decide) Try.underlying61 ti4 (sv (d := .ref _ _) rfl) hk766 (sv (d := .int _ _) rfl) hx765) <|
                      ils_cons rfl (iop_storeE eBool.toEnc0 (a' := true) rfl rfl ti4 (sv (d := .ref _ _) rfl) rfl (sv (d := .bool true) rfl) rfl rfl rfl hx767 (nle rfl) rfl hx768) <|
                      ils_nil ?_)
                    refine thenQ_n ?_
                    refine iwp_region (ils_cons rfl (iop_load_ra (cs := [.bool _, .int _ _, .int _ _, .slice _ _, .slice _ _, .int _ _, .int _ _, .int _ _, .int _ _]) rfl rfl (by decide) Try.underlying27 ag27 ti27 (by decide) (sv (d := .ref _ _) rfl) rfl (nle rfl) rfl) <|
                      ils_cons rfl (iop_store (ds' := [.bool _, .int _ _, .int _ _, .slice _ _, .slice _ _, .int _ _, .int _ _, .int _ _, .int _ _]) rfl rfl ti27 (sv (d := .ref _ _) rfl) rfl (sv (d := .agg [.bool _, .int _ _, .int _ _, .slice _ _, .slice _ _, .int _ _, .int _ _, .int _ _, .int _ _]) rfl) rfl rfl rfl (nle rfl) rfl) <|
                      ils_nil ?_)
                    refine blockQ_n ?_
                    refine thenQ_n ⟨(v278, v279, x768, x745.1.Odd, x745.1.Next, x745.1.Last, x745.1.Live, x745.1.Cut, x745.1.Mine, x745.1.Hers, x745.1.Heard, x745.1.Told), (fun i => i), ⟨(.cons (.same rfl rfl) (.cons (.same rfl rfl) (.cons (.same rfl rfl) (.cons (.same rfl rfl) (.cons (.same rfl rfl) (.cons (.same rfl rfl) (.cons (.same rfl rfl) .nil))))))), (.cons (.blk rfl rfl rfl) (.cons (EntW.lst rfl) (.cons (.blk rfl rfl rfl) .nil))), nd_of [0, 1, 2] rfl (by decide), (fun i hi => by first | rfl | (show (if _ then _ else _) = _; (repeat' split) <;> omega))⟩, ?_⟩
                    exact h
                  ·
                    replace h := bif_f h hc764
                    refine iwp_skip ?_
                    refine thenQ_n ?_
                    refine iwp_region (ils_cons rfl (iop_load_ra (cs := [.bool _, .int _ _, .int _ _, .slice _ _, .slice _ _, .int _ _, .int _ _, .int _ _, .int _ _]) rfl rfl (by decide) Try.underlying27 ag27 ti27 (by decide) (sv (d := .ref _ _) rfl) rfl (nle rfl) rfl) <|
                      ils_cons rfl (iop_store (ds' := [.bool _, .int _ _, .int _ _, .slice _ _, .slice _ _, .int _ _, .int _ _, .int _ _, .int _ _]) rfl rfl ti27 (sv (d := .ref _ _) rfl) rfl (sv (d := .agg [.bool _, .int _ _, .int _ _, .slice _ _, .slice _ _, .int _ _, .int _ _, .int _ _, .int _ _]) rfl) rfl rfl rfl (nle rfl) rfl) <|
                      ils_nil ?_)
                    refine blockQ_n ?_
                    refine thenQ_n ⟨(v278, v279, v290, x745.1.Odd, x745.1.Next, x745.1.Last, x745.1.Live, x745.1.Cut, x745.1.Mine, x745.1.Hers, x745.1.Heard, x745.1.Told), (fun i => i), ⟨(.cons (.same rfl rfl) (.cons (.same rfl rfl) (.cons (.same rfl rfl) (.cons (.same rfl rfl) (.cons (.same rfl rfl) (.cons (.same rfl rfl) (.cons (.same rfl rfl) .nil))))))), (.cons (.blk rfl rfl rfl) (.cons (EntW.lst rfl) (.cons (.blk rfl rfl rfl) .nil))), nd_of [0, 1, 2] rfl (by decide), (fun i hi => by first | rfl | (show (if _ then _ else _) = _; (repeat' split) <;> omega))⟩, ?_⟩
                    exact h
              ·
                replace h := bif_f h hc744
                obtain ⟨x769, hx769, h⟩ := bnd_e h
                refine iwp_reg (ils_cons rfl (iop_cmpx rfl rfl (by decide) (sv (d := .int _ _) rfl) (sv (d := .int _ 1) rfl) rfl hx769) <|
                  ils_cons rfl (iop_assign rfl rfl (by decide) (sv (d := .bool _) rfl)) <|
                  ils_end ?_)
                refine iwp_cond (b := _) rfl (fun hc770 => ?_) (fun hc770 => ?_)
                ·
                  replace h := bif_t h hc770
                  obtain ⟨x771, hx771, h⟩ := bno_e h
                  refine iwp_reg (ils_cons rfl (iop_load_ra (cs := [.bool _, .int _ _, .int _ _, .slice _ _, .slice _ _, .int _ _, .int _ _, .int _ _, .int _ _]) rfl rfl (by decide) Try.underlying27 ag27 ti27 (by decide) (sv (d := .ref _ _) rfl) rfl (nle rfl) rfl) <|
                    ils_cons rfl (iop_move rfl rfl (by decide) (sv (d := .int _ _) rfl)) <|
                    ils_cons rfl (iop_call (r := .tuple [.agg [.bool _, .int _ _, .int _ _, .slice _ _, .slice _ _, .int _ _, .int _ _, .int _ _, .int _ _], .agg [.int _ _, .int _ _]]) rfl rfl (by decide) cl10 (.cons (sv (d := .agg [.bool _, .int _ _, .int _ _, .slice _ _, .slice _ _, .int _ _, .int _ _, .int _ _, .int _ _]) rfl) (.cons (sv (d := .int _ _) rfl) .nil)) rfl (p_stid_Begin _ _ _ hx771)) <|
                    ils_cons rfl (iop_move rfl rfl (by decide) (sv (d := .tuple [.agg [.bool _, .int _ _, .int _ _, .slice _ _, .slice _ _, .int _ _, .int _ _, .int _ _, .int _ _], .agg [.int _ _, .int _ _]]) rfl)) <|
                    ils_cons rfl (iop_extract (d := .agg [.bool _, .int _ _, .int _ _, .slice _ _, .slice _ _, .int _ _, .int _ _, .int _ _, .int _ _]) rfl rfl (by decide) (sv (d := .tuple [.agg [.bool _, .int _ _, .int _ _, .slice _ _, .slice _ _, .int _ _, .int _ _, .int _ _, .int _ _], .agg [.int _ _, .int _ _]]) rfl) rfl) <|
                    ils_cons rfl (iop_extract (d := .agg [.int _ _, .int _ _]) rfl rfl (by decide) (sv (d := .tuple [.agg [.bool _, .int _ _, .int _ _, .slice _ _, .slice _ _, .int _ _, .int _ _, .int _ _, .int _ _], .agg [.int _ _, .int _ _]]) rfl) rfl) <|
                    ils_cons rfl (iop_allocS (cs := [.bool _, .int _ _, .int _ _, .nils, .nils, .int _ _, .int _ _, .int _ _, .int _ _]) (cs' := [.bool false, .int .i64 0, .int .i64 0, .slice false (([] : List Int).map (eInt .i64).d), .slice false (([] : List Int).map (eInt .i64).d), .int .i64 0, .int .i64 0, .int .i64 0, .int .i64 0]) 3 rfl rfl (by decide) rfl ti27 rfl rfl (.cons (.refl _) (.cons (.refl _) (.cons (.refl _) (.cons (.nils _) (.cons (.nils _) (.cons (.refl _) (.cons (.refl _) (.cons (.refl _) (.cons (.refl _) .nil)))))))))) <|
                    ils_cons rfl (iop_allocS (cs := [.int _ _, .int _ _]) (cs' := [.int .i64 0, .int .u32 0]) 4 rfl rfl (by decide) rfl ti36 rfl rfl (.cons (.refl _) (.cons (.refl _) .nil))) <|
                    ils_cons rfl (iop_store (ds' := [.bool _, .int _ _, .int _ _, .slice _ _, .slice _ _, .int _ _, .int _ _, .int _ _, .int _ _]) rfl rfl ti27 (sv (d := .ref _ _) rfl) rfl (sv (d := .agg [.bool _, .int _ _, .int _ _, .slice _ _, .slice _ _, .int _ _, .int _ _, .int _ _, .int _ _]) rfl) rfl rfl rfl (nle rfl) rfl) <|
                    ils_cons rfl (iop_store (ds' := [.int _ _, .int _ _]) rfl rfl ti36 (sv (d := .ref _ _) rfl) rfl (sv (d := .agg [.int _ _, .int _ _]) rfl) rfl rfl rfl (nle rfl) rfl) <|
                    ils_end ?_)
                  refine iwp_seq ?_
                  obtain ⟨x772, hx772, h⟩ := bnd_e h
                  obtain ⟨x773, hx773, h⟩ := bno_e h
                  obtain ⟨hk774, h⟩ := chk_e h
                  obtain ⟨x775, hx775, h⟩ := bno_e h
                  obtain ⟨x776, hx776, h⟩ := bnd_e h
                  obtain ⟨x777, hx777, h⟩ := bno_e h
                  obtain ⟨x778, hx778, h⟩ := bnd_e h
                  obtain ⟨x779, hx779, h⟩ := bno_e h
                  obtain ⟨x780, hx780, h⟩ := bnd_e h
                  obtain ⟨x781, hx781, h⟩ := bnd_e h
                  obtain ⟨x782, hx782, h⟩ := bnd_e h
                  refine iwp_reg (ils_cons rfl (iop_fieldAddr_ref rfl rfl (by decide) Try.underlying36 rfl ti3 (by decide) (sv (d := .ref _ _) rfl) (off' := 0) rfl) <|
                    ils_cons rfl (iop_load_rs (d := .int _ _) rfl rfl (by decide) Try.underlying3 ag3 ti3 (by decide) (sv (d := .ref _ _) rfl) rfl (nle rfl) rfl) <|
                    ils_cons rfl (iop_cmpx rfl rfl (by decide) (sv (d := .int _ _) rfl) (sv (d := .int _ 0) rfl) rfl hx772) <|
                    ils_cons rfl (iop_move rfl rfl (by decide) (sv (d := .bool _) rfl)) <|
                    ils_guard rfl rfl (.one rfl) rfl (by decide) (fun hb => (iop_move rfl rfl (by decide) (sv (d := .int _ _) rfl))) <|
                    ils_guard rfl rfl (.one rfl) rfl (by decide) (fun hb => (iop_idxA eBool.toEnc0 rfl rfl (by decide) Try.underlying61 ti4 (sv (d := .ref _ _) rfl) (hk774 hb) (svc (d := .int _ _) rfl hb) (gd_t hx773 hb))) <|
                    ils_guard rfl rfl (.one rfl) rfl (by decide) (fun hb => (iop_loadEs eBool.toEnc0 (d := .bool _) rfl rfl (by decide) Try.underlying4 ag4 ti4 (by decide) (svc (d := .ref _ _) rfl hb) rfl (gd_t hx775 hb) (nle rfl) rfl)) <|
                    ils_guard rfl rfl (.one rfl) rfl (by decide) (fun hb => (iop_move rfl rfl (by decide) (svc (d := .bool _) rfl hb))) <|
                    ils_guard rfl rfl (.two rfl) rfl (by decide) (fun hb => (iop_move rfl rfl (by decide) (sv (d := .bool _) rfl))) <|
                    ils_guard rfl rfl (.one rfl) rfl (by decide) (fun hb => (iop_or2x rfl rfl (by decide) hb (svc (d := .bool _) rfl hb) rfl rfl hx776)) <|
                    ils_guard rfl rfl (.one rfl) rfl (by decide) (fun hb => (iop_move rfl rfl (by decide) (svc (d := .bool _) rfl hb))) <|
                    ils_guard rfl rfl (.two rfl) rfl (by decide) (fun hb => (iop_load_ra (cs := [.bool _, .int _ _, .int _ _, .slice _ _, .slice _ _, .int _ _, .int _ _, .int _ _, .int _ _]) rfl rfl (by decide) Try.underlying27 ag27 ti27 (by decide) (sv (d := .ref _ _) rfl) rfl (nle rfl) rfl)) <|
                    ils_guard rfl rfl (.two rfl) rfl (by decide) (fun hb => (iop_move rfl rfl (by decide) (sv (d := .int _ _) rfl))) <|
                    ils_guard rfl rfl (.two rfl) rfl (by decide) (fun hb => (iop_call (r := .bool _) rfl rfl (by decide) cl24 (.cons (svc (d := .agg [.bool x771.1.Odd, .int .i64 x771.1.Next, .int .i64 x771.1.Last, .slice false (x771.1.Live.map (eInt .i64).d), .slice false (x771.1.Cut.map (eInt .i64).d), .int .i64 x771.1.Mine, .int .i64 x771.1.Hers, .int .i64 x771.1.Heard, .int .i64 x771.1.Told]) rfl hb) (.cons (svc (d := .int _ _) rfl hb) .nil)) rfl (p_stid_Own _ _ _ (gd_t hx777 hb)))) <|
                    ils_guard rfl rfl (.one rfl) rfl (by decide) (fun hb => (iop_or2x rfl rfl (by decide) hb (svc (d := .bool _) rfl hb) rfl rfl hx778)) <|
                    ils_guard rfl rfl (.one rfl) rfl (by decide) (fun hb => (iop_move rfl rfl (by decide) (svc (d := .bool _) rfl hb))) <|
                    ils_guard rfl rfl (.two rfl) rfl (by decide) (fun hb => (iop_load_ra (cs := [.bool _, .int _ _, .int _ _, .slice _ _, .slice _ _, .int _ _, .int _ _, .int _ _, .int _ _]) rfl rfl (by decide) Try.underlying27 ag27 ti27 (by decide) (sv (d := .ref _ _) rfl) rfl (nle rfl) rfl)) <|
                    ils_guard rfl rfl (.two rfl) rfl (by decide) (fun hb => (iop_move rfl rfl (by decide) (sv (d := .int _ _) rfl))) <|
                    ils_guard rfl rfl (.two rfl) rfl (by decide) (fun hb => (iop_call (r := .int _ _) rfl rfl (by decide) cl23 (.cons (svc (d := .agg [.bool x771.1.Odd, .int .i64 x771.1.Next, .int .i64 x771.1.Last, .slice false (x771.1.Live.map (eInt .i64).d), .slice false (x771.1.Cut.map (eInt .i64).d), .int .i64 x771.1.Mine, .int .i64 x771.1.Hers, .int .i64 x771.1.Heard, .int .i64 x771.1.Told]) rfl hb) (.cons (svc (d := .int _ _) rfl hb) .nil)) rfl (p_stid_Class _ _ _ (gd_t hx779 hb)))) <|
                    ils_guard rfl rfl (.two rfl) rfl (by decide) (fun hb => (iop_cmpx rfl rfl (by decide) (svc (d := .int _ _) rfl hb) (sv (d := .int _ 2) rfl) rfl hx780)) <|
                    ils_guard rfl rfl (.one rfl) rfl (by decide) (fun hb => (iop_or2x rfl rfl (by decide) hb (svc (d := .bool _) rfl hb) rfl rfl hx781)) <|
                    ils_cons rfl (iop_andx rfl rfl (by decide) (sv (d := .bool _) rfl) rfl rfl hx782) <|
                    ils_end ?_)
                  refine iwp_cond (b := _) rfl (fun hc783 => ?_) (fun hc783 => ?_)
                  ·
                    replace h := bif_t h hc783
                    refine iwp_reg (ils_cons rfl (iop_assign rfl rfl (by decide) (sv (d := .bool false) rfl)) <|
                      ils_end ?_)
                    refine iwp_ret ?_
                    refine thenQ_r ?_
                    refine blockQ_r ?_
                    refine thenQ_r ?_
                    refine blockQ_r ?_
                    refine thenQ_r ?_
                    refine thenQ_r ?_
                    refine blockQ_r ?_
                    refine thenQ_r ?_
                    obtain rfl := Option.some.inj h
                    refine ⟨.inr rfl, (.cons (sv rfl) .nil)⟩
                  ·
                    replace h := bif_f h hc783
                    refine iwp_skip ?_
                    refine thenQ_n ?_
                    refine iwp_seq ?_
                    obtain ⟨x784, hx784, h⟩ := bnd_e h
                    refine iwp_reg (ils_cons rfl (iop_fieldAddr_ref rfl rfl (by decide) Try.underlying36 rfl ti3 (by decide) (sv (d := .ref _ _) rfl) (off' := 0) rfl) <|
                      ils_cons rfl (iop_load_rs (d := .int _ _) rfl rfl (by decide) Try.underlying3 ag3 ti3 (by decide) (sv (d := .ref _ _) rfl) rfl (nle rfl) rfl) <|
                      ils_cons rfl (iop_cmpx rfl rfl (by decide) (sv (d := .int _ _) rfl) (sv (d := .int _ 0) rfl) rfl hx784) <|
                      ils_end ?_)
                    refine iwp_cond (b := _) rfl (fun hc785 => ?_) (fun hc785 => ?_)
                    ·
                      replace h := bif_t h hc785
                      obtain ⟨x786, hx786, h⟩ := bno_e h
                      obtain ⟨hk787, h⟩ := chk_e h
                      obtain ⟨x788, hx788, h⟩ := bno_e h
                      obtain ⟨x789, hx789, h⟩ := bnd_e h
                      refine iwp_region (ils_cons rfl (iop_move rfl rfl (by decide) (sv (d := .int _ _) rfl)) <|
                        ils_cons rfl (iop_idxA eBool.toEnc0 rfl rfl (by decide) Try.underlying61 ti4 (sv (d := .ref _ _) rfl) hk787 (sv (d := .int _ _) rfl) hx786) <|
                        ils_cons rfl (iop_storeE eBool.toEnc0 (a' := true) rfl rfl ti4 (sv (d := .ref _ _) rfl) rfl (sv (d := .bool true) rfl) rfl rfl rfl hx788 (nle rfl) rfl hx789) <|
                        ils_nil ?_)
                      refine thenQ_n ?_
                      refine iwp_region (ils_cons rfl (iop_load_ra (cs := [.bool _, .int _ _, .int _ _, .slice _ _, .slice _ _, .int _ _, .int _ _, .int _ _, .int _ _]) rfl rfl (by decide) Try.underlying27 ag27 ti27 (by decide) (sv (d := .ref _ _) rfl) rfl (nle rfl) rfl) <|
                        ils_cons rfl (iop_store (ds' := [.bool _, .int _ _, .int _ _, .slice _ _, .slice _ _, .int _ _, .int _ _, .int _ _, .int _ _]) rfl rfl ti27 (sv (d := .ref _ _) rfl) rfl (sv (d := .agg [.bool _, .int _ _, .int _ _, .slice _ _, .slice _ _, .int _ _, .int _ _, .int _ _, .int _ _]) rfl) rfl rfl rfl (nle rfl) rfl) <|
                        ils_nil ?_)
                      refine blockQ_n ?_
                      refine thenQ_n ⟨(v278, v279, x789, x771.1.Odd, x771.1.Next, x771.1.Last, x771.1.Live, x771.1.Cut, x771.1.Mine, x771.1.Hers, x771.1.Heard, x771.1.Told), (fun i => i), ⟨(.cons (.same rfl rfl) (.cons (.same rfl rfl) (.cons (.same rfl rfl) (.cons (.same rfl rfl) (.cons (.same rfl rfl) (.cons (.same rfl rfl) (.cons (.same rfl rfl) .nil))))))), (.cons (.blk rfl rfl rfl) (.cons (EntW.lst rfl) (.cons (.blk rfl rfl rfl) .nil))), nd_of [0, 1, 2] rfl (by decide), (fun i hi => by first | rfl | (show (if _ then _ else _) = _; (repeat' split) <;> omega))⟩, ?_⟩
                      exact h
                    ·
                      replace h := bif_f h hc785
                      refine iwp_skip ?_
                      refine thenQ_n ?_
                      refine iwp_region (ils_cons rfl (iop_load_ra (cs := [.bool _, .int _ _, .int _ _, .slice _ _, .slice _ _, .int _ _, .int _ _, .int _ _, .int _ _]) rfl rfl (by decide) Try.underlying27 ag27 ti27 (by decide) (sv (d := .ref _ _) rfl) rfl (nle rfl) rfl) <|
                        ils_cons rfl (iop_store (ds' := [.bool _, .int _ _, .int _ _, .slice _ _, .slice _ _, .int _ _, .int _ _, .int _ _, .int _ _]) rfl rfl ti27 (sv (d := .ref _ _) rfl) rfl (sv (d := .agg [.bool _, .int _ _, .int _ _, .slice _ _, .slice _ _, .int _ _, .int _ _, .int _ _, .int _ _]) rfl) rfl rfl rfl (nle rfl) rfl) <|
                        ils_nil ?_)
                      refine blockQ_n ?_
                      refine thenQ_n ⟨(v278, v279, v290, x771.1.Odd, x771.1.Next, x771.1.Last, x771.1.Live, x771.1.Cut, x771.1.Mine, x771.1.Hers, x771.1.Heard, x771.1.Told), (fun i => i), ⟨(.cons (.same rfl rfl) (.cons (.same rfl rfl) (.cons (.same rfl rfl) (.cons (.same rfl rfl) (.cons (.same rfl rfl) (.cons (.same rfl rfl) (.cons (.same rfl rfl) .nil))))))), (.cons (.blk rfl rfl rfl) (.cons (EntW.lst rfl) (.cons (.blk rfl rfl rfl) .nil))), nd_of [0, 1, 2] rfl (by decide), (fun i hi => by first | rfl | (show (if _ then _ else _) = _; (repeat' split) <;> omega))⟩, ?_⟩
                      exact h
                ·
                  replace h := bif_f h hc770
                  obtain ⟨x790, hx790, h⟩ := bnd_e h
                  refine iwp_reg (ils_cons rfl (iop_cmpx rfl rfl (by decide) (sv (d := .int _ _) rfl) (sv (d := .int _ 2) rfl) rfl hx790) <|
                    ils_cons rfl (iop_assign rfl rfl (by decide) (sv (d := .bool _) rfl)) <|
                    ils_end ?_)
                  refine iwp_cond (b := _) rfl (fun hc791 => ?_) (fun hc791 => ?_)
                  ·
                    replace h := bif_t h hc791
                    obtain ⟨x792, hx792, h⟩ := bno_e h
                    obtain ⟨x793, hx793, h⟩ := bno_e h
                    obtain ⟨x794, hx794, h⟩ := bno_e h
                    obtain ⟨x795, hx795, h⟩ := bnd_e h
                    obtain ⟨x796, hx796, h⟩ := bno_e h
                    refine iwp_drw rfl [⟨[5], [0], [(144, .agg [.bool v281, .int .i64 v282, .int .i64 v283, .slice false (v284.map (eInt .i64).d), .slice false (v285.map (eInt .i64).d), .int .i64 v286, .int .i64 v287, .int .i64 v288, .int .i64 v289])], []⟩,
                      ⟨[11], [], [(145, .int .i64 x572)], []⟩,
                      ⟨[1], [], [(146, .slice false (a1.map E_sennitlaw22_Act.d))], []⟩,
                      ⟨[10], [], [(147, .int .i64 v280)], []⟩,
                      ⟨[146, 147], [], [(148, .fptr [.int .u8 x792.Kind, .int .u8 x792.ID])], []⟩,
                      ⟨[148], [], [(149, .fptr [.int .u8 x792.ID])], []⟩,
                      ⟨[149], [], [(150, .int .u8 x792.ID)], []⟩,
                      ⟨[150], [], [(151, .int .u8 x793)], []⟩,
                      ⟨[151], [], [(152, .int .u8 x794)], []⟩,
                      ⟨[152], [], [(153, .bool x795)], []⟩,
                      ⟨[144, 145, 153], [], [(154, .agg [.bool x796.Odd, .int .i64 x796.Next, .int .i64 x796.Last, .slice false (x796.Live.map (eInt .i64).d), .slice false (x796.Cut.map (eInt .i64).d), .int .i64 x796.Mine, .int .i64 x796.Hers, .int .i64 x796.Heard, .int .i64 x796.Told])], []⟩,
                      ⟨[12, 154], [2], [], [(2, .blk 27 [.bool x796.Odd, .int .i64 x796.Next, .int .i64 x796.Last, .slice false (x796.Live.map (eInt .i64).d), .slice false (x796.Cut.map (eInt .i64).d), .int .i64 x796.Mine, .int .i64 x796.Hers, .int .i64 x796.Heard, .int .i64 x796.Told])]⟩] rfl ?_ (by kernel_rfl) ?_
                    · refine .cons (lop rfl rfl fun S hA => (iop_load_ra (cs := [.bool _, .int _ _, .int _ _, .slice _ _, .slice _ _, .int _ _, .int _ _, .int _ _, .int _ _]) rfl rfl (by decide) Try.underlying27 ag27 ti27 (by decide) (sv (d := .ref _ _) (agr hA rfl rfl)) (agi hA rfl rfl) (nle rfl) rfl)) ?_
                      refine .cons (lop rfl rfl fun S hA => (iop_move rfl rfl (by decide) (sv (d := .int _ _) (agr hA rfl rfl)))) ?_
                      refine .cons (lop rfl rfl fun S hA => (iop_move rfl rfl (by decide) (sv (d := .slice _ _) (agr hA rfl rfl)))) ?_
                      refine .cons (lop rfl rfl fun S hA => (iop_move rfl rfl (by decide) (sv (d := .int _ _) (agr hA rfl rfl)))) ?_
                      refine .cons (lop rfl rfl fun S hA => (iop_idxT E_sennitlaw22_Act (cs := [.int _ _, .int _ _]) rfl rfl (by decide) Try.underlying58 ti63 (sv (d := .slice _ _) (agr hA rfl rfl)) (sv (d := .int _ _) (agr hA rfl rfl)) hx792 rfl rfl)) ?_
                      refine .cons (lop rfl rfl fun S hA => (iop_fieldAddr_fptr (cs' := [.int _ _]) rfl rfl (by decide) Try.underlying63 rfl ti5 (by decide) (sv (d := .fptr [.int _ _, .int _ _]) (agr hA rfl rfl)) rfl)) ?_
                      refine .cons (lop rfl rfl fun S hA => (iop_load_fs rfl rfl (by decide) Try.underlying5 ag5 ti5 (by decide) (sv (d := .fptr [.int _ _]) (agr hA rfl rfl)) (nle rfl))) ?_
                      refine .cons (lop rfl rfl fun S hA => (iop_quox rfl rfl (by decide) (sv (d := .int _ _) (agr hA rfl rfl)) (sv (d := .int _ 2) rfl) hx793)) ?_
                      refine .cons (lop rfl rfl fun S hA => (iop_remx rfl rfl (by decide) (sv (d := .int _ _) (agr hA rfl rfl)) (sv (d := .int _ 2) rfl) hx794)) ?_
                      refine .cons (lop rfl rfl fun S hA => (iop_cmpx rfl rfl (by decide) (sv (d := .int _ _) (agr hA rfl rfl)) (sv (d := .int _ 1) rfl) rfl hx795)) ?_
                      refine .cons (lop rfl rfl fun S hA => (iop_call (r := .agg [.bool _, .int _ _, .int _ _, .slice _ _, .slice _ _, .int _ _, .int _ _, .int _ _, .int _ _]) rfl rfl (by decide) cl12 (.cons (sv (d := .agg [.bool _, .int _ _, .int _ _, .slice _ _, .slice _ _, .int _ _, .int _ _, .int _ _, .int _ _]) (agr hA rfl rfl)) (.cons (sv (d := .int _ _) (agr hA rfl rfl)) (.cons (sv (d := .bool _) (agr hA rfl rfl)) .nil))) rfl (p_stid_End _ _ _ _ hx796))) ?_
                      refine .cons (lop rfl rfl fun S hA => (iop_store (ds' := [.bool _, .int _ _, .int _ _, .slice _ _, .slice _ _, .int _ _, .int _ _, .int _ _, .int _ _]) rfl rfl ti27 (sv (d := .ref _ _) (agr hA rfl rfl)) (agi hA rfl rfl) (sv (d := .agg [.bool _, .int _ _, .int _ _, .slice _ _, .slice _ _, .int _ _, .int _ _, .int _ _, .int _ _]) (agr hA rfl rfl)) rfl rfl rfl (nle rfl) rfl)) ?_
                      exact .nil
                    obtain ⟨x797, hx797, h⟩ := bno_e h
                    obtain ⟨x798, hx798, h⟩ := bnd_e h
                    obtain ⟨x799, hx799, h⟩ := bnd_e h
                    obtain ⟨x800, hx800, h⟩ := bnd_e h
                    refine iwp_reg (ils_cons rfl (iop_load_ra (cs := [.bool _, .int _ _, .int _ _, .slice _ _, .slice _ _, .int _ _, .int _ _, .int _ _, .int _ _]) rfl rfl (by decide) Try.underlying27 ag27 ti27 (by decide) (sv (d := .ref _ _) rfl) rfl (nle rfl) rfl) <|
                      ils_cons rfl (iop_move rfl rfl (by decide) (sv (d := .int _ _) rfl)) <|
                      ils_cons rfl (iop_call (r := .int _ _) rfl rfl (by decide) cl23 (.cons (sv (d := .agg [.bool _, .int _ _, .int _ _, .slice _ _, .slice _ _, .int _ _, .int _ _, .int _ _, .int _ _]) rfl) (.cons (sv (d := .int _ _) rfl) .nil)) rfl (p_stid_Class _ _ _ hx797)) <|
                      ils_cons rfl (iop_cmpx rfl rfl (by decide) (sv (d := .int _ _) rfl) (sv (d := .int _ 2) rfl) rfl hx798) <|
                      ils_cons rfl (iop_move rfl rfl (by decide) (sv (d := .bool _) rfl)) <|
                      ils_guard rfl rfl (.one rfl) rfl (by decide) (fun hb => (iop_move rfl rfl (by decide) (sv (d := .int _ _) rfl))) <|
                      ils_guard rfl rfl (.one rfl) rfl (by decide) (fun hb => (iop_cmpx rfl rfl (by decide) (svc (d := .int _ _) rfl hb) (sv (d := .int _ 0) rfl) rfl hx799)) <|
                      ils_cons rfl (iop_andx rfl rfl (by decide) (sv (d := .bool _) rfl) rfl rfl hx800) <|
                      ils_end ?_)
                    refine iwp_cond (b := _) rfl (fun hc801 => ?_) (fun hc801 => ?_)
                    ·
                      replace h := bif_t h hc801
                      refine iwp_reg (ils_cons rfl (iop_assign rfl rfl (by decide) (sv (d := .bool false) rfl)) <|
                        ils_end ?_)
                      refine iwp_ret ?_
                      refine blockQ_r ?_
                      refine thenQ_r ?_
                      refine blockQ_r ?_
                      refine thenQ_r ?_
                      refine thenQ_r ?_
                      refine blockQ_r ?_
                      refine thenQ_r ?_
                      obtain rfl := Option.some.inj h
                      refine ⟨.inr rfl, (.cons (sv rfl) .nil)⟩
                    ·
                      replace h := bif_f h hc801
                      refine iwp_skip ?_
                      refine blockQ_n ?_
                      refine thenQ_n ⟨(v278, v279, v290, x796.Odd, x796.Next, x796.Last, x796.Live, x796.Cut, x796.Mine, x796.Hers, x796.Heard, x796.Told), (fun i => i), ⟨(.cons (.same rfl rfl) (.cons (.same rfl rfl) (.cons (.same rfl rfl) (.cons (.same rfl rfl) (.cons (.same rfl rfl) (.cons (.same rfl rfl) (.cons (.same rfl rfl) .nil))))))), (.cons (.blk rfl rfl rfl) (.cons (EntW.lst rfl) (.cons (.blk rfl rfl rfl) .nil))), nd_of [0, 1, 2] rfl (by decide), (fun i hi => by first | rfl | (show (if _ then _ else _) = _; (repeat' split) <;> omega))⟩, ?_⟩
                      exact h
                  ·
                    replace h := bif_f h hc791
                    obtain ⟨x802, hx802, h⟩ := bnd_e h
                    refine iwp_reg (ils_cons rfl (iop_cmpx rfl rfl (by decide) (sv (d := .int _ _) rfl) (sv (d := .int _ 3) rfl) rfl hx802) <|
                      ils_cons rfl (iop_assign rfl rfl (by decide) (sv (d := .bool _) rfl)) <|
                      ils_end ?_)
                    refine iwp_cond (b := _) rfl (fun hc803 => ?_) (fun hc803 => ?_)
                    ·
                      replace h := bif_t h hc803
                      obtain ⟨x804, hx804, h⟩ := bno_e h
                      refine iwp_reg (ils_cons rfl (iop_load_ra (cs := [.bool _, .int _ _, .int _ _, .slice _ _, .slice _ _, .int _ _, .int _ _, .int _ _, .int _ _]) rfl rfl (by decide) Try.underlying27 ag27 ti27 (by decide) (sv (d := .ref _ _) rfl) rfl (nle rfl) rfl) <|
                        ils_cons rfl (iop_move rfl rfl (by decide) (sv (d := .int _ _) rfl)) <|
                        ils_cons rfl (iop_call (r := .tuple [.agg [.bool _, .int _ _, .int _ _, .slice _ _, .slice _ _, .int _ _, .int _ _, .int _ _, .int _ _], .slice _ _, .bool _]) rfl rfl (by decide) cl14 (.cons (sv (d := .agg [.bool _, .int _ _, .int _ _, .slice _ _, .slice _ _, .int _ _, .int _ _, .int _ _, .int _ _]) rfl) (.cons (sv (d := .int _ _) rfl) .nil)) rfl (p_stid_Away _ _ _ hx804)) <|
                        ils_cons rfl (iop_move rfl rfl (by decide) (sv (d := .tuple [.agg [.bool _, .int _ _, .int _ _, .slice _ _, .slice _ _, .int _ _, .int _ _, .int _ _, .int _ _], .slice _ _, .bool _]) rfl)) <|
                        ils_cons rfl (iop_extract (d := .agg [.bool _, .int _ _, .int _ _, .slice _ _, .slice _ _, .int _ _, .int _ _, .int _ _, .int _ _]) rfl rfl (by decide) (sv (d := .tuple [.agg [.bool _, .int _ _, .int _ _, .slice _ _, .slice _ _, .int _ _, .int _ _, .int _ _, .int _ _], .slice _ _, .bool _]) rfl) rfl) <|
                        ils_cons rfl (iop_extract (d := .slice _ _) rfl rfl (by decide) (sv (d := .tuple [.agg [.bool _, .int _ _, .int _ _, .slice _ _, .slice _ _, .int _ _, .int _ _, .int _ _, .int _ _], .slice _ _, .bool _]) rfl) rfl) <|
                        ils_cons rfl (iop_extract (d := .bool _) rfl rfl (by decide) (sv (d := .tuple [.agg [.bool _, .int _ _, .int _ _, .slice _ _, .slice _ _, .int _ _, .int _ _, .int _ _, .int _ _], .slice _ _, .bool _]) rfl) rfl) <|
                        ils_cons rfl (iop_allocS (cs := [.bool _, .int _ _, .int _ _, .nils, .nils, .int _ _, .int _ _, .int _ _, .int _ _]) (cs' := [.bool false, .int .i64 0, .int .i64 0, .slice false (([] : List Int).map (eInt .i64).d), .slice false (([] : List Int).map (eInt .i64).d), .int .i64 0, .int .i64 0, .int .i64 0, .int .i64 0]) 3 rfl rfl (by decide) rfl ti27 rfl rfl (.cons (.refl _) (.cons (.refl _) (.cons (.refl _) (.cons (.nils _) (.cons (.nils _) (.cons (.refl _) (.cons (.refl _) (.cons (.refl _) (.cons (.refl _) .nil)))))))))) <|
                        ils_cons rfl (iop_store (ds' := [.bool _, .int _ _, .int _ _, .slice _ _, .slice _ _, .int _ _, .int _ _, .int _ _, .int _ _]) rfl rfl ti27 (sv (d := .ref _ _) rfl) rfl (sv (d := .agg [.bool _, .int _ _, .int _ _, .slice _ _, .slice _ _, .int _ _, .int _ _, .int _ _, .int _ _]) rfl) rfl rfl rfl (nle rfl) rfl) <|
                        ils_cons rfl (iop_assign rfl rfl (by decide) (sv (d := .slice _ _) rfl)) <|
                        ils_cons rfl (iop_assign rfl rfl (by decide) (sv (d := .bool _) rfl)) <|
                        ils_end ?_)
                      refine iwp_seq ?_
                      refine iwp_reg (ils_cons rfl (iop_assign rfl rfl (by decide) (sv (d := .int _ 0) rfl)) <|
                        ils_end ?_)
                      refine iwp_block ?_
                      refine iwp_loopP (α := Nat × Int) (fun z => ⟨[(1, .slice false (a1.map E_sennitlaw22_Act.d)), (5, .ref 0 0), (7, .ref 1 0), (8, .bool v278), (9, .bool v279), (10, .int .i64 v280), (11, .int .i64 x572), (12, .ref 2 0), (18, .ref 3 0), (19, .slice false (x804.2.1.map (eInt .i64).d)), (20, .bool x804.2.2), (21, .int .i64 z.2)], [(0, .blk 27 [.bool v281, .int .i64 v282, .int .i64 v283, .slice false (v284.map (eInt .i64).d), .slice false (v285.map (eInt .i64).d), .int .i64 v286, .int .i64 v287, .int .i64 v288, .int .i64 v289]), (1, .blk 61 (D.flat (v290.map eBool.d))), (2, .blk 27 [.bool v281, .int .i64 v282, .int .i64 v283, .slice false (v284.map (eInt .i64).d), .slice false (v285.map (eInt .i64).d), .int .i64 v286, .int .i64 v287, .int .i64 v288, .int .i64 v289]), (3, .blk 27 [.bool x804.1.Odd, .int .i64 x804.1.Next, .int .i64 x804.1.Last, .slice false (x804.1.Live.map (eInt .i64).d), .slice false (x804.1.Cut.map (eInt .i64).d), .int .i64 x804.1.Mine, .int .i64 x804.1.Hers, .int .i64 x804.1.Heard, .int .i64 x804.1.Told])]⟩) (fun z => sennitlaw22_StidOnce_L4 v278 v279 v280 v281 v282 v283 v284 v285 v286 v287 v288 v289 v290 (sennitlaw22_StidOnce_L0 a1 n0) x572 x804 z.1 z.2 = some r) (fun z => z.1) (fuel, 0) (fun i => i) ⟨(.cons (.same rfl rfl) (.cons (.same rfl rfl) (.cons (.same rfl rfl) (.cons (.same rfl rfl) (.cons (.same rfl rfl) (.cons (.same rfl rfl) (.cons (.same rfl rfl) (.cons (.same rfl rfl) (.cons (.same rfl rfl) (.cons (.same rfl rfl) (.cons (.same rfl rfl) (.cons (.same rfl rfl) .nil)))))))))))), (.cons (.blk rfl rfl rfl) (.cons (EntW.lst rfl) (.cons (.blk rfl rfl rfl) (.cons (.blk rfl rfl rfl) .nil)))), nd_of [0, 1, 2, 3] rfl (by decide), (fun i hi => by first | rfl | (show (if _ then _ else _) = _; (repeat' split) <;> omega))⟩ ?_ ?_
                      · exact h
                      ·
                        rintro ⟨n4, v818⟩ h
                        cases n4 with
                        | zero => exact absurd h (by unfold sennitlaw22_StidOnce_L4; exact nofun)
                        | succ n4 =>
                          unfold sennitlaw22_StidOnce_L4 at h
                          refine iwp_seq ?_
                          obtain ⟨x832, hx832, h⟩ := bnd_e h
                          refine iwp_reg (ils_cons rfl (iop_move rfl rfl (by decide) (sv (d := .int _ _) rfl)) <|
                            ils_cons rfl (iop_move rfl rfl (by decide) (sv (d := .slice _ _) rfl)) <|
                            ils_cons rfl (iop_lenT (eInt .i64) (l := x804.2.1) rfl rfl (by decide) Try.underlying22 (sv (d := .slice _ _) rfl)) <|
                            ils_cons rfl (iop_cmpx rfl rfl (by decide) (sv (d := .int _ _) rfl) (sv (d := .int _ _) rfl) rfl hx832) <|
                            ils_end ?_)
                          refine iwp_cond (b := _) rfl (fun hc833 => ?_) (fun hc833 => ?_)
                          ·
                            replace h := bif_t h hc833
                            refine iwp_skip ?_
                            refine thenQ_n ?_
                            refine iwp_seq ?_
                            refine iwp_block ?_
                            obtain ⟨x834, hx834, h⟩ := bno_e h
                            obtain ⟨x835, hx835, h⟩ := bnd_e h
                            obtain ⟨x836, hx836, h⟩ := bno_e h
                            obtain ⟨x837, hx837, h⟩ := bno_e h
                            obtain ⟨x838, hx838, h⟩ := bnd_e h
                            obtain ⟨x839, hx839, h⟩ := bno_e h
                            obtain ⟨x840, hx840, h⟩ := bno_e h
                            obtain ⟨x841, hx841, h⟩ := bnd_e h
                            obtain ⟨x842, hx842, h⟩ := bnd_e h
                            refine iwp_drw rfl [⟨[19], [], [(178, .slice false (x804.2.1.map (eInt .i64).d))], []⟩,
                              ⟨[21], [], [(179, .int .i64 v818)], []⟩,
                              ⟨[178, 179], [], [(180, .fptr [.int .i64 x834])], []⟩,
                              ⟨[180], [], [(181, .int .i64 x834)], []⟩,
                              ⟨[11], [], [(182, .int .i64 x572)], []⟩,
                              ⟨[181, 182], [], [(183, .bool x835)], []⟩,
                              ⟨[183], [], [(184, .bool x835)], []⟩,
                              ⟨[5, 184], [0], [(185, .cnd (x835 == false) (.agg [.bool v281, .int .i64 v282, .int .i64 v283, .slice false (v284.map (eInt .i64).d), .slice false (v285.map (eInt .i64).d), .int .i64 v286, .int .i64 v287, .int .i64 v288, .int .i64 v289]))], []⟩,
                              ⟨[19, 184], [], [(186, .cnd (x835 == false) (.slice false (x804.2.1.map (eInt .i64).d)))], []⟩,
                              ⟨[21, 184], [], [(187, .cnd (x835 == false) (.int .i64 v818))], []⟩,
                              ⟨[184, 186, 187], [], [(188, .cnd (x835 == false) (.fptr [.int .i64 x836]))], []⟩,
                              ⟨[184, 188], [], [(189, .cnd (x835 == false) (.int .i64 x836))], []⟩,
                              ⟨[184, 185, 189], [], [(190, .cnd (x835 == false) (.bool x837))], []⟩,
                              ⟨[184, 190], [], [(191, .cnd (x835 == false) (.bool (!x837)))], []⟩,
                              ⟨[184, 191], [], [(192, .bool x838)], []⟩,
                              ⟨[192], [], [(193, .bool x838)], []⟩,
                              ⟨[18, 193], [3], [(194, .cnd (x838 == false) (.agg [.bool x804.1.Odd, .int .i64 x804.1.Next, .int .i64 x804.1.Last, .slice false (x804.1.Live.map (eInt .i64).d), .slice false (x804.1.Cut.map (eInt .i64).d), .int .i64 x804.1.Mine, .int .i64 x804.1.Hers, .int .i64 x804.1.Heard, .int .i64 x804.1.Told]))], []⟩,
                              ⟨[19, 193], [], [(195, .cnd (x838 == false) (.slice false (x804.2.1.map (eInt .i64).d)))], []⟩,
                              ⟨[21, 193], [], [(196, .cnd (x838 == false) (.int .i64 v818))], []⟩,
                              ⟨[193, 195, 196], [], [(197, .cnd (x838 == false) (.fptr [.int .i64 x839]))], []⟩,
                              ⟨[193, 197], [], [(198, .cnd (x838 == false) (.int .i64 x839))], []⟩,
                              ⟨[193, 194, 198], [], [(199, .cnd (x838 == false) (.int .u8 x840))], []⟩,
                              ⟨[193, 199], [], [(200, .cnd (x838 == false) (.bool x841))], []⟩,
                              ⟨[193, 200], [], [(201, .bool x842)], []⟩] rfl ?_ (by kernel_rfl) ?_
                            · refine .cons (lop rfl rfl fun S hA => (iop_move rfl rfl (by decide) (sv (d := .slice _ _) (agr hA rfl rfl)))) ?_
                              refine .cons (lop rfl rfl fun S hA => (iop_move rfl rfl (by decide) (sv (d := .int _ _) (agr hA rfl rfl)))) ?_
                              refine .cons (lop rfl rfl fun S hA => (iop_idxT (eInt .i64) (cs := [.int _ _]) rfl rfl (by decide) Try.underlying22 ti3 (sv (d := .slice _ _) (agr hA rfl rfl)) (sv (d := .int _ _) (agr hA rfl rfl)) hx834 rfl rfl)) ?_
                              refine .cons (lop rfl rfl fun S hA => (iop_load_fs rfl rfl (by decide) Try.underlying3 ag3 ti3 (by decide) (sv (d := .fptr [.int _ _]) (agr hA rfl rfl)) (nle rfl))) ?_
                              refine .cons (lop rfl rfl fun S hA => (iop_move rfl rfl (by decide) (sv (d := .int _ _) (agr hA rfl rfl)))) ?_
                              refine .cons (lop rfl rfl fun S hA => (iop_cmpx rfl rfl (by decide) (sv (d := .int _ _) (agr hA rfl rfl)) (sv (d := .int _ _) (agr hA rfl rfl)) rfl hx835)) ?_
                              refine .cons (lop rfl rfl fun S hA => (iop_move rfl rfl (by decide) (sv (d := .bool _) (agr hA rfl rfl)))) ?_
                              refine .cons (lopg rfl rfl rfl rfl (by decide) (fun S hA => grd1 hA rfl rfl) (fun S hA hb => (iop_load_ra (cs := [.bool _, .int _ _, .int _ _, .slice _ _, .slice _ _, .int _ _, .int _ _, .int _ _, .int _ _]) rfl rfl (by decide) Try.underlying27 ag27 ti27 (by decide) (sv (d := .ref _ _) (agr hA rfl rfl)) (agi hA rfl rfl) (nle rfl) rfl))) ?_
                              refine .cons (lopg rfl rfl rfl rfl (by decide) (fun S hA => grd1 hA rfl rfl) (fun S hA hb => (iop_move rfl rfl (by decide) (sv (d := .slice _ _) (agr hA rfl rfl))))) ?_
                              refine .cons (lopg rfl rfl rfl rfl (by decide) (fun S hA => grd1 hA rfl rfl) (fun S hA hb => (iop_move rfl rfl (by decide) (sv (d := .int _ _) (agr hA rfl rfl))))) ?_
                              refine .cons (lopg rfl rfl rfl rfl (by decide) (fun S hA => grd1 hA rfl rfl) (fun S hA hb => (iop_idxT (eInt .i64) (cs := [.int _ _]) rfl rfl (by decide) Try.underlying22 ti3 (svc (d := .slice _ _) (agr hA rfl rfl) hb) (svc (d := .int _ _) (agr hA rfl rfl) hb) (gd_t hx836 hb) rfl rfl))) ?_
                              refine .cons (lopg rfl rfl rfl rfl (by decide) (fun S hA => grd1 hA rfl rfl) (fun S hA hb => (iop_load_fs rfl rfl (by decide) Try.underlying3 ag3 ti3 (by decide) (svc (d := .fptr [.int _ _]) (agr hA rfl rfl) hb) (nle rfl)))) ?_
                              refine .cons (lopg rfl rfl rfl rfl (by decide) (fun S hA => grd1 hA rfl rfl) (fun S hA hb => (iop_call (r := .bool _) rfl rfl (by decide) cl24 (.cons (svc (d := .agg [.bool v281, .int .i64 v282, .int .i64 v283, .slice false (v284.map (eInt .i64).d), .slice false (v285.map (eInt .i64).d), .int .i64 v286, .int .i64 v287, .int .i64 v288, .int .i64 v289]) (agr hA rfl rfl) hb) (.cons (svc (d := .int _ _) (agr hA rfl rfl) hb) .nil)) rfl (p_stid_Own _ _ _ (gd_t hx837 hb))))) ?_
                              refine .cons (lopg rfl rfl rfl rfl (by decide) (fun S hA => grd1 hA rfl rfl) (fun S hA hb => (iop_not rfl rfl (by decide) (svc (d := .bool _) (agr hA rfl rfl) hb)))) ?_
                              refine .cons (lop rfl rfl fun S hA => (iop_orx rfl rfl (by decide) (sv (d := .bool _) (agr hA rfl rfl)) rfl (agr hA rfl rfl) hx838)) ?_
                              refine .cons (lop rfl rfl fun S hA => (iop_move rfl rfl (by decide) (sv (d := .bool _) (agr hA rfl rfl)))) ?_
                              refine .cons (lopg rfl rfl rfl rfl (by decide) (fun S hA => grd1 hA rfl rfl) (fun S hA hb => (iop_load_ra (cs := [.bool _, .int _ _, .int _ _, .slice _ _, .slice _ _, .int _ _, .int _ _, .int _ _, .int _ _]) rfl rfl (by decide) Try.underlying27 ag27 ti27 (by decide) (sv (d := .ref _ _) (agr hA rfl rfl)) (agi hA rfl rfl) (nle rfl) rfl))) ?_
                              refine .cons (lopg rfl rfl rfl rfl (by decide) (fun S hA => grd1 hA rfl rfl) (fun S hA hb => (iop_move rfl rfl (by decide) (sv (d := .slice _ _) (agr hA rfl rfl))))) ?_
                              refine .cons (lopg rfl rfl rfl rfl (by decide) (fun S hA => grd1 hA rfl rfl) (fun S hA hb => (iop_move rfl rfl (by decide) (sv (d := .int _ _) (agr hA rfl rfl))))) ?_
                              refine .cons (lopg rfl rfl rfl rfl (by decide) (fun S hA => grd1 hA rfl rfl) (fun S hA hb => (iop_idxT (eInt .i64) (cs := [.int _ _]) rfl rfl (by decide) Try.underlying22 ti3 (svc (d := .slice _ _) (agr hA rfl rfl) hb) (svc (d := .int _ _) (agr hA rfl rfl) hb) (gd_t hx839 hb) rfl rfl))) ?_
                              refine .cons (lopg rfl rfl rfl rfl (by decide) (fun S hA => grd1 hA rfl rfl) (fun S hA hb => (iop_load_fs rfl rfl (by decide) Try.underlying3 ag3 ti3 (by decide) (svc (d := .fptr [.int _ _]) (agr hA rfl rfl) hb) (nle rfl)))) ?_
                              refine .cons (lopg rfl rfl rfl rfl (by decide) (fun S hA => grd1 hA rfl rfl) (fun S hA hb => (iop_call (r := .int _ _) rfl rfl (by decide) cl23 (.cons (svc (d := .agg [.bool x804.1.Odd, .int .i64 x804.1.Next, .int .i64 x804.1.Last, .slice false (x804.1.Live.map (eInt .i64).d), .slice false (x804.1.Cut.map (eInt .i64).d), .int .i64 x804.1.Mine, .int .i64 x804.1.Hers, .int .i64 x804.1.Heard, .int .i64 x804.1.Told]) (agr hA rfl rfl) hb) (.cons (svc (d := .int _ _) (agr hA rfl rfl) hb) .nil)) rfl (p_stid_Class _ _ _ (gd_t hx840 hb))))) ?_
                              refine .cons (lopg rfl rfl rfl rfl (by decide) (fun S hA => grd1 hA rfl rfl) (fun S hA hb => (iop_cmpx rfl rfl (by decide) (svc (d := .int _ _) (agr hA rfl rfl) hb) (sv (d := .int _ 4) rfl) rfl hx841))) ?_
                              refine .cons (lop rfl rfl fun S hA => (iop_orx rfl rfl (by decide) (sv (d := .bool _) (agr hA rfl rfl)) rfl (agr hA rfl rfl) hx842)) ?_
                              exact .nil
                            refine iwp_cond (b := _) rfl (fun hc843 => ?_) (fun hc843 => ?_)
                            ·
                              replace h := bif_t h hc843
                              refine iwp_reg (ils_cons rfl (iop_assign rfl rfl (by decide) (sv (d := .bool false) rfl)) <|
                                ils_end ?_)
                              refine iwp_ret ?_
                              refine blockQ_r ?_
                              refine thenQ_r ?_
                              refine thenQ_r ?_
                              refine blockQ_r ?_
                              refine thenQ_r ?_
                              refine blockQ_r ?_
                              refine thenQ_r ?_
                              refine blockQ_r ?_
                              refine thenQ_r ?_
                              refine thenQ_r ?_
                              refine blockQ_r ?_
                              refine thenQ_r ?_
                              obtain rfl := Option.some.inj h
                              refine ⟨.inr rfl, (.cons (sv rfl) .nil)⟩
                            ·
                              replace h := bif_f h hc843
                              refine iwp_skip ?_
                              refine blockQ_n ?_
                              refine thenQ_n ?_
                              obtain ⟨x844, hx844, h⟩ := bnd_e h
                              refine iwp_region (ils_cons rfl (iop_move rfl rfl (by decide) (sv (d := .int _ _) rfl)) <|
                                ils_cons rfl (iop_intx rfl rfl (by decide) (sv (d := .int _ _) rfl) (sv (d := .int _ 1) rfl) rfl hx844) <|
                                ils_cons rfl (iop_assign rfl rfl (by decide) (sv (d := .int _ _) rfl)) <|
                                ils_nil ?_)
                              refine thenQ_n ⟨(n4, x844), (fun i => i), ⟨(.cons (.same rfl rfl) (.cons (.same rfl rfl) (.cons (.same rfl rfl) (.cons (.same rfl rfl) (.cons (.same rfl rfl) (.cons (.same rfl rfl) (.cons (.same rfl rfl) (.cons (.same rfl rfl) (.cons (.same rfl rfl) (.cons (.same rfl rfl) (.cons (.same rfl rfl) (.cons (.same rfl rfl) .nil)))))))))))), (.cons (.blk rfl rfl rfl) (.cons (EntW.lst rfl) (.cons (.blk rfl rfl rfl) (.cons (.blk rfl rfl rfl) .nil)))), nd_of [0, 1, 2, 3] rfl (by decide), (fun i hi => by first | rfl | (show (if _ then _ else _) = _; (repeat' split) <;> omega))⟩, ?_, ?_⟩
                              exact h
                              exact Nat.lt_succ_self _
                          ·
                            replace h := bif_f h hc833
                            refine iwp_exit ?_
                            refine thenQ_e ?_
                            refine thenQ_e ?_
                            refine blockQ_e ?_
                            refine thenQ_n ?_
                            obtain ⟨x845, hx845, h⟩ := bnd_e h
                            refine iwp_reg (ils_cons rfl (iop_move rfl rfl (by decide) (sv (d := .bool _) rfl)) <|
                              ils_cons rfl (iop_move rfl rfl (by decide) (sv (d := .bool _) rfl)) <|
                              ils_guard rfl rfl (.one rfl) rfl (by decide) (fun hb => (iop_move rfl rfl (by decide) (sv (d := .bool _) rfl))) <|
                              ils_cons rfl (iop_orx rfl rfl (by decide) (sv (d := .bool _) rfl) rfl rfl hx845) <|
                              ils_cons rfl (iop_assign rfl rfl (by decide) (sv (d := .bool _) rfl)) <|
                              ils_end ?_)
                            refine iwp_region (ils_cons rfl (iop_load_ra (cs := [.bool _, .int _ _, .int _ _, .slice _ _, .slice _ _, .int _ _, .int _ _, .int _ _, .int _ _]) rfl rfl (by decide) Try.underlying27 ag27 ti27 (by decide) (sv (d := .ref _ _) rfl) rfl (nle rfl) rfl) <|
                              ils_cons rfl (iop_store (ds' := [.bool _, .int _ _, .int _ _, .slice _ _, .slice _ _, .int _ _, .int _ _, .int _ _, .int _ _]) rfl rfl ti27 (sv (d := .ref _ _) rfl) rfl (sv (d := .agg [.bool _, .int _ _, .int _ _, .slice _ _, .slice _ _, .int _ _, .int _ _, .int _ _, .int _ _]) rfl) rfl rfl rfl (nle rfl) rfl) <|
                              ils_nil ?_)
                            refine blockQ_n ?_
                            refine thenQ_n ⟨(x845, v279, v290, x804.1.Odd, x804.1.Next, x804.1.Last, x804.1.Live, x804.1.Cut, x804.1.Mine, x804.1.Hers, x804.1.Heard, x804.1.Told), (fun i => i), ⟨(.cons (.same rfl rfl) (.cons (.same rfl rfl) (.cons (.same rfl rfl) (.cons (.same rfl rfl) (.cons (.same rfl rfl) (.cons (.same rfl rfl) (.cons (.same rfl rfl) .nil))))))), (.cons (.blk rfl rfl rfl) (.cons (EntW.lst rfl) (.cons (.blk rfl rfl rfl) .nil))), nd_of [0, 1, 2] rfl (by decide), (fun i hi => by first | rfl | (show (if _ then _ else _) = _; (repeat' split) <;> omega))⟩, ?_⟩
                            exact h
                    ·
                      replace h := bif_f h hc803
                      obtain ⟨x846, hx846, h⟩ := bno_e h
                      refine iwp_reg (ils_cons rfl (iop_load_ra (cs := [.bool _, .int _ _, .int _ _, .slice _ _, .slice _ _, .int _ _, .int _ _, .int _ _, .int _ _]) rfl rfl (by decide) Try.underlying27 ag27 ti27 (by decide) (sv (d := .ref _ _) rfl) rfl (nle rfl) rfl) <|
                        ils_cons rfl (iop_call (r := .tuple [.agg [.bool _, .int _ _, .int _ _, .slice _ _, .slice _ _, .int _ _, .int _ _, .int _ _, .int _ _], .int _ _]) rfl rfl (by decide) cl16 (.cons (sv (d := .agg [.bool _, .int _ _, .int _ _, .slice _ _, .slice _ _, .int _ _, .int _ _, .int _ _, .int _ _]) rfl) .nil) rfl (p_stid_Shut _ _ hx846)) <|
                        ils_cons rfl (iop_move rfl rfl (by decide) (sv (d := .tuple [.agg [.bool _, .int _ _, .int _ _, .slice _ _, .slice _ _, .int _ _, .int _ _, .int _ _, .int _ _], .int _ _]) rfl)) <|
                        ils_cons rfl (iop_extract (d := .agg [.bool _, .int _ _, .int _ _, .slice _ _, .slice _ _, .int _ _, .int _ _, .int _ _, .int _ _]) rfl rfl (by decide) (sv (d := .tuple [.agg [.bool _, .int _ _, .int _ _, .slice _ _, .slice _ _, .int _ _, .int _ _, .int _ _, .int _ _], .int _ _]) rfl) rfl) <|
                        ils_cons rfl (iop_extract (d := .int _ _) rfl rfl (by decide) (sv (d := .tuple [.agg [.bool _, .int _ _, .int _ _, .slice _ _, .slice _ _, .int _ _, .int _ _, .int _ _, .int _ _], .int _ _]) rfl) rfl) <|
                        ils_cons rfl (iop_store (ds' := [.bool _, .int _ _, .int _ _, .slice _ _, .slice _ _, .int _ _, .int _ _, .int _ _, .int _ _]) rfl rfl ti27 (sv (d := .ref _ _) rfl) rfl (sv (d := .agg [.bool _, .int _ _, .int _ _, .slice _ _, .slice _ _, .int _ _, .int _ _, .int _ _, .int _ _]) rfl) rfl rfl rfl (nle rfl) rfl) <|
                        ils_end ?_)
                      refine iwp_region (ils_cons rfl (iop_assign rfl rfl (by decide) (sv (d := .bool true) rfl)) <|
                        ils_nil ?_)
                      refine blockQ_n ?_
                      refine thenQ_n ⟨(v278, true, v290, x846.1.Odd, x846.1.Next, x846.1.Last, x846.1.Live, x846.1.Cut, x846.1.Mine, x846.1.Hers, x846.1.Heard, x846.1.Told), (fun i => i), ⟨(.cons (.same rfl rfl) (.cons (.same rfl rfl) (.cons (.same rfl rfl) (.cons (.same rfl rfl) (.cons (.same rfl rfl) (.cons (.same rfl rfl) (.cons (.same rfl rfl) .nil))))))), (.cons (.blk rfl rfl rfl) (.cons (EntW.lst rfl) (.cons (.blk rfl rfl rfl) .nil))), nd_of [0, 1, 2] rfl (by decide), (fun i hi => by first | rfl | (show (if _ then _ else _) = _; (repeat' split) <;> omega))⟩, ?_⟩
                      exact h
            ·
              rintro ⟨v679, v680, v681, v682, v683, v684, v685, v686, v687, v688, v689, v690⟩ h
              unfold sennitlaw22_StidOnce_J2 at h
              obtain ⟨x691, hx691, h⟩ := bno_e h
              refine iwp_reg (ils_cons rfl (iop_load_ra (cs := [.bool _, .int _ _, .int _ _, .slice _ _, .slice _ _, .int _ _, .int _ _, .int _ _, .int _ _]) rfl rfl (by decide) Try.underlying27 ag27 ti27 (by decide) (sv (d := .ref _ _) rfl) rfl (nle rfl) rfl) <|
                ils_cons rfl (iop_call (r := .tuple [.int _ _, .int _ _]) rfl rfl (by decide) cl25 (.cons (sv (d := .agg [.bool _, .int _ _, .int _ _, .slice _ _, .slice _ _, .int _ _, .int _ _, .int _ _, .int _ _]) rfl) .nil) rfl (p_stid_Count _ _ hx691)) <|
                ils_cons rfl (iop_move rfl rfl (by decide) (sv (d := .tuple [.int _ _, .int _ _]) rfl)) <|
                ils_cons rfl (iop_extract (d := .int _ _) rfl rfl (by decide) (sv (d := .tuple [.int _ _, .int _ _]) rfl) rfl) <|
                ils_cons rfl (iop_extract (d := .int _ _) rfl rfl (by decide) (sv (d := .tuple [.int _ _, .int _ _]) rfl) rfl) <|
                ils_cons rfl (iop_assign rfl rfl (by decide) (sv (d := .int _ _) rfl)) <|
                ils_cons rfl (iop_assign rfl rfl (by decide) (sv (d := .int _ _) rfl)) <|
                ils_end ?_)
              refine iwp_seq ?_
              obtain ⟨x692, hx692, h⟩ := bno_e h
              obtain ⟨x693, hx693, h⟩ := bnd_e h
              obtain ⟨x694, hx694, h⟩ := bnd_e h
              obtain ⟨x695, hx695, h⟩ := bnd_e h
              refine iwp_reg (ils_cons rfl (iop_load_ra (cs := [.bool _, .int _ _, .int _ _, .slice _ _, .slice _ _, .int _ _, .int _ _, .int _ _, .int _ _]) rfl rfl (by decide) Try.underlying27 ag27 ti27 (by decide) (sv (d := .ref _ _) rfl) rfl (nle rfl) rfl) <|
                ils_cons rfl (iop_call (r := .int _ _) rfl rfl (by decide) cl26 (.cons (sv (d := .agg [.bool _, .int _ _, .int _ _, .slice _ _, .slice _ _, .int _ _, .int _ _, .int _ _, .int _ _]) rfl) .nil) rfl (p_stid_Check _ _ hx692)) <|
                ils_cons rfl (iop_cmpx rfl rfl (by decide) (sv (d := .int _ _) rfl) (sv (d := .int _ 0) rfl) rfl hx693) <|
                ils_cons rfl (iop_move rfl rfl (by decide) (sv (d := .bool _) rfl)) <|
                ils_guard rfl rfl (.one rfl) rfl (by decide) (fun hb => (iop_move rfl rfl (by decide) (sv (d := .int _ _) rfl))) <|
                ils_guard rfl rfl (.one rfl) rfl (by decide) (fun hb => (iop_cmpx rfl rfl (by decide) (svc (d := .int _ _) rfl hb) (sv (d := .int _ 5) rfl) rfl hx694)) <|
                ils_cons rfl (iop_orx rfl rfl (by decide) (sv (d := .bool _) rfl) rfl rfl hx695) <|
                ils_end ?_)
              refine iwp_cond (b := _) rfl (fun hc696 => ?_) (fun hc696 => ?_)
              ·
                replace h := bif_t h hc696
                refine iwp_reg (ils_cons rfl (iop_assign rfl rfl (by decide) (sv (d := .bool false) rfl)) <|
                  ils_end ?_)
                refine iwp_ret ?_
                refine thenQ_r ?_
                refine blockQ_r ?_
                refine thenQ_r ?_
                refine thenQ_r ?_
                refine blockQ_r ?_
                refine thenQ_r ?_
                obtain rfl := Option.some.inj h
                refine ⟨.inr rfl, (.cons (sv rfl) .nil)⟩
              ·
                replace h := bif_f h hc696
                refine iwp_skip ?_
                refine thenQ_n ?_
                refine iwp_seq ?_
                refine iwp_reg (ils_cons rfl (iop_assign rfl rfl (by decide) (sv (d := .int _ 0) rfl)) <|
                  ils_end ?_)
                refine iwp_block ?_
                refine iwp_loopP (α := Nat × Int) (fun z => ⟨[(1, .slice false (a1.map E_sennitlaw22_Act.d)), (5, .ref 0 0), (7, .ref 1 0), (8, .bool v679), (9, .bool v680), (10, .int .i64 v280), (12, .ref 2 0), (24, .int .i64 z.2)], [(0, .blk 27 [.bool v281, .int .i64 v282, .int .i64 v283, .slice false (v284.map (eInt .i64).d), .slice false (v285.map (eInt .i64).d), .int .i64 v286, .int .i64 v287, .int .i64 v288, .int .i64 v289]), (1, .blk 61 (D.flat (v681.map eBool.d))), (2, .blk 27 [.bool v682, .int .i64 v683, .int .i64 v684, .slice false (v685.map (eInt .i64).d), .slice false (v686.map (eInt .i64).d), .int .i64 v687, .int .i64 v688, .int .i64 v689, .int .i64 v690])]⟩) (fun z => sennitlaw22_StidOnce_L3 v280 (sennitlaw22_StidOnce_L0 a1 n0) v679 v680 v681 v682 v683 v684 v685 v686 v687 v688 v689 v690 z.1 z.2 = some r) (fun z => z.1) (fuel, 0) (fun i => i) ⟨(.cons (.same rfl rfl) (.cons (.same rfl rfl) (.cons (.same rfl rfl) (.cons (.same rfl rfl) (.cons (.same rfl rfl) (.cons (.same rfl rfl) (.cons (.same rfl rfl) (.cons (.same rfl rfl) .nil)))))))), (.cons (.blk rfl rfl rfl) (.cons (EntW.lst rfl) (.cons (.blk rfl rfl rfl) .nil))), nd_of [0, 1, 2] rfl (by decide), (fun i hi => by first | rfl | (show (if _ then _ else _) = _; (repeat' split) <;> omega))⟩ ?_ ?_
                · exact h
                ·
                  rintro ⟨n3, v711⟩ h
                  cases n3 with
                  | zero => exact absurd h (by unfold sennitlaw22_StidOnce_L3; exact nofun)
                  | succ n3 =>
                    unfold sennitlaw22_StidOnce_L3 at h
                    refine iwp_seq ?_
                    obtain ⟨x726, hx726, h⟩ := bnd_e h
                    refine iwp_reg (ils_cons rfl (iop_move rfl rfl (by decide) (sv (d := .int _ _) rfl)) <|
                      ils_cons rfl (iop_fieldAddr_ref rfl rfl (by decide) Try.underlying27 rfl ti22 (by decide) (sv (d := .ref _ _) rfl) (off' := 3) rfl) <|
                      ils_cons rfl (iop_load_rs (d := .slice _ _) rfl rfl (by decide) Try.underlying22 ag22 ti22 (by decide) (sv (d := .ref _ _) rfl) rfl (nle rfl) rfl) <|
                      ils_cons rfl (iop_lenT (eInt .i64) (l := v685) rfl rfl (by decide) Try.underlying22 (sv (d := .slice _ _) rfl)) <|
                      ils_cons rfl (iop_cmpx rfl rfl (by decide) (sv (d := .int _ _) rfl) (sv (d := .int _ _) rfl) rfl hx726) <|
                      ils_end ?_)
                    refine iwp_cond (b := _) rfl (fun hc727 => ?_) (fun hc727 => ?_)
                    ·
                      replace h := bif_t h hc727
                      refine iwp_skip ?_
                      refine thenQ_n ?_
                      refine iwp_seq ?_
                      refine iwp_block ?_
                      obtain ⟨x728, hx728, h⟩ := bno_e h
                      obtain ⟨x729, hx729, h⟩ := bnd_e h
                      obtain ⟨x730, hx730, h⟩ := bno_e h
                      obtain ⟨x731, hx731, h⟩ := bnd_e h
                      obtain ⟨x732, hx732, h⟩ := bnd_e h
                      obtain ⟨x733, hx733, h⟩ := bno_e h
                      obtain ⟨x734, hx734, h⟩ := bno_e h
                      obtain ⟨hk735, h⟩ := chk_e h
                      obtain ⟨x736, hx736, h⟩ := bno_e h
                      obtain ⟨x737, hx737, h⟩ := bnd_e h
                      refine iwp_reg (ils_cons rfl (iop_fieldAddr_ref rfl rfl (by decide) Try.underlying27 rfl ti22 (by decide) (sv (d := .ref _ _) rfl) (off' := 3) rfl) <|
                        ils_cons rfl (iop_load_rs (d := .slice _ _) rfl rfl (by decide) Try.underlying22 ag22 ti22 (by decide) (sv (d := .ref _ _) rfl) rfl (nle rfl) rfl) <|
                        ils_cons rfl (iop_move rfl rfl (by decide) (sv (d := .int _ _) rfl)) <|
                        ils_cons rfl (iop_idxT (eInt .i64) (cs := [.int _ _]) rfl rfl (by decide) Try.underlying22 ti3 (sv (d := .slice _ _) rfl) (sv (d := .int _ _) rfl) hx728 rfl rfl) <|
                        ils_cons rfl (iop_load_fs rfl rfl (by decide) Try.underlying3 ag3 ti3 (by decide) (sv (d := .fptr [.int _ _]) rfl) (nle rfl)) <|
                        ils_cons rfl (iop_cmpx rfl rfl (by decide) (sv (d := .int _ _) rfl) (sv (d := .int _ 1) rfl) rfl hx729) <|
                        ils_cons rfl (iop_move rfl rfl (by decide) (sv (d := .bool _) rfl)) <|
                        ils_guard rfl rfl (.one rfl) rfl (by decide) (fun hb => (iop_fieldAddr_ref rfl rfl (by decide) Try.underlying27 rfl ti22 (by decide) (sv (d := .ref _ _) rfl) (off' := 3) rfl)) <|
                        ils_guard rfl rfl (.one rfl) rfl (by decide) (fun hb => (iop_load_rs (d := .slice _ _) rfl rfl (by decide) Try.underlying22 ag22 ti22 (by decide) (svc (d := .ref _ _) rfl hb) rfl (nle rfl) rfl)) <|
                        ils_guard rfl rfl (.one rfl) rfl (by decide) (fun hb => (iop_move rfl rfl (by decide) (sv (d := .int _ _) rfl))) <|
                        ils_guard rfl rfl (.one rfl) rfl (by decide) (fun hb => (iop_idxT (eInt .i64) (cs := [.int _ _]) rfl rfl (by decide) Try.underlying22 ti3 (svc (d := .slice _ _) rfl hb) (svc (d := .int _ _) rfl hb) (gd_t hx730 hb) rfl rfl)) <|
                        ils_guard rfl rfl (.one rfl) rfl (by decide) (fun hb => (iop_load_fs rfl rfl (by decide) Try.underlying3 ag3 ti3 (by decide) (svc (d := .fptr [.int _ _]) rfl hb) (nle rfl))) <|
                        ils_guard rfl rfl (.one rfl) rfl (by decide) (fun hb => (iop_cmpx rfl rfl (by decide) (svc (d := .int _ _) rfl hb) (sv (d := .int _ 599) rfl) rfl hx731)) <|
                        ils_cons rfl (iop_orx rfl rfl (by decide) (sv (d := .bool _) rfl) rfl rfl hx732) <|
                        ils_cons rfl (iop_move rfl rfl (by decide) (sv (d := .bool _) rfl)) <|
                        ils_guard rfl rfl (.one rfl) rfl (by decide) (fun hb => (iop_fieldAddr_ref rfl rfl (by decide) Try.underlying27 rfl ti22 (by decide) (sv (d := .ref _ _) rfl) (off' := 3) rfl)) <|
                        ils_guard rfl rfl (.one rfl) rfl (by decide) (fun hb => (iop_load_rs (d := .slice _ _) rfl rfl (by decide) Try.underlying22 ag22 ti22 (by decide) (svc (d := .ref _ _) rfl hb) rfl (nle rfl) rfl)) <|
                        ils_guard rfl rfl (.one rfl) rfl (by decide) (fun hb => (iop_move rfl rfl (by decide) (sv (d := .int _ _) rfl))) <|
                        ils_guard rfl rfl (.one rfl) rfl (by decide) (fun hb => (iop_idxT (eInt .i64) (cs := [.int _ _]) rfl rfl (by decide) Try.underlying22 ti3 (svc (d := .slice _ _) rfl hb) (svc (d := .int _ _) rfl hb) (gd_t hx733 hb) rfl rfl)) <|
                        ils_guard rfl rfl (.one rfl) rfl (by decide) (fun hb => (iop_load_fs rfl rfl (by decide) Try.underlying3 ag3 ti3 (by decide) (svc (d := .fptr [.int _ _]) rfl hb) (nle rfl))) <|
                        ils_guard rfl rfl (.one rfl) rfl (by decide) (fun hb => (iop_idxA eBool.toEnc0 rfl rfl (by decide) Try.underlying61 ti4 (sv (d := .ref _ _) rfl) (hk735 hb) (svc (d := .int _ _) rfl hb) (gd_t hx734 hb))) <|
                        ils_guard rfl rfl (.one rfl) rfl (by decide) (fun hb => (iop_loadEs eBool.toEnc0 (d := .bool _) rfl rfl (by decide) Try.underlying4 ag4 ti4 (by decide) (svc (d := .ref _ _) rfl hb) rfl (gd_t hx736 hb) (nle rfl) rfl)) <|
                        ils_guard rfl rfl (.one rfl) rfl (by decide) (fun hb => (iop_not rfl rfl (by decide) (svc (d := .bool _) rfl hb))) <|
                        ils_cons rfl (iop_orx rfl rfl (by decide) (sv (d := .bool _) rfl) rfl rfl hx737) <|
                        ils_end ?_)
                      refine iwp_cond (b := _) rfl (fun hc738 => ?_) (fun hc738 => ?_)
                      ·
                        replace h := bif_t h hc738
                        refine iwp_reg (ils_cons rfl (iop_assign rfl rfl (by decide) (sv (d := .bool false) rfl)) <|
                          ils_end ?_)
                        refine iwp_ret ?_
                        refine blockQ_r ?_
                        refine thenQ_r ?_
                        refine thenQ_r ?_
                        refine blockQ_r ?_
                        refine thenQ_r ?_
                        refine blockQ_r ?_
                        refine thenQ_r ?_
                        refine thenQ_r ?_
                        refine blockQ_r ?_
                        refine thenQ_r ?_
                        obtain rfl := Option.some.inj h
                        refine ⟨.inr rfl, (.cons (sv rfl) .nil)⟩
                      ·
                        replace h := bif_f h hc738
                        refine iwp_skip ?_
                        refine blockQ_n ?_
                        refine thenQ_n ?_
                        obtain ⟨x739, hx739, h⟩ := bnd_e h
                        refine iwp_region (ils_cons rfl (iop_move rfl rfl (by decide) (sv (d := .int _ _) rfl)) <|
                          ils_cons rfl (iop_intx rfl rfl (by decide) (sv (d := .int _ _) rfl) (sv (d := .int _ 1) rfl) rfl hx739) <|
                          ils_cons rfl (iop_assign rfl rfl (by decide) (sv (d := .int _ _) rfl)) <|
                          ils_nil ?_)
                        refine thenQ_n ⟨(n3, x739), (fun i => i), ⟨(.cons (.same rfl rfl) (.cons (.same rfl rfl) (.cons (.same rfl rfl) (.cons (.same rfl rfl) (.cons (.same rfl rfl) (.cons (.same rfl rfl) (.cons (.same rfl rfl) (.cons (.same rfl rfl) .nil)))))))), (.cons (.blk rfl rfl rfl) (.cons (EntW.lst rfl) (.cons (.blk rfl rfl rfl) .nil))), nd_of [0, 1, 2] rfl (by decide), (fun i hi => by first | rfl | (show (if _ then _ else _) = _; (repeat' split) <;> omega))⟩, ?_, ?_⟩
                        exact h
                        exact Nat.lt_succ_self _
                    ·
                      replace h := bif_f h hc727
                      refine iwp_exit ?_
                      refine thenQ_e ?_
                      refine thenQ_e ?_
                      refine blockQ_e ?_
                      refine thenQ_n ?_
                      refine iwp_region (ils_cons rfl (iop_load_ra (cs := [.bool _, .int _ _, .int _ _, .slice _ _, .slice _ _, .int _ _, .int _ _, .int _ _, .int _ _]) rfl rfl (by decide) Try.underlying27 ag27 ti27 (by decide) (sv (d := .ref _ _) rfl) rfl (nle rfl) rfl) <|
                        ils_cons rfl (iop_store (ds' := [.bool _, .int _ _, .int _ _, .slice _ _, .slice _ _, .int _ _, .int _ _, .int _ _, .int _ _]) rfl rfl ti27 (sv (d := .ref _ _) rfl) rfl (sv (d := .agg [.bool _, .int _ _, .int _ _, .slice _ _, .slice _ _, .int _ _, .int _ _, .int _ _, .int _ _]) rfl) rfl rfl rfl (nle rfl) rfl) <|
                        ils_nil ?_)
                      refine blockQ_n ?_
                      refine thenQ_n ?_
                      obtain ⟨x740, hx740, h⟩ := bnd_e h
                      refine iwp_region (ils_cons rfl (iop_move rfl rfl (by decide) (sv (d := .int _ _) rfl)) <|
                        ils_cons rfl (iop_intx rfl rfl (by decide) (sv (d := .int _ _) rfl) (sv (d := .int _ 1) rfl) rfl hx740) <|
                        ils_cons rfl (iop_assign rfl rfl (by decide) (sv (d := .int _ _) rfl)) <|
                        ils_nil ?_)
                      refine thenQ_n ⟨(n0, v679, v680, x740, v682, v683, v684, v685, v686, v687, v688, v689, v690, v681), (fun i => i), ⟨(.cons (.same rfl rfl) (.cons (.same rfl rfl) (.cons (.same rfl rfl) (.cons (.same rfl rfl) (.cons (.same rfl rfl) (.cons (.same rfl rfl) .nil)))))), (.cons (.blk rfl rfl rfl) (.cons (EntW.lst rfl) .nil)), nd_of [0, 1] rfl (by decide), (fun i hi => by first | rfl | (show (if _ then _ else _) = _; (repeat' split) <;> omega))⟩, ?_, ?_⟩
                      exact h
                      exact Nat.lt_succ_self _
          ·
            replace h := bif_f h hc570
            refine iwp_exit ?_
            refine thenQ_e ?_
            refine thenQ_e ?_
            refine blockQ_e ?_
            refine thenQ_n ?_
            obtain ⟨x847, hx847, h⟩ := bno_e h
            refine iwp_reg (ils_cons rfl (iop_call (r := .bool _) rfl rfl (by decide) cl7 .nil rfl (p_sennitlaw22_awake  _ hx847)) <|
              ils_cons rfl (iop_assign rfl rfl (by decide) (sv (d := .bool _) rfl)) <|
              ils_end ?_)
            refine iwp_ret ?_
            obtain rfl := Option.some.inj h
            refine ⟨.inr rfl, (.cons (sv rfl) .nil)⟩
end Go.Proofs.Ytalalambgppmpaa
