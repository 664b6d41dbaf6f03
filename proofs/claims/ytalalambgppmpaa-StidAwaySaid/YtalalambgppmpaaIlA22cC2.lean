/-
  A part of the proof: rules and plain facts. No condition.
-/
import Derived.Test.YtalalambgppmpaaProg
import Derived.KernelRfl
import Derived.Test.YtalalambgppmpaaIlTm
import Derived.Test.YtalalambgppmpaaIlA22cC1
set_option linter.all false
set_option linter.unusedSimpArgs false
set_option linter.unusedVariables false
open Go Go.IL Go.Fn Go.Proofs
namespace Go.Proofs.Ytalalambgppmpaa
theorem ti5 : TI Try.prog 5 (some (.int .u8 0)) 1 1 := by unfold TI; kernel_rfl
theorem ti63 : TI Try.prog 63 (some (.agg #[.int .u8 0, .int .u8 0])) 2 2 := by unfold TI; kernel_rfl
theorem ag5 : aggOf Try.prog 5 = false := by kernel_rfl
theorem st36 : Try.prog.stoodInHeld 36 = false ∧ Try.prog.eqGuardType Try.prog.depth 36 = false := ⟨by kernel_rfl, by kernel_rfl⟩
theorem cl7 : Callable Try.prog 7 := ⟨Try.f7, Try.func7, rfl, rfl⟩
theorem cl8 : Callable Try.prog 8 := ⟨Try.f8, Try.func8, rfl, rfl⟩
theorem cl10 : Callable Try.prog 10 := ⟨Try.f10, Try.func10, rfl, rfl⟩
theorem cl12 : Callable Try.prog 12 := ⟨Try.f12, Try.func12, rfl, rfl⟩
theorem cl14 : Callable Try.prog 14 := ⟨Try.f14, Try.func14, rfl, rfl⟩
theorem cl16 : Callable Try.prog 16 := ⟨Try.f16, Try.func16, rfl, rfl⟩
theorem cl21 : Callable Try.prog 21 := ⟨Try.f21, Try.func21, rfl, rfl⟩
theorem cl22 : Callable Try.prog 22 := ⟨Try.f22, Try.func22, rfl, rfl⟩
theorem cl23 : Callable Try.prog 23 := ⟨Try.f23, Try.func23, rfl, rfl⟩
theorem cl27 : Callable Try.prog 27 := ⟨Try.f27, Try.func27, rfl, rfl⟩
theorem cl50 : Callable Try.prog 50 := ⟨Try.f50, Try.func50, rfl, rfl⟩

set_option maxRecDepth 8000 in
set_option maxHeartbeats 2000000 in
theorem p_stid_Shut (a0 : T_stid_State) (r : (T_stid_State × Int)) (h : stid_Shut a0 = some r) : PureAt Try.prog 16 [.agg [.bool a0.Odd, .int .i64 a0.Next, .int .i64 a0.Last, .slice false (a0.Live.map (eInt .i64).d), .slice false (a0.Cut.map (eInt .i64).d), .int .i64 a0.Mine, .int .i64 a0.Hers, .int .i64 a0.Heard, .int .i64 a0.Told]] (retD [.agg [.bool r.1.Odd, .int .i64 r.1.Next, .int .i64 r.1.Last, .slice false (r.1.Live.map (eInt .i64).d), .slice false (r.1.Cut.map (eInt .i64).d), .int .i64 r.1.Mine, .int .i64 r.1.Hers, .int .i64 r.1.Heard, .int .i64 r.1.Told], .int .i64 r.2]) := by
  refine pure_of_iwpF (rs := [.agg [.bool r.1.Odd, .int .i64 r.1.Next, .int .i64 r.1.Last, .slice false (r.1.Live.map (eInt .i64).d), .slice false (r.1.Cut.map (eInt .i64).d), .int .i64 r.1.Mine, .int .i64 r.1.Hers, .int .i64 r.1.Heard, .int .i64 r.1.Told], .int .i64 r.2]) Try.func16 rfl Try.ntmps16 (nle rfl) rfl fun O hO => ?_
  show IWP _ _ _ _ ⟨[(0, .agg [.bool a0.Odd, .int .i64 a0.Next, .int .i64 a0.Last, .slice false (a0.Live.map (eInt .i64).d), .slice false (a0.Cut.map (eInt .i64).d), .int .i64 a0.Mine, .int .i64 a0.Hers, .int .i64 a0.Heard, .int .i64 a0.Told])], []⟩ _
  unfold stid_Shut at h
  refine iwp_reg (ils_cons rfl (iop_box' (cs := [.bool _, .int _ _, .int _ _, .slice _ _, .slice _ _, .int _ _, .int _ _, .int _ _, .int _ _]) 0 rfl rfl (by decide) rfl (sv (d := .agg [.bool _, .int _ _, .int _ _, .slice _ _, .slice _ _, .int _ _, .int _ _, .int _ _, .int _ _]) rfl) rfl rfl) <|
    ils_cons rfl (iop_allocS (cs := [.bool _, .int _ _, .int _ _, .nils, .nils, .int _ _, .int _ _, .int _ _, .int _ _]) (cs' := [.bool false, .int .i64 0, .int .i64 0, .slice false (([] : List Int).map (eInt .i64).d), .slice false (([] : List Int).map (eInt .i64).d), .int .i64 0, .int .i64 0, .int .i64 0, .int .i64 0]) 1 rfl rfl (by decide) rfl ti27 rfl rfl (.cons (.refl _) (.cons (.refl _) (.cons (.refl _) (.cons (.nils _) (.cons (.nils _) (.cons (.refl _) (.cons (.refl _) (.cons (.refl _) (.cons (.refl _) .nil)))))))))) <|
    ils_cons rfl (iop_assign rfl rfl (by decide) (sv (d := .int _ 0) rfl)) <|
    ils_end ?_)
  obtain ⟨x1, hx1, h⟩ := bno_e h
  refine iwp_reg (ils_cons rfl (iop_load_ra (cs := [.bool _, .int _ _, .int _ _, .slice _ _, .slice _ _, .int _ _, .int _ _, .int _ _, .int _ _]) rfl rfl (by decide) Try.underlying27 ag27 ti27 (by decide) (sv (d := .ref _ _) rfl) rfl (nle rfl) rfl) <|
    ils_cons rfl (iop_callh2 (r' := .agg [.bool x1.1, .int .i64 x1.2.1, .int .i64 x1.2.2.1, .osl 2 (eInt .i64).sz x1.2.2.2.1.length, .osl 3 (eInt .i64).sz x1.2.2.2.2.1.length, .int .i64 x1.2.2.2.2.2.1, .int .i64 x1.2.2.2.2.2.2.1, .int .i64 x1.2.2.2.2.2.2.2.1, .int .i64 x1.2.2.2.2.2.2.2.2]) (H1' := [(2, .blk 3 (D.flat (x1.2.2.2.1.map (eInt .i64).d))), (3, .blk 3 (D.flat (x1.2.2.2.2.1.map (eInt .i64).d)))]) 2 [] rfl rfl (by decide) cl28 (.cons (sv (d := .agg [.bool _, .int _ _, .int _ _, .slice _ _, .slice _ _, .int _ _, .int _ _, .int _ _, .int _ _]) rfl) .nil) rfl rfl ⟨rfl, rfl, by decide, rfl, List.forall_mem_nil _⟩ (p_stid_State_own_h _ _ hx1) rfl rfl (List.forall_mem_cons.2 ⟨⟨rfl, (handLr (eInt .i64))⟩, List.forall_mem_cons.2 ⟨⟨rfl, (handLr (eInt .i64))⟩, List.forall_mem_nil _⟩⟩) (by simp only [List.map_cons, List.map_nil, Ent.ren, renL_flat, renL_ref]; rfl)) <|
    ils_cons rfl (iop_allocS (cs := [.bool _, .int _ _, .int _ _, .nils, .nils, .int _ _, .int _ _, .int _ _, .int _ _]) (cs' := [.bool false, .int .i64 0, .int .i64 0, .slice false (([] : List Int).map (eInt .i64).d), .slice false (([] : List Int).map (eInt .i64).d), .int .i64 0, .int .i64 0, .int .i64 0, .int .i64 0]) 4 rfl rfl (by decide) rfl ti27 rfl rfl (.cons (.refl _) (.cons (.refl _) (.cons (.refl _) (.cons (.nils _) (.cons (.nils _) (.cons (.refl _) (.cons (.refl _) (.cons (.refl _) (.cons (.refl _) .nil)))))))))) <|
    ils_cons rfl (iop_store (ds' := [.bool _, .int _ _, .int _ _, .osl _ _ _, .osl _ _ _, .int _ _, .int _ _, .int _ _, .int _ _]) rfl rfl ti27 (sv (d := .ref _ _) rfl) rfl (sv (d := .agg [.bool _, .int _ _, .int _ _, .osl _ _ _, .osl _ _ _, .int _ _, .int _ _, .int _ _, .int _ _]) rfl) rfl rfl rfl (nle rfl) rfl) <|
    ils_end ?_)
  refine iwp_seq ?_
  obtain ⟨x2, hx2, h⟩ := bno_e h
  obtain ⟨x3, hx3, h⟩ := bnd_e h
  refine iwp_reg (ils_cons rfl (iop_load_ra (cs := [.bool _, .int _ _, .int _ _, .slice _ _, .slice _ _, .int _ _, .int _ _, .int _ _, .int _ _]) rfl rfl (by decide) Try.underlying27 ag27 ti27 (by decide) (sv (d := .ref _ _) rfl) rfl (nle rfl) rfl) <|
    ils_cons rfl (iop_call (r := .int _ _) rfl rfl (by decide) cl26 (.cons (sv (d := .agg [.bool _, .int _ _, .int _ _, .slice _ _, .slice _ _, .int _ _, .int _ _, .int _ _, .int _ _]) rfl) .nil) rfl (p_stid_Check _ _ hx2)) <|
    ils_cons rfl (iop_cmpx rfl rfl (by decide) (sv (d := .int _ _) rfl) (sv (d := .int _ 0) rfl) rfl hx3) <|
    ils_end ?_)
  refine iwp_cond (b := _) rfl (fun hc4 => ?_) (fun hc4 => ?_)
  ·
    replace h := bif_t h hc4
    refine iwp_reg (ils_cons rfl (iop_load_ra (cs := [.bool _, .int _ _, .int _ _, .osl _ _ _, .osl _ _ _, .int _ _, .int _ _, .int _ _, .int _ _]) rfl rfl (by decide) Try.underlying27 ag27 ti27 (by decide) (sv (d := .ref _ _) rfl) rfl (nle rfl) rfl) <|
      ils_cons rfl (iop_store (ds' := [.bool _, .int _ _, .int _ _, .osl _ _ _, .osl _ _ _, .int _ _, .int _ _, .int _ _, .int _ _]) rfl rfl ti27 (sv (d := .ref _ _) rfl) rfl (sv (d := .agg [.bool _, .int _ _, .int _ _, .osl _ _ _, .osl _ _ _, .int _ _, .int _ _, .int _ _, .int _ _]) rfl) rfl rfl rfl (nle rfl) rfl) <|
      ils_cons rfl (iop_assign rfl rfl (by decide) (sv (d := .int _ (-1)) rfl)) <|
      ils_end ?_)
    refine iwp_ret ?_
    refine thenQ_r ?_
    obtain rfl := Option.some.inj h
    refine ⟨.inr rfl, _, (.cons (resv_a rfl rfl Try.underlying27 ag27 ti27 (by decide) (nle rfl) rfl) (.cons (sv rfl) .nil)), (.cons (.agg (.cons (.refl _) (.cons (.refl _) (.cons (.refl _) (.cons (FDT (eInt .i64) rfl rfl) (.cons (FDT (eInt .i64) rfl rfl) (.cons (.refl _) (.cons (.refl _) (.cons (.refl _) (.cons (.refl _) .nil)))))))))) (.cons (.refl _) .nil))⟩
  ·
    replace h := bif_f h hc4
    refine iwp_skip ?_
    refine thenQ_n ?_
    refine iwp_join (α := Int) (fun z => ⟨[(2, .ref 1 0), (4, .ref 4 0)], [(1, .blk 27 [.bool false, .int .i64 0, .int .i64 0, .slice false (([] : List Int).map (eInt .i64).d), .slice false (([] : List Int).map (eInt .i64).d), .int .i64 0, .int .i64 0, .int .i64 0, .int .i64 0]), (4, .blk 27 [.bool x1.1, .int .i64 x1.2.1, .int .i64 x1.2.2.1, .osl 2 (eInt .i64).sz x1.2.2.2.1.length, .osl 3 (eInt .i64).sz x1.2.2.2.2.1.length, .int .i64 x1.2.2.2.2.2.1, .int .i64 x1.2.2.2.2.2.2.1, .int .i64 x1.2.2.2.2.2.2.2.1, .int .i64 z]), (2, .blk 3 (D.flat (x1.2.2.2.1.map (eInt .i64).d))), (3, .blk 3 (D.flat (x1.2.2.2.2.1.map (eInt .i64).d)))]⟩) (fun z => stid_Shut_J0 x1 z = some r) ?_ ?_
    ·
      obtain ⟨x8, hx8, h⟩ := bnd_e h
      refine iwp_reg (ils_cons rfl (iop_fieldAddr_ref rfl rfl (by decide) Try.underlying27 rfl ti3 (by decide) (sv (d := .ref _ _) rfl) (off' := 8) rfl) <|
        ils_cons rfl (iop_load_rs (d := .int _ _) rfl rfl (by decide) Try.underlying3 ag3 ti3 (by decide) (sv (d := .ref _ _) rfl) rfl (nle rfl) rfl) <|
        ils_cons rfl (iop_cmpx rfl rfl (by decide) (sv (d := .int _ _) rfl) (sv (d := .int _ (-1)) rfl) rfl hx8) <|
        ils_end ?_)
      refine iwp_cond (b := _) rfl (fun hc9 => ?_) (fun hc9 => ?_)
      ·
        replace h := bif_t h hc9
        refine iwp_region (ils_cons rfl (iop_fieldAddr_ref rfl rfl (by decide) Try.underlying27 rfl ti3 (by decide) (sv (d := .ref _ _) rfl) (off' := 2) rfl) <|
          ils_cons rfl (iop_load_rs (d := .int _ _) rfl rfl (by decide) Try.underlying3 ag3 ti3 (by decide) (sv (d := .ref _ _) rfl) rfl (nle rfl) rfl) <|
          ils_cons rfl (iop_fieldAddr_ref rfl rfl (by decide) Try.underlying27 rfl ti3 (by decide) (sv (d := .ref _ _) rfl) (off' := 8) rfl) <|
          ils_cons rfl (iop_store (ds' := [.bool _, .int _ _, .int _ _, .osl _ _ _, .osl _ _ _, .int _ _, .int _ _, .int _ _, .int _ _]) rfl rfl ti3 (sv (d := .ref _ _) rfl) rfl (sv (d := .int _ _) rfl) rfl rfl rfl (nle rfl) rfl) <|
          ils_nil ?_)
        refine thenQ_n ⟨x1.2.2.1, (fun i => i), ⟨(.cons (.same rfl rfl) (.cons (.same rfl rfl) .nil)), (.cons (.blk rfl rfl rfl) (.cons (.blk rfl rfl rfl) (.cons (EntW.lst rfl) (.cons (EntW.lst rfl) .nil)))), nd_of [1, 4, 2, 3] rfl (by decide), (fun i hi => by first | rfl | (show (if _ then _ else _) = _; (repeat' split) <;> omega))⟩, ?_⟩
        exact h
      ·
        replace h := bif_f h hc9
        refine iwp_skip ?_
        refine thenQ_n ⟨x1.2.2.2.2.2.2.2.2, (fun i => i), ⟨(.cons (.same rfl rfl) (.cons (.same rfl rfl) .nil)), (.cons (.blk rfl rfl rfl) (.cons (.blk rfl rfl rfl) (.cons (EntW.lst rfl) (.cons (EntW.lst rfl) .nil)))), nd_of [1, 4, 2, 3] rfl (by decide), (fun i hi => by first | rfl | (show (if _ then _ else _) = _; (repeat' split) <;> omega))⟩, ?_⟩
        exact h
    ·
      rintro v7 h
      unfold stid_Shut_J0 at h
      refine iwp_drw rfl [⟨[4], [4], [(17, .agg [.bool x1.1, .int .i64 x1.2.1, .int .i64 x1.2.2.1, .osl 2 (eInt .i64).sz x1.2.2.2.1.length, .osl 3 (eInt .i64).sz x1.2.2.2.2.1.length, .int .i64 x1.2.2.2.2.2.1, .int .i64 x1.2.2.2.2.2.2.1, .int .i64 x1.2.2.2.2.2.2.2.1, .int .i64 v7])], []⟩,
        ⟨[4], [], [(18, .ref 4 8)], []⟩,
        ⟨[18], [4], [(19, .int .i64 v7)], []⟩,
        ⟨[2, 17], [1], [], [(1, .blk 27 [.bool x1.1, .int .i64 x1.2.1, .int .i64 x1.2.2.1, .osl 2 (eInt .i64).sz x1.2.2.2.1.length, .osl 3 (eInt .i64).sz x1.2.2.2.2.1.length, .int .i64 x1.2.2.2.2.2.1, .int .i64 x1.2.2.2.2.2.2.1, .int .i64 x1.2.2.2.2.2.2.2.1, .int .i64 v7])]⟩,
        ⟨[19], [], [(3, .int .i64 v7)], []⟩] rfl ?_ (by kernel_rfl) ?_
      · refine .cons (lop rfl rfl fun S hA => (iop_load_ra (cs := [.bool _, .int _ _, .int _ _, .osl _ _ _, .osl _ _ _, .int _ _, .int _ _, .int _ _, .int _ _]) rfl rfl (by decide) Try.underlying27 ag27 ti27 (by decide) (sv (d := .ref _ _) (agr hA rfl rfl)) (agi hA rfl rfl) (nle rfl) rfl)) ?_
        refine .cons (lop rfl rfl fun S hA => (iop_fieldAddr_ref rfl rfl (by decide) Try.underlying27 rfl ti3 (by decide) (sv (d := .ref _ _) (agr hA rfl rfl)) (off' := 8) rfl)) ?_
        refine .cons (lop rfl rfl fun S hA => (iop_load_rs (d := .int _ _) rfl rfl (by decide) Try.underlying3 ag3 ti3 (by decide) (sv (d := .ref _ _) (agr hA rfl rfl)) (agi hA rfl rfl) (nle rfl) rfl)) ?_
        refine .cons (lop rfl rfl fun S hA => (iop_store (ds' := [.bool _, .int _ _, .int _ _, .osl _ _ _, .osl _ _ _, .int _ _, .int _ _, .int _ _, .int _ _]) rfl rfl ti27 (sv (d := .ref _ _) (agr hA rfl rfl)) (agi hA rfl rfl) (sv (d := .agg [.bool _, .int _ _, .int _ _, .osl _ _ _, .osl _ _ _, .int _ _, .int _ _, .int _ _, .int _ _]) (agr hA rfl rfl)) rfl rfl rfl (nle rfl) rfl)) ?_
        refine .cons (lop rfl rfl fun S hA => (iop_assign rfl rfl (by decide) (sv (d := .int _ _) (agr hA rfl rfl)))) ?_
        exact .nil
      refine iwp_ret ?_
      obtain rfl := Option.some.inj h
      refine ⟨.inr rfl, _, (.cons (resv_a rfl rfl Try.underlying27 ag27 ti27 (by decide) (nle rfl) rfl) (.cons (sv rfl) .nil)), (.cons (.agg (.cons (.refl _) (.cons (.refl _) (.cons (.refl _) (.cons (FDT (eInt .i64) rfl rfl) (.cons (FDT (eInt .i64) rfl rfl) (.cons (.refl _) (.cons (.refl _) (.cons (.refl _) (.cons (.refl _) .nil)))))))))) (.cons (.refl _) .nil))⟩

set_option maxRecDepth 8000 in
set_option maxHeartbeats 2000000 in
theorem p_sennitref02_SameInts (a0 : (List Int)) (a1 : (List Int)) (r : Bool) (h : sennitref02_SameInts a0 a1 = some r) : PureAt Try.prog 21 [.slice false (a0.map (eInt .i64).d), .slice false (a1.map (eInt .i64).d)] (.bool r) := by
  refine pure_of_iwp (rs := [.bool r]) Try.func21 rfl Try.ntmps21 (nle rfl) rfl fun O hO => ?_
  show IWP _ _ _ _ ⟨[(0, .slice false (a0.map (eInt .i64).d)), (1, .slice false (a1.map (eInt .i64).d))], []⟩ _
  unfold sennitref02_SameInts at h
  refine iwp_reg (ils_cons rfl (iop_assign rfl rfl (by decide) (sv (d := .bool false) rfl)) <|
    ils_end ?_)
  refine iwp_seq ?_
  obtain ⟨x1, hx1, h⟩ := bnd_e h
  refine iwp_reg (ils_cons rfl (iop_move rfl rfl (by decide) (sv (d := .slice _ _) rfl)) <|
    ils_cons rfl (iop_lenT (eInt .i64) (l := a0) rfl rfl (by decide) Try.underlying22 (sv (d := .slice _ _) rfl)) <|
    ils_cons rfl (iop_move rfl rfl (by decide) (sv (d := .slice _ _) rfl)) <|
    ils_cons rfl (iop_lenT (eInt .i64) (l := a1) rfl rfl (by decide) Try.underlying22 (sv (d := .slice _ _) rfl)) <|
    ils_cons rfl (iop_cmpx rfl rfl (by decide) (sv (d := .int _ _) rfl) (sv (d := .int _ _) rfl) rfl hx1) <|
    ils_end ?_)
  refine iwp_cond (b := _) rfl (fun hc2 => ?_) (fun hc2 => ?_)
  ·
    replace h := bif_t h hc2
    refine iwp_reg (ils_cons rfl (iop_assign rfl rfl (by decide) (sv (d := .bool false) rfl)) <|
      ils_end ?_)
    refine iwp_ret ?_
    refine thenQ_r ?_
    obtain rfl := Option.some.inj h
    refine ⟨.inr rfl, (.cons (sv rfl) .nil)⟩
  ·
    replace h := bif_f h hc2
    refine iwp_skip ?_
    refine thenQ_n ?_
    refine iwp_seq ?_
    refine iwp_reg (ils_cons rfl (iop_assign rfl rfl (by decide) (sv (d := .int _ 0) rfl)) <|
      ils_end ?_)
    refine iwp_block ?_
    refine iwp_loopP (α := Nat × Int) (fun z => ⟨[(0, .slice false (a0.map (eInt .i64).d)), (1, .slice false (a1.map (eInt .i64).d)), (5, .int .i64 z.2)], []⟩) (fun z => sennitref02_SameInts_L0 a0 a1 z.1 z.2 = some r) (fun z => z.1) (fuel, 0) (fun i => i) ⟨(.cons (.same rfl rfl) (.cons (.same rfl rfl) (.cons (.same rfl rfl) .nil))), .nil, nd_of [] rfl (by decide), (fun i hi => by first | rfl | (show (if _ then _ else _) = _; (repeat' split) <;> omega))⟩ ?_ ?_
    · exact h
    ·
      rintro ⟨n0, v10⟩ h
      cases n0 with
      | zero => exact absurd h (by unfold sennitref02_SameInts_L0; exact nofun)
      | succ n0 =>
        unfold sennitref02_SameInts_L0 at h
        refine iwp_seq ?_
        obtain ⟨x18, hx18, h⟩ := bnd_e h
        refine iwp_reg (ils_cons rfl (iop_move rfl rfl (by decide) (sv (d := .int _ _) rfl)) <|
          ils_cons rfl (iop_move rfl rfl (by decide) (sv (d := .slice _ _) rfl)) <|
          ils_cons rfl (iop_lenT (eInt .i64) (l := a0) rfl rfl (by decide) Try.underlying22 (sv (d := .slice _ _) rfl)) <|
          ils_cons rfl (iop_cmpx rfl rfl (by decide) (sv (d := .int _ _) rfl) (sv (d := .int _ _) rfl) rfl hx18) <|
          ils_end ?_)
        refine iwp_cond (b := _) rfl (fun hc19 => ?_) (fun hc19 => ?_)
        ·
          replace h := bif_t h hc19
          refine iwp_skip ?_
          refine thenQ_n ?_
          refine iwp_seq ?_
          refine iwp_block ?_
          obtain ⟨x20, hx20, h⟩ := bno_e h
          obtain ⟨x21, hx21, h⟩ := bno_e h
          obtain ⟨x22, hx22, h⟩ := bnd_e h
          refine iwp_drw rfl [⟨[0], [], [(17, .slice false (a0.map (eInt .i64).d))], []⟩,
            ⟨[5], [], [(18, .int .i64 v10)], []⟩,
            ⟨[17, 18], [], [(19, .fptr [.int .i64 x20])], []⟩,
            ⟨[19], [], [(20, .int .i64 x20)], []⟩,
            ⟨[1], [], [(21, .slice false (a1.map (eInt .i64).d))], []⟩,
            ⟨[5], [], [(22, .int .i64 v10)], []⟩,
            ⟨[21, 22], [], [(23, .fptr [.int .i64 x21])], []⟩,
            ⟨[23], [], [(24, .int .i64 x21)], []⟩,
            ⟨[20, 24], [], [(25, .bool x22)], []⟩] rfl ?_ (by kernel_rfl) ?_
          · refine .cons (lop rfl rfl fun S hA => (iop_move rfl rfl (by decide) (sv (d := .slice _ _) (agr hA rfl rfl)))) ?_
            refine .cons (lop rfl rfl fun S hA => (iop_move rfl rfl (by decide) (sv (d := .int _ _) (agr hA rfl rfl)))) ?_
            refine .cons (lop rfl rfl fun S hA => (iop_idxT (eInt .i64) (cs := [.int _ _]) rfl rfl (by decide) Try.underlying22 ti3 (sv (d := .slice _ _) (agr hA rfl rfl)) (sv (d := .int _ _) (agr hA rfl rfl)) hx20 rfl rfl)) ?_
            refine .cons (lop rfl rfl fun S hA => (iop_load_fs rfl rfl (by decide) Try.underlying3 ag3 ti3 (by decide) (sv (d := .fptr [.int _ _]) (agr hA rfl rfl)) (nle rfl))) ?_
            refine .cons (lop rfl rfl fun S hA => (iop_move rfl rfl (by decide) (sv (d := .slice _ _) (agr hA rfl rfl)))) ?_
            refine .cons (lop rfl rfl fun S hA => (iop_move rfl rfl (by decide) (sv (d := .int _ _) (agr hA rfl rfl)))) ?_
            refine .cons (lop rfl rfl fun S hA => (iop_idxT (eInt .i64) (cs := [.int _ _]) rfl rfl (by decide) Try.underlying22 ti3 (sv (d := .slice _ _) (agr hA rfl rfl)) (sv (d := .int _ _) (agr hA rfl rfl)) hx21 rfl rfl)) ?_
            refine .cons (lop rfl rfl fun S hA => (iop_load_fs rfl rfl (by decide) Try.underlying3 ag3 ti3 (by decide) (sv (d := .fptr [.int _ _]) (agr hA rfl rfl)) (nle rfl))) ?_
            refine .cons (lop rfl rfl fun S hA => (iop_cmpx rfl rfl (by decide) (sv (d := .int _ _) (agr hA rfl rfl)) (sv (d := .int _ _) (agr hA rfl rfl)) rfl hx22)) ?_
            exact .nil
          refine iwp_cond (b := _) rfl (fun hc23 => ?_) (fun hc23 => ?_)
          ·
            replace h := bif_t h hc23
            refine iwp_reg (ils_cons rfl (iop_assign rfl rfl (by decide) (sv (d := .bool false) rfl)) <|
              ils_end ?_)
            refine iwp_ret ?_
            refine blockQ_r ?_
            refine thenQ_r ?_
            refine thenQ_r ?_
            refine blockQ_r ?_
            refine thenQ_r ?_
            obtain rfl := Option.some.inj h
            refine ⟨.inr rfl, (.cons (sv rfl) .nil)⟩
          ·
            replace h := bif_f h hc23
            refine iwp_skip ?_
            refine blockQ_n ?_
            refine thenQ_n ?_
            obtain ⟨x24, hx24, h⟩ := bnd_e h
            refine iwp_region (ils_cons rfl (iop_move rfl rfl (by decide) (sv (d := .int _ _) rfl)) <|
              ils_cons rfl (iop_intx rfl rfl (by decide) (sv (d := .int _ _) rfl) (sv (d := .int _ 1) rfl) rfl hx24) <|
              ils_cons rfl (iop_assign rfl rfl (by decide) (sv (d := .int _ _) rfl)) <|
              ils_nil ?_)
            refine thenQ_n ⟨(n0, x24), (fun i => i), ⟨(.cons (.same rfl rfl) (.cons (.same rfl rfl) (.cons (.same rfl rfl) .nil))), .nil, nd_of [] rfl (by decide), (fun i hi => by first | rfl | (show (if _ then _ else _) = _; (repeat' split) <;> omega))⟩, ?_, ?_⟩
            exact h
            exact Nat.lt_succ_self _
        ·
          replace h := bif_f h hc19
          refine iwp_exit ?_
          refine thenQ_e ?_
          refine thenQ_e ?_
          refine blockQ_e ?_
          refine thenQ_n ?_
          refine iwp_reg (ils_cons rfl (iop_assign rfl rfl (by decide) (sv (d := .bool true) rfl)) <|
            ils_end ?_)
          refine iwp_ret ?_
          obtain rfl := Option.some.inj h
          refine ⟨.inr rfl, (.cons (sv rfl) .nil)⟩

set_option maxRecDepth 8000 in
set_option maxHeartbeats 2000000 in
theorem p_stid_Class (a0 : T_stid_State) (a1 : Int) (r : Int) (h : stid_Class a0 a1 = some r) : PureAt Try.prog 23 [.agg [.bool a0.Odd, .int .i64 a0.Next, .int .i64 a0.Last, .slice false (a0.Live.map (eInt .i64).d), .slice false (a0.Cut.map (eInt .i64).d), .int .i64 a0.Mine, .int .i64 a0.Hers, .int .i64 a0.Heard, .int .i64 a0.Told], .int .i64 a1] (.int .u8 r) := by
  refine pure_of_iwp (rs := [.int .u8 r]) Try.func23 rfl Try.ntmps23 (nle rfl) rfl fun O hO => ?_
  show IWP _ _ _ _ ⟨[(0, .agg [.bool a0.Odd, .int .i64 a0.Next, .int .i64 a0.Last, .slice false (a0.Live.map (eInt .i64).d), .slice false (a0.Cut.map (eInt .i64).d), .int .i64 a0.Mine, .int .i64 a0.Hers, .int .i64 a0.Heard, .int .i64 a0.Told]), (1, .int .i64 a1)], []⟩ _
  unfold stid_Class at h
  refine iwp_reg (ils_cons rfl (iop_box' (cs := [.bool _, .int _ _, .int _ _, .slice _ _, .slice _ _, .int _ _, .int _ _, .int _ _, .int _ _]) 0 rfl rfl (by decide) rfl (sv (d := .agg [.bool _, .int _ _, .int _ _, .slice _ _, .slice _ _, .int _ _, .int _ _, .int _ _, .int _ _]) rfl) rfl rfl) <|
    ils_cons rfl (iop_assign rfl rfl (by decide) (sv (d := .int _ 0) rfl)) <|
    ils_end ?_)
  refine iwp_seq ?_
  refine iwp_block ?_
  obtain ⟨x1, hx1, h⟩ := bnd_e h
  refine iwp_reg (ils_cons rfl (iop_move rfl rfl (by decide) (sv (d := .int _ _) rfl)) <|
    ils_cons rfl (iop_cmpx rfl rfl (by decide) (sv (d := .int _ _) rfl) (sv (d := .int _ 0) rfl) rfl hx1) <|
    ils_cons rfl (iop_assign rfl rfl (by decide) (sv (d := .bool _) rfl)) <|
    ils_end ?_)
  refine iwp_cond (b := _) rfl (fun hc2 => ?_) (fun hc2 => ?_)
  ·
    replace h := bif_t h hc2
    refine iwp_reg (ils_cons rfl (iop_assign rfl rfl (by decide) (sv (d := .int _ 0) rfl)) <|
      ils_end ?_)
    refine iwp_ret ?_
    refine blockQ_r ?_
    refine thenQ_r ?_
    obtain rfl := Option.some.inj h
    refine ⟨.inr rfl, (.cons (sv rfl) .nil)⟩
  ·
    replace h := bif_f h hc2
    obtain ⟨x3, hx3, h⟩ := bno_e h
    refine iwp_reg (ils_cons rfl (iop_fieldAddr_ref rfl rfl (by decide) Try.underlying27 rfl ti22 (by decide) (sv (d := .ref _ _) rfl) (off' := 3) rfl) <|
      ils_cons rfl (iop_load_rs (d := .slice _ _) rfl rfl (by decide) Try.underlying22 ag22 ti22 (by decide) (sv (d := .ref _ _) rfl) rfl (nle rfl) rfl) <|
      ils_cons rfl (iop_move rfl rfl (by decide) (sv (d := .int _ _) rfl)) <|
      ils_cons rfl (iop_call (r := .bool _) rfl rfl (by decide) cl35 (.cons (sv (d := .slice _ _) rfl) (.cons (sv (d := .int _ _) rfl) .nil)) rfl (p_slices_Contains_int_int _ _ _ hx3)) <|
      ils_cons rfl (iop_assign rfl rfl (by decide) (sv (d := .bool _) rfl)) <|
      ils_end ?_)
    refine iwp_cond (b := _) rfl (fun hc4 => ?_) (fun hc4 => ?_)
    ·
      replace h := bif_t h hc4
      refine iwp_reg (ils_cons rfl (iop_assign rfl rfl (by decide) (sv (d := .int _ 2) rfl)) <|
        ils_end ?_)
      refine iwp_ret ?_
      refine blockQ_r ?_
      refine thenQ_r ?_
      obtain rfl := Option.some.inj h
      refine ⟨.inr rfl, (.cons (sv rfl) .nil)⟩
    ·
      replace h := bif_f h hc4
      obtain ⟨x5, hx5, h⟩ := bno_e h
      refine iwp_reg (ils_cons rfl (iop_fieldAddr_ref rfl rfl (by decide) Try.underlying27 rfl ti22 (by decide) (sv (d := .ref _ _) rfl) (off' := 4) rfl) <|
        ils_cons rfl (iop_load_rs (d := .slice _ _) rfl rfl (by decide) Try.underlying22 ag22 ti22 (by decide) (sv (d := .ref _ _) rfl) rfl (nle rfl) rfl) <|
        ils_cons rfl (iop_move rfl rfl (by decide) (sv (d := .int _ _) rfl)) <|
        ils_cons rfl (iop_call (r := .bool _) rfl rfl (by decide) cl35 (.cons (sv (d := .slice _ _) rfl) (.cons (sv (d := .int _ _) rfl) .nil)) rfl (p_slices_Contains_int_int _ _ _ hx5)) <|
        ils_cons rfl (iop_assign rfl rfl (by decide) (sv (d := .bool _) rfl)) <|
        ils_end ?_)
      refine iwp_cond (b := _) rfl (fun hc6 => ?_) (fun hc6 => ?_)
      ·
        replace h := bif_t h hc6
        refine iwp_reg (ils_cons rfl (iop_assign rfl rfl (by decide) (sv (d := .int _ 5) rfl)) <|
          ils_end ?_)
        refine iwp_ret ?_
        refine blockQ_r ?_
        refine thenQ_r ?_
        obtain rfl := Option.some.inj h
        refine ⟨.inr rfl, (.cons (sv rfl) .nil)⟩
      ·
        replace h := bif_f h hc6
        obtain ⟨x7, hx7, h⟩ := bno_e h
        refine iwp_reg (ils_cons rfl (iop_load_ra (cs := [.bool _, .int _ _, .int _ _, .slice _ _, .slice _ _, .int _ _, .int _ _, .int _ _, .int _ _]) rfl rfl (by decide) Try.underlying27 ag27 ti27 (by decide) (sv (d := .ref _ _) rfl) rfl (nle rfl) rfl) <|
          ils_cons rfl (iop_move rfl rfl (by decide) (sv (d := .int _ _) rfl)) <|
          ils_cons rfl (iop_call (r := .bool _) rfl rfl (by decide) cl46 (.cons (sv (d := .agg [.bool _, .int _ _, .int _ _, .slice _ _, .slice _ _, .int _ _, .int _ _, .int _ _, .int _ _]) rfl) (.cons (sv (d := .int _ _) rfl) .nil)) rfl (p_stid_State_began _ _ _ hx7)) <|
          ils_cons rfl (iop_assign rfl rfl (by decide) (sv (d := .bool _) rfl)) <|
          ils_end ?_)
        refine iwp_cond (b := _) rfl (fun hc8 => ?_) (fun hc8 => ?_)
        ·
          replace h := bif_t h hc8
          refine iwp_reg (ils_cons rfl (iop_assign rfl rfl (by decide) (sv (d := .int _ 4) rfl)) <|
            ils_end ?_)
          refine iwp_ret ?_
          refine blockQ_r ?_
          refine thenQ_r ?_
          obtain rfl := Option.some.inj h
          refine ⟨.inr rfl, (.cons (sv rfl) .nil)⟩
        ·
          replace h := bif_f h hc8
          refine iwp_seq ?_
          obtain ⟨x9, hx9, h⟩ := bno_e h
          refine iwp_reg (ils_cons rfl (iop_load_ra (cs := [.bool _, .int _ _, .int _ _, .slice _ _, .slice _ _, .int _ _, .int _ _, .int _ _, .int _ _]) rfl rfl (by decide) Try.underlying27 ag27 ti27 (by decide) (sv (d := .ref _ _) rfl) rfl (nle rfl) rfl) <|
            ils_cons rfl (iop_move rfl rfl (by decide) (sv (d := .int _ _) rfl)) <|
            ils_cons rfl (iop_call (r := .bool _) rfl rfl (by decide) cl24 (.cons (sv (d := .agg [.bool _, .int _ _, .int _ _, .slice _ _, .slice _ _, .int _ _, .int _ _, .int _ _, .int _ _]) rfl) (.cons (sv (d := .int _ _) rfl) .nil)) rfl (p_stid_Own _ _ _ hx9)) <|
            ils_cons rfl (iop_assign rfl rfl (by decide) (sv (d := .bool _) rfl)) <|
            ils_end ?_)
          refine iwp_cond (b := _) rfl (fun hc10 => ?_) (fun hc10 => ?_)
          ·
            replace h := bif_t h hc10
            refine iwp_skip ?_
            refine thenQ_n ?_
            refine iwp_cond_t rfl hc10 ?_
            refine iwp_reg (ils_cons rfl (iop_assign rfl rfl (by decide) (sv (d := .int _ 6) rfl)) <|
              ils_end ?_)
            refine iwp_ret ?_
            refine blockQ_r ?_
            refine thenQ_r ?_
            obtain rfl := Option.some.inj h
            refine ⟨.inr rfl, (.cons (sv rfl) .nil)⟩
          ·
            replace h := bif_f h hc10
            obtain ⟨x11, hx11, h⟩ := bno_e h
            refine iwp_region (ils_cons rfl (iop_move rfl rfl (by decide) (sv (d := .int _ _) rfl)) <|
              ils_cons rfl (iop_call (r := .bool _) rfl rfl (by decide) cl34 (.cons (sv (d := .int _ _) rfl) (.cons (sv (d := .int _ 1) rfl) (.cons (sv (d := .int _ 1048576) rfl) .nil))) rfl (p_stid_in _ _ _ _ hx11)) <|
              ils_cons rfl (iop_not rfl rfl (by decide) (sv (d := .bool _) rfl)) <|
              ils_cons rfl (iop_assign rfl rfl (by decide) (sv (d := .bool _) rfl)) <|
              ils_nil ?_)
            refine thenQ_n ?_
            refine iwp_cond (b := _) rfl (fun hc12 => ?_) (fun hc12 => ?_)
            ·
              replace h := bif_t h hc12
              refine iwp_reg (ils_cons rfl (iop_assign rfl rfl (by decide) (sv (d := .int _ 6) rfl)) <|
                ils_end ?_)
              refine iwp_ret ?_
              refine blockQ_r ?_
              refine thenQ_r ?_
              obtain rfl := Option.some.inj h
              refine ⟨.inr rfl, (.cons (sv rfl) .nil)⟩
            ·
              replace h := bif_f h hc12
              refine iwp_skip ?_
              refine blockQ_n ?_
              refine thenQ_n ?_
              refine iwp_reg (ils_cons rfl (iop_assign rfl rfl (by decide) (sv (d := .int _ 1) rfl)) <|
                ils_end ?_)
              refine iwp_ret ?_
              obtain rfl := Option.some.inj h
              refine ⟨.inr rfl, (.cons (sv rfl) .nil)⟩

set_option maxRecDepth 8000 in
set_option maxHeartbeats 2000000 in
theorem p_stid_End (a0 : T_stid_State) (a1 : Int) (a2 : Bool) (r : T_stid_State) (h : stid_End a0 a1 a2 = some r) : PureAt Try.prog 12 [.agg [.bool a0.Odd, .int .i64 a0.Next, .int .i64 a0.Last, .slice false (a0.Live.map (eInt .i64).d), .slice false (a0.Cut.map (eInt .i64).d), .int .i64 a0.Mine, .int .i64 a0.Hers, .int .i64 a0.Heard, .int .i64 a0.Told], .int .i64 a1, .bool a2] (.agg [.bool r.Odd, .int .i64 r.Next, .int .i64 r.Last, .slice false (r.Live.map (eInt .i64).d), .slice false (r.Cut.map (eInt .i64).d), .int .i64 r.Mine, .int .i64 r.Hers, .int .i64 r.Heard, .int .i64 r.Told]) := by
  refine pure_of_iwpF (rs := [.agg [.bool r.Odd, .int .i64 r.Next, .int .i64 r.Last, .slice false (r.Live.map (eInt .i64).d), .slice false (r.Cut.map (eInt .i64).d), .int .i64 r.Mine, .int .i64 r.Hers, .int .i64 r.Heard, .int .i64 r.Told]]) Try.func12 rfl Try.ntmps12 (nle rfl) rfl fun O hO => ?_
  show IWP _ _ _ _ ⟨[(0, .agg [.bool a0.Odd, .int .i64 a0.Next, .int .i64 a0.Last, .slice false (a0.Live.map (eInt .i64).d), .slice false (a0.Cut.map (eInt .i64).d), .int .i64 a0.Mine, .int .i64 a0.Hers, .int .i64 a0.Heard, .int .i64 a0.Told]), (1, .int .i64 a1), (2, .bool a2)], []⟩ _
  unfold stid_End at h
  refine iwp_reg (ils_cons rfl (iop_box' (cs := [.bool _, .int _ _, .int _ _, .slice _ _, .slice _ _, .int _ _, .int _ _, .int _ _, .int _ _]) 0 rfl rfl (by decide) rfl (sv (d := .agg [.bool _, .int _ _, .int _ _, .slice _ _, .slice _ _, .int _ _, .int _ _, .int _ _, .int _ _]) rfl) rfl rfl) <|
    ils_cons rfl (iop_allocS (cs := [.bool _, .int _ _, .int _ _, .nils, .nils, .int _ _, .int _ _, .int _ _, .int _ _]) (cs' := [.bool false, .int .i64 0, .int .i64 0, .slice false (([] : List Int).map (eInt .i64).d), .slice false (([] : List Int).map (eInt .i64).d), .int .i64 0, .int .i64 0, .int .i64 0, .int .i64 0]) 1 rfl rfl (by decide) rfl ti27 rfl rfl (.cons (.refl _) (.cons (.refl _) (.cons (.refl _) (.cons (.nils _) (.cons (.nils _) (.cons (.refl _) (.cons (.refl _) (.cons (.refl _) (.cons (.refl _) .nil)))))))))) <|
    ils_end ?_)
  obtain ⟨x1, hx1, h⟩ := bno_e h
  refine iwp_reg (ils_cons rfl (iop_load_ra (cs := [.bool _, .int _ _, .int _ _, .slice _ _, .slice _ _, .int _ _, .int _ _, .int _ _, .int _ _]) rfl rfl (by decide) Try.underlying27 ag27 ti27 (by decide) (sv (d := .ref _ _) rfl) rfl (nle rfl) rfl) <|
    ils_cons rfl (iop_callh2 (r' := .agg [.bool x1.1, .int .i64 x1.2.1, .int .i64 x1.2.2.1, .osl 2 (eInt .i64).sz x1.2.2.2.1.length, .osl 3 (eInt .i64).sz x1.2.2.2.2.1.length, .int .i64 x1.2.2.2.2.2.1, .int .i64 x1.2.2.2.2.2.2.1, .int .i64 x1.2.2.2.2.2.2.2.1, .int .i64 x1.2.2.2.2.2.2.2.2]) (H1' := [(2, .blk 3 (D.flat (x1.2.2.2.1.map (eInt .i64).d))), (3, .blk 3 (D.flat (x1.2.2.2.2.1.map (eInt .i64).d)))]) 2 [] rfl rfl (by decide) cl28 (.cons (sv (d := .agg [.bool _, .int _ _, .int _ _, .slice _ _, .slice _ _, .int _ _, .int _ _, .int _ _, .int _ _]) rfl) .nil) rfl rfl ⟨rfl, rfl, by decide, rfl, List.forall_mem_nil _⟩ (p_stid_State_own_h _ _ hx1) rfl rfl (List.forall_mem_cons.2 ⟨⟨rfl, (handLr (eInt .i64))⟩, List.forall_mem_cons.2 ⟨⟨rfl, (handLr (eInt .i64))⟩, List.forall_mem_nil _⟩⟩) (by simp only [List.map_cons, List.map_nil, Ent.ren, renL_flat, renL_ref]; rfl)) <|
    ils_cons rfl (iop_allocS (cs := [.bool _, .int _ _, .int _ _, .nils, .nils, .int _ _, .int _ _, .int _ _, .int _ _]) (cs' := [.bool false, .int .i64 0, .int .i64 0, .slice false (([] : List Int).map (eInt .i64).d), .slice false (([] : List Int).map (eInt .i64).d), .int .i64 0, .int .i64 0, .int .i64 0, .int .i64 0]) 4 rfl rfl (by decide) rfl ti27 rfl rfl (.cons (.refl _) (.cons (.refl _) (.cons (.refl _) (.cons (.nils _) (.cons (.nils _) (.cons (.refl _) (.cons (.refl _) (.cons (.refl _) (.cons (.refl _) .nil)))))))))) <|
    ils_cons rfl (iop_store (ds' := [.bool _, .int _ _, .int _ _, .osl _ _ _, .osl _ _ _, .int _ _, .int _ _, .int _ _, .int _ _]) rfl rfl ti27 (sv (d := .ref _ _) rfl) rfl (sv (d := .agg [.bool _, .int _ _, .int _ _, .osl _ _ _, .osl _ _ _, .int _ _, .int _ _, .int _ _, .int _ _]) rfl) rfl rfl rfl (nle rfl) rfl) <|
    ils_end ?_)
  obtain ⟨x2, hx2, h⟩ := bno_e h
  refine iwp_reg (ils_cons rfl (iop_fieldAddr_ref rfl rfl (by decide) Try.underlying27 rfl ti22 (by decide) (sv (d := .ref _ _) rfl) (off' := 3) rfl) <|
    ils_cons rfl (iop_load_rs (d := .osl _ _ _) rfl rfl (by decide) Try.underlying22 ag22 ti22 (by decide) (sv (d := .ref _ _) rfl) rfl (nle rfl) rfl) <|
    ils_cons rfl (iop_move rfl rfl (by decide) (sv (d := .int _ _) rfl)) <|
    ils_cons rfl (iop_callp (r := .tuple [.int .i64 x2.1, .bool x2.2]) rfl rfl (by decide) cl41 (.cons (sv (d := .osl _ _ _) rfl) (.cons (sv (d := .int _ _) rfl) .nil)) (.cons (FDT (eInt .i64) rfl rfl) (.cons (.refl _) .nil)) rfl rfl (p_slices_BinarySearch_int_int _ _ _ hx2)) <|
    ils_cons rfl (iop_move rfl rfl (by decide) (sv (d := .tuple [.int _ _, .bool _]) rfl)) <|
    ils_cons rfl (iop_extract (d := .int _ _) rfl rfl (by decide) (sv (d := .tuple [.int _ _, .bool _]) rfl) rfl) <|
    ils_cons rfl (iop_extract (d := .bool _) rfl rfl (by decide) (sv (d := .tuple [.int _ _, .bool _]) rfl) rfl) <|
    ils_cons rfl (iop_assign rfl rfl (by decide) (sv (d := .int _ _) rfl)) <|
    ils_cons rfl (iop_assign rfl rfl (by decide) (sv (d := .bool _) rfl)) <|
    ils_end ?_)
  refine iwp_seq ?_
  obtain ⟨x3, hx3, h⟩ := bno_e h
  obtain ⟨x4, hx4, h⟩ := bnd_e h
  obtain ⟨x5, hx5, h⟩ := bnd_e h
  refine iwp_reg (ils_cons rfl (iop_load_ra (cs := [.bool _, .int _ _, .int _ _, .slice _ _, .slice _ _, .int _ _, .int _ _, .int _ _, .int _ _]) rfl rfl (by decide) Try.underlying27 ag27 ti27 (by decide) (sv (d := .ref _ _) rfl) rfl (nle rfl) rfl) <|
    ils_cons rfl (iop_call (r := .int _ _) rfl rfl (by decide) cl26 (.cons (sv (d := .agg [.bool _, .int _ _, .int _ _, .slice _ _, .slice _ _, .int _ _, .int _ _, .int _ _, .int _ _]) rfl) .nil) rfl (p_stid_Check _ _ hx3)) <|
    ils_cons rfl (iop_cmpx rfl rfl (by decide) (sv (d := .int _ _) rfl) (sv (d := .int _ 0) rfl) rfl hx4) <|
    ils_cons rfl (iop_move rfl rfl (by decide) (sv (d := .bool _) rfl)) <|
    ils_guard rfl rfl (.one rfl) rfl (by decide) (fun hb => (iop_move rfl rfl (by decide) (sv (d := .bool _) rfl))) <|
    ils_guard rfl rfl (.one rfl) rfl (by decide) (fun hb => (iop_not rfl rfl (by decide) (svc (d := .bool _) rfl hb))) <|
    ils_cons rfl (iop_orx rfl rfl (by decide) (sv (d := .bool _) rfl) rfl rfl hx5) <|
    ils_end ?_)
  refine iwp_cond (b := _) rfl (fun hc6 => ?_) (fun hc6 => ?_)
  ·
    replace h := bif_t h hc6
    refine iwp_reg (ils_cons rfl (iop_load_ra (cs := [.bool _, .int _ _, .int _ _, .osl _ _ _, .osl _ _ _, .int _ _, .int _ _, .int _ _, .int _ _]) rfl rfl (by decide) Try.underlying27 ag27 ti27 (by decide) (sv (d := .ref _ _) rfl) rfl (nle rfl) rfl) <|
      ils_cons rfl (iop_store (ds' := [.bool _, .int _ _, .int _ _, .osl _ _ _, .osl _ _ _, .int _ _, .int _ _, .int _ _, .int _ _]) rfl rfl ti27 (sv (d := .ref _ _) rfl) rfl (sv (d := .agg [.bool _, .int _ _, .int _ _, .osl _ _ _, .osl _ _ _, .int _ _, .int _ _, .int _ _, .int _ _]) rfl) rfl rfl rfl (nle rfl) rfl) <|
      ils_end ?_)
    refine iwp_ret ?_
    refine thenQ_r ?_
    obtain rfl := Option.some.inj h
    refine ⟨.inr rfl, _, (.cons (resv_a rfl rfl Try.underlying27 ag27 ti27 (by decide) (nle rfl) rfl) .nil), (.cons (.agg (.cons (.refl _) (.cons (.refl _) (.cons (.refl _) (.cons (FDT (eInt .i64) rfl rfl) (.cons (FDT (eInt .i64) rfl rfl) (.cons (.refl _) (.cons (.refl _) (.cons (.refl _) (.cons (.refl _) .nil)))))))))) .nil)⟩
  ·
    replace h := bif_f h hc6
    refine iwp_skip ?_
    refine thenQ_n ?_
    obtain ⟨x7, hx7, h⟩ := bnd_e h
    obtain ⟨x8, hx8, h⟩ := bno_e h
    refine iwp_reg (ils_cons rfl (iop_fieldAddr_ref rfl rfl (by decide) Try.underlying27 rfl ti22 (by decide) (sv (d := .ref _ _) rfl) (off' := 3) rfl) <|
      ils_cons rfl (iop_load_rs (d := .osl _ _ _) rfl rfl (by decide) Try.underlying22 ag22 ti22 (by decide) (sv (d := .ref _ _) rfl) rfl (nle rfl) rfl) <|
      ils_cons rfl (iop_move rfl rfl (by decide) (sv (d := .int _ _) rfl)) <|
      ils_cons rfl (iop_move rfl rfl (by decide) (sv (d := .int _ _) rfl)) <|
      ils_cons rfl (iop_intx rfl rfl (by decide) (sv (d := .int _ _) rfl) (sv (d := .int _ 1) rfl) rfl hx7) <|
      ils_cons rfl (iop_callh2 (r' := .osl 5 (eInt .i64).sz x8.length) (H1' := [(5, .blk 3 (D.flat (x8.map (eInt .i64).d)))]) 5 [2] rfl rfl (by decide) cl42 (.cons (sv (d := .osl _ _ _) rfl) (.cons (sv (d := .int _ _) rfl) (.cons (sv (d := .int _ _) rfl) .nil))) rfl rfl ⟨rfl, rfl, by decide, rfl, List.forall_mem_cons.2 ⟨⟨rfl, rfl, (handL (eInt .i64) rfl), (handLr (eInt .i64))⟩, List.forall_mem_nil _⟩⟩ (p_slices_Delete_int_int_h _ _ _ _ hx8) rfl rfl (List.forall_mem_cons.2 ⟨⟨rfl, (handLr (eInt .i64))⟩, List.forall_mem_nil _⟩) (by simp only [List.map_cons, List.map_nil, Ent.ren, renL_flat, renL_ref]; rfl)) <|
      ils_cons rfl (iop_fieldAddr_ref rfl rfl (by decide) Try.underlying27 rfl ti22 (by decide) (sv (d := .ref _ _) rfl) (off' := 3) rfl) <|
      ils_cons rfl (iop_store (ds' := [.bool _, .int _ _, .int _ _, .osl _ _ _, .osl _ _ _, .int _ _, .int _ _, .int _ _, .int _ _]) rfl rfl ti22 (sv (d := .ref _ _) rfl) rfl (sv (d := .osl _ _ _) rfl) rfl rfl rfl (nle rfl) rfl) <|
      ils_end ?_)
    refine iwp_seq ?_
    refine iwp_reg (ils_cons rfl (iop_move rfl rfl (by decide) (sv (d := .bool _) rfl)) <|
      ils_end ?_)
    refine iwp_cond (b := _) rfl (fun hc9 => ?_) (fun hc9 => ?_)
    ·
      replace h := bif_t h hc9
      obtain ⟨x10, hx10, h⟩ := bno_e h
      refine iwp_reg (ils_cons rfl (iop_load_ra (cs := [.bool _, .int _ _, .int _ _, .osl _ _ _, .osl _ _ _, .int _ _, .int _ _, .int _ _, .int _ _]) rfl rfl (by decide) Try.underlying27 ag27 ti27 (by decide) (sv (d := .ref _ _) rfl) rfl (nle rfl) rfl) <|
        ils_cons rfl (iop_move rfl rfl (by decide) (sv (d := .int _ _) rfl)) <|
        ils_cons rfl (iop_callh2 (r' := .agg [.bool x10.1, .int .i64 x10.2.1, .int .i64 x10.2.2.1, .osl 6 (eInt .i64).sz x10.2.2.2.1.length, .osl 7 (eInt .i64).sz x10.2.2.2.2.1.length, .int .i64 x10.2.2.2.2.2.1, .int .i64 x10.2.2.2.2.2.2.1, .int .i64 x10.2.2.2.2.2.2.2.1, .int .i64 x10.2.2.2.2.2.2.2.2]) (H1' := [(6, .blk 3 (D.flat (x10.2.2.2.1.map (eInt .i64).d))), (7, .blk 3 (D.flat (x10.2.2.2.2.1.map (eInt .i64).d)))]) 6 [5, 3] rfl rfl (by decide) cl36 (.cons (sv (d := .agg [.bool _, .int _ _, .int _ _, .osl _ _ _, .osl _ _ _, .int _ _, .int _ _, .int _ _, .int _ _]) rfl) (.cons (sv (d := .int _ _) rfl) .nil)) rfl rfl ⟨rfl, rfl, by decide, rfl, List.forall_mem_cons.2 ⟨⟨rfl, rfl, (handL (eInt .i64) rfl), (handLr (eInt .i64))⟩, List.forall_mem_cons.2 ⟨⟨rfl, rfl, (handL (eInt .i64) rfl), (handLr (eInt .i64))⟩, List.forall_mem_nil _⟩⟩⟩ (p_stid_State_slain_h _ _ _ _ _ _ _ _ _ _ _ hx10) rfl rfl (List.forall_mem_cons.2 ⟨⟨rfl, (handLr (eInt .i64))⟩, List.forall_mem_cons.2 ⟨⟨rfl, (handLr (eInt .i64))⟩, List.forall_mem_nil _⟩⟩) (by simp only [List.map_cons, List.map_nil, Ent.ren, renL_flat, renL_ref]; rfl)) <|
        ils_cons rfl (iop_store (ds' := [.bool _, .int _ _, .int _ _, .osl _ _ _, .osl _ _ _, .int _ _, .int _ _, .int _ _, .int _ _]) rfl rfl ti27 (sv (d := .ref _ _) rfl) rfl (sv (d := .agg [.bool _, .int _ _, .int _ _, .osl _ _ _, .osl _ _ _, .int _ _, .int _ _, .int _ _, .int _ _]) rfl) rfl rfl rfl (nle rfl) rfl) <|
        ils_end ?_)
      refine iwp_ret ?_
      refine thenQ_r ?_
      obtain rfl := Option.some.inj h
      refine ⟨.inr rfl, _, (.cons (resv_a rfl rfl Try.underlying27 ag27 ti27 (by decide) (nle rfl) rfl) .nil), (.cons (.agg (.cons (.refl _) (.cons (.refl _) (.cons (.refl _) (.cons (FDT (eInt .i64) rfl rfl) (.cons (FDT (eInt .i64) rfl rfl) (.cons (.refl _) (.cons (.refl _) (.cons (.refl _) (.cons (.refl _) .nil)))))))))) .nil)⟩
    ·
      replace h := bif_f h hc9
      refine iwp_skip ?_
      refine thenQ_n ?_
      refine iwp_reg (ils_cons rfl (iop_load_ra (cs := [.bool _, .int _ _, .int _ _, .osl _ _ _, .osl _ _ _, .int _ _, .int _ _, .int _ _, .int _ _]) rfl rfl (by decide) Try.underlying27 ag27 ti27 (by decide) (sv (d := .ref _ _) rfl) rfl (nle rfl) rfl) <|
        ils_cons rfl (iop_store (ds' := [.bool _, .int _ _, .int _ _, .osl _ _ _, .osl _ _ _, .int _ _, .int _ _, .int _ _, .int _ _]) rfl rfl ti27 (sv (d := .ref _ _) rfl) rfl (sv (d := .agg [.bool _, .int _ _, .int _ _, .osl _ _ _, .osl _ _ _, .int _ _, .int _ _, .int _ _, .int _ _]) rfl) rfl rfl rfl (nle rfl) rfl) <|
        ils_end ?_)
      refine iwp_ret ?_
      obtain rfl := Option.some.inj h
      refine ⟨.inr rfl, _, (.cons (resv_a rfl rfl Try.underlying27 ag27 ti27 (by decide) (nle rfl) rfl) .nil), (.cons (.agg (.cons (.refl _) (.cons (.refl _) (.cons (.refl _) (.cons (FDT (eInt .i64) rfl rfl) (.cons (FDT (eInt .i64) rfl rfl) (.cons (.refl _) (.cons (.refl _) (.cons (.refl _) (.cons (.refl _) .nil)))))))))) .nil)⟩

set_option maxRecDepth 8000 in
set_option maxHeartbeats 2000000 in
theorem p_slices_Equal_int_int (a0 : (List Int)) (a1 : (List Int)) (r : Bool) (h : slices_Equal_int_int a0 a1 = some r) : PureAt Try.prog 50 [.slice false (a0.map (eInt .i64).d), .slice false (a1.map (eInt .i64).d)] (.bool r) := by
  refine pure_of_iwp (rs := [.bool r]) Try.func50 rfl Try.ntmps50 (nle rfl) rfl fun O hO => ?_
  show IWP _ _ _ _ ⟨[(0, .slice false (a0.map (eInt .i64).d)), (1, .slice false (a1.map (eInt .i64).d))], []⟩ _
  unfold slices_Equal_int_int at h
  refine iwp_reg (ils_cons rfl (iop_assign rfl rfl (by decide) (sv (d := .bool false) rfl)) <|
    ils_end ?_)
  refine iwp_seq ?_
  obtain ⟨x1, hx1, h⟩ := bnd_e h
  refine iwp_reg (ils_cons rfl (iop_move rfl rfl (by decide) (sv (d := .slice _ _) rfl)) <|
    ils_cons rfl (iop_lenT (eInt .i64) (l := a0) rfl rfl (by decide) Try.underlying22 (sv (d := .slice _ _) rfl)) <|
    ils_cons rfl (iop_move rfl rfl (by decide) (sv (d := .slice _ _) rfl)) <|
    ils_cons rfl (iop_lenT (eInt .i64) (l := a1) rfl rfl (by decide) Try.underlying22 (sv (d := .slice _ _) rfl)) <|
    ils_cons rfl (iop_cmpx rfl rfl (by decide) (sv (d := .int _ _) rfl) (sv (d := .int _ _) rfl) rfl hx1) <|
    ils_end ?_)
  refine iwp_cond (b := _) rfl (fun hc2 => ?_) (fun hc2 => ?_)
  ·
    replace h := bif_t h hc2
    refine iwp_reg (ils_cons rfl (iop_assign rfl rfl (by decide) (sv (d := .bool false) rfl)) <|
      ils_end ?_)
    refine iwp_ret ?_
    refine thenQ_r ?_
    obtain rfl := Option.some.inj h
    refine ⟨.inr rfl, (.cons (sv rfl) .nil)⟩
  ·
    replace h := bif_f h hc2
    refine iwp_skip ?_
    refine thenQ_n ?_
    refine iwp_seq ?_
    refine iwp_reg (ils_cons rfl (iop_move rfl rfl (by decide) (sv (d := .slice _ _) rfl)) <|
      ils_cons rfl (iop_lenT (eInt .i64) (l := a0) rfl rfl (by decide) Try.underlying22 (sv (d := .slice _ _) rfl)) <|
      ils_cons rfl (iop_move rfl rfl (by decide) (sv (d := .int _ 0) rfl)) <|
      ils_end ?_)
    refine iwp_block ?_
    refine iwp_loopP (α := Nat × Int) (fun z => ⟨[(0, .slice false (a0.map (eInt .i64).d)), (1, .slice false (a1.map (eInt .i64).d)), (12, .int .i64 (a0.length : Int)), (13, .int .i64 z.2)], []⟩) (fun z => slices_Equal_int_int_L0 a0 a1 z.1 z.2 = some r) (fun z => z.1) (fuel, 0) (fun i => i) ⟨(.cons (.same rfl rfl) (.cons (.same rfl rfl) (.cons (.same rfl rfl) (.cons (.same rfl rfl) .nil)))), .nil, nd_of [] rfl (by decide), (fun i hi => by first | rfl | (show (if _ then _ else _) = _; (repeat' split) <;> omega))⟩ ?_ ?_
    · exact h
    ·
      rintro ⟨n0, v10⟩ h
      cases n0 with
      | zero => exact absurd h (by unfold slices_Equal_int_int_L0; exact nofun)
      | succ n0 =>
        unfold slices_Equal_int_int_L0 at h
        obtain ⟨x18, hx18, h⟩ := bnd_e h
        refine iwp_reg (ils_cons rfl (iop_cmpx rfl rfl (by decide) (sv (d := .int _ _) rfl) (sv (d := .int _ _) rfl) rfl hx18) <|
          ils_end ?_)
        refine iwp_seq ?_
        refine iwp_cond (b := _) rfl (fun hc19 => ?_) (fun hc19 => ?_)
        ·
          replace h := bif_t h hc19
          refine iwp_skip ?_
          refine thenQ_n ?_
          refine iwp_seq ?_
          refine iwp_block ?_
          refine iwp_reg (ils_cons rfl (iop_move rfl rfl (by decide) (sv (d := .int _ _) rfl)) <|
            ils_cons rfl (iop_assign rfl rfl (by decide) (sv (d := .int _ _) rfl)) <|
            ils_end ?_)
          obtain ⟨x20, hx20, h⟩ := bno_e h
          obtain ⟨x21, hx21, h⟩ := bno_e h
          obtain ⟨x22, hx22, h⟩ := bnd_e h
          refine iwp_drw rfl [⟨[0], [], [(16, .slice false (a0.map (eInt .i64).d))], []⟩,
            ⟨[5], [], [(17, .int .i64 v10)], []⟩,
            ⟨[16, 17], [], [(18, .fptr [.int .i64 x20])], []⟩,
            ⟨[18], [], [(19, .int .i64 x20)], []⟩,
            ⟨[1], [], [(20, .slice false (a1.map (eInt .i64).d))], []⟩,
            ⟨[5], [], [(21, .int .i64 v10)], []⟩,
            ⟨[20, 21], [], [(22, .fptr [.int .i64 x21])], []⟩,
            ⟨[22], [], [(23, .int .i64 x21)], []⟩,
            ⟨[19, 23], [], [(24, .bool x22)], []⟩] rfl ?_ (by kernel_rfl) ?_
          · refine .cons (lop rfl rfl fun S hA => (iop_move rfl rfl (by decide) (sv (d := .slice _ _) (agr hA rfl rfl)))) ?_
            refine .cons (lop rfl rfl fun S hA => (iop_move rfl rfl (by decide) (sv (d := .int _ _) (agr hA rfl rfl)))) ?_
            refine .cons (lop rfl rfl fun S hA => (iop_idxT (eInt .i64) (cs := [.int _ _]) rfl rfl (by decide) Try.underlying22 ti3 (sv (d := .slice _ _) (agr hA rfl rfl)) (sv (d := .int _ _) (agr hA rfl rfl)) hx20 rfl rfl)) ?_
            refine .cons (lop rfl rfl fun S hA => (iop_load_fs rfl rfl (by decide) Try.underlying3 ag3 ti3 (by decide) (sv (d := .fptr [.int _ _]) (agr hA rfl rfl)) (nle rfl))) ?_
            refine .cons (lop rfl rfl fun S hA => (iop_move rfl rfl (by decide) (sv (d := .slice _ _) (agr hA rfl rfl)))) ?_
            refine .cons (lop rfl rfl fun S hA => (iop_move rfl rfl (by decide) (sv (d := .int _ _) (agr hA rfl rfl)))) ?_
            refine .cons (lop rfl rfl fun S hA => (iop_idxT (eInt .i64) (cs := [.int _ _]) rfl rfl (by decide) Try.underlying22 ti3 (sv (d := .slice _ _) (agr hA rfl rfl)) (sv (d := .int _ _) (agr hA rfl rfl)) hx21 rfl rfl)) ?_
            refine .cons (lop rfl rfl fun S hA => (iop_load_fs rfl rfl (by decide) Try.underlying3 ag3 ti3 (by decide) (sv (d := .fptr [.int _ _]) (agr hA rfl rfl)) (nle rfl))) ?_
            refine .cons (lop rfl rfl fun S hA => (iop_cmpx rfl rfl (by decide) (sv (d := .int _ _) (agr hA rfl rfl)) (sv (d := .int _ _) (agr hA rfl rfl)) rfl hx22)) ?_
            exact .nil
          refine iwp_cond (b := _) rfl (fun hc23 => ?_) (fun hc23 => ?_)
          ·
            replace h := bif_t h hc23
            refine iwp_reg (ils_cons rfl (iop_assign rfl rfl (by decide) (sv (d := .bool false) rfl)) <|
              ils_end ?_)
            refine iwp_ret ?_
            refine blockQ_r ?_
            refine thenQ_r ?_
            refine thenQ_r ?_
            refine blockQ_r ?_
            refine thenQ_r ?_
            obtain rfl := Option.some.inj h
            refine ⟨.inr rfl, (.cons (sv rfl) .nil)⟩
          ·
            replace h := bif_f h hc23
            refine iwp_skip ?_
            refine blockQ_n ?_
            refine thenQ_n ?_
            obtain ⟨x24, hx24, h⟩ := bnd_e h
            refine iwp_region (ils_cons rfl (iop_intx rfl rfl (by decide) (sv (d := .int _ _) rfl) (sv (d := .int _ 1) rfl) rfl hx24) <|
              ils_cons rfl (iop_move rfl rfl (by decide) (sv (d := .int _ _) rfl)) <|
              ils_nil ?_)
            refine thenQ_n ⟨(n0, x24), (fun i => i), ⟨(.cons (.same rfl rfl) (.cons (.same rfl rfl) (.cons (.same rfl rfl) (.cons (.same rfl rfl) .nil)))), .nil, nd_of [] rfl (by decide), (fun i hi => by first | rfl | (show (if _ then _ else _) = _; (repeat' split) <;> omega))⟩, ?_, ?_⟩
            exact h
            exact Nat.lt_succ_self _
        ·
          replace h := bif_f h hc19
          refine iwp_exit ?_
          refine thenQ_e ?_
          refine thenQ_e ?_
          refine blockQ_e ?_
          refine thenQ_n ?_
          refine iwp_reg (ils_cons rfl (iop_assign rfl rfl (by decide) (sv (d := .bool true) rfl)) <|
            ils_end ?_)
          refine iwp_ret ?_
          obtain rfl := Option.some.inj h
          refine ⟨.inr rfl, (.cons (sv rfl) .nil)⟩

set_option maxRecDepth 8000 in
set_option maxHeartbeats 2000000 in
theorem p_stid_Same (a0 : T_stid_State) (a1 : T_stid_State) (r : Bool) (h : stid_Same a0 a1 = some r) : PureAt Try.prog 27 [.agg [.bool a0.Odd, .int .i64 a0.Next, .int .i64 a0.Last, .slice false (a0.Live.map (eInt .i64).d), .slice false (a0.Cut.map (eInt .i64).d), .int .i64 a0.Mine, .int .i64 a0.Hers, .int .i64 a0.Heard, .int .i64 a0.Told], .agg [.bool a1.Odd, .int .i64 a1.Next, .int .i64 a1.Last, .slice false (a1.Live.map (eInt .i64).d), .slice false (a1.Cut.map (eInt .i64).d), .int .i64 a1.Mine, .int .i64 a1.Hers, .int .i64 a1.Heard, .int .i64 a1.Told]] (.bool r) := by
  refine pure_of_iwp (rs := [.bool r]) Try.func27 rfl Try.ntmps27 (nle rfl) rfl fun O hO => ?_
  show IWP _ _ _ _ ⟨[(0, .agg [.bool a0.Odd, .int .i64 a0.Next, .int .i64 a0.Last, .slice false (a0.Live.map (eInt .i64).d), .slice false (a0.Cut.map (eInt .i64).d), .int .i64 a0.Mine, .int .i64 a0.Hers, .int .i64 a0.Heard, .int .i64 a0.Told]), (1, .agg [.bool a1.Odd, .int .i64 a1.Next, .int .i64 a1.Last, .slice false (a1.Live.map (eInt .i64).d), .slice false (a1.Cut.map (eInt .i64).d), .int .i64 a1.Mine, .int .i64 a1.Hers, .int .i64 a1.Heard, .int .i64 a1.Told])], []⟩ _
  unfold stid_Same at h
  refine iwp_reg (ils_cons rfl (iop_box' (cs := [.bool _, .int _ _, .int _ _, .slice _ _, .slice _ _, .int _ _, .int _ _, .int _ _, .int _ _]) 0 rfl rfl (by decide) rfl (sv (d := .agg [.bool _, .int _ _, .int _ _, .slice _ _, .slice _ _, .int _ _, .int _ _, .int _ _, .int _ _]) rfl) rfl rfl) <|
    ils_cons rfl (iop_box' (cs := [.bool _, .int _ _, .int _ _, .slice _ _, .slice _ _, .int _ _, .int _ _, .int _ _, .int _ _]) 1 rfl rfl (by decide) rfl (sv (d := .agg [.bool _, .int _ _, .int _ _, .slice _ _, .slice _ _, .int _ _, .int _ _, .int _ _, .int _ _]) rfl) rfl rfl) <|
    ils_cons rfl (iop_assign rfl rfl (by decide) (sv (d := .bool false) rfl)) <|
    ils_end ?_)
  refine iwp_seq ?_
  obtain ⟨x1, hx1, h⟩ := bno_e h
  obtain ⟨x2, hx2, h⟩ := bno_e h
  obtain ⟨x3, hx3, h⟩ := bnd_e h
  refine iwp_reg (ils_cons rfl (iop_fieldAddr_ref rfl rfl (by decide) Try.underlying27 rfl ti22 (by decide) (sv (d := .ref _ _) rfl) (off' := 3) rfl) <|
    ils_cons rfl (iop_load_rs (d := .slice _ _) rfl rfl (by decide) Try.underlying22 ag22 ti22 (by decide) (sv (d := .ref _ _) rfl) rfl (nle rfl) rfl) <|
    ils_cons rfl (iop_fieldAddr_ref rfl rfl (by decide) Try.underlying27 rfl ti22 (by decide) (sv (d := .ref _ _) rfl) (off' := 3) rfl) <|
    ils_cons rfl (iop_load_rs (d := .slice _ _) rfl rfl (by decide) Try.underlying22 ag22 ti22 (by decide) (sv (d := .ref _ _) rfl) rfl (nle rfl) rfl) <|
    ils_cons rfl (iop_call (r := .bool _) rfl rfl (by decide) cl50 (.cons (sv (d := .slice _ _) rfl) (.cons (sv (d := .slice _ _) rfl) .nil)) rfl (p_slices_Equal_int_int _ _ _ hx1)) <|
    ils_cons rfl (iop_not rfl rfl (by decide) (sv (d := .bool _) rfl)) <|
    ils_cons rfl (iop_move rfl rfl (by decide) (sv (d := .bool _) rfl)) <|
    ils_guard rfl rfl (.one rfl) rfl (by decide) (fun hb => (iop_fieldAddr_ref rfl rfl (by decide) Try.underlying27 rfl ti22 (by decide) (sv (d := .ref _ _) rfl) (off' := 4) rfl)) <|
    ils_guard rfl rfl (.one rfl) rfl (by decide) (fun hb => (iop_load_rs (d := .slice _ _) rfl rfl (by decide) Try.underlying22 ag22 ti22 (by decide) (svc (d := .ref _ _) rfl hb) rfl (nle rfl) rfl)) <|
    ils_guard rfl rfl (.one rfl) rfl (by decide) (fun hb => (iop_fieldAddr_ref rfl rfl (by decide) Try.underlying27 rfl ti22 (by decide) (sv (d := .ref _ _) rfl) (off' := 4) rfl)) <|
    ils_guard rfl rfl (.one rfl) rfl (by decide) (fun hb => (iop_load_rs (d := .slice _ _) rfl rfl (by decide) Try.underlying22 ag22 ti22 (by decide) (svc (d := .ref _ _) rfl hb) rfl (nle rfl) rfl)) <|
    ils_guard rfl rfl (.one rfl) rfl (by decide) (fun hb => (iop_call (r := .bool _) rfl rfl (by decide) cl50 (.cons (svc (d := .slice _ _) rfl hb) (.cons (svc (d := .slice _ _) rfl hb) .nil)) rfl (p_slices_Equal_int_int _ _ _ (gd_t hx2 hb)))) <|
    ils_guard rfl rfl (.one rfl) rfl (by decide) (fun hb => (iop_not rfl rfl (by decide) (svc (d := .bool _) rfl hb))) <|
    ils_cons rfl (iop_orx rfl rfl (by decide) (sv (d := .bool _) rfl) rfl rfl hx3) <|
    ils_end ?_)
  refine iwp_cond (b := _) rfl (fun hc4 => ?_) (fun hc4 => ?_)
  ·
    replace h := bif_t h hc4
    refine iwp_reg (ils_cons rfl (iop_assign rfl rfl (by decide) (sv (d := .bool false) rfl)) <|
      ils_end ?_)
    refine iwp_ret ?_
    refine thenQ_r ?_
    obtain rfl := Option.some.inj h
    refine ⟨.inr rfl, (.cons (sv rfl) .nil)⟩
  ·
    replace h := bif_f h hc4
    refine iwp_skip ?_
    refine thenQ_n ?_
    obtain ⟨x5, hx5, h⟩ := bnd_e h
    obtain ⟨x6, hx6, h⟩ := bnd_e h
    obtain ⟨x7, hx7, h⟩ := bnd_e h
    obtain ⟨x8, hx8, h⟩ := bnd_e h
    obtain ⟨x9, hx9, h⟩ := bnd_e h
    obtain ⟨x10, hx10, h⟩ := bnd_e h
    obtain ⟨x11, hx11, h⟩ := bnd_e h
    refine iwp_reg (ils_cons rfl (iop_fieldAddr_ref rfl rfl (by decide) Try.underlying27 rfl ti3 (by decide) (sv (d := .ref _ _) rfl) (off' := 1) rfl) <|
      ils_cons rfl (iop_load_rs (d := .int _ _) rfl rfl (by decide) Try.underlying3 ag3 ti3 (by decide) (sv (d := .ref _ _) rfl) rfl (nle rfl) rfl) <|
      ils_cons rfl (iop_fieldAddr_ref rfl rfl (by decide) Try.underlying27 rfl ti3 (by decide) (sv (d := .ref _ _) rfl) (off' := 1) rfl) <|
      ils_cons rfl (iop_load_rs (d := .int _ _) rfl rfl (by decide) Try.underlying3 ag3 ti3 (by decide) (sv (d := .ref _ _) rfl) rfl (nle rfl) rfl) <|
      ils_cons rfl (iop_cmpx rfl rfl (by decide) (sv (d := .int _ _) rfl) (sv (d := .int _ _) rfl) rfl hx5) <|
      ils_cons rfl (iop_move rfl rfl (by decide) (sv (d := .bool _) rfl)) <|
      ils_guard rfl rfl (.one rfl) rfl (by decide) (fun hb => (iop_fieldAddr_ref rfl rfl (by decide) Try.underlying27 rfl ti3 (by decide) (sv (d := .ref _ _) rfl) (off' := 2) rfl)) <|
      ils_guard rfl rfl (.one rfl) rfl (by decide) (fun hb => (iop_load_rs (d := .int _ _) rfl rfl (by decide) Try.underlying3 ag3 ti3 (by decide) (svc (d := .ref _ _) rfl hb) rfl (nle rfl) rfl)) <|
      ils_guard rfl rfl (.one rfl) rfl (by decide) (fun hb => (iop_fieldAddr_ref rfl rfl (by decide) Try.underlying27 rfl ti3 (by decide) (sv (d := .ref _ _) rfl) (off' := 2) rfl)) <|
      ils_guard rfl rfl (.one rfl) rfl (by decide) (fun hb => (iop_load_rs (d := .int _ _) rfl rfl (by decide) Try.underlying3 ag3 ti3 (by decide) (svc (d := .ref _ _) rfl hb) rfl (nle rfl) rfl)) <|
      ils_guard rfl rfl (.one rfl) rfl (by decide) (fun hb => (iop_cmpx rfl rfl (by decide) (svc (d := .int _ _) rfl hb) (svc (d := .int _ _) rfl hb) rfl hx6)) <|
      ils_cons rfl (iop_andx rfl rfl (by decide) (sv (d := .bool _) rfl) rfl rfl hx7) <|
      ils_cons rfl (iop_move rfl rfl (by decide) (sv (d := .bool _) rfl)) <|
      ils_guard rfl rfl (.one rfl) rfl (by decide) (fun hb => (iop_fieldAddr_ref rfl rfl (by decide) Try.underlying27 rfl ti3 (by decide) (sv (d := .ref _ _) rfl) (off' := 7) rfl)) <|
      ils_guard rfl rfl (.one rfl) rfl (by decide) (fun hb => (iop_load_rs (d := .int _ _) rfl rfl (by decide) Try.underlying3 ag3 ti3 (by decide) (svc (d := .ref _ _) rfl hb) rfl (nle rfl) rfl)) <|
      ils_guard rfl rfl (.one rfl) rfl (by decide) (fun hb => (iop_fieldAddr_ref rfl rfl (by decide) Try.underlying27 rfl ti3 (by decide) (sv (d := .ref _ _) rfl) (off' := 7) rfl)) <|
      ils_guard rfl rfl (.one rfl) rfl (by decide) (fun hb => (iop_load_rs (d := .int _ _) rfl rfl (by decide) Try.underlying3 ag3 ti3 (by decide) (svc (d := .ref _ _) rfl hb) rfl (nle rfl) rfl)) <|
      ils_guard rfl rfl (.one rfl) rfl (by decide) (fun hb => (iop_cmpx rfl rfl (by decide) (svc (d := .int _ _) rfl hb) (svc (d := .int _ _) rfl hb) rfl hx8)) <|
      ils_cons rfl (iop_andx rfl rfl (by decide) (sv (d := .bool _) rfl) rfl rfl hx9) <|
      ils_cons rfl (iop_move rfl rfl (by decide) (sv (d := .bool _) rfl)) <|
      ils_guard rfl rfl (.one rfl) rfl (by decide) (fun hb => (iop_fieldAddr_ref rfl rfl (by decide) Try.underlying27 rfl ti3 (by decide) (sv (d := .ref _ _) rfl) (off' := 8) rfl)) <|
      ils_guard rfl rfl (.one rfl) rfl (by decide) (fun hb => (iop_load_rs (d := .int _ _) rfl rfl (by decide) Try.underlying3 ag3 ti3 (by decide) (svc (d := .ref _ _) rfl hb) rfl (nle rfl) rfl)) <|
      ils_guard rfl rfl (.one rfl) rfl (by decide) (fun hb => (iop_fieldAddr_ref rfl rfl (by decide) Try.underlying27 rfl ti3 (by decide) (sv (d := .ref _ _) rfl) (off' := 8) rfl)) <|
      ils_guard rfl rfl (.one rfl) rfl (by decide) (fun hb => (iop_load_rs (d := .int _ _) rfl rfl (by decide) Try.underlying3 ag3 ti3 (by decide) (svc (d := .ref _ _) rfl hb) rfl (nle rfl) rfl)) <|
      ils_guard rfl rfl (.one rfl) rfl (by decide) (fun hb => (iop_cmpx rfl rfl (by decide) (svc (d := .int _ _) rfl hb) (svc (d := .int _ _) rfl hb) rfl hx10)) <|
      ils_cons rfl (iop_andx rfl rfl (by decide) (sv (d := .bool _) rfl) rfl rfl hx11) <|
      ils_cons rfl (iop_assign rfl rfl (by decide) (sv (d := .bool _) rfl)) <|
      ils_end ?_)
    obtain ⟨x12, hx12, h⟩ := bnd_e h
    obtain ⟨x13, hx13, h⟩ := bnd_e h
    obtain ⟨x14, hx14, h⟩ := bnd_e h
    obtain ⟨x15, hx15, h⟩ := bnd_e h
    obtain ⟨x16, hx16, h⟩ := bnd_e h
    obtain ⟨x17, hx17, h⟩ := bnd_e h
    refine iwp_reg (ils_cons rfl (iop_move rfl rfl (by decide) (sv (d := .bool _) rfl)) <|
      ils_cons rfl (iop_move rfl rfl (by decide) (sv (d := .bool _) rfl)) <|
      ils_guard rfl rfl (.one rfl) rfl (by decide) (fun hb => (iop_fieldAddr_ref rfl rfl (by decide) Try.underlying27 rfl ti4 (by decide) (sv (d := .ref _ _) rfl) (off' := 0) rfl)) <|
      ils_guard rfl rfl (.one rfl) rfl (by decide) (fun hb => (iop_load_rs (d := .bool _) rfl rfl (by decide) Try.underlying4 ag4 ti4 (by decide) (svc (d := .ref _ _) rfl hb) rfl (nle rfl) rfl)) <|
      ils_guard rfl rfl (.one rfl) rfl (by decide) (fun hb => (iop_fieldAddr_ref rfl rfl (by decide) Try.underlying27 rfl ti4 (by decide) (sv (d := .ref _ _) rfl) (off' := 0) rfl)) <|
      ils_guard rfl rfl (.one rfl) rfl (by decide) (fun hb => (iop_load_rs (d := .bool _) rfl rfl (by decide) Try.underlying4 ag4 ti4 (by decide) (svc (d := .ref _ _) rfl hb) rfl (nle rfl) rfl)) <|
      ils_guard rfl rfl (.one rfl) rfl (by decide) (fun hb => (iop_eqbx rfl rfl (by decide) Try.underlying4 (svc (d := .bool _) rfl hb) (svc (d := .bool _) rfl hb) hx12)) <|
      ils_cons rfl (iop_andx rfl rfl (by decide) (sv (d := .bool _) rfl) rfl rfl hx13) <|
      ils_cons rfl (iop_move rfl rfl (by decide) (sv (d := .bool _) rfl)) <|
      ils_guard rfl rfl (.one rfl) rfl (by decide) (fun hb => (iop_fieldAddr_ref rfl rfl (by decide) Try.underlying27 rfl ti3 (by decide) (sv (d := .ref _ _) rfl) (off' := 5) rfl)) <|
      ils_guard rfl rfl (.one rfl) rfl (by decide) (fun hb => (iop_load_rs (d := .int _ _) rfl rfl (by decide) Try.underlying3 ag3 ti3 (by decide) (svc (d := .ref _ _) rfl hb) rfl (nle rfl) rfl)) <|
      ils_guard rfl rfl (.one rfl) rfl (by decide) (fun hb => (iop_fieldAddr_ref rfl rfl (by decide) Try.underlying27 rfl ti3 (by decide) (sv (d := .ref _ _) rfl) (off' := 5) rfl)) <|
      ils_guard rfl rfl (.one rfl) rfl (by decide) (fun hb => (iop_load_rs (d := .int _ _) rfl rfl (by decide) Try.underlying3 ag3 ti3 (by decide) (svc (d := .ref _ _) rfl hb) rfl (nle rfl) rfl)) <|
      ils_guard rfl rfl (.one rfl) rfl (by decide) (fun hb => (iop_cmpx rfl rfl (by decide) (svc (d := .int _ _) rfl hb) (svc (d := .int _ _) rfl hb) rfl hx14)) <|
      ils_cons rfl (iop_andx rfl rfl (by decide) (sv (d := .bool _) rfl) rfl rfl hx15) <|
      ils_cons rfl (iop_move rfl rfl (by decide) (sv (d := .bool _) rfl)) <|
      ils_guard rfl rfl (.one rfl) rfl (by decide) (fun hb => (iop_fieldAddr_ref rfl rfl (by decide) Try.underlying27 rfl ti3 (by decide) (sv (d := .ref _ _) rfl) (off' := 6) rfl)) <|
      ils_guard rfl rfl (.one rfl) rfl (by decide) (fun hb => (iop_load_rs (d := .int _ _) rfl rfl (by decide) Try.underlying3 ag3 ti3 (by decide) (svc (d := .ref _ _) rfl hb) rfl (nle rfl) rfl)) <|
      ils_guard rfl rfl (.one rfl) rfl (by decide) (fun hb => (iop_fieldAddr_ref rfl rfl (by decide) Try.underlying27 rfl ti3 (by decide) (sv (d := .ref _ _) rfl) (off' := 6) rfl)) <|
      ils_guard rfl rfl (.one rfl) rfl (by decide) (fun hb => (iop_load_rs (d := .int _ _) rfl rfl (by decide) Try.underlying3 ag3 ti3 (by decide) (svc (d := .ref _ _) rfl hb) rfl (nle rfl) rfl)) <|
      ils_guard rfl rfl (.one rfl) rfl (by decide) (fun hb => (iop_cmpx rfl rfl (by decide) (svc (d := .int _ _) rfl hb) (svc (d := .int _ _) rfl hb) rfl hx16)) <|
      ils_cons rfl (iop_andx rfl rfl (by decide) (sv (d := .bool _) rfl) rfl rfl hx17) <|
      ils_cons rfl (iop_assign rfl rfl (by decide) (sv (d := .bool _) rfl)) <|
      ils_end ?_)
    refine iwp_ret ?_
    obtain rfl := Option.some.inj h
    refine ⟨.inr rfl, (.cons (sv rfl) .nil)⟩

set_option maxRecDepth 8000 in
set_option maxHeartbeats 2000000 in
theorem p_sennitlaw22_awake  (r : Bool) (h : sennitlaw22_awake = some r) : PureAt Try.prog 7 [] (.bool r) := by
  refine pure_of_iwp (rs := [.bool r]) Try.func7 rfl Try.ntmps7 (nle rfl) rfl fun O hO => ?_
  show IWP _ _ _ _ ⟨[], []⟩ _
  unfold sennitlaw22_awake at h
  refine iwp_reg (ils_cons rfl (iop_assign rfl rfl (by decide) (sv (d := .bool false) rfl)) <|
    ils_end ?_)
  obtain ⟨x1, hx1, h⟩ := bno_e h
  refine iwp_reg (ils_cons rfl (iop_call (r := .tuple [.agg [.bool _, .int _ _, .int _ _, .slice _ _, .slice _ _, .int _ _, .int _ _, .int _ _, .int _ _], .int _ _]) rfl rfl (by decide) cl22 (.cons (sv (d := .bool true) rfl) (.cons (sv (d := .int _ 2) rfl) (.cons (sv (d := .int _ 1) rfl) .nil))) rfl (p_stid_New _ _ _ _ hx1)) <|
    ils_cons rfl (iop_move rfl rfl (by decide) (sv (d := .tuple [.agg [.bool _, .int _ _, .int _ _, .slice _ _, .slice _ _, .int _ _, .int _ _, .int _ _, .int _ _], .int _ _]) rfl)) <|
    ils_cons rfl (iop_extract (d := .agg [.bool _, .int _ _, .int _ _, .slice _ _, .slice _ _, .int _ _, .int _ _, .int _ _, .int _ _]) rfl rfl (by decide) (sv (d := .tuple [.agg [.bool _, .int _ _, .int _ _, .slice _ _, .slice _ _, .int _ _, .int _ _, .int _ _, .int _ _], .int _ _]) rfl) rfl) <|
    ils_cons rfl (iop_extract (d := .int _ _) rfl rfl (by decide) (sv (d := .tuple [.agg [.bool _, .int _ _, .int _ _, .slice _ _, .slice _ _, .int _ _, .int _ _, .int _ _, .int _ _], .int _ _]) rfl) rfl) <|
    ils_cons rfl (iop_allocS (cs := [.bool _, .int _ _, .int _ _, .nils, .nils, .int _ _, .int _ _, .int _ _, .int _ _]) (cs' := [.bool false, .int .i64 0, .int .i64 0, .slice false (([] : List Int).map (eInt .i64).d), .slice false (([] : List Int).map (eInt .i64).d), .int .i64 0, .int .i64 0, .int .i64 0, .int .i64 0]) 0 rfl rfl (by decide) rfl ti27 rfl rfl (.cons (.refl _) (.cons (.refl _) (.cons (.refl _) (.cons (.nils _) (.cons (.nils _) (.cons (.refl _) (.cons (.refl _) (.cons (.refl _) (.cons (.refl _) .nil)))))))))) <|
    ils_cons rfl (iop_store (ds' := [.bool _, .int _ _, .int _ _, .slice _ _, .slice _ _, .int _ _, .int _ _, .int _ _, .int _ _]) rfl rfl ti27 (sv (d := .ref _ _) rfl) rfl (sv (d := .agg [.bool _, .int _ _, .int _ _, .slice _ _, .slice _ _, .int _ _, .int _ _, .int _ _, .int _ _]) rfl) rfl rfl rfl (nle rfl) rfl) <|
    ils_cons rfl (iop_assign rfl rfl (by decide) (sv (d := .int _ _) rfl)) <|
    ils_end ?_)
  obtain ⟨x2, hx2, h⟩ := bno_e h
  refine iwp_reg (ils_cons rfl (iop_load_ra (cs := [.bool _, .int _ _, .int _ _, .slice _ _, .slice _ _, .int _ _, .int _ _, .int _ _, .int _ _]) rfl rfl (by decide) Try.underlying27 ag27 ti27 (by decide) (sv (d := .ref _ _) rfl) rfl (nle rfl) rfl) <|
    ils_cons rfl (iop_call (r := .tuple [.agg [.bool _, .int _ _, .int _ _, .slice _ _, .slice _ _, .int _ _, .int _ _, .int _ _, .int _ _], .int _ _, .int _ _]) rfl rfl (by decide) cl8 (.cons (sv (d := .agg [.bool _, .int _ _, .int _ _, .slice _ _, .slice _ _, .int _ _, .int _ _, .int _ _, .int _ _]) rfl) .nil) rfl (p_stid_Open _ _ hx2)) <|
    ils_cons rfl (iop_move rfl rfl (by decide) (sv (d := .tuple [.agg [.bool _, .int _ _, .int _ _, .slice _ _, .slice _ _, .int _ _, .int _ _, .int _ _, .int _ _], .int _ _, .int _ _]) rfl)) <|
    ils_cons rfl (iop_extract (d := .agg [.bool _, .int _ _, .int _ _, .slice _ _, .slice _ _, .int _ _, .int _ _, .int _ _, .int _ _]) rfl rfl (by decide) (sv (d := .tuple [.agg [.bool _, .int _ _, .int _ _, .slice _ _, .slice _ _, .int _ _, .int _ _, .int _ _, .int _ _], .int _ _, .int _ _]) rfl) rfl) <|
    ils_cons rfl (iop_extract (d := .int _ _) rfl rfl (by decide) (sv (d := .tuple [.agg [.bool _, .int _ _, .int _ _, .slice _ _, .slice _ _, .int _ _, .int _ _, .int _ _, .int _ _], .int _ _, .int _ _]) rfl) rfl) <|
    ils_cons rfl (iop_extract (d := .int _ _) rfl rfl (by decide) (sv (d := .tuple [.agg [.bool _, .int _ _, .int _ _, .slice _ _, .slice _ _, .int _ _, .int _ _, .int _ _, .int _ _], .int _ _, .int _ _]) rfl) rfl) <|
    ils_cons rfl (iop_store (ds' := [.bool _, .int _ _, .int _ _, .slice _ _, .slice _ _, .int _ _, .int _ _, .int _ _, .int _ _]) rfl rfl ti27 (sv (d := .ref _ _) rfl) rfl (sv (d := .agg [.bool _, .int _ _, .int _ _, .slice _ _, .slice _ _, .int _ _, .int _ _, .int _ _, .int _ _]) rfl) rfl rfl rfl (nle rfl) rfl) <|
    ils_cons rfl (iop_assign rfl rfl (by decide) (sv (d := .int _ _) rfl)) <|
    ils_cons rfl (iop_assign rfl rfl (by decide) (sv (d := .int _ _) rfl)) <|
    ils_end ?_)
  obtain ⟨x3, hx3, h⟩ := bno_e h
  refine iwp_reg (ils_cons rfl (iop_load_ra (cs := [.bool _, .int _ _, .int _ _, .slice _ _, .slice _ _, .int _ _, .int _ _, .int _ _, .int _ _]) rfl rfl (by decide) Try.underlying27 ag27 ti27 (by decide) (sv (d := .ref _ _) rfl) rfl (nle rfl) rfl) <|
    ils_cons rfl (iop_call (r := .tuple [.agg [.bool _, .int _ _, .int _ _, .slice _ _, .slice _ _, .int _ _, .int _ _, .int _ _, .int _ _], .int _ _, .int _ _]) rfl rfl (by decide) cl8 (.cons (sv (d := .agg [.bool _, .int _ _, .int _ _, .slice _ _, .slice _ _, .int _ _, .int _ _, .int _ _, .int _ _]) rfl) .nil) rfl (p_stid_Open _ _ hx3)) <|
    ils_cons rfl (iop_move rfl rfl (by decide) (sv (d := .tuple [.agg [.bool _, .int _ _, .int _ _, .slice _ _, .slice _ _, .int _ _, .int _ _, .int _ _, .int _ _], .int _ _, .int _ _]) rfl)) <|
    ils_cons rfl (iop_extract (d := .agg [.bool _, .int _ _, .int _ _, .slice _ _, .slice _ _, .int _ _, .int _ _, .int _ _, .int _ _]) rfl rfl (by decide) (sv (d := .tuple [.agg [.bool _, .int _ _, .int _ _, .slice _ _, .slice _ _, .int _ _, .int _ _, .int _ _, .int _ _], .int _ _, .int _ _]) rfl) rfl) <|
    ils_cons rfl (iop_extract (d := .int _ _) rfl rfl (by decide) (sv (d := .tuple [.agg [.bool _, .int _ _, .int _ _, .slice _ _, .slice _ _, .int _ _, .int _ _, .int _ _, .int _ _], .int _ _, .int _ _]) rfl) rfl) <|
    ils_cons rfl (iop_extract (d := .int _ _) rfl rfl (by decide) (sv (d := .tuple [.agg [.bool _, .int _ _, .int _ _, .slice _ _, .slice _ _, .int _ _, .int _ _, .int _ _, .int _ _], .int _ _, .int _ _]) rfl) rfl) <|
    ils_cons rfl (iop_store (ds' := [.bool _, .int _ _, .int _ _, .slice _ _, .slice _ _, .int _ _, .int _ _, .int _ _, .int _ _]) rfl rfl ti27 (sv (d := .ref _ _) rfl) rfl (sv (d := .agg [.bool _, .int _ _, .int _ _, .slice _ _, .slice _ _, .int _ _, .int _ _, .int _ _, .int _ _]) rfl) rfl rfl rfl (nle rfl) rfl) <|
    ils_cons rfl (iop_assign rfl rfl (by decide) (sv (d := .int _ _) rfl)) <|
    ils_cons rfl (iop_assign rfl rfl (by decide) (sv (d := .int _ _) rfl)) <|
    ils_end ?_)
  obtain ⟨x4, hx4, h⟩ := bno_e h
  refine iwp_reg (ils_cons rfl (iop_load_ra (cs := [.bool _, .int _ _, .int _ _, .slice _ _, .slice _ _, .int _ _, .int _ _, .int _ _, .int _ _]) rfl rfl (by decide) Try.underlying27 ag27 ti27 (by decide) (sv (d := .ref _ _) rfl) rfl (nle rfl) rfl) <|
    ils_cons rfl (iop_call (r := .tuple [.agg [.bool _, .int _ _, .int _ _, .slice _ _, .slice _ _, .int _ _, .int _ _, .int _ _, .int _ _], .int _ _, .int _ _]) rfl rfl (by decide) cl8 (.cons (sv (d := .agg [.bool _, .int _ _, .int _ _, .slice _ _, .slice _ _, .int _ _, .int _ _, .int _ _, .int _ _]) rfl) .nil) rfl (p_stid_Open _ _ hx4)) <|
    ils_cons rfl (iop_move rfl rfl (by decide) (sv (d := .tuple [.agg [.bool _, .int _ _, .int _ _, .slice _ _, .slice _ _, .int _ _, .int _ _, .int _ _, .int _ _], .int _ _, .int _ _]) rfl)) <|
    ils_cons rfl (iop_extract (d := .agg [.bool _, .int _ _, .int _ _, .slice _ _, .slice _ _, .int _ _, .int _ _, .int _ _, .int _ _]) rfl rfl (by decide) (sv (d := .tuple [.agg [.bool _, .int _ _, .int _ _, .slice _ _, .slice _ _, .int _ _, .int _ _, .int _ _, .int _ _], .int _ _, .int _ _]) rfl) rfl) <|
    ils_cons rfl (iop_extract (d := .int _ _) rfl rfl (by decide) (sv (d := .tuple [.agg [.bool _, .int _ _, .int _ _, .slice _ _, .slice _ _, .int _ _, .int _ _, .int _ _, .int _ _], .int _ _, .int _ _]) rfl) rfl) <|
    ils_cons rfl (iop_extract (d := .int _ _) rfl rfl (by decide) (sv (d := .tuple [.agg [.bool _, .int _ _, .int _ _, .slice _ _, .slice _ _, .int _ _, .int _ _, .int _ _, .int _ _], .int _ _, .int _ _]) rfl) rfl) <|
    ils_cons rfl (iop_allocS (cs := [.bool _, .int _ _, .int _ _, .nils, .nils, .int _ _, .int _ _, .int _ _, .int _ _]) (cs' := [.bool false, .int .i64 0, .int .i64 0, .slice false (([] : List Int).map (eInt .i64).d), .slice false (([] : List Int).map (eInt .i64).d), .int .i64 0, .int .i64 0, .int .i64 0, .int .i64 0]) 1 rfl rfl (by decide) rfl ti27 rfl rfl (.cons (.refl _) (.cons (.refl _) (.cons (.refl _) (.cons (.nils _) (.cons (.nils _) (.cons (.refl _) (.cons (.refl _) (.cons (.refl _) (.cons (.refl _) .nil)))))))))) <|
    ils_cons rfl (iop_store (ds' := [.bool _, .int _ _, .int _ _, .slice _ _, .slice _ _, .int _ _, .int _ _, .int _ _, .int _ _]) rfl rfl ti27 (sv (d := .ref _ _) rfl) rfl (sv (d := .agg [.bool _, .int _ _, .int _ _, .slice _ _, .slice _ _, .int _ _, .int _ _, .int _ _, .int _ _]) rfl) rfl rfl rfl (nle rfl) rfl) <|
    ils_cons rfl (iop_assign rfl rfl (by decide) (sv (d := .int _ _) rfl)) <|
    ils_cons rfl (iop_assign rfl rfl (by decide) (sv (d := .int _ _) rfl)) <|
    ils_end ?_)
  obtain ⟨x5, hx5, h⟩ := bno_e h
  refine iwp_reg (ils_cons rfl (iop_load_ra (cs := [.bool _, .int _ _, .int _ _, .slice _ _, .slice _ _, .int _ _, .int _ _, .int _ _, .int _ _]) rfl rfl (by decide) Try.underlying27 ag27 ti27 (by decide) (sv (d := .ref _ _) rfl) rfl (nle rfl) rfl) <|
    ils_cons rfl (iop_call (r := .tuple [.agg [.bool _, .int _ _, .int _ _, .slice _ _, .slice _ _, .int _ _, .int _ _, .int _ _, .int _ _], .agg [.int _ _, .int _ _]]) rfl rfl (by decide) cl10 (.cons (sv (d := .agg [.bool _, .int _ _, .int _ _, .slice _ _, .slice _ _, .int _ _, .int _ _, .int _ _, .int _ _]) rfl) (.cons (sv (d := .int _ 2) rfl) .nil)) rfl (p_stid_Begin _ _ _ hx5)) <|
    ils_cons rfl (iop_move rfl rfl (by decide) (sv (d := .tuple [.agg [.bool _, .int _ _, .int _ _, .slice _ _, .slice _ _, .int _ _, .int _ _, .int _ _, .int _ _], .agg [.int _ _, .int _ _]]) rfl)) <|
    ils_cons rfl (iop_extract (d := .agg [.bool _, .int _ _, .int _ _, .slice _ _, .slice _ _, .int _ _, .int _ _, .int _ _, .int _ _]) rfl rfl (by decide) (sv (d := .tuple [.agg [.bool _, .int _ _, .int _ _, .slice _ _, .slice _ _, .int _ _, .int _ _, .int _ _, .int _ _], .agg [.int _ _, .int _ _]]) rfl) rfl) <|
    ils_cons rfl (iop_extract (d := .agg [.int _ _, .int _ _]) rfl rfl (by decide) (sv (d := .tuple [.agg [.bool _, .int _ _, .int _ _, .slice _ _, .slice _ _, .int _ _, .int _ _, .int _ _, .int _ _], .agg [.int _ _, .int _ _]]) rfl) rfl) <|
    ils_cons rfl (iop_allocS (cs := [.bool _, .int _ _, .int _ _, .nils, .nils, .int _ _, .int _ _, .int _ _, .int _ _]) (cs' := [.bool false, .int .i64 0, .int .i64 0, .slice false (([] : List Int).map (eInt .i64).d), .slice false (([] : List Int).map (eInt .i64).d), .int .i64 0, .int .i64 0, .int .i64 0, .int .i64 0]) 2 rfl rfl (by decide) rfl ti27 rfl rfl (.cons (.refl _) (.cons (.refl _) (.cons (.refl _) (.cons (.nils _) (.cons (.nils _) (.cons (.refl _) (.cons (.refl _) (.cons (.refl _) (.cons (.refl _) .nil)))))))))) <|
    ils_cons rfl (iop_allocS (cs := [.int _ _, .int _ _]) (cs' := [.int .i64 0, .int .u32 0]) 3 rfl rfl (by decide) rfl ti36 rfl rfl (.cons (.refl _) (.cons (.refl _) .nil))) <|
    ils_cons rfl (iop_store (ds' := [.bool _, .int _ _, .int _ _, .slice _ _, .slice _ _, .int _ _, .int _ _, .int _ _, .int _ _]) rfl rfl ti27 (sv (d := .ref _ _) rfl) rfl (sv (d := .agg [.bool _, .int _ _, .int _ _, .slice _ _, .slice _ _, .int _ _, .int _ _, .int _ _, .int _ _]) rfl) rfl rfl rfl (nle rfl) rfl) <|
    ils_cons rfl (iop_store (ds' := [.int _ _, .int _ _]) rfl rfl ti36 (sv (d := .ref _ _) rfl) rfl (sv (d := .agg [.int _ _, .int _ _]) rfl) rfl rfl rfl (nle rfl) rfl) <|
    ils_end ?_)
  obtain ⟨x6, hx6, h⟩ := bno_e h
  refine iwp_reg (ils_cons rfl (iop_load_ra (cs := [.bool _, .int _ _, .int _ _, .slice _ _, .slice _ _, .int _ _, .int _ _, .int _ _, .int _ _]) rfl rfl (by decide) Try.underlying27 ag27 ti27 (by decide) (sv (d := .ref _ _) rfl) rfl (nle rfl) rfl) <|
    ils_cons rfl (iop_call (r := .tuple [.agg [.bool _, .int _ _, .int _ _, .slice _ _, .slice _ _, .int _ _, .int _ _, .int _ _, .int _ _], .agg [.int _ _, .int _ _]]) rfl rfl (by decide) cl10 (.cons (sv (d := .agg [.bool _, .int _ _, .int _ _, .slice _ _, .slice _ _, .int _ _, .int _ _, .int _ _, .int _ _]) rfl) (.cons (sv (d := .int _ 6) rfl) .nil)) rfl (p_stid_Begin _ _ _ hx6)) <|
    ils_cons rfl (iop_move rfl rfl (by decide) (sv (d := .tuple [.agg [.bool _, .int _ _, .int _ _, .slice _ _, .slice _ _, .int _ _, .int _ _, .int _ _, .int _ _], .agg [.int _ _, .int _ _]]) rfl)) <|
    ils_cons rfl (iop_extract (d := .agg [.bool _, .int _ _, .int _ _, .slice _ _, .slice _ _, .int _ _, .int _ _, .int _ _, .int _ _]) rfl rfl (by decide) (sv (d := .tuple [.agg [.bool _, .int _ _, .int _ _, .slice _ _, .slice _ _, .int _ _, .int _ _, .int _ _, .int _ _], .agg [.int _ _, .int _ _]]) rfl) rfl) <|
    ils_cons rfl (iop_extract (d := .agg [.int _ _, .int _ _]) rfl rfl (by decide) (sv (d := .tuple [.agg [.bool _, .int _ _, .int _ _, .slice _ _, .slice _ _, .int _ _, .int _ _, .int _ _, .int _ _], .agg [.int _ _, .int _ _]]) rfl) rfl) <|
    ils_cons rfl (iop_allocS (cs := [.bool _, .int _ _, .int _ _, .nils, .nils, .int _ _, .int _ _, .int _ _, .int _ _]) (cs' := [.bool false, .int .i64 0, .int .i64 0, .slice false (([] : List Int).map (eInt .i64).d), .slice false (([] : List Int).map (eInt .i64).d), .int .i64 0, .int .i64 0, .int .i64 0, .int .i64 0]) 4 rfl rfl (by decide) rfl ti27 rfl rfl (.cons (.refl _) (.cons (.refl _) (.cons (.refl _) (.cons (.nils _) (.cons (.nils _) (.cons (.refl _) (.cons (.refl _) (.cons (.refl _) (.cons (.refl _) .nil)))))))))) <|
    ils_cons rfl (iop_allocS (cs := [.int _ _, .int _ _]) (cs' := [.int .i64 0, .int .u32 0]) 5 rfl rfl (by decide) rfl ti36 rfl rfl (.cons (.refl _) (.cons (.refl _) .nil))) <|
    ils_cons rfl (iop_store (ds' := [.bool _, .int _ _, .int _ _, .slice _ _, .slice _ _, .int _ _, .int _ _, .int _ _, .int _ _]) rfl rfl ti27 (sv (d := .ref _ _) rfl) rfl (sv (d := .agg [.bool _, .int _ _, .int _ _, .slice _ _, .slice _ _, .int _ _, .int _ _, .int _ _, .int _ _]) rfl) rfl rfl rfl (nle rfl) rfl) <|
    ils_cons rfl (iop_store (ds' := [.int _ _, .int _ _]) rfl rfl ti36 (sv (d := .ref _ _) rfl) rfl (sv (d := .agg [.int _ _, .int _ _]) rfl) rfl rfl rfl (nle rfl) rfl) <|
    ils_end ?_)
  obtain ⟨x7, hx7, h⟩ := bno_e h
  refine iwp_reg (ils_cons rfl (iop_load_ra (cs := [.bool _, .int _ _, .int _ _, .slice _ _, .slice _ _, .int _ _, .int _ _, .int _ _, .int _ _]) rfl rfl (by decide) Try.underlying27 ag27 ti27 (by decide) (sv (d := .ref _ _) rfl) rfl (nle rfl) rfl) <|
    ils_cons rfl (iop_call (r := .tuple [.agg [.bool _, .int _ _, .int _ _, .slice _ _, .slice _ _, .int _ _, .int _ _, .int _ _, .int _ _], .slice _ _, .bool _]) rfl rfl (by decide) cl14 (.cons (sv (d := .agg [.bool _, .int _ _, .int _ _, .slice _ _, .slice _ _, .int _ _, .int _ _, .int _ _, .int _ _]) rfl) (.cons (sv (d := .int _ 1) rfl) .nil)) rfl (p_stid_Away _ _ _ hx7)) <|
    ils_cons rfl (iop_move rfl rfl (by decide) (sv (d := .tuple [.agg [.bool _, .int _ _, .int _ _, .slice _ _, .slice _ _, .int _ _, .int _ _, .int _ _, .int _ _], .slice _ _, .bool _]) rfl)) <|
    ils_cons rfl (iop_extract (d := .agg [.bool _, .int _ _, .int _ _, .slice _ _, .slice _ _, .int _ _, .int _ _, .int _ _, .int _ _]) rfl rfl (by decide) (sv (d := .tuple [.agg [.bool _, .int _ _, .int _ _, .slice _ _, .slice _ _, .int _ _, .int _ _, .int _ _, .int _ _], .slice _ _, .bool _]) rfl) rfl) <|
    ils_cons rfl (iop_extract (d := .slice _ _) rfl rfl (by decide) (sv (d := .tuple [.agg [.bool _, .int _ _, .int _ _, .slice _ _, .slice _ _, .int _ _, .int _ _, .int _ _, .int _ _], .slice _ _, .bool _]) rfl) rfl) <|
    ils_cons rfl (iop_extract (d := .bool _) rfl rfl (by decide) (sv (d := .tuple [.agg [.bool _, .int _ _, .int _ _, .slice _ _, .slice _ _, .int _ _, .int _ _, .int _ _, .int _ _], .slice _ _, .bool _]) rfl) rfl) <|
    ils_cons rfl (iop_allocS (cs := [.bool _, .int _ _, .int _ _, .nils, .nils, .int _ _, .int _ _, .int _ _, .int _ _]) (cs' := [.bool false, .int .i64 0, .int .i64 0, .slice false (([] : List Int).map (eInt .i64).d), .slice false (([] : List Int).map (eInt .i64).d), .int .i64 0, .int .i64 0, .int .i64 0, .int .i64 0]) 6 rfl rfl (by decide) rfl ti27 rfl rfl (.cons (.refl _) (.cons (.refl _) (.cons (.refl _) (.cons (.nils _) (.cons (.nils _) (.cons (.refl _) (.cons (.refl _) (.cons (.refl _) (.cons (.refl _) .nil)))))))))) <|
    ils_cons rfl (iop_store (ds' := [.bool _, .int _ _, .int _ _, .slice _ _, .slice _ _, .int _ _, .int _ _, .int _ _, .int _ _]) rfl rfl ti27 (sv (d := .ref _ _) rfl) rfl (sv (d := .agg [.bool _, .int _ _, .int _ _, .slice _ _, .slice _ _, .int _ _, .int _ _, .int _ _, .int _ _]) rfl) rfl rfl rfl (nle rfl) rfl) <|
    ils_cons rfl (iop_assign rfl rfl (by decide) (sv (d := .slice _ _) rfl)) <|
    ils_cons rfl (iop_assign rfl rfl (by decide) (sv (d := .bool _) rfl)) <|
    ils_end ?_)
  obtain ⟨x8, hx8, h⟩ := bno_e h
  refine iwp_reg (ils_cons rfl (iop_load_ra (cs := [.bool _, .int _ _, .int _ _, .slice _ _, .slice _ _, .int _ _, .int _ _, .int _ _, .int _ _]) rfl rfl (by decide) Try.underlying27 ag27 ti27 (by decide) (sv (d := .ref _ _) rfl) rfl (nle rfl) rfl) <|
    ils_cons rfl (iop_call (r := .tuple [.agg [.bool _, .int _ _, .int _ _, .slice _ _, .slice _ _, .int _ _, .int _ _, .int _ _, .int _ _], .int _ _]) rfl rfl (by decide) cl16 (.cons (sv (d := .agg [.bool _, .int _ _, .int _ _, .slice _ _, .slice _ _, .int _ _, .int _ _, .int _ _, .int _ _]) rfl) .nil) rfl (p_stid_Shut _ _ hx8)) <|
    ils_cons rfl (iop_move rfl rfl (by decide) (sv (d := .tuple [.agg [.bool _, .int _ _, .int _ _, .slice _ _, .slice _ _, .int _ _, .int _ _, .int _ _, .int _ _], .int _ _]) rfl)) <|
    ils_cons rfl (iop_extract (d := .agg [.bool _, .int _ _, .int _ _, .slice _ _, .slice _ _, .int _ _, .int _ _, .int _ _, .int _ _]) rfl rfl (by decide) (sv (d := .tuple [.agg [.bool _, .int _ _, .int _ _, .slice _ _, .slice _ _, .int _ _, .int _ _, .int _ _, .int _ _], .int _ _]) rfl) rfl) <|
    ils_cons rfl (iop_extract (d := .int _ _) rfl rfl (by decide) (sv (d := .tuple [.agg [.bool _, .int _ _, .int _ _, .slice _ _, .slice _ _, .int _ _, .int _ _, .int _ _, .int _ _], .int _ _]) rfl) rfl) <|
    ils_cons rfl (iop_allocS (cs := [.bool _, .int _ _, .int _ _, .nils, .nils, .int _ _, .int _ _, .int _ _, .int _ _]) (cs' := [.bool false, .int .i64 0, .int .i64 0, .slice false (([] : List Int).map (eInt .i64).d), .slice false (([] : List Int).map (eInt .i64).d), .int .i64 0, .int .i64 0, .int .i64 0, .int .i64 0]) 7 rfl rfl (by decide) rfl ti27 rfl rfl (.cons (.refl _) (.cons (.refl _) (.cons (.refl _) (.cons (.nils _) (.cons (.nils _) (.cons (.refl _) (.cons (.refl _) (.cons (.refl _) (.cons (.refl _) .nil)))))))))) <|
    ils_cons rfl (iop_store (ds' := [.bool _, .int _ _, .int _ _, .slice _ _, .slice _ _, .int _ _, .int _ _, .int _ _, .int _ _]) rfl rfl ti27 (sv (d := .ref _ _) rfl) rfl (sv (d := .agg [.bool _, .int _ _, .int _ _, .slice _ _, .slice _ _, .int _ _, .int _ _, .int _ _, .int _ _]) rfl) rfl rfl rfl (nle rfl) rfl) <|
    ils_cons rfl (iop_assign rfl rfl (by decide) (sv (d := .int _ _) rfl)) <|
    ils_end ?_)
  obtain ⟨x9, hx9, h⟩ := bno_e h
  refine iwp_reg (ils_cons rfl (iop_load_ra (cs := [.bool _, .int _ _, .int _ _, .slice _ _, .slice _ _, .int _ _, .int _ _, .int _ _, .int _ _]) rfl rfl (by decide) Try.underlying27 ag27 ti27 (by decide) (sv (d := .ref _ _) rfl) rfl (nle rfl) rfl) <|
    ils_cons rfl (iop_call (r := .tuple [.agg [.bool _, .int _ _, .int _ _, .slice _ _, .slice _ _, .int _ _, .int _ _, .int _ _, .int _ _], .agg [.int _ _, .int _ _]]) rfl rfl (by decide) cl10 (.cons (sv (d := .agg [.bool _, .int _ _, .int _ _, .slice _ _, .slice _ _, .int _ _, .int _ _, .int _ _, .int _ _]) rfl) (.cons (sv (d := .int _ 8) rfl) .nil)) rfl (p_stid_Begin _ _ _ hx9)) <|
    ils_cons rfl (iop_move rfl rfl (by decide) (sv (d := .tuple [.agg [.bool _, .int _ _, .int _ _, .slice _ _, .slice _ _, .int _ _, .int _ _, .int _ _, .int _ _], .agg [.int _ _, .int _ _]]) rfl)) <|
    ils_cons rfl (iop_extract (d := .agg [.bool _, .int _ _, .int _ _, .slice _ _, .slice _ _, .int _ _, .int _ _, .int _ _, .int _ _]) rfl rfl (by decide) (sv (d := .tuple [.agg [.bool _, .int _ _, .int _ _, .slice _ _, .slice _ _, .int _ _, .int _ _, .int _ _, .int _ _], .agg [.int _ _, .int _ _]]) rfl) rfl) <|
    ils_cons rfl (iop_extract (d := .agg [.int _ _, .int _ _]) rfl rfl (by decide) (sv (d := .tuple [.agg [.bool _, .int _ _, .int _ _, .slice _ _, .slice _ _, .int _ _, .int _ _, .int _ _, .int _ _], .agg [.int _ _, .int _ _]]) rfl) rfl) <|
    ils_cons rfl (iop_allocS (cs := [.bool _, .int _ _, .int _ _, .nils, .nils, .int _ _, .int _ _, .int _ _, .int _ _]) (cs' := [.bool false, .int .i64 0, .int .i64 0, .slice false (([] : List Int).map (eInt .i64).d), .slice false (([] : List Int).map (eInt .i64).d), .int .i64 0, .int .i64 0, .int .i64 0, .int .i64 0]) 8 rfl rfl (by decide) rfl ti27 rfl rfl (.cons (.refl _) (.cons (.refl _) (.cons (.refl _) (.cons (.nils _) (.cons (.nils _) (.cons (.refl _) (.cons (.refl _) (.cons (.refl _) (.cons (.refl _) .nil)))))))))) <|
    ils_cons rfl (iop_allocS (cs := [.int _ _, .int _ _]) (cs' := [.int .i64 0, .int .u32 0]) 9 rfl rfl (by decide) rfl ti36 rfl rfl (.cons (.refl _) (.cons (.refl _) .nil))) <|
    ils_cons rfl (iop_store (ds' := [.bool _, .int _ _, .int _ _, .slice _ _, .slice _ _, .int _ _, .int _ _, .int _ _, .int _ _]) rfl rfl ti27 (sv (d := .ref _ _) rfl) rfl (sv (d := .agg [.bool _, .int _ _, .int _ _, .slice _ _, .slice _ _, .int _ _, .int _ _, .int _ _, .int _ _]) rfl) rfl rfl rfl (nle rfl) rfl) <|
    ils_cons rfl (iop_store (ds' := [.int _ _, .int _ _]) rfl rfl ti36 (sv (d := .ref _ _) rfl) rfl (sv (d := .agg [.int _ _, .int _ _]) rfl) rfl rfl rfl (nle rfl) rfl) <|
    ils_end ?_)
  obtain ⟨x10, hx10, h⟩ := bno_e h
  refine iwp_reg (ils_cons rfl (iop_load_ra (cs := [.bool _, .int _ _, .int _ _, .slice _ _, .slice _ _, .int _ _, .int _ _, .int _ _, .int _ _]) rfl rfl (by decide) Try.underlying27 ag27 ti27 (by decide) (sv (d := .ref _ _) rfl) rfl (nle rfl) rfl) <|
    ils_cons rfl (iop_call (r := .tuple [.int _ _, .int _ _]) rfl rfl (by decide) cl25 (.cons (sv (d := .agg [.bool _, .int _ _, .int _ _, .slice _ _, .slice _ _, .int _ _, .int _ _, .int _ _, .int _ _]) rfl) .nil) rfl (p_stid_Count _ _ hx10)) <|
    ils_cons rfl (iop_move rfl rfl (by decide) (sv (d := .tuple [.int _ _, .int _ _]) rfl)) <|
    ils_cons rfl (iop_extract (d := .int _ _) rfl rfl (by decide) (sv (d := .tuple [.int _ _, .int _ _]) rfl) rfl) <|
    ils_cons rfl (iop_extract (d := .int _ _) rfl rfl (by decide) (sv (d := .tuple [.int _ _, .int _ _]) rfl) rfl) <|
    ils_cons rfl (iop_assign rfl rfl (by decide) (sv (d := .int _ _) rfl)) <|
    ils_cons rfl (iop_assign rfl rfl (by decide) (sv (d := .int _ _) rfl)) <|
    ils_end ?_)
  obtain ⟨x11, hx11, h⟩ := bnd_e h
  obtain ⟨x12, hx12, h⟩ := bnd_e h
  obtain ⟨x13, hx13, h⟩ := bnd_e h
  obtain ⟨x14, hx14, h⟩ := bnd_e h
  obtain ⟨x15, hx15, h⟩ := bnd_e h
  obtain ⟨x16, hx16, h⟩ := bnd_e h
  obtain ⟨x17, hx17, h⟩ := bnd_e h
  obtain ⟨x18, hx18, h⟩ := bnd_e h
  obtain ⟨x19, hx19, h⟩ := bnd_e h
  obtain ⟨x20, hx20, h⟩ := bnd_e h
  obtain ⟨x21, hx21, h⟩ := bnd_e h
  obtain ⟨x22, hx22, h⟩ := bnd_e h
  obtain ⟨x23, hx23, h⟩ := bnd_e h
  obtain ⟨x24, hx24, h⟩ := bnd_e h
  obtain ⟨x25, hx25, h⟩ := bnd_e h
  obtain ⟨x26, hx26, h⟩ := bno_e h
  obtain ⟨x27, hx27, h⟩ := bnd_e h
  obtain ⟨x28, hx28, h⟩ := bnd_e h
  obtain ⟨x29, hx29, h⟩ := bnd_e h
  obtain ⟨x30, hx30, h⟩ := bnd_e h
  obtain ⟨x31, hx31, h⟩ := bnd_e h
  obtain ⟨x32, hx32, h⟩ := bnd_e h
  obtain ⟨x33, hx33, h⟩ := bnd_e h
  obtain ⟨x34, hx34, h⟩ := bnd_e h
  obtain ⟨x35, hx35, h⟩ := bnd_e h
  obtain ⟨x36, hx36, h⟩ := bnd_e h
  obtain ⟨x37, hx37, h⟩ := bno_e h
  obtain ⟨x38, hx38, h⟩ := bnd_e h
  obtain ⟨x39, hx39, h⟩ := bnd_e h
  obtain ⟨x40, hx40, h⟩ := bno_e h
  obtain ⟨x41, hx41, h⟩ := bnd_e h
  obtain ⟨x42, hx42, h⟩ := bnd_e h
  obtain ⟨x43, hx43, h⟩ := bno_e h
  obtain ⟨x44, hx44, h⟩ := bnd_e h
  obtain ⟨x45, hx45, h⟩ := bnd_e h
  obtain ⟨x46, hx46, h⟩ := bno_e h
  obtain ⟨x47, hx47, h⟩ := bnd_e h
  obtain ⟨x48, hx48, h⟩ := bnd_e h
  obtain ⟨x49, hx49, h⟩ := bno_e h
  obtain ⟨x50, hx50, h⟩ := bno_e h
  obtain ⟨x51, hx51, h⟩ := bnd_e h
  obtain ⟨x52, hx52, h⟩ := bnd_e h
  obtain ⟨x53, hx53, h⟩ := bno_e h
  obtain ⟨x54, hx54, h⟩ := bnd_e h
  obtain ⟨x55, hx55, h⟩ := bno_e h
  obtain ⟨x56, hx56, h⟩ := bnd_e h
  obtain ⟨x57, hx57, h⟩ := bno_e h
  obtain ⟨x58, hx58, h⟩ := bnd_e h
  obtain ⟨x59, hx59, h⟩ := bnd_e h
  obtain ⟨x60, hx60, h⟩ := bno_e h
  obtain ⟨x61, hx61, h⟩ := bnd_e h
  obtain ⟨x62, hx62, h⟩ := bnd_e h
  obtain ⟨x63, hx63, h⟩ := bno_e h
  obtain ⟨x64, hx64, h⟩ := bnd_e h
  obtain ⟨x65, hx65, h⟩ := bno_e h
  obtain ⟨x66, hx66, h⟩ := bnd_e h
  obtain ⟨x67, hx67, h⟩ := bnd_e h
  obtain ⟨x68, hx68, h⟩ := bnd_e h
  obtain ⟨x69, hx69, h⟩ := bnd_e h
  refine iwp_reg (ils_cons rfl (iop_move rfl rfl (by decide) (sv (d := .int _ _) rfl)) <|
    ils_cons rfl (iop_cmpx rfl rfl (by decide) (sv (d := .int _ _) rfl) (sv (d := .int _ 0) rfl) rfl hx11) <|
    ils_cons rfl (iop_move rfl rfl (by decide) (sv (d := .bool _) rfl)) <|
    ils_guard rfl rfl (.one rfl) rfl (by decide) (fun hb => (iop_move rfl rfl (by decide) (sv (d := .int _ _) rfl))) <|
    ils_guard rfl rfl (.one rfl) rfl (by decide) (fun hb => (iop_cmpx rfl rfl (by decide) (svc (d := .int _ _) rfl hb) (sv (d := .int _ 1) rfl) rfl hx12)) <|
    ils_cons rfl (iop_andx rfl rfl (by decide) (sv (d := .bool _) rfl) rfl rfl hx13) <|
    ils_cons rfl (iop_move rfl rfl (by decide) (sv (d := .bool _) rfl)) <|
    ils_guard rfl rfl (.one rfl) rfl (by decide) (fun hb => (iop_move rfl rfl (by decide) (sv (d := .int _ _) rfl))) <|
    ils_guard rfl rfl (.one rfl) rfl (by decide) (fun hb => (iop_cmpx rfl rfl (by decide) (svc (d := .int _ _) rfl hb) (sv (d := .int _ 0) rfl) rfl hx14)) <|
    ils_cons rfl (iop_andx rfl rfl (by decide) (sv (d := .bool _) rfl) rfl rfl hx15) <|
    ils_cons rfl (iop_move rfl rfl (by decide) (sv (d := .bool _) rfl)) <|
    ils_guard rfl rfl (.one rfl) rfl (by decide) (fun hb => (iop_move rfl rfl (by decide) (sv (d := .int _ _) rfl))) <|
    ils_guard rfl rfl (.one rfl) rfl (by decide) (fun hb => (iop_cmpx rfl rfl (by decide) (svc (d := .int _ _) rfl hb) (sv (d := .int _ 3) rfl) rfl hx16)) <|
    ils_cons rfl (iop_andx rfl rfl (by decide) (sv (d := .bool _) rfl) rfl rfl hx17) <|
    ils_cons rfl (iop_move rfl rfl (by decide) (sv (d := .bool _) rfl)) <|
    ils_guard rfl rfl (.one rfl) rfl (by decide) (fun hb => (iop_move rfl rfl (by decide) (sv (d := .int _ _) rfl))) <|
    ils_guard rfl rfl (.one rfl) rfl (by decide) (fun hb => (iop_cmpx rfl rfl (by decide) (svc (d := .int _ _) rfl hb) (sv (d := .int _ 0) rfl) rfl hx18)) <|
    ils_cons rfl (iop_andx rfl rfl (by decide) (sv (d := .bool _) rfl) rfl rfl hx19) <|
    ils_cons rfl (iop_move rfl rfl (by decide) (sv (d := .bool _) rfl)) <|
    ils_guard rfl rfl (.one rfl) rfl (by decide) (fun hb => (iop_move rfl rfl (by decide) (sv (d := .int _ _) rfl))) <|
    ils_guard rfl rfl (.one rfl) rfl (by decide) (fun hb => (iop_cmpx rfl rfl (by decide) (svc (d := .int _ _) rfl hb) (sv (d := .int _ 7) rfl) rfl hx20)) <|
    ils_cons rfl (iop_andx rfl rfl (by decide) (sv (d := .bool _) rfl) rfl rfl hx21) <|
    ils_cons rfl (iop_move rfl rfl (by decide) (sv (d := .bool _) rfl)) <|
    ils_guard rfl rfl (.one rfl) rfl (by decide) (fun hb => (iop_load_ra (cs := [.int _ _, .int _ _]) rfl rfl (by decide) Try.underlying36 ag36 ti36 (by decide) (sv (d := .ref _ _) rfl) rfl (nle rfl) rfl)) <|
    ils_guard rfl rfl (.one rfl) rfl (by decide) (fun hb => (iop_build_struct (cs := [.int _ _, .int _ _]) rfl rfl (by decide) Try.underlying36 ti36 pl36 rfl .nil rfl)) <|
    ils_guard rfl rfl (.one rfl) rfl (by decide) (fun hb => (iop_eqs rfl rfl (by decide) Try.underlying36 st36.1 st36.2 (svc (d := .agg [.int .i64 x5.2.Scope, .int .u32 x5.2.Code]) rfl hb) (svc (d := .agg [.int .i64 0, .int .u32 0]) rfl hb) (congrArg some hx22))) <|
    ils_cons rfl (iop_andx rfl rfl (by decide) (sv (d := .bool _) rfl) rfl rfl hx23) <|
    ils_cons rfl (iop_move rfl rfl (by decide) (sv (d := .bool _) rfl)) <|
    ils_guard rfl rfl (.one rfl) rfl (by decide) (fun hb => (iop_load_ra (cs := [.int _ _, .int _ _]) rfl rfl (by decide) Try.underlying36 ag36 ti36 (by decide) (sv (d := .ref _ _) rfl) rfl (nle rfl) rfl)) <|
    ils_guard rfl rfl (.one rfl) rfl (by decide) (fun hb => (iop_build_struct (cs := [.int _ _, .int _ _]) rfl rfl (by decide) Try.underlying36 ti36 pl36 rfl (.cons (sv (d := .int _ 2) rfl) (.cons (sv (d := .int _ 7) rfl) .nil)) rfl)) <|
    ils_guard rfl rfl (.one rfl) rfl (by decide) (fun hb => (iop_eqs rfl rfl (by decide) Try.underlying36 st36.1 st36.2 (svc (d := .agg [.int .i64 x6.2.Scope, .int .u32 x6.2.Code]) rfl hb) (svc (d := .agg [.int .i64 2, .int .u32 7]) rfl hb) (congrArg some hx24))) <|
    ils_cons rfl (iop_andx rfl rfl (by decide) (sv (d := .bool _) rfl) rfl rfl hx25) <|
    ils_cons rfl (iop_move rfl rfl (by decide) (sv (d := .bool _) rfl)) <|
    ils_guard rfl rfl (.one rfl) rfl (by decide) (fun hb => (iop_move rfl rfl (by decide) (sv (d := .slice _ _) rfl))) <|
    ils_guard rfl rfl (.one rfl) rfl (by decide) (fun hb => (iop_bsF (eInt .i64) ([3] : (List Int)) rfl rfl (by decide) Try.underlying22 ti3 (.cons (sv (d := .int _ 3) rfl) .nil) rfl rfl (by decide))) <|
    ils_guard rfl rfl (.one rfl) rfl (by decide) (fun hb => (iop_call (r := .bool _) rfl rfl (by decide) cl21 (.cons (svc (d := .slice _ _) rfl hb) (.cons (svc (d := .slice _ _) rfl hb) .nil)) rfl (p_sennitref02_SameInts _ _ _ (gd_t hx26 hb)))) <|
    ils_cons rfl (iop_andx rfl rfl (by decide) (sv (d := .bool _) rfl) rfl rfl hx27) <|
    ils_cons rfl (iop_move rfl rfl (by decide) (sv (d := .bool _) rfl)) <|
    ils_guard rfl rfl (.one rfl) rfl (by decide) (fun hb => (iop_move rfl rfl (by decide) (sv (d := .bool _) rfl))) <|
    ils_cons rfl (iop_andx rfl rfl (by decide) (sv (d := .bool _) rfl) rfl rfl hx28) <|
    ils_cons rfl (iop_move rfl rfl (by decide) (sv (d := .bool _) rfl)) <|
    ils_guard rfl rfl (.one rfl) rfl (by decide) (fun hb => (iop_move rfl rfl (by decide) (sv (d := .int _ _) rfl))) <|
    ils_guard rfl rfl (.one rfl) rfl (by decide) (fun hb => (iop_cmpx rfl rfl (by decide) (svc (d := .int _ _) rfl hb) (sv (d := .int _ 6) rfl) rfl hx29)) <|
    ils_cons rfl (iop_andx rfl rfl (by decide) (sv (d := .bool _) rfl) rfl rfl hx30) <|
    ils_cons rfl (iop_move rfl rfl (by decide) (sv (d := .bool _) rfl)) <|
    ils_guard rfl rfl (.one rfl) rfl (by decide) (fun hb => (iop_fieldAddr_ref rfl rfl (by decide) Try.underlying36 rfl ti3 (by decide) (sv (d := .ref _ _) rfl) (off' := 0) rfl)) <|
    ils_guard rfl rfl (.one rfl) rfl (by decide) (fun hb => (iop_load_rs (d := .int _ _) rfl rfl (by decide) Try.underlying3 ag3 ti3 (by decide) (svc (d := .ref _ _) rfl hb) rfl (nle rfl) rfl)) <|
    ils_guard rfl rfl (.one rfl) rfl (by decide) (fun hb => (iop_cmpx rfl rfl (by decide) (svc (d := .int _ _) rfl hb) (sv (d := .int _ 1) rfl) rfl hx31)) <|
    ils_cons rfl (iop_andx rfl rfl (by decide) (sv (d := .bool _) rfl) rfl rfl hx32) <|
    ils_cons rfl (iop_move rfl rfl (by decide) (sv (d := .bool _) rfl)) <|
    ils_guard rfl rfl (.one rfl) rfl (by decide) (fun hb => (iop_move rfl rfl (by decide) (sv (d := .int _ _) rfl))) <|
    ils_guard rfl rfl (.one rfl) rfl (by decide) (fun hb => (iop_cmpx rfl rfl (by decide) (svc (d := .int _ _) rfl hb) (sv (d := .int _ 1) rfl) rfl hx33)) <|
    ils_cons rfl (iop_andx rfl rfl (by decide) (sv (d := .bool _) rfl) rfl rfl hx34) <|
    ils_cons rfl (iop_move rfl rfl (by decide) (sv (d := .bool _) rfl)) <|
    ils_guard rfl rfl (.one rfl) rfl (by decide) (fun hb => (iop_move rfl rfl (by decide) (sv (d := .int _ _) rfl))) <|
    ils_guard rfl rfl (.one rfl) rfl (by decide) (fun hb => (iop_cmpx rfl rfl (by decide) (svc (d := .int _ _) rfl hb) (sv (d := .int _ 1) rfl) rfl hx35)) <|
    ils_cons rfl (iop_andx rfl rfl (by decide) (sv (d := .bool _) rfl) rfl rfl hx36) <|
    ils_cons rfl (iop_move rfl rfl (by decide) (sv (d := .bool _) rfl)) <|
    ils_guard rfl rfl (.one rfl) rfl (by decide) (fun hb => (iop_load_ra (cs := [.bool _, .int _ _, .int _ _, .slice _ _, .slice _ _, .int _ _, .int _ _, .int _ _, .int _ _]) rfl rfl (by decide) Try.underlying27 ag27 ti27 (by decide) (sv (d := .ref _ _) rfl) rfl (nle rfl) rfl)) <|
    ils_guard rfl rfl (.one rfl) rfl (by decide) (fun hb => (iop_call (r := .int _ _) rfl rfl (by decide) cl23 (.cons (svc (d := .agg [.bool x7.1.Odd, .int .i64 x7.1.Next, .int .i64 x7.1.Last, .slice false (x7.1.Live.map (eInt .i64).d), .slice false (x7.1.Cut.map (eInt .i64).d), .int .i64 x7.1.Mine, .int .i64 x7.1.Hers, .int .i64 x7.1.Heard, .int .i64 x7.1.Told]) rfl hb) (.cons (sv (d := .int _ 3) rfl) .nil)) rfl (p_stid_Class _ _ _ (gd_t hx37 hb)))) <|
    ils_guard rfl rfl (.one rfl) rfl (by decide) (fun hb => (iop_cmpx rfl rfl (by decide) (svc (d := .int _ _) rfl hb) (sv (d := .int _ 4) rfl) rfl hx38)) <|
    ils_cons rfl (iop_andx rfl rfl (by decide) (sv (d := .bool _) rfl) rfl rfl hx39) <|
    ils_cons rfl (iop_move rfl rfl (by decide) (sv (d := .bool _) rfl)) <|
    ils_guard rfl rfl (.one rfl) rfl (by decide) (fun hb => (iop_load_ra (cs := [.bool _, .int _ _, .int _ _, .slice _ _, .slice _ _, .int _ _, .int _ _, .int _ _, .int _ _]) rfl rfl (by decide) Try.underlying27 ag27 ti27 (by decide) (sv (d := .ref _ _) rfl) rfl (nle rfl) rfl)) <|
    ils_guard rfl rfl (.one rfl) rfl (by decide) (fun hb => (iop_call (r := .int _ _) rfl rfl (by decide) cl23 (.cons (svc (d := .agg [.bool x7.1.Odd, .int .i64 x7.1.Next, .int .i64 x7.1.Last, .slice false (x7.1.Live.map (eInt .i64).d), .slice false (x7.1.Cut.map (eInt .i64).d), .int .i64 x7.1.Mine, .int .i64 x7.1.Hers, .int .i64 x7.1.Heard, .int .i64 x7.1.Told]) rfl hb) (.cons (sv (d := .int _ 6) rfl) .nil)) rfl (p_stid_Class _ _ _ (gd_t hx40 hb)))) <|
    ils_guard rfl rfl (.one rfl) rfl (by decide) (fun hb => (iop_cmpx rfl rfl (by decide) (svc (d := .int _ _) rfl hb) (sv (d := .int _ 5) rfl) rfl hx41)) <|
    ils_cons rfl (iop_andx rfl rfl (by decide) (sv (d := .bool _) rfl) rfl rfl hx42) <|
    ils_cons rfl (iop_move rfl rfl (by decide) (sv (d := .bool _) rfl)) <|
    ils_guard rfl rfl (.one rfl) rfl (by decide) (fun hb => (iop_load_ra (cs := [.bool _, .int _ _, .int _ _, .slice _ _, .slice _ _, .int _ _, .int _ _, .int _ _, .int _ _]) rfl rfl (by decide) Try.underlying27 ag27 ti27 (by decide) (sv (d := .ref _ _) rfl) rfl (nle rfl) rfl)) <|
    ils_guard rfl rfl (.one rfl) rfl (by decide) (fun hb => (iop_call (r := .int _ _) rfl rfl (by decide) cl23 (.cons (svc (d := .agg [.bool x7.1.Odd, .int .i64 x7.1.Next, .int .i64 x7.1.Last, .slice false (x7.1.Live.map (eInt .i64).d), .slice false (x7.1.Cut.map (eInt .i64).d), .int .i64 x7.1.Mine, .int .i64 x7.1.Hers, .int .i64 x7.1.Heard, .int .i64 x7.1.Told]) rfl hb) (.cons (sv (d := .int _ 8) rfl) .nil)) rfl (p_stid_Class _ _ _ (gd_t hx43 hb)))) <|
    ils_guard rfl rfl (.one rfl) rfl (by decide) (fun hb => (iop_cmpx rfl rfl (by decide) (svc (d := .int _ _) rfl hb) (sv (d := .int _ 1) rfl) rfl hx44)) <|
    ils_cons rfl (iop_andx rfl rfl (by decide) (sv (d := .bool _) rfl) rfl rfl hx45) <|
    ils_cons rfl (iop_move rfl rfl (by decide) (sv (d := .bool _) rfl)) <|
    ils_guard rfl rfl (.one rfl) rfl (by decide) (fun hb => (iop_load_ra (cs := [.bool _, .int _ _, .int _ _, .slice _ _, .slice _ _, .int _ _, .int _ _, .int _ _, .int _ _]) rfl rfl (by decide) Try.underlying27 ag27 ti27 (by decide) (sv (d := .ref _ _) rfl) rfl (nle rfl) rfl)) <|
    ils_guard rfl rfl (.one rfl) rfl (by decide) (fun hb => (iop_call (r := .int _ _) rfl rfl (by decide) cl23 (.cons (svc (d := .agg [.bool x7.1.Odd, .int .i64 x7.1.Next, .int .i64 x7.1.Last, .slice false (x7.1.Live.map (eInt .i64).d), .slice false (x7.1.Cut.map (eInt .i64).d), .int .i64 x7.1.Mine, .int .i64 x7.1.Hers, .int .i64 x7.1.Heard, .int .i64 x7.1.Told]) rfl hb) (.cons (sv (d := .int _ 5) rfl) .nil)) rfl (p_stid_Class _ _ _ (gd_t hx46 hb)))) <|
    ils_guard rfl rfl (.one rfl) rfl (by decide) (fun hb => (iop_cmpx rfl rfl (by decide) (svc (d := .int _ _) rfl hb) (sv (d := .int _ 6) rfl) rfl hx47)) <|
    ils_cons rfl (iop_andx rfl rfl (by decide) (sv (d := .bool _) rfl) rfl rfl hx48) <|
    ils_cons rfl (iop_move rfl rfl (by decide) (sv (d := .bool _) rfl)) <|
    ils_guard rfl rfl (.one rfl) rfl (by decide) (fun hb => (iop_load_ra (cs := [.bool _, .int _ _, .int _ _, .slice _ _, .slice _ _, .int _ _, .int _ _, .int _ _, .int _ _]) rfl rfl (by decide) Try.underlying27 ag27 ti27 (by decide) (sv (d := .ref _ _) rfl) rfl (nle rfl) rfl)) <|
    ils_guard rfl rfl (.one rfl) rfl (by decide) (fun hb => (iop_call (r := .agg [.bool _, .int _ _, .int _ _, .slice _ _, .slice _ _, .int _ _, .int _ _, .int _ _, .int _ _]) rfl rfl (by decide) cl12 (.cons (svc (d := .agg [.bool x7.1.Odd, .int .i64 x7.1.Next, .int .i64 x7.1.Last, .slice false (x7.1.Live.map (eInt .i64).d), .slice false (x7.1.Cut.map (eInt .i64).d), .int .i64 x7.1.Mine, .int .i64 x7.1.Hers, .int .i64 x7.1.Heard, .int .i64 x7.1.Told]) rfl hb) (.cons (sv (d := .int _ 2) rfl) (.cons (sv (d := .bool true) rfl) .nil))) rfl (p_stid_End _ _ _ _ (gd_t hx49 hb)))) <|
    ils_guard rfl rfl (.one rfl) rfl (by decide) (fun hb => (iop_call (r := .int _ _) rfl rfl (by decide) cl23 (.cons (svc (d := .agg [.bool x49.Odd, .int .i64 x49.Next, .int .i64 x49.Last, .slice false (x49.Live.map (eInt .i64).d), .slice false (x49.Cut.map (eInt .i64).d), .int .i64 x49.Mine, .int .i64 x49.Hers, .int .i64 x49.Heard, .int .i64 x49.Told]) rfl hb) (.cons (sv (d := .int _ 2) rfl) .nil)) rfl (p_stid_Class _ _ _ (gd_t hx50 hb)))) <|
    ils_guard rfl rfl (.one rfl) rfl (by decide) (fun hb => (iop_cmpx rfl rfl (by decide) (svc (d := .int _ _) rfl hb) (sv (d := .int _ 5) rfl) rfl hx51)) <|
    ils_cons rfl (iop_andx rfl rfl (by decide) (sv (d := .bool _) rfl) rfl rfl hx52) <|
    ils_cons rfl (iop_move rfl rfl (by decide) (sv (d := .bool _) rfl)) <|
    ils_guard rfl rfl (.one rfl) rfl (by decide) (fun hb => (iop_load_ra (cs := [.bool _, .int _ _, .int _ _, .slice _ _, .slice _ _, .int _ _, .int _ _, .int _ _, .int _ _]) rfl rfl (by decide) Try.underlying27 ag27 ti27 (by decide) (sv (d := .ref _ _) rfl) rfl (nle rfl) rfl)) <|
    ils_guard rfl rfl (.one rfl) rfl (by decide) (fun hb => (iop_call (r := .bool _) rfl rfl (by decide) cl24 (.cons (svc (d := .agg [.bool x7.1.Odd, .int .i64 x7.1.Next, .int .i64 x7.1.Last, .slice false (x7.1.Live.map (eInt .i64).d), .slice false (x7.1.Cut.map (eInt .i64).d), .int .i64 x7.1.Mine, .int .i64 x7.1.Hers, .int .i64 x7.1.Heard, .int .i64 x7.1.Told]) rfl hb) (.cons (sv (d := .int _ 5) rfl) .nil)) rfl (p_stid_Own _ _ _ (gd_t hx53 hb)))) <|
    ils_cons rfl (iop_andx rfl rfl (by decide) (sv (d := .bool _) rfl) rfl rfl hx54) <|
    ils_cons rfl (iop_move rfl rfl (by decide) (sv (d := .bool _) rfl)) <|
    ils_guard rfl rfl (.one rfl) rfl (by decide) (fun hb => (iop_load_ra (cs := [.bool _, .int _ _, .int _ _, .slice _ _, .slice _ _, .int _ _, .int _ _, .int _ _, .int _ _]) rfl rfl (by decide) Try.underlying27 ag27 ti27 (by decide) (sv (d := .ref _ _) rfl) rfl (nle rfl) rfl)) <|
    ils_guard rfl rfl (.one rfl) rfl (by decide) (fun hb => (iop_call (r := .bool _) rfl rfl (by decide) cl24 (.cons (svc (d := .agg [.bool x7.1.Odd, .int .i64 x7.1.Next, .int .i64 x7.1.Last, .slice false (x7.1.Live.map (eInt .i64).d), .slice false (x7.1.Cut.map (eInt .i64).d), .int .i64 x7.1.Mine, .int .i64 x7.1.Hers, .int .i64 x7.1.Heard, .int .i64 x7.1.Told]) rfl hb) (.cons (sv (d := .int _ 4) rfl) .nil)) rfl (p_stid_Own _ _ _ (gd_t hx55 hb)))) <|
    ils_guard rfl rfl (.one rfl) rfl (by decide) (fun hb => (iop_not rfl rfl (by decide) (svc (d := .bool _) rfl hb))) <|
    ils_cons rfl (iop_andx rfl rfl (by decide) (sv (d := .bool _) rfl) rfl rfl hx56) <|
    ils_cons rfl (iop_move rfl rfl (by decide) (sv (d := .bool _) rfl)) <|
    ils_guard rfl rfl (.one rfl) rfl (by decide) (fun hb => (iop_load_ra (cs := [.bool _, .int _ _, .int _ _, .slice _ _, .slice _ _, .int _ _, .int _ _, .int _ _, .int _ _]) rfl rfl (by decide) Try.underlying27 ag27 ti27 (by decide) (sv (d := .ref _ _) rfl) rfl (nle rfl) rfl)) <|
    ils_guard rfl rfl (.one rfl) rfl (by decide) (fun hb => (iop_call (r := .int _ _) rfl rfl (by decide) cl26 (.cons (svc (d := .agg [.bool x8.1.Odd, .int .i64 x8.1.Next, .int .i64 x8.1.Last, .slice false (x8.1.Live.map (eInt .i64).d), .slice false (x8.1.Cut.map (eInt .i64).d), .int .i64 x8.1.Mine, .int .i64 x8.1.Hers, .int .i64 x8.1.Heard, .int .i64 x8.1.Told]) rfl hb) .nil) rfl (p_stid_Check _ _ (gd_t hx57 hb)))) <|
    ils_guard rfl rfl (.one rfl) rfl (by decide) (fun hb => (iop_cmpx rfl rfl (by decide) (svc (d := .int _ _) rfl hb) (sv (d := .int _ 0) rfl) rfl hx58)) <|
    ils_cons rfl (iop_andx rfl rfl (by decide) (sv (d := .bool _) rfl) rfl rfl hx59) <|
    ils_cons rfl (iop_move rfl rfl (by decide) (sv (d := .bool _) rfl)) <|
    ils_guard rfl rfl (.one rfl) rfl (by decide) (fun hb => (iop_sub (d' := .agg [.bool false, .int .i64 0, .int .i64 0, .slice false (([] : List Int).map (eInt .i64).d), .slice false (([] : List Int).map (eInt .i64).d), .int .i64 0, .int .i64 0, .int .i64 0, .int .i64 0]) (iop_build_struct (cs := [.bool _, .int _ _, .int _ _, .nils, .nils, .int _ _, .int _ _, .int _ _, .int _ _]) rfl rfl (by decide) Try.underlying27 ti27 pl27 rfl .nil rfl) (.agg (.cons (.refl _) (.cons (.refl _) (.cons (.refl _) (.cons (.nils _) (.cons (.nils _) (.cons (.refl _) (.cons (.refl _) (.cons (.refl _) (.cons (.refl _) .nil)))))))))))) <|
    ils_guard rfl rfl (.one rfl) rfl (by decide) (fun hb => (iop_call (r := .int _ _) rfl rfl (by decide) cl26 (.cons (svc (d := .agg [.bool false, .int .i64 0, .int .i64 0, .slice false (([] : List Int).map (eInt .i64).d), .slice false (([] : List Int).map (eInt .i64).d), .int .i64 0, .int .i64 0, .int .i64 0, .int .i64 0]) rfl hb) .nil) rfl (p_stid_Check _ _ (gd_t hx60 hb)))) <|
    ils_guard rfl rfl (.one rfl) rfl (by decide) (fun hb => (iop_cmpx rfl rfl (by decide) (svc (d := .int _ _) rfl hb) (sv (d := .int _ 8) rfl) rfl hx61)) <|
    ils_cons rfl (iop_andx rfl rfl (by decide) (sv (d := .bool _) rfl) rfl rfl hx62) <|
    ils_cons rfl (iop_move rfl rfl (by decide) (sv (d := .bool _) rfl)) <|
    ils_guard rfl rfl (.one rfl) rfl (by decide) (fun hb => (iop_load_ra (cs := [.bool _, .int _ _, .int _ _, .slice _ _, .slice _ _, .int _ _, .int _ _, .int _ _, .int _ _]) rfl rfl (by decide) Try.underlying27 ag27 ti27 (by decide) (sv (d := .ref _ _) rfl) rfl (nle rfl) rfl)) <|
    ils_guard rfl rfl (.one rfl) rfl (by decide) (fun hb => (iop_load_ra (cs := [.bool _, .int _ _, .int _ _, .slice _ _, .slice _ _, .int _ _, .int _ _, .int _ _, .int _ _]) rfl rfl (by decide) Try.underlying27 ag27 ti27 (by decide) (sv (d := .ref _ _) rfl) rfl (nle rfl) rfl)) <|
    ils_guard rfl rfl (.one rfl) rfl (by decide) (fun hb => (iop_call (r := .bool _) rfl rfl (by decide) cl27 (.cons (svc (d := .agg [.bool x7.1.Odd, .int .i64 x7.1.Next, .int .i64 x7.1.Last, .slice false (x7.1.Live.map (eInt .i64).d), .slice false (x7.1.Cut.map (eInt .i64).d), .int .i64 x7.1.Mine, .int .i64 x7.1.Hers, .int .i64 x7.1.Heard, .int .i64 x7.1.Told]) rfl hb) (.cons (svc (d := .agg [.bool x7.1.Odd, .int .i64 x7.1.Next, .int .i64 x7.1.Last, .slice false (x7.1.Live.map (eInt .i64).d), .slice false (x7.1.Cut.map (eInt .i64).d), .int .i64 x7.1.Mine, .int .i64 x7.1.Hers, .int .i64 x7.1.Heard, .int .i64 x7.1.Told]) rfl hb) .nil)) rfl (p_stid_Same _ _ _ (gd_t hx63 hb)))) <|
    ils_cons rfl (iop_andx rfl rfl (by decide) (sv (d := .bool _) rfl) rfl rfl hx64) <|
    ils_cons rfl (iop_move rfl rfl (by decide) (sv (d := .bool _) rfl)) <|
    ils_guard rfl rfl (.one rfl) rfl (by decide) (fun hb => (iop_load_ra (cs := [.bool _, .int _ _, .int _ _, .slice _ _, .slice _ _, .int _ _, .int _ _, .int _ _, .int _ _]) rfl rfl (by decide) Try.underlying27 ag27 ti27 (by decide) (sv (d := .ref _ _) rfl) rfl (nle rfl) rfl)) <|
    ils_guard rfl rfl (.one rfl) rfl (by decide) (fun hb => (iop_load_ra (cs := [.bool _, .int _ _, .int _ _, .slice _ _, .slice _ _, .int _ _, .int _ _, .int _ _, .int _ _]) rfl rfl (by decide) Try.underlying27 ag27 ti27 (by decide) (sv (d := .ref _ _) rfl) rfl (nle rfl) rfl)) <|
    ils_guard rfl rfl (.one rfl) rfl (by decide) (fun hb => (iop_call (r := .bool _) rfl rfl (by decide) cl27 (.cons (svc (d := .agg [.bool x6.1.Odd, .int .i64 x6.1.Next, .int .i64 x6.1.Last, .slice false (x6.1.Live.map (eInt .i64).d), .slice false (x6.1.Cut.map (eInt .i64).d), .int .i64 x6.1.Mine, .int .i64 x6.1.Hers, .int .i64 x6.1.Heard, .int .i64 x6.1.Told]) rfl hb) (.cons (svc (d := .agg [.bool x7.1.Odd, .int .i64 x7.1.Next, .int .i64 x7.1.Last, .slice false (x7.1.Live.map (eInt .i64).d), .slice false (x7.1.Cut.map (eInt .i64).d), .int .i64 x7.1.Mine, .int .i64 x7.1.Hers, .int .i64 x7.1.Heard, .int .i64 x7.1.Told]) rfl hb) .nil)) rfl (p_stid_Same _ _ _ (gd_t hx65 hb)))) <|
    ils_guard rfl rfl (.one rfl) rfl (by decide) (fun hb => (iop_not rfl rfl (by decide) (svc (d := .bool _) rfl hb))) <|
    ils_cons rfl (iop_andx rfl rfl (by decide) (sv (d := .bool _) rfl) rfl rfl hx66) <|
    ils_cons rfl (iop_move rfl rfl (by decide) (sv (d := .bool _) rfl)) <|
    ils_cons rfl (iop_pickc rfl rfl (by decide) (sv (d := .bool _) rfl) rfl rfl hx67) <|
    ils_cons rfl (iop_move rfl rfl (by decide) (sv (d := .bool _) rfl)) <|
    ils_cons rfl (iop_pickc rfl rfl (by decide) (sv (d := .bool _) rfl) rfl rfl hx68) <|
    ils_cons rfl (iop_move rfl rfl (by decide) (sv (d := .bool _) rfl)) <|
    ils_cons rfl (iop_pickc rfl rfl (by decide) (sv (d := .bool _) rfl) rfl rfl hx69) <|
    ils_cons rfl (iop_assign rfl rfl (by decide) (sv (d := .bool _) rfl)) <|
    ils_end ?_)
  refine iwp_ret ?_
  obtain rfl := Option.some.inj h
  refine ⟨.inr rfl, (.cons (sv rfl) .nil)⟩

set_option maxRecDepth 8000 in
set_option maxHeartbeats 2000000 in
theorem p_sennitlaw22_StidAway (a0 : Bool) (a1 : (List T_sennitlaw22_Act)) (a2 : T_anon70) (r : Bool) (h : sennitlaw22_StidAway a0 a1 a2 = some r) : PureAt Try.prog 5 [.bool a0, .slice false (a1.map E_sennitlaw22_Act.d), .agg [.int .u8 a2.c0, .int .u8 a2.c1]] (.bool r) := by
  refine pure_of_iwp (rs := [.bool r]) Try.func5 rfl Try.ntmps5 (nle rfl) rfl fun O hO => ?_
  show IWP _ _ _ _ ⟨[(0, .bool a0), (1, .slice false (a1.map E_sennitlaw22_Act.d)), (2, .agg [.int .u8 a2.c0, .int .u8 a2.c1])], []⟩ _
  unfold sennitlaw22_StidAway at h
  refine iwp_reg (ils_cons rfl (iop_box' (cs := [.int _ _, .int _ _]) 0 rfl rfl (by decide) rfl (sv (d := .agg [.int _ _, .int _ _]) rfl) rfl rfl) <|
    ils_cons rfl (iop_assign rfl rfl (by decide) (sv (d := .bool false) rfl)) <|
    ils_end ?_)
  refine iwp_seq ?_
  obtain ⟨x1, hx1, h⟩ := bnd_e h
  refine iwp_reg (ils_cons rfl (iop_move rfl rfl (by decide) (sv (d := .slice _ _) rfl)) <|
    ils_cons rfl (iop_lenT E_sennitlaw22_Act (l := a1) rfl rfl (by decide) Try.underlying58 (sv (d := .slice _ _) rfl)) <|
    ils_cons rfl (iop_cmpx rfl rfl (by decide) (sv (d := .int _ _) rfl) (sv (d := .int _ 60) rfl) rfl hx1) <|
    ils_end ?_)
  refine iwp_cond (b := _) rfl (fun hc2 => ?_) (fun hc2 => ?_)
  ·
    replace h := bif_t h hc2
    obtain ⟨x3, hx3, h⟩ := bno_e h
    refine iwp_reg (ils_cons rfl (iop_call (r := .bool _) rfl rfl (by decide) cl7 .nil rfl (p_sennitlaw22_awake  _ hx3)) <|
      ils_cons rfl (iop_assign rfl rfl (by decide) (sv (d := .bool _) rfl)) <|
      ils_end ?_)
    refine iwp_ret ?_
    refine thenQ_r ?_
    obtain rfl := Option.some.inj h
    refine ⟨.inr rfl, (.cons (sv rfl) .nil)⟩
  ·
    replace h := bif_f h hc2
    refine iwp_skip ?_
    refine thenQ_n ?_
    obtain ⟨x4, hx4, h⟩ := bno_e h
    refine iwp_reg (ils_cons rfl (iop_move rfl rfl (by decide) (sv (d := .bool _) rfl)) <|
      ils_cons rfl (iop_call (r := .tuple [.agg [.bool _, .int _ _, .int _ _, .slice _ _, .slice _ _, .int _ _, .int _ _, .int _ _, .int _ _], .int _ _]) rfl rfl (by decide) cl22 (.cons (sv (d := .bool _) rfl) (.cons (sv (d := .int _ 8) rfl) (.cons (sv (d := .int _ 5) rfl) .nil))) rfl (p_stid_New _ _ _ _ hx4)) <|
      ils_cons rfl (iop_move rfl rfl (by decide) (sv (d := .tuple [.agg [.bool _, .int _ _, .int _ _, .slice _ _, .slice _ _, .int _ _, .int _ _, .int _ _, .int _ _], .int _ _]) rfl)) <|
      ils_cons rfl (iop_extract (d := .agg [.bool _, .int _ _, .int _ _, .slice _ _, .slice _ _, .int _ _, .int _ _, .int _ _, .int _ _]) rfl rfl (by decide) (sv (d := .tuple [.agg [.bool _, .int _ _, .int _ _, .slice _ _, .slice _ _, .int _ _, .int _ _, .int _ _, .int _ _], .int _ _]) rfl) rfl) <|
      ils_cons rfl (iop_extract (d := .int _ _) rfl rfl (by decide) (sv (d := .tuple [.agg [.bool _, .int _ _, .int _ _, .slice _ _, .slice _ _, .int _ _, .int _ _, .int _ _, .int _ _], .int _ _]) rfl) rfl) <|
      ils_cons rfl (iop_allocS (cs := [.bool _, .int _ _, .int _ _, .nils, .nils, .int _ _, .int _ _, .int _ _, .int _ _]) (cs' := [.bool false, .int .i64 0, .int .i64 0, .slice false (([] : List Int).map (eInt .i64).d), .slice false (([] : List Int).map (eInt .i64).d), .int .i64 0, .int .i64 0, .int .i64 0, .int .i64 0]) 1 rfl rfl (by decide) rfl ti27 rfl rfl (.cons (.refl _) (.cons (.refl _) (.cons (.refl _) (.cons (.nils _) (.cons (.nils _) (.cons (.refl _) (.cons (.refl _) (.cons (.refl _) (.cons (.refl _) .nil)))))))))) <|
      ils_cons rfl (iop_store (ds' := [.bool _, .int _ _, .int _ _, .slice _ _, .slice _ _, .int _ _, .int _ _, .int _ _, .int _ _]) rfl rfl ti27 (sv (d := .ref _ _) rfl) rfl (sv (d := .agg [.bool _, .int _ _, .int _ _, .slice _ _, .slice _ _, .int _ _, .int _ _, .int _ _, .int _ _]) rfl) rfl rfl rfl (nle rfl) rfl) <|
      ils_cons rfl (iop_assign rfl rfl (by decide) (sv (d := .int _ _) rfl)) <|
      ils_end ?_)
    refine iwp_seq ?_
    obtain ⟨x5, hx5, h⟩ := bnd_e h
    refine iwp_reg (ils_cons rfl (iop_move rfl rfl (by decide) (sv (d := .int _ _) rfl)) <|
      ils_cons rfl (iop_cmpx rfl rfl (by decide) (sv (d := .int _ _) rfl) (sv (d := .int _ 0) rfl) rfl hx5) <|
      ils_end ?_)
    refine iwp_cond (b := _) rfl (fun hc6 => ?_) (fun hc6 => ?_)
    ·
      replace h := bif_t h hc6
      refine iwp_reg (ils_cons rfl (iop_assign rfl rfl (by decide) (sv (d := .bool false) rfl)) <|
        ils_end ?_)
      refine iwp_ret ?_
      refine thenQ_r ?_
      obtain rfl := Option.some.inj h
      refine ⟨.inr rfl, (.cons (sv rfl) .nil)⟩
    ·
      replace h := bif_f h hc6
      refine iwp_skip ?_
      refine thenQ_n ?_
      refine iwp_seq ?_
      refine iwp_reg (ils_cons rfl (iop_assign rfl rfl (by decide) (sv (d := .int _ 0) rfl)) <|
        ils_end ?_)
      refine iwp_block ?_
      refine iwp_loopP (α := Nat × Int × Bool × Int × Int × (List Int) × (List Int) × Int × Int × Int × Int) (fun z => ⟨[(1, .slice false (a1.map E_sennitlaw22_Act.d)), (5, .ref 0 0), (7, .ref 1 0), (9, .int .i64 z.2.1)], [(0, .blk 70 [.int .u8 a2.c0, .int .u8 a2.c1]), (1, .blk 27 [.bool z.2.2.1, .int .i64 z.2.2.2.1, .int .i64 z.2.2.2.2.1, .slice false (z.2.2.2.2.2.1.map (eInt .i64).d), .slice false (z.2.2.2.2.2.2.1.map (eInt .i64).d), .int .i64 z.2.2.2.2.2.2.2.1, .int .i64 z.2.2.2.2.2.2.2.2.1, .int .i64 z.2.2.2.2.2.2.2.2.2.1, .int .i64 z.2.2.2.2.2.2.2.2.2.2])]⟩) (fun z => sennitlaw22_StidAway_L0 a1 a2 z.1 z.2.1 z.2.2.1 z.2.2.2.1 z.2.2.2.2.1 z.2.2.2.2.2.1 z.2.2.2.2.2.2.1 z.2.2.2.2.2.2.2.1 z.2.2.2.2.2.2.2.2.1 z.2.2.2.2.2.2.2.2.2.1 z.2.2.2.2.2.2.2.2.2.2 = some r) (fun z => z.1) (fuel, 0, x4.1.Odd, x4.1.Next, x4.1.Last, x4.1.Live, x4.1.Cut, x4.1.Mine, x4.1.Hers, x4.1.Heard, x4.1.Told) (fun i => i) ⟨(.cons (.same rfl rfl) (.cons (.same rfl rfl) (.cons (.same rfl rfl) (.cons (.same rfl rfl) .nil)))), (.cons (.blk rfl rfl rfl) (.cons (.blk rfl rfl rfl) .nil)), nd_of [0, 1] rfl (by decide), (fun i hi => by first | rfl | (show (if _ then _ else _) = _; (repeat' split) <;> omega))⟩ ?_ ?_
      · exact h
      ·
        rintro ⟨n0, v28, v29, v30, v31, v32, v33, v34, v35, v36, v37⟩ h
        cases n0 with
        | zero => exact absurd h (by unfold sennitlaw22_StidAway_L0; exact nofun)
        | succ n0 =>
          unfold sennitlaw22_StidAway_L0 at h
          refine iwp_seq ?_
          obtain ⟨x59, hx59, h⟩ := bnd_e h
          refine iwp_reg (ils_cons rfl (iop_move rfl rfl (by decide) (sv (d := .int _ _) rfl)) <|
            ils_cons rfl (iop_move rfl rfl (by decide) (sv (d := .slice _ _) rfl)) <|
            ils_cons rfl (iop_lenT E_sennitlaw22_Act (l := a1) rfl rfl (by decide) Try.underlying58 (sv (d := .slice _ _) rfl)) <|
            ils_cons rfl (iop_cmpx rfl rfl (by decide) (sv (d := .int _ _) rfl) (sv (d := .int _ _) rfl) rfl hx59) <|
            ils_end ?_)
          refine iwp_cond (b := _) rfl (fun hc60 => ?_) (fun hc60 => ?_)
          ·
            replace h := bif_t h hc60
            refine iwp_skip ?_
            refine thenQ_n ?_
            refine iwp_seq ?_
            refine iwp_block ?_
            obtain ⟨x61, hx61, h⟩ := bno_e h
            obtain ⟨x62, hx62, h⟩ := bno_e h
            refine iwp_reg (ils_cons rfl (iop_move rfl rfl (by decide) (sv (d := .slice _ _) rfl)) <|
              ils_cons rfl (iop_move rfl rfl (by decide) (sv (d := .int _ _) rfl)) <|
              ils_cons rfl (iop_idxT E_sennitlaw22_Act (cs := [.int _ _, .int _ _]) rfl rfl (by decide) Try.underlying58 ti63 (sv (d := .slice _ _) rfl) (sv (d := .int _ _) rfl) hx61 rfl rfl) <|
              ils_cons rfl (iop_fieldAddr_fptr (cs' := [.int _ _]) rfl rfl (by decide) Try.underlying63 rfl ti5 (by decide) (sv (d := .fptr [.int _ _, .int _ _]) rfl) rfl) <|
              ils_cons rfl (iop_load_fs rfl rfl (by decide) Try.underlying5 ag5 ti5 (by decide) (sv (d := .fptr [.int _ _]) rfl) (nle rfl)) <|
              ils_cons rfl (iop_remx rfl rfl (by decide) (sv (d := .int _ _) rfl) (sv (d := .int _ 3) rfl) hx62) <|
              ils_end ?_)
            refine iwp_block ?_
            obtain ⟨x63, hx63, h⟩ := bnd_e h
            refine iwp_reg (ils_cons rfl (iop_cmpx rfl rfl (by decide) (sv (d := .int _ _) rfl) (sv (d := .int _ 0) rfl) rfl hx63) <|
              ils_cons rfl (iop_assign rfl rfl (by decide) (sv (d := .bool _) rfl)) <|
              ils_end ?_)
            refine iwp_cond (b := _) rfl (fun hc64 => ?_) (fun hc64 => ?_)
            ·
              replace h := bif_t h hc64
              obtain ⟨x65, hx65, h⟩ := bno_e h
              refine iwp_region (ils_cons rfl (iop_load_ra (cs := [.bool _, .int _ _, .int _ _, .slice _ _, .slice _ _, .int _ _, .int _ _, .int _ _, .int _ _]) rfl rfl (by decide) Try.underlying27 ag27 ti27 (by decide) (sv (d := .ref _ _) rfl) rfl (nle rfl) rfl) <|
                ils_cons rfl (iop_call (r := .tuple [.agg [.bool _, .int _ _, .int _ _, .slice _ _, .slice _ _, .int _ _, .int _ _, .int _ _, .int _ _], .int _ _, .int _ _]) rfl rfl (by decide) cl8 (.cons (sv (d := .agg [.bool _, .int _ _, .int _ _, .slice _ _, .slice _ _, .int _ _, .int _ _, .int _ _, .int _ _]) rfl) .nil) rfl (p_stid_Open _ _ hx65)) <|
                ils_cons rfl (iop_move rfl rfl (by decide) (sv (d := .tuple [.agg [.bool _, .int _ _, .int _ _, .slice _ _, .slice _ _, .int _ _, .int _ _, .int _ _, .int _ _], .int _ _, .int _ _]) rfl)) <|
                ils_cons rfl (iop_extract (d := .agg [.bool _, .int _ _, .int _ _, .slice _ _, .slice _ _, .int _ _, .int _ _, .int _ _, .int _ _]) rfl rfl (by decide) (sv (d := .tuple [.agg [.bool _, .int _ _, .int _ _, .slice _ _, .slice _ _, .int _ _, .int _ _, .int _ _, .int _ _], .int _ _, .int _ _]) rfl) rfl) <|
                ils_cons rfl (iop_extract (d := .int _ _) rfl rfl (by decide) (sv (d := .tuple [.agg [.bool _, .int _ _, .int _ _, .slice _ _, .slice _ _, .int _ _, .int _ _, .int _ _, .int _ _], .int _ _, .int _ _]) rfl) rfl) <|
                ils_cons rfl (iop_extract (d := .int _ _) rfl rfl (by decide) (sv (d := .tuple [.agg [.bool _, .int _ _, .int _ _, .slice _ _, .slice _ _, .int _ _, .int _ _, .int _ _, .int _ _], .int _ _, .int _ _]) rfl) rfl) <|
                ils_cons rfl (iop_store (ds' := [.bool _, .int _ _, .int _ _, .slice _ _, .slice _ _, .int _ _, .int _ _, .int _ _, .int _ _]) rfl rfl ti27 (sv (d := .ref _ _) rfl) rfl (sv (d := .agg [.bool _, .int _ _, .int _ _, .slice _ _, .slice _ _, .int _ _, .int _ _, .int _ _, .int _ _]) rfl) rfl rfl rfl (nle rfl) rfl) <|
                ils_nil ?_)
              refine blockQ_n ?_
              refine blockQ_n ?_
              refine thenQ_n ?_
              obtain ⟨x66, hx66, h⟩ := bnd_e h
              refine iwp_region (ils_cons rfl (iop_move rfl rfl (by decide) (sv (d := .int _ _) rfl)) <|
                ils_cons rfl (iop_intx rfl rfl (by decide) (sv (d := .int _ _) rfl) (sv (d := .int _ 1) rfl) rfl hx66) <|
                ils_cons rfl (iop_assign rfl rfl (by decide) (sv (d := .int _ _) rfl)) <|
                ils_nil ?_)
              refine thenQ_n ⟨(n0, x66, x65.1.Odd, x65.1.Next, x65.1.Last, x65.1.Live, x65.1.Cut, x65.1.Mine, x65.1.Hers, x65.1.Heard, x65.1.Told), (fun i => i), ⟨(.cons (.same rfl rfl) (.cons (.same rfl rfl) (.cons (.same rfl rfl) (.cons (.same rfl rfl) .nil)))), (.cons (.blk rfl rfl rfl) (.cons (.blk rfl rfl rfl) .nil)), nd_of [0, 1] rfl (by decide), (fun i hi => by first | rfl | (show (if _ then _ else _) = _; (repeat' split) <;> omega))⟩, ?_, ?_⟩
              exact h
              exact Nat.lt_succ_self _
            ·
              replace h := bif_f h hc64
              obtain ⟨x67, hx67, h⟩ := bnd_e h
              refine iwp_reg (ils_cons rfl (iop_cmpx rfl rfl (by decide) (sv (d := .int _ _) rfl) (sv (d := .int _ 1) rfl) rfl hx67) <|
                ils_cons rfl (iop_assign rfl rfl (by decide) (sv (d := .bool _) rfl)) <|
                ils_end ?_)
              refine iwp_cond (b := _) rfl (fun hc68 => ?_) (fun hc68 => ?_)
              ·
                replace h := bif_t h hc68
                obtain ⟨x69, hx69, h⟩ := bno_e h
                obtain ⟨x70, hx70, h⟩ := bnd_e h
                obtain ⟨x71, hx71, h⟩ := bno_e h
                refine iwp_draw rfl [⟨[7], [1], [(72, .agg [.bool v29, .int .i64 v30, .int .i64 v31, .slice false (v32.map (eInt .i64).d), .slice false (v33.map (eInt .i64).d), .int .i64 v34, .int .i64 v35, .int .i64 v36, .int .i64 v37])], []⟩,
                  ⟨[1], [], [(73, .slice false (a1.map E_sennitlaw22_Act.d))], []⟩,
                  ⟨[9], [], [(74, .int .i64 v28)], []⟩,
                  ⟨[73, 74], [], [(75, .fptr [.int .u8 x69.Kind, .int .u8 x69.ID])], []⟩,
                  ⟨[75], [], [(76, .fptr [.int .u8 x69.ID])], []⟩,
                  ⟨[76], [], [(77, .int .u8 x69.ID)], []⟩,
                  ⟨[77], [], [(78, .int .i64 x70)], []⟩,
                  ⟨[72, 78], [], [(79, .tuple [.agg [.bool x71.1.Odd, .int .i64 x71.1.Next, .int .i64 x71.1.Last, .slice false (x71.1.Live.map (eInt .i64).d), .slice false (x71.1.Cut.map (eInt .i64).d), .int .i64 x71.1.Mine, .int .i64 x71.1.Hers, .int .i64 x71.1.Heard, .int .i64 x71.1.Told], .agg [.int .i64 x71.2.Scope, .int .u32 x71.2.Code]])], []⟩,
                  ⟨[79], [], [(71, .tuple [.agg [.bool x71.1.Odd, .int .i64 x71.1.Next, .int .i64 x71.1.Last, .slice false (x71.1.Live.map (eInt .i64).d), .slice false (x71.1.Cut.map (eInt .i64).d), .int .i64 x71.1.Mine, .int .i64 x71.1.Hers, .int .i64 x71.1.Heard, .int .i64 x71.1.Told], .agg [.int .i64 x71.2.Scope, .int .u32 x71.2.Code]])], []⟩,
                  ⟨[71], [], [(80, .agg [.bool x71.1.Odd, .int .i64 x71.1.Next, .int .i64 x71.1.Last, .slice false (x71.1.Live.map (eInt .i64).d), .slice false (x71.1.Cut.map (eInt .i64).d), .int .i64 x71.1.Mine, .int .i64 x71.1.Hers, .int .i64 x71.1.Heard, .int .i64 x71.1.Told])], []⟩,
                  ⟨[71], [], [(81, .agg [.int .i64 x71.2.Scope, .int .u32 x71.2.Code])], []⟩,
                  ⟨[7, 80], [1], [], [(1, .blk 27 [.bool x71.1.Odd, .int .i64 x71.1.Next, .int .i64 x71.1.Last, .slice false (x71.1.Live.map (eInt .i64).d), .slice false (x71.1.Cut.map (eInt .i64).d), .int .i64 x71.1.Mine, .int .i64 x71.1.Hers, .int .i64 x71.1.Heard, .int .i64 x71.1.Told])]⟩] rfl ?_ (by kernel_rfl) ?_
                · refine .cons (lop rfl rfl fun S hA => (iop_load_ra (cs := [.bool _, .int _ _, .int _ _, .slice _ _, .slice _ _, .int _ _, .int _ _, .int _ _, .int _ _]) rfl rfl (by decide) Try.underlying27 ag27 ti27 (by decide) (sv (d := .ref _ _) (agr hA rfl rfl)) (agi hA rfl rfl) (nle rfl) rfl)) ?_
                  refine .cons (lop rfl rfl fun S hA => (iop_move rfl rfl (by decide) (sv (d := .slice _ _) (agr hA rfl rfl)))) ?_
                  refine .cons (lop rfl rfl fun S hA => (iop_move rfl rfl (by decide) (sv (d := .int _ _) (agr hA rfl rfl)))) ?_
                  refine .cons (lop rfl rfl fun S hA => (iop_idxT E_sennitlaw22_Act (cs := [.int _ _, .int _ _]) rfl rfl (by decide) Try.underlying58 ti63 (sv (d := .slice _ _) (agr hA rfl rfl)) (sv (d := .int _ _) (agr hA rfl rfl)) hx69 rfl rfl)) ?_
                  refine .cons (lop rfl rfl fun S hA => (iop_fieldAddr_fptr (cs' := [.int _ _]) rfl rfl (by decide) Try.underlying63 rfl ti5 (by decide) (sv (d := .fptr [.int _ _, .int _ _]) (agr hA rfl rfl)) rfl)) ?_
                  refine .cons (lop rfl rfl fun S hA => (iop_load_fs rfl rfl (by decide) Try.underlying5 ag5 ti5 (by decide) (sv (d := .fptr [.int _ _]) (agr hA rfl rfl)) (nle rfl))) ?_
                  refine .cons (lop rfl rfl fun S hA => (iop_int_conv rfl rfl (by decide) ⟨_, Try.underlying5⟩ Try.underlying3 (sv (d := .int _ _) (agr hA rfl rfl)) hx70)) ?_
                  refine .cons (lop rfl rfl fun S hA => (iop_call (r := .tuple [.agg [.bool _, .int _ _, .int _ _, .slice _ _, .slice _ _, .int _ _, .int _ _, .int _ _, .int _ _], .agg [.int _ _, .int _ _]]) rfl rfl (by decide) cl10 (.cons (sv (d := .agg [.bool _, .int _ _, .int _ _, .slice _ _, .slice _ _, .int _ _, .int _ _, .int _ _, .int _ _]) (agr hA rfl rfl)) (.cons (sv (d := .int _ _) (agr hA rfl rfl)) .nil)) rfl (p_stid_Begin _ _ _ hx71))) ?_
                  refine .cons (lop rfl rfl fun S hA => (iop_move rfl rfl (by decide) (sv (d := .tuple [.agg [.bool _, .int _ _, .int _ _, .slice _ _, .slice _ _, .int _ _, .int _ _, .int _ _, .int _ _], .agg [.int _ _, .int _ _]]) (agr hA rfl rfl)))) ?_
                  refine .cons (lop rfl rfl fun S hA => (iop_extract (d := .agg [.bool _, .int _ _, .int _ _, .slice _ _, .slice _ _, .int _ _, .int _ _, .int _ _, .int _ _]) rfl rfl (by decide) (sv (d := .tuple [.agg [.bool _, .int _ _, .int _ _, .slice _ _, .slice _ _, .int _ _, .int _ _, .int _ _, .int _ _], .agg [.int _ _, .int _ _]]) (agr hA rfl rfl)) rfl)) ?_
                  refine .cons (lop rfl rfl fun S hA => (iop_extract (d := .agg [.int _ _, .int _ _]) rfl rfl (by decide) (sv (d := .tuple [.agg [.bool _, .int _ _, .int _ _, .slice _ _, .slice _ _, .int _ _, .int _ _, .int _ _, .int _ _], .agg [.int _ _, .int _ _]]) (agr hA rfl rfl)) rfl)) ?_
                  refine .cons (lop rfl rfl fun S hA => (iop_store (ds' := [.bool _, .int _ _, .int _ _, .slice _ _, .slice _ _, .int _ _, .int _ _, .int _ _, .int _ _]) rfl rfl ti27 (sv (d := .ref _ _) (agr hA rfl rfl)) (agi hA rfl rfl) (sv (d := .agg [.bool _, .int _ _, .int _ _, .slice _ _, .slice _ _, .int _ _, .int _ _, .int _ _, .int _ _]) (agr hA rfl rfl)) rfl rfl rfl (nle rfl) rfl)) ?_
                  exact .nil
                refine blockQ_n ?_
                refine blockQ_n ?_
                refine thenQ_n ?_
                obtain ⟨x72, hx72, h⟩ := bnd_e h
                refine iwp_region (ils_cons rfl (iop_move rfl rfl (by decide) (sv (d := .int _ _) rfl)) <|
                  ils_cons rfl (iop_intx rfl rfl (by decide) (sv (d := .int _ _) rfl) (sv (d := .int _ 1) rfl) rfl hx72) <|
                  ils_cons rfl (iop_assign rfl rfl (by decide) (sv (d := .int _ _) rfl)) <|
                  ils_nil ?_)
                refine thenQ_n ⟨(n0, x72, x71.1.Odd, x71.1.Next, x71.1.Last, x71.1.Live, x71.1.Cut, x71.1.Mine, x71.1.Hers, x71.1.Heard, x71.1.Told), (fun i => i), ⟨(.cons (.same rfl rfl) (.cons (.same rfl rfl) (.cons (.same rfl rfl) (.cons (.same rfl rfl) .nil)))), (.cons (.blk rfl rfl rfl) (.cons (.blk rfl rfl rfl) .nil)), nd_of [0, 1] rfl (by decide), (fun i hi => by first | rfl | (show (if _ then _ else _) = _; (repeat' split) <;> omega))⟩, ?_, ?_⟩
                exact h
                exact Nat.lt_succ_self _
              ·
                replace h := bif_f h hc68
                obtain ⟨x73, hx73, h⟩ := bno_e h
                obtain ⟨x74, hx74, h⟩ := bnd_e h
                obtain ⟨x75, hx75, h⟩ := bno_e h
                obtain ⟨x76, hx76, h⟩ := bno_e h
                obtain ⟨x77, hx77, h⟩ := bnd_e h
                obtain ⟨x78, hx78, h⟩ := bno_e h
                refine iwp_draw rfl [⟨[7], [1], [(46, .agg [.bool v29, .int .i64 v30, .int .i64 v31, .slice false (v32.map (eInt .i64).d), .slice false (v33.map (eInt .i64).d), .int .i64 v34, .int .i64 v35, .int .i64 v36, .int .i64 v37])], []⟩,
                  ⟨[1], [], [(47, .slice false (a1.map E_sennitlaw22_Act.d))], []⟩,
                  ⟨[9], [], [(48, .int .i64 v28)], []⟩,
                  ⟨[47, 48], [], [(49, .fptr [.int .u8 x73.Kind, .int .u8 x73.ID])], []⟩,
                  ⟨[49], [], [(50, .fptr [.int .u8 x73.ID])], []⟩,
                  ⟨[50], [], [(51, .int .u8 x73.ID)], []⟩,
                  ⟨[51], [], [(52, .int .i64 x74)], []⟩,
                  ⟨[1], [], [(53, .slice false (a1.map E_sennitlaw22_Act.d))], []⟩,
                  ⟨[9], [], [(54, .int .i64 v28)], []⟩,
                  ⟨[53, 54], [], [(55, .fptr [.int .u8 x75.Kind, .int .u8 x75.ID])], []⟩,
                  ⟨[55], [], [(56, .fptr [.int .u8 x75.ID])], []⟩,
                  ⟨[56], [], [(57, .int .u8 x75.ID)], []⟩,
                  ⟨[57], [], [(58, .int .u8 x76)], []⟩,
                  ⟨[58], [], [(59, .bool x77)], []⟩,
                  ⟨[46, 52, 59], [], [(60, .agg [.bool x78.Odd, .int .i64 x78.Next, .int .i64 x78.Last, .slice false (x78.Live.map (eInt .i64).d), .slice false (x78.Cut.map (eInt .i64).d), .int .i64 x78.Mine, .int .i64 x78.Hers, .int .i64 x78.Heard, .int .i64 x78.Told])], []⟩,
                  ⟨[7, 60], [1], [], [(1, .blk 27 [.bool x78.Odd, .int .i64 x78.Next, .int .i64 x78.Last, .slice false (x78.Live.map (eInt .i64).d), .slice false (x78.Cut.map (eInt .i64).d), .int .i64 x78.Mine, .int .i64 x78.Hers, .int .i64 x78.Heard, .int .i64 x78.Told])]⟩] rfl ?_ (by kernel_rfl) ?_
                · refine .cons (lop rfl rfl fun S hA => (iop_load_ra (cs := [.bool _, .int _ _, .int _ _, .slice _ _, .slice _ _, .int _ _, .int _ _, .int _ _, .int _ _]) rfl rfl (by decide) Try.underlying27 ag27 ti27 (by decide) (sv (d := .ref _ _) (agr hA rfl rfl)) (agi hA rfl rfl) (nle rfl) rfl)) ?_
                  refine .cons (lop rfl rfl fun S hA => (iop_move rfl rfl (by decide) (sv (d := .slice _ _) (agr hA rfl rfl)))) ?_
                  refine .cons (lop rfl rfl fun S hA => (iop_move rfl rfl (by decide) (sv (d := .int _ _) (agr hA rfl rfl)))) ?_
                  refine .cons (lop rfl rfl fun S hA => (iop_idxT E_sennitlaw22_Act (cs := [.int _ _, .int _ _]) rfl rfl (by decide) Try.underlying58 ti63 (sv (d := .slice _ _) (agr hA rfl rfl)) (sv (d := .int _ _) (agr hA rfl rfl)) hx73 rfl rfl)) ?_
                  refine .cons (lop rfl rfl fun S hA => (iop_fieldAddr_fptr (cs' := [.int _ _]) rfl rfl (by decide) Try.underlying63 rfl ti5 (by decide) (sv (d := .fptr [.int _ _, .int _ _]) (agr hA rfl rfl)) rfl)) ?_
                  refine .cons (lop rfl rfl fun S hA => (iop_load_fs rfl rfl (by decide) Try.underlying5 ag5 ti5 (by decide) (sv (d := .fptr [.int _ _]) (agr hA rfl rfl)) (nle rfl))) ?_
                  refine .cons (lop rfl rfl fun S hA => (iop_int_conv rfl rfl (by decide) ⟨_, Try.underlying5⟩ Try.underlying3 (sv (d := .int _ _) (agr hA rfl rfl)) hx74)) ?_
                  refine .cons (lop rfl rfl fun S hA => (iop_move rfl rfl (by decide) (sv (d := .slice _ _) (agr hA rfl rfl)))) ?_
                  refine .cons (lop rfl rfl fun S hA => (iop_move rfl rfl (by decide) (sv (d := .int _ _) (agr hA rfl rfl)))) ?_
                  refine .cons (lop rfl rfl fun S hA => (iop_idxT E_sennitlaw22_Act (cs := [.int _ _, .int _ _]) rfl rfl (by decide) Try.underlying58 ti63 (sv (d := .slice _ _) (agr hA rfl rfl)) (sv (d := .int _ _) (agr hA rfl rfl)) hx75 rfl rfl)) ?_
                  refine .cons (lop rfl rfl fun S hA => (iop_fieldAddr_fptr (cs' := [.int _ _]) rfl rfl (by decide) Try.underlying63 rfl ti5 (by decide) (sv (d := .fptr [.int _ _, .int _ _]) (agr hA rfl rfl)) rfl)) ?_
                  refine .cons (lop rfl rfl fun S hA => (iop_load_fs rfl rfl (by decide) Try.underlying5 ag5 ti5 (by decide) (sv (d := .fptr [.int _ _]) (agr hA rfl rfl)) (nle rfl))) ?_
                  refine .cons (lop rfl rfl fun S hA => (iop_remx rfl rfl (by decide) (sv (d := .int _ _) (agr hA rfl rfl)) (sv (d := .int _ 4) rfl) hx76)) ?_
                  refine .cons (lop rfl rfl fun S hA => (iop_cmpx rfl rfl (by decide) (sv (d := .int _ _) (agr hA rfl rfl)) (sv (d := .int _ 2) rfl) rfl hx77)) ?_
                  refine .cons (lop rfl rfl fun S hA => (iop_call (r := .agg [.bool _, .int _ _, .int _ _, .slice _ _, .slice _ _, .int _ _, .int _ _, .int _ _, .int _ _]) rfl rfl (by decide) cl12 (.cons (sv (d := .agg [.bool _, .int _ _, .int _ _, .slice _ _, .slice _ _, .int _ _, .int _ _, .int _ _, .int _ _]) (agr hA rfl rfl)) (.cons (sv (d := .int _ _) (agr hA rfl rfl)) (.cons (sv (d := .bool _) (agr hA rfl rfl)) .nil))) rfl (p_stid_End _ _ _ _ hx78))) ?_
                  refine .cons (lop rfl rfl fun S hA => (iop_store (ds' := [.bool _, .int _ _, .int _ _, .slice _ _, .slice _ _, .int _ _, .int _ _, .int _ _, .int _ _]) rfl rfl ti27 (sv (d := .ref _ _) (agr hA rfl rfl)) (agi hA rfl rfl) (sv (d := .agg [.bool _, .int _ _, .int _ _, .slice _ _, .slice _ _, .int _ _, .int _ _, .int _ _, .int _ _]) (agr hA rfl rfl)) rfl rfl rfl (nle rfl) rfl)) ?_
                  exact .nil
                refine blockQ_n ?_
                refine blockQ_n ?_
                refine thenQ_n ?_
                obtain ⟨x79, hx79, h⟩ := bnd_e h
                refine iwp_region (ils_cons rfl (iop_move rfl rfl (by decide) (sv (d := .int _ _) rfl)) <|
                  ils_cons rfl (iop_intx rfl rfl (by decide) (sv (d := .int _ _) rfl) (sv (d := .int _ 1) rfl) rfl hx79) <|
                  ils_cons rfl (iop_assign rfl rfl (by decide) (sv (d := .int _ _) rfl)) <|
                  ils_nil ?_)
                refine thenQ_n ⟨(n0, x79, x78.Odd, x78.Next, x78.Last, x78.Live, x78.Cut, x78.Mine, x78.Hers, x78.Heard, x78.Told), (fun i => i), ⟨(.cons (.same rfl rfl) (.cons (.same rfl rfl) (.cons (.same rfl rfl) (.cons (.same rfl rfl) .nil)))), (.cons (.blk rfl rfl rfl) (.cons (.blk rfl rfl rfl) .nil)), nd_of [0, 1] rfl (by decide), (fun i hi => by first | rfl | (show (if _ then _ else _) = _; (repeat' split) <;> omega))⟩, ?_, ?_⟩
                exact h
                exact Nat.lt_succ_self _
          ·
            replace h := bif_f h hc60
            refine iwp_exit ?_
            refine thenQ_e ?_
            refine thenQ_e ?_
            refine blockQ_e ?_
            refine thenQ_n ?_
            obtain ⟨x80, hx80, h⟩ := bno_e h
            refine iwp_reg (ils_cons rfl (iop_load_ra (cs := [.bool _, .int _ _, .int _ _, .slice _ _, .slice _ _, .int _ _, .int _ _, .int _ _, .int _ _]) rfl rfl (by decide) Try.underlying27 ag27 ti27 (by decide) (sv (d := .ref _ _) rfl) rfl (nle rfl) rfl) <|
              ils_cons rfl (iop_call (r := .tuple [.int _ _, .int _ _]) rfl rfl (by decide) cl25 (.cons (sv (d := .agg [.bool _, .int _ _, .int _ _, .slice _ _, .slice _ _, .int _ _, .int _ _, .int _ _, .int _ _]) rfl) .nil) rfl (p_stid_Count _ _ hx80)) <|
              ils_cons rfl (iop_move rfl rfl (by decide) (sv (d := .tuple [.int _ _, .int _ _]) rfl)) <|
              ils_cons rfl (iop_extract (d := .int _ _) rfl rfl (by decide) (sv (d := .tuple [.int _ _, .int _ _]) rfl) rfl) <|
              ils_cons rfl (iop_extract (d := .int _ _) rfl rfl (by decide) (sv (d := .tuple [.int _ _, .int _ _]) rfl) rfl) <|
              ils_cons rfl (iop_assign rfl rfl (by decide) (sv (d := .int _ _) rfl)) <|
              ils_cons rfl (iop_assign rfl rfl (by decide) (sv (d := .int _ _) rfl)) <|
              ils_end ?_)
            obtain ⟨x81, hx81, h⟩ := bnd_e h
            obtain ⟨x82, hx82, h⟩ := bno_e h
            refine iwp_reg (ils_cons rfl (iop_load_ra (cs := [.bool _, .int _ _, .int _ _, .slice _ _, .slice _ _, .int _ _, .int _ _, .int _ _, .int _ _]) rfl rfl (by decide) Try.underlying27 ag27 ti27 (by decide) (sv (d := .ref _ _) rfl) rfl (nle rfl) rfl) <|
              ils_cons rfl (iop_index_ref rfl rfl (by decide) Try.underlying70 ti5 (sv (d := .ref _ _) rfl) (sv (d := .int _ 0) rfl) (by decide) (by decide) (off' := 0) rfl) <|
              ils_cons rfl (iop_load_rs (d := .int _ _) rfl rfl (by decide) Try.underlying5 ag5 ti5 (by decide) (sv (d := .ref _ _) rfl) rfl (nle rfl) rfl) <|
              ils_cons rfl (iop_int_conv rfl rfl (by decide) ⟨_, Try.underlying5⟩ Try.underlying3 (sv (d := .int _ _) rfl) hx81) <|
              ils_cons rfl (iop_call (r := .tuple [.agg [.bool _, .int _ _, .int _ _, .slice _ _, .slice _ _, .int _ _, .int _ _, .int _ _, .int _ _], .slice _ _, .bool _]) rfl rfl (by decide) cl14 (.cons (sv (d := .agg [.bool _, .int _ _, .int _ _, .slice _ _, .slice _ _, .int _ _, .int _ _, .int _ _, .int _ _]) rfl) (.cons (sv (d := .int _ _) rfl) .nil)) rfl (p_stid_Away _ _ _ hx82)) <|
              ils_cons rfl (iop_move rfl rfl (by decide) (sv (d := .tuple [.agg [.bool _, .int _ _, .int _ _, .slice _ _, .slice _ _, .int _ _, .int _ _, .int _ _, .int _ _], .slice _ _, .bool _]) rfl)) <|
              ils_cons rfl (iop_extract (d := .agg [.bool _, .int _ _, .int _ _, .slice _ _, .slice _ _, .int _ _, .int _ _, .int _ _, .int _ _]) rfl rfl (by decide) (sv (d := .tuple [.agg [.bool _, .int _ _, .int _ _, .slice _ _, .slice _ _, .int _ _, .int _ _, .int _ _, .int _ _], .slice _ _, .bool _]) rfl) rfl) <|
              ils_cons rfl (iop_extract (d := .slice _ _) rfl rfl (by decide) (sv (d := .tuple [.agg [.bool _, .int _ _, .int _ _, .slice _ _, .slice _ _, .int _ _, .int _ _, .int _ _, .int _ _], .slice _ _, .bool _]) rfl) rfl) <|
              ils_cons rfl (iop_extract (d := .bool _) rfl rfl (by decide) (sv (d := .tuple [.agg [.bool _, .int _ _, .int _ _, .slice _ _, .slice _ _, .int _ _, .int _ _, .int _ _, .int _ _], .slice _ _, .bool _]) rfl) rfl) <|
              ils_cons rfl (iop_allocS (cs := [.bool _, .int _ _, .int _ _, .nils, .nils, .int _ _, .int _ _, .int _ _, .int _ _]) (cs' := [.bool false, .int .i64 0, .int .i64 0, .slice false (([] : List Int).map (eInt .i64).d), .slice false (([] : List Int).map (eInt .i64).d), .int .i64 0, .int .i64 0, .int .i64 0, .int .i64 0]) 2 rfl rfl (by decide) rfl ti27 rfl rfl (.cons (.refl _) (.cons (.refl _) (.cons (.refl _) (.cons (.nils _) (.cons (.nils _) (.cons (.refl _) (.cons (.refl _) (.cons (.refl _) (.cons (.refl _) .nil)))))))))) <|
              ils_cons rfl (iop_store (ds' := [.bool _, .int _ _, .int _ _, .slice _ _, .slice _ _, .int _ _, .int _ _, .int _ _, .int _ _]) rfl rfl ti27 (sv (d := .ref _ _) rfl) rfl (sv (d := .agg [.bool _, .int _ _, .int _ _, .slice _ _, .slice _ _, .int _ _, .int _ _, .int _ _, .int _ _]) rfl) rfl rfl rfl (nle rfl) rfl) <|
              ils_cons rfl (iop_assign rfl rfl (by decide) (sv (d := .slice _ _) rfl)) <|
              ils_cons rfl (iop_assign rfl rfl (by decide) (sv (d := .bool _) rfl)) <|
              ils_end ?_)
            obtain ⟨x83, hx83, h⟩ := bnd_e h
            obtain ⟨x84, hx84, h⟩ := bno_e h
            refine iwp_reg (ils_cons rfl (iop_load_ra (cs := [.bool _, .int _ _, .int _ _, .slice _ _, .slice _ _, .int _ _, .int _ _, .int _ _, .int _ _]) rfl rfl (by decide) Try.underlying27 ag27 ti27 (by decide) (sv (d := .ref _ _) rfl) rfl (nle rfl) rfl) <|
              ils_cons rfl (iop_index_ref rfl rfl (by decide) Try.underlying70 ti5 (sv (d := .ref _ _) rfl) (sv (d := .int _ 1) rfl) (by decide) (by decide) (off' := 1) rfl) <|
              ils_cons rfl (iop_load_rs (d := .int _ _) rfl rfl (by decide) Try.underlying5 ag5 ti5 (by decide) (sv (d := .ref _ _) rfl) rfl (nle rfl) rfl) <|
              ils_cons rfl (iop_int_conv rfl rfl (by decide) ⟨_, Try.underlying5⟩ Try.underlying3 (sv (d := .int _ _) rfl) hx83) <|
              ils_cons rfl (iop_call (r := .tuple [.agg [.bool _, .int _ _, .int _ _, .slice _ _, .slice _ _, .int _ _, .int _ _, .int _ _, .int _ _], .slice _ _, .bool _]) rfl rfl (by decide) cl14 (.cons (sv (d := .agg [.bool _, .int _ _, .int _ _, .slice _ _, .slice _ _, .int _ _, .int _ _, .int _ _, .int _ _]) rfl) (.cons (sv (d := .int _ _) rfl) .nil)) rfl (p_stid_Away _ _ _ hx84)) <|
              ils_cons rfl (iop_move rfl rfl (by decide) (sv (d := .tuple [.agg [.bool _, .int _ _, .int _ _, .slice _ _, .slice _ _, .int _ _, .int _ _, .int _ _, .int _ _], .slice _ _, .bool _]) rfl)) <|
              ils_cons rfl (iop_extract (d := .agg [.bool _, .int _ _, .int _ _, .slice _ _, .slice _ _, .int _ _, .int _ _, .int _ _, .int _ _]) rfl rfl (by decide) (sv (d := .tuple [.agg [.bool _, .int _ _, .int _ _, .slice _ _, .slice _ _, .int _ _, .int _ _, .int _ _, .int _ _], .slice _ _, .bool _]) rfl) rfl) <|
              ils_cons rfl (iop_extract (d := .slice _ _) rfl rfl (by decide) (sv (d := .tuple [.agg [.bool _, .int _ _, .int _ _, .slice _ _, .slice _ _, .int _ _, .int _ _, .int _ _, .int _ _], .slice _ _, .bool _]) rfl) rfl) <|
              ils_cons rfl (iop_extract (d := .bool _) rfl rfl (by decide) (sv (d := .tuple [.agg [.bool _, .int _ _, .int _ _, .slice _ _, .slice _ _, .int _ _, .int _ _, .int _ _, .int _ _], .slice _ _, .bool _]) rfl) rfl) <|
              ils_cons rfl (iop_allocS (cs := [.bool _, .int _ _, .int _ _, .nils, .nils, .int _ _, .int _ _, .int _ _, .int _ _]) (cs' := [.bool false, .int .i64 0, .int .i64 0, .slice false (([] : List Int).map (eInt .i64).d), .slice false (([] : List Int).map (eInt .i64).d), .int .i64 0, .int .i64 0, .int .i64 0, .int .i64 0]) 3 rfl rfl (by decide) rfl ti27 rfl rfl (.cons (.refl _) (.cons (.refl _) (.cons (.refl _) (.cons (.nils _) (.cons (.nils _) (.cons (.refl _) (.cons (.refl _) (.cons (.refl _) (.cons (.refl _) .nil)))))))))) <|
              ils_cons rfl (iop_store (ds' := [.bool _, .int _ _, .int _ _, .slice _ _, .slice _ _, .int _ _, .int _ _, .int _ _, .int _ _]) rfl rfl ti27 (sv (d := .ref _ _) rfl) rfl (sv (d := .agg [.bool _, .int _ _, .int _ _, .slice _ _, .slice _ _, .int _ _, .int _ _, .int _ _, .int _ _]) rfl) rfl rfl rfl (nle rfl) rfl) <|
              ils_cons rfl (iop_assign rfl rfl (by decide) (sv (d := .slice _ _) rfl)) <|
              ils_cons rfl (iop_assign rfl rfl (by decide) (sv (d := .bool _) rfl)) <|
              ils_end ?_)
            obtain ⟨x85, hx85, h⟩ := bno_e h
            refine iwp_reg (ils_cons rfl (iop_load_ra (cs := [.bool _, .int _ _, .int _ _, .slice _ _, .slice _ _, .int _ _, .int _ _, .int _ _, .int _ _]) rfl rfl (by decide) Try.underlying27 ag27 ti27 (by decide) (sv (d := .ref _ _) rfl) rfl (nle rfl) rfl) <|
              ils_cons rfl (iop_call (r := .tuple [.int _ _, .int _ _]) rfl rfl (by decide) cl25 (.cons (sv (d := .agg [.bool _, .int _ _, .int _ _, .slice _ _, .slice _ _, .int _ _, .int _ _, .int _ _, .int _ _]) rfl) .nil) rfl (p_stid_Count _ _ hx85)) <|
              ils_cons rfl (iop_move rfl rfl (by decide) (sv (d := .tuple [.int _ _, .int _ _]) rfl)) <|
              ils_cons rfl (iop_extract (d := .int _ _) rfl rfl (by decide) (sv (d := .tuple [.int _ _, .int _ _]) rfl) rfl) <|
              ils_cons rfl (iop_extract (d := .int _ _) rfl rfl (by decide) (sv (d := .tuple [.int _ _, .int _ _]) rfl) rfl) <|
              ils_cons rfl (iop_assign rfl rfl (by decide) (sv (d := .int _ _) rfl)) <|
              ils_cons rfl (iop_assign rfl rfl (by decide) (sv (d := .int _ _) rfl)) <|
              ils_end ?_)
            obtain ⟨x86, hx86, h⟩ := bno_e h
            refine iwp_reg (ils_cons rfl (iop_load_ra (cs := [.bool _, .int _ _, .int _ _, .slice _ _, .slice _ _, .int _ _, .int _ _, .int _ _, .int _ _]) rfl rfl (by decide) Try.underlying27 ag27 ti27 (by decide) (sv (d := .ref _ _) rfl) rfl (nle rfl) rfl) <|
              ils_cons rfl (iop_call (r := .tuple [.int _ _, .int _ _]) rfl rfl (by decide) cl25 (.cons (sv (d := .agg [.bool _, .int _ _, .int _ _, .slice _ _, .slice _ _, .int _ _, .int _ _, .int _ _, .int _ _]) rfl) .nil) rfl (p_stid_Count _ _ hx86)) <|
              ils_cons rfl (iop_move rfl rfl (by decide) (sv (d := .tuple [.int _ _, .int _ _]) rfl)) <|
              ils_cons rfl (iop_extract (d := .int _ _) rfl rfl (by decide) (sv (d := .tuple [.int _ _, .int _ _]) rfl) rfl) <|
              ils_cons rfl (iop_extract (d := .int _ _) rfl rfl (by decide) (sv (d := .tuple [.int _ _, .int _ _]) rfl) rfl) <|
              ils_cons rfl (iop_assign rfl rfl (by decide) (sv (d := .int _ _) rfl)) <|
              ils_cons rfl (iop_assign rfl rfl (by decide) (sv (d := .int _ _) rfl)) <|
              ils_end ?_)
            refine iwp_seq ?_
            refine iwp_reg (ils_cons rfl (iop_assign rfl rfl (by decide) (sv (d := .int _ 0) rfl)) <|
              ils_end ?_)
            refine iwp_block ?_
            refine iwp_loopP (α := Nat × Int) (fun z => ⟨[(5, .ref 0 0), (11, .int .i64 x80.2), (12, .ref 2 0), (13, .slice false (x82.2.1.map (eInt .i64).d)), (14, .bool x82.2.2), (15, .ref 3 0), (16, .slice false (x84.2.1.map (eInt .i64).d)), (17, .bool x84.2.2), (18, .int .i64 x85.1), (19, .int .i64 x85.2), (20, .int .i64 x86.1), (22, .int .i64 z.2)], [(0, .blk 70 [.int .u8 a2.c0, .int .u8 a2.c1]), (2, .blk 27 [.bool x82.1.Odd, .int .i64 x82.1.Next, .int .i64 x82.1.Last, .slice false (x82.1.Live.map (eInt .i64).d), .slice false (x82.1.Cut.map (eInt .i64).d), .int .i64 x82.1.Mine, .int .i64 x82.1.Hers, .int .i64 x82.1.Heard, .int .i64 x82.1.Told]), (3, .blk 27 [.bool x84.1.Odd, .int .i64 x84.1.Next, .int .i64 x84.1.Last, .slice false (x84.1.Live.map (eInt .i64).d), .slice false (x84.1.Cut.map (eInt .i64).d), .int .i64 x84.1.Mine, .int .i64 x84.1.Hers, .int .i64 x84.1.Heard, .int .i64 x84.1.Told])]⟩) (fun z => sennitlaw22_StidAway_L1 a2 x80 x82 x84 x85 x86 z.1 z.2 = some r) (fun z => z.1) (fuel, 0) (fun i => i) ⟨(.cons (.same rfl rfl) (.cons (.same rfl rfl) (.cons (.same rfl rfl) (.cons (.same rfl rfl) (.cons (.same rfl rfl) (.cons (.same rfl rfl) (.cons (.same rfl rfl) (.cons (.same rfl rfl) (.cons (.same rfl rfl) (.cons (.same rfl rfl) (.cons (.same rfl rfl) (.cons (.same rfl rfl) .nil)))))))))))), (.cons (.blk rfl rfl rfl) (.cons (.blk rfl rfl rfl) (.cons (.blk rfl rfl rfl) .nil))), nd_of [0, 2, 3] rfl (by decide), (fun i hi => by first | rfl | (show (if _ then _ else _) = _; (repeat' split) <;> omega))⟩ ?_ ?_
            · exact h
            ·
              rintro ⟨n1, v97⟩ h
              cases n1 with
              | zero => exact absurd h (by unfold sennitlaw22_StidAway_L1; exact nofun)
              | succ n1 =>
                unfold sennitlaw22_StidAway_L1 at h
                refine iwp_seq ?_
                obtain ⟨x108, hx108, h⟩ := bnd_e h
                refine iwp_reg (ils_cons rfl (iop_move rfl rfl (by decide) (sv (d := .int _ _) rfl)) <|
                  ils_cons rfl (iop_fieldAddr_ref rfl rfl (by decide) Try.underlying27 rfl ti22 (by decide) (sv (d := .ref _ _) rfl) (off' := 3) rfl) <|
                  ils_cons rfl (iop_load_rs (d := .slice _ _) rfl rfl (by decide) Try.underlying22 ag22 ti22 (by decide) (sv (d := .ref _ _) rfl) rfl (nle rfl) rfl) <|
                  ils_cons rfl (iop_lenT (eInt .i64) (l := x82.1.Live) rfl rfl (by decide) Try.underlying22 (sv (d := .slice _ _) rfl)) <|
                  ils_cons rfl (iop_cmpx rfl rfl (by decide) (sv (d := .int _ _) rfl) (sv (d := .int _ _) rfl) rfl hx108) <|
                  ils_end ?_)
                refine iwp_cond (b := _) rfl (fun hc109 => ?_) (fun hc109 => ?_)
                ·
                  replace h := bif_t h hc109
                  refine iwp_skip ?_
                  refine thenQ_n ?_
                  refine iwp_seq ?_
                  refine iwp_block ?_
                  obtain ⟨x110, hx110, h⟩ := bno_e h
                  obtain ⟨x111, hx111, h⟩ := bno_e h
                  obtain ⟨x112, hx112, h⟩ := bno_e h
                  obtain ⟨x113, hx113, h⟩ := bnd_e h
                  obtain ⟨x114, hx114, h⟩ := bnd_e h
                  obtain ⟨x115, hx115, h⟩ := bnd_e h
                  refine iwp_drw rfl [⟨[12], [2], [(122, .agg [.bool x82.1.Odd, .int .i64 x82.1.Next, .int .i64 x82.1.Last, .slice false (x82.1.Live.map (eInt .i64).d), .slice false (x82.1.Cut.map (eInt .i64).d), .int .i64 x82.1.Mine, .int .i64 x82.1.Hers, .int .i64 x82.1.Heard, .int .i64 x82.1.Told])], []⟩,
                    ⟨[12], [], [(123, .ref 2 3)], []⟩,
                    ⟨[123], [2], [(124, .slice false (x82.1.Live.map (eInt .i64).d))], []⟩,
                    ⟨[22], [], [(125, .int .i64 v97)], []⟩,
                    ⟨[124, 125], [], [(126, .fptr [.int .i64 x110])], []⟩,
                    ⟨[126], [], [(127, .int .i64 x110)], []⟩,
                    ⟨[122, 127], [], [(128, .bool x111)], []⟩,
                    ⟨[128], [], [(129, .bool x111)], []⟩,
                    ⟨[12, 129], [], [(130, .cnd (x111 == true) (.ref 2 3))], []⟩,
                    ⟨[129, 130], [2], [(131, .cnd (x111 == true) (.slice false (x82.1.Live.map (eInt .i64).d)))], []⟩,
                    ⟨[22, 129], [], [(132, .cnd (x111 == true) (.int .i64 v97))], []⟩,
                    ⟨[129, 131, 132], [], [(133, .cnd (x111 == true) (.fptr [.int .i64 x112]))], []⟩,
                    ⟨[129, 133], [], [(134, .cnd (x111 == true) (.int .i64 x112))], []⟩,
                    ⟨[5, 129], [], [(135, .cnd (x111 == true) (.ref 0 0))], []⟩,
                    ⟨[129, 135], [0], [(136, .cnd (x111 == true) (.int .u8 a2.c0))], []⟩,
                    ⟨[129, 136], [], [(137, .cnd (x111 == true) (.int .i64 x113))], []⟩,
                    ⟨[129, 134, 137], [], [(138, .cnd (x111 == true) (.bool x114))], []⟩,
                    ⟨[129, 138], [], [(139, .bool x115)], []⟩] rfl ?_ (by kernel_rfl) ?_
                  · refine .cons (lop rfl rfl fun S hA => (iop_load_ra (cs := [.bool _, .int _ _, .int _ _, .slice _ _, .slice _ _, .int _ _, .int _ _, .int _ _, .int _ _]) rfl rfl (by decide) Try.underlying27 ag27 ti27 (by decide) (sv (d := .ref _ _) (agr hA rfl rfl)) (agi hA rfl rfl) (nle rfl) rfl)) ?_
                    refine .cons (lop rfl rfl fun S hA => (iop_fieldAddr_ref rfl rfl (by decide) Try.underlying27 rfl ti22 (by decide) (sv (d := .ref _ _) (agr hA rfl rfl)) (off' := 3) rfl)) ?_
                    refine .cons (lop rfl rfl fun S hA => (iop_load_rs (d := .slice _ _) rfl rfl (by decide) Try.underlying22 ag22 ti22 (by decide) (sv (d := .ref _ _) (agr hA rfl rfl)) (agi hA rfl rfl) (nle rfl) rfl)) ?_
                    refine .cons (lop rfl rfl fun S hA => (iop_move rfl rfl (by decide) (sv (d := .int _ _) (agr hA rfl rfl)))) ?_
                    refine .cons (lop rfl rfl fun S hA => (iop_idxT (eInt .i64) (cs := [.int _ _]) rfl rfl (by decide) Try.underlying22 ti3 (sv (d := .slice _ _) (agr hA rfl rfl)) (sv (d := .int _ _) (agr hA rfl rfl)) hx110 rfl rfl)) ?_
                    refine .cons (lop rfl rfl fun S hA => (iop_load_fs rfl rfl (by decide) Try.underlying3 ag3 ti3 (by decide) (sv (d := .fptr [.int _ _]) (agr hA rfl rfl)) (nle rfl))) ?_
                    refine .cons (lop rfl rfl fun S hA => (iop_call (r := .bool _) rfl rfl (by decide) cl24 (.cons (sv (d := .agg [.bool _, .int _ _, .int _ _, .slice _ _, .slice _ _, .int _ _, .int _ _, .int _ _, .int _ _]) (agr hA rfl rfl)) (.cons (sv (d := .int _ _) (agr hA rfl rfl)) .nil)) rfl (p_stid_Own _ _ _ hx111))) ?_
                    refine .cons (lop rfl rfl fun S hA => (iop_move rfl rfl (by decide) (sv (d := .bool _) (agr hA rfl rfl)))) ?_
                    refine .cons (lopg rfl rfl rfl rfl (by decide) (fun S hA => grd1 hA rfl rfl) (fun S hA hb => (iop_fieldAddr_ref rfl rfl (by decide) Try.underlying27 rfl ti22 (by decide) (sv (d := .ref _ _) (agr hA rfl rfl)) (off' := 3) rfl))) ?_
                    refine .cons (lopg rfl rfl rfl rfl (by decide) (fun S hA => grd1 hA rfl rfl) (fun S hA hb => (iop_load_rs (d := .slice _ _) rfl rfl (by decide) Try.underlying22 ag22 ti22 (by decide) (svc (d := .ref _ _) (agr hA rfl rfl) hb) (agi hA rfl rfl) (nle rfl) rfl))) ?_
                    refine .cons (lopg rfl rfl rfl rfl (by decide) (fun S hA => grd1 hA rfl rfl) (fun S hA hb => (iop_move rfl rfl (by decide) (sv (d := .int _ _) (agr hA rfl rfl))))) ?_
                    refine .cons (lopg rfl rfl rfl rfl (by decide) (fun S hA => grd1 hA rfl rfl) (fun S hA hb => (iop_idxT (eInt .i64) (cs := [.int _ _]) rfl rfl (by decide) Try.underlying22 ti3 (svc (d := .slice _ _) (agr hA rfl rfl) hb) (svc (d := .int _ _) (agr hA rfl rfl) hb) (gd_t hx112 hb) rfl rfl))) ?_
                    refine .cons (lopg rfl rfl rfl rfl (by decide) (fun S hA => grd1 hA rfl rfl) (fun S hA hb => (iop_load_fs rfl rfl (by decide) Try.underlying3 ag3 ti3 (by decide) (svc (d := .fptr [.int _ _]) (agr hA rfl rfl) hb) (nle rfl)))) ?_
                    refine .cons (lopg rfl rfl rfl rfl (by decide) (fun S hA => grd1 hA rfl rfl) (fun S hA hb => (iop_index_ref rfl rfl (by decide) Try.underlying70 ti5 (sv (d := .ref _ _) (agr hA rfl rfl)) (sv (d := .int _ 0) rfl) (by decide) (by decide) (off' := 0) rfl))) ?_
                    refine .cons (lopg rfl rfl rfl rfl (by decide) (fun S hA => grd1 hA rfl rfl) (fun S hA hb => (iop_load_rs (d := .int _ _) rfl rfl (by decide) Try.underlying5 ag5 ti5 (by decide) (svc (d := .ref _ _) (agr hA rfl rfl) hb) (agi hA rfl rfl) (nle rfl) rfl))) ?_
                    refine .cons (lopg rfl rfl rfl rfl (by decide) (fun S hA => grd1 hA rfl rfl) (fun S hA hb => (iop_int_conv rfl rfl (by decide) ⟨_, Try.underlying5⟩ Try.underlying3 (svc (d := .int _ _) (agr hA rfl rfl) hb) hx113))) ?_
                    refine .cons (lopg rfl rfl rfl rfl (by decide) (fun S hA => grd1 hA rfl rfl) (fun S hA hb => (iop_cmpx rfl rfl (by decide) (svc (d := .int _ _) (agr hA rfl rfl) hb) (svc (d := .int _ _) (agr hA rfl rfl) hb) rfl hx114))) ?_
                    refine .cons (lop rfl rfl fun S hA => (iop_andx rfl rfl (by decide) (sv (d := .bool _) (agr hA rfl rfl)) (agr hA rfl rfl) rfl hx115)) ?_
                    exact .nil
                  refine iwp_cond (b := _) rfl (fun hc116 => ?_) (fun hc116 => ?_)
                  ·
                    replace h := bif_t h hc116
                    refine iwp_reg (ils_cons rfl (iop_assign rfl rfl (by decide) (sv (d := .bool false) rfl)) <|
                      ils_end ?_)
                    refine iwp_ret ?_
                    refine blockQ_r ?_
                    refine thenQ_r ?_
                    refine thenQ_r ?_
                    refine blockQ_r ?_
                    refine thenQ_r ?_
                    obtain rfl := Option.some.inj h
                    refine ⟨.inr rfl, (.cons (sv rfl) .nil)⟩
                  ·
                    replace h := bif_f h hc116
                    refine iwp_skip ?_
                    refine blockQ_n ?_
                    refine thenQ_n ?_
                    obtain ⟨x117, hx117, h⟩ := bnd_e h
                    refine iwp_region (ils_cons rfl (iop_move rfl rfl (by decide) (sv (d := .int _ _) rfl)) <|
                      ils_cons rfl (iop_intx rfl rfl (by decide) (sv (d := .int _ _) rfl) (sv (d := .int _ 1) rfl) rfl hx117) <|
                      ils_cons rfl (iop_assign rfl rfl (by decide) (sv (d := .int _ _) rfl)) <|
                      ils_nil ?_)
                    refine thenQ_n ⟨(n1, x117), (fun i => i), ⟨(.cons (.same rfl rfl) (.cons (.same rfl rfl) (.cons (.same rfl rfl) (.cons (.same rfl rfl) (.cons (.same rfl rfl) (.cons (.same rfl rfl) (.cons (.same rfl rfl) (.cons (.same rfl rfl) (.cons (.same rfl rfl) (.cons (.same rfl rfl) (.cons (.same rfl rfl) (.cons (.same rfl rfl) .nil)))))))))))), (.cons (.blk rfl rfl rfl) (.cons (.blk rfl rfl rfl) (.cons (.blk rfl rfl rfl) .nil))), nd_of [0, 2, 3] rfl (by decide), (fun i hi => by first | rfl | (show (if _ then _ else _) = _; (repeat' split) <;> omega))⟩, ?_, ?_⟩
                    exact h
                    exact Nat.lt_succ_self _
                ·
                  replace h := bif_f h hc109
                  refine iwp_exit ?_
                  refine thenQ_e ?_
                  refine thenQ_e ?_
                  refine blockQ_e ?_
                  refine thenQ_n ?_
                  obtain ⟨x118, hx118, h⟩ := bnd_e h
                  obtain ⟨x119, hx119, h⟩ := bnd_e h
                  obtain ⟨x120, hx120, h⟩ := bnd_e h
                  obtain ⟨x121, hx121, h⟩ := bnd_e h
                  obtain ⟨x122, hx122, h⟩ := bnd_e h
                  obtain ⟨x123, hx123, h⟩ := bnd_e h
                  obtain ⟨x124, hx124, h⟩ := bnd_e h
                  obtain ⟨x125, hx125, h⟩ := bnd_e h
                  obtain ⟨x126, hx126, h⟩ := bnd_e h
                  obtain ⟨x127, hx127, h⟩ := bno_e h
                  obtain ⟨x128, hx128, h⟩ := bnd_e h
                  obtain ⟨x129, hx129, h⟩ := bnd_e h
                  obtain ⟨x130, hx130, h⟩ := bnd_e h
                  obtain ⟨x131, hx131, h⟩ := bno_e h
                  obtain ⟨x132, hx132, h⟩ := bnd_e h
                  obtain ⟨x133, hx133, h⟩ := bnd_e h
                  obtain ⟨x134, hx134, h⟩ := bno_e h
                  obtain ⟨x135, hx135, h⟩ := bnd_e h
                  refine iwp_reg (ils_cons rfl (iop_move rfl rfl (by decide) (sv (d := .bool _) rfl)) <|
                    ils_cons rfl (iop_move rfl rfl (by decide) (sv (d := .bool _) rfl)) <|
                    ils_guard rfl rfl (.one rfl) rfl (by decide) (fun hb => (iop_move rfl rfl (by decide) (sv (d := .bool _) rfl))) <|
                    ils_guard rfl rfl (.one rfl) rfl (by decide) (fun hb => (iop_index_ref rfl rfl (by decide) Try.underlying70 ti5 (sv (d := .ref _ _) rfl) (sv (d := .int _ 1) rfl) (by decide) (by decide) (off' := 1) rfl)) <|
                    ils_guard rfl rfl (.one rfl) rfl (by decide) (fun hb => (iop_load_rs (d := .int _ _) rfl rfl (by decide) Try.underlying5 ag5 ti5 (by decide) (svc (d := .ref _ _) rfl hb) rfl (nle rfl) rfl)) <|
                    ils_guard rfl rfl (.one rfl) rfl (by decide) (fun hb => (iop_index_ref rfl rfl (by decide) Try.underlying70 ti5 (sv (d := .ref _ _) rfl) (sv (d := .int _ 0) rfl) (by decide) (by decide) (off' := 0) rfl)) <|
                    ils_guard rfl rfl (.one rfl) rfl (by decide) (fun hb => (iop_load_rs (d := .int _ _) rfl rfl (by decide) Try.underlying5 ag5 ti5 (by decide) (svc (d := .ref _ _) rfl hb) rfl (nle rfl) rfl)) <|
                    ils_guard rfl rfl (.one rfl) rfl (by decide) (fun hb => (iop_cmpx rfl rfl (by decide) (svc (d := .int _ _) rfl hb) (svc (d := .int _ _) rfl hb) rfl hx118)) <|
                    ils_guard rfl rfl (.one rfl) rfl (by decide) (fun hb => (iop_eqbx rfl rfl (by decide) Try.underlying4 (svc (d := .bool _) rfl hb) (svc (d := .bool _) rfl hb) hx119)) <|
                    ils_cons rfl (iop_andx rfl rfl (by decide) (sv (d := .bool _) rfl) rfl rfl hx120) <|
                    ils_cons rfl (iop_move rfl rfl (by decide) (sv (d := .bool _) rfl)) <|
                    ils_guard rfl rfl (.one rfl) rfl (by decide) (fun hb => (iop_move rfl rfl (by decide) (sv (d := .int _ _) rfl))) <|
                    ils_guard rfl rfl (.one rfl) rfl (by decide) (fun hb => (iop_move rfl rfl (by decide) (sv (d := .int _ _) rfl))) <|
                    ils_guard rfl rfl (.one rfl) rfl (by decide) (fun hb => (iop_cmpx rfl rfl (by decide) (svc (d := .int _ _) rfl hb) (svc (d := .int _ _) rfl hb) rfl hx121)) <|
                    ils_cons rfl (iop_andx rfl rfl (by decide) (sv (d := .bool _) rfl) rfl rfl hx122) <|
                    ils_cons rfl (iop_move rfl rfl (by decide) (sv (d := .bool _) rfl)) <|
                    ils_guard rfl rfl (.one rfl) rfl (by decide) (fun hb => (iop_move rfl rfl (by decide) (sv (d := .int _ _) rfl))) <|
                    ils_guard rfl rfl (.one rfl) rfl (by decide) (fun hb => (iop_move rfl rfl (by decide) (sv (d := .slice _ _) rfl))) <|
                    ils_guard rfl rfl (.one rfl) rfl (by decide) (fun hb => (iop_lenT (eInt .i64) (l := x82.2.1) rfl rfl (by decide) Try.underlying22 (svc (d := .slice _ _) rfl hb))) <|
                    ils_guard rfl rfl (.one rfl) rfl (by decide) (fun hb => (iop_intx rfl rfl (by decide) (svc (d := .int _ _) rfl hb) (svc (d := .int _ _) rfl hb) rfl hx123)) <|
                    ils_guard rfl rfl (.one rfl) rfl (by decide) (fun hb => (iop_move rfl rfl (by decide) (sv (d := .int _ _) rfl))) <|
                    ils_guard rfl rfl (.one rfl) rfl (by decide) (fun hb => (iop_cmpx rfl rfl (by decide) (svc (d := .int _ _) rfl hb) (svc (d := .int _ _) rfl hb) rfl hx124)) <|
                    ils_cons rfl (iop_andx rfl rfl (by decide) (sv (d := .bool _) rfl) rfl rfl hx125) <|
                    ils_cons rfl (iop_move rfl rfl (by decide) (sv (d := .bool _) rfl)) <|
                    ils_guard rfl rfl (.one rfl) rfl (by decide) (fun hb => (iop_move rfl rfl (by decide) (sv (d := .bool _) rfl))) <|
                    ils_guard rfl rfl (.one rfl) rfl (by decide) (fun hb => (iop_move rfl rfl (by decide) (svc (d := .bool _) rfl hb))) <|
                    ils_guard rfl rfl (.two rfl) rfl (by decide) (fun hb => (iop_move rfl rfl (by decide) (sv (d := .slice _ _) rfl))) <|
                    ils_guard rfl rfl (.two rfl) rfl (by decide) (fun hb => (iop_lenT (eInt .i64) (l := x84.2.1) rfl rfl (by decide) Try.underlying22 (svc (d := .slice _ _) rfl hb))) <|
                    ils_guard rfl rfl (.two rfl) rfl (by decide) (fun hb => (iop_cmpx rfl rfl (by decide) (svc (d := .int _ _) rfl hb) (sv (d := .int _ 0) rfl) rfl hx126)) <|
                    ils_guard rfl rfl (.two rfl) rfl (by decide) (fun hb => (iop_move rfl rfl (by decide) (svc (d := .bool _) rfl hb))) <|
                    ils_guard rfl rfl (.two rfl) rfl (by decide) (fun hb => (iop_load_ra (cs := [.bool _, .int _ _, .int _ _, .slice _ _, .slice _ _, .int _ _, .int _ _, .int _ _, .int _ _]) rfl rfl (by decide) Try.underlying27 ag27 ti27 (by decide) (sv (d := .ref _ _) rfl) rfl (nle rfl) rfl)) <|
                    ils_guard rfl rfl (.two rfl) rfl (by decide) (fun hb => (iop_load_ra (cs := [.bool _, .int _ _, .int _ _, .slice _ _, .slice _ _, .int _ _, .int _ _, .int _ _, .int _ _]) rfl rfl (by decide) Try.underlying27 ag27 ti27 (by decide) (sv (d := .ref _ _) rfl) rfl (nle rfl) rfl)) <|
                    ils_guard rfl rfl (.two rfl) rfl (by decide) (fun hb => (iop_call (r := .bool _) rfl rfl (by decide) cl27 (.cons (svc (d := .agg [.bool x82.1.Odd, .int .i64 x82.1.Next, .int .i64 x82.1.Last, .slice false (x82.1.Live.map (eInt .i64).d), .slice false (x82.1.Cut.map (eInt .i64).d), .int .i64 x82.1.Mine, .int .i64 x82.1.Hers, .int .i64 x82.1.Heard, .int .i64 x82.1.Told]) rfl hb) (.cons (svc (d := .agg [.bool x84.1.Odd, .int .i64 x84.1.Next, .int .i64 x84.1.Last, .slice false (x84.1.Live.map (eInt .i64).d), .slice false (x84.1.Cut.map (eInt .i64).d), .int .i64 x84.1.Mine, .int .i64 x84.1.Hers, .int .i64 x84.1.Heard, .int .i64 x84.1.Told]) rfl hb) .nil)) rfl (p_stid_Same _ _ _ (gd_t hx127 hb)))) <|
                    ils_guard rfl rfl (.two rfl) rfl (by decide) (fun hb => (iop_and2x rfl rfl (by decide) hb (svc (d := .bool _) rfl hb) rfl rfl hx128)) <|
                    ils_guard rfl rfl (.one rfl) rfl (by decide) (fun hb => (iop_or2x rfl rfl (by decide) hb (svc (d := .bool _) rfl hb) rfl rfl hx129)) <|
                    ils_cons rfl (iop_andx rfl rfl (by decide) (sv (d := .bool _) rfl) rfl rfl hx130) <|
                    ils_cons rfl (iop_move rfl rfl (by decide) (sv (d := .bool _) rfl)) <|
                    ils_guard rfl rfl (.one rfl) rfl (by decide) (fun hb => (iop_load_ra (cs := [.bool _, .int _ _, .int _ _, .slice _ _, .slice _ _, .int _ _, .int _ _, .int _ _, .int _ _]) rfl rfl (by decide) Try.underlying27 ag27 ti27 (by decide) (sv (d := .ref _ _) rfl) rfl (nle rfl) rfl)) <|
                    ils_guard rfl rfl (.one rfl) rfl (by decide) (fun hb => (iop_call (r := .int _ _) rfl rfl (by decide) cl26 (.cons (svc (d := .agg [.bool x84.1.Odd, .int .i64 x84.1.Next, .int .i64 x84.1.Last, .slice false (x84.1.Live.map (eInt .i64).d), .slice false (x84.1.Cut.map (eInt .i64).d), .int .i64 x84.1.Mine, .int .i64 x84.1.Hers, .int .i64 x84.1.Heard, .int .i64 x84.1.Told]) rfl hb) .nil) rfl (p_stid_Check _ _ (gd_t hx131 hb)))) <|
                    ils_guard rfl rfl (.one rfl) rfl (by decide) (fun hb => (iop_cmpx rfl rfl (by decide) (svc (d := .int _ _) rfl hb) (sv (d := .int _ 0) rfl) rfl hx132)) <|
                    ils_cons rfl (iop_andx rfl rfl (by decide) (sv (d := .bool _) rfl) rfl rfl hx133) <|
                    ils_cons rfl (iop_move rfl rfl (by decide) (sv (d := .bool _) rfl)) <|
                    ils_guard rfl rfl (.one rfl) rfl (by decide) (fun hb => (iop_call (r := .bool _) rfl rfl (by decide) cl7 .nil rfl (p_sennitlaw22_awake  _ (gd_t hx134 hb)))) <|
                    ils_cons rfl (iop_andx rfl rfl (by decide) (sv (d := .bool _) rfl) rfl rfl hx135) <|
                    ils_cons rfl (iop_assign rfl rfl (by decide) (sv (d := .bool _) rfl)) <|
                    ils_end ?_)
                  refine iwp_ret ?_
                  obtain rfl := Option.some.inj h
                  refine ⟨.inr rfl, (.cons (sv rfl) .nil)⟩
end Go.Proofs.Ytalalambgppmpaa
