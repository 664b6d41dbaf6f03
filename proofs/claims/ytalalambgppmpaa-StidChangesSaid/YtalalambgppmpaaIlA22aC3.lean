/-
  A part of the proof: rules and plain facts. No condition.
-/
import Derived.Test.YtalalambgppmpaaProg
import Derived.KernelRfl
import Derived.Test.YtalalambgppmpaaIlTm
import Derived.Test.YtalalambgppmpaaIlA22aC2
set_option linter.all false
set_option linter.unusedSimpArgs false
set_option linter.unusedVariables false
open Go Go.IL Go.Fn Go.Proofs
namespace Go.Proofs.Ytalalambgppmpaa
theorem ti34 : TI Try.prog 34 (some (.int .u32 0)) 1 4 := by unfold TI; kernel_rfl
theorem ag34 : aggOf Try.prog 34 = false := by kernel_rfl
theorem st40 : Try.prog.stoodInHeld 40 = false ∧ Try.prog.eqGuardType Try.prog.depth 40 = false := ⟨by kernel_rfl, by kernel_rfl⟩
theorem cl6 : Callable Try.prog 6 := ⟨Try.f6, Try.func6, rfl, rfl⟩
theorem cl7 : Callable Try.prog 7 := ⟨Try.f7, Try.func7, rfl, rfl⟩
theorem cl9 : Callable Try.prog 9 := ⟨Try.f9, Try.func9, rfl, rfl⟩
theorem cl11 : Callable Try.prog 11 := ⟨Try.f11, Try.func11, rfl, rfl⟩
theorem cl13 : Callable Try.prog 13 := ⟨Try.f13, Try.func13, rfl, rfl⟩
theorem cl15 : Callable Try.prog 15 := ⟨Try.f15, Try.func15, rfl, rfl⟩
theorem cl17 : Callable Try.prog 17 := ⟨Try.f17, Try.func17, rfl, rfl⟩
theorem cl18 : Callable Try.prog 18 := ⟨Try.f18, Try.func18, rfl, rfl⟩
theorem cl19 : Callable Try.prog 19 := ⟨Try.f19, Try.func19, rfl, rfl⟩
theorem cl20 : Callable Try.prog 20 := ⟨Try.f20, Try.func20, rfl, rfl⟩

set_option maxRecDepth 8000 in
set_option maxHeartbeats 2000000 in
theorem p_sennitref22_Away (a0 : T_stid_State) (a1 : Int) (r : (T_stid_State × (List Int) × Bool)) (h : sennitref22_Away a0 a1 = some r) : PureAt Try.prog 15 [.agg [.bool a0.Odd, .int .i64 a0.Next, .int .i64 a0.Last, .slice false (a0.Live.map (eInt .i64).d), .slice false (a0.Cut.map (eInt .i64).d), .int .i64 a0.Mine, .int .i64 a0.Hers, .int .i64 a0.Heard, .int .i64 a0.Told], .int .i64 a1] (retD [.agg [.bool r.1.Odd, .int .i64 r.1.Next, .int .i64 r.1.Last, .slice false (r.1.Live.map (eInt .i64).d), .slice false (r.1.Cut.map (eInt .i64).d), .int .i64 r.1.Mine, .int .i64 r.1.Hers, .int .i64 r.1.Heard, .int .i64 r.1.Told], .slice false (r.2.1.map (eInt .i64).d), .bool r.2.2]) := by
  refine pure_of_iwp (rs := [.agg [.bool r.1.Odd, .int .i64 r.1.Next, .int .i64 r.1.Last, .slice false (r.1.Live.map (eInt .i64).d), .slice false (r.1.Cut.map (eInt .i64).d), .int .i64 r.1.Mine, .int .i64 r.1.Hers, .int .i64 r.1.Heard, .int .i64 r.1.Told], .slice false (r.2.1.map (eInt .i64).d), .bool r.2.2]) Try.func15 rfl Try.ntmps15 (nle rfl) rfl fun O hO => ?_
  show IWP _ _ _ _ ⟨[(0, .agg [.bool a0.Odd, .int .i64 a0.Next, .int .i64 a0.Last, .slice false (a0.Live.map (eInt .i64).d), .slice false (a0.Cut.map (eInt .i64).d), .int .i64 a0.Mine, .int .i64 a0.Hers, .int .i64 a0.Heard, .int .i64 a0.Told]), (1, .int .i64 a1)], []⟩ _
  unfold sennitref22_Away at h
  refine iwp_reg (ils_cons rfl (iop_box' (cs := [.bool _, .int _ _, .int _ _, .slice _ _, .slice _ _, .int _ _, .int _ _, .int _ _, .int _ _]) 0 rfl rfl (by decide) rfl (sv (d := .agg [.bool _, .int _ _, .int _ _, .slice _ _, .slice _ _, .int _ _, .int _ _, .int _ _, .int _ _]) rfl) rfl rfl) <|
    ils_cons rfl (iop_allocS (cs := [.bool _, .int _ _, .int _ _, .nils, .nils, .int _ _, .int _ _, .int _ _, .int _ _]) (cs' := [.bool false, .int .i64 0, .int .i64 0, .slice false (([] : List Int).map (eInt .i64).d), .slice false (([] : List Int).map (eInt .i64).d), .int .i64 0, .int .i64 0, .int .i64 0, .int .i64 0]) 1 rfl rfl (by decide) rfl ti24 rfl rfl (.cons (.refl _) (.cons (.refl _) (.cons (.refl _) (.cons (.nils _) (.cons (.nils _) (.cons (.refl _) (.cons (.refl _) (.cons (.refl _) (.cons (.refl _) .nil)))))))))) <|
    ils_cons rfl (iop_assign rfl rfl (by decide) (sv (d := .nils) rfl)) <|
    ils_cons rfl (iop_assign rfl rfl (by decide) (sv (d := .bool false) rfl)) <|
    ils_end ?_)
  refine iwp_seq ?_
  obtain ⟨x1, hx1, h⟩ := bno_e h
  obtain ⟨x2, hx2, h⟩ := bnd_e h
  obtain ⟨x3, hx3, h⟩ := bno_e h
  obtain ⟨x4, hx4, h⟩ := bnd_e h
  obtain ⟨x5, hx5, h⟩ := bnd_e h
  obtain ⟨x6, hx6, h⟩ := bnd_e h
  obtain ⟨x7, hx7, h⟩ := bnd_e h
  obtain ⟨x8, hx8, h⟩ := bnd_e h
  refine iwp_reg (ils_cons rfl (iop_load_ra (cs := [.bool _, .int _ _, .int _ _, .slice _ _, .slice _ _, .int _ _, .int _ _, .int _ _, .int _ _]) rfl rfl (by decide) Try.underlying24 ag24 ti24 (by decide) (sv (d := .ref _ _) rfl) rfl (nle rfl) rfl) <|
    ils_cons rfl (iop_call (r := .int _ _) rfl rfl (by decide) cl30 (.cons (sv (d := .agg [.bool _, .int _ _, .int _ _, .slice _ _, .slice _ _, .int _ _, .int _ _, .int _ _, .int _ _]) rfl) .nil) rfl (p_sennitref22_Check _ _ hx1)) <|
    ils_cons rfl (iop_cmpx rfl rfl (by decide) (sv (d := .int _ _) rfl) (sv (d := .int _ 0) rfl) rfl hx2) <|
    ils_cons rfl (iop_move rfl rfl (by decide) (sv (d := .bool _) rfl)) <|
    ils_guard rfl rfl (.one rfl) rfl (by decide) (fun hb => (iop_move rfl rfl (by decide) (sv (d := .int _ _) rfl))) <|
    ils_guard rfl rfl (.one rfl) rfl (by decide) (fun hb => (iop_call (r := .bool _) rfl rfl (by decide) cl38 (.cons (svc (d := .int _ _) rfl hb) (.cons (sv (d := .int _ 0) rfl) (.cons (sv (d := .int _ 1048576) rfl) .nil))) rfl (p_sennitref22_in _ _ _ _ (gd_t hx3 hb)))) <|
    ils_guard rfl rfl (.one rfl) rfl (by decide) (fun hb => (iop_not rfl rfl (by decide) (svc (d := .bool _) rfl hb))) <|
    ils_cons rfl (iop_orx rfl rfl (by decide) (sv (d := .bool _) rfl) rfl rfl hx4) <|
    ils_cons rfl (iop_move rfl rfl (by decide) (sv (d := .bool _) rfl)) <|
    ils_guard rfl rfl (.one rfl) rfl (by decide) (fun hb => (iop_fieldAddr_ref rfl rfl (by decide) Try.underlying24 rfl ti3 (by decide) (sv (d := .ref _ _) rfl) (off' := 7) rfl)) <|
    ils_guard rfl rfl (.one rfl) rfl (by decide) (fun hb => (iop_load_rs (d := .int _ _) rfl rfl (by decide) Try.underlying3 ag3 ti3 (by decide) (svc (d := .ref _ _) rfl hb) rfl (nle rfl) rfl)) <|
    ils_guard rfl rfl (.one rfl) rfl (by decide) (fun hb => (iop_cmpx rfl rfl (by decide) (svc (d := .int _ _) rfl hb) (sv (d := .int _ (-1)) rfl) rfl hx5)) <|
    ils_guard rfl rfl (.one rfl) rfl (by decide) (fun hb => (iop_move rfl rfl (by decide) (svc (d := .bool _) rfl hb))) <|
    ils_guard rfl rfl (.two rfl) rfl (by decide) (fun hb => (iop_move rfl rfl (by decide) (sv (d := .int _ _) rfl))) <|
    ils_guard rfl rfl (.two rfl) rfl (by decide) (fun hb => (iop_fieldAddr_ref rfl rfl (by decide) Try.underlying24 rfl ti3 (by decide) (sv (d := .ref _ _) rfl) (off' := 7) rfl)) <|
    ils_guard rfl rfl (.two rfl) rfl (by decide) (fun hb => (iop_load_rs (d := .int _ _) rfl rfl (by decide) Try.underlying3 ag3 ti3 (by decide) (svc (d := .ref _ _) rfl hb) rfl (nle rfl) rfl)) <|
    ils_guard rfl rfl (.two rfl) rfl (by decide) (fun hb => (iop_cmpx rfl rfl (by decide) (svc (d := .int _ _) rfl hb) (svc (d := .int _ _) rfl hb) rfl hx6)) <|
    ils_guard rfl rfl (.one rfl) rfl (by decide) (fun hb => (iop_and2x rfl rfl (by decide) hb (svc (d := .bool _) rfl hb) rfl rfl hx7)) <|
    ils_cons rfl (iop_orx rfl rfl (by decide) (sv (d := .bool _) rfl) rfl rfl hx8) <|
    ils_end ?_)
  refine iwp_cond (b := _) rfl (fun hc9 => ?_) (fun hc9 => ?_)
  ·
    replace h := bif_t h hc9
    refine iwp_reg (ils_cons rfl (iop_load_ra (cs := [.bool _, .int _ _, .int _ _, .slice _ _, .slice _ _, .int _ _, .int _ _, .int _ _, .int _ _]) rfl rfl (by decide) Try.underlying24 ag24 ti24 (by decide) (sv (d := .ref _ _) rfl) rfl (nle rfl) rfl) <|
      ils_cons rfl (iop_store (ds' := [.bool _, .int _ _, .int _ _, .slice _ _, .slice _ _, .int _ _, .int _ _, .int _ _, .int _ _]) rfl rfl ti24 (sv (d := .ref _ _) rfl) rfl (sv (d := .agg [.bool _, .int _ _, .int _ _, .slice _ _, .slice _ _, .int _ _, .int _ _, .int _ _, .int _ _]) rfl) rfl rfl rfl (nle rfl) rfl) <|
      ils_cons rfl (iop_assign rfl rfl (by decide) (sv (d := .nils) rfl)) <|
      ils_cons rfl (iop_assign rfl rfl (by decide) (sv (d := .bool false) rfl)) <|
      ils_end ?_)
    refine iwp_ret ?_
    refine thenQ_r ?_
    obtain rfl := Option.some.inj h
    refine ⟨.inr rfl, (.cons (resv_a rfl rfl Try.underlying24 ag24 ti24 (by decide) (nle rfl) rfl) (.cons (svn_of rfl rfl) (.cons (sv rfl) .nil)))⟩
  ·
    replace h := bif_f h hc9
    refine iwp_skip ?_
    refine thenQ_n ?_
    refine iwp_reg (ils_cons rfl (iop_move rfl rfl (by decide) (sv (d := .int _ _) rfl)) <|
      ils_cons rfl (iop_fieldAddr_ref rfl rfl (by decide) Try.underlying24 rfl ti3 (by decide) (sv (d := .ref _ _) rfl) (off' := 7) rfl) <|
      ils_cons rfl (iop_store (ds' := [.bool _, .int _ _, .int _ _, .slice _ _, .slice _ _, .int _ _, .int _ _, .int _ _, .int _ _]) rfl rfl ti3 (sv (d := .ref _ _) rfl) rfl (sv (d := .int _ _) rfl) rfl rfl rfl (nle rfl) rfl) <|
      ils_end ?_)
    refine iwp_reg (ils_cons rfl (iop_assign rfl rfl (by decide) (sv (d := .nils) rfl)) <|
      ils_end ?_)
    refine iwp_seq ?_
    refine iwp_reg (ils_cons rfl (iop_assign rfl rfl (by decide) (sv (d := .int _ 0) rfl)) <|
      ils_end ?_)
    refine iwp_block ?_
    refine iwp_loopP (α := Nat × (List Int) × Int) (fun z => ⟨[(1, .int .i64 a1), (2, .ref 0 0), (4, .ref 1 0), (7, .gsl 23 (eInt .i64).sz (z.2.1.map (eInt .i64).d)), (8, .int .i64 z.2.2)], [(0, .blk 24 [.bool a0.Odd, .int .i64 a0.Next, .int .i64 a0.Last, .slice false (a0.Live.map (eInt .i64).d), .slice false (a0.Cut.map (eInt .i64).d), .int .i64 a0.Mine, .int .i64 a0.Hers, .int .i64 a1, .int .i64 a0.Told]), (1, .blk 24 [.bool false, .int .i64 0, .int .i64 0, .slice false (([] : List Int).map (eInt .i64).d), .slice false (([] : List Int).map (eInt .i64).d), .int .i64 0, .int .i64 0, .int .i64 0, .int .i64 0]), (23, .tail 3 (eInt .i64).sz z.2.1.length)]⟩) (fun z => sennitref22_Away_L0 a0 a1 z.1 z.2.1 z.2.2 = some r) (fun z => z.1) (fuel, ([] : (List Int)), 0) (fun i => if i = 23 then 75 else i) ⟨(.cons (.same rfl rfl) (.cons (.same rfl rfl) (.cons (.same rfl rfl) (.cons (.nils rfl) (.cons (.same rfl rfl) .nil))))), (.cons (.blk rfl rfl rfl) (.cons (.blk rfl rfl rfl) (.cons (.nils rfl) .nil))), nd_of [0, 1, 75] rfl (by decide), (fun i hi => by first | rfl | (show (if _ then _ else _) = _; (repeat' split) <;> omega))⟩ ?_ ?_
    · exact h
    ·
      rintro ⟨n0, v22, v23⟩ h
      cases n0 with
      | zero => exact absurd h (by unfold sennitref22_Away_L0; exact nofun)
      | succ n0 =>
        unfold sennitref22_Away_L0 at h
        refine iwp_seq ?_
        obtain ⟨x36, hx36, h⟩ := bnd_e h
        refine iwp_reg (ils_cons rfl (iop_move rfl rfl (by decide) (sv (d := .int _ _) rfl)) <|
          ils_cons rfl (iop_fieldAddr_ref rfl rfl (by decide) Try.underlying24 rfl ti22 (by decide) (sv (d := .ref _ _) rfl) (off' := 3) rfl) <|
          ils_cons rfl (iop_load_rs (d := .slice _ _) rfl rfl (by decide) Try.underlying22 ag22 ti22 (by decide) (sv (d := .ref _ _) rfl) rfl (nle rfl) rfl) <|
          ils_cons rfl (iop_lenT (eInt .i64) (l := a0.Live) rfl rfl (by decide) Try.underlying22 (sv (d := .slice _ _) rfl)) <|
          ils_cons rfl (iop_cmpx rfl rfl (by decide) (sv (d := .int _ _) rfl) (sv (d := .int _ _) rfl) rfl hx36) <|
          ils_end ?_)
        refine iwp_cond (b := _) rfl (fun hc37 => ?_) (fun hc37 => ?_)
        ·
          replace h := bif_t h hc37
          refine iwp_skip ?_
          refine thenQ_n ?_
          refine iwp_seq ?_
          refine iwp_block ?_
          obtain ⟨x38, hx38, h⟩ := bno_e h
          obtain ⟨x39, hx39, h⟩ := bno_e h
          obtain ⟨x40, hx40, h⟩ := bno_e h
          obtain ⟨x41, hx41, h⟩ := bnd_e h
          obtain ⟨x42, hx42, h⟩ := bnd_e h
          refine iwp_drw rfl [⟨[2], [0], [(39, .agg [.bool a0.Odd, .int .i64 a0.Next, .int .i64 a0.Last, .slice false (a0.Live.map (eInt .i64).d), .slice false (a0.Cut.map (eInt .i64).d), .int .i64 a0.Mine, .int .i64 a0.Hers, .int .i64 a1, .int .i64 a0.Told])], []⟩,
            ⟨[2], [], [(40, .ref 0 3)], []⟩,
            ⟨[40], [0], [(41, .slice false (a0.Live.map (eInt .i64).d))], []⟩,
            ⟨[8], [], [(42, .int .i64 v23)], []⟩,
            ⟨[41, 42], [], [(43, .fptr [.int .i64 x38])], []⟩,
            ⟨[43], [], [(44, .int .i64 x38)], []⟩,
            ⟨[39, 44], [], [(45, .bool x39)], []⟩,
            ⟨[45], [], [(46, .bool x39)], []⟩,
            ⟨[2, 46], [], [(47, .cnd (x39 == true) (.ref 0 3))], []⟩,
            ⟨[46, 47], [0], [(48, .cnd (x39 == true) (.slice false (a0.Live.map (eInt .i64).d)))], []⟩,
            ⟨[8, 46], [], [(49, .cnd (x39 == true) (.int .i64 v23))], []⟩,
            ⟨[46, 48, 49], [], [(50, .cnd (x39 == true) (.fptr [.int .i64 x40]))], []⟩,
            ⟨[46, 50], [], [(51, .cnd (x39 == true) (.int .i64 x40))], []⟩,
            ⟨[1, 46], [], [(52, .cnd (x39 == true) (.int .i64 a1))], []⟩,
            ⟨[46, 51, 52], [], [(53, .cnd (x39 == true) (.bool x41))], []⟩,
            ⟨[46, 53], [], [(54, .bool x42)], []⟩] rfl ?_ (by kernel_rfl) ?_
          · refine .cons (lop rfl rfl fun S hA => (iop_load_ra (cs := [.bool _, .int _ _, .int _ _, .slice _ _, .slice _ _, .int _ _, .int _ _, .int _ _, .int _ _]) rfl rfl (by decide) Try.underlying24 ag24 ti24 (by decide) (sv (d := .ref _ _) (agr hA rfl rfl)) (agi hA rfl rfl) (nle rfl) rfl)) ?_
            refine .cons (lop rfl rfl fun S hA => (iop_fieldAddr_ref rfl rfl (by decide) Try.underlying24 rfl ti22 (by decide) (sv (d := .ref _ _) (agr hA rfl rfl)) (off' := 3) rfl)) ?_
            refine .cons (lop rfl rfl fun S hA => (iop_load_rs (d := .slice _ _) rfl rfl (by decide) Try.underlying22 ag22 ti22 (by decide) (sv (d := .ref _ _) (agr hA rfl rfl)) (agi hA rfl rfl) (nle rfl) rfl)) ?_
            refine .cons (lop rfl rfl fun S hA => (iop_move rfl rfl (by decide) (sv (d := .int _ _) (agr hA rfl rfl)))) ?_
            refine .cons (lop rfl rfl fun S hA => (iop_idxT (eInt .i64) (cs := [.int _ _]) rfl rfl (by decide) Try.underlying22 ti3 (sv (d := .slice _ _) (agr hA rfl rfl)) (sv (d := .int _ _) (agr hA rfl rfl)) hx38 rfl rfl)) ?_
            refine .cons (lop rfl rfl fun S hA => (iop_load_fs rfl rfl (by decide) Try.underlying3 ag3 ti3 (by decide) (sv (d := .fptr [.int _ _]) (agr hA rfl rfl)) (nle rfl))) ?_
            refine .cons (lop rfl rfl fun S hA => (iop_call (r := .bool _) rfl rfl (by decide) cl37 (.cons (sv (d := .agg [.bool _, .int _ _, .int _ _, .slice _ _, .slice _ _, .int _ _, .int _ _, .int _ _, .int _ _]) (agr hA rfl rfl)) (.cons (sv (d := .int _ _) (agr hA rfl rfl)) .nil)) rfl (p_sennitref22_Own _ _ _ hx39))) ?_
            refine .cons (lop rfl rfl fun S hA => (iop_move rfl rfl (by decide) (sv (d := .bool _) (agr hA rfl rfl)))) ?_
            refine .cons (lopg rfl rfl rfl rfl (by decide) (fun S hA => grd1 hA rfl rfl) (fun S hA hb => (iop_fieldAddr_ref rfl rfl (by decide) Try.underlying24 rfl ti22 (by decide) (sv (d := .ref _ _) (agr hA rfl rfl)) (off' := 3) rfl))) ?_
            refine .cons (lopg rfl rfl rfl rfl (by decide) (fun S hA => grd1 hA rfl rfl) (fun S hA hb => (iop_load_rs (d := .slice _ _) rfl rfl (by decide) Try.underlying22 ag22 ti22 (by decide) (svc (d := .ref _ _) (agr hA rfl rfl) hb) (agi hA rfl rfl) (nle rfl) rfl))) ?_
            refine .cons (lopg rfl rfl rfl rfl (by decide) (fun S hA => grd1 hA rfl rfl) (fun S hA hb => (iop_move rfl rfl (by decide) (sv (d := .int _ _) (agr hA rfl rfl))))) ?_
            refine .cons (lopg rfl rfl rfl rfl (by decide) (fun S hA => grd1 hA rfl rfl) (fun S hA hb => (iop_idxT (eInt .i64) (cs := [.int _ _]) rfl rfl (by decide) Try.underlying22 ti3 (svc (d := .slice _ _) (agr hA rfl rfl) hb) (svc (d := .int _ _) (agr hA rfl rfl) hb) (gd_t hx40 hb) rfl rfl))) ?_
            refine .cons (lopg rfl rfl rfl rfl (by decide) (fun S hA => grd1 hA rfl rfl) (fun S hA hb => (iop_load_fs rfl rfl (by decide) Try.underlying3 ag3 ti3 (by decide) (svc (d := .fptr [.int _ _]) (agr hA rfl rfl) hb) (nle rfl)))) ?_
            refine .cons (lopg rfl rfl rfl rfl (by decide) (fun S hA => grd1 hA rfl rfl) (fun S hA hb => (iop_move rfl rfl (by decide) (sv (d := .int _ _) (agr hA rfl rfl))))) ?_
            refine .cons (lopg rfl rfl rfl rfl (by decide) (fun S hA => grd1 hA rfl rfl) (fun S hA hb => (iop_cmpx rfl rfl (by decide) (svc (d := .int _ _) (agr hA rfl rfl) hb) (svc (d := .int _ _) (agr hA rfl rfl) hb) rfl hx41))) ?_
            refine .cons (lop rfl rfl fun S hA => (iop_andx rfl rfl (by decide) (sv (d := .bool _) (agr hA rfl rfl)) (agr hA rfl rfl) rfl hx42)) ?_
            exact .nil
          refine iwp_cond (b := _) rfl (fun hc43 => ?_) (fun hc43 => ?_)
          ·
            replace h := bif_t h hc43
            obtain ⟨x44, hx44, h⟩ := bno_e h
            obtain ⟨x45, hx45, h⟩ := bno_e h
            refine iwp_region (ils_cons rfl (iop_move rfl rfl (by decide) (sv (d := .gsl _ _ _) rfl)) <|
              ils_cons rfl (iop_fieldAddr_ref rfl rfl (by decide) Try.underlying24 rfl ti22 (by decide) (sv (d := .ref _ _) rfl) (off' := 3) rfl) <|
              ils_cons rfl (iop_load_rs (d := .slice _ _) rfl rfl (by decide) Try.underlying22 ag22 ti22 (by decide) (sv (d := .ref _ _) rfl) rfl (nle rfl) rfl) <|
              ils_cons rfl (iop_move rfl rfl (by decide) (sv (d := .int _ _) rfl)) <|
              ils_cons rfl (iop_idxT (eInt .i64) (cs := [.int _ _]) rfl rfl (by decide) Try.underlying22 ti3 (sv (d := .slice _ _) rfl) (sv (d := .int _ _) rfl) hx44 rfl rfl) <|
              ils_cons rfl (iop_load_fs rfl rfl (by decide) Try.underlying3 ag3 ti3 (by decide) (sv (d := .fptr [.int _ _]) rfl) (nle rfl)) <|
              ils_cons rfl (iop_bsT (eInt .i64) ([x44] : (List Int)) 24 rfl rfl (by decide) Try.underlying22 ti3 rfl (.cons (sv (d := .int _ _) rfl) .nil) rfl rfl (by decide)) <|
              ils_cons rfl (iop_appT (eInt .i64) 25 rfl rfl (by decide) Try.underlying22 ti3 rfl rfl rfl rfl (svg rfl) hx45) <|
              ils_cons rfl (iop_assign rfl rfl (by decide) (sv (d := .gsl _ _ _) rfl)) <|
              ils_nil ?_)
            refine blockQ_n ?_
            refine thenQ_n ?_
            obtain ⟨x46, hx46, h⟩ := bnd_e h
            refine iwp_region (ils_cons rfl (iop_move rfl rfl (by decide) (sv (d := .int _ _) rfl)) <|
              ils_cons rfl (iop_intx rfl rfl (by decide) (sv (d := .int _ _) rfl) (sv (d := .int _ 1) rfl) rfl hx46) <|
              ils_cons rfl (iop_assign rfl rfl (by decide) (sv (d := .int _ _) rfl)) <|
              ils_nil ?_)
            refine thenQ_n ⟨(n0, x45, x46), (fun i => if i = 23 then 25 else i), ⟨(.cons (.same rfl rfl) (.cons (.same rfl rfl) (.cons (.same rfl rfl) (.cons (.same rfl rfl) (.cons (.same rfl rfl) .nil))))), (.cons (.blk rfl rfl rfl) (.cons (.blk rfl rfl rfl) (.cons (.tail rfl) .nil))), nd_of [0, 1, 25] rfl (by decide), (fun i hi => by first | rfl | (show (if _ then _ else _) = _; (repeat' split) <;> omega))⟩, ?_, ?_⟩
            exact h
            exact Nat.lt_succ_self _
          ·
            replace h := bif_f h hc43
            refine iwp_skip ?_
            refine blockQ_n ?_
            refine thenQ_n ?_
            obtain ⟨x47, hx47, h⟩ := bnd_e h
            refine iwp_region (ils_cons rfl (iop_move rfl rfl (by decide) (sv (d := .int _ _) rfl)) <|
              ils_cons rfl (iop_intx rfl rfl (by decide) (sv (d := .int _ _) rfl) (sv (d := .int _ 1) rfl) rfl hx47) <|
              ils_cons rfl (iop_assign rfl rfl (by decide) (sv (d := .int _ _) rfl)) <|
              ils_nil ?_)
            refine thenQ_n ⟨(n0, v22, x47), (fun i => i), ⟨(.cons (.same rfl rfl) (.cons (.same rfl rfl) (.cons (.same rfl rfl) (.cons (.same rfl rfl) (.cons (.same rfl rfl) .nil))))), (.cons (.blk rfl rfl rfl) (.cons (.blk rfl rfl rfl) (.cons (.tail rfl) .nil))), nd_of [0, 1, 23] rfl (by decide), (fun i hi => by first | rfl | (show (if _ then _ else _) = _; (repeat' split) <;> omega))⟩, ?_, ?_⟩
            exact h
            exact Nat.lt_succ_self _
        ·
          replace h := bif_f h hc37
          refine iwp_exit ?_
          refine thenQ_e ?_
          refine thenQ_e ?_
          refine blockQ_e ?_
          refine thenQ_n ?_
          refine iwp_seq ?_
          refine iwp_reg (ils_cons rfl (iop_assign rfl rfl (by decide) (sv (d := .int _ 0) rfl)) <|
            ils_end ?_)
          refine iwp_block ?_
          refine iwp_loopP (α := Nat × Int × (List Int)) (fun z => ⟨[(2, .ref 0 0), (4, .ref 1 0), (7, .gsl 23 (eInt .i64).sz (v22.map (eInt .i64).d)), (9, .int .i64 z.2.1)], [(0, .blk 24 [.bool a0.Odd, .int .i64 a0.Next, .int .i64 a0.Last, .slice false (z.2.2.map (eInt .i64).d), .slice false (a0.Cut.map (eInt .i64).d), .int .i64 a0.Mine, .int .i64 a0.Hers, .int .i64 a1, .int .i64 a0.Told]), (1, .blk 24 [.bool false, .int .i64 0, .int .i64 0, .slice false (([] : List Int).map (eInt .i64).d), .slice false (([] : List Int).map (eInt .i64).d), .int .i64 0, .int .i64 0, .int .i64 0, .int .i64 0]), (23, .tail 3 (eInt .i64).sz v22.length)]⟩) (fun z => sennitref22_Away_L1 a0 a1 v22 z.1 z.2.1 z.2.2 = some r) (fun z => z.1) (fuel, 0, a0.Live) (fun i => i) ⟨(.cons (.same rfl rfl) (.cons (.same rfl rfl) (.cons (.same rfl rfl) (.cons (.same rfl rfl) .nil)))), (.cons (.blk rfl rfl rfl) (.cons (.blk rfl rfl rfl) (.cons (.tail rfl) .nil))), nd_of [0, 1, 23] rfl (by decide), (fun i hi => by first | rfl | (show (if _ then _ else _) = _; (repeat' split) <;> omega))⟩ ?_ ?_
          · exact h
          ·
            rintro ⟨n1, v53, v54⟩ h
            cases n1 with
            | zero => exact absurd h (by unfold sennitref22_Away_L1; exact nofun)
            | succ n1 =>
              unfold sennitref22_Away_L1 at h
              refine iwp_seq ?_
              obtain ⟨x60, hx60, h⟩ := bnd_e h
              refine iwp_reg (ils_cons rfl (iop_move rfl rfl (by decide) (sv (d := .int _ _) rfl)) <|
                ils_cons rfl (iop_move rfl rfl (by decide) (sv (d := .gsl _ _ _) rfl)) <|
                ils_cons rfl (iop_lenT (eInt .i64) (l := v22) rfl rfl (by decide) Try.underlying22 (svg rfl)) <|
                ils_cons rfl (iop_cmpx rfl rfl (by decide) (sv (d := .int _ _) rfl) (sv (d := .int _ _) rfl) rfl hx60) <|
                ils_end ?_)
              refine iwp_cond (b := _) rfl (fun hc61 => ?_) (fun hc61 => ?_)
              ·
                replace h := bif_t h hc61
                refine iwp_skip ?_
                refine thenQ_n ?_
                refine iwp_seq ?_
                refine iwp_block ?_
                obtain ⟨x62, hx62, h⟩ := bno_e h
                obtain ⟨x63, hx63, h⟩ := bno_e h
                refine iwp_draw rfl [⟨[2], [], [(69, .ref 0 3)], []⟩,
                  ⟨[69], [0], [(70, .slice false (v54.map (eInt .i64).d))], []⟩,
                  ⟨[7], [], [(71, .gsl 23 (eInt .i64).sz (v22.map (eInt .i64).d))], []⟩,
                  ⟨[9], [], [(72, .int .i64 v53)], []⟩,
                  ⟨[71, 72], [], [(73, .fptr [.int .i64 x62])], []⟩,
                  ⟨[73], [], [(74, .int .i64 x62)], []⟩,
                  ⟨[70, 74], [], [(75, .slice false (x63.map (eInt .i64).d))], []⟩,
                  ⟨[2], [], [(76, .ref 0 3)], []⟩,
                  ⟨[75, 76], [0], [], [(0, .blk 24 [.bool a0.Odd, .int .i64 a0.Next, .int .i64 a0.Last, .slice false (x63.map (eInt .i64).d), .slice false (a0.Cut.map (eInt .i64).d), .int .i64 a0.Mine, .int .i64 a0.Hers, .int .i64 a1, .int .i64 a0.Told])]⟩] rfl ?_ (by kernel_rfl) ?_
                · refine .cons (lop rfl rfl fun S hA => (iop_fieldAddr_ref rfl rfl (by decide) Try.underlying24 rfl ti22 (by decide) (sv (d := .ref _ _) (agr hA rfl rfl)) (off' := 3) rfl)) ?_
                  refine .cons (lop rfl rfl fun S hA => (iop_load_rs (d := .slice _ _) rfl rfl (by decide) Try.underlying22 ag22 ti22 (by decide) (sv (d := .ref _ _) (agr hA rfl rfl)) (agi hA rfl rfl) (nle rfl) rfl)) ?_
                  refine .cons (lop rfl rfl fun S hA => (iop_move rfl rfl (by decide) (sv (d := .gsl _ _ _) (agr hA rfl rfl)))) ?_
                  refine .cons (lop rfl rfl fun S hA => (iop_move rfl rfl (by decide) (sv (d := .int _ _) (agr hA rfl rfl)))) ?_
                  refine .cons (lop rfl rfl fun S hA => (iop_idxT (eInt .i64) (cs := [.int _ _]) rfl rfl (by decide) Try.underlying22 ti3 (svg (agr hA rfl rfl)) (sv (d := .int _ _) (agr hA rfl rfl)) hx62 rfl rfl)) ?_
                  refine .cons (lop rfl rfl fun S hA => (iop_load_fs rfl rfl (by decide) Try.underlying3 ag3 ti3 (by decide) (sv (d := .fptr [.int _ _]) (agr hA rfl rfl)) (nle rfl))) ?_
                  refine .cons (lop rfl rfl fun S hA => (iop_call (r := .slice _ _) rfl rfl (by decide) cl43 (.cons (sv (d := .slice _ _) (agr hA rfl rfl)) (.cons (sv (d := .int _ _) (agr hA rfl rfl)) .nil)) rfl (p_sennitref22_off _ _ _ hx63))) ?_
                  refine .cons (lop rfl rfl fun S hA => (iop_fieldAddr_ref rfl rfl (by decide) Try.underlying24 rfl ti22 (by decide) (sv (d := .ref _ _) (agr hA rfl rfl)) (off' := 3) rfl)) ?_
                  refine .cons (lop rfl rfl fun S hA => (iop_store (ds' := [.bool _, .int _ _, .int _ _, .slice _ _, .slice _ _, .int _ _, .int _ _, .int _ _, .int _ _]) rfl rfl ti22 (sv (d := .ref _ _) (agr hA rfl rfl)) (agi hA rfl rfl) (sv (d := .slice _ _) (agr hA rfl rfl)) rfl rfl rfl (nle rfl) rfl)) ?_
                  exact .nil
                refine blockQ_n ?_
                refine thenQ_n ?_
                obtain ⟨x64, hx64, h⟩ := bnd_e h
                refine iwp_region (ils_cons rfl (iop_move rfl rfl (by decide) (sv (d := .int _ _) rfl)) <|
                  ils_cons rfl (iop_intx rfl rfl (by decide) (sv (d := .int _ _) rfl) (sv (d := .int _ 1) rfl) rfl hx64) <|
                  ils_cons rfl (iop_assign rfl rfl (by decide) (sv (d := .int _ _) rfl)) <|
                  ils_nil ?_)
                refine thenQ_n ⟨(n1, x64, x63), (fun i => i), ⟨(.cons (.same rfl rfl) (.cons (.same rfl rfl) (.cons (.same rfl rfl) (.cons (.same rfl rfl) .nil)))), (.cons (.blk rfl rfl rfl) (.cons (.blk rfl rfl rfl) (.cons (.tail rfl) .nil))), nd_of [0, 1, 23] rfl (by decide), (fun i hi => by first | rfl | (show (if _ then _ else _) = _; (repeat' split) <;> omega))⟩, ?_, ?_⟩
                exact h
                exact Nat.lt_succ_self _
              ·
                replace h := bif_f h hc61
                refine iwp_exit ?_
                refine thenQ_e ?_
                refine thenQ_e ?_
                refine blockQ_e ?_
                refine thenQ_n ?_
                refine iwp_reg (ils_cons rfl (iop_load_ra (cs := [.bool _, .int _ _, .int _ _, .slice _ _, .slice _ _, .int _ _, .int _ _, .int _ _, .int _ _]) rfl rfl (by decide) Try.underlying24 ag24 ti24 (by decide) (sv (d := .ref _ _) rfl) rfl (nle rfl) rfl) <|
                  ils_cons rfl (iop_move rfl rfl (by decide) (sv (d := .gsl _ _ _) rfl)) <|
                  ils_cons rfl (iop_store (ds' := [.bool _, .int _ _, .int _ _, .slice _ _, .slice _ _, .int _ _, .int _ _, .int _ _, .int _ _]) rfl rfl ti24 (sv (d := .ref _ _) rfl) rfl (sv (d := .agg [.bool _, .int _ _, .int _ _, .slice _ _, .slice _ _, .int _ _, .int _ _, .int _ _, .int _ _]) rfl) rfl rfl rfl (nle rfl) rfl) <|
                  ils_cons rfl (iop_assign rfl rfl (by decide) (sv (d := .gsl _ _ _) rfl)) <|
                  ils_cons rfl (iop_assign rfl rfl (by decide) (sv (d := .bool true) rfl)) <|
                  ils_end ?_)
                refine iwp_ret ?_
                obtain rfl := Option.some.inj h
                refine ⟨.inr rfl, (.cons (resv_a rfl rfl Try.underlying24 ag24 ti24 (by decide) (nle rfl) rfl) (.cons (svg_of rfl rfl) (.cons (sv rfl) .nil)))⟩

set_option maxRecDepth 8000 in
set_option maxHeartbeats 2000000 in
theorem p_sennitref22_Shut (a0 : T_stid_State) (r : (T_stid_State × Int)) (h : sennitref22_Shut a0 = some r) : PureAt Try.prog 17 [.agg [.bool a0.Odd, .int .i64 a0.Next, .int .i64 a0.Last, .slice false (a0.Live.map (eInt .i64).d), .slice false (a0.Cut.map (eInt .i64).d), .int .i64 a0.Mine, .int .i64 a0.Hers, .int .i64 a0.Heard, .int .i64 a0.Told]] (retD [.agg [.bool r.1.Odd, .int .i64 r.1.Next, .int .i64 r.1.Last, .slice false (r.1.Live.map (eInt .i64).d), .slice false (r.1.Cut.map (eInt .i64).d), .int .i64 r.1.Mine, .int .i64 r.1.Hers, .int .i64 r.1.Heard, .int .i64 r.1.Told], .int .i64 r.2]) := by
  refine pure_of_iwp (rs := [.agg [.bool r.1.Odd, .int .i64 r.1.Next, .int .i64 r.1.Last, .slice false (r.1.Live.map (eInt .i64).d), .slice false (r.1.Cut.map (eInt .i64).d), .int .i64 r.1.Mine, .int .i64 r.1.Hers, .int .i64 r.1.Heard, .int .i64 r.1.Told], .int .i64 r.2]) Try.func17 rfl Try.ntmps17 (nle rfl) rfl fun O hO => ?_
  show IWP _ _ _ _ ⟨[(0, .agg [.bool a0.Odd, .int .i64 a0.Next, .int .i64 a0.Last, .slice false (a0.Live.map (eInt .i64).d), .slice false (a0.Cut.map (eInt .i64).d), .int .i64 a0.Mine, .int .i64 a0.Hers, .int .i64 a0.Heard, .int .i64 a0.Told])], []⟩ _
  unfold sennitref22_Shut at h
  refine iwp_reg (ils_cons rfl (iop_box' (cs := [.bool _, .int _ _, .int _ _, .slice _ _, .slice _ _, .int _ _, .int _ _, .int _ _, .int _ _]) 0 rfl rfl (by decide) rfl (sv (d := .agg [.bool _, .int _ _, .int _ _, .slice _ _, .slice _ _, .int _ _, .int _ _, .int _ _, .int _ _]) rfl) rfl rfl) <|
    ils_cons rfl (iop_allocS (cs := [.bool _, .int _ _, .int _ _, .nils, .nils, .int _ _, .int _ _, .int _ _, .int _ _]) (cs' := [.bool false, .int .i64 0, .int .i64 0, .slice false (([] : List Int).map (eInt .i64).d), .slice false (([] : List Int).map (eInt .i64).d), .int .i64 0, .int .i64 0, .int .i64 0, .int .i64 0]) 1 rfl rfl (by decide) rfl ti24 rfl rfl (.cons (.refl _) (.cons (.refl _) (.cons (.refl _) (.cons (.nils _) (.cons (.nils _) (.cons (.refl _) (.cons (.refl _) (.cons (.refl _) (.cons (.refl _) .nil)))))))))) <|
    ils_cons rfl (iop_assign rfl rfl (by decide) (sv (d := .int _ 0) rfl)) <|
    ils_end ?_)
  refine iwp_seq ?_
  obtain ⟨x1, hx1, h⟩ := bno_e h
  obtain ⟨x2, hx2, h⟩ := bnd_e h
  refine iwp_reg (ils_cons rfl (iop_load_ra (cs := [.bool _, .int _ _, .int _ _, .slice _ _, .slice _ _, .int _ _, .int _ _, .int _ _, .int _ _]) rfl rfl (by decide) Try.underlying24 ag24 ti24 (by decide) (sv (d := .ref _ _) rfl) rfl (nle rfl) rfl) <|
    ils_cons rfl (iop_call (r := .int _ _) rfl rfl (by decide) cl30 (.cons (sv (d := .agg [.bool _, .int _ _, .int _ _, .slice _ _, .slice _ _, .int _ _, .int _ _, .int _ _, .int _ _]) rfl) .nil) rfl (p_sennitref22_Check _ _ hx1)) <|
    ils_cons rfl (iop_cmpx rfl rfl (by decide) (sv (d := .int _ _) rfl) (sv (d := .int _ 0) rfl) rfl hx2) <|
    ils_end ?_)
  refine iwp_cond (b := _) rfl (fun hc3 => ?_) (fun hc3 => ?_)
  ·
    replace h := bif_t h hc3
    refine iwp_reg (ils_cons rfl (iop_load_ra (cs := [.bool _, .int _ _, .int _ _, .slice _ _, .slice _ _, .int _ _, .int _ _, .int _ _, .int _ _]) rfl rfl (by decide) Try.underlying24 ag24 ti24 (by decide) (sv (d := .ref _ _) rfl) rfl (nle rfl) rfl) <|
      ils_cons rfl (iop_store (ds' := [.bool _, .int _ _, .int _ _, .slice _ _, .slice _ _, .int _ _, .int _ _, .int _ _, .int _ _]) rfl rfl ti24 (sv (d := .ref _ _) rfl) rfl (sv (d := .agg [.bool _, .int _ _, .int _ _, .slice _ _, .slice _ _, .int _ _, .int _ _, .int _ _, .int _ _]) rfl) rfl rfl rfl (nle rfl) rfl) <|
      ils_cons rfl (iop_assign rfl rfl (by decide) (sv (d := .int _ (-1)) rfl)) <|
      ils_end ?_)
    refine iwp_ret ?_
    refine thenQ_r ?_
    obtain rfl := Option.some.inj h
    refine ⟨.inr rfl, (.cons (resv_a rfl rfl Try.underlying24 ag24 ti24 (by decide) (nle rfl) rfl) (.cons (sv rfl) .nil))⟩
  ·
    replace h := bif_f h hc3
    refine iwp_skip ?_
    refine thenQ_n ?_
    refine iwp_join (α := Int) (fun z => ⟨[(1, .ref 0 0), (2, .ref 1 0)], [(0, .blk 24 [.bool a0.Odd, .int .i64 a0.Next, .int .i64 a0.Last, .slice false (a0.Live.map (eInt .i64).d), .slice false (a0.Cut.map (eInt .i64).d), .int .i64 a0.Mine, .int .i64 a0.Hers, .int .i64 a0.Heard, .int .i64 z]), (1, .blk 24 [.bool false, .int .i64 0, .int .i64 0, .slice false (([] : List Int).map (eInt .i64).d), .slice false (([] : List Int).map (eInt .i64).d), .int .i64 0, .int .i64 0, .int .i64 0, .int .i64 0])]⟩) (fun z => sennitref22_Shut_J0 a0 z = some r) ?_ ?_
    ·
      obtain ⟨x7, hx7, h⟩ := bnd_e h
      refine iwp_reg (ils_cons rfl (iop_fieldAddr_ref rfl rfl (by decide) Try.underlying24 rfl ti3 (by decide) (sv (d := .ref _ _) rfl) (off' := 8) rfl) <|
        ils_cons rfl (iop_load_rs (d := .int _ _) rfl rfl (by decide) Try.underlying3 ag3 ti3 (by decide) (sv (d := .ref _ _) rfl) rfl (nle rfl) rfl) <|
        ils_cons rfl (iop_cmpx rfl rfl (by decide) (sv (d := .int _ _) rfl) (sv (d := .int _ 0) rfl) rfl hx7) <|
        ils_end ?_)
      refine iwp_cond (b := _) rfl (fun hc8 => ?_) (fun hc8 => ?_)
      ·
        replace h := bif_t h hc8
        refine iwp_region (ils_cons rfl (iop_fieldAddr_ref rfl rfl (by decide) Try.underlying24 rfl ti3 (by decide) (sv (d := .ref _ _) rfl) (off' := 2) rfl) <|
          ils_cons rfl (iop_load_rs (d := .int _ _) rfl rfl (by decide) Try.underlying3 ag3 ti3 (by decide) (sv (d := .ref _ _) rfl) rfl (nle rfl) rfl) <|
          ils_cons rfl (iop_fieldAddr_ref rfl rfl (by decide) Try.underlying24 rfl ti3 (by decide) (sv (d := .ref _ _) rfl) (off' := 8) rfl) <|
          ils_cons rfl (iop_store (ds' := [.bool _, .int _ _, .int _ _, .slice _ _, .slice _ _, .int _ _, .int _ _, .int _ _, .int _ _]) rfl rfl ti3 (sv (d := .ref _ _) rfl) rfl (sv (d := .int _ _) rfl) rfl rfl rfl (nle rfl) rfl) <|
          ils_nil ?_)
        refine thenQ_n ⟨a0.Last, (fun i => i), ⟨(.cons (.same rfl rfl) (.cons (.same rfl rfl) .nil)), (.cons (.blk rfl rfl rfl) (.cons (.blk rfl rfl rfl) .nil)), nd_of [0, 1] rfl (by decide), (fun i hi => by first | rfl | (show (if _ then _ else _) = _; (repeat' split) <;> omega))⟩, ?_⟩
        exact h
      ·
        replace h := bif_f h hc8
        refine iwp_skip ?_
        refine thenQ_n ⟨a0.Told, (fun i => i), ⟨(.cons (.same rfl rfl) (.cons (.same rfl rfl) .nil)), (.cons (.blk rfl rfl rfl) (.cons (.blk rfl rfl rfl) .nil)), nd_of [0, 1] rfl (by decide), (fun i hi => by first | rfl | (show (if _ then _ else _) = _; (repeat' split) <;> omega))⟩, ?_⟩
        exact h
    ·
      rintro v6 h
      unfold sennitref22_Shut_J0 at h
      refine iwp_drw rfl [⟨[1], [0], [(14, .agg [.bool a0.Odd, .int .i64 a0.Next, .int .i64 a0.Last, .slice false (a0.Live.map (eInt .i64).d), .slice false (a0.Cut.map (eInt .i64).d), .int .i64 a0.Mine, .int .i64 a0.Hers, .int .i64 a0.Heard, .int .i64 v6])], []⟩,
        ⟨[1], [], [(15, .ref 0 8)], []⟩,
        ⟨[15], [0], [(16, .int .i64 v6)], []⟩,
        ⟨[2, 14], [1], [], [(1, .blk 24 [.bool a0.Odd, .int .i64 a0.Next, .int .i64 a0.Last, .slice false (a0.Live.map (eInt .i64).d), .slice false (a0.Cut.map (eInt .i64).d), .int .i64 a0.Mine, .int .i64 a0.Hers, .int .i64 a0.Heard, .int .i64 v6])]⟩,
        ⟨[16], [], [(3, .int .i64 v6)], []⟩] rfl ?_ (by kernel_rfl) ?_
      · refine .cons (lop rfl rfl fun S hA => (iop_load_ra (cs := [.bool _, .int _ _, .int _ _, .slice _ _, .slice _ _, .int _ _, .int _ _, .int _ _, .int _ _]) rfl rfl (by decide) Try.underlying24 ag24 ti24 (by decide) (sv (d := .ref _ _) (agr hA rfl rfl)) (agi hA rfl rfl) (nle rfl) rfl)) ?_
        refine .cons (lop rfl rfl fun S hA => (iop_fieldAddr_ref rfl rfl (by decide) Try.underlying24 rfl ti3 (by decide) (sv (d := .ref _ _) (agr hA rfl rfl)) (off' := 8) rfl)) ?_
        refine .cons (lop rfl rfl fun S hA => (iop_load_rs (d := .int _ _) rfl rfl (by decide) Try.underlying3 ag3 ti3 (by decide) (sv (d := .ref _ _) (agr hA rfl rfl)) (agi hA rfl rfl) (nle rfl) rfl)) ?_
        refine .cons (lop rfl rfl fun S hA => (iop_store (ds' := [.bool _, .int _ _, .int _ _, .slice _ _, .slice _ _, .int _ _, .int _ _, .int _ _, .int _ _]) rfl rfl ti24 (sv (d := .ref _ _) (agr hA rfl rfl)) (agi hA rfl rfl) (sv (d := .agg [.bool _, .int _ _, .int _ _, .slice _ _, .slice _ _, .int _ _, .int _ _, .int _ _, .int _ _]) (agr hA rfl rfl)) rfl rfl rfl (nle rfl) rfl)) ?_
        refine .cons (lop rfl rfl fun S hA => (iop_assign rfl rfl (by decide) (sv (d := .int _ _) (agr hA rfl rfl)))) ?_
        exact .nil
      refine iwp_ret ?_
      obtain rfl := Option.some.inj h
      refine ⟨.inr rfl, (.cons (resv_a rfl rfl Try.underlying24 ag24 ti24 (by decide) (nle rfl) rfl) (.cons (sv rfl) .nil))⟩

set_option maxRecDepth 8000 in
set_option maxHeartbeats 2000000 in
theorem p_sennitlaw22_Back (a0 : T_stid_State) (r : T_stid_State) (h : sennitlaw22_Back a0 = some r) : PureAt Try.prog 19 [.agg [.bool a0.Odd, .int .i64 a0.Next, .int .i64 a0.Last, .slice false (a0.Live.map (eInt .i64).d), .slice false (a0.Cut.map (eInt .i64).d), .int .i64 a0.Mine, .int .i64 a0.Hers, .int .i64 a0.Heard, .int .i64 a0.Told]] (.agg [.bool r.Odd, .int .i64 r.Next, .int .i64 r.Last, .slice false (r.Live.map (eInt .i64).d), .slice false (r.Cut.map (eInt .i64).d), .int .i64 r.Mine, .int .i64 r.Hers, .int .i64 r.Heard, .int .i64 r.Told]) := by
  refine pure_of_iwp (rs := [.agg [.bool r.Odd, .int .i64 r.Next, .int .i64 r.Last, .slice false (r.Live.map (eInt .i64).d), .slice false (r.Cut.map (eInt .i64).d), .int .i64 r.Mine, .int .i64 r.Hers, .int .i64 r.Heard, .int .i64 r.Told]]) Try.func19 rfl Try.ntmps19 (nle rfl) rfl fun O hO => ?_
  show IWP _ _ _ _ ⟨[(0, .agg [.bool a0.Odd, .int .i64 a0.Next, .int .i64 a0.Last, .slice false (a0.Live.map (eInt .i64).d), .slice false (a0.Cut.map (eInt .i64).d), .int .i64 a0.Mine, .int .i64 a0.Hers, .int .i64 a0.Heard, .int .i64 a0.Told])], []⟩ _
  unfold sennitlaw22_Back at h
  refine iwp_reg (ils_cons rfl (iop_box' (cs := [.bool _, .int _ _, .int _ _, .slice _ _, .slice _ _, .int _ _, .int _ _, .int _ _, .int _ _]) 0 rfl rfl (by decide) rfl (sv (d := .agg [.bool _, .int _ _, .int _ _, .slice _ _, .slice _ _, .int _ _, .int _ _, .int _ _, .int _ _]) rfl) rfl rfl) <|
    ils_cons rfl (iop_allocS (cs := [.bool _, .int _ _, .int _ _, .nils, .nils, .int _ _, .int _ _, .int _ _, .int _ _]) (cs' := [.bool false, .int .i64 0, .int .i64 0, .slice false (([] : List Int).map (eInt .i64).d), .slice false (([] : List Int).map (eInt .i64).d), .int .i64 0, .int .i64 0, .int .i64 0, .int .i64 0]) 1 rfl rfl (by decide) rfl ti24 rfl rfl (.cons (.refl _) (.cons (.refl _) (.cons (.refl _) (.cons (.nils _) (.cons (.nils _) (.cons (.refl _) (.cons (.refl _) (.cons (.refl _) (.cons (.refl _) .nil)))))))))) <|
    ils_end ?_)
  refine iwp_reg (ils_cons rfl (iop_load_ra (cs := [.bool _, .int _ _, .int _ _, .slice _ _, .slice _ _, .int _ _, .int _ _, .int _ _, .int _ _]) rfl rfl (by decide) Try.underlying27 ag27 ti27 (by decide) (sv (d := .ref _ _) rfl) rfl (nle rfl) rfl) <|
    ils_cons rfl (iop_store (ds' := [.bool _, .int _ _, .int _ _, .slice _ _, .slice _ _, .int _ _, .int _ _, .int _ _, .int _ _]) rfl rfl ti24 (sv (d := .ref _ _) rfl) rfl (sv (d := .agg [.bool _, .int _ _, .int _ _, .slice _ _, .slice _ _, .int _ _, .int _ _, .int _ _, .int _ _]) rfl) rfl rfl rfl (nle rfl) rfl) <|
    ils_end ?_)
  refine iwp_ret ?_
  obtain rfl := Option.some.inj h
  refine ⟨.inr rfl, (.cons (resv_a rfl rfl Try.underlying24 ag24 ti24 (by decide) (nle rfl) rfl) .nil)⟩

set_option maxRecDepth 8000 in
set_option maxHeartbeats 2000000 in
theorem p_sennitref22_Same (a0 : T_stid_State) (a1 : T_stid_State) (r : Bool) (h : sennitref22_Same a0 a1 = some r) : PureAt Try.prog 18 [.agg [.bool a0.Odd, .int .i64 a0.Next, .int .i64 a0.Last, .slice false (a0.Live.map (eInt .i64).d), .slice false (a0.Cut.map (eInt .i64).d), .int .i64 a0.Mine, .int .i64 a0.Hers, .int .i64 a0.Heard, .int .i64 a0.Told], .agg [.bool a1.Odd, .int .i64 a1.Next, .int .i64 a1.Last, .slice false (a1.Live.map (eInt .i64).d), .slice false (a1.Cut.map (eInt .i64).d), .int .i64 a1.Mine, .int .i64 a1.Hers, .int .i64 a1.Heard, .int .i64 a1.Told]] (.bool r) := by
  refine pure_of_iwp (rs := [.bool r]) Try.func18 rfl Try.ntmps18 (nle rfl) rfl fun O hO => ?_
  show IWP _ _ _ _ ⟨[(0, .agg [.bool a0.Odd, .int .i64 a0.Next, .int .i64 a0.Last, .slice false (a0.Live.map (eInt .i64).d), .slice false (a0.Cut.map (eInt .i64).d), .int .i64 a0.Mine, .int .i64 a0.Hers, .int .i64 a0.Heard, .int .i64 a0.Told]), (1, .agg [.bool a1.Odd, .int .i64 a1.Next, .int .i64 a1.Last, .slice false (a1.Live.map (eInt .i64).d), .slice false (a1.Cut.map (eInt .i64).d), .int .i64 a1.Mine, .int .i64 a1.Hers, .int .i64 a1.Heard, .int .i64 a1.Told])], []⟩ _
  unfold sennitref22_Same at h
  refine iwp_reg (ils_cons rfl (iop_box' (cs := [.bool _, .int _ _, .int _ _, .slice _ _, .slice _ _, .int _ _, .int _ _, .int _ _, .int _ _]) 0 rfl rfl (by decide) rfl (sv (d := .agg [.bool _, .int _ _, .int _ _, .slice _ _, .slice _ _, .int _ _, .int _ _, .int _ _, .int _ _]) rfl) rfl rfl) <|
    ils_cons rfl (iop_box' (cs := [.bool _, .int _ _, .int _ _, .slice _ _, .slice _ _, .int _ _, .int _ _, .int _ _, .int _ _]) 1 rfl rfl (by decide) rfl (sv (d := .agg [.bool _, .int _ _, .int _ _, .slice _ _, .slice _ _, .int _ _, .int _ _, .int _ _, .int _ _]) rfl) rfl rfl) <|
    ils_cons rfl (iop_assign rfl rfl (by decide) (sv (d := .bool false) rfl)) <|
    ils_end ?_)
  obtain ⟨x1, hx1, h⟩ := bnd_e h
  obtain ⟨x2, hx2, h⟩ := bnd_e h
  obtain ⟨x3, hx3, h⟩ := bnd_e h
  obtain ⟨x4, hx4, h⟩ := bnd_e h
  obtain ⟨x5, hx5, h⟩ := bnd_e h
  obtain ⟨x6, hx6, h⟩ := bnd_e h
  obtain ⟨x7, hx7, h⟩ := bnd_e h
  obtain ⟨x8, hx8, h⟩ := bnd_e h
  obtain ⟨x9, hx9, h⟩ := bnd_e h
  obtain ⟨x10, hx10, h⟩ := bnd_e h
  obtain ⟨x11, hx11, h⟩ := bnd_e h
  obtain ⟨x12, hx12, h⟩ := bnd_e h
  obtain ⟨x13, hx13, h⟩ := bnd_e h
  obtain ⟨x14, hx14, h⟩ := bno_e h
  obtain ⟨x15, hx15, h⟩ := bnd_e h
  obtain ⟨x16, hx16, h⟩ := bno_e h
  obtain ⟨x17, hx17, h⟩ := bnd_e h
  refine iwp_reg (ils_cons rfl (iop_fieldAddr_ref rfl rfl (by decide) Try.underlying24 rfl ti4 (by decide) (sv (d := .ref _ _) rfl) (off' := 0) rfl) <|
    ils_cons rfl (iop_load_rs (d := .bool _) rfl rfl (by decide) Try.underlying4 ag4 ti4 (by decide) (sv (d := .ref _ _) rfl) rfl (nle rfl) rfl) <|
    ils_cons rfl (iop_fieldAddr_ref rfl rfl (by decide) Try.underlying24 rfl ti4 (by decide) (sv (d := .ref _ _) rfl) (off' := 0) rfl) <|
    ils_cons rfl (iop_load_rs (d := .bool _) rfl rfl (by decide) Try.underlying4 ag4 ti4 (by decide) (sv (d := .ref _ _) rfl) rfl (nle rfl) rfl) <|
    ils_cons rfl (iop_eqbx rfl rfl (by decide) Try.underlying4 (sv (d := .bool _) rfl) (sv (d := .bool _) rfl) hx1) <|
    ils_cons rfl (iop_move rfl rfl (by decide) (sv (d := .bool _) rfl)) <|
    ils_guard rfl rfl (.one rfl) rfl (by decide) (fun hb => (iop_fieldAddr_ref rfl rfl (by decide) Try.underlying24 rfl ti3 (by decide) (sv (d := .ref _ _) rfl) (off' := 1) rfl)) <|
    ils_guard rfl rfl (.one rfl) rfl (by decide) (fun hb => (iop_load_rs (d := .int _ _) rfl rfl (by decide) Try.underlying3 ag3 ti3 (by decide) (svc (d := .ref _ _) rfl hb) rfl (nle rfl) rfl)) <|
    ils_guard rfl rfl (.one rfl) rfl (by decide) (fun hb => (iop_fieldAddr_ref rfl rfl (by decide) Try.underlying24 rfl ti3 (by decide) (sv (d := .ref _ _) rfl) (off' := 1) rfl)) <|
    ils_guard rfl rfl (.one rfl) rfl (by decide) (fun hb => (iop_load_rs (d := .int _ _) rfl rfl (by decide) Try.underlying3 ag3 ti3 (by decide) (svc (d := .ref _ _) rfl hb) rfl (nle rfl) rfl)) <|
    ils_guard rfl rfl (.one rfl) rfl (by decide) (fun hb => (iop_cmpx rfl rfl (by decide) (svc (d := .int _ _) rfl hb) (svc (d := .int _ _) rfl hb) rfl hx2)) <|
    ils_cons rfl (iop_andx rfl rfl (by decide) (sv (d := .bool _) rfl) rfl rfl hx3) <|
    ils_cons rfl (iop_move rfl rfl (by decide) (sv (d := .bool _) rfl)) <|
    ils_guard rfl rfl (.one rfl) rfl (by decide) (fun hb => (iop_fieldAddr_ref rfl rfl (by decide) Try.underlying24 rfl ti3 (by decide) (sv (d := .ref _ _) rfl) (off' := 2) rfl)) <|
    ils_guard rfl rfl (.one rfl) rfl (by decide) (fun hb => (iop_load_rs (d := .int _ _) rfl rfl (by decide) Try.underlying3 ag3 ti3 (by decide) (svc (d := .ref _ _) rfl hb) rfl (nle rfl) rfl)) <|
    ils_guard rfl rfl (.one rfl) rfl (by decide) (fun hb => (iop_fieldAddr_ref rfl rfl (by decide) Try.underlying24 rfl ti3 (by decide) (sv (d := .ref _ _) rfl) (off' := 2) rfl)) <|
    ils_guard rfl rfl (.one rfl) rfl (by decide) (fun hb => (iop_load_rs (d := .int _ _) rfl rfl (by decide) Try.underlying3 ag3 ti3 (by decide) (svc (d := .ref _ _) rfl hb) rfl (nle rfl) rfl)) <|
    ils_guard rfl rfl (.one rfl) rfl (by decide) (fun hb => (iop_cmpx rfl rfl (by decide) (svc (d := .int _ _) rfl hb) (svc (d := .int _ _) rfl hb) rfl hx4)) <|
    ils_cons rfl (iop_andx rfl rfl (by decide) (sv (d := .bool _) rfl) rfl rfl hx5) <|
    ils_cons rfl (iop_move rfl rfl (by decide) (sv (d := .bool _) rfl)) <|
    ils_guard rfl rfl (.one rfl) rfl (by decide) (fun hb => (iop_fieldAddr_ref rfl rfl (by decide) Try.underlying24 rfl ti3 (by decide) (sv (d := .ref _ _) rfl) (off' := 5) rfl)) <|
    ils_guard rfl rfl (.one rfl) rfl (by decide) (fun hb => (iop_load_rs (d := .int _ _) rfl rfl (by decide) Try.underlying3 ag3 ti3 (by decide) (svc (d := .ref _ _) rfl hb) rfl (nle rfl) rfl)) <|
    ils_guard rfl rfl (.one rfl) rfl (by decide) (fun hb => (iop_fieldAddr_ref rfl rfl (by decide) Try.underlying24 rfl ti3 (by decide) (sv (d := .ref _ _) rfl) (off' := 5) rfl)) <|
    ils_guard rfl rfl (.one rfl) rfl (by decide) (fun hb => (iop_load_rs (d := .int _ _) rfl rfl (by decide) Try.underlying3 ag3 ti3 (by decide) (svc (d := .ref _ _) rfl hb) rfl (nle rfl) rfl)) <|
    ils_guard rfl rfl (.one rfl) rfl (by decide) (fun hb => (iop_cmpx rfl rfl (by decide) (svc (d := .int _ _) rfl hb) (svc (d := .int _ _) rfl hb) rfl hx6)) <|
    ils_cons rfl (iop_andx rfl rfl (by decide) (sv (d := .bool _) rfl) rfl rfl hx7) <|
    ils_cons rfl (iop_move rfl rfl (by decide) (sv (d := .bool _) rfl)) <|
    ils_guard rfl rfl (.one rfl) rfl (by decide) (fun hb => (iop_fieldAddr_ref rfl rfl (by decide) Try.underlying24 rfl ti3 (by decide) (sv (d := .ref _ _) rfl) (off' := 6) rfl)) <|
    ils_guard rfl rfl (.one rfl) rfl (by decide) (fun hb => (iop_load_rs (d := .int _ _) rfl rfl (by decide) Try.underlying3 ag3 ti3 (by decide) (svc (d := .ref _ _) rfl hb) rfl (nle rfl) rfl)) <|
    ils_guard rfl rfl (.one rfl) rfl (by decide) (fun hb => (iop_fieldAddr_ref rfl rfl (by decide) Try.underlying24 rfl ti3 (by decide) (sv (d := .ref _ _) rfl) (off' := 6) rfl)) <|
    ils_guard rfl rfl (.one rfl) rfl (by decide) (fun hb => (iop_load_rs (d := .int _ _) rfl rfl (by decide) Try.underlying3 ag3 ti3 (by decide) (svc (d := .ref _ _) rfl hb) rfl (nle rfl) rfl)) <|
    ils_guard rfl rfl (.one rfl) rfl (by decide) (fun hb => (iop_cmpx rfl rfl (by decide) (svc (d := .int _ _) rfl hb) (svc (d := .int _ _) rfl hb) rfl hx8)) <|
    ils_cons rfl (iop_andx rfl rfl (by decide) (sv (d := .bool _) rfl) rfl rfl hx9) <|
    ils_cons rfl (iop_move rfl rfl (by decide) (sv (d := .bool _) rfl)) <|
    ils_guard rfl rfl (.one rfl) rfl (by decide) (fun hb => (iop_fieldAddr_ref rfl rfl (by decide) Try.underlying24 rfl ti3 (by decide) (sv (d := .ref _ _) rfl) (off' := 7) rfl)) <|
    ils_guard rfl rfl (.one rfl) rfl (by decide) (fun hb => (iop_load_rs (d := .int _ _) rfl rfl (by decide) Try.underlying3 ag3 ti3 (by decide) (svc (d := .ref _ _) rfl hb) rfl (nle rfl) rfl)) <|
    ils_guard rfl rfl (.one rfl) rfl (by decide) (fun hb => (iop_fieldAddr_ref rfl rfl (by decide) Try.underlying24 rfl ti3 (by decide) (sv (d := .ref _ _) rfl) (off' := 7) rfl)) <|
    ils_guard rfl rfl (.one rfl) rfl (by decide) (fun hb => (iop_load_rs (d := .int _ _) rfl rfl (by decide) Try.underlying3 ag3 ti3 (by decide) (svc (d := .ref _ _) rfl hb) rfl (nle rfl) rfl)) <|
    ils_guard rfl rfl (.one rfl) rfl (by decide) (fun hb => (iop_cmpx rfl rfl (by decide) (svc (d := .int _ _) rfl hb) (svc (d := .int _ _) rfl hb) rfl hx10)) <|
    ils_cons rfl (iop_andx rfl rfl (by decide) (sv (d := .bool _) rfl) rfl rfl hx11) <|
    ils_cons rfl (iop_move rfl rfl (by decide) (sv (d := .bool _) rfl)) <|
    ils_guard rfl rfl (.one rfl) rfl (by decide) (fun hb => (iop_fieldAddr_ref rfl rfl (by decide) Try.underlying24 rfl ti3 (by decide) (sv (d := .ref _ _) rfl) (off' := 8) rfl)) <|
    ils_guard rfl rfl (.one rfl) rfl (by decide) (fun hb => (iop_load_rs (d := .int _ _) rfl rfl (by decide) Try.underlying3 ag3 ti3 (by decide) (svc (d := .ref _ _) rfl hb) rfl (nle rfl) rfl)) <|
    ils_guard rfl rfl (.one rfl) rfl (by decide) (fun hb => (iop_fieldAddr_ref rfl rfl (by decide) Try.underlying24 rfl ti3 (by decide) (sv (d := .ref _ _) rfl) (off' := 8) rfl)) <|
    ils_guard rfl rfl (.one rfl) rfl (by decide) (fun hb => (iop_load_rs (d := .int _ _) rfl rfl (by decide) Try.underlying3 ag3 ti3 (by decide) (svc (d := .ref _ _) rfl hb) rfl (nle rfl) rfl)) <|
    ils_guard rfl rfl (.one rfl) rfl (by decide) (fun hb => (iop_cmpx rfl rfl (by decide) (svc (d := .int _ _) rfl hb) (svc (d := .int _ _) rfl hb) rfl hx12)) <|
    ils_cons rfl (iop_andx rfl rfl (by decide) (sv (d := .bool _) rfl) rfl rfl hx13) <|
    ils_cons rfl (iop_move rfl rfl (by decide) (sv (d := .bool _) rfl)) <|
    ils_guard rfl rfl (.one rfl) rfl (by decide) (fun hb => (iop_fieldAddr_ref rfl rfl (by decide) Try.underlying24 rfl ti22 (by decide) (sv (d := .ref _ _) rfl) (off' := 3) rfl)) <|
    ils_guard rfl rfl (.one rfl) rfl (by decide) (fun hb => (iop_load_rs (d := .slice _ _) rfl rfl (by decide) Try.underlying22 ag22 ti22 (by decide) (svc (d := .ref _ _) rfl hb) rfl (nle rfl) rfl)) <|
    ils_guard rfl rfl (.one rfl) rfl (by decide) (fun hb => (iop_fieldAddr_ref rfl rfl (by decide) Try.underlying24 rfl ti22 (by decide) (sv (d := .ref _ _) rfl) (off' := 3) rfl)) <|
    ils_guard rfl rfl (.one rfl) rfl (by decide) (fun hb => (iop_load_rs (d := .slice _ _) rfl rfl (by decide) Try.underlying22 ag22 ti22 (by decide) (svc (d := .ref _ _) rfl hb) rfl (nle rfl) rfl)) <|
    ils_guard rfl rfl (.one rfl) rfl (by decide) (fun hb => (iop_call (r := .bool _) rfl rfl (by decide) cl21 (.cons (svc (d := .slice _ _) rfl hb) (.cons (svc (d := .slice _ _) rfl hb) .nil)) rfl (p_sennitref02_SameInts _ _ _ (gd_t hx14 hb)))) <|
    ils_cons rfl (iop_andx rfl rfl (by decide) (sv (d := .bool _) rfl) rfl rfl hx15) <|
    ils_cons rfl (iop_move rfl rfl (by decide) (sv (d := .bool _) rfl)) <|
    ils_guard rfl rfl (.one rfl) rfl (by decide) (fun hb => (iop_fieldAddr_ref rfl rfl (by decide) Try.underlying24 rfl ti22 (by decide) (sv (d := .ref _ _) rfl) (off' := 4) rfl)) <|
    ils_guard rfl rfl (.one rfl) rfl (by decide) (fun hb => (iop_load_rs (d := .slice _ _) rfl rfl (by decide) Try.underlying22 ag22 ti22 (by decide) (svc (d := .ref _ _) rfl hb) rfl (nle rfl) rfl)) <|
    ils_guard rfl rfl (.one rfl) rfl (by decide) (fun hb => (iop_fieldAddr_ref rfl rfl (by decide) Try.underlying24 rfl ti22 (by decide) (sv (d := .ref _ _) rfl) (off' := 4) rfl)) <|
    ils_guard rfl rfl (.one rfl) rfl (by decide) (fun hb => (iop_load_rs (d := .slice _ _) rfl rfl (by decide) Try.underlying22 ag22 ti22 (by decide) (svc (d := .ref _ _) rfl hb) rfl (nle rfl) rfl)) <|
    ils_guard rfl rfl (.one rfl) rfl (by decide) (fun hb => (iop_call (r := .bool _) rfl rfl (by decide) cl21 (.cons (svc (d := .slice _ _) rfl hb) (.cons (svc (d := .slice _ _) rfl hb) .nil)) rfl (p_sennitref02_SameInts _ _ _ (gd_t hx16 hb)))) <|
    ils_cons rfl (iop_andx rfl rfl (by decide) (sv (d := .bool _) rfl) rfl rfl hx17) <|
    ils_cons rfl (iop_assign rfl rfl (by decide) (sv (d := .bool _) rfl)) <|
    ils_end ?_)
  refine iwp_ret ?_
  obtain rfl := Option.some.inj h
  refine ⟨.inr rfl, (.cons (sv rfl) .nil)⟩

set_option maxRecDepth 8000 in
set_option maxHeartbeats 2000000 in
theorem p_sennitlaw22_verdict (a0 : T_rules_Verdict) (r : T_sennitref17_Verdict) (h : sennitlaw22_verdict a0 = some r) : PureAt Try.prog 20 [.agg [.int .i64 a0.Scope, .int .u32 a0.Code]] (.agg [.int .i64 r.Scope, .int .i64 r.Code]) := by
  refine pure_of_iwp (rs := [.agg [.int .i64 r.Scope, .int .i64 r.Code]]) Try.func20 rfl Try.ntmps20 (nle rfl) rfl fun O hO => ?_
  show IWP _ _ _ _ ⟨[(0, .agg [.int .i64 a0.Scope, .int .u32 a0.Code])], []⟩ _
  unfold sennitlaw22_verdict at h
  refine iwp_reg (ils_cons rfl (iop_box' (cs := [.int _ _, .int _ _]) 0 rfl rfl (by decide) rfl (sv (d := .agg [.int _ _, .int _ _]) rfl) rfl rfl) <|
    ils_cons rfl (iop_allocS (cs := [.int _ _, .int _ _]) (cs' := [.int .i64 0, .int .i64 0]) 1 rfl rfl (by decide) rfl ti40 rfl rfl (.cons (.refl _) (.cons (.refl _) .nil))) <|
    ils_end ?_)
  obtain ⟨x1, hx1, h⟩ := bnd_e h
  refine iwp_reg (ils_cons rfl (iop_fieldAddr_ref rfl rfl (by decide) Try.underlying36 rfl ti3 (by decide) (sv (d := .ref _ _) rfl) (off' := 0) rfl) <|
    ils_cons rfl (iop_load_rs (d := .int _ _) rfl rfl (by decide) Try.underlying3 ag3 ti3 (by decide) (sv (d := .ref _ _) rfl) rfl (nle rfl) rfl) <|
    ils_cons rfl (iop_fieldAddr_ref rfl rfl (by decide) Try.underlying36 rfl ti34 (by decide) (sv (d := .ref _ _) rfl) (off' := 1) rfl) <|
    ils_cons rfl (iop_load_rs (d := .int _ _) rfl rfl (by decide) Try.underlying34 ag34 ti34 (by decide) (sv (d := .ref _ _) rfl) rfl (nle rfl) rfl) <|
    ils_cons rfl (iop_int_conv rfl rfl (by decide) ⟨_, Try.underlying34⟩ Try.underlying3 (sv (d := .int _ _) rfl) hx1) <|
    ils_cons rfl (iop_build_struct (cs := [.int _ _, .int _ _]) rfl rfl (by decide) Try.underlying40 ti40 pl40 rfl (.cons (sv (d := .int _ _) rfl) (.cons (sv (d := .int _ _) rfl) .nil)) rfl) <|
    ils_cons rfl (iop_store (ds' := [.int _ _, .int _ _]) rfl rfl ti40 (sv (d := .ref _ _) rfl) rfl (sv (d := .agg [.int _ _, .int _ _]) rfl) rfl rfl rfl (nle rfl) rfl) <|
    ils_end ?_)
  refine iwp_ret ?_
  obtain rfl := Option.some.inj h
  refine ⟨.inr rfl, (.cons (resv_a rfl rfl Try.underlying40 ag40 ti40 (by decide) (nle rfl) rfl) .nil)⟩

set_option maxRecDepth 8000 in
set_option maxHeartbeats 2000000 in
theorem p_sennitlaw22_StidChanges (a0 : T_stid_State) (a1 : Int) (a2 : Bool) (r : Bool) (h : sennitlaw22_StidChanges a0 a1 a2 = some r) : PureAt Try.prog 3 [.agg [.bool a0.Odd, .int .i64 a0.Next, .int .i64 a0.Last, .slice false (a0.Live.map (eInt .i64).d), .slice false (a0.Cut.map (eInt .i64).d), .int .i64 a0.Mine, .int .i64 a0.Hers, .int .i64 a0.Heard, .int .i64 a0.Told], .int .i64 a1, .bool a2] (.bool r) := by
  refine pure_of_iwp (rs := [.bool r]) Try.func3 rfl Try.ntmps3 (nle rfl) rfl fun O hO => ?_
  show IWP _ _ _ _ ⟨[(0, .agg [.bool a0.Odd, .int .i64 a0.Next, .int .i64 a0.Last, .slice false (a0.Live.map (eInt .i64).d), .slice false (a0.Cut.map (eInt .i64).d), .int .i64 a0.Mine, .int .i64 a0.Hers, .int .i64 a0.Heard, .int .i64 a0.Told]), (1, .int .i64 a1), (2, .bool a2)], []⟩ _
  unfold sennitlaw22_StidChanges at h
  refine iwp_reg (ils_cons rfl (iop_box' (cs := [.bool _, .int _ _, .int _ _, .slice _ _, .slice _ _, .int _ _, .int _ _, .int _ _, .int _ _]) 0 rfl rfl (by decide) rfl (sv (d := .agg [.bool _, .int _ _, .int _ _, .slice _ _, .slice _ _, .int _ _, .int _ _, .int _ _, .int _ _]) rfl) rfl rfl) <|
    ils_cons rfl (iop_assign rfl rfl (by decide) (sv (d := .bool false) rfl)) <|
    ils_end ?_)
  refine iwp_seq ?_
  obtain ⟨x1, hx1, h⟩ := bno_e h
  refine iwp_reg (ils_cons rfl (iop_load_ra (cs := [.bool _, .int _ _, .int _ _, .slice _ _, .slice _ _, .int _ _, .int _ _, .int _ _, .int _ _]) rfl rfl (by decide) Try.underlying24 ag24 ti24 (by decide) (sv (d := .ref _ _) rfl) rfl (nle rfl) rfl) <|
    ils_cons rfl (iop_call (r := .bool _) rfl rfl (by decide) cl6 (.cons (sv (d := .agg [.bool _, .int _ _, .int _ _, .slice _ _, .slice _ _, .int _ _, .int _ _, .int _ _, .int _ _]) rfl) .nil) rfl (p_sennitref22_Light _ _ hx1)) <|
    ils_cons rfl (iop_not rfl rfl (by decide) (sv (d := .bool _) rfl)) <|
    ils_end ?_)
  refine iwp_cond (b := _) rfl (fun hc2 => ?_) (fun hc2 => ?_)
  ·
    replace h := bif_t h hc2
    obtain ⟨x3, hx3, h⟩ := bno_e h
    refine iwp_reg (ils_cons rfl (iop_call (r := .bool _) rfl rfl (by decide) cl7 .nil rfl (p_sennitlaw22_awake  _ hx3)) <|
      ils_cons rfl (iop_assign rfl rfl (by decide) (sv (d := .bool _) rfl)) <|
      ils_end ?_)
    refine iwp_ret ?_
    refine thenQ_r ?_
    obtain rfl := Option.some.inj h
    refine ⟨.inr rfl, (.cons (sv rfl) .nil)⟩
  ·
    replace h := bif_f h hc2
    refine iwp_skip ?_
    refine thenQ_n ?_
    refine iwp_reg (ils_cons rfl (iop_load_ra (cs := [.bool _, .int _ _, .int _ _, .slice _ _, .slice _ _, .int _ _, .int _ _, .int _ _, .int _ _]) rfl rfl (by decide) Try.underlying24 ag24 ti24 (by decide) (sv (d := .ref _ _) rfl) rfl (nle rfl) rfl) <|
      ils_cons rfl (iop_allocS (cs := [.bool _, .int _ _, .int _ _, .nils, .nils, .int _ _, .int _ _, .int _ _, .int _ _]) (cs' := [.bool false, .int .i64 0, .int .i64 0, .slice false (([] : List Int).map (eInt .i64).d), .slice false (([] : List Int).map (eInt .i64).d), .int .i64 0, .int .i64 0, .int .i64 0, .int .i64 0]) 1 rfl rfl (by decide) rfl ti27 rfl rfl (.cons (.refl _) (.cons (.refl _) (.cons (.refl _) (.cons (.nils _) (.cons (.nils _) (.cons (.refl _) (.cons (.refl _) (.cons (.refl _) (.cons (.refl _) .nil)))))))))) <|
      ils_cons rfl (iop_store (ds' := [.bool _, .int _ _, .int _ _, .slice _ _, .slice _ _, .int _ _, .int _ _, .int _ _, .int _ _]) rfl rfl ti27 (sv (d := .ref _ _) rfl) rfl (sv (d := .agg [.bool _, .int _ _, .int _ _, .slice _ _, .slice _ _, .int _ _, .int _ _, .int _ _, .int _ _]) rfl) rfl rfl rfl (nle rfl) rfl) <|
      ils_end ?_)
    obtain ⟨x4, hx4, h⟩ := bno_e h
    refine iwp_reg (ils_cons rfl (iop_load_ra (cs := [.bool _, .int _ _, .int _ _, .slice _ _, .slice _ _, .int _ _, .int _ _, .int _ _, .int _ _]) rfl rfl (by decide) Try.underlying27 ag27 ti27 (by decide) (sv (d := .ref _ _) rfl) rfl (nle rfl) rfl) <|
      ils_cons rfl (iop_call (r := .tuple [.agg [.bool _, .int _ _, .int _ _, .slice _ _, .slice _ _, .int _ _, .int _ _, .int _ _, .int _ _], .int _ _, .int _ _]) rfl rfl (by decide) cl8 (.cons (sv (d := .agg [.bool _, .int _ _, .int _ _, .slice _ _, .slice _ _, .int _ _, .int _ _, .int _ _, .int _ _]) rfl) .nil) rfl (p_stid_Open _ _ hx4)) <|
      ils_cons rfl (iop_move rfl rfl (by decide) (sv (d := .tuple [.agg [.bool _, .int _ _, .int _ _, .slice _ _, .slice _ _, .int _ _, .int _ _, .int _ _, .int _ _], .int _ _, .int _ _]) rfl)) <|
      ils_cons rfl (iop_extract (d := .agg [.bool _, .int _ _, .int _ _, .slice _ _, .slice _ _, .int _ _, .int _ _, .int _ _, .int _ _]) rfl rfl (by decide) (sv (d := .tuple [.agg [.bool _, .int _ _, .int _ _, .slice _ _, .slice _ _, .int _ _, .int _ _, .int _ _, .int _ _], .int _ _, .int _ _]) rfl) rfl) <|
      ils_cons rfl (iop_extract (d := .int _ _) rfl rfl (by decide) (sv (d := .tuple [.agg [.bool _, .int _ _, .int _ _, .slice _ _, .slice _ _, .int _ _, .int _ _, .int _ _, .int _ _], .int _ _, .int _ _]) rfl) rfl) <|
      ils_cons rfl (iop_extract (d := .int _ _) rfl rfl (by decide) (sv (d := .tuple [.agg [.bool _, .int _ _, .int _ _, .slice _ _, .slice _ _, .int _ _, .int _ _, .int _ _, .int _ _], .int _ _, .int _ _]) rfl) rfl) <|
      ils_cons rfl (iop_allocS (cs := [.bool _, .int _ _, .int _ _, .nils, .nils, .int _ _, .int _ _, .int _ _, .int _ _]) (cs' := [.bool false, .int .i64 0, .int .i64 0, .slice false (([] : List Int).map (eInt .i64).d), .slice false (([] : List Int).map (eInt .i64).d), .int .i64 0, .int .i64 0, .int .i64 0, .int .i64 0]) 2 rfl rfl (by decide) rfl ti27 rfl rfl (.cons (.refl _) (.cons (.refl _) (.cons (.refl _) (.cons (.nils _) (.cons (.nils _) (.cons (.refl _) (.cons (.refl _) (.cons (.refl _) (.cons (.refl _) .nil)))))))))) <|
      ils_cons rfl (iop_store (ds' := [.bool _, .int _ _, .int _ _, .slice _ _, .slice _ _, .int _ _, .int _ _, .int _ _, .int _ _]) rfl rfl ti27 (sv (d := .ref _ _) rfl) rfl (sv (d := .agg [.bool _, .int _ _, .int _ _, .slice _ _, .slice _ _, .int _ _, .int _ _, .int _ _, .int _ _]) rfl) rfl rfl rfl (nle rfl) rfl) <|
      ils_cons rfl (iop_assign rfl rfl (by decide) (sv (d := .int _ _) rfl)) <|
      ils_cons rfl (iop_assign rfl rfl (by decide) (sv (d := .int _ _) rfl)) <|
      ils_end ?_)
    obtain ⟨x5, hx5, h⟩ := bno_e h
    refine iwp_reg (ils_cons rfl (iop_load_ra (cs := [.bool _, .int _ _, .int _ _, .slice _ _, .slice _ _, .int _ _, .int _ _, .int _ _, .int _ _]) rfl rfl (by decide) Try.underlying24 ag24 ti24 (by decide) (sv (d := .ref _ _) rfl) rfl (nle rfl) rfl) <|
      ils_cons rfl (iop_call (r := .tuple [.agg [.bool _, .int _ _, .int _ _, .slice _ _, .slice _ _, .int _ _, .int _ _, .int _ _, .int _ _], .int _ _, .int _ _]) rfl rfl (by decide) cl9 (.cons (sv (d := .agg [.bool _, .int _ _, .int _ _, .slice _ _, .slice _ _, .int _ _, .int _ _, .int _ _, .int _ _]) rfl) .nil) rfl (p_sennitref22_Open _ _ hx5)) <|
      ils_cons rfl (iop_move rfl rfl (by decide) (sv (d := .tuple [.agg [.bool _, .int _ _, .int _ _, .slice _ _, .slice _ _, .int _ _, .int _ _, .int _ _, .int _ _], .int _ _, .int _ _]) rfl)) <|
      ils_cons rfl (iop_extract (d := .agg [.bool _, .int _ _, .int _ _, .slice _ _, .slice _ _, .int _ _, .int _ _, .int _ _, .int _ _]) rfl rfl (by decide) (sv (d := .tuple [.agg [.bool _, .int _ _, .int _ _, .slice _ _, .slice _ _, .int _ _, .int _ _, .int _ _, .int _ _], .int _ _, .int _ _]) rfl) rfl) <|
      ils_cons rfl (iop_extract (d := .int _ _) rfl rfl (by decide) (sv (d := .tuple [.agg [.bool _, .int _ _, .int _ _, .slice _ _, .slice _ _, .int _ _, .int _ _, .int _ _, .int _ _], .int _ _, .int _ _]) rfl) rfl) <|
      ils_cons rfl (iop_extract (d := .int _ _) rfl rfl (by decide) (sv (d := .tuple [.agg [.bool _, .int _ _, .int _ _, .slice _ _, .slice _ _, .int _ _, .int _ _, .int _ _, .int _ _], .int _ _, .int _ _]) rfl) rfl) <|
      ils_cons rfl (iop_allocS (cs := [.bool _, .int _ _, .int _ _, .nils, .nils, .int _ _, .int _ _, .int _ _, .int _ _]) (cs' := [.bool false, .int .i64 0, .int .i64 0, .slice false (([] : List Int).map (eInt .i64).d), .slice false (([] : List Int).map (eInt .i64).d), .int .i64 0, .int .i64 0, .int .i64 0, .int .i64 0]) 3 rfl rfl (by decide) rfl ti24 rfl rfl (.cons (.refl _) (.cons (.refl _) (.cons (.refl _) (.cons (.nils _) (.cons (.nils _) (.cons (.refl _) (.cons (.refl _) (.cons (.refl _) (.cons (.refl _) .nil)))))))))) <|
      ils_cons rfl (iop_store (ds' := [.bool _, .int _ _, .int _ _, .slice _ _, .slice _ _, .int _ _, .int _ _, .int _ _, .int _ _]) rfl rfl ti24 (sv (d := .ref _ _) rfl) rfl (sv (d := .agg [.bool _, .int _ _, .int _ _, .slice _ _, .slice _ _, .int _ _, .int _ _, .int _ _, .int _ _]) rfl) rfl rfl rfl (nle rfl) rfl) <|
      ils_cons rfl (iop_assign rfl rfl (by decide) (sv (d := .int _ _) rfl)) <|
      ils_cons rfl (iop_assign rfl rfl (by decide) (sv (d := .int _ _) rfl)) <|
      ils_end ?_)
    obtain ⟨x6, hx6, h⟩ := bno_e h
    refine iwp_reg (ils_cons rfl (iop_load_ra (cs := [.bool _, .int _ _, .int _ _, .slice _ _, .slice _ _, .int _ _, .int _ _, .int _ _, .int _ _]) rfl rfl (by decide) Try.underlying27 ag27 ti27 (by decide) (sv (d := .ref _ _) rfl) rfl (nle rfl) rfl) <|
      ils_cons rfl (iop_move rfl rfl (by decide) (sv (d := .int _ _) rfl)) <|
      ils_cons rfl (iop_call (r := .tuple [.agg [.bool _, .int _ _, .int _ _, .slice _ _, .slice _ _, .int _ _, .int _ _, .int _ _, .int _ _], .agg [.int _ _, .int _ _]]) rfl rfl (by decide) cl10 (.cons (sv (d := .agg [.bool _, .int _ _, .int _ _, .slice _ _, .slice _ _, .int _ _, .int _ _, .int _ _, .int _ _]) rfl) (.cons (sv (d := .int _ _) rfl) .nil)) rfl (p_stid_Begin _ _ _ hx6)) <|
      ils_cons rfl (iop_move rfl rfl (by decide) (sv (d := .tuple [.agg [.bool _, .int _ _, .int _ _, .slice _ _, .slice _ _, .int _ _, .int _ _, .int _ _, .int _ _], .agg [.int _ _, .int _ _]]) rfl)) <|
      ils_cons rfl (iop_extract (d := .agg [.bool _, .int _ _, .int _ _, .slice _ _, .slice _ _, .int _ _, .int _ _, .int _ _, .int _ _]) rfl rfl (by decide) (sv (d := .tuple [.agg [.bool _, .int _ _, .int _ _, .slice _ _, .slice _ _, .int _ _, .int _ _, .int _ _, .int _ _], .agg [.int _ _, .int _ _]]) rfl) rfl) <|
      ils_cons rfl (iop_extract (d := .agg [.int _ _, .int _ _]) rfl rfl (by decide) (sv (d := .tuple [.agg [.bool _, .int _ _, .int _ _, .slice _ _, .slice _ _, .int _ _, .int _ _, .int _ _, .int _ _], .agg [.int _ _, .int _ _]]) rfl) rfl) <|
      ils_cons rfl (iop_allocS (cs := [.bool _, .int _ _, .int _ _, .nils, .nils, .int _ _, .int _ _, .int _ _, .int _ _]) (cs' := [.bool false, .int .i64 0, .int .i64 0, .slice false (([] : List Int).map (eInt .i64).d), .slice false (([] : List Int).map (eInt .i64).d), .int .i64 0, .int .i64 0, .int .i64 0, .int .i64 0]) 4 rfl rfl (by decide) rfl ti27 rfl rfl (.cons (.refl _) (.cons (.refl _) (.cons (.refl _) (.cons (.nils _) (.cons (.nils _) (.cons (.refl _) (.cons (.refl _) (.cons (.refl _) (.cons (.refl _) .nil)))))))))) <|
      ils_cons rfl (iop_allocS (cs := [.int _ _, .int _ _]) (cs' := [.int .i64 0, .int .u32 0]) 5 rfl rfl (by decide) rfl ti36 rfl rfl (.cons (.refl _) (.cons (.refl _) .nil))) <|
      ils_cons rfl (iop_store (ds' := [.bool _, .int _ _, .int _ _, .slice _ _, .slice _ _, .int _ _, .int _ _, .int _ _, .int _ _]) rfl rfl ti27 (sv (d := .ref _ _) rfl) rfl (sv (d := .agg [.bool _, .int _ _, .int _ _, .slice _ _, .slice _ _, .int _ _, .int _ _, .int _ _, .int _ _]) rfl) rfl rfl rfl (nle rfl) rfl) <|
      ils_cons rfl (iop_store (ds' := [.int _ _, .int _ _]) rfl rfl ti36 (sv (d := .ref _ _) rfl) rfl (sv (d := .agg [.int _ _, .int _ _]) rfl) rfl rfl rfl (nle rfl) rfl) <|
      ils_end ?_)
    obtain ⟨x7, hx7, h⟩ := bno_e h
    refine iwp_reg (ils_cons rfl (iop_load_ra (cs := [.bool _, .int _ _, .int _ _, .slice _ _, .slice _ _, .int _ _, .int _ _, .int _ _, .int _ _]) rfl rfl (by decide) Try.underlying24 ag24 ti24 (by decide) (sv (d := .ref _ _) rfl) rfl (nle rfl) rfl) <|
      ils_cons rfl (iop_move rfl rfl (by decide) (sv (d := .int _ _) rfl)) <|
      ils_cons rfl (iop_call (r := .tuple [.agg [.bool _, .int _ _, .int _ _, .slice _ _, .slice _ _, .int _ _, .int _ _, .int _ _, .int _ _], .agg [.int _ _, .int _ _]]) rfl rfl (by decide) cl11 (.cons (sv (d := .agg [.bool _, .int _ _, .int _ _, .slice _ _, .slice _ _, .int _ _, .int _ _, .int _ _, .int _ _]) rfl) (.cons (sv (d := .int _ _) rfl) .nil)) rfl (p_sennitref22_Begin _ _ _ hx7)) <|
      ils_cons rfl (iop_move rfl rfl (by decide) (sv (d := .tuple [.agg [.bool _, .int _ _, .int _ _, .slice _ _, .slice _ _, .int _ _, .int _ _, .int _ _, .int _ _], .agg [.int _ _, .int _ _]]) rfl)) <|
      ils_cons rfl (iop_extract (d := .agg [.bool _, .int _ _, .int _ _, .slice _ _, .slice _ _, .int _ _, .int _ _, .int _ _, .int _ _]) rfl rfl (by decide) (sv (d := .tuple [.agg [.bool _, .int _ _, .int _ _, .slice _ _, .slice _ _, .int _ _, .int _ _, .int _ _, .int _ _], .agg [.int _ _, .int _ _]]) rfl) rfl) <|
      ils_cons rfl (iop_extract (d := .agg [.int _ _, .int _ _]) rfl rfl (by decide) (sv (d := .tuple [.agg [.bool _, .int _ _, .int _ _, .slice _ _, .slice _ _, .int _ _, .int _ _, .int _ _, .int _ _], .agg [.int _ _, .int _ _]]) rfl) rfl) <|
      ils_cons rfl (iop_allocS (cs := [.bool _, .int _ _, .int _ _, .nils, .nils, .int _ _, .int _ _, .int _ _, .int _ _]) (cs' := [.bool false, .int .i64 0, .int .i64 0, .slice false (([] : List Int).map (eInt .i64).d), .slice false (([] : List Int).map (eInt .i64).d), .int .i64 0, .int .i64 0, .int .i64 0, .int .i64 0]) 6 rfl rfl (by decide) rfl ti24 rfl rfl (.cons (.refl _) (.cons (.refl _) (.cons (.refl _) (.cons (.nils _) (.cons (.nils _) (.cons (.refl _) (.cons (.refl _) (.cons (.refl _) (.cons (.refl _) .nil)))))))))) <|
      ils_cons rfl (iop_allocS (cs := [.int _ _, .int _ _]) (cs' := [.int .i64 0, .int .i64 0]) 7 rfl rfl (by decide) rfl ti40 rfl rfl (.cons (.refl _) (.cons (.refl _) .nil))) <|
      ils_cons rfl (iop_store (ds' := [.bool _, .int _ _, .int _ _, .slice _ _, .slice _ _, .int _ _, .int _ _, .int _ _, .int _ _]) rfl rfl ti24 (sv (d := .ref _ _) rfl) rfl (sv (d := .agg [.bool _, .int _ _, .int _ _, .slice _ _, .slice _ _, .int _ _, .int _ _, .int _ _, .int _ _]) rfl) rfl rfl rfl (nle rfl) rfl) <|
      ils_cons rfl (iop_store (ds' := [.int _ _, .int _ _]) rfl rfl ti40 (sv (d := .ref _ _) rfl) rfl (sv (d := .agg [.int _ _, .int _ _]) rfl) rfl rfl rfl (nle rfl) rfl) <|
      ils_end ?_)
    obtain ⟨x8, hx8, h⟩ := bno_e h
    obtain ⟨x9, hx9, h⟩ := bno_e h
    refine iwp_drw rfl [⟨[7], [1], [(59, .agg [.bool a0.Odd, .int .i64 a0.Next, .int .i64 a0.Last, .slice false (a0.Live.map (eInt .i64).d), .slice false (a0.Cut.map (eInt .i64).d), .int .i64 a0.Mine, .int .i64 a0.Hers, .int .i64 a0.Heard, .int .i64 a0.Told])], []⟩,
      ⟨[1], [], [(60, .int .i64 a1)], []⟩,
      ⟨[2], [], [(61, .bool a2)], []⟩,
      ⟨[59, 60, 61], [], [(62, .agg [.bool x8.Odd, .int .i64 x8.Next, .int .i64 x8.Last, .slice false (x8.Live.map (eInt .i64).d), .slice false (x8.Cut.map (eInt .i64).d), .int .i64 x8.Mine, .int .i64 x8.Hers, .int .i64 x8.Heard, .int .i64 x8.Told])], []⟩,
      ⟨[3], [0], [(63, .agg [.bool a0.Odd, .int .i64 a0.Next, .int .i64 a0.Last, .slice false (a0.Live.map (eInt .i64).d), .slice false (a0.Cut.map (eInt .i64).d), .int .i64 a0.Mine, .int .i64 a0.Hers, .int .i64 a0.Heard, .int .i64 a0.Told])], []⟩,
      ⟨[1], [], [(64, .int .i64 a1)], []⟩,
      ⟨[2], [], [(65, .bool a2)], []⟩,
      ⟨[63, 64, 65], [], [(66, .agg [.bool x9.Odd, .int .i64 x9.Next, .int .i64 x9.Last, .slice false (x9.Live.map (eInt .i64).d), .slice false (x9.Cut.map (eInt .i64).d), .int .i64 x9.Mine, .int .i64 x9.Hers, .int .i64 x9.Heard, .int .i64 x9.Told])], []⟩,
      ⟨[], [8], [(18, .ref 8 0)], [(8, .blk 27 [.bool false, .int .i64 0, .int .i64 0, .slice false (([] : List Int).map (eInt .i64).d), .slice false (([] : List Int).map (eInt .i64).d), .int .i64 0, .int .i64 0, .int .i64 0, .int .i64 0])]⟩,
      ⟨[], [9], [(19, .ref 9 0)], [(9, .blk 24 [.bool false, .int .i64 0, .int .i64 0, .slice false (([] : List Int).map (eInt .i64).d), .slice false (([] : List Int).map (eInt .i64).d), .int .i64 0, .int .i64 0, .int .i64 0, .int .i64 0])]⟩,
      ⟨[18, 62], [8], [], [(8, .blk 27 [.bool x8.Odd, .int .i64 x8.Next, .int .i64 x8.Last, .slice false (x8.Live.map (eInt .i64).d), .slice false (x8.Cut.map (eInt .i64).d), .int .i64 x8.Mine, .int .i64 x8.Hers, .int .i64 x8.Heard, .int .i64 x8.Told])]⟩,
      ⟨[19, 66], [9], [], [(9, .blk 24 [.bool x9.Odd, .int .i64 x9.Next, .int .i64 x9.Last, .slice false (x9.Live.map (eInt .i64).d), .slice false (x9.Cut.map (eInt .i64).d), .int .i64 x9.Mine, .int .i64 x9.Hers, .int .i64 x9.Heard, .int .i64 x9.Told])]⟩] rfl ?_ (by kernel_rfl) ?_
    · refine .cons (lop rfl rfl fun S hA => (iop_load_ra (cs := [.bool _, .int _ _, .int _ _, .slice _ _, .slice _ _, .int _ _, .int _ _, .int _ _, .int _ _]) rfl rfl (by decide) Try.underlying27 ag27 ti27 (by decide) (sv (d := .ref _ _) (agr hA rfl rfl)) (agi hA rfl rfl) (nle rfl) rfl)) ?_
      refine .cons (lop rfl rfl fun S hA => (iop_move rfl rfl (by decide) (sv (d := .int _ _) (agr hA rfl rfl)))) ?_
      refine .cons (lop rfl rfl fun S hA => (iop_move rfl rfl (by decide) (sv (d := .bool _) (agr hA rfl rfl)))) ?_
      refine .cons (lop rfl rfl fun S hA => (iop_call (r := .agg [.bool _, .int _ _, .int _ _, .slice _ _, .slice _ _, .int _ _, .int _ _, .int _ _, .int _ _]) rfl rfl (by decide) cl12 (.cons (sv (d := .agg [.bool _, .int _ _, .int _ _, .slice _ _, .slice _ _, .int _ _, .int _ _, .int _ _, .int _ _]) (agr hA rfl rfl)) (.cons (sv (d := .int _ _) (agr hA rfl rfl)) (.cons (sv (d := .bool _) (agr hA rfl rfl)) .nil))) rfl (p_stid_End _ _ _ _ hx8))) ?_
      refine .cons (lop rfl rfl fun S hA => (iop_load_ra (cs := [.bool _, .int _ _, .int _ _, .slice _ _, .slice _ _, .int _ _, .int _ _, .int _ _, .int _ _]) rfl rfl (by decide) Try.underlying24 ag24 ti24 (by decide) (sv (d := .ref _ _) (agr hA rfl rfl)) (agi hA rfl rfl) (nle rfl) rfl)) ?_
      refine .cons (lop rfl rfl fun S hA => (iop_move rfl rfl (by decide) (sv (d := .int _ _) (agr hA rfl rfl)))) ?_
      refine .cons (lop rfl rfl fun S hA => (iop_move rfl rfl (by decide) (sv (d := .bool _) (agr hA rfl rfl)))) ?_
      refine .cons (lop rfl rfl fun S hA => (iop_call (r := .agg [.bool _, .int _ _, .int _ _, .slice _ _, .slice _ _, .int _ _, .int _ _, .int _ _, .int _ _]) rfl rfl (by decide) cl13 (.cons (sv (d := .agg [.bool _, .int _ _, .int _ _, .slice _ _, .slice _ _, .int _ _, .int _ _, .int _ _, .int _ _]) (agr hA rfl rfl)) (.cons (sv (d := .int _ _) (agr hA rfl rfl)) (.cons (sv (d := .bool _) (agr hA rfl rfl)) .nil))) rfl (p_sennitref22_End _ _ _ _ hx9))) ?_
      refine .cons (lop rfl rfl fun S hA => (iop_allocS (cs := [.bool _, .int _ _, .int _ _, .nils, .nils, .int _ _, .int _ _, .int _ _, .int _ _]) (cs' := [.bool false, .int .i64 0, .int .i64 0, .slice false (([] : List Int).map (eInt .i64).d), .slice false (([] : List Int).map (eInt .i64).d), .int .i64 0, .int .i64 0, .int .i64 0, .int .i64 0]) 8 rfl rfl (by decide) (agi hA rfl rfl) ti27 rfl rfl (.cons (.refl _) (.cons (.refl _) (.cons (.refl _) (.cons (.nils _) (.cons (.nils _) (.cons (.refl _) (.cons (.refl _) (.cons (.refl _) (.cons (.refl _) .nil))))))))))) ?_
      refine .cons (lop rfl rfl fun S hA => (iop_allocS (cs := [.bool _, .int _ _, .int _ _, .nils, .nils, .int _ _, .int _ _, .int _ _, .int _ _]) (cs' := [.bool false, .int .i64 0, .int .i64 0, .slice false (([] : List Int).map (eInt .i64).d), .slice false (([] : List Int).map (eInt .i64).d), .int .i64 0, .int .i64 0, .int .i64 0, .int .i64 0]) 9 rfl rfl (by decide) (agi hA rfl rfl) ti24 rfl rfl (.cons (.refl _) (.cons (.refl _) (.cons (.refl _) (.cons (.nils _) (.cons (.nils _) (.cons (.refl _) (.cons (.refl _) (.cons (.refl _) (.cons (.refl _) .nil))))))))))) ?_
      refine .cons (lop rfl rfl fun S hA => (iop_store (ds' := [.bool _, .int _ _, .int _ _, .slice _ _, .slice _ _, .int _ _, .int _ _, .int _ _, .int _ _]) rfl rfl ti27 (sv (d := .ref _ _) (agr hA rfl rfl)) (agi hA rfl rfl) (sv (d := .agg [.bool _, .int _ _, .int _ _, .slice _ _, .slice _ _, .int _ _, .int _ _, .int _ _, .int _ _]) (agr hA rfl rfl)) rfl rfl rfl (nle rfl) rfl)) ?_
      refine .cons (lop rfl rfl fun S hA => (iop_store (ds' := [.bool _, .int _ _, .int _ _, .slice _ _, .slice _ _, .int _ _, .int _ _, .int _ _, .int _ _]) rfl rfl ti24 (sv (d := .ref _ _) (agr hA rfl rfl)) (agi hA rfl rfl) (sv (d := .agg [.bool _, .int _ _, .int _ _, .slice _ _, .slice _ _, .int _ _, .int _ _, .int _ _, .int _ _]) (agr hA rfl rfl)) rfl rfl rfl (nle rfl) rfl)) ?_
      exact .nil
    obtain ⟨x10, hx10, h⟩ := bno_e h
    refine iwp_reg (ils_cons rfl (iop_load_ra (cs := [.bool _, .int _ _, .int _ _, .slice _ _, .slice _ _, .int _ _, .int _ _, .int _ _, .int _ _]) rfl rfl (by decide) Try.underlying27 ag27 ti27 (by decide) (sv (d := .ref _ _) rfl) rfl (nle rfl) rfl) <|
      ils_cons rfl (iop_move rfl rfl (by decide) (sv (d := .int _ _) rfl)) <|
      ils_cons rfl (iop_call (r := .tuple [.agg [.bool _, .int _ _, .int _ _, .slice _ _, .slice _ _, .int _ _, .int _ _, .int _ _, .int _ _], .slice _ _, .bool _]) rfl rfl (by decide) cl14 (.cons (sv (d := .agg [.bool _, .int _ _, .int _ _, .slice _ _, .slice _ _, .int _ _, .int _ _, .int _ _, .int _ _]) rfl) (.cons (sv (d := .int _ _) rfl) .nil)) rfl (p_stid_Away _ _ _ hx10)) <|
      ils_cons rfl (iop_move rfl rfl (by decide) (sv (d := .tuple [.agg [.bool _, .int _ _, .int _ _, .slice _ _, .slice _ _, .int _ _, .int _ _, .int _ _, .int _ _], .slice _ _, .bool _]) rfl)) <|
      ils_cons rfl (iop_extract (d := .agg [.bool _, .int _ _, .int _ _, .slice _ _, .slice _ _, .int _ _, .int _ _, .int _ _, .int _ _]) rfl rfl (by decide) (sv (d := .tuple [.agg [.bool _, .int _ _, .int _ _, .slice _ _, .slice _ _, .int _ _, .int _ _, .int _ _, .int _ _], .slice _ _, .bool _]) rfl) rfl) <|
      ils_cons rfl (iop_extract (d := .slice _ _) rfl rfl (by decide) (sv (d := .tuple [.agg [.bool _, .int _ _, .int _ _, .slice _ _, .slice _ _, .int _ _, .int _ _, .int _ _, .int _ _], .slice _ _, .bool _]) rfl) rfl) <|
      ils_cons rfl (iop_extract (d := .bool _) rfl rfl (by decide) (sv (d := .tuple [.agg [.bool _, .int _ _, .int _ _, .slice _ _, .slice _ _, .int _ _, .int _ _, .int _ _, .int _ _], .slice _ _, .bool _]) rfl) rfl) <|
      ils_cons rfl (iop_allocS (cs := [.bool _, .int _ _, .int _ _, .nils, .nils, .int _ _, .int _ _, .int _ _, .int _ _]) (cs' := [.bool false, .int .i64 0, .int .i64 0, .slice false (([] : List Int).map (eInt .i64).d), .slice false (([] : List Int).map (eInt .i64).d), .int .i64 0, .int .i64 0, .int .i64 0, .int .i64 0]) 10 rfl rfl (by decide) rfl ti27 rfl rfl (.cons (.refl _) (.cons (.refl _) (.cons (.refl _) (.cons (.nils _) (.cons (.nils _) (.cons (.refl _) (.cons (.refl _) (.cons (.refl _) (.cons (.refl _) .nil)))))))))) <|
      ils_cons rfl (iop_store (ds' := [.bool _, .int _ _, .int _ _, .slice _ _, .slice _ _, .int _ _, .int _ _, .int _ _, .int _ _]) rfl rfl ti27 (sv (d := .ref _ _) rfl) rfl (sv (d := .agg [.bool _, .int _ _, .int _ _, .slice _ _, .slice _ _, .int _ _, .int _ _, .int _ _, .int _ _]) rfl) rfl rfl rfl (nle rfl) rfl) <|
      ils_cons rfl (iop_assign rfl rfl (by decide) (sv (d := .slice _ _) rfl)) <|
      ils_cons rfl (iop_assign rfl rfl (by decide) (sv (d := .bool _) rfl)) <|
      ils_end ?_)
    obtain ⟨x11, hx11, h⟩ := bno_e h
    refine iwp_reg (ils_cons rfl (iop_load_ra (cs := [.bool _, .int _ _, .int _ _, .slice _ _, .slice _ _, .int _ _, .int _ _, .int _ _, .int _ _]) rfl rfl (by decide) Try.underlying24 ag24 ti24 (by decide) (sv (d := .ref _ _) rfl) rfl (nle rfl) rfl) <|
      ils_cons rfl (iop_move rfl rfl (by decide) (sv (d := .int _ _) rfl)) <|
      ils_cons rfl (iop_call (r := .tuple [.agg [.bool _, .int _ _, .int _ _, .slice _ _, .slice _ _, .int _ _, .int _ _, .int _ _, .int _ _], .slice _ _, .bool _]) rfl rfl (by decide) cl15 (.cons (sv (d := .agg [.bool _, .int _ _, .int _ _, .slice _ _, .slice _ _, .int _ _, .int _ _, .int _ _, .int _ _]) rfl) (.cons (sv (d := .int _ _) rfl) .nil)) rfl (p_sennitref22_Away _ _ _ hx11)) <|
      ils_cons rfl (iop_move rfl rfl (by decide) (sv (d := .tuple [.agg [.bool _, .int _ _, .int _ _, .slice _ _, .slice _ _, .int _ _, .int _ _, .int _ _, .int _ _], .slice _ _, .bool _]) rfl)) <|
      ils_cons rfl (iop_extract (d := .agg [.bool _, .int _ _, .int _ _, .slice _ _, .slice _ _, .int _ _, .int _ _, .int _ _, .int _ _]) rfl rfl (by decide) (sv (d := .tuple [.agg [.bool _, .int _ _, .int _ _, .slice _ _, .slice _ _, .int _ _, .int _ _, .int _ _, .int _ _], .slice _ _, .bool _]) rfl) rfl) <|
      ils_cons rfl (iop_extract (d := .slice _ _) rfl rfl (by decide) (sv (d := .tuple [.agg [.bool _, .int _ _, .int _ _, .slice _ _, .slice _ _, .int _ _, .int _ _, .int _ _, .int _ _], .slice _ _, .bool _]) rfl) rfl) <|
      ils_cons rfl (iop_extract (d := .bool _) rfl rfl (by decide) (sv (d := .tuple [.agg [.bool _, .int _ _, .int _ _, .slice _ _, .slice _ _, .int _ _, .int _ _, .int _ _, .int _ _], .slice _ _, .bool _]) rfl) rfl) <|
      ils_cons rfl (iop_allocS (cs := [.bool _, .int _ _, .int _ _, .nils, .nils, .int _ _, .int _ _, .int _ _, .int _ _]) (cs' := [.bool false, .int .i64 0, .int .i64 0, .slice false (([] : List Int).map (eInt .i64).d), .slice false (([] : List Int).map (eInt .i64).d), .int .i64 0, .int .i64 0, .int .i64 0, .int .i64 0]) 11 rfl rfl (by decide) rfl ti24 rfl rfl (.cons (.refl _) (.cons (.refl _) (.cons (.refl _) (.cons (.nils _) (.cons (.nils _) (.cons (.refl _) (.cons (.refl _) (.cons (.refl _) (.cons (.refl _) .nil)))))))))) <|
      ils_cons rfl (iop_store (ds' := [.bool _, .int _ _, .int _ _, .slice _ _, .slice _ _, .int _ _, .int _ _, .int _ _, .int _ _]) rfl rfl ti24 (sv (d := .ref _ _) rfl) rfl (sv (d := .agg [.bool _, .int _ _, .int _ _, .slice _ _, .slice _ _, .int _ _, .int _ _, .int _ _, .int _ _]) rfl) rfl rfl rfl (nle rfl) rfl) <|
      ils_cons rfl (iop_assign rfl rfl (by decide) (sv (d := .slice _ _) rfl)) <|
      ils_cons rfl (iop_assign rfl rfl (by decide) (sv (d := .bool _) rfl)) <|
      ils_end ?_)
    obtain ⟨x12, hx12, h⟩ := bno_e h
    refine iwp_reg (ils_cons rfl (iop_load_ra (cs := [.bool _, .int _ _, .int _ _, .slice _ _, .slice _ _, .int _ _, .int _ _, .int _ _, .int _ _]) rfl rfl (by decide) Try.underlying27 ag27 ti27 (by decide) (sv (d := .ref _ _) rfl) rfl (nle rfl) rfl) <|
      ils_cons rfl (iop_call (r := .tuple [.agg [.bool _, .int _ _, .int _ _, .slice _ _, .slice _ _, .int _ _, .int _ _, .int _ _, .int _ _], .int _ _]) rfl rfl (by decide) cl16 (.cons (sv (d := .agg [.bool _, .int _ _, .int _ _, .slice _ _, .slice _ _, .int _ _, .int _ _, .int _ _, .int _ _]) rfl) .nil) rfl (p_stid_Shut _ _ hx12)) <|
      ils_cons rfl (iop_move rfl rfl (by decide) (sv (d := .tuple [.agg [.bool _, .int _ _, .int _ _, .slice _ _, .slice _ _, .int _ _, .int _ _, .int _ _, .int _ _], .int _ _]) rfl)) <|
      ils_cons rfl (iop_extract (d := .agg [.bool _, .int _ _, .int _ _, .slice _ _, .slice _ _, .int _ _, .int _ _, .int _ _, .int _ _]) rfl rfl (by decide) (sv (d := .tuple [.agg [.bool _, .int _ _, .int _ _, .slice _ _, .slice _ _, .int _ _, .int _ _, .int _ _, .int _ _], .int _ _]) rfl) rfl) <|
      ils_cons rfl (iop_extract (d := .int _ _) rfl rfl (by decide) (sv (d := .tuple [.agg [.bool _, .int _ _, .int _ _, .slice _ _, .slice _ _, .int _ _, .int _ _, .int _ _, .int _ _], .int _ _]) rfl) rfl) <|
      ils_cons rfl (iop_allocS (cs := [.bool _, .int _ _, .int _ _, .nils, .nils, .int _ _, .int _ _, .int _ _, .int _ _]) (cs' := [.bool false, .int .i64 0, .int .i64 0, .slice false (([] : List Int).map (eInt .i64).d), .slice false (([] : List Int).map (eInt .i64).d), .int .i64 0, .int .i64 0, .int .i64 0, .int .i64 0]) 12 rfl rfl (by decide) rfl ti27 rfl rfl (.cons (.refl _) (.cons (.refl _) (.cons (.refl _) (.cons (.nils _) (.cons (.nils _) (.cons (.refl _) (.cons (.refl _) (.cons (.refl _) (.cons (.refl _) .nil)))))))))) <|
      ils_cons rfl (iop_store (ds' := [.bool _, .int _ _, .int _ _, .slice _ _, .slice _ _, .int _ _, .int _ _, .int _ _, .int _ _]) rfl rfl ti27 (sv (d := .ref _ _) rfl) rfl (sv (d := .agg [.bool _, .int _ _, .int _ _, .slice _ _, .slice _ _, .int _ _, .int _ _, .int _ _, .int _ _]) rfl) rfl rfl rfl (nle rfl) rfl) <|
      ils_cons rfl (iop_assign rfl rfl (by decide) (sv (d := .int _ _) rfl)) <|
      ils_end ?_)
    obtain ⟨x13, hx13, h⟩ := bno_e h
    refine iwp_reg (ils_cons rfl (iop_load_ra (cs := [.bool _, .int _ _, .int _ _, .slice _ _, .slice _ _, .int _ _, .int _ _, .int _ _, .int _ _]) rfl rfl (by decide) Try.underlying24 ag24 ti24 (by decide) (sv (d := .ref _ _) rfl) rfl (nle rfl) rfl) <|
      ils_cons rfl (iop_call (r := .tuple [.agg [.bool _, .int _ _, .int _ _, .slice _ _, .slice _ _, .int _ _, .int _ _, .int _ _, .int _ _], .int _ _]) rfl rfl (by decide) cl17 (.cons (sv (d := .agg [.bool _, .int _ _, .int _ _, .slice _ _, .slice _ _, .int _ _, .int _ _, .int _ _, .int _ _]) rfl) .nil) rfl (p_sennitref22_Shut _ _ hx13)) <|
      ils_cons rfl (iop_move rfl rfl (by decide) (sv (d := .tuple [.agg [.bool _, .int _ _, .int _ _, .slice _ _, .slice _ _, .int _ _, .int _ _, .int _ _, .int _ _], .int _ _]) rfl)) <|
      ils_cons rfl (iop_extract (d := .agg [.bool _, .int _ _, .int _ _, .slice _ _, .slice _ _, .int _ _, .int _ _, .int _ _, .int _ _]) rfl rfl (by decide) (sv (d := .tuple [.agg [.bool _, .int _ _, .int _ _, .slice _ _, .slice _ _, .int _ _, .int _ _, .int _ _, .int _ _], .int _ _]) rfl) rfl) <|
      ils_cons rfl (iop_extract (d := .int _ _) rfl rfl (by decide) (sv (d := .tuple [.agg [.bool _, .int _ _, .int _ _, .slice _ _, .slice _ _, .int _ _, .int _ _, .int _ _, .int _ _], .int _ _]) rfl) rfl) <|
      ils_cons rfl (iop_allocS (cs := [.bool _, .int _ _, .int _ _, .nils, .nils, .int _ _, .int _ _, .int _ _, .int _ _]) (cs' := [.bool false, .int .i64 0, .int .i64 0, .slice false (([] : List Int).map (eInt .i64).d), .slice false (([] : List Int).map (eInt .i64).d), .int .i64 0, .int .i64 0, .int .i64 0, .int .i64 0]) 13 rfl rfl (by decide) rfl ti24 rfl rfl (.cons (.refl _) (.cons (.refl _) (.cons (.refl _) (.cons (.nils _) (.cons (.nils _) (.cons (.refl _) (.cons (.refl _) (.cons (.refl _) (.cons (.refl _) .nil)))))))))) <|
      ils_cons rfl (iop_store (ds' := [.bool _, .int _ _, .int _ _, .slice _ _, .slice _ _, .int _ _, .int _ _, .int _ _, .int _ _]) rfl rfl ti24 (sv (d := .ref _ _) rfl) rfl (sv (d := .agg [.bool _, .int _ _, .int _ _, .slice _ _, .slice _ _, .int _ _, .int _ _, .int _ _, .int _ _]) rfl) rfl rfl rfl (nle rfl) rfl) <|
      ils_cons rfl (iop_assign rfl rfl (by decide) (sv (d := .int _ _) rfl)) <|
      ils_end ?_)
    obtain ⟨x14, hx14, h⟩ := bno_e h
    obtain ⟨x15, hx15, h⟩ := bno_e h
    obtain ⟨x16, hx16, h⟩ := bnd_e h
    obtain ⟨x17, hx17, h⟩ := bnd_e h
    obtain ⟨x18, hx18, h⟩ := bnd_e h
    obtain ⟨x19, hx19, h⟩ := bnd_e h
    obtain ⟨x20, hx20, h⟩ := bno_e h
    obtain ⟨x21, hx21, h⟩ := bno_e h
    obtain ⟨x22, hx22, h⟩ := bnd_e h
    obtain ⟨x23, hx23, h⟩ := bno_e h
    obtain ⟨x24, hx24, h⟩ := bnd_e h
    obtain ⟨x25, hx25, h⟩ := bnd_e h
    obtain ⟨x26, hx26, h⟩ := bno_e h
    obtain ⟨x27, hx27, h⟩ := bno_e h
    obtain ⟨x28, hx28, h⟩ := bnd_e h
    obtain ⟨x29, hx29, h⟩ := bno_e h
    obtain ⟨x30, hx30, h⟩ := bno_e h
    obtain ⟨x31, hx31, h⟩ := bnd_e h
    obtain ⟨x32, hx32, h⟩ := bno_e h
    obtain ⟨x33, hx33, h⟩ := bnd_e h
    obtain ⟨x34, hx34, h⟩ := bnd_e h
    obtain ⟨x35, hx35, h⟩ := bnd_e h
    obtain ⟨x36, hx36, h⟩ := bno_e h
    obtain ⟨x37, hx37, h⟩ := bno_e h
    obtain ⟨x38, hx38, h⟩ := bnd_e h
    obtain ⟨x39, hx39, h⟩ := bnd_e h
    obtain ⟨x40, hx40, h⟩ := bnd_e h
    obtain ⟨x41, hx41, h⟩ := bno_e h
    obtain ⟨x42, hx42, h⟩ := bno_e h
    obtain ⟨x43, hx43, h⟩ := bnd_e h
    obtain ⟨x44, hx44, h⟩ := bno_e h
    obtain ⟨x45, hx45, h⟩ := bnd_e h
    refine iwp_drw rfl [⟨[8], [2], [(91, .agg [.bool x4.1.Odd, .int .i64 x4.1.Next, .int .i64 x4.1.Last, .slice false (x4.1.Live.map (eInt .i64).d), .slice false (x4.1.Cut.map (eInt .i64).d), .int .i64 x4.1.Mine, .int .i64 x4.1.Hers, .int .i64 x4.1.Heard, .int .i64 x4.1.Told])], []⟩,
      ⟨[91], [], [(92, .agg [.bool x14.Odd, .int .i64 x14.Next, .int .i64 x14.Last, .slice false (x14.Live.map (eInt .i64).d), .slice false (x14.Cut.map (eInt .i64).d), .int .i64 x14.Mine, .int .i64 x14.Hers, .int .i64 x14.Heard, .int .i64 x14.Told])], []⟩,
      ⟨[11], [3], [(93, .agg [.bool x5.1.Odd, .int .i64 x5.1.Next, .int .i64 x5.1.Last, .slice false (x5.1.Live.map (eInt .i64).d), .slice false (x5.1.Cut.map (eInt .i64).d), .int .i64 x5.1.Mine, .int .i64 x5.1.Hers, .int .i64 x5.1.Heard, .int .i64 x5.1.Told])], []⟩,
      ⟨[92, 93], [], [(94, .bool x15)], []⟩,
      ⟨[94], [], [(95, .bool x15)], []⟩,
      ⟨[9, 95], [], [(96, .cnd (x15 == true) (.int .i64 x4.2.1))], []⟩,
      ⟨[12, 95], [], [(97, .cnd (x15 == true) (.int .i64 x5.2.1))], []⟩,
      ⟨[95, 96, 97], [], [(98, .cnd (x15 == true) (.bool x16))], []⟩,
      ⟨[95, 98], [], [(99, .bool x17)], []⟩,
      ⟨[99], [], [(100, .bool x17)], []⟩,
      ⟨[10, 100], [], [(101, .cnd (x17 == true) (.int .i64 x4.2.2))], []⟩,
      ⟨[13, 100], [], [(102, .cnd (x17 == true) (.int .i64 x5.2.2))], []⟩,
      ⟨[100, 101, 102], [], [(103, .cnd (x17 == true) (.bool x18))], []⟩,
      ⟨[100, 103], [], [(104, .bool x19)], []⟩,
      ⟨[104], [], [(105, .bool x19)], []⟩,
      ⟨[14, 105], [4], [(106, .cnd (x19 == true) (.agg [.bool x6.1.Odd, .int .i64 x6.1.Next, .int .i64 x6.1.Last, .slice false (x6.1.Live.map (eInt .i64).d), .slice false (x6.1.Cut.map (eInt .i64).d), .int .i64 x6.1.Mine, .int .i64 x6.1.Hers, .int .i64 x6.1.Heard, .int .i64 x6.1.Told]))], []⟩,
      ⟨[105, 106], [], [(107, .cnd (x19 == true) (.agg [.bool x20.Odd, .int .i64 x20.Next, .int .i64 x20.Last, .slice false (x20.Live.map (eInt .i64).d), .slice false (x20.Cut.map (eInt .i64).d), .int .i64 x20.Mine, .int .i64 x20.Hers, .int .i64 x20.Heard, .int .i64 x20.Told]))], []⟩,
      ⟨[16, 105], [6], [(108, .cnd (x19 == true) (.agg [.bool x7.1.Odd, .int .i64 x7.1.Next, .int .i64 x7.1.Last, .slice false (x7.1.Live.map (eInt .i64).d), .slice false (x7.1.Cut.map (eInt .i64).d), .int .i64 x7.1.Mine, .int .i64 x7.1.Hers, .int .i64 x7.1.Heard, .int .i64 x7.1.Told]))], []⟩,
      ⟨[105, 107, 108], [], [(109, .cnd (x19 == true) (.bool x21))], []⟩,
      ⟨[105, 109], [], [(110, .bool x22)], []⟩,
      ⟨[110], [], [(111, .bool x22)], []⟩,
      ⟨[15, 111], [5], [(112, .cnd (x22 == true) (.agg [.int .i64 x6.2.Scope, .int .u32 x6.2.Code]))], []⟩,
      ⟨[111, 112], [], [(113, .cnd (x22 == true) (.agg [.int .i64 x23.Scope, .int .i64 x23.Code]))], []⟩,
      ⟨[17, 111], [7], [(114, .cnd (x22 == true) (.agg [.int .i64 x7.2.Scope, .int .i64 x7.2.Code]))], []⟩,
      ⟨[111, 113, 114], [], [(115, .cnd (x22 == true) (.bool x24))], []⟩,
      ⟨[111, 115], [], [(116, .bool x25)], []⟩,
      ⟨[116], [], [(117, .bool x25)], []⟩,
      ⟨[18, 117], [8], [(118, .cnd (x25 == true) (.agg [.bool x8.Odd, .int .i64 x8.Next, .int .i64 x8.Last, .slice false (x8.Live.map (eInt .i64).d), .slice false (x8.Cut.map (eInt .i64).d), .int .i64 x8.Mine, .int .i64 x8.Hers, .int .i64 x8.Heard, .int .i64 x8.Told]))], []⟩,
      ⟨[117, 118], [], [(119, .cnd (x25 == true) (.agg [.bool x26.Odd, .int .i64 x26.Next, .int .i64 x26.Last, .slice false (x26.Live.map (eInt .i64).d), .slice false (x26.Cut.map (eInt .i64).d), .int .i64 x26.Mine, .int .i64 x26.Hers, .int .i64 x26.Heard, .int .i64 x26.Told]))], []⟩,
      ⟨[19, 117], [9], [(120, .cnd (x25 == true) (.agg [.bool x9.Odd, .int .i64 x9.Next, .int .i64 x9.Last, .slice false (x9.Live.map (eInt .i64).d), .slice false (x9.Cut.map (eInt .i64).d), .int .i64 x9.Mine, .int .i64 x9.Hers, .int .i64 x9.Heard, .int .i64 x9.Told]))], []⟩,
      ⟨[117, 119, 120], [], [(121, .cnd (x25 == true) (.bool x27))], []⟩,
      ⟨[117, 121], [], [(122, .bool x28)], []⟩,
      ⟨[122], [], [(123, .bool x28)], []⟩,
      ⟨[20, 123], [10], [(124, .cnd (x28 == true) (.agg [.bool x10.1.Odd, .int .i64 x10.1.Next, .int .i64 x10.1.Last, .slice false (x10.1.Live.map (eInt .i64).d), .slice false (x10.1.Cut.map (eInt .i64).d), .int .i64 x10.1.Mine, .int .i64 x10.1.Hers, .int .i64 x10.1.Heard, .int .i64 x10.1.Told]))], []⟩,
      ⟨[123, 124], [], [(125, .cnd (x28 == true) (.agg [.bool x29.Odd, .int .i64 x29.Next, .int .i64 x29.Last, .slice false (x29.Live.map (eInt .i64).d), .slice false (x29.Cut.map (eInt .i64).d), .int .i64 x29.Mine, .int .i64 x29.Hers, .int .i64 x29.Heard, .int .i64 x29.Told]))], []⟩,
      ⟨[23, 123], [11], [(126, .cnd (x28 == true) (.agg [.bool x11.1.Odd, .int .i64 x11.1.Next, .int .i64 x11.1.Last, .slice false (x11.1.Live.map (eInt .i64).d), .slice false (x11.1.Cut.map (eInt .i64).d), .int .i64 x11.1.Mine, .int .i64 x11.1.Hers, .int .i64 x11.1.Heard, .int .i64 x11.1.Told]))], []⟩,
      ⟨[123, 125, 126], [], [(127, .cnd (x28 == true) (.bool x30))], []⟩,
      ⟨[123, 127], [], [(128, .bool x31)], []⟩,
      ⟨[128], [], [(129, .bool x31)], []⟩,
      ⟨[21, 129], [], [(130, .cnd (x31 == true) (.slice false (x10.2.1.map (eInt .i64).d)))], []⟩,
      ⟨[24, 129], [], [(131, .cnd (x31 == true) (.slice false (x11.2.1.map (eInt .i64).d)))], []⟩,
      ⟨[129, 130, 131], [], [(132, .cnd (x31 == true) (.bool x32))], []⟩,
      ⟨[129, 132], [], [(133, .bool x33)], []⟩,
      ⟨[133], [], [(134, .bool x33)], []⟩,
      ⟨[22, 134], [], [(135, .cnd (x33 == true) (.bool x10.2.2))], []⟩,
      ⟨[25, 134], [], [(136, .cnd (x33 == true) (.bool x11.2.2))], []⟩,
      ⟨[134, 135, 136], [], [(137, .cnd (x33 == true) (.bool x34))], []⟩,
      ⟨[134, 137], [], [(138, .bool x35)], []⟩,
      ⟨[138], [], [(139, .bool x35)], []⟩,
      ⟨[26, 139], [12], [(140, .cnd (x35 == true) (.agg [.bool x12.1.Odd, .int .i64 x12.1.Next, .int .i64 x12.1.Last, .slice false (x12.1.Live.map (eInt .i64).d), .slice false (x12.1.Cut.map (eInt .i64).d), .int .i64 x12.1.Mine, .int .i64 x12.1.Hers, .int .i64 x12.1.Heard, .int .i64 x12.1.Told]))], []⟩,
      ⟨[139, 140], [], [(141, .cnd (x35 == true) (.agg [.bool x36.Odd, .int .i64 x36.Next, .int .i64 x36.Last, .slice false (x36.Live.map (eInt .i64).d), .slice false (x36.Cut.map (eInt .i64).d), .int .i64 x36.Mine, .int .i64 x36.Hers, .int .i64 x36.Heard, .int .i64 x36.Told]))], []⟩,
      ⟨[28, 139], [13], [(142, .cnd (x35 == true) (.agg [.bool x13.1.Odd, .int .i64 x13.1.Next, .int .i64 x13.1.Last, .slice false (x13.1.Live.map (eInt .i64).d), .slice false (x13.1.Cut.map (eInt .i64).d), .int .i64 x13.1.Mine, .int .i64 x13.1.Hers, .int .i64 x13.1.Heard, .int .i64 x13.1.Told]))], []⟩,
      ⟨[139, 141, 142], [], [(143, .cnd (x35 == true) (.bool x37))], []⟩,
      ⟨[139, 143], [], [(144, .bool x38)], []⟩,
      ⟨[144], [], [(145, .bool x38)], []⟩,
      ⟨[27, 145], [], [(146, .cnd (x38 == true) (.int .i64 x12.2))], []⟩,
      ⟨[29, 145], [], [(147, .cnd (x38 == true) (.int .i64 x13.2))], []⟩,
      ⟨[145, 146, 147], [], [(148, .cnd (x38 == true) (.bool x39))], []⟩,
      ⟨[145, 148], [], [(149, .bool x40)], []⟩,
      ⟨[149], [], [(150, .bool x40)], []⟩,
      ⟨[7, 150], [1], [(151, .cnd (x40 == true) (.agg [.bool a0.Odd, .int .i64 a0.Next, .int .i64 a0.Last, .slice false (a0.Live.map (eInt .i64).d), .slice false (a0.Cut.map (eInt .i64).d), .int .i64 a0.Mine, .int .i64 a0.Hers, .int .i64 a0.Heard, .int .i64 a0.Told]))], []⟩,
      ⟨[150, 151], [], [(152, .cnd (x40 == true) (.agg [.bool x41.Odd, .int .i64 x41.Next, .int .i64 x41.Last, .slice false (x41.Live.map (eInt .i64).d), .slice false (x41.Cut.map (eInt .i64).d), .int .i64 x41.Mine, .int .i64 x41.Hers, .int .i64 x41.Heard, .int .i64 x41.Told]))], []⟩,
      ⟨[3, 150], [0], [(153, .cnd (x40 == true) (.agg [.bool a0.Odd, .int .i64 a0.Next, .int .i64 a0.Last, .slice false (a0.Live.map (eInt .i64).d), .slice false (a0.Cut.map (eInt .i64).d), .int .i64 a0.Mine, .int .i64 a0.Hers, .int .i64 a0.Heard, .int .i64 a0.Told]))], []⟩,
      ⟨[150, 152, 153], [], [(154, .cnd (x40 == true) (.bool x42))], []⟩,
      ⟨[150, 154], [], [(155, .bool x43)], []⟩,
      ⟨[155], [], [(156, .bool x43)], []⟩,
      ⟨[156], [], [(157, .cnd (x43 == true) (.bool x44))], []⟩,
      ⟨[156, 157], [], [(158, .bool x45)], []⟩,
      ⟨[158], [], [(6, .bool x45)], []⟩] rfl ?_ (by kernel_rfl) ?_
    · refine .cons (lop rfl rfl fun S hA => (iop_load_ra (cs := [.bool _, .int _ _, .int _ _, .slice _ _, .slice _ _, .int _ _, .int _ _, .int _ _, .int _ _]) rfl rfl (by decide) Try.underlying27 ag27 ti27 (by decide) (sv (d := .ref _ _) (agr hA rfl rfl)) (agi hA rfl rfl) (nle rfl) rfl)) ?_
      refine .cons (lop rfl rfl fun S hA => (iop_call (r := .agg [.bool _, .int _ _, .int _ _, .slice _ _, .slice _ _, .int _ _, .int _ _, .int _ _, .int _ _]) rfl rfl (by decide) cl19 (.cons (sv (d := .agg [.bool _, .int _ _, .int _ _, .slice _ _, .slice _ _, .int _ _, .int _ _, .int _ _, .int _ _]) (agr hA rfl rfl)) .nil) rfl (p_sennitlaw22_Back _ _ hx14))) ?_
      refine .cons (lop rfl rfl fun S hA => (iop_load_ra (cs := [.bool _, .int _ _, .int _ _, .slice _ _, .slice _ _, .int _ _, .int _ _, .int _ _, .int _ _]) rfl rfl (by decide) Try.underlying24 ag24 ti24 (by decide) (sv (d := .ref _ _) (agr hA rfl rfl)) (agi hA rfl rfl) (nle rfl) rfl)) ?_
      refine .cons (lop rfl rfl fun S hA => (iop_call (r := .bool _) rfl rfl (by decide) cl18 (.cons (sv (d := .agg [.bool _, .int _ _, .int _ _, .slice _ _, .slice _ _, .int _ _, .int _ _, .int _ _, .int _ _]) (agr hA rfl rfl)) (.cons (sv (d := .agg [.bool _, .int _ _, .int _ _, .slice _ _, .slice _ _, .int _ _, .int _ _, .int _ _, .int _ _]) (agr hA rfl rfl)) .nil)) rfl (p_sennitref22_Same _ _ _ hx15))) ?_
      refine .cons (lop rfl rfl fun S hA => (iop_move rfl rfl (by decide) (sv (d := .bool _) (agr hA rfl rfl)))) ?_
      refine .cons (lopg rfl rfl rfl rfl (by decide) (fun S hA => grd1 hA rfl rfl) (fun S hA hb => (iop_move rfl rfl (by decide) (sv (d := .int _ _) (agr hA rfl rfl))))) ?_
      refine .cons (lopg rfl rfl rfl rfl (by decide) (fun S hA => grd1 hA rfl rfl) (fun S hA hb => (iop_move rfl rfl (by decide) (sv (d := .int _ _) (agr hA rfl rfl))))) ?_
      refine .cons (lopg rfl rfl rfl rfl (by decide) (fun S hA => grd1 hA rfl rfl) (fun S hA hb => (iop_cmpx rfl rfl (by decide) (svc (d := .int _ _) (agr hA rfl rfl) hb) (svc (d := .int _ _) (agr hA rfl rfl) hb) rfl hx16))) ?_
      refine .cons (lop rfl rfl fun S hA => (iop_andx rfl rfl (by decide) (sv (d := .bool _) (agr hA rfl rfl)) (agr hA rfl rfl) rfl hx17)) ?_
      refine .cons (lop rfl rfl fun S hA => (iop_move rfl rfl (by decide) (sv (d := .bool _) (agr hA rfl rfl)))) ?_
      refine .cons (lopg rfl rfl rfl rfl (by decide) (fun S hA => grd1 hA rfl rfl) (fun S hA hb => (iop_move rfl rfl (by decide) (sv (d := .int _ _) (agr hA rfl rfl))))) ?_
      refine .cons (lopg rfl rfl rfl rfl (by decide) (fun S hA => grd1 hA rfl rfl) (fun S hA hb => (iop_move rfl rfl (by decide) (sv (d := .int _ _) (agr hA rfl rfl))))) ?_
      refine .cons (lopg rfl rfl rfl rfl (by decide) (fun S hA => grd1 hA rfl rfl) (fun S hA hb => (iop_cmpx rfl rfl (by decide) (svc (d := .int _ _) (agr hA rfl rfl) hb) (svc (d := .int _ _) (agr hA rfl rfl) hb) rfl hx18))) ?_
      refine .cons (lop rfl rfl fun S hA => (iop_andx rfl rfl (by decide) (sv (d := .bool _) (agr hA rfl rfl)) (agr hA rfl rfl) rfl hx19)) ?_
      refine .cons (lop rfl rfl fun S hA => (iop_move rfl rfl (by decide) (sv (d := .bool _) (agr hA rfl rfl)))) ?_
      refine .cons (lopg rfl rfl rfl rfl (by decide) (fun S hA => grd1 hA rfl rfl) (fun S hA hb => (iop_load_ra (cs := [.bool _, .int _ _, .int _ _, .slice _ _, .slice _ _, .int _ _, .int _ _, .int _ _, .int _ _]) rfl rfl (by decide) Try.underlying27 ag27 ti27 (by decide) (sv (d := .ref _ _) (agr hA rfl rfl)) (agi hA rfl rfl) (nle rfl) rfl))) ?_
      refine .cons (lopg rfl rfl rfl rfl (by decide) (fun S hA => grd1 hA rfl rfl) (fun S hA hb => (iop_call (r := .agg [.bool _, .int _ _, .int _ _, .slice _ _, .slice _ _, .int _ _, .int _ _, .int _ _, .int _ _]) rfl rfl (by decide) cl19 (.cons (svc (d := .agg [.bool x6.1.Odd, .int .i64 x6.1.Next, .int .i64 x6.1.Last, .slice false (x6.1.Live.map (eInt .i64).d), .slice false (x6.1.Cut.map (eInt .i64).d), .int .i64 x6.1.Mine, .int .i64 x6.1.Hers, .int .i64 x6.1.Heard, .int .i64 x6.1.Told]) (agr hA rfl rfl) hb) .nil) rfl (p_sennitlaw22_Back _ _ (gd_t hx20 hb))))) ?_
      refine .cons (lopg rfl rfl rfl rfl (by decide) (fun S hA => grd1 hA rfl rfl) (fun S hA hb => (iop_load_ra (cs := [.bool _, .int _ _, .int _ _, .slice _ _, .slice _ _, .int _ _, .int _ _, .int _ _, .int _ _]) rfl rfl (by decide) Try.underlying24 ag24 ti24 (by decide) (sv (d := .ref _ _) (agr hA rfl rfl)) (agi hA rfl rfl) (nle rfl) rfl))) ?_
      refine .cons (lopg rfl rfl rfl rfl (by decide) (fun S hA => grd1 hA rfl rfl) (fun S hA hb => (iop_call (r := .bool _) rfl rfl (by decide) cl18 (.cons (svc (d := .agg [.bool x20.Odd, .int .i64 x20.Next, .int .i64 x20.Last, .slice false (x20.Live.map (eInt .i64).d), .slice false (x20.Cut.map (eInt .i64).d), .int .i64 x20.Mine, .int .i64 x20.Hers, .int .i64 x20.Heard, .int .i64 x20.Told]) (agr hA rfl rfl) hb) (.cons (svc (d := .agg [.bool x7.1.Odd, .int .i64 x7.1.Next, .int .i64 x7.1.Last, .slice false (x7.1.Live.map (eInt .i64).d), .slice false (x7.1.Cut.map (eInt .i64).d), .int .i64 x7.1.Mine, .int .i64 x7.1.Hers, .int .i64 x7.1.Heard, .int .i64 x7.1.Told]) (agr hA rfl rfl) hb) .nil)) rfl (p_sennitref22_Same _ _ _ (gd_t hx21 hb))))) ?_
      refine .cons (lop rfl rfl fun S hA => (iop_andx rfl rfl (by decide) (sv (d := .bool _) (agr hA rfl rfl)) (agr hA rfl rfl) rfl hx22)) ?_
      refine .cons (lop rfl rfl fun S hA => (iop_move rfl rfl (by decide) (sv (d := .bool _) (agr hA rfl rfl)))) ?_
      refine .cons (lopg rfl rfl rfl rfl (by decide) (fun S hA => grd1 hA rfl rfl) (fun S hA hb => (iop_load_ra (cs := [.int _ _, .int _ _]) rfl rfl (by decide) Try.underlying36 ag36 ti36 (by decide) (sv (d := .ref _ _) (agr hA rfl rfl)) (agi hA rfl rfl) (nle rfl) rfl))) ?_
      refine .cons (lopg rfl rfl rfl rfl (by decide) (fun S hA => grd1 hA rfl rfl) (fun S hA hb => (iop_call (r := .agg [.int _ _, .int _ _]) rfl rfl (by decide) cl20 (.cons (svc (d := .agg [.int .i64 x6.2.Scope, .int .u32 x6.2.Code]) (agr hA rfl rfl) hb) .nil) rfl (p_sennitlaw22_verdict _ _ (gd_t hx23 hb))))) ?_
      refine .cons (lopg rfl rfl rfl rfl (by decide) (fun S hA => grd1 hA rfl rfl) (fun S hA hb => (iop_load_ra (cs := [.int _ _, .int _ _]) rfl rfl (by decide) Try.underlying40 ag40 ti40 (by decide) (sv (d := .ref _ _) (agr hA rfl rfl)) (agi hA rfl rfl) (nle rfl) rfl))) ?_
      refine .cons (lopg rfl rfl rfl rfl (by decide) (fun S hA => grd1 hA rfl rfl) (fun S hA hb => (iop_eqs rfl rfl (by decide) Try.underlying40 st40.1 st40.2 (svc (d := .agg [.int .i64 x23.Scope, .int .i64 x23.Code]) (agr hA rfl rfl) hb) (svc (d := .agg [.int .i64 x7.2.Scope, .int .i64 x7.2.Code]) (agr hA rfl rfl) hb) (congrArg some hx24)))) ?_
      refine .cons (lop rfl rfl fun S hA => (iop_andx rfl rfl (by decide) (sv (d := .bool _) (agr hA rfl rfl)) (agr hA rfl rfl) rfl hx25)) ?_
      refine .cons (lop rfl rfl fun S hA => (iop_move rfl rfl (by decide) (sv (d := .bool _) (agr hA rfl rfl)))) ?_
      refine .cons (lopg rfl rfl rfl rfl (by decide) (fun S hA => grd1 hA rfl rfl) (fun S hA hb => (iop_load_ra (cs := [.bool _, .int _ _, .int _ _, .slice _ _, .slice _ _, .int _ _, .int _ _, .int _ _, .int _ _]) rfl rfl (by decide) Try.underlying27 ag27 ti27 (by decide) (sv (d := .ref _ _) (agr hA rfl rfl)) (agi hA rfl rfl) (nle rfl) rfl))) ?_
      refine .cons (lopg rfl rfl rfl rfl (by decide) (fun S hA => grd1 hA rfl rfl) (fun S hA hb => (iop_call (r := .agg [.bool _, .int _ _, .int _ _, .slice _ _, .slice _ _, .int _ _, .int _ _, .int _ _, .int _ _]) rfl rfl (by decide) cl19 (.cons (svc (d := .agg [.bool x8.Odd, .int .i64 x8.Next, .int .i64 x8.Last, .slice false (x8.Live.map (eInt .i64).d), .slice false (x8.Cut.map (eInt .i64).d), .int .i64 x8.Mine, .int .i64 x8.Hers, .int .i64 x8.Heard, .int .i64 x8.Told]) (agr hA rfl rfl) hb) .nil) rfl (p_sennitlaw22_Back _ _ (gd_t hx26 hb))))) ?_
      refine .cons (lopg rfl rfl rfl rfl (by decide) (fun S hA => grd1 hA rfl rfl) (fun S hA hb => (iop_load_ra (cs := [.bool _, .int _ _, .int _ _, .slice _ _, .slice _ _, .int _ _, .int _ _, .int _ _, .int _ _]) rfl rfl (by decide) Try.underlying24 ag24 ti24 (by decide) (sv (d := .ref _ _) (agr hA rfl rfl)) (agi hA rfl rfl) (nle rfl) rfl))) ?_
      refine .cons (lopg rfl rfl rfl rfl (by decide) (fun S hA => grd1 hA rfl rfl) (fun S hA hb => (iop_call (r := .bool _) rfl rfl (by decide) cl18 (.cons (svc (d := .agg [.bool x26.Odd, .int .i64 x26.Next, .int .i64 x26.Last, .slice false (x26.Live.map (eInt .i64).d), .slice false (x26.Cut.map (eInt .i64).d), .int .i64 x26.Mine, .int .i64 x26.Hers, .int .i64 x26.Heard, .int .i64 x26.Told]) (agr hA rfl rfl) hb) (.cons (svc (d := .agg [.bool x9.Odd, .int .i64 x9.Next, .int .i64 x9.Last, .slice false (x9.Live.map (eInt .i64).d), .slice false (x9.Cut.map (eInt .i64).d), .int .i64 x9.Mine, .int .i64 x9.Hers, .int .i64 x9.Heard, .int .i64 x9.Told]) (agr hA rfl rfl) hb) .nil)) rfl (p_sennitref22_Same _ _ _ (gd_t hx27 hb))))) ?_
      refine .cons (lop rfl rfl fun S hA => (iop_andx rfl rfl (by decide) (sv (d := .bool _) (agr hA rfl rfl)) (agr hA rfl rfl) rfl hx28)) ?_
      refine .cons (lop rfl rfl fun S hA => (iop_move rfl rfl (by decide) (sv (d := .bool _) (agr hA rfl rfl)))) ?_
      refine .cons (lopg rfl rfl rfl rfl (by decide) (fun S hA => grd1 hA rfl rfl) (fun S hA hb => (iop_load_ra (cs := [.bool _, .int _ _, .int _ _, .slice _ _, .slice _ _, .int _ _, .int _ _, .int _ _, .int _ _]) rfl rfl (by decide) Try.underlying27 ag27 ti27 (by decide) (sv (d := .ref _ _) (agr hA rfl rfl)) (agi hA rfl rfl) (nle rfl) rfl))) ?_
      refine .cons (lopg rfl rfl rfl rfl (by decide) (fun S hA => grd1 hA rfl rfl) (fun S hA hb => (iop_call (r := .agg [.bool _, .int _ _, .int _ _, .slice _ _, .slice _ _, .int _ _, .int _ _, .int _ _, .int _ _]) rfl rfl (by decide) cl19 (.cons (svc (d := .agg [.bool x10.1.Odd, .int .i64 x10.1.Next, .int .i64 x10.1.Last, .slice false (x10.1.Live.map (eInt .i64).d), .slice false (x10.1.Cut.map (eInt .i64).d), .int .i64 x10.1.Mine, .int .i64 x10.1.Hers, .int .i64 x10.1.Heard, .int .i64 x10.1.Told]) (agr hA rfl rfl) hb) .nil) rfl (p_sennitlaw22_Back _ _ (gd_t hx29 hb))))) ?_
      refine .cons (lopg rfl rfl rfl rfl (by decide) (fun S hA => grd1 hA rfl rfl) (fun S hA hb => (iop_load_ra (cs := [.bool _, .int _ _, .int _ _, .slice _ _, .slice _ _, .int _ _, .int _ _, .int _ _, .int _ _]) rfl rfl (by decide) Try.underlying24 ag24 ti24 (by decide) (sv (d := .ref _ _) (agr hA rfl rfl)) (agi hA rfl rfl) (nle rfl) rfl))) ?_
      refine .cons (lopg rfl rfl rfl rfl (by decide) (fun S hA => grd1 hA rfl rfl) (fun S hA hb => (iop_call (r := .bool _) rfl rfl (by decide) cl18 (.cons (svc (d := .agg [.bool x29.Odd, .int .i64 x29.Next, .int .i64 x29.Last, .slice false (x29.Live.map (eInt .i64).d), .slice false (x29.Cut.map (eInt .i64).d), .int .i64 x29.Mine, .int .i64 x29.Hers, .int .i64 x29.Heard, .int .i64 x29.Told]) (agr hA rfl rfl) hb) (.cons (svc (d := .agg [.bool x11.1.Odd, .int .i64 x11.1.Next, .int .i64 x11.1.Last, .slice false (x11.1.Live.map (eInt .i64).d), .slice false (x11.1.Cut.map (eInt .i64).d), .int .i64 x11.1.Mine, .int .i64 x11.1.Hers, .int .i64 x11.1.Heard, .int .i64 x11.1.Told]) (agr hA rfl rfl) hb) .nil)) rfl (p_sennitref22_Same _ _ _ (gd_t hx30 hb))))) ?_
      refine .cons (lop rfl rfl fun S hA => (iop_andx rfl rfl (by decide) (sv (d := .bool _) (agr hA rfl rfl)) (agr hA rfl rfl) rfl hx31)) ?_
      refine .cons (lop rfl rfl fun S hA => (iop_move rfl rfl (by decide) (sv (d := .bool _) (agr hA rfl rfl)))) ?_
      refine .cons (lopg rfl rfl rfl rfl (by decide) (fun S hA => grd1 hA rfl rfl) (fun S hA hb => (iop_move rfl rfl (by decide) (sv (d := .slice _ _) (agr hA rfl rfl))))) ?_
      refine .cons (lopg rfl rfl rfl rfl (by decide) (fun S hA => grd1 hA rfl rfl) (fun S hA hb => (iop_move rfl rfl (by decide) (sv (d := .slice _ _) (agr hA rfl rfl))))) ?_
      refine .cons (lopg rfl rfl rfl rfl (by decide) (fun S hA => grd1 hA rfl rfl) (fun S hA hb => (iop_call (r := .bool _) rfl rfl (by decide) cl21 (.cons (svc (d := .slice _ _) (agr hA rfl rfl) hb) (.cons (svc (d := .slice _ _) (agr hA rfl rfl) hb) .nil)) rfl (p_sennitref02_SameInts _ _ _ (gd_t hx32 hb))))) ?_
      refine .cons (lop rfl rfl fun S hA => (iop_andx rfl rfl (by decide) (sv (d := .bool _) (agr hA rfl rfl)) (agr hA rfl rfl) rfl hx33)) ?_
      refine .cons (lop rfl rfl fun S hA => (iop_move rfl rfl (by decide) (sv (d := .bool _) (agr hA rfl rfl)))) ?_
      refine .cons (lopg rfl rfl rfl rfl (by decide) (fun S hA => grd1 hA rfl rfl) (fun S hA hb => (iop_move rfl rfl (by decide) (sv (d := .bool _) (agr hA rfl rfl))))) ?_
      refine .cons (lopg rfl rfl rfl rfl (by decide) (fun S hA => grd1 hA rfl rfl) (fun S hA hb => (iop_move rfl rfl (by decide) (sv (d := .bool _) (agr hA rfl rfl))))) ?_
      refine .cons (lopg rfl rfl rfl rfl (by decide) (fun S hA => grd1 hA rfl rfl) (fun S hA hb => (iop_eqbx rfl rfl (by decide) Try.underlying4 (svc (d := .bool _) (agr hA rfl rfl) hb) (svc (d := .bool _) (agr hA rfl rfl) hb) hx34))) ?_
      refine .cons (lop rfl rfl fun S hA => (iop_andx rfl rfl (by decide) (sv (d := .bool _) (agr hA rfl rfl)) (agr hA rfl rfl) rfl hx35)) ?_
      refine .cons (lop rfl rfl fun S hA => (iop_move rfl rfl (by decide) (sv (d := .bool _) (agr hA rfl rfl)))) ?_
      refine .cons (lopg rfl rfl rfl rfl (by decide) (fun S hA => grd1 hA rfl rfl) (fun S hA hb => (iop_load_ra (cs := [.bool _, .int _ _, .int _ _, .slice _ _, .slice _ _, .int _ _, .int _ _, .int _ _, .int _ _]) rfl rfl (by decide) Try.underlying27 ag27 ti27 (by decide) (sv (d := .ref _ _) (agr hA rfl rfl)) (agi hA rfl rfl) (nle rfl) rfl))) ?_
      refine .cons (lopg rfl rfl rfl rfl (by decide) (fun S hA => grd1 hA rfl rfl) (fun S hA hb => (iop_call (r := .agg [.bool _, .int _ _, .int _ _, .slice _ _, .slice _ _, .int _ _, .int _ _, .int _ _, .int _ _]) rfl rfl (by decide) cl19 (.cons (svc (d := .agg [.bool x12.1.Odd, .int .i64 x12.1.Next, .int .i64 x12.1.Last, .slice false (x12.1.Live.map (eInt .i64).d), .slice false (x12.1.Cut.map (eInt .i64).d), .int .i64 x12.1.Mine, .int .i64 x12.1.Hers, .int .i64 x12.1.Heard, .int .i64 x12.1.Told]) (agr hA rfl rfl) hb) .nil) rfl (p_sennitlaw22_Back _ _ (gd_t hx36 hb))))) ?_
      refine .cons (lopg rfl rfl rfl rfl (by decide) (fun S hA => grd1 hA rfl rfl) (fun S hA hb => (iop_load_ra (cs := [.bool _, .int _ _, .int _ _, .slice _ _, .slice _ _, .int _ _, .int _ _, .int _ _, .int _ _]) rfl rfl (by decide) Try.underlying24 ag24 ti24 (by decide) (sv (d := .ref _ _) (agr hA rfl rfl)) (agi hA rfl rfl) (nle rfl) rfl))) ?_
      refine .cons (lopg rfl rfl rfl rfl (by decide) (fun S hA => grd1 hA rfl rfl) (fun S hA hb => (iop_call (r := .bool _) rfl rfl (by decide) cl18 (.cons (svc (d := .agg [.bool x36.Odd, .int .i64 x36.Next, .int .i64 x36.Last, .slice false (x36.Live.map (eInt .i64).d), .slice false (x36.Cut.map (eInt .i64).d), .int .i64 x36.Mine, .int .i64 x36.Hers, .int .i64 x36.Heard, .int .i64 x36.Told]) (agr hA rfl rfl) hb) (.cons (svc (d := .agg [.bool x13.1.Odd, .int .i64 x13.1.Next, .int .i64 x13.1.Last, .slice false (x13.1.Live.map (eInt .i64).d), .slice false (x13.1.Cut.map (eInt .i64).d), .int .i64 x13.1.Mine, .int .i64 x13.1.Hers, .int .i64 x13.1.Heard, .int .i64 x13.1.Told]) (agr hA rfl rfl) hb) .nil)) rfl (p_sennitref22_Same _ _ _ (gd_t hx37 hb))))) ?_
      refine .cons (lop rfl rfl fun S hA => (iop_andx rfl rfl (by decide) (sv (d := .bool _) (agr hA rfl rfl)) (agr hA rfl rfl) rfl hx38)) ?_
      refine .cons (lop rfl rfl fun S hA => (iop_move rfl rfl (by decide) (sv (d := .bool _) (agr hA rfl rfl)))) ?_
      refine .cons (lopg rfl rfl rfl rfl (by decide) (fun S hA => grd1 hA rfl rfl) (fun S hA hb => (iop_move rfl rfl (by decide) (sv (d := .int _ _) (agr hA rfl rfl))))) ?_
      refine .cons (lopg rfl rfl rfl rfl (by decide) (fun S hA => grd1 hA rfl rfl) (fun S hA hb => (iop_move rfl rfl (by decide) (sv (d := .int _ _) (agr hA rfl rfl))))) ?_
      refine .cons (lopg rfl rfl rfl rfl (by decide) (fun S hA => grd1 hA rfl rfl) (fun S hA hb => (iop_cmpx rfl rfl (by decide) (svc (d := .int _ _) (agr hA rfl rfl) hb) (svc (d := .int _ _) (agr hA rfl rfl) hb) rfl hx39))) ?_
      refine .cons (lop rfl rfl fun S hA => (iop_andx rfl rfl (by decide) (sv (d := .bool _) (agr hA rfl rfl)) (agr hA rfl rfl) rfl hx40)) ?_
      refine .cons (lop rfl rfl fun S hA => (iop_move rfl rfl (by decide) (sv (d := .bool _) (agr hA rfl rfl)))) ?_
      refine .cons (lopg rfl rfl rfl rfl (by decide) (fun S hA => grd1 hA rfl rfl) (fun S hA hb => (iop_load_ra (cs := [.bool _, .int _ _, .int _ _, .slice _ _, .slice _ _, .int _ _, .int _ _, .int _ _, .int _ _]) rfl rfl (by decide) Try.underlying27 ag27 ti27 (by decide) (sv (d := .ref _ _) (agr hA rfl rfl)) (agi hA rfl rfl) (nle rfl) rfl))) ?_
      refine .cons (lopg rfl rfl rfl rfl (by decide) (fun S hA => grd1 hA rfl rfl) (fun S hA hb => (iop_call (r := .agg [.bool _, .int _ _, .int _ _, .slice _ _, .slice _ _, .int _ _, .int _ _, .int _ _, .int _ _]) rfl rfl (by decide) cl19 (.cons (svc (d := .agg [.bool a0.Odd, .int .i64 a0.Next, .int .i64 a0.Last, .slice false (a0.Live.map (eInt .i64).d), .slice false (a0.Cut.map (eInt .i64).d), .int .i64 a0.Mine, .int .i64 a0.Hers, .int .i64 a0.Heard, .int .i64 a0.Told]) (agr hA rfl rfl) hb) .nil) rfl (p_sennitlaw22_Back _ _ (gd_t hx41 hb))))) ?_
      refine .cons (lopg rfl rfl rfl rfl (by decide) (fun S hA => grd1 hA rfl rfl) (fun S hA hb => (iop_load_ra (cs := [.bool _, .int _ _, .int _ _, .slice _ _, .slice _ _, .int _ _, .int _ _, .int _ _, .int _ _]) rfl rfl (by decide) Try.underlying24 ag24 ti24 (by decide) (sv (d := .ref _ _) (agr hA rfl rfl)) (agi hA rfl rfl) (nle rfl) rfl))) ?_
      refine .cons (lopg rfl rfl rfl rfl (by decide) (fun S hA => grd1 hA rfl rfl) (fun S hA hb => (iop_call (r := .bool _) rfl rfl (by decide) cl18 (.cons (svc (d := .agg [.bool x41.Odd, .int .i64 x41.Next, .int .i64 x41.Last, .slice false (x41.Live.map (eInt .i64).d), .slice false (x41.Cut.map (eInt .i64).d), .int .i64 x41.Mine, .int .i64 x41.Hers, .int .i64 x41.Heard, .int .i64 x41.Told]) (agr hA rfl rfl) hb) (.cons (svc (d := .agg [.bool a0.Odd, .int .i64 a0.Next, .int .i64 a0.Last, .slice false (a0.Live.map (eInt .i64).d), .slice false (a0.Cut.map (eInt .i64).d), .int .i64 a0.Mine, .int .i64 a0.Hers, .int .i64 a0.Heard, .int .i64 a0.Told]) (agr hA rfl rfl) hb) .nil)) rfl (p_sennitref22_Same _ _ _ (gd_t hx42 hb))))) ?_
      refine .cons (lop rfl rfl fun S hA => (iop_andx rfl rfl (by decide) (sv (d := .bool _) (agr hA rfl rfl)) (agr hA rfl rfl) rfl hx43)) ?_
      refine .cons (lop rfl rfl fun S hA => (iop_move rfl rfl (by decide) (sv (d := .bool _) (agr hA rfl rfl)))) ?_
      refine .cons (lopg rfl rfl rfl rfl (by decide) (fun S hA => grd1 hA rfl rfl) (fun S hA hb => (iop_call (r := .bool _) rfl rfl (by decide) cl7 .nil rfl (p_sennitlaw22_awake  _ (gd_t hx44 hb))))) ?_
      refine .cons (lop rfl rfl fun S hA => (iop_andx rfl rfl (by decide) (sv (d := .bool _) (agr hA rfl rfl)) (agr hA rfl rfl) rfl hx45)) ?_
      refine .cons (lop rfl rfl fun S hA => (iop_assign rfl rfl (by decide) (sv (d := .bool _) (agr hA rfl rfl)))) ?_
      exact .nil
    refine iwp_ret ?_
    obtain rfl := Option.some.inj h
    refine ⟨.inr rfl, (.cons (sv rfl) .nil)⟩
end Go.Proofs.Ytalalambgppmpaa
