/-
  A part of the proof: rules and plain facts. No condition.
-/
import Derived.Test.YtalalambgppmpaaProg
import Derived.KernelRfl
import Derived.Test.YtalalambgppmpaaIlTm
import Derived.Test.YtalalambgppmpaaIlA22aC1
set_option linter.all false
set_option linter.unusedSimpArgs false
set_option linter.unusedVariables false
open Go Go.IL Go.Fn Go.Proofs
namespace Go.Proofs.Ytalalambgppmpaa
theorem ti24 : TI Try.prog 24 (some (.agg #[.bool false, .int .i64 0, .int .i64 0, .slice none 0 0, .slice none 0 0, .int .i64 0, .int .i64 0, .int .i64 0, .int .i64 0])) 9 104 := by unfold TI; kernel_rfl
theorem ti40 : TI Try.prog 40 (some (.agg #[.int .i64 0, .int .i64 0])) 2 16 := by unfold TI; kernel_rfl
theorem ag24 : aggOf Try.prog 24 = true := by kernel_rfl
theorem ag40 : aggOf Try.prog 40 = true := by kernel_rfl
theorem pl40 : ∀ w, (Array.mapM (m := Sem) (fun (f : Field) => Functor.map (Prod.mk f.offset) (sizeOf f.type)) (fieldsOf Try.prog 40)).run Try.prog w = .ok #[(0, 1), (1, 1)] w := fun w => by kernel_rfl
theorem st36 : Try.prog.stoodInHeld 36 = false ∧ Try.prog.eqGuardType Try.prog.depth 36 = false := ⟨by kernel_rfl, by kernel_rfl⟩
theorem cl8 : Callable Try.prog 8 := ⟨Try.f8, Try.func8, rfl, rfl⟩
theorem cl10 : Callable Try.prog 10 := ⟨Try.f10, Try.func10, rfl, rfl⟩
theorem cl12 : Callable Try.prog 12 := ⟨Try.f12, Try.func12, rfl, rfl⟩
theorem cl14 : Callable Try.prog 14 := ⟨Try.f14, Try.func14, rfl, rfl⟩
theorem cl16 : Callable Try.prog 16 := ⟨Try.f16, Try.func16, rfl, rfl⟩
theorem cl21 : Callable Try.prog 21 := ⟨Try.f21, Try.func21, rfl, rfl⟩
theorem cl22 : Callable Try.prog 22 := ⟨Try.f22, Try.func22, rfl, rfl⟩
theorem cl23 : Callable Try.prog 23 := ⟨Try.f23, Try.func23, rfl, rfl⟩
theorem cl27 : Callable Try.prog 27 := ⟨Try.f27, Try.func27, rfl, rfl⟩
theorem cl30 : Callable Try.prog 30 := ⟨Try.f30, Try.func30, rfl, rfl⟩
theorem cl31 : Callable Try.prog 31 := ⟨Try.f31, Try.func31, rfl, rfl⟩
theorem cl32 : Callable Try.prog 32 := ⟨Try.f32, Try.func32, rfl, rfl⟩
theorem cl37 : Callable Try.prog 37 := ⟨Try.f37, Try.func37, rfl, rfl⟩
theorem cl38 : Callable Try.prog 38 := ⟨Try.f38, Try.func38, rfl, rfl⟩
theorem cl39 : Callable Try.prog 39 := ⟨Try.f39, Try.func39, rfl, rfl⟩
theorem cl40 : Callable Try.prog 40 := ⟨Try.f40, Try.func40, rfl, rfl⟩
theorem cl43 : Callable Try.prog 43 := ⟨Try.f43, Try.func43, rfl, rfl⟩
theorem cl45 : Callable Try.prog 45 := ⟨Try.f45, Try.func45, rfl, rfl⟩
theorem cl50 : Callable Try.prog 50 := ⟨Try.f50, Try.func50, rfl, rfl⟩
theorem cl53 : Callable Try.prog 53 := ⟨Try.f53, Try.func53, rfl, rfl⟩

set_option maxRecDepth 8000 in
set_option maxHeartbeats 2000000 in
theorem p_stid_Away (a0 : T_stid_State) (a1 : Int) (r : (T_stid_State × (List Int) × Bool)) (h : stid_Away a0 a1 = some r) : PureAt Try.prog 14 [.agg [.bool a0.Odd, .int .i64 a0.Next, .int .i64 a0.Last, .slice false (a0.Live.map (eInt .i64).d), .slice false (a0.Cut.map (eInt .i64).d), .int .i64 a0.Mine, .int .i64 a0.Hers, .int .i64 a0.Heard, .int .i64 a0.Told], .int .i64 a1] (retD [.agg [.bool r.1.Odd, .int .i64 r.1.Next, .int .i64 r.1.Last, .slice false (r.1.Live.map (eInt .i64).d), .slice false (r.1.Cut.map (eInt .i64).d), .int .i64 r.1.Mine, .int .i64 r.1.Hers, .int .i64 r.1.Heard, .int .i64 r.1.Told], .slice false (r.2.1.map (eInt .i64).d), .bool r.2.2]) := by
  refine pure_of_iwpF (rs := [.agg [.bool r.1.Odd, .int .i64 r.1.Next, .int .i64 r.1.Last, .slice false (r.1.Live.map (eInt .i64).d), .slice false (r.1.Cut.map (eInt .i64).d), .int .i64 r.1.Mine, .int .i64 r.1.Hers, .int .i64 r.1.Heard, .int .i64 r.1.Told], .slice false (r.2.1.map (eInt .i64).d), .bool r.2.2]) Try.func14 rfl Try.ntmps14 (nle rfl) rfl fun O hO => ?_
  show IWP _ _ _ _ ⟨[(0, .agg [.bool a0.Odd, .int .i64 a0.Next, .int .i64 a0.Last, .slice false (a0.Live.map (eInt .i64).d), .slice false (a0.Cut.map (eInt .i64).d), .int .i64 a0.Mine, .int .i64 a0.Hers, .int .i64 a0.Heard, .int .i64 a0.Told]), (1, .int .i64 a1)], []⟩ _
  unfold stid_Away at h
  refine iwp_reg (ils_cons rfl (iop_box' (cs := [.bool _, .int _ _, .int _ _, .slice _ _, .slice _ _, .int _ _, .int _ _, .int _ _, .int _ _]) 0 rfl rfl (by decide) rfl (sv (d := .agg [.bool _, .int _ _, .int _ _, .slice _ _, .slice _ _, .int _ _, .int _ _, .int _ _, .int _ _]) rfl) rfl rfl) <|
    ils_cons rfl (iop_box' (cs := [.int _ _]) 1 rfl rfl (by decide) rfl (sv (d := .int _ _) rfl) rfl rfl) <|
    ils_cons rfl (iop_allocS (cs := [.bool _, .int _ _, .int _ _, .nils, .nils, .int _ _, .int _ _, .int _ _, .int _ _]) (cs' := [.bool false, .int .i64 0, .int .i64 0, .slice false (([] : List Int).map (eInt .i64).d), .slice false (([] : List Int).map (eInt .i64).d), .int .i64 0, .int .i64 0, .int .i64 0, .int .i64 0]) 2 rfl rfl (by decide) rfl ti27 rfl rfl (.cons (.refl _) (.cons (.refl _) (.cons (.refl _) (.cons (.nils _) (.cons (.nils _) (.cons (.refl _) (.cons (.refl _) (.cons (.refl _) (.cons (.refl _) .nil)))))))))) <|
    ils_cons rfl (iop_assign rfl rfl (by decide) (sv (d := .nils) rfl)) <|
    ils_cons rfl (iop_assign rfl rfl (by decide) (sv (d := .bool false) rfl)) <|
    ils_end ?_)
  obtain ⟨x1, hx1, h⟩ := bno_e h
  refine iwp_reg (ils_cons rfl (iop_load_ra (cs := [.bool _, .int _ _, .int _ _, .slice _ _, .slice _ _, .int _ _, .int _ _, .int _ _, .int _ _]) rfl rfl (by decide) Try.underlying27 ag27 ti27 (by decide) (sv (d := .ref _ _) rfl) rfl (nle rfl) rfl) <|
    ils_cons rfl (iop_callh2 (r' := .agg [.bool x1.1, .int .i64 x1.2.1, .int .i64 x1.2.2.1, .osl 3 (eInt .i64).sz x1.2.2.2.1.length, .osl 4 (eInt .i64).sz x1.2.2.2.2.1.length, .int .i64 x1.2.2.2.2.2.1, .int .i64 x1.2.2.2.2.2.2.1, .int .i64 x1.2.2.2.2.2.2.2.1, .int .i64 x1.2.2.2.2.2.2.2.2]) (H1' := [(3, .blk 3 (D.flat (x1.2.2.2.1.map (eInt .i64).d))), (4, .blk 3 (D.flat (x1.2.2.2.2.1.map (eInt .i64).d)))]) 3 [] rfl rfl (by decide) cl28 (.cons (sv (d := .agg [.bool _, .int _ _, .int _ _, .slice _ _, .slice _ _, .int _ _, .int _ _, .int _ _, .int _ _]) rfl) .nil) rfl rfl ⟨rfl, rfl, by decide, rfl, List.forall_mem_nil _⟩ (p_stid_State_own_h _ _ hx1) rfl rfl (List.forall_mem_cons.2 ⟨⟨rfl, (handLr (eInt .i64))⟩, List.forall_mem_cons.2 ⟨⟨rfl, (handLr (eInt .i64))⟩, List.forall_mem_nil _⟩⟩) (by simp only [List.map_cons, List.map_nil, Ent.ren, renL_flat, renL_ref]; rfl)) <|
    ils_cons rfl (iop_allocS (cs := [.bool _, .int _ _, .int _ _, .nils, .nils, .int _ _, .int _ _, .int _ _, .int _ _]) (cs' := [.bool false, .int .i64 0, .int .i64 0, .slice false (([] : List Int).map (eInt .i64).d), .slice false (([] : List Int).map (eInt .i64).d), .int .i64 0, .int .i64 0, .int .i64 0, .int .i64 0]) 5 rfl rfl (by decide) rfl ti27 rfl rfl (.cons (.refl _) (.cons (.refl _) (.cons (.refl _) (.cons (.nils _) (.cons (.nils _) (.cons (.refl _) (.cons (.refl _) (.cons (.refl _) (.cons (.refl _) .nil)))))))))) <|
    ils_cons rfl (iop_store (ds' := [.bool _, .int _ _, .int _ _, .osl _ _ _, .osl _ _ _, .int _ _, .int _ _, .int _ _, .int _ _]) rfl rfl ti27 (sv (d := .ref _ _) rfl) rfl (sv (d := .agg [.bool _, .int _ _, .int _ _, .osl _ _ _, .osl _ _ _, .int _ _, .int _ _, .int _ _, .int _ _]) rfl) rfl rfl rfl (nle rfl) rfl) <|
    ils_end ?_)
  refine iwp_seq ?_
  obtain ⟨x2, hx2, h⟩ := bno_e h
  obtain ⟨x3, hx3, h⟩ := bnd_e h
  obtain ⟨x4, hx4, h⟩ := bno_e h
  obtain ⟨x5, hx5, h⟩ := bnd_e h
  obtain ⟨x6, hx6, h⟩ := bnd_e h
  obtain ⟨x7, hx7, h⟩ := bnd_e h
  obtain ⟨x8, hx8, h⟩ := bnd_e h
  obtain ⟨x9, hx9, h⟩ := bnd_e h
  refine iwp_reg (ils_cons rfl (iop_load_ra (cs := [.bool _, .int _ _, .int _ _, .slice _ _, .slice _ _, .int _ _, .int _ _, .int _ _, .int _ _]) rfl rfl (by decide) Try.underlying27 ag27 ti27 (by decide) (sv (d := .ref _ _) rfl) rfl (nle rfl) rfl) <|
    ils_cons rfl (iop_call (r := .int _ _) rfl rfl (by decide) cl26 (.cons (sv (d := .agg [.bool _, .int _ _, .int _ _, .slice _ _, .slice _ _, .int _ _, .int _ _, .int _ _, .int _ _]) rfl) .nil) rfl (p_stid_Check _ _ hx2)) <|
    ils_cons rfl (iop_cmpx rfl rfl (by decide) (sv (d := .int _ _) rfl) (sv (d := .int _ 0) rfl) rfl hx3) <|
    ils_cons rfl (iop_move rfl rfl (by decide) (sv (d := .bool _) rfl)) <|
    ils_guard rfl rfl (.one rfl) rfl (by decide) (fun hb => (iop_load_rs (d := .int _ _) rfl rfl (by decide) Try.underlying3 ag3 ti3 (by decide) (sv (d := .ref _ _) rfl) rfl (nle rfl) rfl)) <|
    ils_guard rfl rfl (.one rfl) rfl (by decide) (fun hb => (iop_call (r := .bool _) rfl rfl (by decide) cl34 (.cons (svc (d := .int _ _) rfl hb) (.cons (sv (d := .int _ 0) rfl) (.cons (sv (d := .int _ 1048576) rfl) .nil))) rfl (p_stid_in _ _ _ _ (gd_t hx4 hb)))) <|
    ils_guard rfl rfl (.one rfl) rfl (by decide) (fun hb => (iop_not rfl rfl (by decide) (svc (d := .bool _) rfl hb))) <|
    ils_cons rfl (iop_orx rfl rfl (by decide) (sv (d := .bool _) rfl) rfl rfl hx5) <|
    ils_cons rfl (iop_move rfl rfl (by decide) (sv (d := .bool _) rfl)) <|
    ils_guard rfl rfl (.one rfl) rfl (by decide) (fun hb => (iop_fieldAddr_ref rfl rfl (by decide) Try.underlying27 rfl ti3 (by decide) (sv (d := .ref _ _) rfl) (off' := 7) rfl)) <|
    ils_guard rfl rfl (.one rfl) rfl (by decide) (fun hb => (iop_load_rs (d := .int _ _) rfl rfl (by decide) Try.underlying3 ag3 ti3 (by decide) (svc (d := .ref _ _) rfl hb) rfl (nle rfl) rfl)) <|
    ils_guard rfl rfl (.one rfl) rfl (by decide) (fun hb => (iop_cmpx rfl rfl (by decide) (svc (d := .int _ _) rfl hb) (sv (d := .int _ (-1)) rfl) rfl hx6)) <|
    ils_guard rfl rfl (.one rfl) rfl (by decide) (fun hb => (iop_move rfl rfl (by decide) (svc (d := .bool _) rfl hb))) <|
    ils_guard rfl rfl (.two rfl) rfl (by decide) (fun hb => (iop_load_rs (d := .int _ _) rfl rfl (by decide) Try.underlying3 ag3 ti3 (by decide) (sv (d := .ref _ _) rfl) rfl (nle rfl) rfl)) <|
    ils_guard rfl rfl (.two rfl) rfl (by decide) (fun hb => (iop_fieldAddr_ref rfl rfl (by decide) Try.underlying27 rfl ti3 (by decide) (sv (d := .ref _ _) rfl) (off' := 7) rfl)) <|
    ils_guard rfl rfl (.two rfl) rfl (by decide) (fun hb => (iop_load_rs (d := .int _ _) rfl rfl (by decide) Try.underlying3 ag3 ti3 (by decide) (svc (d := .ref _ _) rfl hb) rfl (nle rfl) rfl)) <|
    ils_guard rfl rfl (.two rfl) rfl (by decide) (fun hb => (iop_cmpx rfl rfl (by decide) (svc (d := .int _ _) rfl hb) (svc (d := .int _ _) rfl hb) rfl hx7)) <|
    ils_guard rfl rfl (.one rfl) rfl (by decide) (fun hb => (iop_and2x rfl rfl (by decide) hb (svc (d := .bool _) rfl hb) rfl rfl hx8)) <|
    ils_cons rfl (iop_orx rfl rfl (by decide) (sv (d := .bool _) rfl) rfl rfl hx9) <|
    ils_end ?_)
  refine iwp_cond (b := _) rfl (fun hc10 => ?_) (fun hc10 => ?_)
  ·
    replace h := bif_t h hc10
    refine iwp_reg (ils_cons rfl (iop_load_ra (cs := [.bool _, .int _ _, .int _ _, .osl _ _ _, .osl _ _ _, .int _ _, .int _ _, .int _ _, .int _ _]) rfl rfl (by decide) Try.underlying27 ag27 ti27 (by decide) (sv (d := .ref _ _) rfl) rfl (nle rfl) rfl) <|
      ils_cons rfl (iop_store (ds' := [.bool _, .int _ _, .int _ _, .osl _ _ _, .osl _ _ _, .int _ _, .int _ _, .int _ _, .int _ _]) rfl rfl ti27 (sv (d := .ref _ _) rfl) rfl (sv (d := .agg [.bool _, .int _ _, .int _ _, .osl _ _ _, .osl _ _ _, .int _ _, .int _ _, .int _ _, .int _ _]) rfl) rfl rfl rfl (nle rfl) rfl) <|
      ils_cons rfl (iop_assign rfl rfl (by decide) (sv (d := .nils) rfl)) <|
      ils_cons rfl (iop_assign rfl rfl (by decide) (sv (d := .bool false) rfl)) <|
      ils_end ?_)
    refine iwp_ret ?_
    refine thenQ_r ?_
    obtain rfl := Option.some.inj h
    refine ⟨.inr rfl, _, (.cons (resv_a rfl rfl Try.underlying27 ag27 ti27 (by decide) (nle rfl) rfl) (.cons (sv rfl) (.cons (sv rfl) .nil))), (.cons (.agg (.cons (.refl _) (.cons (.refl _) (.cons (.refl _) (.cons (FDT (eInt .i64) rfl rfl) (.cons (FDT (eInt .i64) rfl rfl) (.cons (.refl _) (.cons (.refl _) (.cons (.refl _) (.cons (.refl _) .nil)))))))))) (.cons (.nils _) (.cons (.refl _) .nil)))⟩
  ·
    replace h := bif_f h hc10
    refine iwp_skip ?_
    refine thenQ_n ?_
    refine iwp_reg (ils_cons rfl (iop_load_rs (d := .int _ _) rfl rfl (by decide) Try.underlying3 ag3 ti3 (by decide) (sv (d := .ref _ _) rfl) rfl (nle rfl) rfl) <|
      ils_cons rfl (iop_fieldAddr_ref rfl rfl (by decide) Try.underlying27 rfl ti3 (by decide) (sv (d := .ref _ _) rfl) (off' := 7) rfl) <|
      ils_cons rfl (iop_store (ds' := [.bool _, .int _ _, .int _ _, .osl _ _ _, .osl _ _ _, .int _ _, .int _ _, .int _ _, .int _ _]) rfl rfl ti3 (sv (d := .ref _ _) rfl) rfl (sv (d := .int _ _) rfl) rfl rfl rfl (nle rfl) rfl) <|
      ils_end ?_)
    refine iwp_reg (ils_cons rfl (iop_makeFunc rfl rfl (by decide) (.cons (sv (d := .ref _ _) rfl) (.cons (sv (d := .ref _ _) rfl) .nil))) <|
      ils_cons rfl (iop_assign rfl rfl (by decide) (sv (d := .fn 44 [.ref _ _, .ref _ _]) rfl)) <|
      ils_end ?_)
    refine iwp_reg (ils_cons rfl (iop_assign rfl rfl (by decide) (sv (d := .nils) rfl)) <|
      ils_end ?_)
    refine iwp_seq ?_
    refine iwp_reg (ils_cons rfl (iop_fieldAddr_ref rfl rfl (by decide) Try.underlying27 rfl ti22 (by decide) (sv (d := .ref _ _) rfl) (off' := 3) rfl) <|
      ils_cons rfl (iop_load_rs (d := .slice _ _) rfl rfl (by decide) Try.underlying22 ag22 ti22 (by decide) (sv (d := .ref _ _) rfl) rfl (nle rfl) rfl) <|
      ils_cons rfl (iop_lenT (eInt .i64) (l := a0.Live) rfl rfl (by decide) Try.underlying22 (sv (d := .slice _ _) rfl)) <|
      ils_cons rfl (iop_move rfl rfl (by decide) (sv (d := .int _ 0) rfl)) <|
      ils_end ?_)
    refine iwp_block ?_
    refine iwp_loopP (α := Nat × (List Int) × Int) (fun z => ⟨[(4, .ref 2 0), (7, .ref 5 0), (8, .fn 44 [.ref 1 0, .ref 0 0]), (9, .osl 27 (eInt .i64).sz z.2.1.length), (38, .slice false (a0.Live.map (eInt .i64).d)), (39, .int .i64 (a0.Live.length : Int)), (40, .int .i64 z.2.2)], [(2, .blk 27 [.bool false, .int .i64 0, .int .i64 0, .slice false (([] : List Int).map (eInt .i64).d), .slice false (([] : List Int).map (eInt .i64).d), .int .i64 0, .int .i64 0, .int .i64 0, .int .i64 0]), (5, .blk 27 [.bool x1.1, .int .i64 x1.2.1, .int .i64 x1.2.2.1, .osl 3 (eInt .i64).sz x1.2.2.2.1.length, .osl 4 (eInt .i64).sz x1.2.2.2.2.1.length, .int .i64 x1.2.2.2.2.2.1, .int .i64 x1.2.2.2.2.2.2.1, .int .i64 a1, .int .i64 x1.2.2.2.2.2.2.2.2]), (1, .blk 3 [.int .i64 a1]), (0, .blk 27 [.bool a0.Odd, .int .i64 a0.Next, .int .i64 a0.Last, .slice false (a0.Live.map (eInt .i64).d), .slice false (a0.Cut.map (eInt .i64).d), .int .i64 a0.Mine, .int .i64 a0.Hers, .int .i64 a0.Heard, .int .i64 a0.Told]), (27, .blk 3 (D.flat (z.2.1.map (eInt .i64).d))), (3, .blk 3 (D.flat (x1.2.2.2.1.map (eInt .i64).d))), (4, .blk 3 (D.flat (x1.2.2.2.2.1.map (eInt .i64).d)))]⟩) (fun z => stid_Away_L0 a0 a1 x1 z.1 z.2.1 z.2.2 = some r) (fun z => z.1) (fuel, ([] : (List Int)), 0) (fun i => if i = 27 then 83 else i) ⟨(.cons (.same rfl rfl) (.cons (.same rfl rfl) (.cons (.same rfl rfl) (.cons (.nilo rfl) (.cons (.same rfl rfl) (.cons (.same rfl rfl) (.cons (.same rfl rfl) .nil))))))), (.cons (.blk rfl rfl rfl) (.cons (.blk rfl rfl rfl) (.cons (.blk rfl rfl rfl) (.cons (.blk rfl rfl rfl) (.cons (.nilb rfl) (.cons (EntW.lst rfl) (.cons (EntW.lst rfl) .nil))))))), nd_of [2, 5, 1, 0, 83, 3, 4] rfl (by decide), (fun i hi => by first | rfl | (show (if _ then _ else _) = _; (repeat' split) <;> omega))⟩ ?_ ?_
    · exact h
    ·
      rintro ⟨n0, v19, v20⟩ h
      cases n0 with
      | zero => exact absurd h (by unfold stid_Away_L0; exact nofun)
      | succ n0 =>
        unfold stid_Away_L0 at h
        obtain ⟨x29, hx29, h⟩ := bnd_e h
        refine iwp_reg (ils_cons rfl (iop_cmpx rfl rfl (by decide) (sv (d := .int _ _) rfl) (sv (d := .int _ _) rfl) rfl hx29) <|
          ils_end ?_)
        refine iwp_seq ?_
        refine iwp_cond (b := _) rfl (fun hc30 => ?_) (fun hc30 => ?_)
        ·
          replace h := bif_t h hc30
          refine iwp_skip ?_
          refine thenQ_n ?_
          refine iwp_seq ?_
          refine iwp_block ?_
          obtain ⟨x31, hx31, h⟩ := bno_e h
          refine iwp_reg (ils_cons rfl (iop_idxT (eInt .i64) (cs := [.int _ _]) rfl rfl (by decide) Try.underlying22 ti3 (sv (d := .slice _ _) rfl) (sv (d := .int _ _) rfl) hx31 rfl rfl) <|
            ils_cons rfl (iop_load_fs rfl rfl (by decide) Try.underlying3 ag3 ti3 (by decide) (sv (d := .fptr [.int _ _]) rfl) (nle rfl)) <|
            ils_cons rfl (iop_assign rfl rfl (by decide) (sv (d := .int _ _) rfl)) <|
            ils_end ?_)
          obtain ⟨x32, hx32, h⟩ := bno_e h
          refine iwp_reg (ils_cons rfl (iop_move rfl rfl (by decide) (sv (d := .fn 44 [.ref _ _, .ref _ _]) rfl)) <|
            ils_cons rfl (iop_move rfl rfl (by decide) (sv (d := .int _ _) rfl)) <|
            ils_cons rfl (iop_callvp (r := .bool x32) rfl rfl (by decide) cl44 (sv (d := .fn 44 [.ref _ _, .ref _ _]) rfl) (.cons (sv (d := .int _ _) rfl) .nil) (.cons (.refl _) (.cons (.ref rfl rfl (fdl_refl _) rfl) (.cons (.ref rfl rfl (fdl_refl _) rfl) .nil))) rfl rfl (p_stid_Away_1 _ _ _ _ hx32)) <|
            ils_end ?_)
          refine iwp_cond (b := _) rfl (fun hc33 => ?_) (fun hc33 => ?_)
          ·
            replace h := bif_t h hc33
            obtain ⟨x34, hx34, h⟩ := bno_e h
            refine iwp_region (ils_cons rfl (iop_move rfl rfl (by decide) (sv (d := .osl _ _ _) rfl)) <|
              ils_cons rfl (iop_move rfl rfl (by decide) (sv (d := .int _ _) rfl)) <|
              ils_cons rfl (iop_bsO (eInt .i64).toEnc0 ([x31] : (List Int)) 28 rfl rfl (by decide) Try.underlying22 ti3 rfl (.cons (sv (d := .int _ _) rfl) .nil) rfl rfl (by decide)) <|
              ils_cons rfl (iop_appO (eInt .i64).toEnc0 29 rfl rfl (by decide) Try.underlying22 ti3 rfl rfl rfl rfl rfl (src_O (eInt .i64).toEnc0 rfl rfl rfl) hx34) <|
              ils_cons rfl (iop_assign rfl rfl (by decide) (sv (d := .osl _ _ _) rfl)) <|
              ils_nil ?_)
            refine blockQ_n ?_
            refine thenQ_n ?_
            obtain ⟨x35, hx35, h⟩ := bnd_e h
            refine iwp_region (ils_cons rfl (iop_intx rfl rfl (by decide) (sv (d := .int _ _) rfl) (sv (d := .int _ 1) rfl) rfl hx35) <|
              ils_cons rfl (iop_move rfl rfl (by decide) (sv (d := .int _ _) rfl)) <|
              ils_nil ?_)
            refine thenQ_n ⟨(n0, x34, x35), (fun i => if i = 27 then 29 else i), ⟨(.cons (.same rfl rfl) (.cons (.same rfl rfl) (.cons (.same rfl rfl) (.cons (.same rfl rfl) (.cons (.same rfl rfl) (.cons (.same rfl rfl) (.cons (.same rfl rfl) .nil))))))), (.cons (.blk rfl rfl rfl) (.cons (.blk rfl rfl rfl) (.cons (.blk rfl rfl rfl) (.cons (.blk rfl rfl rfl) (.cons (EntW.lst rfl) (.cons (EntW.lst rfl) (.cons (EntW.lst rfl) .nil))))))), nd_of [2, 5, 1, 0, 29, 3, 4] rfl (by decide), (fun i hi => by first | rfl | (show (if _ then _ else _) = _; (repeat' split) <;> omega))⟩, ?_, ?_⟩
            exact h
            exact Nat.lt_succ_self _
          ·
            replace h := bif_f h hc33
            refine iwp_skip ?_
            refine blockQ_n ?_
            refine thenQ_n ?_
            obtain ⟨x36, hx36, h⟩ := bnd_e h
            refine iwp_region (ils_cons rfl (iop_intx rfl rfl (by decide) (sv (d := .int _ _) rfl) (sv (d := .int _ 1) rfl) rfl hx36) <|
              ils_cons rfl (iop_move rfl rfl (by decide) (sv (d := .int _ _) rfl)) <|
              ils_nil ?_)
            refine thenQ_n ⟨(n0, v19, x36), (fun i => i), ⟨(.cons (.same rfl rfl) (.cons (.same rfl rfl) (.cons (.same rfl rfl) (.cons (.same rfl rfl) (.cons (.same rfl rfl) (.cons (.same rfl rfl) (.cons (.same rfl rfl) .nil))))))), (.cons (.blk rfl rfl rfl) (.cons (.blk rfl rfl rfl) (.cons (.blk rfl rfl rfl) (.cons (.blk rfl rfl rfl) (.cons (EntW.lst rfl) (.cons (EntW.lst rfl) (.cons (EntW.lst rfl) .nil))))))), nd_of [2, 5, 1, 0, 27, 3, 4] rfl (by decide), (fun i hi => by first | rfl | (show (if _ then _ else _) = _; (repeat' split) <;> omega))⟩, ?_, ?_⟩
            exact h
            exact Nat.lt_succ_self _
        ·
          replace h := bif_f h hc30
          refine iwp_exit ?_
          refine thenQ_e ?_
          refine thenQ_e ?_
          refine blockQ_e ?_
          refine thenQ_n ?_
          obtain ⟨x37, hx37, h⟩ := bno_e h
          refine iwp_reg (ils_cons rfl (iop_fieldAddr_ref rfl rfl (by decide) Try.underlying27 rfl ti22 (by decide) (sv (d := .ref _ _) rfl) (off' := 3) rfl) <|
            ils_cons rfl (iop_load_rs (d := .osl _ _ _) rfl rfl (by decide) Try.underlying22 ag22 ti22 (by decide) (sv (d := .ref _ _) rfl) rfl (nle rfl) rfl) <|
            ils_cons rfl (iop_move rfl rfl (by decide) (sv (d := .fn 44 [.ref _ _, .ref _ _]) rfl)) <|
            ils_cons rfl (iop_callh2 (r' := .osl 28 (eInt .i64).sz x37.length) (H1' := [(1, .blk 3 [.int .i64 a1]), (0, .blk 27 [.bool a0.Odd, .int .i64 a0.Next, .int .i64 a0.Last, .slice false (a0.Live.map (eInt .i64).d), .slice false (a0.Cut.map (eInt .i64).d), .int .i64 a0.Mine, .int .i64 a0.Hers, .int .i64 a0.Heard, .int .i64 a0.Told]), (28, .blk 3 (D.flat (x37.map (eInt .i64).d)))]) 28 [3, 1, 0] rfl rfl (by decide) cl45 (.cons (sv (d := .osl _ _ _) rfl) (.cons (sv (d := .fn 44 [.ref _ _, .ref _ _]) rfl) .nil)) rfl rfl ⟨rfl, rfl, by decide, rfl, List.forall_mem_cons.2 ⟨⟨rfl, rfl, (handL (eInt .i64) rfl), (handLr (eInt .i64))⟩, List.forall_mem_cons.2 ⟨⟨rfl, rfl, rfl, rfl⟩, List.forall_mem_cons.2 ⟨⟨rfl, rfl, rfl, rfl⟩, List.forall_mem_nil _⟩⟩⟩⟩ (p_slices_DeleteFunc_int_int_h_Away_1 _ _ _ _ hx37) rfl rfl (List.forall_mem_cons.2 ⟨⟨rfl, rfl⟩, List.forall_mem_cons.2 ⟨⟨rfl, rfl⟩, List.forall_mem_cons.2 ⟨⟨rfl, (handLr (eInt .i64))⟩, List.forall_mem_nil _⟩⟩⟩) (by simp only [List.map_cons, List.map_nil, Ent.ren, renL_flat, renL_ref]; rfl)) <|
            ils_cons rfl (iop_fieldAddr_ref rfl rfl (by decide) Try.underlying27 rfl ti22 (by decide) (sv (d := .ref _ _) rfl) (off' := 3) rfl) <|
            ils_cons rfl (iop_store (ds' := [.bool _, .int _ _, .int _ _, .osl _ _ _, .osl _ _ _, .int _ _, .int _ _, .int _ _, .int _ _]) rfl rfl ti22 (sv (d := .ref _ _) rfl) rfl (sv (d := .osl _ _ _) rfl) rfl rfl rfl (nle rfl) rfl) <|
            ils_end ?_)
          refine iwp_reg (ils_cons rfl (iop_load_ra (cs := [.bool _, .int _ _, .int _ _, .osl _ _ _, .osl _ _ _, .int _ _, .int _ _, .int _ _, .int _ _]) rfl rfl (by decide) Try.underlying27 ag27 ti27 (by decide) (sv (d := .ref _ _) rfl) rfl (nle rfl) rfl) <|
            ils_cons rfl (iop_move rfl rfl (by decide) (sv (d := .osl _ _ _) rfl)) <|
            ils_cons rfl (iop_store (ds' := [.bool _, .int _ _, .int _ _, .osl _ _ _, .osl _ _ _, .int _ _, .int _ _, .int _ _, .int _ _]) rfl rfl ti27 (sv (d := .ref _ _) rfl) rfl (sv (d := .agg [.bool _, .int _ _, .int _ _, .osl _ _ _, .osl _ _ _, .int _ _, .int _ _, .int _ _, .int _ _]) rfl) rfl rfl rfl (nle rfl) rfl) <|
            ils_cons rfl (iop_assign rfl rfl (by decide) (sv (d := .osl _ _ _) rfl)) <|
            ils_cons rfl (iop_assign rfl rfl (by decide) (sv (d := .bool true) rfl)) <|
            ils_end ?_)
          refine iwp_ret ?_
          obtain rfl := Option.some.inj h
          refine ⟨.inr rfl, _, (.cons (resv_a rfl rfl Try.underlying27 ag27 ti27 (by decide) (nle rfl) rfl) (.cons (sv rfl) (.cons (sv rfl) .nil))), (.cons (.agg (.cons (.refl _) (.cons (.refl _) (.cons (.refl _) (.cons (FDT (eInt .i64) rfl rfl) (.cons (FDT (eInt .i64) rfl rfl) (.cons (.refl _) (.cons (.refl _) (.cons (.refl _) (.cons (.refl _) .nil)))))))))) (.cons (FDT (eInt .i64) rfl rfl) (.cons (.refl _) .nil)))⟩

set_option maxRecDepth 8000 in
set_option maxHeartbeats 2000000 in
theorem p_stid_Shut (a0 : T_stid_State) (r : (T_stid_State × Int)) (h : stid_Shut a0 = some r) : PureAt Try.prog 16 [.agg [.bool a0.Odd, .int .i64 a0.Next, .int .i64 a0.Last, .slice false (a0.Live.map (eInt .i64).d), .slice false (a0.Cut.map (eInt .i64).d), .int .i64 a0.Mine, .int .i64 a0.Hers, .int .i64 a0.Heard, .int .i64 a0.Told]] (retD [.agg [.bool r.1.Odd, .int .i64 r.1.Next, .int .i64 r.1.Last, .slice false (r.1.Live.map (eInt .i64).d), .slice false (r.1.Cut.map (eInt .i64).d), .int .i64 r.1.Mine, .int .i64 r.1.Hers, .int .i64 r.1.Heard, .int .i64 r.1.Told], .int .i64 r.2]) := by
  refine pure_of_iwpF (rs := [.agg [.bool r.1.Odd, .int .i64 r.1.Next, .int .i64 r.1.Last, .slice false (r.1.Live.map (eInt .i64).d), .slice false (r.1.Cut.map (eInt .i64).d), .int .i64 r.1.Mine, .int .i64 r.1.Hers, .int .i64 r.1.Heard, .int .i64 r.1.Told], .int .i64 r.2]) Try.func16 rfl Try.ntmps16 (nle rfl) rfl fun O hO => ?_
  show IWP _ _ _ _ ⟨[(0, .agg [.bool a0.Odd, .int .i64 a0.Next, .int .i64 a0.Last, .slice false (a0.Live.map (eInt .i64).d), .slice false (a0.Cut.map (eInt .i64).d), .int .i64 a0.Mine, .int .i64 a0.Hers, .int .i64 a0.Heard, .int .i64 a0.Told])], []⟩ _
  unfold stid_Shut at h
  refine iwp_reg (ils_cons rfl (iop_box' (cs := [.bool _, .int _ _, .int _ _, .slice _ _, .slice _ _, .int _ _, .int _ _, .int _ _, .int _ _]) 0 rfl rfl (by decide) rfl (sv (d := .agg [.bool _, .int _ _, .int _ _, .slice _ _, .slice _ _, .int _ _, .int _ _, .int _ _, .int _ _]) rfl) rfl rfl) <|
    ils_cons rfl (iop_allocS (cs := [.bool _, .int _ _, .int _ _, .nils, .nils, .int _ _, .int _ _, .int _ _, .int _ _]) (cs' := [.bool false, .int .i64 0, .int .i64 0, .slice false (([] : List Int).map (eInt .i64).d), .slice false (([] : List Int).map (eInt .i64).d), .int .i64 0, .int .i64 0, .int .i64 0, .int .i64 0]) 1 rfl rfl (by decide) rfl ti27 rfl rfl (.cons (.refl _) (.cons (.refl _) (.cons (.refl _) (.cons (.nils _) (.cons (.nils _) (.cons (.refl _) (.cons (.refl _) (.cons (.refl _) (.cons (.refl _) .nil)))))))))) <|
    ils_cons rfl (iop_assign rfl rfl (by decide) (sv (d := .int _ 0) rfl)) <|
    ils_end ?_)
  obtain ⟨x1, hx1, h⟩ := bno_e h
  refine iwp_reg (ils_cons rfl (iop_load_ra (cs := [.bool _, .int _ _, .int _ _, .slice _ _, .slice _ _, .int _ _, .int _ _, .int _ _, .int _ _]) rfl rfl (by decide) Try.underlying27 ag27 ti27 (by decide) (sv (d := .ref _ _) rfl) rfl (nle rfl) rfl) <|
    ils_cons rfl (iop_callh2 (r' := .agg [.bool x1.1, .int .i64 x1.2.1, .int .i64 x1.2.2.1, .osl 2 (eInt .i64).sz x1.2.2.2.1.length, .osl 3 (eInt .i64).sz x1.2.2.2.2.1.length, .int .i64 x1.2.2.2.2.2.1, .int .i64 x1.2.2.2.2.2.2.1, .int .i64 x1.2.2.2.2.2.2.2.1, .int .i64 x1.2.2.2.2.2.2.2.2]) (H1' := [(2, .blk 3 (D.flat (x1.2.2.2.1.map (eInt .i64).d))), (3, .blk 3 (D.flat (x1.2.2.2.2.1.map (eInt .i64).d)))]) 2 [] rfl rfl (by decide) cl28 (.cons (sv (d := .agg [.bool _, .int _ _, .int _ _, .slice _ _, .slice _ _, .int _ _, .int _ _, .int _ _, .int _ _]) rfl) .nil) rfl rfl ⟨rfl, rfl, by decide, rfl, List.forall_mem_nil _⟩ (p_stid_State_own_h _ _ hx1) rfl rfl (List.forall_mem_cons.2 ⟨⟨rfl, (handLr (eInt .i64))⟩, List.forall_mem_cons.2 ⟨⟨rfl, (handLr (eInt .i64))⟩, List.forall_mem_nil _⟩⟩) (by simp only [List.map_cons, List.map_nil, Ent.ren, renL_flat, renL_ref]; rfl)) <|
    ils_cons rfl (iop_allocS (cs := [.bool _, .int _ _, .int _ _, .nils, .nils, .int _ _, .int _ _, .int _ _, .int _ _]) (cs' := [.bool false, .int .i64 0, .int .i64 0, .slice false (([] : List Int).map (eInt .i64).d), .slice false (([] : List Int).map (eInt .i64).d), .int .i64 0, .int .i64 0, .int .i64 0, .int .i64 0]) 4 rfl rfl (by decide) rfl ti27 rfl rfl (.cons (.refl _) (.cons (.refl _) (.cons (.refl _) (.cons (.nils _) (.cons (.nils _) (.cons (.refl _) (.cons (.refl _) (.cons (.refl _) (.cons (.refl _) .nil)))))))))) <|
    ils_cons rfl (iop_store (ds' := [.bool _, .int _ _, .int _ _, .osl _ _ _, .osl _ _ _, .int _ _, .int _ _, .int _ _, .int _ _]) rfl rfl ti27 (sv (d := .ref _ _) rfl) rfl (sv (d := .agg [.bool _, .int _ _, .int _ _, .osl _ _ _, .osl _ _ _, .int _ _, .int _ _, .int _ _, .int _ _]) rfl) rfl rfl rfl (nle rfl) rfl) <|
    ils_end ?_)
  refine iwp_seq ?_
  obtain ⟨x2, hx2, h⟩ := bno_e h
  obtain ⟨x3, hx3, h⟩ := bnd_e h
  refine iwp_reg (ils_cons rfl (iop_load_ra (cs := [.bool _, .int _ _, .int _ _, .slice _ _, .slice _ _, .int _ _, .int _ _, .int _ _, .int _ _]) rfl rfl (by decide) Try.underlying27 ag27 ti27 (by decide) (sv (d := .ref _ _) rfl) rfl (nle rfl) rfl) <|
    ils_cons rfl (iop_call (r := .int _ _) rfl rfl (by decide) cl26 (.cons (sv (d := .agg [.bool _, .int _ _, .int _ _, .slice _ _, .slice _ _, .int _ _, .int _ _, .int _ _, .int _ _]) rfl) .nil) rfl (p_stid_Check _ _ hx2)) <|
    ils_cons rfl (iop_cmpx rfl rfl (by decide) (sv (d := .int _ _) rfl) (sv (d := .int _ 0) rfl) rfl hx3) <|
    ils_end ?_)
  refine iwp_cond (b := _) rfl (fun hc4 => ?_) (fun hc4 => ?_)
  ·
    replace h := bif_t h hc4
    refine iwp_reg (ils_cons rfl (iop_load_ra (cs := [.bool _, .int _ _, .int _ _, .osl _ _ _, .osl _ _ _, .int _ _, .int _ _, .int _ _, .int _ _]) rfl rfl (by decide) Try.underlying27 ag27 ti27 (by decide) (sv (d := .ref _ _) rfl) rfl (nle rfl) rfl) <|
      ils_cons rfl (iop_store (ds' := [.bool _, .int _ _, .int _ _, .osl _ _ _, .osl _ _ _, .int _ _, .int _ _, .int _ _, .int _ _]) rfl rfl ti27 (sv (d := .ref _ _) rfl) rfl (sv (d := .agg [.bool _, .int _ _, .int _ _, .osl _ _ _, .osl _ _ _, .int _ _, .int _ _, .int _ _, .int _ _]) rfl) rfl rfl rfl (nle rfl) rfl) <|
      ils_cons rfl (iop_assign rfl rfl (by decide) (sv (d := .int _ (-1)) rfl)) <|
      ils_end ?_)
    refine iwp_ret ?_
    refine thenQ_r ?_
    obtain rfl := Option.some.inj h
    refine ⟨.inr rfl, _, (.cons (resv_a rfl rfl Try.underlying27 ag27 ti27 (by decide) (nle rfl) rfl) (.cons (sv rfl) .nil)), (.cons (.agg (.cons (.refl _) (.cons (.refl _) (.cons (.refl _) (.cons (FDT (eInt .i64) rfl rfl) (.cons (FDT (eInt .i64) rfl rfl) (.cons (.refl _) (.cons (.refl _) (.cons (.refl _) (.cons (.refl _) .nil)))))))))) (.cons (.refl _) .nil))⟩
  ·
    replace h := bif_f h hc4
    refine iwp_skip ?_
    refine thenQ_n ?_
    refine iwp_join (α := Int) (fun z => ⟨[(2, .ref 1 0), (4, .ref 4 0)], [(1, .blk 27 [.bool false, .int .i64 0, .int .i64 0, .slice false (([] : List Int).map (eInt .i64).d), .slice false (([] : List Int).map (eInt .i64).d), .int .i64 0, .int .i64 0, .int .i64 0, .int .i64 0]), (4, .blk 27 [.bool x1.1, .int .i64 x1.2.1, .int .i64 x1.2.2.1, .osl 2 (eInt .i64).sz x1.2.2.2.1.length, .osl 3 (eInt .i64).sz x1.2.2.2.2.1.length, .int .i64 x1.2.2.2.2.2.1, .int .i64 x1.2.2.2.2.2.2.1, .int .i64 x1.2.2.2.2.2.2.2.1, .int .i64 z]), (2, .blk 3 (D.flat (x1.2.2.2.1.map (eInt .i64).d))), (3, .blk 3 (D.flat (x1.2.2.2.2.1.map (eInt .i64).d)))]⟩) (fun z => stid_Shut_J0 x1 z = some r) ?_ ?_
    ·
      obtain ⟨x8, hx8, h⟩ := bnd_e h
      refine iwp_reg (ils_cons rfl (iop_fieldAddr_ref rfl rfl (by decide) Try.underlying27 rfl ti3 (by decide) (sv (d := .ref _ _) rfl) (off' := 8) rfl) <|
        ils_cons rfl (iop_load_rs (d := .int _ _) rfl rfl (by decide) Try.underlying3 ag3 ti3 (by decide) (sv (d := .ref _ _) rfl) rfl (nle rfl) rfl) <|
        ils_cons rfl (iop_cmpx rfl rfl (by decide) (sv (d := .int _ _) rfl) (sv (d := .int _ (-1)) rfl) rfl hx8) <|
        ils_end ?_)
      refine iwp_cond (b := _) rfl (fun hc9 => ?_) (fun hc9 => ?_)
      ·
        replace h := bif_t h hc9
        refine iwp_region (ils_cons rfl (iop_fieldAddr_ref rfl rfl (by decide) Try.underlying27 rfl ti3 (by decide) (sv (d := .ref _ _) rfl) (off' := 2) rfl) <|
          ils_cons rfl (iop_load_rs (d := .int _ _) rfl rfl (by decide) Try.underlying3 ag3 ti3 (by decide) (sv (d := .ref _ _) rfl) rfl (nle rfl) rfl) <|
          ils_cons rfl (iop_fieldAddr_ref rfl rfl (by decide) Try.underlying27 rfl ti3 (by decide) (sv (d := .ref _ _) rfl) (off' := 8) rfl) <|
          ils_cons rfl (iop_store (ds' := [.bool _, .int _ _, .int _ _, .osl _ _ _, .osl _ _ _, .int _ _, .int _ _, .int _ _, .int _ _]) rfl rfl ti3 (sv (d := .ref _ _) rfl) rfl (sv (d := .int _ _) rfl) rfl rfl rfl (nle rfl) rfl) <|
          ils_nil ?_)
        refine thenQ_n ⟨x1.2.2.1, (fun i => i), ⟨(.cons (.same rfl rfl) (.cons (.same rfl rfl) .nil)), (.cons (.blk rfl rfl rfl) (.cons (.blk rfl rfl rfl) (.cons (EntW.lst rfl) (.cons (EntW.lst rfl) .nil)))), nd_of [1, 4, 2, 3] rfl (by decide), (fun i hi => by first | rfl | (show (if _ then _ else _) = _; (repeat' split) <;> omega))⟩, ?_⟩
        exact h
      ·
        replace h := bif_f h hc9
        refine iwp_skip ?_
        refine thenQ_n ⟨x1.2.2.2.2.2.2.2.2, (fun i => i), ⟨(.cons (.same rfl rfl) (.cons (.same rfl rfl) .nil)), (.cons (.blk rfl rfl rfl) (.cons (.blk rfl rfl rfl) (.cons (EntW.lst rfl) (.cons (EntW.lst rfl) .nil)))), nd_of [1, 4, 2, 3] rfl (by decide), (fun i hi => by first | rfl | (show (if _ then _ else _) = _; (repeat' split) <;> omega))⟩, ?_⟩
        exact h
    ·
      rintro v7 h
      unfold stid_Shut_J0 at h
      refine iwp_drw rfl [⟨[4], [4], [(17, .agg [.bool x1.1, .int .i64 x1.2.1, .int .i64 x1.2.2.1, .osl 2 (eInt .i64).sz x1.2.2.2.1.length, .osl 3 (eInt .i64).sz x1.2.2.2.2.1.length, .int .i64 x1.2.2.2.2.2.1, .int .i64 x1.2.2.2.2.2.2.1, .int .i64 x1.2.2.2.2.2.2.2.1, .int .i64 v7])], []⟩,
        ⟨[4], [], [(18, .ref 4 8)], []⟩,
        ⟨[18], [4], [(19, .int .i64 v7)], []⟩,
        ⟨[2, 17], [1], [], [(1, .blk 27 [.bool x1.1, .int .i64 x1.2.1, .int .i64 x1.2.2.1, .osl 2 (eInt .i64).sz x1.2.2.2.1.length, .osl 3 (eInt .i64).sz x1.2.2.2.2.1.length, .int .i64 x1.2.2.2.2.2.1, .int .i64 x1.2.2.2.2.2.2.1, .int .i64 x1.2.2.2.2.2.2.2.1, .int .i64 v7])]⟩,
        ⟨[19], [], [(3, .int .i64 v7)], []⟩] rfl ?_ (by kernel_rfl) ?_
      · refine .cons (lop rfl rfl fun S hA => (iop_load_ra (cs := [.bool _, .int _ _, .int _ _, .osl _ _ _, .osl _ _ _, .int _ _, .int _ _, .int _ _, .int _ _]) rfl rfl (by decide) Try.underlying27 ag27 ti27 (by decide) (sv (d := .ref _ _) (agr hA rfl rfl)) (agi hA rfl rfl) (nle rfl) rfl)) ?_
        refine .cons (lop rfl rfl fun S hA => (iop_fieldAddr_ref rfl rfl (by decide) Try.underlying27 rfl ti3 (by decide) (sv (d := .ref _ _) (agr hA rfl rfl)) (off' := 8) rfl)) ?_
        refine .cons (lop rfl rfl fun S hA => (iop_load_rs (d := .int _ _) rfl rfl (by decide) Try.underlying3 ag3 ti3 (by decide) (sv (d := .ref _ _) (agr hA rfl rfl)) (agi hA rfl rfl) (nle rfl) rfl)) ?_
        refine .cons (lop rfl rfl fun S hA => (iop_store (ds' := [.bool _, .int _ _, .int _ _, .osl _ _ _, .osl _ _ _, .int _ _, .int _ _, .int _ _, .int _ _]) rfl rfl ti27 (sv (d := .ref _ _) (agr hA rfl rfl)) (agi hA rfl rfl) (sv (d := .agg [.bool _, .int _ _, .int _ _, .osl _ _ _, .osl _ _ _, .int _ _, .int _ _, .int _ _, .int _ _]) (agr hA rfl rfl)) rfl rfl rfl (nle rfl) rfl)) ?_
        refine .cons (lop rfl rfl fun S hA => (iop_assign rfl rfl (by decide) (sv (d := .int _ _) (agr hA rfl rfl)))) ?_
        exact .nil
      refine iwp_ret ?_
      obtain rfl := Option.some.inj h
      refine ⟨.inr rfl, _, (.cons (resv_a rfl rfl Try.underlying27 ag27 ti27 (by decide) (nle rfl) rfl) (.cons (sv rfl) .nil)), (.cons (.agg (.cons (.refl _) (.cons (.refl _) (.cons (.refl _) (.cons (FDT (eInt .i64) rfl rfl) (.cons (FDT (eInt .i64) rfl rfl) (.cons (.refl _) (.cons (.refl _) (.cons (.refl _) (.cons (.refl _) .nil)))))))))) (.cons (.refl _) .nil))⟩

set_option maxRecDepth 8000 in
set_option maxHeartbeats 2000000 in
theorem p_sennitref02_SameInts (a0 : (List Int)) (a1 : (List Int)) (r : Bool) (h : sennitref02_SameInts a0 a1 = some r) : PureAt Try.prog 21 [.slice false (a0.map (eInt .i64).d), .slice false (a1.map (eInt .i64).d)] (.bool r) := by
  refine pure_of_iwp (rs := [.bool r]) Try.func21 rfl Try.ntmps21 (nle rfl) rfl fun O hO => ?_
  show IWP _ _ _ _ ⟨[(0, .slice false (a0.map (eInt .i64).d)), (1, .slice false (a1.map (eInt .i64).d))], []⟩ _
  unfold sennitref02_SameInts at h
  refine iwp_reg (ils_cons rfl (iop_assign rfl rfl (by decide) (sv (d := .bool false) rfl)) <|
    ils_end ?_)
  refine iwp_seq ?_
  obtain ⟨x1, hx1, h⟩ := bnd_e h
  refine iwp_reg (ils_cons rfl (iop_move rfl rfl (by decide) (sv (d := .slice _ _) rfl)) <|
    ils_cons rfl (iop_lenT (eInt .i64) (l := a0) rfl rfl (by decide) Try.underlying22 (sv (d := .slice _ _) rfl)) <|
    ils_cons rfl (iop_move rfl rfl (by decide) (sv (d := .slice _ _) rfl)) <|
    ils_cons rfl (iop_lenT (eInt .i64) (l := a1) rfl rfl (by decide) Try.underlying22 (sv (d := .slice _ _) rfl)) <|
    ils_cons rfl (iop_cmpx rfl rfl (by decide) (sv (d := .int _ _) rfl) (sv (d := .int _ _) rfl) rfl hx1) <|
    ils_end ?_)
  refine iwp_cond (b := _) rfl (fun hc2 => ?_) (fun hc2 => ?_)
  ·
    replace h := bif_t h hc2
    refine iwp_reg (ils_cons rfl (iop_assign rfl rfl (by decide) (sv (d := .bool false) rfl)) <|
      ils_end ?_)
    refine iwp_ret ?_
    refine thenQ_r ?_
    obtain rfl := Option.some.inj h
    refine ⟨.inr rfl, (.cons (sv rfl) .nil)⟩
  ·
    replace h := bif_f h hc2
    refine iwp_skip ?_
    refine thenQ_n ?_
    refine iwp_seq ?_
    refine iwp_reg (ils_cons rfl (iop_assign rfl rfl (by decide) (sv (d := .int _ 0) rfl)) <|
      ils_end ?_)
    refine iwp_block ?_
    refine iwp_loopP (α := Nat × Int) (fun z => ⟨[(0, .slice false (a0.map (eInt .i64).d)), (1, .slice false (a1.map (eInt .i64).d)), (5, .int .i64 z.2)], []⟩) (fun z => sennitref02_SameInts_L0 a0 a1 z.1 z.2 = some r) (fun z => z.1) (fuel, 0) (fun i => i) ⟨(.cons (.same rfl rfl) (.cons (.same rfl rfl) (.cons (.same rfl rfl) .nil))), .nil, nd_of [] rfl (by decide), (fun i hi => by first | rfl | (show (if _ then _ else _) = _; (repeat' split) <;> omega))⟩ ?_ ?_
    · exact h
    ·
      rintro ⟨n0, v10⟩ h
      cases n0 with
      | zero => exact absurd h (by unfold sennitref02_SameInts_L0; exact nofun)
      | succ n0 =>
        unfold sennitref02_SameInts_L0 at h
        refine iwp_seq ?_
        obtain ⟨x18, hx18, h⟩ := bnd_e h
        refine iwp_reg (ils_cons rfl (iop_move rfl rfl (by decide) (sv (d := .int _ _) rfl)) <|
          ils_cons rfl (iop_move rfl rfl (by decide) (sv (d := .slice _ _) rfl)) <|
          ils_cons rfl (iop_lenT (eInt .i64) (l := a0) rfl rfl (by decide) Try.underlying22 (sv (d := .slice _ _) rfl)) <|
          ils_cons rfl (iop_cmpx rfl rfl (by decide) (sv (d := .int _ _) rfl) (sv (d := .int _ _) rfl) rfl hx18) <|
          ils_end ?_)
        refine iwp_cond (b := _) rfl (fun hc19 => ?_) (fun hc19 => ?_)
        ·
          replace h := bif_t h hc19
          refine iwp_skip ?_
          refine thenQ_n ?_
          refine iwp_seq ?_
          refine iwp_block ?_
          obtain ⟨x20, hx20, h⟩ := bno_e h
          obtain ⟨x21, hx21, h⟩ := bno_e h
          obtain ⟨x22, hx22, h⟩ := bnd_e h
          refine iwp_drw rfl [⟨[0], [], [(17, .slice false (a0.map (eInt .i64).d))], []⟩,
            ⟨[5], [], [(18, .int .i64 v10)], []⟩,
            ⟨[17, 18], [], [(19, .fptr [.int .i64 x20])], []⟩,
            ⟨[19], [], [(20, .int .i64 x20)], []⟩,
            ⟨[1], [], [(21, .slice false (a1.map (eInt .i64).d))], []⟩,
            ⟨[5], [], [(22, .int .i64 v10)], []⟩,
            ⟨[21, 22], [], [(23, .fptr [.int .i64 x21])], []⟩,
            ⟨[23], [], [(24, .int .i64 x21)], []⟩,
            ⟨[20, 24], [], [(25, .bool x22)], []⟩] rfl ?_ (by kernel_rfl) ?_
          · refine .cons (lop rfl rfl fun S hA => (iop_move rfl rfl (by decide) (sv (d := .slice _ _) (agr hA rfl rfl)))) ?_
            refine .cons (lop rfl rfl fun S hA => (iop_move rfl rfl (by decide) (sv (d := .int _ _) (agr hA rfl rfl)))) ?_
            refine .cons (lop rfl rfl fun S hA => (iop_idxT (eInt .i64) (cs := [.int _ _]) rfl rfl (by decide) Try.underlying22 ti3 (sv (d := .slice _ _) (agr hA rfl rfl)) (sv (d := .int _ _) (agr hA rfl rfl)) hx20 rfl rfl)) ?_
            refine .cons (lop rfl rfl fun S hA => (iop_load_fs rfl rfl (by decide) Try.underlying3 ag3 ti3 (by decide) (sv (d := .fptr [.int _ _]) (agr hA rfl rfl)) (nle rfl))) ?_
            refine .cons (lop rfl rfl fun S hA => (iop_move rfl rfl (by decide) (sv (d := .slice _ _) (agr hA rfl rfl)))) ?_
            refine .cons (lop rfl rfl fun S hA => (iop_move rfl rfl (by decide) (sv (d := .int _ _) (agr hA rfl rfl)))) ?_
            refine .cons (lop rfl rfl fun S hA => (iop_idxT (eInt .i64) (cs := [.int _ _]) rfl rfl (by decide) Try.underlying22 ti3 (sv (d := .slice _ _) (agr hA rfl rfl)) (sv (d := .int _ _) (agr hA rfl rfl)) hx21 rfl rfl)) ?_
            refine .cons (lop rfl rfl fun S hA => (iop_load_fs rfl rfl (by decide) Try.underlying3 ag3 ti3 (by decide) (sv (d := .fptr [.int _ _]) (agr hA rfl rfl)) (nle rfl))) ?_
            refine .cons (lop rfl rfl fun S hA => (iop_cmpx rfl rfl (by decide) (sv (d := .int _ _) (agr hA rfl rfl)) (sv (d := .int _ _) (agr hA rfl rfl)) rfl hx22)) ?_
            exact .nil
          refine iwp_cond (b := _) rfl (fun hc23 => ?_) (fun hc23 => ?_)
          ·
            replace h := bif_t h hc23
            refine iwp_reg (ils_cons rfl (iop_assign rfl rfl (by decide) (sv (d := .bool false) rfl)) <|
              ils_end ?_)
            refine iwp_ret ?_
            refine blockQ_r ?_
            refine thenQ_r ?_
            refine thenQ_r ?_
            refine blockQ_r ?_
            refine thenQ_r ?_
            obtain rfl := Option.some.inj h
            refine ⟨.inr rfl, (.cons (sv rfl) .nil)⟩
          ·
            replace h := bif_f h hc23
            refine iwp_skip ?_
            refine blockQ_n ?_
            refine thenQ_n ?_
            obtain ⟨x24, hx24, h⟩ := bnd_e h
            refine iwp_region (ils_cons rfl (iop_move rfl rfl (by decide) (sv (d := .int _ _) rfl)) <|
              ils_cons rfl (iop_intx rfl rfl (by decide) (sv (d := .int _ _) rfl) (sv (d := .int _ 1) rfl) rfl hx24) <|
              ils_cons rfl (iop_assign rfl rfl (by decide) (sv (d := .int _ _) rfl)) <|
              ils_nil ?_)
            refine thenQ_n ⟨(n0, x24), (fun i => i), ⟨(.cons (.same rfl rfl) (.cons (.same rfl rfl) (.cons (.same rfl rfl) .nil))), .nil, nd_of [] rfl (by decide), (fun i hi => by first | rfl | (show (if _ then _ else _) = _; (repeat' split) <;> omega))⟩, ?_, ?_⟩
            exact h
            exact Nat.lt_succ_self _
        ·
          replace h := bif_f h hc19
          refine iwp_exit ?_
          refine thenQ_e ?_
          refine thenQ_e ?_
          refine blockQ_e ?_
          refine thenQ_n ?_
          refine iwp_reg (ils_cons rfl (iop_assign rfl rfl (by decide) (sv (d := .bool true) rfl)) <|
            ils_end ?_)
          refine iwp_ret ?_
          obtain rfl := Option.some.inj h
          refine ⟨.inr rfl, (.cons (sv rfl) .nil)⟩

set_option maxRecDepth 8000 in
set_option maxHeartbeats 2000000 in
theorem p_stid_Class (a0 : T_stid_State) (a1 : Int) (r : Int) (h : stid_Class a0 a1 = some r) : PureAt Try.prog 23 [.agg [.bool a0.Odd, .int .i64 a0.Next, .int .i64 a0.Last, .slice false (a0.Live.map (eInt .i64).d), .slice false (a0.Cut.map (eInt .i64).d), .int .i64 a0.Mine, .int .i64 a0.Hers, .int .i64 a0.Heard, .int .i64 a0.Told], .int .i64 a1] (.int .u8 r) := by
  refine pure_of_iwp (rs := [.int .u8 r]) Try.func23 rfl Try.ntmps23 (nle rfl) rfl fun O hO => ?_
  show IWP _ _ _ _ ⟨[(0, .agg [.bool a0.Odd, .int .i64 a0.Next, .int .i64 a0.Last, .slice false (a0.Live.map (eInt .i64).d), .slice false (a0.Cut.map (eInt .i64).d), .int .i64 a0.Mine, .int .i64 a0.Hers, .int .i64 a0.Heard, .int .i64 a0.Told]), (1, .int .i64 a1)], []⟩ _
  unfold stid_Class at h
  refine iwp_reg (ils_cons rfl (iop_box' (cs := [.bool _, .int _ _, .int _ _, .slice _ _, .slice _ _, .int _ _, .int _ _, .int _ _, .int _ _]) 0 rfl rfl (by decide) rfl (sv (d := .agg [.bool _, .int _ _, .int _ _, .slice _ _, .slice _ _, .int _ _, .int _ _, .int _ _, .int _ _]) rfl) rfl rfl) <|
    ils_cons rfl (iop_assign rfl rfl (by decide) (sv (d := .int _ 0) rfl)) <|
    ils_end ?_)
  refine iwp_seq ?_
  refine iwp_block ?_
  obtain ⟨x1, hx1, h⟩ := bnd_e h
  refine iwp_reg (ils_cons rfl (iop_move rfl rfl (by decide) (sv (d := .int _ _) rfl)) <|
    ils_cons rfl (iop_cmpx rfl rfl (by decide) (sv (d := .int _ _) rfl) (sv (d := .int _ 0) rfl) rfl hx1) <|
    ils_cons rfl (iop_assign rfl rfl (by decide) (sv (d := .bool _) rfl)) <|
    ils_end ?_)
  refine iwp_cond (b := _) rfl (fun hc2 => ?_) (fun hc2 => ?_)
  ·
    replace h := bif_t h hc2
    refine iwp_reg (ils_cons rfl (iop_assign rfl rfl (by decide) (sv (d := .int _ 0) rfl)) <|
      ils_end ?_)
    refine iwp_ret ?_
    refine blockQ_r ?_
    refine thenQ_r ?_
    obtain rfl := Option.some.inj h
    refine ⟨.inr rfl, (.cons (sv rfl) .nil)⟩
  ·
    replace h := bif_f h hc2
    obtain ⟨x3, hx3, h⟩ := bno_e h
    refine iwp_reg (ils_cons rfl (iop_fieldAddr_ref rfl rfl (by decide) Try.underlying27 rfl ti22 (by decide) (sv (d := .ref _ _) rfl) (off' := 3) rfl) <|
      ils_cons rfl (iop_load_rs (d := .slice _ _) rfl rfl (by decide) Try.underlying22 ag22 ti22 (by decide) (sv (d := .ref _ _) rfl) rfl (nle rfl) rfl) <|
      ils_cons rfl (iop_move rfl rfl (by decide) (sv (d := .int _ _) rfl)) <|
      ils_cons rfl (iop_call (r := .bool _) rfl rfl (by decide) cl35 (.cons (sv (d := .slice _ _) rfl) (.cons (sv (d := .int _ _) rfl) .nil)) rfl (p_slices_Contains_int_int _ _ _ hx3)) <|
      ils_cons rfl (iop_assign rfl rfl (by decide) (sv (d := .bool _) rfl)) <|
      ils_end ?_)
    refine iwp_cond (b := _) rfl (fun hc4 => ?_) (fun hc4 => ?_)
    ·
      replace h := bif_t h hc4
      refine iwp_reg (ils_cons rfl (iop_assign rfl rfl (by decide) (sv (d := .int _ 2) rfl)) <|
        ils_end ?_)
      refine iwp_ret ?_
      refine blockQ_r ?_
      refine thenQ_r ?_
      obtain rfl := Option.some.inj h
      refine ⟨.inr rfl, (.cons (sv rfl) .nil)⟩
    ·
      replace h := bif_f h hc4
      obtain ⟨x5, hx5, h⟩ := bno_e h
      refine iwp_reg (ils_cons rfl (iop_fieldAddr_ref rfl rfl (by decide) Try.underlying27 rfl ti22 (by decide) (sv (d := .ref _ _) rfl) (off' := 4) rfl) <|
        ils_cons rfl (iop_load_rs (d := .slice _ _) rfl rfl (by decide) Try.underlying22 ag22 ti22 (by decide) (sv (d := .ref _ _) rfl) rfl (nle rfl) rfl) <|
        ils_cons rfl (iop_move rfl rfl (by decide) (sv (d := .int _ _) rfl)) <|
        ils_cons rfl (iop_call (r := .bool _) rfl rfl (by decide) cl35 (.cons (sv (d := .slice _ _) rfl) (.cons (sv (d := .int _ _) rfl) .nil)) rfl (p_slices_Contains_int_int _ _ _ hx5)) <|
        ils_cons rfl (iop_assign rfl rfl (by decide) (sv (d := .bool _) rfl)) <|
        ils_end ?_)
      refine iwp_cond (b := _) rfl (fun hc6 => ?_) (fun hc6 => ?_)
      ·
        replace h := bif_t h hc6
        refine iwp_reg (ils_cons rfl (iop_assign rfl rfl (by decide) (sv (d := .int _ 5) rfl)) <|
          ils_end ?_)
        refine iwp_ret ?_
        refine blockQ_r ?_
        refine thenQ_r ?_
        obtain rfl := Option.some.inj h
        refine ⟨.inr rfl, (.cons (sv rfl) .nil)⟩
      ·
        replace h := bif_f h hc6
        obtain ⟨x7, hx7, h⟩ := bno_e h
        refine iwp_reg (ils_cons rfl (iop_load_ra (cs := [.bool _, .int _ _, .int _ _, .slice _ _, .slice _ _, .int _ _, .int _ _, .int _ _, .int _ _]) rfl rfl (by decide) Try.underlying27 ag27 ti27 (by decide) (sv (d := .ref _ _) rfl) rfl (nle rfl) rfl) <|
          ils_cons rfl (iop_move rfl rfl (by decide) (sv (d := .int _ _) rfl)) <|
          ils_cons rfl (iop_call (r := .bool _) rfl rfl (by decide) cl46 (.cons (sv (d := .agg [.bool _, .int _ _, .int _ _, .slice _ _, .slice _ _, .int _ _, .int _ _, .int _ _, .int _ _]) rfl) (.cons (sv (d := .int _ _) rfl) .nil)) rfl (p_stid_State_began _ _ _ hx7)) <|
          ils_cons rfl (iop_assign rfl rfl (by decide) (sv (d := .bool _) rfl)) <|
          ils_end ?_)
        refine iwp_cond (b := _) rfl (fun hc8 => ?_) (fun hc8 => ?_)
        ·
          replace h := bif_t h hc8
          refine iwp_reg (ils_cons rfl (iop_assign rfl rfl (by decide) (sv (d := .int _ 4) rfl)) <|
            ils_end ?_)
          refine iwp_ret ?_
          refine blockQ_r ?_
          refine thenQ_r ?_
          obtain rfl := Option.some.inj h
          refine ⟨.inr rfl, (.cons (sv rfl) .nil)⟩
        ·
          replace h := bif_f h hc8
          refine iwp_seq ?_
          obtain ⟨x9, hx9, h⟩ := bno_e h
          refine iwp_reg (ils_cons rfl (iop_load_ra (cs := [.bool _, .int _ _, .int _ _, .slice _ _, .slice _ _, .int _ _, .int _ _, .int _ _, .int _ _]) rfl rfl (by decide) Try.underlying27 ag27 ti27 (by decide) (sv (d := .ref _ _) rfl) rfl (nle rfl) rfl) <|
            ils_cons rfl (iop_move rfl rfl (by decide) (sv (d := .int _ _) rfl)) <|
            ils_cons rfl (iop_call (r := .bool _) rfl rfl (by decide) cl24 (.cons (sv (d := .agg [.bool _, .int _ _, .int _ _, .slice _ _, .slice _ _, .int _ _, .int _ _, .int _ _, .int _ _]) rfl) (.cons (sv (d := .int _ _) rfl) .nil)) rfl (p_stid_Own _ _ _ hx9)) <|
            ils_cons rfl (iop_assign rfl rfl (by decide) (sv (d := .bool _) rfl)) <|
            ils_end ?_)
          refine iwp_cond (b := _) rfl (fun hc10 => ?_) (fun hc10 => ?_)
          ·
            replace h := bif_t h hc10
            refine iwp_skip ?_
            refine thenQ_n ?_
            refine iwp_cond_t rfl hc10 ?_
            refine iwp_reg (ils_cons rfl (iop_assign rfl rfl (by decide) (sv (d := .int _ 6) rfl)) <|
              ils_end ?_)
            refine iwp_ret ?_
            refine blockQ_r ?_
            refine thenQ_r ?_
            obtain rfl := Option.some.inj h
            refine ⟨.inr rfl, (.cons (sv rfl) .nil)⟩
          ·
            replace h := bif_f h hc10
            obtain ⟨x11, hx11, h⟩ := bno_e h
            refine iwp_region (ils_cons rfl (iop_move rfl rfl (by decide) (sv (d := .int _ _) rfl)) <|
              ils_cons rfl (iop_call (r := .bool _) rfl rfl (by decide) cl34 (.cons (sv (d := .int _ _) rfl) (.cons (sv (d := .int _ 1) rfl) (.cons (sv (d := .int _ 1048576) rfl) .nil))) rfl (p_stid_in _ _ _ _ hx11)) <|
              ils_cons rfl (iop_not rfl rfl (by decide) (sv (d := .bool _) rfl)) <|
              ils_cons rfl (iop_assign rfl rfl (by decide) (sv (d := .bool _) rfl)) <|
              ils_nil ?_)
            refine thenQ_n ?_
            refine iwp_cond (b := _) rfl (fun hc12 => ?_) (fun hc12 => ?_)
            ·
              replace h := bif_t h hc12
              refine iwp_reg (ils_cons rfl (iop_assign rfl rfl (by decide) (sv (d := .int _ 6) rfl)) <|
                ils_end ?_)
              refine iwp_ret ?_
              refine blockQ_r ?_
              refine thenQ_r ?_
              obtain rfl := Option.some.inj h
              refine ⟨.inr rfl, (.cons (sv rfl) .nil)⟩
            ·
              replace h := bif_f h hc12
              refine iwp_skip ?_
              refine blockQ_n ?_
              refine thenQ_n ?_
              refine iwp_reg (ils_cons rfl (iop_assign rfl rfl (by decide) (sv (d := .int _ 1) rfl)) <|
                ils_end ?_)
              refine iwp_ret ?_
              obtain rfl := Option.some.inj h
              refine ⟨.inr rfl, (.cons (sv rfl) .nil)⟩

set_option maxRecDepth 8000 in
set_option maxHeartbeats 2000000 in
theorem p_stid_End (a0 : T_stid_State) (a1 : Int) (a2 : Bool) (r : T_stid_State) (h : stid_End a0 a1 a2 = some r) : PureAt Try.prog 12 [.agg [.bool a0.Odd, .int .i64 a0.Next, .int .i64 a0.Last, .slice false (a0.Live.map (eInt .i64).d), .slice false (a0.Cut.map (eInt .i64).d), .int .i64 a0.Mine, .int .i64 a0.Hers, .int .i64 a0.Heard, .int .i64 a0.Told], .int .i64 a1, .bool a2] (.agg [.bool r.Odd, .int .i64 r.Next, .int .i64 r.Last, .slice false (r.Live.map (eInt .i64).d), .slice false (r.Cut.map (eInt .i64).d), .int .i64 r.Mine, .int .i64 r.Hers, .int .i64 r.Heard, .int .i64 r.Told]) := by
  refine pure_of_iwpF (rs := [.agg [.bool r.Odd, .int .i64 r.Next, .int .i64 r.Last, .slice false (r.Live.map (eInt .i64).d), .slice false (r.Cut.map (eInt .i64).d), .int .i64 r.Mine, .int .i64 r.Hers, .int .i64 r.Heard, .int .i64 r.Told]]) Try.func12 rfl Try.ntmps12 (nle rfl) rfl fun O hO => ?_
  show IWP _ _ _ _ ⟨[(0, .agg [.bool a0.Odd, .int .i64 a0.Next, .int .i64 a0.Last, .slice false (a0.Live.map (eInt .i64).d), .slice false (a0.Cut.map (eInt .i64).d), .int .i64 a0.Mine, .int .i64 a0.Hers, .int .i64 a0.Heard, .int .i64 a0.Told]), (1, .int .i64 a1), (2, .bool a2)], []⟩ _
  unfold stid_End at h
  refine iwp_reg (ils_cons rfl (iop_box' (cs := [.bool _, .int _ _, .int _ _, .slice _ _, .slice _ _, .int _ _, .int _ _, .int _ _, .int _ _]) 0 rfl rfl (by decide) rfl (sv (d := .agg [.bool _, .int _ _, .int _ _, .slice _ _, .slice _ _, .int _ _, .int _ _, .int _ _, .int _ _]) rfl) rfl rfl) <|
    ils_cons rfl (iop_allocS (cs := [.bool _, .int _ _, .int _ _, .nils, .nils, .int _ _, .int _ _, .int _ _, .int _ _]) (cs' := [.bool false, .int .i64 0, .int .i64 0, .slice false (([] : List Int).map (eInt .i64).d), .slice false (([] : List Int).map (eInt .i64).d), .int .i64 0, .int .i64 0, .int .i64 0, .int .i64 0]) 1 rfl rfl (by decide) rfl ti27 rfl rfl (.cons (.refl _) (.cons (.refl _) (.cons (.refl _) (.cons (.nils _) (.cons (.nils _) (.cons (.refl _) (.cons (.refl _) (.cons (.refl _) (.cons (.refl _) .nil)))))))))) <|
    ils_end ?_)
  obtain ⟨x1, hx1, h⟩ := bno_e h
  refine iwp_reg (ils_cons rfl (iop_load_ra (cs := [.bool _, .int _ _, .int _ _, .slice _ _, .slice _ _, .int _ _, .int _ _, .int _ _, .int _ _]) rfl rfl (by decide) Try.underlying27 ag27 ti27 (by decide) (sv (d := .ref _ _) rfl) rfl (nle rfl) rfl) <|
    ils_cons rfl (iop_callh2 (r' := .agg [.bool x1.1, .int .i64 x1.2.1, .int .i64 x1.2.2.1, .osl 2 (eInt .i64).sz x1.2.2.2.1.length, .osl 3 (eInt .i64).sz x1.2.2.2.2.1.length, .int .i64 x1.2.2.2.2.2.1, .int .i64 x1.2.2.2.2.2.2.1, .int .i64 x1.2.2.2.2.2.2.2.1, .int .i64 x1.2.2.2.2.2.2.2.2]) (H1' := [(2, .blk 3 (D.flat (x1.2.2.2.1.map (eInt .i64).d))), (3, .blk 3 (D.flat (x1.2.2.2.2.1.map (eInt .i64).d)))]) 2 [] rfl rfl (by decide) cl28 (.cons (sv (d := .agg [.bool _, .int _ _, .int _ _, .slice _ _, .slice _ _, .int _ _, .int _ _, .int _ _, .int _ _]) rfl) .nil) rfl rfl ⟨rfl, rfl, by decide, rfl, List.forall_mem_nil _⟩ (p_stid_State_own_h _ _ hx1) rfl rfl (List.forall_mem_cons.2 ⟨⟨rfl, (handLr (eInt .i64))⟩, List.forall_mem_cons.2 ⟨⟨rfl, (handLr (eInt .i64))⟩, List.forall_mem_nil _⟩⟩) (by simp only [List.map_cons, List.map_nil, Ent.ren, renL_flat, renL_ref]; rfl)) <|
    ils_cons rfl (iop_allocS (cs := [.bool _, .int _ _, .int _ _, .nils, .nils, .int _ _, .int _ _, .int _ _, .int _ _]) (cs' := [.bool false, .int .i64 0, .int .i64 0, .slice false (([] : List Int).map (eInt .i64).d), .slice false (([] : List Int).map (eInt .i64).d), .int .i64 0, .int .i64 0, .int .i64 0, .int .i64 0]) 4 rfl rfl (by decide) rfl ti27 rfl rfl (.cons (.refl _) (.cons (.refl _) (.cons (.refl _) (.cons (.nils _) (.cons (.nils _) (.cons (.refl _) (.cons (.refl _) (.cons (.refl _) (.cons (.refl _) .nil)))))))))) <|
    ils_cons rfl (iop_store (ds' := [.bool _, .int _ _, .int _ _, .osl _ _ _, .osl _ _ _, .int _ _, .int _ _, .int _ _, .int _ _]) rfl rfl ti27 (sv (d := .ref _ _) rfl) rfl (sv (d := .agg [.bool _, .int _ _, .int _ _, .osl _ _ _, .osl _ _ _, .int _ _, .int _ _, .int _ _, .int _ _]) rfl) rfl rfl rfl (nle rfl) rfl) <|
    ils_end ?_)
  obtain ⟨x2, hx2, h⟩ := bno_e h
  refine iwp_reg (ils_cons rfl (iop_fieldAddr_ref rfl rfl (by decide) Try.underlying27 rfl ti22 (by decide) (sv (d := .ref _ _) rfl) (off' := 3) rfl) <|
    ils_cons rfl (iop_load_rs (d := .osl _ _ _) rfl rfl (by decide) Try.underlying22 ag22 ti22 (by decide) (sv (d := .ref _ _) rfl) rfl (nle rfl) rfl) <|
    ils_cons rfl (iop_move rfl rfl (by decide) (sv (d := .int _ _) rfl)) <|
    ils_cons rfl (iop_callp (r := .tuple [.int .i64 x2.1, .bool x2.2]) rfl rfl (by decide) cl41 (.cons (sv (d := .osl _ _ _) rfl) (.cons (sv (d := .int _ _) rfl) .nil)) (.cons (FDT (eInt .i64) rfl rfl) (.cons (.refl _) .nil)) rfl rfl (p_slices_BinarySearch_int_int _ _ _ hx2)) <|
    ils_cons rfl (iop_move rfl rfl (by decide) (sv (d := .tuple [.int _ _, .bool _]) rfl)) <|
    ils_cons rfl (iop_extract (d := .int _ _) rfl rfl (by decide) (sv (d := .tuple [.int _ _, .bool _]) rfl) rfl) <|
    ils_cons rfl (iop_extract (d := .bool _) rfl rfl (by decide) (sv (d := .tuple [.int _ _, .bool _]) rfl) rfl) <|
    ils_cons rfl (iop_assign rfl rfl (by decide) (sv (d := .int _ _) rfl)) <|
    ils_cons rfl (iop_assign rfl rfl (by decide) (sv (d := .bool _) rfl)) <|
    ils_end ?_)
  refine iwp_seq ?_
  obtain ⟨x3, hx3, h⟩ := bno_e h
  obtain ⟨x4, hx4, h⟩ := bnd_e h
  obtain ⟨x5, hx5, h⟩ := bnd_e h
  refine iwp_reg (ils_cons rfl (iop_load_ra (cs := [.bool _, .int _ _, .int _ _, .slice _ _, .slice _ _, .int _ _, .int _ _, .int _ _, .int _ _]) rfl rfl (by decide) Try.underlying27 ag27 ti27 (by decide) (sv (d := .ref _ _) rfl) rfl (nle rfl) rfl) <|
    ils_cons rfl (iop_call (r := .int _ _) rfl rfl (by decide) cl26 (.cons (sv (d := .agg [.bool _, .int _ _, .int _ _, .slice _ _, .slice _ _, .int _ _, .int _ _, .int _ _, .int _ _]) rfl) .nil) rfl (p_stid_Check _ _ hx3)) <|
    ils_cons rfl (iop_cmpx rfl rfl (by decide) (sv (d := .int _ _) rfl) (sv (d := .int _ 0) rfl) rfl hx4) <|
    ils_cons rfl (iop_move rfl rfl (by decide) (sv (d := .bool _) rfl)) <|
    ils_guard rfl rfl (.one rfl) rfl (by decide) (fun hb => (iop_move rfl rfl (by decide) (sv (d := .bool _) rfl))) <|
    ils_guard rfl rfl (.one rfl) rfl (by decide) (fun hb => (iop_not rfl rfl (by decide) (svc (d := .bool _) rfl hb))) <|
    ils_cons rfl (iop_orx rfl rfl (by decide) (sv (d := .bool _) rfl) rfl rfl hx5) <|
    ils_end ?_)
  refine iwp_cond (b := _) rfl (fun hc6 => ?_) (fun hc6 => ?_)
  ·
    replace h := bif_t h hc6
    refine iwp_reg (ils_cons rfl (iop_load_ra (cs := [.bool _, .int _ _, .int _ _, .osl _ _ _, .osl _ _ _, .int _ _, .int _ _, .int _ _, .int _ _]) rfl rfl (by decide) Try.underlying27 ag27 ti27 (by decide) (sv (d := .ref _ _) rfl) rfl (nle rfl) rfl) <|
      ils_cons rfl (iop_store (ds' := [.bool _, .int _ _, .int _ _, .osl _ _ _, .osl _ _ _, .int _ _, .int _ _, .int _ _, .int _ _]) rfl rfl ti27 (sv (d := .ref _ _) rfl) rfl (sv (d := .agg [.bool _, .int _ _, .int _ _, .osl _ _ _, .osl _ _ _, .int _ _, .int _ _, .int _ _, .int _ _]) rfl) rfl rfl rfl (nle rfl) rfl) <|
      ils_end ?_)
    refine iwp_ret ?_
    refine thenQ_r ?_
    obtain rfl := Option.some.inj h
    refine ⟨.inr rfl, _, (.cons (resv_a rfl rfl Try.underlying27 ag27 ti27 (by decide) (nle rfl) rfl) .nil), (.cons (.agg (.cons (.refl _) (.cons (.refl _) (.cons (.refl _) (.cons (FDT (eInt .i64) rfl rfl) (.cons (FDT (eInt .i64) rfl rfl) (.cons (.refl _) (.cons (.refl _) (.cons (.refl _) (.cons (.refl _) .nil)))))))))) .nil)⟩
  ·
    replace h := bif_f h hc6
    refine iwp_skip ?_
    refine thenQ_n ?_
    obtain ⟨x7, hx7, h⟩ := bnd_e h
    obtain ⟨x8, hx8, h⟩ := bno_e h
    refine iwp_reg (ils_cons rfl (iop_fieldAddr_ref rfl rfl (by decide) Try.underlying27 rfl ti22 (by decide) (sv (d := .ref _ _) rfl) (off' := 3) rfl) <|
      ils_cons rfl (iop_load_rs (d := .osl _ _ _) rfl rfl (by decide) Try.underlying22 ag22 ti22 (by decide) (sv (d := .ref _ _) rfl) rfl (nle rfl) rfl) <|
      ils_cons rfl (iop_move rfl rfl (by decide) (sv (d := .int _ _) rfl)) <|
      ils_cons rfl (iop_move rfl rfl (by decide) (sv (d := .int _ _) rfl)) <|
      ils_cons rfl (iop_intx rfl rfl (by decide) (sv (d := .int _ _) rfl) (sv (d := .int _ 1) rfl) rfl hx7) <|
      ils_cons rfl (iop_callh2 (r' := .osl 5 (eInt .i64).sz x8.length) (H1' := [(5, .blk 3 (D.flat (x8.map (eInt .i64).d)))]) 5 [2] rfl rfl (by decide) cl42 (.cons (sv (d := .osl _ _ _) rfl) (.cons (sv (d := .int _ _) rfl) (.cons (sv (d := .int _ _) rfl) .nil))) rfl rfl ⟨rfl, rfl, by decide, rfl, List.forall_mem_cons.2 ⟨⟨rfl, rfl, (handL (eInt .i64) rfl), (handLr (eInt .i64))⟩, List.forall_mem_nil _⟩⟩ (p_slices_Delete_int_int_h _ _ _ _ hx8) rfl rfl (List.forall_mem_cons.2 ⟨⟨rfl, (handLr (eInt .i64))⟩, List.forall_mem_nil _⟩) (by simp only [List.map_cons, List.map_nil, Ent.ren, renL_flat, renL_ref]; rfl)) <|
      ils_cons rfl (iop_fieldAddr_ref rfl rfl (by decide) Try.underlying27 rfl ti22 (by decide) (sv (d := .ref _ _) rfl) (off' := 3) rfl) <|
      ils_cons rfl (iop_store (ds' := [.bool _, .int _ _, .int _ _, .osl _ _ _, .osl _ _ _, .int _ _, .int _ _, .int _ _, .int _ _]) rfl rfl ti22 (sv (d := .ref _ _) rfl) rfl (sv (d := .osl _ _ _) rfl) rfl rfl rfl (nle rfl) rfl) <|
      ils_end ?_)
    refine iwp_seq ?_
    refine iwp_reg (ils_cons rfl (iop_move rfl rfl (by decide) (sv (d := .bool _) rfl)) <|
      ils_end ?_)
    refine iwp_cond (b := _) rfl (fun hc9 => ?_) (fun hc9 => ?_)
    ·
      replace h := bif_t h hc9
      obtain ⟨x10, hx10, h⟩ := bno_e h
      refine iwp_reg (ils_cons rfl (iop_load_ra (cs := [.bool _, .int _ _, .int _ _, .osl _ _ _, .osl _ _ _, .int _ _, .int _ _, .int _ _, .int _ _]) rfl rfl (by decide) Try.underlying27 ag27 ti27 (by decide) (sv (d := .ref _ _) rfl) rfl (nle rfl) rfl) <|
        ils_cons rfl (iop_move rfl rfl (by decide) (sv (d := .int _ _) rfl)) <|
        ils_cons rfl (iop_callh2 (r' := .agg [.bool x10.1, .int .i64 x10.2.1, .int .i64 x10.2.2.1, .osl 6 (eInt .i64).sz x10.2.2.2.1.length, .osl 7 (eInt .i64).sz x10.2.2.2.2.1.length, .int .i64 x10.2.2.2.2.2.1, .int .i64 x10.2.2.2.2.2.2.1, .int .i64 x10.2.2.2.2.2.2.2.1, .int .i64 x10.2.2.2.2.2.2.2.2]) (H1' := [(6, .blk 3 (D.flat (x10.2.2.2.1.map (eInt .i64).d))), (7, .blk 3 (D.flat (x10.2.2.2.2.1.map (eInt .i64).d)))]) 6 [5, 3] rfl rfl (by decide) cl36 (.cons (sv (d := .agg [.bool _, .int _ _, .int _ _, .osl _ _ _, .osl _ _ _, .int _ _, .int _ _, .int _ _, .int _ _]) rfl) (.cons (sv (d := .int _ _) rfl) .nil)) rfl rfl ⟨rfl, rfl, by decide, rfl, List.forall_mem_cons.2 ⟨⟨rfl, rfl, (handL (eInt .i64) rfl), (handLr (eInt .i64))⟩, List.forall_mem_cons.2 ⟨⟨rfl, rfl, (handL (eInt .i64) rfl), (handLr (eInt .i64))⟩, List.forall_mem_nil _⟩⟩⟩ (p_stid_State_slain_h _ _ _ _ _ _ _ _ _ _ _ hx10) rfl rfl (List.forall_mem_cons.2 ⟨⟨rfl, (handLr (eInt .i64))⟩, List.forall_mem_cons.2 ⟨⟨rfl, (handLr (eInt .i64))⟩, List.forall_mem_nil _⟩⟩) (by simp only [List.map_cons, List.map_nil, Ent.ren, renL_flat, renL_ref]; rfl)) <|
        ils_cons rfl (iop_store (ds' := [.bool _, .int _ _, .int _ _, .osl _ _ _, .osl _ _ _, .int _ _, .int _ _, .int _ _, .int _ _]) rfl rfl ti27 (sv (d := .ref _ _) rfl) rfl (sv (d := .agg [.bool _, .int _ _, .int _ _, .osl _ _ _, .osl _ _ _, .int _ _, .int _ _, .int _ _, .int _ _]) rfl) rfl rfl rfl (nle rfl) rfl) <|
        ils_end ?_)
      refine iwp_ret ?_
      refine thenQ_r ?_
      obtain rfl := Option.some.inj h
      refine ⟨.inr rfl, _, (.cons (resv_a rfl rfl Try.underlying27 ag27 ti27 (by decide) (nle rfl) rfl) .nil), (.cons (.agg (.cons (.refl _) (.cons (.refl _) (.cons (.refl _) (.cons (FDT (eInt .i64) rfl rfl) (.cons (FDT (eInt .i64) rfl rfl) (.cons (.refl _) (.cons (.refl _) (.cons (.refl _) (.cons (.refl _) .nil)))))))))) .nil)⟩
    ·
      replace h := bif_f h hc9
      refine iwp_skip ?_
      refine thenQ_n ?_
      refine iwp_reg (ils_cons rfl (iop_load_ra (cs := [.bool _, .int _ _, .int _ _, .osl _ _ _, .osl _ _ _, .int _ _, .int _ _, .int _ _, .int _ _]) rfl rfl (by decide) Try.underlying27 ag27 ti27 (by decide) (sv (d := .ref _ _) rfl) rfl (nle rfl) rfl) <|
        ils_cons rfl (iop_store (ds' := [.bool _, .int _ _, .int _ _, .osl _ _ _, .osl _ _ _, .int _ _, .int _ _, .int _ _, .int _ _]) rfl rfl ti27 (sv (d := .ref _ _) rfl) rfl (sv (d := .agg [.bool _, .int _ _, .int _ _, .osl _ _ _, .osl _ _ _, .int _ _, .int _ _, .int _ _, .int _ _]) rfl) rfl rfl rfl (nle rfl) rfl) <|
        ils_end ?_)
      refine iwp_ret ?_
      obtain rfl := Option.some.inj h
      refine ⟨.inr rfl, _, (.cons (resv_a rfl rfl Try.underlying27 ag27 ti27 (by decide) (nle rfl) rfl) .nil), (.cons (.agg (.cons (.refl _) (.cons (.refl _) (.cons (.refl _) (.cons (FDT (eInt .i64) rfl rfl) (.cons (FDT (eInt .i64) rfl rfl) (.cons (.refl _) (.cons (.refl _) (.cons (.refl _) (.cons (.refl _) .nil)))))))))) .nil)⟩

set_option maxRecDepth 8000 in
set_option maxHeartbeats 2000000 in
theorem p_slices_Equal_int_int (a0 : (List Int)) (a1 : (List Int)) (r : Bool) (h : slices_Equal_int_int a0 a1 = some r) : PureAt Try.prog 50 [.slice false (a0.map (eInt .i64).d), .slice false (a1.map (eInt .i64).d)] (.bool r) := by
  refine pure_of_iwp (rs := [.bool r]) Try.func50 rfl Try.ntmps50 (nle rfl) rfl fun O hO => ?_
  show IWP _ _ _ _ ⟨[(0, .slice false (a0.map (eInt .i64).d)), (1, .slice false (a1.map (eInt .i64).d))], []⟩ _
  unfold slices_Equal_int_int at h
  refine iwp_reg (ils_cons rfl (iop_assign rfl rfl (by decide) (sv (d := .bool false) rfl)) <|
    ils_end ?_)
  refine iwp_seq ?_
  obtain ⟨x1, hx1, h⟩ := bnd_e h
  refine iwp_reg (ils_cons rfl (iop_move rfl rfl (by decide) (sv (d := .slice _ _) rfl)) <|
    ils_cons rfl (iop_lenT (eInt .i64) (l := a0) rfl rfl (by decide) Try.underlying22 (sv (d := .slice _ _) rfl)) <|
    ils_cons rfl (iop_move rfl rfl (by decide) (sv (d := .slice _ _) rfl)) <|
    ils_cons rfl (iop_lenT (eInt .i64) (l := a1) rfl rfl (by decide) Try.underlying22 (sv (d := .slice _ _) rfl)) <|
    ils_cons rfl (iop_cmpx rfl rfl (by decide) (sv (d := .int _ _) rfl) (sv (d := .int _ _) rfl) rfl hx1) <|
    ils_end ?_)
  refine iwp_cond (b := _) rfl (fun hc2 => ?_) (fun hc2 => ?_)
  ·
    replace h := bif_t h hc2
    refine iwp_reg (ils_cons rfl (iop_assign rfl rfl (by decide) (sv (d := .bool false) rfl)) <|
      ils_end ?_)
    refine iwp_ret ?_
    refine thenQ_r ?_
    obtain rfl := Option.some.inj h
    refine ⟨.inr rfl, (.cons (sv rfl) .nil)⟩
  ·
    replace h := bif_f h hc2
    refine iwp_skip ?_
    refine thenQ_n ?_
    refine iwp_seq ?_
    refine iwp_reg (ils_cons rfl (iop_move rfl rfl (by decide) (sv (d := .slice _ _) rfl)) <|
      ils_cons rfl (iop_lenT (eInt .i64) (l := a0) rfl rfl (by decide) Try.underlying22 (sv (d := .slice _ _) rfl)) <|
      ils_cons rfl (iop_move rfl rfl (by decide) (sv (d := .int _ 0) rfl)) <|
      ils_end ?_)
    refine iwp_block ?_
    refine iwp_loopP (α := Nat × Int) (fun z => ⟨[(0, .slice false (a0.map (eInt .i64).d)), (1, .slice false (a1.map (eInt .i64).d)), (12, .int .i64 (a0.length : Int)), (13, .int .i64 z.2)], []⟩) (fun z => slices_Equal_int_int_L0 a0 a1 z.1 z.2 = some r) (fun z => z.1) (fuel, 0) (fun i => i) ⟨(.cons (.same rfl rfl) (.cons (.same rfl rfl) (.cons (.same rfl rfl) (.cons (.same rfl rfl) .nil)))), .nil, nd_of [] rfl (by decide), (fun i hi => by first | rfl | (show (if _ then _ else _) = _; (repeat' split) <;> omega))⟩ ?_ ?_
    · exact h
    ·
      rintro ⟨n0, v10⟩ h
      cases n0 with
      | zero => exact absurd h (by unfold slices_Equal_int_int_L0; exact nofun)
      | succ n0 =>
        unfold slices_Equal_int_int_L0 at h
        obtain ⟨x18, hx18, h⟩ := bnd_e h
        refine iwp_reg (ils_cons rfl (iop_cmpx rfl rfl (by decide) (sv (d := .int _ _) rfl) (sv (d := .int _ _) rfl) rfl hx18) <|
          ils_end ?_)
        refine iwp_seq ?_
        refine iwp_cond (b := _) rfl (fun hc19 => ?_) (fun hc19 => ?_)
        ·
          replace h := bif_t h hc19
          refine iwp_skip ?_
          refine thenQ_n ?_
          refine iwp_seq ?_
          refine iwp_block ?_
          refine iwp_reg (ils_cons rfl (iop_move rfl rfl (by decide) (sv (d := .int _ _) rfl)) <|
            ils_cons rfl (iop_assign rfl rfl (by decide) (sv (d := .int _ _) rfl)) <|
            ils_end ?_)
          obtain ⟨x20, hx20, h⟩ := bno_e h
          obtain ⟨x21, hx21, h⟩ := bno_e h
          obtain ⟨x22, hx22, h⟩ := bnd_e h
          refine iwp_drw rfl [⟨[0], [], [(16, .slice false (a0.map (eInt .i64).d))], []⟩,
            ⟨[5], [], [(17, .int .i64 v10)], []⟩,
            ⟨[16, 17], [], [(18, .fptr [.int .i64 x20])], []⟩,
            ⟨[18], [], [(19, .int .i64 x20)], []⟩,
            ⟨[1], [], [(20, .slice false (a1.map (eInt .i64).d))], []⟩,
            ⟨[5], [], [(21, .int .i64 v10)], []⟩,
            ⟨[20, 21], [], [(22, .fptr [.int .i64 x21])], []⟩,
            ⟨[22], [], [(23, .int .i64 x21)], []⟩,
            ⟨[19, 23], [], [(24, .bool x22)], []⟩] rfl ?_ (by kernel_rfl) ?_
          · refine .cons (lop rfl rfl fun S hA => (iop_move rfl rfl (by decide) (sv (d := .slice _ _) (agr hA rfl rfl)))) ?_
            refine .cons (lop rfl rfl fun S hA => (iop_move rfl rfl (by decide) (sv (d := .int _ _) (agr hA rfl rfl)))) ?_
            refine .cons (lop rfl rfl fun S hA => (iop_idxT (eInt .i64) (cs := [.int _ _]) rfl rfl (by decide) Try.underlying22 ti3 (sv (d := .slice _ _) (agr hA rfl rfl)) (sv (d := .int _ _) (agr hA rfl rfl)) hx20 rfl rfl)) ?_
            refine .cons (lop rfl rfl fun S hA => (iop_load_fs rfl rfl (by decide) Try.underlying3 ag3 ti3 (by decide) (sv (d := .fptr [.int _ _]) (agr hA rfl rfl)) (nle rfl))) ?_
            refine .cons (lop rfl rfl fun S hA => (iop_move rfl rfl (by decide) (sv (d := .slice _ _) (agr hA rfl rfl)))) ?_
            refine .cons (lop rfl rfl fun S hA => (iop_move rfl rfl (by decide) (sv (d := .int _ _) (agr hA rfl rfl)))) ?_
            refine .cons (lop rfl rfl fun S hA => (iop_idxT (eInt .i64) (cs := [.int _ _]) rfl rfl (by decide) Try.underlying22 ti3 (sv (d := .slice _ _) (agr hA rfl rfl)) (sv (d := .int _ _) (agr hA rfl rfl)) hx21 rfl rfl)) ?_
            refine .cons (lop rfl rfl fun S hA => (iop_load_fs rfl rfl (by decide) Try.underlying3 ag3 ti3 (by decide) (sv (d := .fptr [.int _ _]) (agr hA rfl rfl)) (nle rfl))) ?_
            refine .cons (lop rfl rfl fun S hA => (iop_cmpx rfl rfl (by decide) (sv (d := .int _ _) (agr hA rfl rfl)) (sv (d := .int _ _) (agr hA rfl rfl)) rfl hx22)) ?_
            exact .nil
          refine iwp_cond (b := _) rfl (fun hc23 => ?_) (fun hc23 => ?_)
          ·
            replace h := bif_t h hc23
            refine iwp_reg (ils_cons rfl (iop_assign rfl rfl (by decide) (sv (d := .bool false) rfl)) <|
              ils_end ?_)
            refine iwp_ret ?_
            refine blockQ_r ?_
            refine thenQ_r ?_
            refine thenQ_r ?_
            refine blockQ_r ?_
            refine thenQ_r ?_
            obtain rfl := Option.some.inj h
            refine ⟨.inr rfl, (.cons (sv rfl) .nil)⟩
          ·
            replace h := bif_f h hc23
            refine iwp_skip ?_
            refine blockQ_n ?_
            refine thenQ_n ?_
            obtain ⟨x24, hx24, h⟩ := bnd_e h
            refine iwp_region (ils_cons rfl (iop_intx rfl rfl (by decide) (sv (d := .int _ _) rfl) (sv (d := .int _ 1) rfl) rfl hx24) <|
              ils_cons rfl (iop_move rfl rfl (by decide) (sv (d := .int _ _) rfl)) <|
              ils_nil ?_)
            refine thenQ_n ⟨(n0, x24), (fun i => i), ⟨(.cons (.same rfl rfl) (.cons (.same rfl rfl) (.cons (.same rfl rfl) (.cons (.same rfl rfl) .nil)))), .nil, nd_of [] rfl (by decide), (fun i hi => by first | rfl | (show (if _ then _ else _) = _; (repeat' split) <;> omega))⟩, ?_, ?_⟩
            exact h
            exact Nat.lt_succ_self _
        ·
          replace h := bif_f h hc19
          refine iwp_exit ?_
          refine thenQ_e ?_
          refine thenQ_e ?_
          refine blockQ_e ?_
          refine thenQ_n ?_
          refine iwp_reg (ils_cons rfl (iop_assign rfl rfl (by decide) (sv (d := .bool true) rfl)) <|
            ils_end ?_)
          refine iwp_ret ?_
          obtain rfl := Option.some.inj h
          refine ⟨.inr rfl, (.cons (sv rfl) .nil)⟩

set_option maxRecDepth 8000 in
set_option maxHeartbeats 2000000 in
theorem p_stid_Same (a0 : T_stid_State) (a1 : T_stid_State) (r : Bool) (h : stid_Same a0 a1 = some r) : PureAt Try.prog 27 [.agg [.bool a0.Odd, .int .i64 a0.Next, .int .i64 a0.Last, .slice false (a0.Live.map (eInt .i64).d), .slice false (a0.Cut.map (eInt .i64).d), .int .i64 a0.Mine, .int .i64 a0.Hers, .int .i64 a0.Heard, .int .i64 a0.Told], .agg [.bool a1.Odd, .int .i64 a1.Next, .int .i64 a1.Last, .slice false (a1.Live.map (eInt .i64).d), .slice false (a1.Cut.map (eInt .i64).d), .int .i64 a1.Mine, .int .i64 a1.Hers, .int .i64 a1.Heard, .int .i64 a1.Told]] (.bool r) := by
  refine pure_of_iwp (rs := [.bool r]) Try.func27 rfl Try.ntmps27 (nle rfl) rfl fun O hO => ?_
  show IWP _ _ _ _ ⟨[(0, .agg [.bool a0.Odd, .int .i64 a0.Next, .int .i64 a0.Last, .slice false (a0.Live.map (eInt .i64).d), .slice false (a0.Cut.map (eInt .i64).d), .int .i64 a0.Mine, .int .i64 a0.Hers, .int .i64 a0.Heard, .int .i64 a0.Told]), (1, .agg [.bool a1.Odd, .int .i64 a1.Next, .int .i64 a1.Last, .slice false (a1.Live.map (eInt .i64).d), .slice false (a1.Cut.map (eInt .i64).d), .int .i64 a1.Mine, .int .i64 a1.Hers, .int .i64 a1.Heard, .int .i64 a1.Told])], []⟩ _
  unfold stid_Same at h
  refine iwp_reg (ils_cons rfl (iop_box' (cs := [.bool _, .int _ _, .int _ _, .slice _ _, .slice _ _, .int _ _, .int _ _, .int _ _, .int _ _]) 0 rfl rfl (by decide) rfl (sv (d := .agg [.bool _, .int _ _, .int _ _, .slice _ _, .slice _ _, .int _ _, .int _ _, .int _ _, .int _ _]) rfl) rfl rfl) <|
    ils_cons rfl (iop_box' (cs := [.bool _, .int _ _, .int _ _, .slice _ _, .slice _ _, .int _ _, .int _ _, .int _ _, .int _ _]) 1 rfl rfl (by decide) rfl (sv (d := .agg [.bool _, .int _ _, .int _ _, .slice _ _, .slice _ _, .int _ _, .int _ _, .int _ _, .int _ _]) rfl) rfl rfl) <|
    ils_cons rfl (iop_assign rfl rfl (by decide) (sv (d := .bool false) rfl)) <|
    ils_end ?_)
  refine iwp_seq ?_
  obtain ⟨x1, hx1, h⟩ := bno_e h
  obtain ⟨x2, hx2, h⟩ := bno_e h
  obtain ⟨x3, hx3, h⟩ := bnd_e h
  refine iwp_reg (ils_cons rfl (iop_fieldAddr_ref rfl rfl (by decide) Try.underlying27 rfl ti22 (by decide) (sv (d := .ref _ _) rfl) (off' := 3) rfl) <|
    ils_cons rfl (iop_load_rs (d := .slice _ _) rfl rfl (by decide) Try.underlying22 ag22 ti22 (by decide) (sv (d := .ref _ _) rfl) rfl (nle rfl) rfl) <|
    ils_cons rfl (iop_fieldAddr_ref rfl rfl (by decide) Try.underlying27 rfl ti22 (by decide) (sv (d := .ref _ _) rfl) (off' := 3) rfl) <|
    ils_cons rfl (iop_load_rs (d := .slice _ _) rfl rfl (by decide) Try.underlying22 ag22 ti22 (by decide) (sv (d := .ref _ _) rfl) rfl (nle rfl) rfl) <|
    ils_cons rfl (iop_call (r := .bool _) rfl rfl (by decide) cl50 (.cons (sv (d := .slice _ _) rfl) (.cons (sv (d := .slice _ _) rfl) .nil)) rfl (p_slices_Equal_int_int _ _ _ hx1)) <|
    ils_cons rfl (iop_not rfl rfl (by decide) (sv (d := .bool _) rfl)) <|
    ils_cons rfl (iop_move rfl rfl (by decide) (sv (d := .bool _) rfl)) <|
    ils_guard rfl rfl (.one rfl) rfl (by decide) (fun hb => (iop_fieldAddr_ref rfl rfl (by decide) Try.underlying27 rfl ti22 (by decide) (sv (d := .ref _ _) rfl) (off' := 4) rfl)) <|
    ils_guard rfl rfl (.one rfl) rfl (by decide) (fun hb => (iop_load_rs (d := .slice _ _) rfl rfl (by decide) Try.underlying22 ag22 ti22 (by decide) (svc (d := .ref _ _) rfl hb) rfl (nle rfl) rfl)) <|
    ils_guard rfl rfl (.one rfl) rfl (by decide) (fun hb => (iop_fieldAddr_ref rfl rfl (by decide) Try.underlying27 rfl ti22 (by decide) (sv (d := .ref _ _) rfl) (off' := 4) rfl)) <|
    ils_guard rfl rfl (.one rfl) rfl (by decide) (fun hb => (iop_load_rs (d := .slice _ _) rfl rfl (by decide) Try.underlying22 ag22 ti22 (by decide) (svc (d := .ref _ _) rfl hb) rfl (nle rfl) rfl)) <|
    ils_guard rfl rfl (.one rfl) rfl (by decide) (fun hb => (iop_call (r := .bool _) rfl rfl (by decide) cl50 (.cons (svc (d := .slice _ _) rfl hb) (.cons (svc (d := .slice _ _) rfl hb) .nil)) rfl (p_slices_Equal_int_int _ _ _ (gd_t hx2 hb)))) <|
    ils_guard rfl rfl (.one rfl) rfl (by decide) (fun hb => (iop_not rfl rfl (by decide) (svc (d := .bool _) rfl hb))) <|
    ils_cons rfl (iop_orx rfl rfl (by decide) (sv (d := .bool _) rfl) rfl rfl hx3) <|
    ils_end ?_)
  refine iwp_cond (b := _) rfl (fun hc4 => ?_) (fun hc4 => ?_)
  ·
    replace h := bif_t h hc4
    refine iwp_reg (ils_cons rfl (iop_assign rfl rfl (by decide) (sv (d := .bool false) rfl)) <|
      ils_end ?_)
    refine iwp_ret ?_
    refine thenQ_r ?_
    obtain rfl := Option.some.inj h
    refine ⟨.inr rfl, (.cons (sv rfl) .nil)⟩
  ·
    replace h := bif_f h hc4
    refine iwp_skip ?_
    refine thenQ_n ?_
    obtain ⟨x5, hx5, h⟩ := bnd_e h
    obtain ⟨x6, hx6, h⟩ := bnd_e h
    obtain ⟨x7, hx7, h⟩ := bnd_e h
    obtain ⟨x8, hx8, h⟩ := bnd_e h
    obtain ⟨x9, hx9, h⟩ := bnd_e h
    obtain ⟨x10, hx10, h⟩ := bnd_e h
    obtain ⟨x11, hx11, h⟩ := bnd_e h
    refine iwp_reg (ils_cons rfl (iop_fieldAddr_ref rfl rfl (by decide) Try.underlying27 rfl ti3 (by decide) (sv (d := .ref _ _) rfl) (off' := 1) rfl) <|
      ils_cons rfl (iop_load_rs (d := .int _ _) rfl rfl (by decide) Try.underlying3 ag3 ti3 (by decide) (sv (d := .ref _ _) rfl) rfl (nle rfl) rfl) <|
      ils_cons rfl (iop_fieldAddr_ref rfl rfl (by decide) Try.underlying27 rfl ti3 (by decide) (sv (d := .ref _ _) rfl) (off' := 1) rfl) <|
      ils_cons rfl (iop_load_rs (d := .int _ _) rfl rfl (by decide) Try.underlying3 ag3 ti3 (by decide) (sv (d := .ref _ _) rfl) rfl (nle rfl) rfl) <|
      ils_cons rfl (iop_cmpx rfl rfl (by decide) (sv (d := .int _ _) rfl) (sv (d := .int _ _) rfl) rfl hx5) <|
      ils_cons rfl (iop_move rfl rfl (by decide) (sv (d := .bool _) rfl)) <|
      ils_guard rfl rfl (.one rfl) rfl (by decide) (fun hb => (iop_fieldAddr_ref rfl rfl (by decide) Try.underlying27 rfl ti3 (by decide) (sv (d := .ref _ _) rfl) (off' := 2) rfl)) <|
      ils_guard rfl rfl (.one rfl) rfl (by decide) (fun hb => (iop_load_rs (d := .int _ _) rfl rfl (by decide) Try.underlying3 ag3 ti3 (by decide) (svc (d := .ref _ _) rfl hb) rfl (nle rfl) rfl)) <|
      ils_guard rfl rfl (.one rfl) rfl (by decide) (fun hb => (iop_fieldAddr_ref rfl rfl (by decide) Try.underlying27 rfl ti3 (by decide) (sv (d := .ref _ _) rfl) (off' := 2) rfl)) <|
      ils_guard rfl rfl (.one rfl) rfl (by decide) (fun hb => (iop_load_rs (d := .int _ _) rfl rfl (by decide) Try.underlying3 ag3 ti3 (by decide) (svc (d := .ref _ _) rfl hb) rfl (nle rfl) rfl)) <|
      ils_guard rfl rfl (.one rfl) rfl (by decide) (fun hb => (iop_cmpx rfl rfl (by decide) (svc (d := .int _ _) rfl hb) (svc (d := .int _ _) rfl hb) rfl hx6)) <|
      ils_cons rfl (iop_andx rfl rfl (by decide) (sv (d := .bool _) rfl) rfl rfl hx7) <|
      ils_cons rfl (iop_move rfl rfl (by decide) (sv (d := .bool _) rfl)) <|
      ils_guard rfl rfl (.one rfl) rfl (by decide) (fun hb => (iop_fieldAddr_ref rfl rfl (by decide) Try.underlying27 rfl ti3 (by decide) (sv (d := .ref _ _) rfl) (off' := 7) rfl)) <|
      ils_guard rfl rfl (.one rfl) rfl (by decide) (fun hb => (iop_load_rs (d := .int _ _) rfl rfl (by decide) Try.underlying3 ag3 ti3 (by decide) (svc (d := .ref _ _) rfl hb) rfl (nle rfl) rfl)) <|
      ils_guard rfl rfl (.one rfl) rfl (by decide) (fun hb => (iop_fieldAddr_ref rfl rfl (by decide) Try.underlying27 rfl ti3 (by decide) (sv (d := .ref _ _) rfl) (off' := 7) rfl)) <|
      ils_guard rfl rfl (.one rfl) rfl (by decide) (fun hb => (iop_load_rs (d := .int _ _) rfl rfl (by decide) Try.underlying3 ag3 ti3 (by decide) (svc (d := .ref _ _) rfl hb) rfl (nle rfl) rfl)) <|
      ils_guard rfl rfl (.one rfl) rfl (by decide) (fun hb => (iop_cmpx rfl rfl (by decide) (svc (d := .int _ _) rfl hb) (svc (d := .int _ _) rfl hb) rfl hx8)) <|
      ils_cons rfl (iop_andx rfl rfl (by decide) (sv (d := .bool _) rfl) rfl rfl hx9) <|
      ils_cons rfl (iop_move rfl rfl (by decide) (sv (d := .bool _) rfl)) <|
      ils_guard rfl rfl (.one rfl) rfl (by decide) (fun hb => (iop_fieldAddr_ref rfl rfl (by decide) Try.underlying27 rfl ti3 (by decide) (sv (d := .ref _ _) rfl) (off' := 8) rfl)) <|
      ils_guard rfl rfl (.one rfl) rfl (by decide) (fun hb => (iop_load_rs (d := .int _ _) rfl rfl (by decide) Try.underlying3 ag3 ti3 (by decide) (svc (d := .ref _ _) rfl hb) rfl (nle rfl) rfl)) <|
      ils_guard rfl rfl (.one rfl) rfl (by decide) (fun hb => (iop_fieldAddr_ref rfl rfl (by decide) Try.underlying27 rfl ti3 (by decide) (sv (d := .ref _ _) rfl) (off' := 8) rfl)) <|
      ils_guard rfl rfl (.one rfl) rfl (by decide) (fun hb => (iop_load_rs (d := .int _ _) rfl rfl (by decide) Try.underlying3 ag3 ti3 (by decide) (svc (d := .ref _ _) rfl hb) rfl (nle rfl) rfl)) <|
      ils_guard rfl rfl (.one rfl) rfl (by decide) (fun hb => (iop_cmpx rfl rfl (by decide) (svc (d := .int _ _) rfl hb) (svc (d := .int _ _) rfl hb) rfl hx10)) <|
      ils_cons rfl (iop_andx rfl rfl (by decide) (sv (d := .bool _) rfl) rfl rfl hx11) <|
      ils_cons rfl (iop_assign rfl rfl (by decide) (sv (d := .bool _) rfl)) <|
      ils_end ?_)
    obtain ⟨x12, hx12, h⟩ := bnd_e h
    obtain ⟨x13, hx13, h⟩ := bnd_e h
    obtain ⟨x14, hx14, h⟩ := bnd_e h
    obtain ⟨x15, hx15, h⟩ := bnd_e h
    obtain ⟨x16, hx16, h⟩ := bnd_e h
    obtain ⟨x17, hx17, h⟩ := bnd_e h
    refine iwp_reg (ils_cons rfl (iop_move rfl rfl (by decide) (sv (d := .bool _) rfl)) <|
      ils_cons rfl (iop_move rfl rfl (by decide) (sv (d := .bool _) rfl)) <|
      ils_guard rfl rfl (.one rfl) rfl (by decide) (fun hb => (iop_fieldAddr_ref rfl rfl (by decide) Try.underlying27 rfl ti4 (by decide) (sv (d := .ref _ _) rfl) (off' := 0) rfl)) <|
      ils_guard rfl rfl (.one rfl) rfl (by decide) (fun hb => (iop_load_rs (d := .bool _) rfl rfl (by decide) Try.underlying4 ag4 ti4 (by decide) (svc (d := .ref _ _) rfl hb) rfl (nle rfl) rfl)) <|
      ils_guard rfl rfl (.one rfl) rfl (by decide) (fun hb => (iop_fieldAddr_ref rfl rfl (by decide) Try.underlying27 rfl ti4 (by decide) (sv (d := .ref _ _) rfl) (off' := 0) rfl)) <|
      ils_guard rfl rfl (.one rfl) rfl (by decide) (fun hb => (iop_load_rs (d := .bool _) rfl rfl (by decide) Try.underlying4 ag4 ti4 (by decide) (svc (d := .ref _ _) rfl hb) rfl (nle rfl) rfl)) <|
      ils_guard rfl rfl (.one rfl) rfl (by decide) (fun hb => (iop_eqbx rfl rfl (by decide) Try.underlying4 (svc (d := .bool _) rfl hb) (svc (d := .bool _) rfl hb) hx12)) <|
      ils_cons rfl (iop_andx rfl rfl (by decide) (sv (d := .bool _) rfl) rfl rfl hx13) <|
      ils_cons rfl (iop_move rfl rfl (by decide) (sv (d := .bool _) rfl)) <|
      ils_guard rfl rfl (.one rfl) rfl (by decide) (fun hb => (iop_fieldAddr_ref rfl rfl (by decide) Try.underlying27 rfl ti3 (by decide) (sv (d := .ref _ _) rfl) (off' := 5) rfl)) <|
      ils_guard rfl rfl (.one rfl) rfl (by decide) (fun hb => (iop_load_rs (d := .int _ _) rfl rfl (by decide) Try.underlying3 ag3 ti3 (by decide) (svc (d := .ref _ _) rfl hb) rfl (nle rfl) rfl)) <|
      ils_guard rfl rfl (.one rfl) rfl (by decide) (fun hb => (iop_fieldAddr_ref rfl rfl (by decide) Try.underlying27 rfl ti3 (by decide) (sv (d := .ref _ _) rfl) (off' := 5) rfl)) <|
      ils_guard rfl rfl (.one rfl) rfl (by decide) (fun hb => (iop_load_rs (d := .int _ _) rfl rfl (by decide) Try.underlying3 ag3 ti3 (by decide) (svc (d := .ref _ _) rfl hb) rfl (nle rfl) rfl)) <|
      ils_guard rfl rfl (.one rfl) rfl (by decide) (fun hb => (iop_cmpx rfl rfl (by decide) (svc (d := .int _ _) rfl hb) (svc (d := .int _ _) rfl hb) rfl hx14)) <|
      ils_cons rfl (iop_andx rfl rfl (by decide) (sv (d := .bool _) rfl) rfl rfl hx15) <|
      ils_cons rfl (iop_move rfl rfl (by decide) (sv (d := .bool _) rfl)) <|
      ils_guard rfl rfl (.one rfl) rfl (by decide) (fun hb => (iop_fieldAddr_ref rfl rfl (by decide) Try.underlying27 rfl ti3 (by decide) (sv (d := .ref _ _) rfl) (off' := 6) rfl)) <|
      ils_guard rfl rfl (.one rfl) rfl (by decide) (fun hb => (iop_load_rs (d := .int _ _) rfl rfl (by decide) Try.underlying3 ag3 ti3 (by decide) (svc (d := .ref _ _) rfl hb) rfl (nle rfl) rfl)) <|
      ils_guard rfl rfl (.one rfl) rfl (by decide) (fun hb => (iop_fieldAddr_ref rfl rfl (by decide) Try.underlying27 rfl ti3 (by decide) (sv (d := .ref _ _) rfl) (off' := 6) rfl)) <|
      ils_guard rfl rfl (.one rfl) rfl (by decide) (fun hb => (iop_load_rs (d := .int _ _) rfl rfl (by decide) Try.underlying3 ag3 ti3 (by decide) (svc (d := .ref _ _) rfl hb) rfl (nle rfl) rfl)) <|
      ils_guard rfl rfl (.one rfl) rfl (by decide) (fun hb => (iop_cmpx rfl rfl (by decide) (svc (d := .int _ _) rfl hb) (svc (d := .int _ _) rfl hb) rfl hx16)) <|
      ils_cons rfl (iop_andx rfl rfl (by decide) (sv (d := .bool _) rfl) rfl rfl hx17) <|
      ils_cons rfl (iop_assign rfl rfl (by decide) (sv (d := .bool _) rfl)) <|
      ils_end ?_)
    refine iwp_ret ?_
    obtain rfl := Option.some.inj h
    refine ⟨.inr rfl, (.cons (sv rfl) .nil)⟩

set_option maxRecDepth 8000 in
set_option maxHeartbeats 2000000 in
theorem p_sennitlaw22_awake  (r : Bool) (h : sennitlaw22_awake = some r) : PureAt Try.prog 7 [] (.bool r) := by
  refine pure_of_iwp (rs := [.bool r]) Try.func7 rfl Try.ntmps7 (nle rfl) rfl fun O hO => ?_
  show IWP _ _ _ _ ⟨[], []⟩ _
  unfold sennitlaw22_awake at h
  refine iwp_reg (ils_cons rfl (iop_assign rfl rfl (by decide) (sv (d := .bool false) rfl)) <|
    ils_end ?_)
  obtain ⟨x1, hx1, h⟩ := bno_e h
  refine iwp_reg (ils_cons rfl (iop_call (r := .tuple [.agg [.bool _, .int _ _, .int _ _, .slice _ _, .slice _ _, .int _ _, .int _ _, .int _ _, .int _ _], .int _ _]) rfl rfl (by decide) cl22 (.cons (sv (d := .bool true) rfl) (.cons (sv (d := .int _ 2) rfl) (.cons (sv (d := .int _ 1) rfl) .nil))) rfl (p_stid_New _ _ _ _ hx1)) <|
    ils_cons rfl (iop_move rfl rfl (by decide) (sv (d := .tuple [.agg [.bool _, .int _ _, .int _ _, .slice _ _, .slice _ _, .int _ _, .int _ _, .int _ _, .int _ _], .int _ _]) rfl)) <|
    ils_cons rfl (iop_extract (d := .agg [.bool _, .int _ _, .int _ _, .slice _ _, .slice _ _, .int _ _, .int _ _, .int _ _, .int _ _]) rfl rfl (by decide) (sv (d := .tuple [.agg [.bool _, .int _ _, .int _ _, .slice _ _, .slice _ _, .int _ _, .int _ _, .int _ _, .int _ _], .int _ _]) rfl) rfl) <|
    ils_cons rfl (iop_extract (d := .int _ _) rfl rfl (by decide) (sv (d := .tuple [.agg [.bool _, .int _ _, .int _ _, .slice _ _, .slice _ _, .int _ _, .int _ _, .int _ _, .int _ _], .int _ _]) rfl) rfl) <|
    ils_cons rfl (iop_allocS (cs := [.bool _, .int _ _, .int _ _, .nils, .nils, .int _ _, .int _ _, .int _ _, .int _ _]) (cs' := [.bool false, .int .i64 0, .int .i64 0, .slice false (([] : List Int).map (eInt .i64).d), .slice false (([] : List Int).map (eInt .i64).d), .int .i64 0, .int .i64 0, .int .i64 0, .int .i64 0]) 0 rfl rfl (by decide) rfl ti27 rfl rfl (.cons (.refl _) (.cons (.refl _) (.cons (.refl _) (.cons (.nils _) (.cons (.nils _) (.cons (.refl _) (.cons (.refl _) (.cons (.refl _) (.cons (.refl _) .nil)))))))))) <|
    ils_cons rfl (iop_store (ds' := [.bool _, .int _ _, .int _ _, .slice _ _, .slice _ _, .int _ _, .int _ _, .int _ _, .int _ _]) rfl rfl ti27 (sv (d := .ref _ _) rfl) rfl (sv (d := .agg [.bool _, .int _ _, .int _ _, .slice _ _, .slice _ _, .int _ _, .int _ _, .int _ _, .int _ _]) rfl) rfl rfl rfl (nle rfl) rfl) <|
    ils_cons rfl (iop_assign rfl rfl (by decide) (sv (d := .int _ _) rfl)) <|
    ils_end ?_)
  obtain ⟨x2, hx2, h⟩ := bno_e h
  refine iwp_reg (ils_cons rfl (iop_load_ra (cs := [.bool _, .int _ _, .int _ _, .slice _ _, .slice _ _, .int _ _, .int _ _, .int _ _, .int _ _]) rfl rfl (by decide) Try.underlying27 ag27 ti27 (by decide) (sv (d := .ref _ _) rfl) rfl (nle rfl) rfl) <|
    ils_cons rfl (iop_call (r := .tuple [.agg [.bool _, .int _ _, .int _ _, .slice _ _, .slice _ _, .int _ _, .int _ _, .int _ _, .int _ _], .int _ _, .int _ _]) rfl rfl (by decide) cl8 (.cons (sv (d := .agg [.bool _, .int _ _, .int _ _, .slice _ _, .slice _ _, .int _ _, .int _ _, .int _ _, .int _ _]) rfl) .nil) rfl (p_stid_Open _ _ hx2)) <|
    ils_cons rfl (iop_move rfl rfl (by decide) (sv (d := .tuple [.agg [.bool _, .int _ _, .int _ _, .slice _ _, .slice _ _, .int _ _, .int _ _, .int _ _, .int _ _], .int _ _, .int _ _]) rfl)) <|
    ils_cons rfl (iop_extract (d := .agg [.bool _, .int _ _, .int _ _, .slice _ _, .slice _ _, .int _ _, .int _ _, .int _ _, .int _ _]) rfl rfl (by decide) (sv (d := .tuple [.agg [.bool _, .int _ _, .int _ _, .slice _ _, .slice _ _, .int _ _, .int _ _, .int _ _, .int _ _], .int _ _, .int _ _]) rfl) rfl) <|
    ils_cons rfl (iop_extract (d := .int _ _) rfl rfl (by decide) (sv (d := .tuple [.agg [.bool _, .int _ _, .int _ _, .slice _ _, .slice _ _, .int _ _, .int _ _, .int _ _, .int _ _], .int _ _, .int _ _]) rfl) rfl) <|
    ils_cons rfl (iop_extract (d := .int _ _) rfl rfl (by decide) (sv (d := .tuple [.agg [.bool _, .int _ _, .int _ _, .slice _ _, .slice _ _, .int _ _, .int _ _, .int _ _, .int _ _], .int _ _, .int _ _]) rfl) rfl) <|
    ils_cons rfl (iop_store (ds' := [.bool _, .int _ _, .int _ _, .slice _ _, .slice _ _, .int _ _, .int _ _, .int _ _, .int _ _]) rfl rfl ti27 (sv (d := .ref _ _) rfl) rfl (sv (d := .agg [.bool _, .int _ _, .int _ _, .slice _ _, .slice _ _, .int _ _, .int _ _, .int _ _, .int _ _]) rfl) rfl rfl rfl (nle rfl) rfl) <|
    ils_cons rfl (iop_assign rfl rfl (by decide) (sv (d := .int _ _) rfl)) <|
    ils_cons rfl (iop_assign rfl rfl (by decide) (sv (d := .int _ _) rfl)) <|
    ils_end ?_)
  obtain ⟨x3, hx3, h⟩ := bno_e h
  refine iwp_reg (ils_cons rfl (iop_load_ra (cs := [.bool _, .int _ _, .int _ _, .slice _ _, .slice _ _, .int _ _, .int _ _, .int _ _, .int _ _]) rfl rfl (by decide) Try.underlying27 ag27 ti27 (by decide) (sv (d := .ref _ _) rfl) rfl (nle rfl) rfl) <|
    ils_cons rfl (iop_call (r := .tuple [.agg [.bool _, .int _ _, .int _ _, .slice _ _, .slice _ _, .int _ _, .int _ _, .int _ _, .int _ _], .int _ _, .int _ _]) rfl rfl (by decide) cl8 (.cons (sv (d := .agg [.bool _, .int _ _, .int _ _, .slice _ _, .slice _ _, .int _ _, .int _ _, .int _ _, .int _ _]) rfl) .nil) rfl (p_stid_Open _ _ hx3)) <|
    ils_cons rfl (iop_move rfl rfl (by decide) (sv (d := .tuple [.agg [.bool _, .int _ _, .int _ _, .slice _ _, .slice _ _, .int _ _, .int _ _, .int _ _, .int _ _], .int _ _, .int _ _]) rfl)) <|
    ils_cons rfl (iop_extract (d := .agg [.bool _, .int _ _, .int _ _, .slice _ _, .slice _ _, .int _ _, .int _ _, .int _ _, .int _ _]) rfl rfl (by decide) (sv (d := .tuple [.agg [.bool _, .int _ _, .int _ _, .slice _ _, .slice _ _, .int _ _, .int _ _, .int _ _, .int _ _], .int _ _, .int _ _]) rfl) rfl) <|
    ils_cons rfl (iop_extract (d := .int _ _) rfl rfl (by decide) (sv (d := .tuple [.agg [.bool _, .int _ _, .int _ _, .slice _ _, .slice _ _, .int _ _, .int _ _, .int _ _, .int _ _], .int _ _, .int _ _]) rfl) rfl) <|
    ils_cons rfl (iop_extract (d := .int _ _) rfl rfl (by decide) (sv (d := .tuple [.agg [.bool _, .int _ _, .int _ _, .slice _ _, .slice _ _, .int _ _, .int _ _, .int _ _, .int _ _], .int _ _, .int _ _]) rfl) rfl) <|
    ils_cons rfl (iop_store (ds' := [.bool _, .int _ _, .int _ _, .slice _ _, .slice _ _, .int _ _, .int _ _, .int _ _, .int _ _]) rfl rfl ti27 (sv (d := .ref _ _) rfl) rfl (sv (d := .agg [.bool _, .int _ _, .int _ _, .slice _ _, .slice _ _, .int _ _, .int _ _, .int _ _, .int _ _]) rfl) rfl rfl rfl (nle rfl) rfl) <|
    ils_cons rfl (iop_assign rfl rfl (by decide) (sv (d := .int _ _) rfl)) <|
    ils_cons rfl (iop_assign rfl rfl (by decide) (sv (d := .int _ _) rfl)) <|
    ils_end ?_)
  obtain ⟨x4, hx4, h⟩ := bno_e h
  refine iwp_reg (ils_cons rfl (iop_load_ra (cs := [.bool _, .int _ _, .int _ _, .slice _ _, .slice _ _, .int _ _, .int _ _, .int _ _, .int _ _]) rfl rfl (by decide) Try.underlying27 ag27 ti27 (by decide) (sv (d := .ref _ _) rfl) rfl (nle rfl) rfl) <|
    ils_cons rfl (iop_call (r := .tuple [.agg [.bool _, .int _ _, .int _ _, .slice _ _, .slice _ _, .int _ _, .int _ _, .int _ _, .int _ _], .int _ _, .int _ _]) rfl rfl (by decide) cl8 (.cons (sv (d := .agg [.bool _, .int _ _, .int _ _, .slice _ _, .slice _ _, .int _ _, .int _ _, .int _ _, .int _ _]) rfl) .nil) rfl (p_stid_Open _ _ hx4)) <|
    ils_cons rfl (iop_move rfl rfl (by decide) (sv (d := .tuple [.agg [.bool _, .int _ _, .int _ _, .slice _ _, .slice _ _, .int _ _, .int _ _, .int _ _, .int _ _], .int _ _, .int _ _]) rfl)) <|
    ils_cons rfl (iop_extract (d := .agg [.bool _, .int _ _, .int _ _, .slice _ _, .slice _ _, .int _ _, .int _ _, .int _ _, .int _ _]) rfl rfl (by decide) (sv (d := .tuple [.agg [.bool _, .int _ _, .int _ _, .slice _ _, .slice _ _, .int _ _, .int _ _, .int _ _, .int _ _], .int _ _, .int _ _]) rfl) rfl) <|
    ils_cons rfl (iop_extract (d := .int _ _) rfl rfl (by decide) (sv (d := .tuple [.agg [.bool _, .int _ _, .int _ _, .slice _ _, .slice _ _, .int _ _, .int _ _, .int _ _, .int _ _], .int _ _, .int _ _]) rfl) rfl) <|
    ils_cons rfl (iop_extract (d := .int _ _) rfl rfl (by decide) (sv (d := .tuple [.agg [.bool _, .int _ _, .int _ _, .slice _ _, .slice _ _, .int _ _, .int _ _, .int _ _, .int _ _], .int _ _, .int _ _]) rfl) rfl) <|
    ils_cons rfl (iop_allocS (cs := [.bool _, .int _ _, .int _ _, .nils, .nils, .int _ _, .int _ _, .int _ _, .int _ _]) (cs' := [.bool false, .int .i64 0, .int .i64 0, .slice false (([] : List Int).map (eInt .i64).d), .slice false (([] : List Int).map (eInt .i64).d), .int .i64 0, .int .i64 0, .int .i64 0, .int .i64 0]) 1 rfl rfl (by decide) rfl ti27 rfl rfl (.cons (.refl _) (.cons (.refl _) (.cons (.refl _) (.cons (.nils _) (.cons (.nils _) (.cons (.refl _) (.cons (.refl _) (.cons (.refl _) (.cons (.refl _) .nil)))))))))) <|
    ils_cons rfl (iop_store (ds' := [.bool _, .int _ _, .int _ _, .slice _ _, .slice _ _, .int _ _, .int _ _, .int _ _, .int _ _]) rfl rfl ti27 (sv (d := .ref _ _) rfl) rfl (sv (d := .agg [.bool _, .int _ _, .int _ _, .slice _ _, .slice _ _, .int _ _, .int _ _, .int _ _, .int _ _]) rfl) rfl rfl rfl (nle rfl) rfl) <|
    ils_cons rfl (iop_assign rfl rfl (by decide) (sv (d := .int _ _) rfl)) <|
    ils_cons rfl (iop_assign rfl rfl (by decide) (sv (d := .int _ _) rfl)) <|
    ils_end ?_)
  obtain ⟨x5, hx5, h⟩ := bno_e h
  refine iwp_reg (ils_cons rfl (iop_load_ra (cs := [.bool _, .int _ _, .int _ _, .slice _ _, .slice _ _, .int _ _, .int _ _, .int _ _, .int _ _]) rfl rfl (by decide) Try.underlying27 ag27 ti27 (by decide) (sv (d := .ref _ _) rfl) rfl (nle rfl) rfl) <|
    ils_cons rfl (iop_call (r := .tuple [.agg [.bool _, .int _ _, .int _ _, .slice _ _, .slice _ _, .int _ _, .int _ _, .int _ _, .int _ _], .agg [.int _ _, .int _ _]]) rfl rfl (by decide) cl10 (.cons (sv (d := .agg [.bool _, .int _ _, .int _ _, .slice _ _, .slice _ _, .int _ _, .int _ _, .int _ _, .int _ _]) rfl) (.cons (sv (d := .int _ 2) rfl) .nil)) rfl (p_stid_Begin _ _ _ hx5)) <|
    ils_cons rfl (iop_move rfl rfl (by decide) (sv (d := .tuple [.agg [.bool _, .int _ _, .int _ _, .slice _ _, .slice _ _, .int _ _, .int _ _, .int _ _, .int _ _], .agg [.int _ _, .int _ _]]) rfl)) <|
    ils_cons rfl (iop_extract (d := .agg [.bool _, .int _ _, .int _ _, .slice _ _, .slice _ _, .int _ _, .int _ _, .int _ _, .int _ _]) rfl rfl (by decide) (sv (d := .tuple [.agg [.bool _, .int _ _, .int _ _, .slice _ _, .slice _ _, .int _ _, .int _ _, .int _ _, .int _ _], .agg [.int _ _, .int _ _]]) rfl) rfl) <|
    ils_cons rfl (iop_extract (d := .agg [.int _ _, .int _ _]) rfl rfl (by decide) (sv (d := .tuple [.agg [.bool _, .int _ _, .int _ _, .slice _ _, .slice _ _, .int _ _, .int _ _, .int _ _, .int _ _], .agg [.int _ _, .int _ _]]) rfl) rfl) <|
    ils_cons rfl (iop_allocS (cs := [.bool _, .int _ _, .int _ _, .nils, .nils, .int _ _, .int _ _, .int _ _, .int _ _]) (cs' := [.bool false, .int .i64 0, .int .i64 0, .slice false (([] : List Int).map (eInt .i64).d), .slice false (([] : List Int).map (eInt .i64).d), .int .i64 0, .int .i64 0, .int .i64 0, .int .i64 0]) 2 rfl rfl (by decide) rfl ti27 rfl rfl (.cons (.refl _) (.cons (.refl _) (.cons (.refl _) (.cons (.nils _) (.cons (.nils _) (.cons (.refl _) (.cons (.refl _) (.cons (.refl _) (.cons (.refl _) .nil)))))))))) <|
    ils_cons rfl (iop_allocS (cs := [.int _ _, .int _ _]) (cs' := [.int .i64 0, .int .u32 0]) 3 rfl rfl (by decide) rfl ti36 rfl rfl (.cons (.refl _) (.cons (.refl _) .nil))) <|
    ils_cons rfl (iop_store (ds' := [.bool _, .int _ _, .int _ _, .slice _ _, .slice _ _, .int _ _, .int _ _, .int _ _, .int _ _]) rfl rfl ti27 (sv (d := .ref _ _) rfl) rfl (sv (d := .agg [.bool _, .int _ _, .int _ _, .slice _ _, .slice _ _, .int _ _, .int _ _, .int _ _, .int _ _]) rfl) rfl rfl rfl (nle rfl) rfl) <|
    ils_cons rfl (iop_store (ds' := [.int _ _, .int _ _]) rfl rfl ti36 (sv (d := .ref _ _) rfl) rfl (sv (d := .agg [.int _ _, .int _ _]) rfl) rfl rfl rfl (nle rfl) rfl) <|
    ils_end ?_)
  obtain ⟨x6, hx6, h⟩ := bno_e h
  refine iwp_reg (ils_cons rfl (iop_load_ra (cs := [.bool _, .int _ _, .int _ _, .slice _ _, .slice _ _, .int _ _, .int _ _, .int _ _, .int _ _]) rfl rfl (by decide) Try.underlying27 ag27 ti27 (by decide) (sv (d := .ref _ _) rfl) rfl (nle rfl) rfl) <|
    ils_cons rfl (iop_call (r := .tuple [.agg [.bool _, .int _ _, .int _ _, .slice _ _, .slice _ _, .int _ _, .int _ _, .int _ _, .int _ _], .agg [.int _ _, .int _ _]]) rfl rfl (by decide) cl10 (.cons (sv (d := .agg [.bool _, .int _ _, .int _ _, .slice _ _, .slice _ _, .int _ _, .int _ _, .int _ _, .int _ _]) rfl) (.cons (sv (d := .int _ 6) rfl) .nil)) rfl (p_stid_Begin _ _ _ hx6)) <|
    ils_cons rfl (iop_move rfl rfl (by decide) (sv (d := .tuple [.agg [.bool _, .int _ _, .int _ _, .slice _ _, .slice _ _, .int _ _, .int _ _, .int _ _, .int _ _], .agg [.int _ _, .int _ _]]) rfl)) <|
    ils_cons rfl (iop_extract (d := .agg [.bool _, .int _ _, .int _ _, .slice _ _, .slice _ _, .int _ _, .int _ _, .int _ _, .int _ _]) rfl rfl (by decide) (sv (d := .tuple [.agg [.bool _, .int _ _, .int _ _, .slice _ _, .slice _ _, .int _ _, .int _ _, .int _ _, .int _ _], .agg [.int _ _, .int _ _]]) rfl) rfl) <|
    ils_cons rfl (iop_extract (d := .agg [.int _ _, .int _ _]) rfl rfl (by decide) (sv (d := .tuple [.agg [.bool _, .int _ _, .int _ _, .slice _ _, .slice _ _, .int _ _, .int _ _, .int _ _, .int _ _], .agg [.int _ _, .int _ _]]) rfl) rfl) <|
    ils_cons rfl (iop_allocS (cs := [.bool _, .int _ _, .int _ _, .nils, .nils, .int _ _, .int _ _, .int _ _, .int _ _]) (cs' := [.bool false, .int .i64 0, .int .i64 0, .slice false (([] : List Int).map (eInt .i64).d), .slice false (([] : List Int).map (eInt .i64).d), .int .i64 0, .int .i64 0, .int .i64 0, .int .i64 0]) 4 rfl rfl (by decide) rfl ti27 rfl rfl (.cons (.refl _) (.cons (.refl _) (.cons (.refl _) (.cons (.nils _) (.cons (.nils _) (.cons (.refl _) (.cons (.refl _) (.cons (.refl _) (.cons (.refl _) .nil)))))))))) <|
    ils_cons rfl (iop_allocS (cs := [.int _ _, .int _ _]) (cs' := [.int .i64 0, .int .u32 0]) 5 rfl rfl (by decide) rfl ti36 rfl rfl (.cons (.refl _) (.cons (.refl _) .nil))) <|
    ils_cons rfl (iop_store (ds' := [.bool _, .int _ _, .int _ _, .slice _ _, .slice _ _, .int _ _, .int _ _, .int _ _, .int _ _]) rfl rfl ti27 (sv (d := .ref _ _) rfl) rfl (sv (d := .agg [.bool _, .int _ _, .int _ _, .slice _ _, .slice _ _, .int _ _, .int _ _, .int _ _, .int _ _]) rfl) rfl rfl rfl (nle rfl) rfl) <|
    ils_cons rfl (iop_store (ds' := [.int _ _, .int _ _]) rfl rfl ti36 (sv (d := .ref _ _) rfl) rfl (sv (d := .agg [.int _ _, .int _ _]) rfl) rfl rfl rfl (nle rfl) rfl) <|
    ils_end ?_)
  obtain ⟨x7, hx7, h⟩ := bno_e h
  refine iwp_reg (ils_cons rfl (iop_load_ra (cs := [.bool _, .int _ _, .int _ _, .slice _ _, .slice _ _, .int _ _, .int _ _, .int _ _, .int _ _]) rfl rfl (by decide) Try.underlying27 ag27 ti27 (by decide) (sv (d := .ref _ _) rfl) rfl (nle rfl) rfl) <|
    ils_cons rfl (iop_call (r := .tuple [.agg [.bool _, .int _ _, .int _ _, .slice _ _, .slice _ _, .int _ _, .int _ _, .int _ _, .int _ _], .slice _ _, .bool _]) rfl rfl (by decide) cl14 (.cons (sv (d := .agg [.bool _, .int _ _, .int _ _, .slice _ _, .slice _ _, .int _ _, .int _ _, .int _ _, .int _ _]) rfl) (.cons (sv (d := .int _ 1) rfl) .nil)) rfl (p_stid_Away _ _ _ hx7)) <|
    ils_cons rfl (iop_move rfl rfl (by decide) (sv (d := .tuple [.agg [.bool _, .int _ _, .int _ _, .slice _ _, .slice _ _, .int _ _, .int _ _, .int _ _, .int _ _], .slice _ _, .bool _]) rfl)) <|
    ils_cons rfl (iop_extract (d := .agg [.bool _, .int _ _, .int _ _, .slice _ _, .slice _ _, .int _ _, .int _ _, .int _ _, .int _ _]) rfl rfl (by decide) (sv (d := .tuple [.agg [.bool _, .int _ _, .int _ _, .slice _ _, .slice _ _, .int _ _, .int _ _, .int _ _, .int _ _], .slice _ _, .bool _]) rfl) rfl) <|
    ils_cons rfl (iop_extract (d := .slice _ _) rfl rfl (by decide) (sv (d := .tuple [.agg [.bool _, .int _ _, .int _ _, .slice _ _, .slice _ _, .int _ _, .int _ _, .int _ _, .int _ _], .slice _ _, .bool _]) rfl) rfl) <|
    ils_cons rfl (iop_extract (d := .bool _) rfl rfl (by decide) (sv (d := .tuple [.agg [.bool _, .int _ _, .int _ _, .slice _ _, .slice _ _, .int _ _, .int _ _, .int _ _, .int _ _], .slice _ _, .bool _]) rfl) rfl) <|
    ils_cons rfl (iop_allocS (cs := [.bool _, .int _ _, .int _ _, .nils, .nils, .int _ _, .int _ _, .int _ _, .int _ _]) (cs' := [.bool false, .int .i64 0, .int .i64 0, .slice false (([] : List Int).map (eInt .i64).d), .slice false (([] : List Int).map (eInt .i64).d), .int .i64 0, .int .i64 0, .int .i64 0, .int .i64 0]) 6 rfl rfl (by decide) rfl ti27 rfl rfl (.cons (.refl _) (.cons (.refl _) (.cons (.refl _) (.cons (.nils _) (.cons (.nils _) (.cons (.refl _) (.cons (.refl _) (.cons (.refl _) (.cons (.refl _) .nil)))))))))) <|
    ils_cons rfl (iop_store (ds' := [.bool _, .int _ _, .int _ _, .slice _ _, .slice _ _, .int _ _, .int _ _, .int _ _, .int _ _]) rfl rfl ti27 (sv (d := .ref _ _) rfl) rfl (sv (d := .agg [.bool _, .int _ _, .int _ _, .slice _ _, .slice _ _, .int _ _, .int _ _, .int _ _, .int _ _]) rfl) rfl rfl rfl (nle rfl) rfl) <|
    ils_cons rfl (iop_assign rfl rfl (by decide) (sv (d := .slice _ _) rfl)) <|
    ils_cons rfl (iop_assign rfl rfl (by decide) (sv (d := .bool _) rfl)) <|
    ils_end ?_)
  obtain ⟨x8, hx8, h⟩ := bno_e h
  refine iwp_reg (ils_cons rfl (iop_load_ra (cs := [.bool _, .int _ _, .int _ _, .slice _ _, .slice _ _, .int _ _, .int _ _, .int _ _, .int _ _]) rfl rfl (by decide) Try.underlying27 ag27 ti27 (by decide) (sv (d := .ref _ _) rfl) rfl (nle rfl) rfl) <|
    ils_cons rfl (iop_call (r := .tuple [.agg [.bool _, .int _ _, .int _ _, .slice _ _, .slice _ _, .int _ _, .int _ _, .int _ _, .int _ _], .int _ _]) rfl rfl (by decide) cl16 (.cons (sv (d := .agg [.bool _, .int _ _, .int _ _, .slice _ _, .slice _ _, .int _ _, .int _ _, .int _ _, .int _ _]) rfl) .nil) rfl (p_stid_Shut _ _ hx8)) <|
    ils_cons rfl (iop_move rfl rfl (by decide) (sv (d := .tuple [.agg [.bool _, .int _ _, .int _ _, .slice _ _, .slice _ _, .int _ _, .int _ _, .int _ _, .int _ _], .int _ _]) rfl)) <|
    ils_cons rfl (iop_extract (d := .agg [.bool _, .int _ _, .int _ _, .slice _ _, .slice _ _, .int _ _, .int _ _, .int _ _, .int _ _]) rfl rfl (by decide) (sv (d := .tuple [.agg [.bool _, .int _ _, .int _ _, .slice _ _, .slice _ _, .int _ _, .int _ _, .int _ _, .int _ _], .int _ _]) rfl) rfl) <|
    ils_cons rfl (iop_extract (d := .int _ _) rfl rfl (by decide) (sv (d := .tuple [.agg [.bool _, .int _ _, .int _ _, .slice _ _, .slice _ _, .int _ _, .int _ _, .int _ _, .int _ _], .int _ _]) rfl) rfl) <|
    ils_cons rfl (iop_allocS (cs := [.bool _, .int _ _, .int _ _, .nils, .nils, .int _ _, .int _ _, .int _ _, .int _ _]) (cs' := [.bool false, .int .i64 0, .int .i64 0, .slice false (([] : List Int).map (eInt .i64).d), .slice false (([] : List Int).map (eInt .i64).d), .int .i64 0, .int .i64 0, .int .i64 0, .int .i64 0]) 7 rfl rfl (by decide) rfl ti27 rfl rfl (.cons (.refl _) (.cons (.refl _) (.cons (.refl _) (.cons (.nils _) (.cons (.nils _) (.cons (.refl _) (.cons (.refl _) (.cons (.refl _) (.cons (.refl _) .nil)))))))))) <|
    ils_cons rfl (iop_store (ds' := [.bool _, .int _ _, .int _ _, .slice _ _, .slice _ _, .int _ _, .int _ _, .int _ _, .int _ _]) rfl rfl ti27 (sv (d := .ref _ _) rfl) rfl (sv (d := .agg [.bool _, .int _ _, .int _ _, .slice _ _, .slice _ _, .int _ _, .int _ _, .int _ _, .int _ _]) rfl) rfl rfl rfl (nle rfl) rfl) <|
    ils_cons rfl (iop_assign rfl rfl (by decide) (sv (d := .int _ _) rfl)) <|
    ils_end ?_)
  obtain ⟨x9, hx9, h⟩ := bno_e h
  refine iwp_reg (ils_cons rfl (iop_load_ra (cs := [.bool _, .int _ _, .int _ _, .slice _ _, .slice _ _, .int _ _, .int _ _, .int _ _, .int _ _]) rfl rfl (by decide) Try.underlying27 ag27 ti27 (by decide) (sv (d := .ref _ _) rfl) rfl (nle rfl) rfl) <|
    ils_cons rfl (iop_call (r := .tuple [.agg [.bool _, .int _ _, .int _ _, .slice _ _, .slice _ _, .int _ _, .int _ _, .int _ _, .int _ _], .agg [.int _ _, .int _ _]]) rfl rfl (by decide) cl10 (.cons (sv (d := .agg [.bool _, .int _ _, .int _ _, .slice _ _, .slice _ _, .int _ _, .int _ _, .int _ _, .int _ _]) rfl) (.cons (sv (d := .int _ 8) rfl) .nil)) rfl (p_stid_Begin _ _ _ hx9)) <|
    ils_cons rfl (iop_move rfl rfl (by decide) (sv (d := .tuple [.agg [.bool _, .int _ _, .int _ _, .slice _ _, .slice _ _, .int _ _, .int _ _, .int _ _, .int _ _], .agg [.int _ _, .int _ _]]) rfl)) <|
    ils_cons rfl (iop_extract (d := .agg [.bool _, .int _ _, .int _ _, .slice _ _, .slice _ _, .int _ _, .int _ _, .int _ _, .int _ _]) rfl rfl (by decide) (sv (d := .tuple [.agg [.bool _, .int _ _, .int _ _, .slice _ _, .slice _ _, .int _ _, .int _ _, .int _ _, .int _ _], .agg [.int _ _, .int _ _]]) rfl) rfl) <|
    ils_cons rfl (iop_extract (d := .agg [.int _ _, .int _ _]) rfl rfl (by decide) (sv (d := .tuple [.agg [.bool _, .int _ _, .int _ _, .slice _ _, .slice _ _, .int _ _, .int _ _, .int _ _, .int _ _], .agg [.int _ _, .int _ _]]) rfl) rfl) <|
    ils_cons rfl (iop_allocS (cs := [.bool _, .int _ _, .int _ _, .nils, .nils, .int _ _, .int _ _, .int _ _, .int _ _]) (cs' := [.bool false, .int .i64 0, .int .i64 0, .slice false (([] : List Int).map (eInt .i64).d), .slice false (([] : List Int).map (eInt .i64).d), .int .i64 0, .int .i64 0, .int .i64 0, .int .i64 0]) 8 rfl rfl (by decide) rfl ti27 rfl rfl (.cons (.refl _) (.cons (.refl _) (.cons (.refl _) (.cons (.nils _) (.cons (.nils _) (.cons (.refl _) (.cons (.refl _) (.cons (.refl _) (.cons (.refl _) .nil)))))))))) <|
    ils_cons rfl (iop_allocS (cs := [.int _ _, .int _ _]) (cs' := [.int .i64 0, .int .u32 0]) 9 rfl rfl (by decide) rfl ti36 rfl rfl (.cons (.refl _) (.cons (.refl _) .nil))) <|
    ils_cons rfl (iop_store (ds' := [.bool _, .int _ _, .int _ _, .slice _ _, .slice _ _, .int _ _, .int _ _, .int _ _, .int _ _]) rfl rfl ti27 (sv (d := .ref _ _) rfl) rfl (sv (d := .agg [.bool _, .int _ _, .int _ _, .slice _ _, .slice _ _, .int _ _, .int _ _, .int _ _, .int _ _]) rfl) rfl rfl rfl (nle rfl) rfl) <|
    ils_cons rfl (iop_store (ds' := [.int _ _, .int _ _]) rfl rfl ti36 (sv (d := .ref _ _) rfl) rfl (sv (d := .agg [.int _ _, .int _ _]) rfl) rfl rfl rfl (nle rfl) rfl) <|
    ils_end ?_)
  obtain ⟨x10, hx10, h⟩ := bno_e h
  refine iwp_reg (ils_cons rfl (iop_load_ra (cs := [.bool _, .int _ _, .int _ _, .slice _ _, .slice _ _, .int _ _, .int _ _, .int _ _, .int _ _]) rfl rfl (by decide) Try.underlying27 ag27 ti27 (by decide) (sv (d := .ref _ _) rfl) rfl (nle rfl) rfl) <|
    ils_cons rfl (iop_call (r := .tuple [.int _ _, .int _ _]) rfl rfl (by decide) cl25 (.cons (sv (d := .agg [.bool _, .int _ _, .int _ _, .slice _ _, .slice _ _, .int _ _, .int _ _, .int _ _, .int _ _]) rfl) .nil) rfl (p_stid_Count _ _ hx10)) <|
    ils_cons rfl (iop_move rfl rfl (by decide) (sv (d := .tuple [.int _ _, .int _ _]) rfl)) <|
    ils_cons rfl (iop_extract (d := .int _ _) rfl rfl (by decide) (sv (d := .tuple [.int _ _, .int _ _]) rfl) rfl) <|
    ils_cons rfl (iop_extract (d := .int _ _) rfl rfl (by decide) (sv (d := .tuple [.int _ _, .int _ _]) rfl) rfl) <|
    ils_cons rfl (iop_assign rfl rfl (by decide) (sv (d := .int _ _) rfl)) <|
    ils_cons rfl (iop_assign rfl rfl (by decide) (sv (d := .int _ _) rfl)) <|
    ils_end ?_)
  obtain ⟨x11, hx11, h⟩ := bnd_e h
  obtain ⟨x12, hx12, h⟩ := bnd_e h
  obtain ⟨x13, hx13, h⟩ := bnd_e h
  obtain ⟨x14, hx14, h⟩ := bnd_e h
  obtain ⟨x15, hx15, h⟩ := bnd_e h
  obtain ⟨x16, hx16, h⟩ := bnd_e h
  obtain ⟨x17, hx17, h⟩ := bnd_e h
  obtain ⟨x18, hx18, h⟩ := bnd_e h
  obtain ⟨x19, hx19, h⟩ := bnd_e h
  obtain ⟨x20, hx20, h⟩ := bnd_e h
  obtain ⟨x21, hx21, h⟩ := bnd_e h
  obtain ⟨x22, hx22, h⟩ := bnd_e h
  obtain ⟨x23, hx23, h⟩ := bnd_e h
  obtain ⟨x24, hx24, h⟩ := bnd_e h
  obtain ⟨x25, hx25, h⟩ := bnd_e h
  obtain ⟨x26, hx26, h⟩ := bno_e h
  obtain ⟨x27, hx27, h⟩ := bnd_e h
  obtain ⟨x28, hx28, h⟩ := bnd_e h
  obtain ⟨x29, hx29, h⟩ := bnd_e h
  obtain ⟨x30, hx30, h⟩ := bnd_e h
  obtain ⟨x31, hx31, h⟩ := bnd_e h
  obtain ⟨x32, hx32, h⟩ := bnd_e h
  obtain ⟨x33, hx33, h⟩ := bnd_e h
  obtain ⟨x34, hx34, h⟩ := bnd_e h
  obtain ⟨x35, hx35, h⟩ := bnd_e h
  obtain ⟨x36, hx36, h⟩ := bnd_e h
  obtain ⟨x37, hx37, h⟩ := bno_e h
  obtain ⟨x38, hx38, h⟩ := bnd_e h
  obtain ⟨x39, hx39, h⟩ := bnd_e h
  obtain ⟨x40, hx40, h⟩ := bno_e h
  obtain ⟨x41, hx41, h⟩ := bnd_e h
  obtain ⟨x42, hx42, h⟩ := bnd_e h
  obtain ⟨x43, hx43, h⟩ := bno_e h
  obtain ⟨x44, hx44, h⟩ := bnd_e h
  obtain ⟨x45, hx45, h⟩ := bnd_e h
  obtain ⟨x46, hx46, h⟩ := bno_e h
  obtain ⟨x47, hx47, h⟩ := bnd_e h
  obtain ⟨x48, hx48, h⟩ := bnd_e h
  obtain ⟨x49, hx49, h⟩ := bno_e h
  obtain ⟨x50, hx50, h⟩ := bno_e h
  obtain ⟨x51, hx51, h⟩ := bnd_e h
  obtain ⟨x52, hx52, h⟩ := bnd_e h
  obtain ⟨x53, hx53, h⟩ := bno_e h
  obtain ⟨x54, hx54, h⟩ := bnd_e h
  obtain ⟨x55, hx55, h⟩ := bno_e h
  obtain ⟨x56, hx56, h⟩ := bnd_e h
  obtain ⟨x57, hx57, h⟩ := bno_e h
  obtain ⟨x58, hx58, h⟩ := bnd_e h
  obtain ⟨x59, hx59, h⟩ := bnd_e h
  obtain ⟨x60, hx60, h⟩ := bno_e h
  obtain ⟨x61, hx61, h⟩ := bnd_e h
  obtain ⟨x62, hx62, h⟩ := bnd_e h
  obtain ⟨x63, hx63, h⟩ := bno_e h
  obtain ⟨x64, hx64, h⟩ := bnd_e h
  obtain ⟨x65, hx65, h⟩ := bno_e h
  obtain ⟨x66, hx66, h⟩ := bnd_e h
  obtain ⟨x67, hx67, h⟩ := bnd_e h
  obtain ⟨x68, hx68, h⟩ := bnd_e h
  obtain ⟨x69, hx69, h⟩ := bnd_e h
  refine iwp_reg (ils_cons rfl (iop_move rfl rfl (by decide) (sv (d := .int _ _) rfl)) <|
    ils_cons rfl (iop_cmpx rfl rfl (by decide) (sv (d := .int _ _) rfl) (sv (d := .int _ 0) rfl) rfl hx11) <|
    ils_cons rfl (iop_move rfl rfl (by decide) (sv (d := .bool _) rfl)) <|
    ils_guard rfl rfl (.one rfl) rfl (by decide) (fun hb => (iop_move rfl rfl (by decide) (sv (d := .int _ _) rfl))) <|
    ils_guard rfl rfl (.one rfl) rfl (by decide) (fun hb => (iop_cmpx rfl rfl (by decide) (svc (d := .int _ _) rfl hb) (sv (d := .int _ 1) rfl) rfl hx12)) <|
    ils_cons rfl (iop_andx rfl rfl (by decide) (sv (d := .bool _) rfl) rfl rfl hx13) <|
    ils_cons rfl (iop_move rfl rfl (by decide) (sv (d := .bool _) rfl)) <|
    ils_guard rfl rfl (.one rfl) rfl (by decide) (fun hb => (iop_move rfl rfl (by decide) (sv (d := .int _ _) rfl))) <|
    ils_guard rfl rfl (.one rfl) rfl (by decide) (fun hb => (iop_cmpx rfl rfl (by decide) (svc (d := .int _ _) rfl hb) (sv (d := .int _ 0) rfl) rfl hx14)) <|
    ils_cons rfl (iop_andx rfl rfl (by decide) (sv (d := .bool _) rfl) rfl rfl hx15) <|
    ils_cons rfl (iop_move rfl rfl (by decide) (sv (d := .bool _) rfl)) <|
    ils_guard rfl rfl (.one rfl) rfl (by decide) (fun hb => (iop_move rfl rfl (by decide) (sv (d := .int _ _) rfl))) <|
    ils_guard rfl rfl (.one rfl) rfl (by decide) (fun hb => (iop_cmpx rfl rfl (by decide) (svc (d := .int _ _) rfl hb) (sv (d := .int _ 3) rfl) rfl hx16)) <|
    ils_cons rfl (iop_andx rfl rfl (by decide) (sv (d := .bool _) rfl) rfl rfl hx17) <|
    ils_cons rfl (iop_move rfl rfl (by decide) (sv (d := .bool _) rfl)) <|
    ils_guard rfl rfl (.one rfl) rfl (by decide) (fun hb => (iop_move rfl rfl (by decide) (sv (d := .int _ _) rfl))) <|
    ils_guard rfl rfl (.one rfl) rfl (by decide) (fun hb => (iop_cmpx rfl rfl (by decide) (svc (d := .int _ _) rfl hb) (sv (d := .int _ 0) rfl) rfl hx18)) <|
    ils_cons rfl (iop_andx rfl rfl (by decide) (sv (d := .bool _) rfl) rfl rfl hx19) <|
    ils_cons rfl (iop_move rfl rfl (by decide) (sv (d := .bool _) rfl)) <|
    ils_guard rfl rfl (.one rfl) rfl (by decide) (fun hb => (iop_move rfl rfl (by decide) (sv (d := .int _ _) rfl))) <|
    ils_guard rfl rfl (.one rfl) rfl (by decide) (fun hb => (iop_cmpx rfl rfl (by decide) (svc (d := .int _ _) rfl hb) (sv (d := .int _ 7) rfl) rfl hx20)) <|
    ils_cons rfl (iop_andx rfl rfl (by decide) (sv (d := .bool _) rfl) rfl rfl hx21) <|
    ils_cons rfl (iop_move rfl rfl (by decide) (sv (d := .bool _) rfl)) <|
    ils_guard rfl rfl (.one rfl) rfl (by decide) (fun hb => (iop_load_ra (cs := [.int _ _, .int _ _]) rfl rfl (by decide) Try.underlying36 ag36 ti36 (by decide) (sv (d := .ref _ _) rfl) rfl (nle rfl) rfl)) <|
    ils_guard rfl rfl (.one rfl) rfl (by decide) (fun hb => (iop_build_struct (cs := [.int _ _, .int _ _]) rfl rfl (by decide) Try.underlying36 ti36 pl36 rfl .nil rfl)) <|
    ils_guard rfl rfl (.one rfl) rfl (by decide) (fun hb => (iop_eqs rfl rfl (by decide) Try.underlying36 st36.1 st36.2 (svc (d := .agg [.int .i64 x5.2.Scope, .int .u32 x5.2.Code]) rfl hb) (svc (d := .agg [.int .i64 0, .int .u32 0]) rfl hb) (congrArg some hx22))) <|
    ils_cons rfl (iop_andx rfl rfl (by decide) (sv (d := .bool _) rfl) rfl rfl hx23) <|
    ils_cons rfl (iop_move rfl rfl (by decide) (sv (d := .bool _) rfl)) <|
    ils_guard rfl rfl (.one rfl) rfl (by decide) (fun hb => (iop_load_ra (cs := [.int _ _, .int _ _]) rfl rfl (by decide) Try.underlying36 ag36 ti36 (by decide) (sv (d := .ref _ _) rfl) rfl (nle rfl) rfl)) <|
    ils_guard rfl rfl (.one rfl) rfl (by decide) (fun hb => (iop_build_struct (cs := [.int _ _, .int _ _]) rfl rfl (by decide) Try.underlying36 ti36 pl36 rfl (.cons (sv (d := .int _ 2) rfl) (.cons (sv (d := .int _ 7) rfl) .nil)) rfl)) <|
    ils_guard rfl rfl (.one rfl) rfl (by decide) (fun hb => (iop_eqs rfl rfl (by decide) Try.underlying36 st36.1 st36.2 (svc (d := .agg [.int .i64 x6.2.Scope, .int .u32 x6.2.Code]) rfl hb) (svc (d := .agg [.int .i64 2, .int .u32 7]) rfl hb) (congrArg some hx24))) <|
    ils_cons rfl (iop_andx rfl rfl (by decide) (sv (d := .bool _) rfl) rfl rfl hx25) <|
    ils_cons rfl (iop_move rfl rfl (by decide) (sv (d := .bool _) rfl)) <|
    ils_guard rfl rfl (.one rfl) rfl (by decide) (fun hb => (iop_move rfl rfl (by decide) (sv (d := .slice _ _) rfl))) <|
    ils_guard rfl rfl (.one rfl) rfl (by decide) (fun hb => (iop_bsF (eInt .i64) ([3] : (List Int)) rfl rfl (by decide) Try.underlying22 ti3 (.cons (sv (d := .int _ 3) rfl) .nil) rfl rfl (by decide))) <|
    ils_guard rfl rfl (.one rfl) rfl (by decide) (fun hb => (iop_call (r := .bool _) rfl rfl (by decide) cl21 (.cons (svc (d := .slice _ _) rfl hb) (.cons (svc (d := .slice _ _) rfl hb) .nil)) rfl (p_sennitref02_SameInts _ _ _ (gd_t hx26 hb)))) <|
    ils_cons rfl (iop_andx rfl rfl (by decide) (sv (d := .bool _) rfl) rfl rfl hx27) <|
    ils_cons rfl (iop_move rfl rfl (by decide) (sv (d := .bool _) rfl)) <|
    ils_guard rfl rfl (.one rfl) rfl (by decide) (fun hb => (iop_move rfl rfl (by decide) (sv (d := .bool _) rfl))) <|
    ils_cons rfl (iop_andx rfl rfl (by decide) (sv (d := .bool _) rfl) rfl rfl hx28) <|
    ils_cons rfl (iop_move rfl rfl (by decide) (sv (d := .bool _) rfl)) <|
    ils_guard rfl rfl (.one rfl) rfl (by decide) (fun hb => (iop_move rfl rfl (by decide) (sv (d := .int _ _) rfl))) <|
    ils_guard rfl rfl (.one rfl) rfl (by decide) (fun hb => (iop_cmpx rfl rfl (by decide) (svc (d := .int _ _) rfl hb) (sv (d := .int _ 6) rfl) rfl hx29)) <|
    ils_cons rfl (iop_andx rfl rfl (by decide) (sv (d := .bool _) rfl) rfl rfl hx30) <|
    ils_cons rfl (iop_move rfl rfl (by decide) (sv (d := .bool _) rfl)) <|
    ils_guard rfl rfl (.one rfl) rfl (by decide) (fun hb => (iop_fieldAddr_ref rfl rfl (by decide) Try.underlying36 rfl ti3 (by decide) (sv (d := .ref _ _) rfl) (off' := 0) rfl)) <|
    ils_guard rfl rfl (.one rfl) rfl (by decide) (fun hb => (iop_load_rs (d := .int _ _) rfl rfl (by decide) Try.underlying3 ag3 ti3 (by decide) (svc (d := .ref _ _) rfl hb) rfl (nle rfl) rfl)) <|
    ils_guard rfl rfl (.one rfl) rfl (by decide) (fun hb => (iop_cmpx rfl rfl (by decide) (svc (d := .int _ _) rfl hb) (sv (d := .int _ 1) rfl) rfl hx31)) <|
    ils_cons rfl (iop_andx rfl rfl (by decide) (sv (d := .bool _) rfl) rfl rfl hx32) <|
    ils_cons rfl (iop_move rfl rfl (by decide) (sv (d := .bool _) rfl)) <|
    ils_guard rfl rfl (.one rfl) rfl (by decide) (fun hb => (iop_move rfl rfl (by decide) (sv (d := .int _ _) rfl))) <|
    ils_guard rfl rfl (.one rfl) rfl (by decide) (fun hb => (iop_cmpx rfl rfl (by decide) (svc (d := .int _ _) rfl hb) (sv (d := .int _ 1) rfl) rfl hx33)) <|
    ils_cons rfl (iop_andx rfl rfl (by decide) (sv (d := .bool _) rfl) rfl rfl hx34) <|
    ils_cons rfl (iop_move rfl rfl (by decide) (sv (d := .bool _) rfl)) <|
    ils_guard rfl rfl (.one rfl) rfl (by decide) (fun hb => (iop_move rfl rfl (by decide) (sv (d := .int _ _) rfl))) <|
    ils_guard rfl rfl (.one rfl) rfl (by decide) (fun hb => (iop_cmpx rfl rfl (by decide) (svc (d := .int _ _) rfl hb) (sv (d := .int _ 1) rfl) rfl hx35)) <|
    ils_cons rfl (iop_andx rfl rfl (by decide) (sv (d := .bool _) rfl) rfl rfl hx36) <|
    ils_cons rfl (iop_move rfl rfl (by decide) (sv (d := .bool _) rfl)) <|
    ils_guard rfl rfl (.one rfl) rfl (by decide) (fun hb => (iop_load_ra (cs := [.bool _, .int _ _, .int _ _, .slice _ _, .slice _ _, .int _ _, .int _ _, .int _ _, .int _ _]) rfl rfl (by decide) Try.underlying27 ag27 ti27 (by decide) (sv (d := .ref _ _) rfl) rfl (nle rfl) rfl)) <|
    ils_guard rfl rfl (.one rfl) rfl (by decide) (fun hb => (iop_call (r := .int _ _) rfl rfl (by decide) cl23 (.cons (svc (d := .agg [.bool x7.1.Odd, .int .i64 x7.1.Next, .int .i64 x7.1.Last, .slice false (x7.1.Live.map (eInt .i64).d), .slice false (x7.1.Cut.map (eInt .i64).d), .int .i64 x7.1.Mine, .int .i64 x7.1.Hers, .int .i64 x7.1.Heard, .int .i64 x7.1.Told]) rfl hb) (.cons (sv (d := .int _ 3) rfl) .nil)) rfl (p_stid_Class _ _ _ (gd_t hx37 hb)))) <|
    ils_guard rfl rfl (.one rfl) rfl (by decide) (fun hb => (iop_cmpx rfl rfl (by decide) (svc (d := .int _ _) rfl hb) (sv (d := .int _ 4) rfl) rfl hx38)) <|
    ils_cons rfl (iop_andx rfl rfl (by decide) (sv (d := .bool _) rfl) rfl rfl hx39) <|
    ils_cons rfl (iop_move rfl rfl (by decide) (sv (d := .bool _) rfl)) <|
    ils_guard rfl rfl (.one rfl) rfl (by decide) (fun hb => (iop_load_ra (cs := [.bool _, .int _ _, .int _ _, .slice _ _, .slice _ _, .int _ _, .int _ _, .int _ _, .int _ _]) rfl rfl (by decide) Try.underlying27 ag27 ti27 (by decide) (sv (d := .ref _ _) rfl) rfl (nle rfl) rfl)) <|
    ils_guard rfl rfl (.one rfl) rfl (by decide) (fun hb => (iop_call (r := .int _ _) rfl rfl (by decide) cl23 (.cons (svc (d := .agg [.bool x7.1.Odd, .int .i64 x7.1.Next, .int .i64 x7.1.Last, .slice false (x7.1.Live.map (eInt .i64).d), .slice false (x7.1.Cut.map (eInt .i64).d), .int .i64 x7.1.Mine, .int .i64 x7.1.Hers, .int .i64 x7.1.Heard, .int .i64 x7.1.Told]) rfl hb) (.cons (sv (d := .int _ 6) rfl) .nil)) rfl (p_stid_Class _ _ _ (gd_t hx40 hb)))) <|
    ils_guard rfl rfl (.one rfl) rfl (by decide) (fun hb => (iop_cmpx rfl rfl (by decide) (svc (d := .int _ _) rfl hb) (sv (d := .int _ 5) rfl) rfl hx41)) <|
    ils_cons rfl (iop_andx rfl rfl (by decide) (sv (d := .bool _) rfl) rfl rfl hx42) <|
    ils_cons rfl (iop_move rfl rfl (by decide) (sv (d := .bool _) rfl)) <|
    ils_guard rfl rfl (.one rfl) rfl (by decide) (fun hb => (iop_load_ra (cs := [.bool _, .int _ _, .int _ _, .slice _ _, .slice _ _, .int _ _, .int _ _, .int _ _, .int _ _]) rfl rfl (by decide) Try.underlying27 ag27 ti27 (by decide) (sv (d := .ref _ _) rfl) rfl (nle rfl) rfl)) <|
    ils_guard rfl rfl (.one rfl) rfl (by decide) (fun hb => (iop_call (r := .int _ _) rfl rfl (by decide) cl23 (.cons (svc (d := .agg [.bool x7.1.Odd, .int .i64 x7.1.Next, .int .i64 x7.1.Last, .slice false (x7.1.Live.map (eInt .i64).d), .slice false (x7.1.Cut.map (eInt .i64).d), .int .i64 x7.1.Mine, .int .i64 x7.1.Hers, .int .i64 x7.1.Heard, .int .i64 x7.1.Told]) rfl hb) (.cons (sv (d := .int _ 8) rfl) .nil)) rfl (p_stid_Class _ _ _ (gd_t hx43 hb)))) <|
    ils_guard rfl rfl (.one rfl) rfl (by decide) (fun hb => (iop_cmpx rfl rfl (by decide) (svc (d := .int _ _) rfl hb) (sv (d := .int _ 1) rfl) rfl hx44)) <|
    ils_cons rfl (iop_andx rfl rfl (by decide) (sv (d := .bool _) rfl) rfl rfl hx45) <|
    ils_cons rfl (iop_move rfl rfl (by decide) (sv (d := .bool _) rfl)) <|
    ils_guard rfl rfl (.one rfl) rfl (by decide) (fun hb => (iop_load_ra (cs := [.bool _, .int _ _, .int _ _, .slice _ _, .slice _ _, .int _ _, .int _ _, .int _ _, .int _ _]) rfl rfl (by decide) Try.underlying27 ag27 ti27 (by decide) (sv (d := .ref _ _) rfl) rfl (nle rfl) rfl)) <|
    ils_guard rfl rfl (.one rfl) rfl (by decide) (fun hb => (iop_call (r := .int _ _) rfl rfl (by decide) cl23 (.cons (svc (d := .agg [.bool x7.1.Odd, .int .i64 x7.1.Next, .int .i64 x7.1.Last, .slice false (x7.1.Live.map (eInt .i64).d), .slice false (x7.1.Cut.map (eInt .i64).d), .int .i64 x7.1.Mine, .int .i64 x7.1.Hers, .int .i64 x7.1.Heard, .int .i64 x7.1.Told]) rfl hb) (.cons (sv (d := .int _ 5) rfl) .nil)) rfl (p_stid_Class _ _ _ (gd_t hx46 hb)))) <|
    ils_guard rfl rfl (.one rfl) rfl (by decide) (fun hb => (iop_cmpx rfl rfl (by decide) (svc (d := .int _ _) rfl hb) (sv (d := .int _ 6) rfl) rfl hx47)) <|
    ils_cons rfl (iop_andx rfl rfl (by decide) (sv (d := .bool _) rfl) rfl rfl hx48) <|
    ils_cons rfl (iop_move rfl rfl (by decide) (sv (d := .bool _) rfl)) <|
    ils_guard rfl rfl (.one rfl) rfl (by decide) (fun hb => (iop_load_ra (cs := [.bool _, .int _ _, .int _ _, .slice _ _, .slice _ _, .int _ _, .int _ _, .int _ _, .int _ _]) rfl rfl (by decide) Try.underlying27 ag27 ti27 (by decide) (sv (d := .ref _ _) rfl) rfl (nle rfl) rfl)) <|
    ils_guard rfl rfl (.one rfl) rfl (by decide) (fun hb => (iop_call (r := .agg [.bool _, .int _ _, .int _ _, .slice _ _, .slice _ _, .int _ _, .int _ _, .int _ _, .int _ _]) rfl rfl (by decide) cl12 (.cons (svc (d := .agg [.bool x7.1.Odd, .int .i64 x7.1.Next, .int .i64 x7.1.Last, .slice false (x7.1.Live.map (eInt .i64).d), .slice false (x7.1.Cut.map (eInt .i64).d), .int .i64 x7.1.Mine, .int .i64 x7.1.Hers, .int .i64 x7.1.Heard, .int .i64 x7.1.Told]) rfl hb) (.cons (sv (d := .int _ 2) rfl) (.cons (sv (d := .bool true) rfl) .nil))) rfl (p_stid_End _ _ _ _ (gd_t hx49 hb)))) <|
    ils_guard rfl rfl (.one rfl) rfl (by decide) (fun hb => (iop_call (r := .int _ _) rfl rfl (by decide) cl23 (.cons (svc (d := .agg [.bool x49.Odd, .int .i64 x49.Next, .int .i64 x49.Last, .slice false (x49.Live.map (eInt .i64).d), .slice false (x49.Cut.map (eInt .i64).d), .int .i64 x49.Mine, .int .i64 x49.Hers, .int .i64 x49.Heard, .int .i64 x49.Told]) rfl hb) (.cons (sv (d := .int _ 2) rfl) .nil)) rfl (p_stid_Class _ _ _ (gd_t hx50 hb)))) <|
    ils_guard rfl rfl (.one rfl) rfl (by decide) (fun hb => (iop_cmpx rfl rfl (by decide) (svc (d := .int _ _) rfl hb) (sv (d := .int _ 5) rfl) rfl hx51)) <|
    ils_cons rfl (iop_andx rfl rfl (by decide) (sv (d := .bool _) rfl) rfl rfl hx52) <|
    ils_cons rfl (iop_move rfl rfl (by decide) (sv (d := .bool _) rfl)) <|
    ils_guard rfl rfl (.one rfl) rfl (by decide) (fun hb => (iop_load_ra (cs := [.bool _, .int _ _, .int _ _, .slice _ _, .slice _ _, .int _ _, .int _ _, .int _ _, .int _ _]) rfl rfl (by decide) Try.underlying27 ag27 ti27 (by decide) (sv (d := .ref _ _) rfl) rfl (nle rfl) rfl)) <|
    ils_guard rfl rfl (.one rfl) rfl (by decide) (fun hb => (iop_call (r := .bool _) rfl rfl (by decide) cl24 (.cons (svc (d := .agg [.bool x7.1.Odd, .int .i64 x7.1.Next, .int .i64 x7.1.Last, .slice false (x7.1.Live.map (eInt .i64).d), .slice false (x7.1.Cut.map (eInt .i64).d), .int .i64 x7.1.Mine, .int .i64 x7.1.Hers, .int .i64 x7.1.Heard, .int .i64 x7.1.Told]) rfl hb) (.cons (sv (d := .int _ 5) rfl) .nil)) rfl (p_stid_Own _ _ _ (gd_t hx53 hb)))) <|
    ils_cons rfl (iop_andx rfl rfl (by decide) (sv (d := .bool _) rfl) rfl rfl hx54) <|
    ils_cons rfl (iop_move rfl rfl (by decide) (sv (d := .bool _) rfl)) <|
    ils_guard rfl rfl (.one rfl) rfl (by decide) (fun hb => (iop_load_ra (cs := [.bool _, .int _ _, .int _ _, .slice _ _, .slice _ _, .int _ _, .int _ _, .int _ _, .int _ _]) rfl rfl (by decide) Try.underlying27 ag27 ti27 (by decide) (sv (d := .ref _ _) rfl) rfl (nle rfl) rfl)) <|
    ils_guard rfl rfl (.one rfl) rfl (by decide) (fun hb => (iop_call (r := .bool _) rfl rfl (by decide) cl24 (.cons (svc (d := .agg [.bool x7.1.Odd, .int .i64 x7.1.Next, .int .i64 x7.1.Last, .slice false (x7.1.Live.map (eInt .i64).d), .slice false (x7.1.Cut.map (eInt .i64).d), .int .i64 x7.1.Mine, .int .i64 x7.1.Hers, .int .i64 x7.1.Heard, .int .i64 x7.1.Told]) rfl hb) (.cons (sv (d := .int _ 4) rfl) .nil)) rfl (p_stid_Own _ _ _ (gd_t hx55 hb)))) <|
    ils_guard rfl rfl (.one rfl) rfl (by decide) (fun hb => (iop_not rfl rfl (by decide) (svc (d := .bool _) rfl hb))) <|
    ils_cons rfl (iop_andx rfl rfl (by decide) (sv (d := .bool _) rfl) rfl rfl hx56) <|
    ils_cons rfl (iop_move rfl rfl (by decide) (sv (d := .bool _) rfl)) <|
    ils_guard rfl rfl (.one rfl) rfl (by decide) (fun hb => (iop_load_ra (cs := [.bool _, .int _ _, .int _ _, .slice _ _, .slice _ _, .int _ _, .int _ _, .int _ _, .int _ _]) rfl rfl (by decide) Try.underlying27 ag27 ti27 (by decide) (sv (d := .ref _ _) rfl) rfl (nle rfl) rfl)) <|
    ils_guard rfl rfl (.one rfl) rfl (by decide) (fun hb => (iop_call (r := .int _ _) rfl rfl (by decide) cl26 (.cons (svc (d := .agg [.bool x8.1.Odd, .int .i64 x8.1.Next, .int .i64 x8.1.Last, .slice false (x8.1.Live.map (eInt .i64).d), .slice false (x8.1.Cut.map (eInt .i64).d), .int .i64 x8.1.Mine, .int .i64 x8.1.Hers, .int .i64 x8.1.Heard, .int .i64 x8.1.Told]) rfl hb) .nil) rfl (p_stid_Check _ _ (gd_t hx57 hb)))) <|
    ils_guard rfl rfl (.one rfl) rfl (by decide) (fun hb => (iop_cmpx rfl rfl (by decide) (svc (d := .int _ _) rfl hb) (sv (d := .int _ 0) rfl) rfl hx58)) <|
    ils_cons rfl (iop_andx rfl rfl (by decide) (sv (d := .bool _) rfl) rfl rfl hx59) <|
    ils_cons rfl (iop_move rfl rfl (by decide) (sv (d := .bool _) rfl)) <|
    ils_guard rfl rfl (.one rfl) rfl (by decide) (fun hb => (iop_sub (d' := .agg [.bool false, .int .i64 0, .int .i64 0, .slice false (([] : List Int).map (eInt .i64).d), .slice false (([] : List Int).map (eInt .i64).d), .int .i64 0, .int .i64 0, .int .i64 0, .int .i64 0]) (iop_build_struct (cs := [.bool _, .int _ _, .int _ _, .nils, .nils, .int _ _, .int _ _, .int _ _, .int _ _]) rfl rfl (by decide) Try.underlying27 ti27 pl27 rfl .nil rfl) (.agg (.cons (.refl _) (.cons (.refl _) (.cons (.refl _) (.cons (.nils _) (.cons (.nils _) (.cons (.refl _) (.cons (.refl _) (.cons (.refl _) (.cons (.refl _) .nil)))))))))))) <|
    ils_guard rfl rfl (.one rfl) rfl (by decide) (fun hb => (iop_call (r := .int _ _) rfl rfl (by decide) cl26 (.cons (svc (d := .agg [.bool false, .int .i64 0, .int .i64 0, .slice false (([] : List Int).map (eInt .i64).d), .slice false (([] : List Int).map (eInt .i64).d), .int .i64 0, .int .i64 0, .int .i64 0, .int .i64 0]) rfl hb) .nil) rfl (p_stid_Check _ _ (gd_t hx60 hb)))) <|
    ils_guard rfl rfl (.one rfl) rfl (by decide) (fun hb => (iop_cmpx rfl rfl (by decide) (svc (d := .int _ _) rfl hb) (sv (d := .int _ 8) rfl) rfl hx61)) <|
    ils_cons rfl (iop_andx rfl rfl (by decide) (sv (d := .bool _) rfl) rfl rfl hx62) <|
    ils_cons rfl (iop_move rfl rfl (by decide) (sv (d := .bool _) rfl)) <|
    ils_guard rfl rfl (.one rfl) rfl (by decide) (fun hb => (iop_load_ra (cs := [.bool _, .int _ _, .int _ _, .slice _ _, .slice _ _, .int _ _, .int _ _, .int _ _, .int _ _]) rfl rfl (by decide) Try.underlying27 ag27 ti27 (by decide) (sv (d := .ref _ _) rfl) rfl (nle rfl) rfl)) <|
    ils_guard rfl rfl (.one rfl) rfl (by decide) (fun hb => (iop_load_ra (cs := [.bool _, .int _ _, .int _ _, .slice _ _, .slice _ _, .int _ _, .int _ _, .int _ _, .int _ _]) rfl rfl (by decide) Try.underlying27 ag27 ti27 (by decide) (sv (d := .ref _ _) rfl) rfl (nle rfl) rfl)) <|
    ils_guard rfl rfl (.one rfl) rfl (by decide) (fun hb => (iop_call (r := .bool _) rfl rfl (by decide) cl27 (.cons (svc (d := .agg [.bool x7.1.Odd, .int .i64 x7.1.Next, .int .i64 x7.1.Last, .slice false (x7.1.Live.map (eInt .i64).d), .slice false (x7.1.Cut.map (eInt .i64).d), .int .i64 x7.1.Mine, .int .i64 x7.1.Hers, .int .i64 x7.1.Heard, .int .i64 x7.1.Told]) rfl hb) (.cons (svc (d := .agg [.bool x7.1.Odd, .int .i64 x7.1.Next, .int .i64 x7.1.Last, .slice false (x7.1.Live.map (eInt .i64).d), .slice false (x7.1.Cut.map (eInt .i64).d), .int .i64 x7.1.Mine, .int .i64 x7.1.Hers, .int .i64 x7.1.Heard, .int .i64 x7.1.Told]) rfl hb) .nil)) rfl (p_stid_Same _ _ _ (gd_t hx63 hb)))) <|
    ils_cons rfl (iop_andx rfl rfl (by decide) (sv (d := .bool _) rfl) rfl rfl hx64) <|
    ils_cons rfl (iop_move rfl rfl (by decide) (sv (d := .bool _) rfl)) <|
    ils_guard rfl rfl (.one rfl) rfl (by decide) (fun hb => (iop_load_ra (cs := [.bool _, .int _ _, .int _ _, .slice _ _, .slice _ _, .int _ _, .int _ _, .int _ _, .int _ _]) rfl rfl (by decide) Try.underlying27 ag27 ti27 (by decide) (sv (d := .ref _ _) rfl) rfl (nle rfl) rfl)) <|
    ils_guard rfl rfl (.one rfl) rfl (by decide) (fun hb => (iop_load_ra (cs := [.bool _, .int _ _, .int _ _, .slice _ _, .slice _ _, .int _ _, .int _ _, .int _ _, .int _ _]) rfl rfl (by decide) Try.underlying27 ag27 ti27 (by decide) (sv (d := .ref _ _) rfl) rfl (nle rfl) rfl)) <|
    ils_guard rfl rfl (.one rfl) rfl (by decide) (fun hb => (iop_call (r := .bool _) rfl rfl (by decide) cl27 (.cons (svc (d := .agg [.bool x6.1.Odd, .int .i64 x6.1.Next, .int .i64 x6.1.Last, .slice false (x6.1.Live.map (eInt .i64).d), .slice false (x6.1.Cut.map (eInt .i64).d), .int .i64 x6.1.Mine, .int .i64 x6.1.Hers, .int .i64 x6.1.Heard, .int .i64 x6.1.Told]) rfl hb) (.cons (svc (d := .agg [.bool x7.1.Odd, .int .i64 x7.1.Next, .int .i64 x7.1.Last, .slice false (x7.1.Live.map (eInt .i64).d), .slice false (x7.1.Cut.map (eInt .i64).d), .int .i64 x7.1.Mine, .int .i64 x7.1.Hers, .int .i64 x7.1.Heard, .int .i64 x7.1.Told]) rfl hb) .nil)) rfl (p_stid_Same _ _ _ (gd_t hx65 hb)))) <|
    ils_guard rfl rfl (.one rfl) rfl (by decide) (fun hb => (iop_not rfl rfl (by decide) (svc (d := .bool _) rfl hb))) <|
    ils_cons rfl (iop_andx rfl rfl (by decide) (sv (d := .bool _) rfl) rfl rfl hx66) <|
    ils_cons rfl (iop_move rfl rfl (by decide) (sv (d := .bool _) rfl)) <|
    ils_cons rfl (iop_pickc rfl rfl (by decide) (sv (d := .bool _) rfl) rfl rfl hx67) <|
    ils_cons rfl (iop_move rfl rfl (by decide) (sv (d := .bool _) rfl)) <|
    ils_cons rfl (iop_pickc rfl rfl (by decide) (sv (d := .bool _) rfl) rfl rfl hx68) <|
    ils_cons rfl (iop_move rfl rfl (by decide) (sv (d := .bool _) rfl)) <|
    ils_cons rfl (iop_pickc rfl rfl (by decide) (sv (d := .bool _) rfl) rfl rfl hx69) <|
    ils_cons rfl (iop_assign rfl rfl (by decide) (sv (d := .bool _) rfl)) <|
    ils_end ?_)
  refine iwp_ret ?_
  obtain rfl := Option.some.inj h
  refine ⟨.inr rfl, (.cons (sv rfl) .nil)⟩

set_option maxRecDepth 8000 in
set_option maxHeartbeats 2000000 in
theorem p_sennitref22_in (a0 : Int) (a1 : Int) (a2 : Int) (r : Bool) (h : sennitref22_in a0 a1 a2 = some r) : PureAt Try.prog 38 [.int .i64 a0, .int .i64 a1, .int .i64 a2] (.bool r) := by
  refine pure_of_iwp (rs := [.bool r]) Try.func38 rfl Try.ntmps38 (nle rfl) rfl fun O hO => ?_
  show IWP _ _ _ _ ⟨[(0, .int .i64 a0), (1, .int .i64 a1), (2, .int .i64 a2)], []⟩ _
  unfold sennitref22_in at h
  refine iwp_reg (ils_cons rfl (iop_assign rfl rfl (by decide) (sv (d := .bool false) rfl)) <|
    ils_end ?_)
  obtain ⟨x1, hx1, h⟩ := bnd_e h
  obtain ⟨x2, hx2, h⟩ := bnd_e h
  obtain ⟨x3, hx3, h⟩ := bnd_e h
  refine iwp_reg (ils_cons rfl (iop_move rfl rfl (by decide) (sv (d := .int _ _) rfl)) <|
    ils_cons rfl (iop_move rfl rfl (by decide) (sv (d := .int _ _) rfl)) <|
    ils_cons rfl (iop_cmpx rfl rfl (by decide) (sv (d := .int _ _) rfl) (sv (d := .int _ _) rfl) rfl hx1) <|
    ils_cons rfl (iop_move rfl rfl (by decide) (sv (d := .bool _) rfl)) <|
    ils_guard rfl rfl (.one rfl) rfl (by decide) (fun hb => (iop_move rfl rfl (by decide) (sv (d := .int _ _) rfl))) <|
    ils_guard rfl rfl (.one rfl) rfl (by decide) (fun hb => (iop_move rfl rfl (by decide) (sv (d := .int _ _) rfl))) <|
    ils_guard rfl rfl (.one rfl) rfl (by decide) (fun hb => (iop_cmpx rfl rfl (by decide) (svc (d := .int _ _) rfl hb) (svc (d := .int _ _) rfl hb) rfl hx2)) <|
    ils_cons rfl (iop_andx rfl rfl (by decide) (sv (d := .bool _) rfl) rfl rfl hx3) <|
    ils_cons rfl (iop_assign rfl rfl (by decide) (sv (d := .bool _) rfl)) <|
    ils_end ?_)
  refine iwp_ret ?_
  obtain rfl := Option.some.inj h
  refine ⟨.inr rfl, (.cons (sv rfl) .nil)⟩

set_option maxRecDepth 8000 in
set_option maxHeartbeats 2000000 in
theorem p_sennitref22_Own (a0 : T_stid_State) (a1 : Int) (r : Bool) (h : sennitref22_Own a0 a1 = some r) : PureAt Try.prog 37 [.agg [.bool a0.Odd, .int .i64 a0.Next, .int .i64 a0.Last, .slice false (a0.Live.map (eInt .i64).d), .slice false (a0.Cut.map (eInt .i64).d), .int .i64 a0.Mine, .int .i64 a0.Hers, .int .i64 a0.Heard, .int .i64 a0.Told], .int .i64 a1] (.bool r) := by
  refine pure_of_iwp (rs := [.bool r]) Try.func37 rfl Try.ntmps37 (nle rfl) rfl fun O hO => ?_
  show IWP _ _ _ _ ⟨[(0, .agg [.bool a0.Odd, .int .i64 a0.Next, .int .i64 a0.Last, .slice false (a0.Live.map (eInt .i64).d), .slice false (a0.Cut.map (eInt .i64).d), .int .i64 a0.Mine, .int .i64 a0.Hers, .int .i64 a0.Heard, .int .i64 a0.Told]), (1, .int .i64 a1)], []⟩ _
  unfold sennitref22_Own at h
  refine iwp_reg (ils_cons rfl (iop_box' (cs := [.bool _, .int _ _, .int _ _, .slice _ _, .slice _ _, .int _ _, .int _ _, .int _ _, .int _ _]) 0 rfl rfl (by decide) rfl (sv (d := .agg [.bool _, .int _ _, .int _ _, .slice _ _, .slice _ _, .int _ _, .int _ _, .int _ _, .int _ _]) rfl) rfl rfl) <|
    ils_cons rfl (iop_assign rfl rfl (by decide) (sv (d := .bool false) rfl)) <|
    ils_end ?_)
  obtain ⟨x1, hx1, h⟩ := bnd_e h
  obtain ⟨x2, hx2, h⟩ := bno_e h
  obtain ⟨x3, hx3, h⟩ := bnd_e h
  obtain ⟨x4, hx4, h⟩ := bnd_e h
  obtain ⟨x5, hx5, h⟩ := bnd_e h
  refine iwp_reg (ils_cons rfl (iop_move rfl rfl (by decide) (sv (d := .int _ _) rfl)) <|
    ils_cons rfl (iop_cmpx rfl rfl (by decide) (sv (d := .int _ _) rfl) (sv (d := .int _ 0) rfl) rfl hx1) <|
    ils_cons rfl (iop_move rfl rfl (by decide) (sv (d := .bool _) rfl)) <|
    ils_guard rfl rfl (.one rfl) rfl (by decide) (fun hb => (iop_move rfl rfl (by decide) (sv (d := .int _ _) rfl))) <|
    ils_guard rfl rfl (.one rfl) rfl (by decide) (fun hb => (iop_remx rfl rfl (by decide) (svc (d := .int _ _) rfl hb) (sv (d := .int _ 2) rfl) (gd_t hx2 hb))) <|
    ils_guard rfl rfl (.one rfl) rfl (by decide) (fun hb => (iop_cmpx rfl rfl (by decide) (svc (d := .int _ _) rfl hb) (sv (d := .int _ 1) rfl) rfl hx3)) <|
    ils_guard rfl rfl (.one rfl) rfl (by decide) (fun hb => (iop_fieldAddr_ref rfl rfl (by decide) Try.underlying24 rfl ti4 (by decide) (sv (d := .ref _ _) rfl) (off' := 0) rfl)) <|
    ils_guard rfl rfl (.one rfl) rfl (by decide) (fun hb => (iop_load_rs (d := .bool _) rfl rfl (by decide) Try.underlying4 ag4 ti4 (by decide) (svc (d := .ref _ _) rfl hb) rfl (nle rfl) rfl)) <|
    ils_guard rfl rfl (.one rfl) rfl (by decide) (fun hb => (iop_eqbx rfl rfl (by decide) Try.underlying4 (svc (d := .bool _) rfl hb) (svc (d := .bool _) rfl hb) hx4)) <|
    ils_cons rfl (iop_andx rfl rfl (by decide) (sv (d := .bool _) rfl) rfl rfl hx5) <|
    ils_cons rfl (iop_assign rfl rfl (by decide) (sv (d := .bool _) rfl)) <|
    ils_end ?_)
  refine iwp_ret ?_
  obtain rfl := Option.some.inj h
  refine ⟨.inr rfl, (.cons (sv rfl) .nil)⟩

set_option maxRecDepth 8000 in
set_option maxHeartbeats 2000000 in
theorem p_sennitref22_began (a0 : T_stid_State) (a1 : Int) (r : Bool) (h : sennitref22_began a0 a1 = some r) : PureAt Try.prog 53 [.agg [.bool a0.Odd, .int .i64 a0.Next, .int .i64 a0.Last, .slice false (a0.Live.map (eInt .i64).d), .slice false (a0.Cut.map (eInt .i64).d), .int .i64 a0.Mine, .int .i64 a0.Hers, .int .i64 a0.Heard, .int .i64 a0.Told], .int .i64 a1] (.bool r) := by
  refine pure_of_iwp (rs := [.bool r]) Try.func53 rfl Try.ntmps53 (nle rfl) rfl fun O hO => ?_
  show IWP _ _ _ _ ⟨[(0, .agg [.bool a0.Odd, .int .i64 a0.Next, .int .i64 a0.Last, .slice false (a0.Live.map (eInt .i64).d), .slice false (a0.Cut.map (eInt .i64).d), .int .i64 a0.Mine, .int .i64 a0.Hers, .int .i64 a0.Heard, .int .i64 a0.Told]), (1, .int .i64 a1)], []⟩ _
  unfold sennitref22_began at h
  refine iwp_reg (ils_cons rfl (iop_box' (cs := [.bool _, .int _ _, .int _ _, .slice _ _, .slice _ _, .int _ _, .int _ _, .int _ _, .int _ _]) 0 rfl rfl (by decide) rfl (sv (d := .agg [.bool _, .int _ _, .int _ _, .slice _ _, .slice _ _, .int _ _, .int _ _, .int _ _, .int _ _]) rfl) rfl rfl) <|
    ils_cons rfl (iop_assign rfl rfl (by decide) (sv (d := .bool false) rfl)) <|
    ils_end ?_)
  refine iwp_seq ?_
  obtain ⟨x1, hx1, h⟩ := bno_e h
  refine iwp_reg (ils_cons rfl (iop_load_ra (cs := [.bool _, .int _ _, .int _ _, .slice _ _, .slice _ _, .int _ _, .int _ _, .int _ _, .int _ _]) rfl rfl (by decide) Try.underlying24 ag24 ti24 (by decide) (sv (d := .ref _ _) rfl) rfl (nle rfl) rfl) <|
    ils_cons rfl (iop_move rfl rfl (by decide) (sv (d := .int _ _) rfl)) <|
    ils_cons rfl (iop_call (r := .bool _) rfl rfl (by decide) cl37 (.cons (sv (d := .agg [.bool _, .int _ _, .int _ _, .slice _ _, .slice _ _, .int _ _, .int _ _, .int _ _, .int _ _]) rfl) (.cons (sv (d := .int _ _) rfl) .nil)) rfl (p_sennitref22_Own _ _ _ hx1)) <|
    ils_end ?_)
  refine iwp_cond (b := _) rfl (fun hc2 => ?_) (fun hc2 => ?_)
  ·
    replace h := bif_t h hc2
    obtain ⟨x3, hx3, h⟩ := bnd_e h
    refine iwp_reg (ils_cons rfl (iop_move rfl rfl (by decide) (sv (d := .int _ _) rfl)) <|
      ils_cons rfl (iop_fieldAddr_ref rfl rfl (by decide) Try.underlying24 rfl ti3 (by decide) (sv (d := .ref _ _) rfl) (off' := 1) rfl) <|
      ils_cons rfl (iop_load_rs (d := .int _ _) rfl rfl (by decide) Try.underlying3 ag3 ti3 (by decide) (sv (d := .ref _ _) rfl) rfl (nle rfl) rfl) <|
      ils_cons rfl (iop_cmpx rfl rfl (by decide) (sv (d := .int _ _) rfl) (sv (d := .int _ _) rfl) rfl hx3) <|
      ils_cons rfl (iop_assign rfl rfl (by decide) (sv (d := .bool _) rfl)) <|
      ils_end ?_)
    refine iwp_ret ?_
    refine thenQ_r ?_
    obtain rfl := Option.some.inj h
    refine ⟨.inr rfl, (.cons (sv rfl) .nil)⟩
  ·
    replace h := bif_f h hc2
    refine iwp_skip ?_
    refine thenQ_n ?_
    obtain ⟨x4, hx4, h⟩ := bnd_e h
    obtain ⟨x5, hx5, h⟩ := bnd_e h
    obtain ⟨x6, hx6, h⟩ := bnd_e h
    refine iwp_reg (ils_cons rfl (iop_move rfl rfl (by decide) (sv (d := .int _ _) rfl)) <|
      ils_cons rfl (iop_cmpx rfl rfl (by decide) (sv (d := .int _ _) rfl) (sv (d := .int _ 0) rfl) rfl hx4) <|
      ils_cons rfl (iop_move rfl rfl (by decide) (sv (d := .bool _) rfl)) <|
      ils_guard rfl rfl (.one rfl) rfl (by decide) (fun hb => (iop_move rfl rfl (by decide) (sv (d := .int _ _) rfl))) <|
      ils_guard rfl rfl (.one rfl) rfl (by decide) (fun hb => (iop_fieldAddr_ref rfl rfl (by decide) Try.underlying24 rfl ti3 (by decide) (sv (d := .ref _ _) rfl) (off' := 2) rfl)) <|
      ils_guard rfl rfl (.one rfl) rfl (by decide) (fun hb => (iop_load_rs (d := .int _ _) rfl rfl (by decide) Try.underlying3 ag3 ti3 (by decide) (svc (d := .ref _ _) rfl hb) rfl (nle rfl) rfl)) <|
      ils_guard rfl rfl (.one rfl) rfl (by decide) (fun hb => (iop_cmpx rfl rfl (by decide) (svc (d := .int _ _) rfl hb) (svc (d := .int _ _) rfl hb) rfl hx5)) <|
      ils_cons rfl (iop_andx rfl rfl (by decide) (sv (d := .bool _) rfl) rfl rfl hx6) <|
      ils_cons rfl (iop_assign rfl rfl (by decide) (sv (d := .bool _) rfl)) <|
      ils_end ?_)
    refine iwp_ret ?_
    obtain rfl := Option.some.inj h
    refine ⟨.inr rfl, (.cons (sv rfl) .nil)⟩

set_option maxRecDepth 8000 in
set_option maxHeartbeats 2000000 in
theorem p_sennitref22_Is (a0 : (List Int)) (a1 : Int) (r : Bool) (h : sennitref22_Is a0 a1 = some r) : PureAt Try.prog 39 [.slice false (a0.map (eInt .i64).d), .int .i64 a1] (.bool r) := by
  refine pure_of_iwp (rs := [.bool r]) Try.func39 rfl Try.ntmps39 (nle rfl) rfl fun O hO => ?_
  show IWP _ _ _ _ ⟨[(0, .slice false (a0.map (eInt .i64).d)), (1, .int .i64 a1)], []⟩ _
  unfold sennitref22_Is at h
  refine iwp_reg (ils_cons rfl (iop_assign rfl rfl (by decide) (sv (d := .bool false) rfl)) <|
    ils_end ?_)
  refine iwp_seq ?_
  refine iwp_reg (ils_cons rfl (iop_assign rfl rfl (by decide) (sv (d := .int _ 0) rfl)) <|
    ils_end ?_)
  refine iwp_block ?_
  refine iwp_loopP (α := Nat × Int) (fun z => ⟨[(0, .slice false (a0.map (eInt .i64).d)), (1, .int .i64 a1), (5, .int .i64 z.2)], []⟩) (fun z => sennitref22_Is_L0 a0 a1 z.1 z.2 = some r) (fun z => z.1) (fuel, 0) (fun i => i) ⟨(.cons (.same rfl rfl) (.cons (.same rfl rfl) (.cons (.same rfl rfl) .nil))), .nil, nd_of [] rfl (by decide), (fun i hi => by first | rfl | (show (if _ then _ else _) = _; (repeat' split) <;> omega))⟩ ?_ ?_
  · exact h
  ·
    rintro ⟨n0, v7⟩ h
    cases n0 with
    | zero => exact absurd h (by unfold sennitref22_Is_L0; exact nofun)
    | succ n0 =>
      unfold sennitref22_Is_L0 at h
      refine iwp_seq ?_
      obtain ⟨x14, hx14, h⟩ := bnd_e h
      refine iwp_reg (ils_cons rfl (iop_move rfl rfl (by decide) (sv (d := .int _ _) rfl)) <|
        ils_cons rfl (iop_move rfl rfl (by decide) (sv (d := .slice _ _) rfl)) <|
        ils_cons rfl (iop_lenT (eInt .i64) (l := a0) rfl rfl (by decide) Try.underlying22 (sv (d := .slice _ _) rfl)) <|
        ils_cons rfl (iop_cmpx rfl rfl (by decide) (sv (d := .int _ _) rfl) (sv (d := .int _ _) rfl) rfl hx14) <|
        ils_end ?_)
      refine iwp_cond (b := _) rfl (fun hc15 => ?_) (fun hc15 => ?_)
      ·
        replace h := bif_t h hc15
        refine iwp_skip ?_
        refine thenQ_n ?_
        refine iwp_seq ?_
        refine iwp_block ?_
        obtain ⟨x16, hx16, h⟩ := bno_e h
        obtain ⟨x17, hx17, h⟩ := bnd_e h
        refine iwp_reg (ils_cons rfl (iop_move rfl rfl (by decide) (sv (d := .slice _ _) rfl)) <|
          ils_cons rfl (iop_move rfl rfl (by decide) (sv (d := .int _ _) rfl)) <|
          ils_cons rfl (iop_idxT (eInt .i64) (cs := [.int _ _]) rfl rfl (by decide) Try.underlying22 ti3 (sv (d := .slice _ _) rfl) (sv (d := .int _ _) rfl) hx16 rfl rfl) <|
          ils_cons rfl (iop_load_fs rfl rfl (by decide) Try.underlying3 ag3 ti3 (by decide) (sv (d := .fptr [.int _ _]) rfl) (nle rfl)) <|
          ils_cons rfl (iop_move rfl rfl (by decide) (sv (d := .int _ _) rfl)) <|
          ils_cons rfl (iop_cmpx rfl rfl (by decide) (sv (d := .int _ _) rfl) (sv (d := .int _ _) rfl) rfl hx17) <|
          ils_end ?_)
        refine iwp_cond (b := _) rfl (fun hc18 => ?_) (fun hc18 => ?_)
        ·
          replace h := bif_t h hc18
          refine iwp_reg (ils_cons rfl (iop_assign rfl rfl (by decide) (sv (d := .bool true) rfl)) <|
            ils_end ?_)
          refine iwp_ret ?_
          refine blockQ_r ?_
          refine thenQ_r ?_
          refine thenQ_r ?_
          refine blockQ_r ?_
          refine thenQ_r ?_
          obtain rfl := Option.some.inj h
          refine ⟨.inr rfl, (.cons (sv rfl) .nil)⟩
        ·
          replace h := bif_f h hc18
          refine iwp_skip ?_
          refine blockQ_n ?_
          refine thenQ_n ?_
          obtain ⟨x19, hx19, h⟩ := bnd_e h
          refine iwp_region (ils_cons rfl (iop_move rfl rfl (by decide) (sv (d := .int _ _) rfl)) <|
            ils_cons rfl (iop_intx rfl rfl (by decide) (sv (d := .int _ _) rfl) (sv (d := .int _ 1) rfl) rfl hx19) <|
            ils_cons rfl (iop_assign rfl rfl (by decide) (sv (d := .int _ _) rfl)) <|
            ils_nil ?_)
          refine thenQ_n ⟨(n0, x19), (fun i => i), ⟨(.cons (.same rfl rfl) (.cons (.same rfl rfl) (.cons (.same rfl rfl) .nil))), .nil, nd_of [] rfl (by decide), (fun i hi => by first | rfl | (show (if _ then _ else _) = _; (repeat' split) <;> omega))⟩, ?_, ?_⟩
          exact h
          exact Nat.lt_succ_self _
      ·
        replace h := bif_f h hc15
        refine iwp_exit ?_
        refine thenQ_e ?_
        refine thenQ_e ?_
        refine blockQ_e ?_
        refine thenQ_n ?_
        refine iwp_reg (ils_cons rfl (iop_assign rfl rfl (by decide) (sv (d := .bool false) rfl)) <|
          ils_end ?_)
        refine iwp_ret ?_
        obtain rfl := Option.some.inj h
        refine ⟨.inr rfl, (.cons (sv rfl) .nil)⟩

set_option maxRecDepth 8000 in
set_option maxHeartbeats 2000000 in
theorem p_sennitref22_Check (a0 : T_stid_State) (r : Int) (h : sennitref22_Check a0 = some r) : PureAt Try.prog 30 [.agg [.bool a0.Odd, .int .i64 a0.Next, .int .i64 a0.Last, .slice false (a0.Live.map (eInt .i64).d), .slice false (a0.Cut.map (eInt .i64).d), .int .i64 a0.Mine, .int .i64 a0.Hers, .int .i64 a0.Heard, .int .i64 a0.Told]] (.int .i64 r) := by
  refine pure_of_iwp (rs := [.int .i64 r]) Try.func30 rfl Try.ntmps30 (nle rfl) rfl fun O hO => ?_
  show IWP _ _ _ _ ⟨[(0, .agg [.bool a0.Odd, .int .i64 a0.Next, .int .i64 a0.Last, .slice false (a0.Live.map (eInt .i64).d), .slice false (a0.Cut.map (eInt .i64).d), .int .i64 a0.Mine, .int .i64 a0.Hers, .int .i64 a0.Heard, .int .i64 a0.Told])], []⟩ _
  unfold sennitref22_Check at h
  refine iwp_reg (ils_cons rfl (iop_box' (cs := [.bool _, .int _ _, .int _ _, .slice _ _, .slice _ _, .int _ _, .int _ _, .int _ _, .int _ _]) 0 rfl rfl (by decide) rfl (sv (d := .agg [.bool _, .int _ _, .int _ _, .slice _ _, .slice _ _, .int _ _, .int _ _, .int _ _, .int _ _]) rfl) rfl rfl) <|
    ils_cons rfl (iop_assign rfl rfl (by decide) (sv (d := .int _ 0) rfl)) <|
    ils_end ?_)
  refine iwp_seq ?_
  refine iwp_block ?_
  obtain ⟨x1, hx1, h⟩ := bno_e h
  obtain ⟨x2, hx2, h⟩ := bno_e h
  obtain ⟨x3, hx3, h⟩ := bnd_e h
  obtain ⟨x4, hx4, h⟩ := bno_e h
  obtain ⟨x5, hx5, h⟩ := bnd_e h
  obtain ⟨x6, hx6, h⟩ := bnd_e h
  obtain ⟨x7, hx7, h⟩ := bno_e h
  obtain ⟨x8, hx8, h⟩ := bnd_e h
  obtain ⟨x9, hx9, h⟩ := bnd_e h
  refine iwp_reg (ils_cons rfl (iop_fieldAddr_ref rfl rfl (by decide) Try.underlying24 rfl ti3 (by decide) (sv (d := .ref _ _) rfl) (off' := 1) rfl) <|
    ils_cons rfl (iop_load_rs (d := .int _ _) rfl rfl (by decide) Try.underlying3 ag3 ti3 (by decide) (sv (d := .ref _ _) rfl) rfl (nle rfl) rfl) <|
    ils_cons rfl (iop_call (r := .bool _) rfl rfl (by decide) cl38 (.cons (sv (d := .int _ _) rfl) (.cons (sv (d := .int _ 1) rfl) (.cons (sv (d := .int _ 1048578) rfl) .nil))) rfl (p_sennitref22_in _ _ _ _ hx1)) <|
    ils_cons rfl (iop_not rfl rfl (by decide) (sv (d := .bool _) rfl)) <|
    ils_cons rfl (iop_move rfl rfl (by decide) (sv (d := .bool _) rfl)) <|
    ils_guard rfl rfl (.one rfl) rfl (by decide) (fun hb => (iop_load_ra (cs := [.bool _, .int _ _, .int _ _, .slice _ _, .slice _ _, .int _ _, .int _ _, .int _ _, .int _ _]) rfl rfl (by decide) Try.underlying24 ag24 ti24 (by decide) (sv (d := .ref _ _) rfl) rfl (nle rfl) rfl)) <|
    ils_guard rfl rfl (.one rfl) rfl (by decide) (fun hb => (iop_fieldAddr_ref rfl rfl (by decide) Try.underlying24 rfl ti3 (by decide) (sv (d := .ref _ _) rfl) (off' := 1) rfl)) <|
    ils_guard rfl rfl (.one rfl) rfl (by decide) (fun hb => (iop_load_rs (d := .int _ _) rfl rfl (by decide) Try.underlying3 ag3 ti3 (by decide) (svc (d := .ref _ _) rfl hb) rfl (nle rfl) rfl)) <|
    ils_guard rfl rfl (.one rfl) rfl (by decide) (fun hb => (iop_call (r := .bool _) rfl rfl (by decide) cl37 (.cons (svc (d := .agg [.bool a0.Odd, .int .i64 a0.Next, .int .i64 a0.Last, .slice false (a0.Live.map (eInt .i64).d), .slice false (a0.Cut.map (eInt .i64).d), .int .i64 a0.Mine, .int .i64 a0.Hers, .int .i64 a0.Heard, .int .i64 a0.Told]) rfl hb) (.cons (svc (d := .int _ _) rfl hb) .nil)) rfl (p_sennitref22_Own _ _ _ (gd_t hx2 hb)))) <|
    ils_guard rfl rfl (.one rfl) rfl (by decide) (fun hb => (iop_not rfl rfl (by decide) (svc (d := .bool _) rfl hb))) <|
    ils_cons rfl (iop_orx rfl rfl (by decide) (sv (d := .bool _) rfl) rfl rfl hx3) <|
    ils_cons rfl (iop_move rfl rfl (by decide) (sv (d := .bool _) rfl)) <|
    ils_guard rfl rfl (.one rfl) rfl (by decide) (fun hb => (iop_fieldAddr_ref rfl rfl (by decide) Try.underlying24 rfl ti3 (by decide) (sv (d := .ref _ _) rfl) (off' := 2) rfl)) <|
    ils_guard rfl rfl (.one rfl) rfl (by decide) (fun hb => (iop_load_rs (d := .int _ _) rfl rfl (by decide) Try.underlying3 ag3 ti3 (by decide) (svc (d := .ref _ _) rfl hb) rfl (nle rfl) rfl)) <|
    ils_guard rfl rfl (.one rfl) rfl (by decide) (fun hb => (iop_call (r := .bool _) rfl rfl (by decide) cl38 (.cons (svc (d := .int _ _) rfl hb) (.cons (sv (d := .int _ 0) rfl) (.cons (sv (d := .int _ 1048576) rfl) .nil))) rfl (p_sennitref22_in _ _ _ _ (gd_t hx4 hb)))) <|
    ils_guard rfl rfl (.one rfl) rfl (by decide) (fun hb => (iop_not rfl rfl (by decide) (svc (d := .bool _) rfl hb))) <|
    ils_cons rfl (iop_orx rfl rfl (by decide) (sv (d := .bool _) rfl) rfl rfl hx5) <|
    ils_cons rfl (iop_move rfl rfl (by decide) (sv (d := .bool _) rfl)) <|
    ils_guard rfl rfl (.one rfl) rfl (by decide) (fun hb => (iop_fieldAddr_ref rfl rfl (by decide) Try.underlying24 rfl ti3 (by decide) (sv (d := .ref _ _) rfl) (off' := 2) rfl)) <|
    ils_guard rfl rfl (.one rfl) rfl (by decide) (fun hb => (iop_load_rs (d := .int _ _) rfl rfl (by decide) Try.underlying3 ag3 ti3 (by decide) (svc (d := .ref _ _) rfl hb) rfl (nle rfl) rfl)) <|
    ils_guard rfl rfl (.one rfl) rfl (by decide) (fun hb => (iop_cmpx rfl rfl (by decide) (svc (d := .int _ _) rfl hb) (sv (d := .int _ 0) rfl) rfl hx6)) <|
    ils_guard rfl rfl (.one rfl) rfl (by decide) (fun hb => (iop_move rfl rfl (by decide) (svc (d := .bool _) rfl hb))) <|
    ils_guard rfl rfl (.two rfl) rfl (by decide) (fun hb => (iop_load_ra (cs := [.bool _, .int _ _, .int _ _, .slice _ _, .slice _ _, .int _ _, .int _ _, .int _ _, .int _ _]) rfl rfl (by decide) Try.underlying24 ag24 ti24 (by decide) (sv (d := .ref _ _) rfl) rfl (nle rfl) rfl)) <|
    ils_guard rfl rfl (.two rfl) rfl (by decide) (fun hb => (iop_fieldAddr_ref rfl rfl (by decide) Try.underlying24 rfl ti3 (by decide) (sv (d := .ref _ _) rfl) (off' := 2) rfl)) <|
    ils_guard rfl rfl (.two rfl) rfl (by decide) (fun hb => (iop_load_rs (d := .int _ _) rfl rfl (by decide) Try.underlying3 ag3 ti3 (by decide) (svc (d := .ref _ _) rfl hb) rfl (nle rfl) rfl)) <|
    ils_guard rfl rfl (.two rfl) rfl (by decide) (fun hb => (iop_call (r := .bool _) rfl rfl (by decide) cl37 (.cons (svc (d := .agg [.bool a0.Odd, .int .i64 a0.Next, .int .i64 a0.Last, .slice false (a0.Live.map (eInt .i64).d), .slice false (a0.Cut.map (eInt .i64).d), .int .i64 a0.Mine, .int .i64 a0.Hers, .int .i64 a0.Heard, .int .i64 a0.Told]) rfl hb) (.cons (svc (d := .int _ _) rfl hb) .nil)) rfl (p_sennitref22_Own _ _ _ (gd_t hx7 hb)))) <|
    ils_guard rfl rfl (.one rfl) rfl (by decide) (fun hb => (iop_and2x rfl rfl (by decide) hb (svc (d := .bool _) rfl hb) rfl rfl hx8)) <|
    ils_cons rfl (iop_orx rfl rfl (by decide) (sv (d := .bool _) rfl) rfl rfl hx9) <|
    ils_cons rfl (iop_assign rfl rfl (by decide) (sv (d := .bool _) rfl)) <|
    ils_end ?_)
  refine iwp_cond (b := _) rfl (fun hc10 => ?_) (fun hc10 => ?_)
  ·
    replace h := bif_t h hc10
    refine iwp_reg (ils_cons rfl (iop_assign rfl rfl (by decide) (sv (d := .int _ 8) rfl)) <|
      ils_end ?_)
    refine iwp_ret ?_
    refine blockQ_r ?_
    refine thenQ_r ?_
    obtain rfl := Option.some.inj h
    refine ⟨.inr rfl, (.cons (sv rfl) .nil)⟩
  ·
    replace h := bif_f h hc10
    obtain ⟨x11, hx11, h⟩ := bno_e h
    obtain ⟨x12, hx12, h⟩ := bno_e h
    obtain ⟨x13, hx13, h⟩ := bnd_e h
    obtain ⟨x14, hx14, h⟩ := bno_e h
    obtain ⟨x15, hx15, h⟩ := bnd_e h
    obtain ⟨x16, hx16, h⟩ := bno_e h
    obtain ⟨x17, hx17, h⟩ := bnd_e h
    refine iwp_reg (ils_cons rfl (iop_fieldAddr_ref rfl rfl (by decide) Try.underlying24 rfl ti3 (by decide) (sv (d := .ref _ _) rfl) (off' := 5) rfl) <|
      ils_cons rfl (iop_load_rs (d := .int _ _) rfl rfl (by decide) Try.underlying3 ag3 ti3 (by decide) (sv (d := .ref _ _) rfl) rfl (nle rfl) rfl) <|
      ils_cons rfl (iop_call (r := .bool _) rfl rfl (by decide) cl38 (.cons (sv (d := .int _ _) rfl) (.cons (sv (d := .int _ 0) rfl) (.cons (sv (d := .int _ 8) rfl) .nil))) rfl (p_sennitref22_in _ _ _ _ hx11)) <|
      ils_cons rfl (iop_not rfl rfl (by decide) (sv (d := .bool _) rfl)) <|
      ils_cons rfl (iop_move rfl rfl (by decide) (sv (d := .bool _) rfl)) <|
      ils_guard rfl rfl (.one rfl) rfl (by decide) (fun hb => (iop_fieldAddr_ref rfl rfl (by decide) Try.underlying24 rfl ti3 (by decide) (sv (d := .ref _ _) rfl) (off' := 6) rfl)) <|
      ils_guard rfl rfl (.one rfl) rfl (by decide) (fun hb => (iop_load_rs (d := .int _ _) rfl rfl (by decide) Try.underlying3 ag3 ti3 (by decide) (svc (d := .ref _ _) rfl hb) rfl (nle rfl) rfl)) <|
      ils_guard rfl rfl (.one rfl) rfl (by decide) (fun hb => (iop_call (r := .bool _) rfl rfl (by decide) cl38 (.cons (svc (d := .int _ _) rfl hb) (.cons (sv (d := .int _ 0) rfl) (.cons (sv (d := .int _ 8) rfl) .nil))) rfl (p_sennitref22_in _ _ _ _ (gd_t hx12 hb)))) <|
      ils_guard rfl rfl (.one rfl) rfl (by decide) (fun hb => (iop_not rfl rfl (by decide) (svc (d := .bool _) rfl hb))) <|
      ils_cons rfl (iop_orx rfl rfl (by decide) (sv (d := .bool _) rfl) rfl rfl hx13) <|
      ils_cons rfl (iop_move rfl rfl (by decide) (sv (d := .bool _) rfl)) <|
      ils_guard rfl rfl (.one rfl) rfl (by decide) (fun hb => (iop_fieldAddr_ref rfl rfl (by decide) Try.underlying24 rfl ti3 (by decide) (sv (d := .ref _ _) rfl) (off' := 7) rfl)) <|
      ils_guard rfl rfl (.one rfl) rfl (by decide) (fun hb => (iop_load_rs (d := .int _ _) rfl rfl (by decide) Try.underlying3 ag3 ti3 (by decide) (svc (d := .ref _ _) rfl hb) rfl (nle rfl) rfl)) <|
      ils_guard rfl rfl (.one rfl) rfl (by decide) (fun hb => (iop_call (r := .bool _) rfl rfl (by decide) cl38 (.cons (svc (d := .int _ _) rfl hb) (.cons (sv (d := .int _ (-1)) rfl) (.cons (sv (d := .int _ 1048576) rfl) .nil))) rfl (p_sennitref22_in _ _ _ _ (gd_t hx14 hb)))) <|
      ils_guard rfl rfl (.one rfl) rfl (by decide) (fun hb => (iop_not rfl rfl (by decide) (svc (d := .bool _) rfl hb))) <|
      ils_cons rfl (iop_orx rfl rfl (by decide) (sv (d := .bool _) rfl) rfl rfl hx15) <|
      ils_cons rfl (iop_move rfl rfl (by decide) (sv (d := .bool _) rfl)) <|
      ils_guard rfl rfl (.one rfl) rfl (by decide) (fun hb => (iop_fieldAddr_ref rfl rfl (by decide) Try.underlying24 rfl ti3 (by decide) (sv (d := .ref _ _) rfl) (off' := 8) rfl)) <|
      ils_guard rfl rfl (.one rfl) rfl (by decide) (fun hb => (iop_load_rs (d := .int _ _) rfl rfl (by decide) Try.underlying3 ag3 ti3 (by decide) (svc (d := .ref _ _) rfl hb) rfl (nle rfl) rfl)) <|
      ils_guard rfl rfl (.one rfl) rfl (by decide) (fun hb => (iop_call (r := .bool _) rfl rfl (by decide) cl38 (.cons (svc (d := .int _ _) rfl hb) (.cons (sv (d := .int _ (-1)) rfl) (.cons (sv (d := .int _ 1048576) rfl) .nil))) rfl (p_sennitref22_in _ _ _ _ (gd_t hx16 hb)))) <|
      ils_guard rfl rfl (.one rfl) rfl (by decide) (fun hb => (iop_not rfl rfl (by decide) (svc (d := .bool _) rfl hb))) <|
      ils_cons rfl (iop_orx rfl rfl (by decide) (sv (d := .bool _) rfl) rfl rfl hx17) <|
      ils_cons rfl (iop_assign rfl rfl (by decide) (sv (d := .bool _) rfl)) <|
      ils_end ?_)
    refine iwp_cond (b := _) rfl (fun hc18 => ?_) (fun hc18 => ?_)
    ·
      replace h := bif_t h hc18
      refine iwp_reg (ils_cons rfl (iop_assign rfl rfl (by decide) (sv (d := .int _ 8) rfl)) <|
        ils_end ?_)
      refine iwp_ret ?_
      refine blockQ_r ?_
      refine thenQ_r ?_
      obtain rfl := Option.some.inj h
      refine ⟨.inr rfl, (.cons (sv rfl) .nil)⟩
    ·
      replace h := bif_f h hc18
      obtain ⟨x19, hx19, h⟩ := bnd_e h
      refine iwp_reg (ils_cons rfl (iop_fieldAddr_ref rfl rfl (by decide) Try.underlying24 rfl ti22 (by decide) (sv (d := .ref _ _) rfl) (off' := 3) rfl) <|
        ils_cons rfl (iop_load_rs (d := .slice _ _) rfl rfl (by decide) Try.underlying22 ag22 ti22 (by decide) (sv (d := .ref _ _) rfl) rfl (nle rfl) rfl) <|
        ils_cons rfl (iop_lenT (eInt .i64) (l := a0.Live) rfl rfl (by decide) Try.underlying22 (sv (d := .slice _ _) rfl)) <|
        ils_cons rfl (iop_cmpx rfl rfl (by decide) (sv (d := .int _ _) rfl) (sv (d := .int _ 16) rfl) rfl hx19) <|
        ils_cons rfl (iop_assign rfl rfl (by decide) (sv (d := .bool _) rfl)) <|
        ils_end ?_)
      refine iwp_cond (b := _) rfl (fun hc20 => ?_) (fun hc20 => ?_)
      ·
        replace h := bif_t h hc20
        refine iwp_reg (ils_cons rfl (iop_assign rfl rfl (by decide) (sv (d := .int _ 4) rfl)) <|
          ils_end ?_)
        refine iwp_ret ?_
        refine blockQ_r ?_
        refine thenQ_r ?_
        obtain rfl := Option.some.inj h
        refine ⟨.inr rfl, (.cons (sv rfl) .nil)⟩
      ·
        replace h := bif_f h hc20
        refine iwp_skip ?_
        refine blockQ_n ?_
        refine thenQ_n ?_
        refine iwp_seq ?_
        refine iwp_reg (ils_cons rfl (iop_assign rfl rfl (by decide) (sv (d := .int _ 0) rfl)) <|
          ils_end ?_)
        refine iwp_block ?_
        refine iwp_loopP (α := Nat × Int) (fun z => ⟨[(1, .ref 0 0), (3, .int .i64 z.2)], [(0, .blk 24 [.bool a0.Odd, .int .i64 a0.Next, .int .i64 a0.Last, .slice false (a0.Live.map (eInt .i64).d), .slice false (a0.Cut.map (eInt .i64).d), .int .i64 a0.Mine, .int .i64 a0.Hers, .int .i64 a0.Heard, .int .i64 a0.Told])]⟩) (fun z => sennitref22_Check_L0 a0 z.1 z.2 = some r) (fun z => z.1) (fuel, 0) (fun i => i) ⟨(.cons (.same rfl rfl) (.cons (.same rfl rfl) .nil)), (.cons (.blk rfl rfl rfl) .nil), nd_of [0] rfl (by decide), (fun i hi => by first | rfl | (show (if _ then _ else _) = _; (repeat' split) <;> omega))⟩ ?_ ?_
        · exact h
        ·
          rintro ⟨n0, v34⟩ h
          cases n0 with
          | zero => exact absurd h (by unfold sennitref22_Check_L0; exact nofun)
          | succ n0 =>
            unfold sennitref22_Check_L0 at h
            refine iwp_seq ?_
            obtain ⟨x48, hx48, h⟩ := bnd_e h
            refine iwp_reg (ils_cons rfl (iop_move rfl rfl (by decide) (sv (d := .int _ _) rfl)) <|
              ils_cons rfl (iop_fieldAddr_ref rfl rfl (by decide) Try.underlying24 rfl ti22 (by decide) (sv (d := .ref _ _) rfl) (off' := 3) rfl) <|
              ils_cons rfl (iop_load_rs (d := .slice _ _) rfl rfl (by decide) Try.underlying22 ag22 ti22 (by decide) (sv (d := .ref _ _) rfl) rfl (nle rfl) rfl) <|
              ils_cons rfl (iop_lenT (eInt .i64) (l := a0.Live) rfl rfl (by decide) Try.underlying22 (sv (d := .slice _ _) rfl)) <|
              ils_cons rfl (iop_cmpx rfl rfl (by decide) (sv (d := .int _ _) rfl) (sv (d := .int _ _) rfl) rfl hx48) <|
              ils_end ?_)
            refine iwp_cond (b := _) rfl (fun hc49 => ?_) (fun hc49 => ?_)
            ·
              replace h := bif_t h hc49
              refine iwp_skip ?_
              refine thenQ_n ?_
              refine iwp_seq ?_
              refine iwp_block ?_
              obtain ⟨x50, hx50, h⟩ := bno_e h
              obtain ⟨x51, hx51, h⟩ := bno_e h
              obtain ⟨x52, hx52, h⟩ := bnd_e h
              obtain ⟨x53, hx53, h⟩ := bnd_e h
              obtain ⟨x54, hx54, h⟩ := bno_e h
              obtain ⟨x55, hx55, h⟩ := bno_e h
              obtain ⟨x56, hx56, h⟩ := bnd_e h
              obtain ⟨x57, hx57, h⟩ := bnd_e h
              obtain ⟨x58, hx58, h⟩ := bnd_e h
              refine iwp_drw rfl [⟨[1], [0], [(69, .agg [.bool a0.Odd, .int .i64 a0.Next, .int .i64 a0.Last, .slice false (a0.Live.map (eInt .i64).d), .slice false (a0.Cut.map (eInt .i64).d), .int .i64 a0.Mine, .int .i64 a0.Hers, .int .i64 a0.Heard, .int .i64 a0.Told])], []⟩,
                ⟨[1], [], [(70, .ref 0 3)], []⟩,
                ⟨[70], [0], [(71, .slice false (a0.Live.map (eInt .i64).d))], []⟩,
                ⟨[3], [], [(72, .int .i64 v34)], []⟩,
                ⟨[71, 72], [], [(73, .fptr [.int .i64 x50])], []⟩,
                ⟨[73], [], [(74, .int .i64 x50)], []⟩,
                ⟨[69, 74], [], [(75, .bool x51)], []⟩,
                ⟨[75], [], [(76, .bool (!x51))], []⟩,
                ⟨[76], [], [(77, .bool (!x51))], []⟩,
                ⟨[3, 77], [], [(78, .cnd ((!x51) == false) (.int .i64 v34))], []⟩,
                ⟨[77, 78], [], [(79, .cnd ((!x51) == false) (.bool x52))], []⟩,
                ⟨[77, 79], [], [(80, .cnd ((!x51) == false) (.bool x52))], []⟩,
                ⟨[1, 80], [], [(81, .cnd ((((!x51) == false) && (x52 == true))) (.ref 0 3))], []⟩,
                ⟨[80, 81], [0], [(82, .cnd ((((!x51) == false) && (x52 == true))) (.slice false (a0.Live.map (eInt .i64).d)))], []⟩,
                ⟨[3, 80], [], [(83, .cnd ((((!x51) == false) && (x52 == true))) (.int .i64 v34))], []⟩,
                ⟨[80, 83], [], [(84, .cnd ((((!x51) == false) && (x52 == true))) (.int .i64 x53))], []⟩,
                ⟨[80, 82, 84], [], [(85, .cnd ((((!x51) == false) && (x52 == true))) (.fptr [.int .i64 x54]))], []⟩,
                ⟨[80, 85], [], [(86, .cnd ((((!x51) == false) && (x52 == true))) (.int .i64 x54))], []⟩,
                ⟨[1, 80], [], [(87, .cnd ((((!x51) == false) && (x52 == true))) (.ref 0 3))], []⟩,
                ⟨[80, 87], [0], [(88, .cnd ((((!x51) == false) && (x52 == true))) (.slice false (a0.Live.map (eInt .i64).d)))], []⟩,
                ⟨[3, 80], [], [(89, .cnd ((((!x51) == false) && (x52 == true))) (.int .i64 v34))], []⟩,
                ⟨[80, 88, 89], [], [(90, .cnd ((((!x51) == false) && (x52 == true))) (.fptr [.int .i64 x55]))], []⟩,
                ⟨[80, 90], [], [(91, .cnd ((((!x51) == false) && (x52 == true))) (.int .i64 x55))], []⟩,
                ⟨[80, 86, 91], [], [(92, .cnd ((((!x51) == false) && (x52 == true))) (.bool x56))], []⟩,
                ⟨[77, 80, 92], [], [(93, .cnd ((!x51) == false) (.bool x57))], []⟩,
                ⟨[77, 93], [], [(94, .bool x58)], []⟩] rfl ?_ (by kernel_rfl) ?_
              · refine .cons (lop rfl rfl fun S hA => (iop_load_ra (cs := [.bool _, .int _ _, .int _ _, .slice _ _, .slice _ _, .int _ _, .int _ _, .int _ _, .int _ _]) rfl rfl (by decide) Try.underlying24 ag24 ti24 (by decide) (sv (d := .ref _ _) (agr hA rfl rfl)) (agi hA rfl rfl) (nle rfl) rfl)) ?_
                refine .cons (lop rfl rfl fun S hA => (iop_fieldAddr_ref rfl rfl (by decide) Try.underlying24 rfl ti22 (by decide) (sv (d := .ref _ _) (agr hA rfl rfl)) (off' := 3) rfl)) ?_
                refine .cons (lop rfl rfl fun S hA => (iop_load_rs (d := .slice _ _) rfl rfl (by decide) Try.underlying22 ag22 ti22 (by decide) (sv (d := .ref _ _) (agr hA rfl rfl)) (agi hA rfl rfl) (nle rfl) rfl)) ?_
                refine .cons (lop rfl rfl fun S hA => (iop_move rfl rfl (by decide) (sv (d := .int _ _) (agr hA rfl rfl)))) ?_
                refine .cons (lop rfl rfl fun S hA => (iop_idxT (eInt .i64) (cs := [.int _ _]) rfl rfl (by decide) Try.underlying22 ti3 (sv (d := .slice _ _) (agr hA rfl rfl)) (sv (d := .int _ _) (agr hA rfl rfl)) hx50 rfl rfl)) ?_
                refine .cons (lop rfl rfl fun S hA => (iop_load_fs rfl rfl (by decide) Try.underlying3 ag3 ti3 (by decide) (sv (d := .fptr [.int _ _]) (agr hA rfl rfl)) (nle rfl))) ?_
                refine .cons (lop rfl rfl fun S hA => (iop_call (r := .bool _) rfl rfl (by decide) cl53 (.cons (sv (d := .agg [.bool _, .int _ _, .int _ _, .slice _ _, .slice _ _, .int _ _, .int _ _, .int _ _, .int _ _]) (agr hA rfl rfl)) (.cons (sv (d := .int _ _) (agr hA rfl rfl)) .nil)) rfl (p_sennitref22_began _ _ _ hx51))) ?_
                refine .cons (lop rfl rfl fun S hA => (iop_not rfl rfl (by decide) (sv (d := .bool _) (agr hA rfl rfl)))) ?_
                refine .cons (lop rfl rfl fun S hA => (iop_move rfl rfl (by decide) (sv (d := .bool _) (agr hA rfl rfl)))) ?_
                refine .cons (lopg rfl rfl rfl rfl (by decide) (fun S hA => grd1 hA rfl rfl) (fun S hA hb => (iop_move rfl rfl (by decide) (sv (d := .int _ _) (agr hA rfl rfl))))) ?_
                refine .cons (lopg rfl rfl rfl rfl (by decide) (fun S hA => grd1 hA rfl rfl) (fun S hA hb => (iop_cmpx rfl rfl (by decide) (svc (d := .int _ _) (agr hA rfl rfl) hb) (sv (d := .int _ 0) rfl) rfl hx52))) ?_
                refine .cons (lopg rfl rfl rfl rfl (by decide) (fun S hA => grd1 hA rfl rfl) (fun S hA hb => (iop_move rfl rfl (by decide) (svc (d := .bool _) (agr hA rfl rfl) hb)))) ?_
                refine .cons (lopg rfl rfl rfl rfl (by decide) (fun S hA => grd2 hA rfl rfl) (fun S hA hb => (iop_fieldAddr_ref rfl rfl (by decide) Try.underlying24 rfl ti22 (by decide) (sv (d := .ref _ _) (agr hA rfl rfl)) (off' := 3) rfl))) ?_
                refine .cons (lopg rfl rfl rfl rfl (by decide) (fun S hA => grd2 hA rfl rfl) (fun S hA hb => (iop_load_rs (d := .slice _ _) rfl rfl (by decide) Try.underlying22 ag22 ti22 (by decide) (svc (d := .ref _ _) (agr hA rfl rfl) hb) (agi hA rfl rfl) (nle rfl) rfl))) ?_
                refine .cons (lopg rfl rfl rfl rfl (by decide) (fun S hA => grd2 hA rfl rfl) (fun S hA hb => (iop_move rfl rfl (by decide) (sv (d := .int _ _) (agr hA rfl rfl))))) ?_
                refine .cons (lopg rfl rfl rfl rfl (by decide) (fun S hA => grd2 hA rfl rfl) (fun S hA hb => (iop_intx rfl rfl (by decide) (svc (d := .int _ _) (agr hA rfl rfl) hb) (sv (d := .int _ 1) rfl) rfl hx53))) ?_
                refine .cons (lopg rfl rfl rfl rfl (by decide) (fun S hA => grd2 hA rfl rfl) (fun S hA hb => (iop_idxT (eInt .i64) (cs := [.int _ _]) rfl rfl (by decide) Try.underlying22 ti3 (svc (d := .slice _ _) (agr hA rfl rfl) hb) (svc (d := .int _ _) (agr hA rfl rfl) hb) (gd_t hx54 hb) rfl rfl))) ?_
                refine .cons (lopg rfl rfl rfl rfl (by decide) (fun S hA => grd2 hA rfl rfl) (fun S hA hb => (iop_load_fs rfl rfl (by decide) Try.underlying3 ag3 ti3 (by decide) (svc (d := .fptr [.int _ _]) (agr hA rfl rfl) hb) (nle rfl)))) ?_
                refine .cons (lopg rfl rfl rfl rfl (by decide) (fun S hA => grd2 hA rfl rfl) (fun S hA hb => (iop_fieldAddr_ref rfl rfl (by decide) Try.underlying24 rfl ti22 (by decide) (sv (d := .ref _ _) (agr hA rfl rfl)) (off' := 3) rfl))) ?_
                refine .cons (lopg rfl rfl rfl rfl (by decide) (fun S hA => grd2 hA rfl rfl) (fun S hA hb => (iop_load_rs (d := .slice _ _) rfl rfl (by decide) Try.underlying22 ag22 ti22 (by decide) (svc (d := .ref _ _) (agr hA rfl rfl) hb) (agi hA rfl rfl) (nle rfl) rfl))) ?_
                refine .cons (lopg rfl rfl rfl rfl (by decide) (fun S hA => grd2 hA rfl rfl) (fun S hA hb => (iop_move rfl rfl (by decide) (sv (d := .int _ _) (agr hA rfl rfl))))) ?_
                refine .cons (lopg rfl rfl rfl rfl (by decide) (fun S hA => grd2 hA rfl rfl) (fun S hA hb => (iop_idxT (eInt .i64) (cs := [.int _ _]) rfl rfl (by decide) Try.underlying22 ti3 (svc (d := .slice _ _) (agr hA rfl rfl) hb) (svc (d := .int _ _) (agr hA rfl rfl) hb) (gd_t hx55 hb) rfl rfl))) ?_
                refine .cons (lopg rfl rfl rfl rfl (by decide) (fun S hA => grd2 hA rfl rfl) (fun S hA hb => (iop_load_fs rfl rfl (by decide) Try.underlying3 ag3 ti3 (by decide) (svc (d := .fptr [.int _ _]) (agr hA rfl rfl) hb) (nle rfl)))) ?_
                refine .cons (lopg rfl rfl rfl rfl (by decide) (fun S hA => grd2 hA rfl rfl) (fun S hA hb => (iop_cmpx rfl rfl (by decide) (svc (d := .int _ _) (agr hA rfl rfl) hb) (svc (d := .int _ _) (agr hA rfl rfl) hb) rfl hx56))) ?_
                refine .cons (lopg rfl rfl rfl rfl (by decide) (fun S hA => grd1 hA rfl rfl) (fun S hA hb => (iop_and2x rfl rfl (by decide) hb (svc (d := .bool _) (agr hA rfl rfl) hb) (agr hA rfl rfl) rfl hx57))) ?_
                refine .cons (lop rfl rfl fun S hA => (iop_orx rfl rfl (by decide) (sv (d := .bool _) (agr hA rfl rfl)) rfl (agr hA rfl rfl) hx58)) ?_
                exact .nil
              refine iwp_cond (b := _) rfl (fun hc59 => ?_) (fun hc59 => ?_)
              ·
                replace h := bif_t h hc59
                refine iwp_reg (ils_cons rfl (iop_assign rfl rfl (by decide) (sv (d := .int _ 4) rfl)) <|
                  ils_end ?_)
                refine iwp_ret ?_
                refine blockQ_r ?_
                refine thenQ_r ?_
                refine thenQ_r ?_
                refine blockQ_r ?_
                refine thenQ_r ?_
                obtain rfl := Option.some.inj h
                refine ⟨.inr rfl, (.cons (sv rfl) .nil)⟩
              ·
                replace h := bif_f h hc59
                refine iwp_skip ?_
                refine blockQ_n ?_
                refine thenQ_n ?_
                obtain ⟨x60, hx60, h⟩ := bnd_e h
                refine iwp_region (ils_cons rfl (iop_move rfl rfl (by decide) (sv (d := .int _ _) rfl)) <|
                  ils_cons rfl (iop_intx rfl rfl (by decide) (sv (d := .int _ _) rfl) (sv (d := .int _ 1) rfl) rfl hx60) <|
                  ils_cons rfl (iop_assign rfl rfl (by decide) (sv (d := .int _ _) rfl)) <|
                  ils_nil ?_)
                refine thenQ_n ⟨(n0, x60), (fun i => i), ⟨(.cons (.same rfl rfl) (.cons (.same rfl rfl) .nil)), (.cons (.blk rfl rfl rfl) .nil), nd_of [0] rfl (by decide), (fun i hi => by first | rfl | (show (if _ then _ else _) = _; (repeat' split) <;> omega))⟩, ?_, ?_⟩
                exact h
                exact Nat.lt_succ_self _
            ·
              replace h := bif_f h hc49
              refine iwp_exit ?_
              refine thenQ_e ?_
              refine thenQ_e ?_
              refine blockQ_e ?_
              refine thenQ_n ?_
              refine iwp_seq ?_
              obtain ⟨x61, hx61, h⟩ := bnd_e h
              refine iwp_reg (ils_cons rfl (iop_fieldAddr_ref rfl rfl (by decide) Try.underlying24 rfl ti22 (by decide) (sv (d := .ref _ _) rfl) (off' := 4) rfl) <|
                ils_cons rfl (iop_load_rs (d := .slice _ _) rfl rfl (by decide) Try.underlying22 ag22 ti22 (by decide) (sv (d := .ref _ _) rfl) rfl (nle rfl) rfl) <|
                ils_cons rfl (iop_lenT (eInt .i64) (l := a0.Cut) rfl rfl (by decide) Try.underlying22 (sv (d := .slice _ _) rfl)) <|
                ils_cons rfl (iop_cmpx rfl rfl (by decide) (sv (d := .int _ _) rfl) (sv (d := .int _ 8) rfl) rfl hx61) <|
                ils_end ?_)
              refine iwp_cond (b := _) rfl (fun hc62 => ?_) (fun hc62 => ?_)
              ·
                replace h := bif_t h hc62
                refine iwp_reg (ils_cons rfl (iop_assign rfl rfl (by decide) (sv (d := .int _ 10) rfl)) <|
                  ils_end ?_)
                refine iwp_ret ?_
                refine thenQ_r ?_
                obtain rfl := Option.some.inj h
                refine ⟨.inr rfl, (.cons (sv rfl) .nil)⟩
              ·
                replace h := bif_f h hc62
                refine iwp_skip ?_
                refine thenQ_n ?_
                refine iwp_seq ?_
                refine iwp_reg (ils_cons rfl (iop_assign rfl rfl (by decide) (sv (d := .int _ 0) rfl)) <|
                  ils_end ?_)
                refine iwp_block ?_
                refine iwp_loopP (α := Nat × Int) (fun z => ⟨[(1, .ref 0 0), (4, .int .i64 z.2)], [(0, .blk 24 [.bool a0.Odd, .int .i64 a0.Next, .int .i64 a0.Last, .slice false (a0.Live.map (eInt .i64).d), .slice false (a0.Cut.map (eInt .i64).d), .int .i64 a0.Mine, .int .i64 a0.Hers, .int .i64 a0.Heard, .int .i64 a0.Told])]⟩) (fun z => sennitref22_Check_L1 a0 z.1 z.2 = some r) (fun z => z.1) (fuel, 0) (fun i => i) ⟨(.cons (.same rfl rfl) (.cons (.same rfl rfl) .nil)), (.cons (.blk rfl rfl rfl) .nil), nd_of [0] rfl (by decide), (fun i hi => by first | rfl | (show (if _ then _ else _) = _; (repeat' split) <;> omega))⟩ ?_ ?_
                · exact h
                ·
                  rintro ⟨n1, v76⟩ h
                  cases n1 with
                  | zero => exact absurd h (by unfold sennitref22_Check_L1; exact nofun)
                  | succ n1 =>
                    unfold sennitref22_Check_L1 at h
                    refine iwp_seq ?_
                    obtain ⟨x90, hx90, h⟩ := bnd_e h
                    refine iwp_reg (ils_cons rfl (iop_move rfl rfl (by decide) (sv (d := .int _ _) rfl)) <|
                      ils_cons rfl (iop_fieldAddr_ref rfl rfl (by decide) Try.underlying24 rfl ti22 (by decide) (sv (d := .ref _ _) rfl) (off' := 4) rfl) <|
                      ils_cons rfl (iop_load_rs (d := .slice _ _) rfl rfl (by decide) Try.underlying22 ag22 ti22 (by decide) (sv (d := .ref _ _) rfl) rfl (nle rfl) rfl) <|
                      ils_cons rfl (iop_lenT (eInt .i64) (l := a0.Cut) rfl rfl (by decide) Try.underlying22 (sv (d := .slice _ _) rfl)) <|
                      ils_cons rfl (iop_cmpx rfl rfl (by decide) (sv (d := .int _ _) rfl) (sv (d := .int _ _) rfl) rfl hx90) <|
                      ils_end ?_)
                    refine iwp_cond (b := _) rfl (fun hc91 => ?_) (fun hc91 => ?_)
                    ·
                      replace h := bif_t h hc91
                      refine iwp_skip ?_
                      refine thenQ_n ?_
                      refine iwp_seq ?_
                      refine iwp_block ?_
                      obtain ⟨x92, hx92, h⟩ := bno_e h
                      obtain ⟨x93, hx93, h⟩ := bno_e h
                      obtain ⟨x94, hx94, h⟩ := bno_e h
                      obtain ⟨x95, hx95, h⟩ := bno_e h
                      obtain ⟨x96, hx96, h⟩ := bnd_e h
                      obtain ⟨x97, hx97, h⟩ := bno_e h
                      obtain ⟨x98, hx98, h⟩ := bno_e h
                      obtain ⟨x99, hx99, h⟩ := bno_e h
                      obtain ⟨x100, hx100, h⟩ := bnd_e h
                      refine iwp_drw rfl [⟨[1], [0], [(106, .agg [.bool a0.Odd, .int .i64 a0.Next, .int .i64 a0.Last, .slice false (a0.Live.map (eInt .i64).d), .slice false (a0.Cut.map (eInt .i64).d), .int .i64 a0.Mine, .int .i64 a0.Hers, .int .i64 a0.Heard, .int .i64 a0.Told])], []⟩,
                        ⟨[1], [], [(107, .ref 0 4)], []⟩,
                        ⟨[107], [0], [(108, .slice false (a0.Cut.map (eInt .i64).d))], []⟩,
                        ⟨[4], [], [(109, .int .i64 v76)], []⟩,
                        ⟨[108, 109], [], [(110, .fptr [.int .i64 x92])], []⟩,
                        ⟨[110], [], [(111, .int .i64 x92)], []⟩,
                        ⟨[106, 111], [], [(112, .bool x93)], []⟩,
                        ⟨[112], [], [(113, .bool (!x93))], []⟩,
                        ⟨[113], [], [(114, .bool (!x93))], []⟩,
                        ⟨[1, 114], [], [(115, .cnd ((!x93) == false) (.ref 0 3))], []⟩,
                        ⟨[114, 115], [0], [(116, .cnd ((!x93) == false) (.slice false (a0.Live.map (eInt .i64).d)))], []⟩,
                        ⟨[1, 114], [], [(117, .cnd ((!x93) == false) (.ref 0 4))], []⟩,
                        ⟨[114, 117], [0], [(118, .cnd ((!x93) == false) (.slice false (a0.Cut.map (eInt .i64).d)))], []⟩,
                        ⟨[4, 114], [], [(119, .cnd ((!x93) == false) (.int .i64 v76))], []⟩,
                        ⟨[114, 118, 119], [], [(120, .cnd ((!x93) == false) (.fptr [.int .i64 x94]))], []⟩,
                        ⟨[114, 120], [], [(121, .cnd ((!x93) == false) (.int .i64 x94))], []⟩,
                        ⟨[114, 116, 121], [], [(122, .cnd ((!x93) == false) (.bool x95))], []⟩,
                        ⟨[114, 122], [], [(123, .bool x96)], []⟩,
                        ⟨[123], [], [(124, .bool x96)], []⟩,
                        ⟨[1, 124], [], [(125, .cnd (x96 == false) (.ref 0 4))], []⟩,
                        ⟨[124, 125], [0], [(126, .cnd (x96 == false) (.slice false (a0.Cut.map (eInt .i64).d)))], []⟩,
                        ⟨[4, 124], [], [(127, .cnd (x96 == false) (.int .i64 v76))], []⟩,
                        ⟨[124, 126, 127], [], [(128, .cnd (x96 == false) (.slice false (x97.map (eInt .i64).d)))], []⟩,
                        ⟨[1, 124], [], [(129, .cnd (x96 == false) (.ref 0 4))], []⟩,
                        ⟨[124, 129], [0], [(130, .cnd (x96 == false) (.slice false (a0.Cut.map (eInt .i64).d)))], []⟩,
                        ⟨[4, 124], [], [(131, .cnd (x96 == false) (.int .i64 v76))], []⟩,
                        ⟨[124, 130, 131], [], [(132, .cnd (x96 == false) (.fptr [.int .i64 x98]))], []⟩,
                        ⟨[124, 132], [], [(133, .cnd (x96 == false) (.int .i64 x98))], []⟩,
                        ⟨[124, 128, 133], [], [(134, .cnd (x96 == false) (.bool x99))], []⟩,
                        ⟨[124, 134], [], [(135, .bool x100)], []⟩] rfl ?_ (by kernel_rfl) ?_
                      · refine .cons (lop rfl rfl fun S hA => (iop_load_ra (cs := [.bool _, .int _ _, .int _ _, .slice _ _, .slice _ _, .int _ _, .int _ _, .int _ _, .int _ _]) rfl rfl (by decide) Try.underlying24 ag24 ti24 (by decide) (sv (d := .ref _ _) (agr hA rfl rfl)) (agi hA rfl rfl) (nle rfl) rfl)) ?_
                        refine .cons (lop rfl rfl fun S hA => (iop_fieldAddr_ref rfl rfl (by decide) Try.underlying24 rfl ti22 (by decide) (sv (d := .ref _ _) (agr hA rfl rfl)) (off' := 4) rfl)) ?_
                        refine .cons (lop rfl rfl fun S hA => (iop_load_rs (d := .slice _ _) rfl rfl (by decide) Try.underlying22 ag22 ti22 (by decide) (sv (d := .ref _ _) (agr hA rfl rfl)) (agi hA rfl rfl) (nle rfl) rfl)) ?_
                        refine .cons (lop rfl rfl fun S hA => (iop_move rfl rfl (by decide) (sv (d := .int _ _) (agr hA rfl rfl)))) ?_
                        refine .cons (lop rfl rfl fun S hA => (iop_idxT (eInt .i64) (cs := [.int _ _]) rfl rfl (by decide) Try.underlying22 ti3 (sv (d := .slice _ _) (agr hA rfl rfl)) (sv (d := .int _ _) (agr hA rfl rfl)) hx92 rfl rfl)) ?_
                        refine .cons (lop rfl rfl fun S hA => (iop_load_fs rfl rfl (by decide) Try.underlying3 ag3 ti3 (by decide) (sv (d := .fptr [.int _ _]) (agr hA rfl rfl)) (nle rfl))) ?_
                        refine .cons (lop rfl rfl fun S hA => (iop_call (r := .bool _) rfl rfl (by decide) cl53 (.cons (sv (d := .agg [.bool _, .int _ _, .int _ _, .slice _ _, .slice _ _, .int _ _, .int _ _, .int _ _, .int _ _]) (agr hA rfl rfl)) (.cons (sv (d := .int _ _) (agr hA rfl rfl)) .nil)) rfl (p_sennitref22_began _ _ _ hx93))) ?_
                        refine .cons (lop rfl rfl fun S hA => (iop_not rfl rfl (by decide) (sv (d := .bool _) (agr hA rfl rfl)))) ?_
                        refine .cons (lop rfl rfl fun S hA => (iop_move rfl rfl (by decide) (sv (d := .bool _) (agr hA rfl rfl)))) ?_
                        refine .cons (lopg rfl rfl rfl rfl (by decide) (fun S hA => grd1 hA rfl rfl) (fun S hA hb => (iop_fieldAddr_ref rfl rfl (by decide) Try.underlying24 rfl ti22 (by decide) (sv (d := .ref _ _) (agr hA rfl rfl)) (off' := 3) rfl))) ?_
                        refine .cons (lopg rfl rfl rfl rfl (by decide) (fun S hA => grd1 hA rfl rfl) (fun S hA hb => (iop_load_rs (d := .slice _ _) rfl rfl (by decide) Try.underlying22 ag22 ti22 (by decide) (svc (d := .ref _ _) (agr hA rfl rfl) hb) (agi hA rfl rfl) (nle rfl) rfl))) ?_
                        refine .cons (lopg rfl rfl rfl rfl (by decide) (fun S hA => grd1 hA rfl rfl) (fun S hA hb => (iop_fieldAddr_ref rfl rfl (by decide) Try.underlying24 rfl ti22 (by decide) (sv (d := .ref _ _) (agr hA rfl rfl)) (off' := 4) rfl))) ?_
                        refine .cons (lopg rfl rfl rfl rfl (by decide) (fun S hA => grd1 hA rfl rfl) (fun S hA hb => (iop_load_rs (d := .slice _ _) rfl rfl (by decide) Try.underlying22 ag22 ti22 (by decide) (svc (d := .ref _ _) (agr hA rfl rfl) hb) (agi hA rfl rfl) (nle rfl) rfl))) ?_
                        refine .cons (lopg rfl rfl rfl rfl (by decide) (fun S hA => grd1 hA rfl rfl) (fun S hA hb => (iop_move rfl rfl (by decide) (sv (d := .int _ _) (agr hA rfl rfl))))) ?_
                        refine .cons (lopg rfl rfl rfl rfl (by decide) (fun S hA => grd1 hA rfl rfl) (fun S hA hb => (iop_idxT (eInt .i64) (cs := [.int _ _]) rfl rfl (by decide) Try.underlying22 ti3 (svc (d := .slice _ _) (agr hA rfl rfl) hb) (svc (d := .int _ _) (agr hA rfl rfl) hb) (gd_t hx94 hb) rfl rfl))) ?_
                        refine .cons (lopg rfl rfl rfl rfl (by decide) (fun S hA => grd1 hA rfl rfl) (fun S hA hb => (iop_load_fs rfl rfl (by decide) Try.underlying3 ag3 ti3 (by decide) (svc (d := .fptr [.int _ _]) (agr hA rfl rfl) hb) (nle rfl)))) ?_
                        refine .cons (lopg rfl rfl rfl rfl (by decide) (fun S hA => grd1 hA rfl rfl) (fun S hA hb => (iop_call (r := .bool _) rfl rfl (by decide) cl39 (.cons (svc (d := .slice _ _) (agr hA rfl rfl) hb) (.cons (svc (d := .int _ _) (agr hA rfl rfl) hb) .nil)) rfl (p_sennitref22_Is _ _ _ (gd_t hx95 hb))))) ?_
                        refine .cons (lop rfl rfl fun S hA => (iop_orx rfl rfl (by decide) (sv (d := .bool _) (agr hA rfl rfl)) rfl (agr hA rfl rfl) hx96)) ?_
                        refine .cons (lop rfl rfl fun S hA => (iop_move rfl rfl (by decide) (sv (d := .bool _) (agr hA rfl rfl)))) ?_
                        refine .cons (lopg rfl rfl rfl rfl (by decide) (fun S hA => grd1 hA rfl rfl) (fun S hA hb => (iop_fieldAddr_ref rfl rfl (by decide) Try.underlying24 rfl ti22 (by decide) (sv (d := .ref _ _) (agr hA rfl rfl)) (off' := 4) rfl))) ?_
                        refine .cons (lopg rfl rfl rfl rfl (by decide) (fun S hA => grd1 hA rfl rfl) (fun S hA hb => (iop_load_rs (d := .slice _ _) rfl rfl (by decide) Try.underlying22 ag22 ti22 (by decide) (svc (d := .ref _ _) (agr hA rfl rfl) hb) (agi hA rfl rfl) (nle rfl) rfl))) ?_
                        refine .cons (lopg rfl rfl rfl rfl (by decide) (fun S hA => grd1 hA rfl rfl) (fun S hA hb => (iop_move rfl rfl (by decide) (sv (d := .int _ _) (agr hA rfl rfl))))) ?_
                        refine .cons (lopg rfl rfl rfl rfl (by decide) (fun S hA => grd1 hA rfl rfl) (fun S hA hb => (iop_cutT (eInt .i64) rfl rfl (by decide) Try.underlying22 ti3 (svc (d := .slice _ _) (agr hA rfl rfl) hb) rfl ⟨_, (svc (d := .int _ _) (agr hA rfl rfl) hb)⟩ (gd_t hx97 hb)))) ?_
                        refine .cons (lopg rfl rfl rfl rfl (by decide) (fun S hA => grd1 hA rfl rfl) (fun S hA hb => (iop_fieldAddr_ref rfl rfl (by decide) Try.underlying24 rfl ti22 (by decide) (sv (d := .ref _ _) (agr hA rfl rfl)) (off' := 4) rfl))) ?_
                        refine .cons (lopg rfl rfl rfl rfl (by decide) (fun S hA => grd1 hA rfl rfl) (fun S hA hb => (iop_load_rs (d := .slice _ _) rfl rfl (by decide) Try.underlying22 ag22 ti22 (by decide) (svc (d := .ref _ _) (agr hA rfl rfl) hb) (agi hA rfl rfl) (nle rfl) rfl))) ?_
                        refine .cons (lopg rfl rfl rfl rfl (by decide) (fun S hA => grd1 hA rfl rfl) (fun S hA hb => (iop_move rfl rfl (by decide) (sv (d := .int _ _) (agr hA rfl rfl))))) ?_
                        refine .cons (lopg rfl rfl rfl rfl (by decide) (fun S hA => grd1 hA rfl rfl) (fun S hA hb => (iop_idxT (eInt .i64) (cs := [.int _ _]) rfl rfl (by decide) Try.underlying22 ti3 (svc (d := .slice _ _) (agr hA rfl rfl) hb) (svc (d := .int _ _) (agr hA rfl rfl) hb) (gd_t hx98 hb) rfl rfl))) ?_
                        refine .cons (lopg rfl rfl rfl rfl (by decide) (fun S hA => grd1 hA rfl rfl) (fun S hA hb => (iop_load_fs rfl rfl (by decide) Try.underlying3 ag3 ti3 (by decide) (svc (d := .fptr [.int _ _]) (agr hA rfl rfl) hb) (nle rfl)))) ?_
                        refine .cons (lopg rfl rfl rfl rfl (by decide) (fun S hA => grd1 hA rfl rfl) (fun S hA hb => (iop_call (r := .bool _) rfl rfl (by decide) cl39 (.cons (svc (d := .slice _ _) (agr hA rfl rfl) hb) (.cons (svc (d := .int _ _) (agr hA rfl rfl) hb) .nil)) rfl (p_sennitref22_Is _ _ _ (gd_t hx99 hb))))) ?_
                        refine .cons (lop rfl rfl fun S hA => (iop_orx rfl rfl (by decide) (sv (d := .bool _) (agr hA rfl rfl)) rfl (agr hA rfl rfl) hx100)) ?_
                        exact .nil
                      refine iwp_cond (b := _) rfl (fun hc101 => ?_) (fun hc101 => ?_)
                      ·
                        replace h := bif_t h hc101
                        refine iwp_reg (ils_cons rfl (iop_assign rfl rfl (by decide) (sv (d := .int _ 10) rfl)) <|
                          ils_end ?_)
                        refine iwp_ret ?_
                        refine blockQ_r ?_
                        refine thenQ_r ?_
                        refine thenQ_r ?_
                        refine blockQ_r ?_
                        refine thenQ_r ?_
                        obtain rfl := Option.some.inj h
                        refine ⟨.inr rfl, (.cons (sv rfl) .nil)⟩
                      ·
                        replace h := bif_f h hc101
                        refine iwp_skip ?_
                        refine blockQ_n ?_
                        refine thenQ_n ?_
                        obtain ⟨x102, hx102, h⟩ := bnd_e h
                        refine iwp_region (ils_cons rfl (iop_move rfl rfl (by decide) (sv (d := .int _ _) rfl)) <|
                          ils_cons rfl (iop_intx rfl rfl (by decide) (sv (d := .int _ _) rfl) (sv (d := .int _ 1) rfl) rfl hx102) <|
                          ils_cons rfl (iop_assign rfl rfl (by decide) (sv (d := .int _ _) rfl)) <|
                          ils_nil ?_)
                        refine thenQ_n ⟨(n1, x102), (fun i => i), ⟨(.cons (.same rfl rfl) (.cons (.same rfl rfl) .nil)), (.cons (.blk rfl rfl rfl) .nil), nd_of [0] rfl (by decide), (fun i hi => by first | rfl | (show (if _ then _ else _) = _; (repeat' split) <;> omega))⟩, ?_, ?_⟩
                        exact h
                        exact Nat.lt_succ_self _
                    ·
                      replace h := bif_f h hc91
                      refine iwp_exit ?_
                      refine thenQ_e ?_
                      refine thenQ_e ?_
                      refine blockQ_e ?_
                      refine thenQ_n ?_
                      refine iwp_reg (ils_cons rfl (iop_assign rfl rfl (by decide) (sv (d := .int _ 0) rfl)) <|
                        ils_end ?_)
                      refine iwp_ret ?_
                      obtain rfl := Option.some.inj h
                      refine ⟨.inr rfl, (.cons (sv rfl) .nil)⟩

set_option maxRecDepth 8000 in
set_option maxHeartbeats 2000000 in
theorem p_sennitref22_Count (a0 : T_stid_State) (r : (Int × Int)) (h : sennitref22_Count a0 = some r) : PureAt Try.prog 31 [.agg [.bool a0.Odd, .int .i64 a0.Next, .int .i64 a0.Last, .slice false (a0.Live.map (eInt .i64).d), .slice false (a0.Cut.map (eInt .i64).d), .int .i64 a0.Mine, .int .i64 a0.Hers, .int .i64 a0.Heard, .int .i64 a0.Told]] (retD [.int .i64 r.1, .int .i64 r.2]) := by
  refine pure_of_iwp (rs := [.int .i64 r.1, .int .i64 r.2]) Try.func31 rfl Try.ntmps31 (nle rfl) rfl fun O hO => ?_
  show IWP _ _ _ _ ⟨[(0, .agg [.bool a0.Odd, .int .i64 a0.Next, .int .i64 a0.Last, .slice false (a0.Live.map (eInt .i64).d), .slice false (a0.Cut.map (eInt .i64).d), .int .i64 a0.Mine, .int .i64 a0.Hers, .int .i64 a0.Heard, .int .i64 a0.Told])], []⟩ _
  unfold sennitref22_Count at h
  refine iwp_reg (ils_cons rfl (iop_box' (cs := [.bool _, .int _ _, .int _ _, .slice _ _, .slice _ _, .int _ _, .int _ _, .int _ _, .int _ _]) 0 rfl rfl (by decide) rfl (sv (d := .agg [.bool _, .int _ _, .int _ _, .slice _ _, .slice _ _, .int _ _, .int _ _, .int _ _, .int _ _]) rfl) rfl rfl) <|
    ils_cons rfl (iop_assign rfl rfl (by decide) (sv (d := .int _ 0) rfl)) <|
    ils_cons rfl (iop_assign rfl rfl (by decide) (sv (d := .int _ 0) rfl)) <|
    ils_end ?_)
  refine iwp_reg (ils_cons rfl (iop_assign rfl rfl (by decide) (sv (d := .int _ 0) rfl)) <|
    ils_end ?_)
  refine iwp_seq ?_
  refine iwp_reg (ils_cons rfl (iop_assign rfl rfl (by decide) (sv (d := .int _ 0) rfl)) <|
    ils_end ?_)
  refine iwp_block ?_
  refine iwp_loopP (α := Nat × Int × Int) (fun z => ⟨[(1, .ref 0 0), (4, .int .i64 z.2.1), (5, .int .i64 z.2.2)], [(0, .blk 24 [.bool a0.Odd, .int .i64 a0.Next, .int .i64 a0.Last, .slice false (a0.Live.map (eInt .i64).d), .slice false (a0.Cut.map (eInt .i64).d), .int .i64 a0.Mine, .int .i64 a0.Hers, .int .i64 a0.Heard, .int .i64 a0.Told])]⟩) (fun z => sennitref22_Count_L0 a0 z.1 z.2.1 z.2.2 = some r) (fun z => z.1) (fuel, 0, 0) (fun i => i) ⟨(.cons (.same rfl rfl) (.cons (.same rfl rfl) (.cons (.same rfl rfl) .nil))), (.cons (.blk rfl rfl rfl) .nil), nd_of [0] rfl (by decide), (fun i hi => by first | rfl | (show (if _ then _ else _) = _; (repeat' split) <;> omega))⟩ ?_ ?_
  · exact h
  ·
    rintro ⟨n0, v9, v10⟩ h
    cases n0 with
    | zero => exact absurd h (by unfold sennitref22_Count_L0; exact nofun)
    | succ n0 =>
      unfold sennitref22_Count_L0 at h
      refine iwp_seq ?_
      obtain ⟨x19, hx19, h⟩ := bnd_e h
      refine iwp_reg (ils_cons rfl (iop_move rfl rfl (by decide) (sv (d := .int _ _) rfl)) <|
        ils_cons rfl (iop_fieldAddr_ref rfl rfl (by decide) Try.underlying24 rfl ti22 (by decide) (sv (d := .ref _ _) rfl) (off' := 3) rfl) <|
        ils_cons rfl (iop_load_rs (d := .slice _ _) rfl rfl (by decide) Try.underlying22 ag22 ti22 (by decide) (sv (d := .ref _ _) rfl) rfl (nle rfl) rfl) <|
        ils_cons rfl (iop_lenT (eInt .i64) (l := a0.Live) rfl rfl (by decide) Try.underlying22 (sv (d := .slice _ _) rfl)) <|
        ils_cons rfl (iop_cmpx rfl rfl (by decide) (sv (d := .int _ _) rfl) (sv (d := .int _ _) rfl) rfl hx19) <|
        ils_end ?_)
      refine iwp_cond (b := _) rfl (fun hc20 => ?_) (fun hc20 => ?_)
      ·
        replace h := bif_t h hc20
        refine iwp_skip ?_
        refine thenQ_n ?_
        refine iwp_seq ?_
        refine iwp_block ?_
        obtain ⟨x21, hx21, h⟩ := bno_e h
        obtain ⟨x22, hx22, h⟩ := bno_e h
        refine iwp_drw rfl [⟨[1], [0], [(13, .agg [.bool a0.Odd, .int .i64 a0.Next, .int .i64 a0.Last, .slice false (a0.Live.map (eInt .i64).d), .slice false (a0.Cut.map (eInt .i64).d), .int .i64 a0.Mine, .int .i64 a0.Hers, .int .i64 a0.Heard, .int .i64 a0.Told])], []⟩,
          ⟨[1], [], [(14, .ref 0 3)], []⟩,
          ⟨[14], [0], [(15, .slice false (a0.Live.map (eInt .i64).d))], []⟩,
          ⟨[5], [], [(16, .int .i64 v10)], []⟩,
          ⟨[15, 16], [], [(17, .fptr [.int .i64 x21])], []⟩,
          ⟨[17], [], [(18, .int .i64 x21)], []⟩,
          ⟨[13, 18], [], [(19, .bool x22)], []⟩] rfl ?_ (by kernel_rfl) ?_
        · refine .cons (lop rfl rfl fun S hA => (iop_load_ra (cs := [.bool _, .int _ _, .int _ _, .slice _ _, .slice _ _, .int _ _, .int _ _, .int _ _, .int _ _]) rfl rfl (by decide) Try.underlying24 ag24 ti24 (by decide) (sv (d := .ref _ _) (agr hA rfl rfl)) (agi hA rfl rfl) (nle rfl) rfl)) ?_
          refine .cons (lop rfl rfl fun S hA => (iop_fieldAddr_ref rfl rfl (by decide) Try.underlying24 rfl ti22 (by decide) (sv (d := .ref _ _) (agr hA rfl rfl)) (off' := 3) rfl)) ?_
          refine .cons (lop rfl rfl fun S hA => (iop_load_rs (d := .slice _ _) rfl rfl (by decide) Try.underlying22 ag22 ti22 (by decide) (sv (d := .ref _ _) (agr hA rfl rfl)) (agi hA rfl rfl) (nle rfl) rfl)) ?_
          refine .cons (lop rfl rfl fun S hA => (iop_move rfl rfl (by decide) (sv (d := .int _ _) (agr hA rfl rfl)))) ?_
          refine .cons (lop rfl rfl fun S hA => (iop_idxT (eInt .i64) (cs := [.int _ _]) rfl rfl (by decide) Try.underlying22 ti3 (sv (d := .slice _ _) (agr hA rfl rfl)) (sv (d := .int _ _) (agr hA rfl rfl)) hx21 rfl rfl)) ?_
          refine .cons (lop rfl rfl fun S hA => (iop_load_fs rfl rfl (by decide) Try.underlying3 ag3 ti3 (by decide) (sv (d := .fptr [.int _ _]) (agr hA rfl rfl)) (nle rfl))) ?_
          refine .cons (lop rfl rfl fun S hA => (iop_call (r := .bool _) rfl rfl (by decide) cl37 (.cons (sv (d := .agg [.bool _, .int _ _, .int _ _, .slice _ _, .slice _ _, .int _ _, .int _ _, .int _ _, .int _ _]) (agr hA rfl rfl)) (.cons (sv (d := .int _ _) (agr hA rfl rfl)) .nil)) rfl (p_sennitref22_Own _ _ _ hx22))) ?_
          exact .nil
        refine iwp_cond (b := _) rfl (fun hc23 => ?_) (fun hc23 => ?_)
        ·
          replace h := bif_t h hc23
          obtain ⟨x24, hx24, h⟩ := bnd_e h
          refine iwp_region (ils_cons rfl (iop_move rfl rfl (by decide) (sv (d := .int _ _) rfl)) <|
            ils_cons rfl (iop_intx rfl rfl (by decide) (sv (d := .int _ _) rfl) (sv (d := .int _ 1) rfl) rfl hx24) <|
            ils_cons rfl (iop_assign rfl rfl (by decide) (sv (d := .int _ _) rfl)) <|
            ils_nil ?_)
          refine blockQ_n ?_
          refine thenQ_n ?_
          obtain ⟨x25, hx25, h⟩ := bnd_e h
          refine iwp_region (ils_cons rfl (iop_move rfl rfl (by decide) (sv (d := .int _ _) rfl)) <|
            ils_cons rfl (iop_intx rfl rfl (by decide) (sv (d := .int _ _) rfl) (sv (d := .int _ 1) rfl) rfl hx25) <|
            ils_cons rfl (iop_assign rfl rfl (by decide) (sv (d := .int _ _) rfl)) <|
            ils_nil ?_)
          refine thenQ_n ⟨(n0, x24, x25), (fun i => i), ⟨(.cons (.same rfl rfl) (.cons (.same rfl rfl) (.cons (.same rfl rfl) .nil))), (.cons (.blk rfl rfl rfl) .nil), nd_of [0] rfl (by decide), (fun i hi => by first | rfl | (show (if _ then _ else _) = _; (repeat' split) <;> omega))⟩, ?_, ?_⟩
          exact h
          exact Nat.lt_succ_self _
        ·
          replace h := bif_f h hc23
          refine iwp_skip ?_
          refine blockQ_n ?_
          refine thenQ_n ?_
          obtain ⟨x26, hx26, h⟩ := bnd_e h
          refine iwp_region (ils_cons rfl (iop_move rfl rfl (by decide) (sv (d := .int _ _) rfl)) <|
            ils_cons rfl (iop_intx rfl rfl (by decide) (sv (d := .int _ _) rfl) (sv (d := .int _ 1) rfl) rfl hx26) <|
            ils_cons rfl (iop_assign rfl rfl (by decide) (sv (d := .int _ _) rfl)) <|
            ils_nil ?_)
          refine thenQ_n ⟨(n0, v9, x26), (fun i => i), ⟨(.cons (.same rfl rfl) (.cons (.same rfl rfl) (.cons (.same rfl rfl) .nil))), (.cons (.blk rfl rfl rfl) .nil), nd_of [0] rfl (by decide), (fun i hi => by first | rfl | (show (if _ then _ else _) = _; (repeat' split) <;> omega))⟩, ?_, ?_⟩
          exact h
          exact Nat.lt_succ_self _
      ·
        replace h := bif_f h hc20
        refine iwp_exit ?_
        refine thenQ_e ?_
        refine thenQ_e ?_
        refine blockQ_e ?_
        refine thenQ_n ?_
        obtain ⟨x27, hx27, h⟩ := bnd_e h
        refine iwp_drw rfl [⟨[4], [], [(22, .int .i64 v9)], []⟩,
          ⟨[1], [], [(23, .ref 0 3)], []⟩,
          ⟨[23], [0], [(24, .slice false (a0.Live.map (eInt .i64).d))], []⟩,
          ⟨[24], [], [(25, .int .i64 (a0.Live.length : Int))], []⟩,
          ⟨[4], [], [(26, .int .i64 v9)], []⟩,
          ⟨[25, 26], [], [(27, .int .i64 x27)], []⟩,
          ⟨[22], [], [(2, .int .i64 v9)], []⟩,
          ⟨[27], [], [(3, .int .i64 x27)], []⟩] rfl ?_ (by kernel_rfl) ?_
        · refine .cons (lop rfl rfl fun S hA => (iop_move rfl rfl (by decide) (sv (d := .int _ _) (agr hA rfl rfl)))) ?_
          refine .cons (lop rfl rfl fun S hA => (iop_fieldAddr_ref rfl rfl (by decide) Try.underlying24 rfl ti22 (by decide) (sv (d := .ref _ _) (agr hA rfl rfl)) (off' := 3) rfl)) ?_
          refine .cons (lop rfl rfl fun S hA => (iop_load_rs (d := .slice _ _) rfl rfl (by decide) Try.underlying22 ag22 ti22 (by decide) (sv (d := .ref _ _) (agr hA rfl rfl)) (agi hA rfl rfl) (nle rfl) rfl)) ?_
          refine .cons (lop rfl rfl fun S hA => (iop_lenT (eInt .i64) (l := a0.Live) rfl rfl (by decide) Try.underlying22 (sv (d := .slice _ _) (agr hA rfl rfl)))) ?_
          refine .cons (lop rfl rfl fun S hA => (iop_move rfl rfl (by decide) (sv (d := .int _ _) (agr hA rfl rfl)))) ?_
          refine .cons (lop rfl rfl fun S hA => (iop_intx rfl rfl (by decide) (sv (d := .int _ _) (agr hA rfl rfl)) (sv (d := .int _ _) (agr hA rfl rfl)) rfl hx27)) ?_
          refine .cons (lop rfl rfl fun S hA => (iop_assign rfl rfl (by decide) (sv (d := .int _ _) (agr hA rfl rfl)))) ?_
          refine .cons (lop rfl rfl fun S hA => (iop_assign rfl rfl (by decide) (sv (d := .int _ _) (agr hA rfl rfl)))) ?_
          exact .nil
        refine iwp_ret ?_
        obtain rfl := Option.some.inj h
        refine ⟨.inr rfl, (.cons (sv rfl) (.cons (sv rfl) .nil))⟩

set_option maxRecDepth 8000 in
set_option maxHeartbeats 2000000 in
theorem p_sennitref22_add (a0 : T_stid_State) (a1 : Int) (r : T_stid_State) (h : sennitref22_add a0 a1 = some r) : PureAt Try.prog 32 [.agg [.bool a0.Odd, .int .i64 a0.Next, .int .i64 a0.Last, .slice false (a0.Live.map (eInt .i64).d), .slice false (a0.Cut.map (eInt .i64).d), .int .i64 a0.Mine, .int .i64 a0.Hers, .int .i64 a0.Heard, .int .i64 a0.Told], .int .i64 a1] (.agg [.bool r.Odd, .int .i64 r.Next, .int .i64 r.Last, .slice false (r.Live.map (eInt .i64).d), .slice false (r.Cut.map (eInt .i64).d), .int .i64 r.Mine, .int .i64 r.Hers, .int .i64 r.Heard, .int .i64 r.Told]) := by
  refine pure_of_iwp (rs := [.agg [.bool r.Odd, .int .i64 r.Next, .int .i64 r.Last, .slice false (r.Live.map (eInt .i64).d), .slice false (r.Cut.map (eInt .i64).d), .int .i64 r.Mine, .int .i64 r.Hers, .int .i64 r.Heard, .int .i64 r.Told]]) Try.func32 rfl Try.ntmps32 (nle rfl) rfl fun O hO => ?_
  show IWP _ _ _ _ ⟨[(0, .agg [.bool a0.Odd, .int .i64 a0.Next, .int .i64 a0.Last, .slice false (a0.Live.map (eInt .i64).d), .slice false (a0.Cut.map (eInt .i64).d), .int .i64 a0.Mine, .int .i64 a0.Hers, .int .i64 a0.Heard, .int .i64 a0.Told]), (1, .int .i64 a1)], []⟩ _
  unfold sennitref22_add at h
  refine iwp_reg (ils_cons rfl (iop_box' (cs := [.bool _, .int _ _, .int _ _, .slice _ _, .slice _ _, .int _ _, .int _ _, .int _ _, .int _ _]) 0 rfl rfl (by decide) rfl (sv (d := .agg [.bool _, .int _ _, .int _ _, .slice _ _, .slice _ _, .int _ _, .int _ _, .int _ _, .int _ _]) rfl) rfl rfl) <|
    ils_cons rfl (iop_allocS (cs := [.bool _, .int _ _, .int _ _, .nils, .nils, .int _ _, .int _ _, .int _ _, .int _ _]) (cs' := [.bool false, .int .i64 0, .int .i64 0, .slice false (([] : List Int).map (eInt .i64).d), .slice false (([] : List Int).map (eInt .i64).d), .int .i64 0, .int .i64 0, .int .i64 0, .int .i64 0]) 1 rfl rfl (by decide) rfl ti24 rfl rfl (.cons (.refl _) (.cons (.refl _) (.cons (.refl _) (.cons (.nils _) (.cons (.nils _) (.cons (.refl _) (.cons (.refl _) (.cons (.refl _) (.cons (.refl _) .nil)))))))))) <|
    ils_end ?_)
  refine iwp_reg (ils_cons rfl (iop_assign rfl rfl (by decide) (sv (d := .int _ 0) rfl)) <|
    ils_end ?_)
  refine iwp_seq ?_
  refine iwp_block ?_
  refine iwp_loopP (α := Nat × Int) (fun z => ⟨[(1, .int .i64 a1), (2, .ref 0 0), (4, .ref 1 0), (5, .int .i64 z.2)], [(0, .blk 24 [.bool a0.Odd, .int .i64 a0.Next, .int .i64 a0.Last, .slice false (a0.Live.map (eInt .i64).d), .slice false (a0.Cut.map (eInt .i64).d), .int .i64 a0.Mine, .int .i64 a0.Hers, .int .i64 a0.Heard, .int .i64 a0.Told]), (1, .blk 24 [.bool false, .int .i64 0, .int .i64 0, .slice false (([] : List Int).map (eInt .i64).d), .slice false (([] : List Int).map (eInt .i64).d), .int .i64 0, .int .i64 0, .int .i64 0, .int .i64 0])]⟩) (fun z => sennitref22_add_L0 a0 a1 z.1 z.2 = some r) (fun z => z.1) (fuel, 0) (fun i => i) ⟨(.cons (.same rfl rfl) (.cons (.same rfl rfl) (.cons (.same rfl rfl) (.cons (.same rfl rfl) .nil)))), (.cons (.blk rfl rfl rfl) (.cons (.blk rfl rfl rfl) .nil)), nd_of [0, 1] rfl (by decide), (fun i hi => by first | rfl | (show (if _ then _ else _) = _; (repeat' split) <;> omega))⟩ ?_ ?_
  · exact h
  ·
    rintro ⟨n0, v7⟩ h
    cases n0 with
    | zero => exact absurd h (by unfold sennitref22_add_L0; exact nofun)
    | succ n0 =>
      unfold sennitref22_add_L0 at h
      refine iwp_seq ?_
      obtain ⟨x14, hx14, h⟩ := bnd_e h
      obtain ⟨x15, hx15, h⟩ := bno_e h
      obtain ⟨x16, hx16, h⟩ := bnd_e h
      obtain ⟨x17, hx17, h⟩ := bnd_e h
      refine iwp_reg (ils_cons rfl (iop_move rfl rfl (by decide) (sv (d := .int _ _) rfl)) <|
        ils_cons rfl (iop_fieldAddr_ref rfl rfl (by decide) Try.underlying24 rfl ti22 (by decide) (sv (d := .ref _ _) rfl) (off' := 3) rfl) <|
        ils_cons rfl (iop_load_rs (d := .slice _ _) rfl rfl (by decide) Try.underlying22 ag22 ti22 (by decide) (sv (d := .ref _ _) rfl) rfl (nle rfl) rfl) <|
        ils_cons rfl (iop_lenT (eInt .i64) (l := a0.Live) rfl rfl (by decide) Try.underlying22 (sv (d := .slice _ _) rfl)) <|
        ils_cons rfl (iop_cmpx rfl rfl (by decide) (sv (d := .int _ _) rfl) (sv (d := .int _ _) rfl) rfl hx14) <|
        ils_cons rfl (iop_move rfl rfl (by decide) (sv (d := .bool _) rfl)) <|
        ils_guard rfl rfl (.one rfl) rfl (by decide) (fun hb => (iop_fieldAddr_ref rfl rfl (by decide) Try.underlying24 rfl ti22 (by decide) (sv (d := .ref _ _) rfl) (off' := 3) rfl)) <|
        ils_guard rfl rfl (.one rfl) rfl (by decide) (fun hb => (iop_load_rs (d := .slice _ _) rfl rfl (by decide) Try.underlying22 ag22 ti22 (by decide) (svc (d := .ref _ _) rfl hb) rfl (nle rfl) rfl)) <|
        ils_guard rfl rfl (.one rfl) rfl (by decide) (fun hb => (iop_move rfl rfl (by decide) (sv (d := .int _ _) rfl))) <|
        ils_guard rfl rfl (.one rfl) rfl (by decide) (fun hb => (iop_idxT (eInt .i64) (cs := [.int _ _]) rfl rfl (by decide) Try.underlying22 ti3 (svc (d := .slice _ _) rfl hb) (svc (d := .int _ _) rfl hb) (gd_t hx15 hb) rfl rfl)) <|
        ils_guard rfl rfl (.one rfl) rfl (by decide) (fun hb => (iop_load_fs rfl rfl (by decide) Try.underlying3 ag3 ti3 (by decide) (svc (d := .fptr [.int _ _]) rfl hb) (nle rfl))) <|
        ils_guard rfl rfl (.one rfl) rfl (by decide) (fun hb => (iop_move rfl rfl (by decide) (sv (d := .int _ _) rfl))) <|
        ils_guard rfl rfl (.one rfl) rfl (by decide) (fun hb => (iop_cmpx rfl rfl (by decide) (svc (d := .int _ _) rfl hb) (svc (d := .int _ _) rfl hb) rfl hx16)) <|
        ils_cons rfl (iop_andx rfl rfl (by decide) (sv (d := .bool _) rfl) rfl rfl hx17) <|
        ils_end ?_)
      refine iwp_cond (b := _) rfl (fun hc18 => ?_) (fun hc18 => ?_)
      ·
        replace h := bif_t h hc18
        refine iwp_skip ?_
        refine thenQ_n ?_
        refine iwp_block ?_
        obtain ⟨x19, hx19, h⟩ := bnd_e h
        refine iwp_region (ils_cons rfl (iop_move rfl rfl (by decide) (sv (d := .int _ _) rfl)) <|
          ils_cons rfl (iop_intx rfl rfl (by decide) (sv (d := .int _ _) rfl) (sv (d := .int _ 1) rfl) rfl hx19) <|
          ils_cons rfl (iop_assign rfl rfl (by decide) (sv (d := .int _ _) rfl)) <|
          ils_nil ?_)
        refine blockQ_n ?_
        refine thenQ_n ⟨(n0, x19), (fun i => i), ⟨(.cons (.same rfl rfl) (.cons (.same rfl rfl) (.cons (.same rfl rfl) (.cons (.same rfl rfl) .nil)))), (.cons (.blk rfl rfl rfl) (.cons (.blk rfl rfl rfl) .nil)), nd_of [0, 1] rfl (by decide), (fun i hi => by first | rfl | (show (if _ then _ else _) = _; (repeat' split) <;> omega))⟩, ?_, ?_⟩
        exact h
        exact Nat.lt_succ_self _
      ·
        replace h := bif_f h hc18
        refine iwp_exit ?_
        refine thenQ_e ?_
        refine thenQ_e ?_
        refine blockQ_e ?_
        refine thenQ_n ?_
        refine iwp_reg (ils_cons rfl (iop_assign rfl rfl (by decide) (sv (d := .nils) rfl)) <|
          ils_end ?_)
        obtain ⟨x20, hx20, h⟩ := bno_e h
        obtain ⟨x21, hx21, h⟩ := bno_e h
        obtain ⟨x22, hx22, h⟩ := bno_e h
        obtain ⟨x23, hx23, h⟩ := bno_e h
        obtain ⟨x24, hx24, h⟩ := bno_e h
        refine iwp_drw rfl [⟨[6], [], [(23, .nils)], []⟩,
          ⟨[2], [], [(24, .ref 0 3)], []⟩,
          ⟨[24], [0], [(25, .slice false (a0.Live.map (eInt .i64).d))], []⟩,
          ⟨[5], [], [(26, .int .i64 v7)], []⟩,
          ⟨[25, 26], [], [(27, .slice false (x20.map (eInt .i64).d))], []⟩,
          ⟨[23, 27], [2], [(28, .gsl 2 (eInt .i64).sz (x21.map (eInt .i64).d))], [(2, .tail 3 (eInt .i64).sz x21.length)]⟩,
          ⟨[1], [], [(29, .int .i64 a1)], []⟩,
          ⟨[29], [3], [(30, .gsl 3 (eInt .i64).sz (([a1] : (List Int)).map (eInt .i64).d))], [(3, .tail 3 (eInt .i64).sz ([a1] : (List Int)).length)]⟩,
          ⟨[28, 30], [2, 4], [(31, .gsl 4 (eInt .i64).sz (x22.map (eInt .i64).d))], [(4, .tail 3 (eInt .i64).sz x22.length), (2, .none)]⟩,
          ⟨[2], [], [(32, .ref 0 3)], []⟩,
          ⟨[32], [0], [(33, .slice false (a0.Live.map (eInt .i64).d))], []⟩,
          ⟨[5], [], [(34, .int .i64 v7)], []⟩,
          ⟨[33, 34], [], [(35, .slice false (x23.map (eInt .i64).d))], []⟩,
          ⟨[31, 35], [4, 5], [(36, .gsl 5 (eInt .i64).sz (x24.map (eInt .i64).d))], [(5, .tail 3 (eInt .i64).sz x24.length), (4, .none)]⟩,
          ⟨[2], [], [(37, .ref 0 3)], []⟩,
          ⟨[36, 37], [0], [], [(0, .blk 24 [.bool a0.Odd, .int .i64 a0.Next, .int .i64 a0.Last, .slice false (x24.map (eInt .i64).d), .slice false (a0.Cut.map (eInt .i64).d), .int .i64 a0.Mine, .int .i64 a0.Hers, .int .i64 a0.Heard, .int .i64 a0.Told])]⟩] rfl ?_ (by kernel_rfl) ?_
        · refine .cons (lop rfl rfl fun S hA => (iop_move rfl rfl (by decide) (sv (d := .nils) (agr hA rfl rfl)))) ?_
          refine .cons (lop rfl rfl fun S hA => (iop_fieldAddr_ref rfl rfl (by decide) Try.underlying24 rfl ti22 (by decide) (sv (d := .ref _ _) (agr hA rfl rfl)) (off' := 3) rfl)) ?_
          refine .cons (lop rfl rfl fun S hA => (iop_load_rs (d := .slice _ _) rfl rfl (by decide) Try.underlying22 ag22 ti22 (by decide) (sv (d := .ref _ _) (agr hA rfl rfl)) (agi hA rfl rfl) (nle rfl) rfl)) ?_
          refine .cons (lop rfl rfl fun S hA => (iop_move rfl rfl (by decide) (sv (d := .int _ _) (agr hA rfl rfl)))) ?_
          refine .cons (lop rfl rfl fun S hA => (iop_cutT (eInt .i64) rfl rfl (by decide) Try.underlying22 ti3 (sv (d := .slice _ _) (agr hA rfl rfl)) rfl ⟨_, (sv (d := .int _ _) (agr hA rfl rfl))⟩ hx20)) ?_
          refine .cons (lop rfl rfl fun S hA => (iop_appTn (eInt .i64) (ys := x20) 2 rfl rfl (by decide) Try.underlying22 ti3 rfl (agr hA rfl rfl) (agi hA rfl rfl) (sv (d := .slice _ _) (agr hA rfl rfl)) hx21)) ?_
          refine .cons (lop rfl rfl fun S hA => (iop_move rfl rfl (by decide) (sv (d := .int _ _) (agr hA rfl rfl)))) ?_
          refine .cons (lop rfl rfl fun S hA => (iop_bsT (eInt .i64) ([a1] : (List Int)) 3 rfl rfl (by decide) Try.underlying22 ti3 (agi hA rfl rfl) (.cons (sv (d := .int _ _) (agr hA rfl rfl)) .nil) rfl rfl (by decide))) ?_
          refine .cons (lop rfl rfl fun S hA => (iop_appT (eInt .i64) 4 rfl rfl (by decide) Try.underlying22 ti3 rfl (agr hA rfl rfl) (agi hA rfl rfl) (agi hA rfl rfl) (svg (agr hA rfl rfl)) hx22)) ?_
          refine .cons (lop rfl rfl fun S hA => (iop_fieldAddr_ref rfl rfl (by decide) Try.underlying24 rfl ti22 (by decide) (sv (d := .ref _ _) (agr hA rfl rfl)) (off' := 3) rfl)) ?_
          refine .cons (lop rfl rfl fun S hA => (iop_load_rs (d := .slice _ _) rfl rfl (by decide) Try.underlying22 ag22 ti22 (by decide) (sv (d := .ref _ _) (agr hA rfl rfl)) (agi hA rfl rfl) (nle rfl) rfl)) ?_
          refine .cons (lop rfl rfl fun S hA => (iop_move rfl rfl (by decide) (sv (d := .int _ _) (agr hA rfl rfl)))) ?_
          refine .cons (lop rfl rfl fun S hA => (iop_cutT (eInt .i64) rfl rfl (by decide) Try.underlying22 ti3 (sv (d := .slice _ _) (agr hA rfl rfl)) ⟨_, (sv (d := .int _ _) (agr hA rfl rfl))⟩ rfl hx23)) ?_
          refine .cons (lop rfl rfl fun S hA => (iop_appT (eInt .i64) 5 rfl rfl (by decide) Try.underlying22 ti3 rfl (agr hA rfl rfl) (agi hA rfl rfl) (agi hA rfl rfl) (sv (d := .slice _ _) (agr hA rfl rfl)) hx24)) ?_
          refine .cons (lop rfl rfl fun S hA => (iop_fieldAddr_ref rfl rfl (by decide) Try.underlying24 rfl ti22 (by decide) (sv (d := .ref _ _) (agr hA rfl rfl)) (off' := 3) rfl)) ?_
          refine .cons (lop rfl rfl fun S hA => (iop_store (ds' := [.bool _, .int _ _, .int _ _, .slice _ _, .slice _ _, .int _ _, .int _ _, .int _ _, .int _ _]) rfl rfl ti22 (sv (d := .ref _ _) (agr hA rfl rfl)) (agi hA rfl rfl) (svg (agr hA rfl rfl)) rfl rfl rfl (nle rfl) rfl)) ?_
          exact .nil
        refine iwp_reg (ils_cons rfl (iop_load_ra (cs := [.bool _, .int _ _, .int _ _, .slice _ _, .slice _ _, .int _ _, .int _ _, .int _ _, .int _ _]) rfl rfl (by decide) Try.underlying24 ag24 ti24 (by decide) (sv (d := .ref _ _) rfl) rfl (nle rfl) rfl) <|
          ils_cons rfl (iop_store (ds' := [.bool _, .int _ _, .int _ _, .slice _ _, .slice _ _, .int _ _, .int _ _, .int _ _, .int _ _]) rfl rfl ti24 (sv (d := .ref _ _) rfl) rfl (sv (d := .agg [.bool _, .int _ _, .int _ _, .slice _ _, .slice _ _, .int _ _, .int _ _, .int _ _, .int _ _]) rfl) rfl rfl rfl (nle rfl) rfl) <|
          ils_end ?_)
        refine iwp_ret ?_
        obtain rfl := Option.some.inj h
        refine ⟨.inr rfl, (.cons (resv_a rfl rfl Try.underlying24 ag24 ti24 (by decide) (nle rfl) rfl) .nil)⟩

set_option maxRecDepth 8000 in
set_option maxHeartbeats 2000000 in
theorem p_sennitref22_Open (a0 : T_stid_State) (r : (T_stid_State × Int × Int)) (h : sennitref22_Open a0 = some r) : PureAt Try.prog 9 [.agg [.bool a0.Odd, .int .i64 a0.Next, .int .i64 a0.Last, .slice false (a0.Live.map (eInt .i64).d), .slice false (a0.Cut.map (eInt .i64).d), .int .i64 a0.Mine, .int .i64 a0.Hers, .int .i64 a0.Heard, .int .i64 a0.Told]] (retD [.agg [.bool r.1.Odd, .int .i64 r.1.Next, .int .i64 r.1.Last, .slice false (r.1.Live.map (eInt .i64).d), .slice false (r.1.Cut.map (eInt .i64).d), .int .i64 r.1.Mine, .int .i64 r.1.Hers, .int .i64 r.1.Heard, .int .i64 r.1.Told], .int .i64 r.2.1, .int .i64 r.2.2]) := by
  refine pure_of_iwp (rs := [.agg [.bool r.1.Odd, .int .i64 r.1.Next, .int .i64 r.1.Last, .slice false (r.1.Live.map (eInt .i64).d), .slice false (r.1.Cut.map (eInt .i64).d), .int .i64 r.1.Mine, .int .i64 r.1.Hers, .int .i64 r.1.Heard, .int .i64 r.1.Told], .int .i64 r.2.1, .int .i64 r.2.2]) Try.func9 rfl Try.ntmps9 (nle rfl) rfl fun O hO => ?_
  show IWP _ _ _ _ ⟨[(0, .agg [.bool a0.Odd, .int .i64 a0.Next, .int .i64 a0.Last, .slice false (a0.Live.map (eInt .i64).d), .slice false (a0.Cut.map (eInt .i64).d), .int .i64 a0.Mine, .int .i64 a0.Hers, .int .i64 a0.Heard, .int .i64 a0.Told])], []⟩ _
  unfold sennitref22_Open at h
  refine iwp_reg (ils_cons rfl (iop_box' (cs := [.bool _, .int _ _, .int _ _, .slice _ _, .slice _ _, .int _ _, .int _ _, .int _ _, .int _ _]) 0 rfl rfl (by decide) rfl (sv (d := .agg [.bool _, .int _ _, .int _ _, .slice _ _, .slice _ _, .int _ _, .int _ _, .int _ _, .int _ _]) rfl) rfl rfl) <|
    ils_cons rfl (iop_allocS (cs := [.bool _, .int _ _, .int _ _, .nils, .nils, .int _ _, .int _ _, .int _ _, .int _ _]) (cs' := [.bool false, .int .i64 0, .int .i64 0, .slice false (([] : List Int).map (eInt .i64).d), .slice false (([] : List Int).map (eInt .i64).d), .int .i64 0, .int .i64 0, .int .i64 0, .int .i64 0]) 1 rfl rfl (by decide) rfl ti24 rfl rfl (.cons (.refl _) (.cons (.refl _) (.cons (.refl _) (.cons (.nils _) (.cons (.nils _) (.cons (.refl _) (.cons (.refl _) (.cons (.refl _) (.cons (.refl _) .nil)))))))))) <|
    ils_cons rfl (iop_assign rfl rfl (by decide) (sv (d := .int _ 0) rfl)) <|
    ils_cons rfl (iop_assign rfl rfl (by decide) (sv (d := .int _ 0) rfl)) <|
    ils_end ?_)
  obtain ⟨x1, hx1, h⟩ := bno_e h
  refine iwp_reg (ils_cons rfl (iop_load_ra (cs := [.bool _, .int _ _, .int _ _, .slice _ _, .slice _ _, .int _ _, .int _ _, .int _ _, .int _ _]) rfl rfl (by decide) Try.underlying24 ag24 ti24 (by decide) (sv (d := .ref _ _) rfl) rfl (nle rfl) rfl) <|
    ils_cons rfl (iop_call (r := .int _ _) rfl rfl (by decide) cl30 (.cons (sv (d := .agg [.bool _, .int _ _, .int _ _, .slice _ _, .slice _ _, .int _ _, .int _ _, .int _ _, .int _ _]) rfl) .nil) rfl (p_sennitref22_Check _ _ hx1)) <|
    ils_cons rfl (iop_assign rfl rfl (by decide) (sv (d := .int _ _) rfl)) <|
    ils_end ?_)
  obtain ⟨x2, hx2, h⟩ := bno_e h
  refine iwp_reg (ils_cons rfl (iop_load_ra (cs := [.bool _, .int _ _, .int _ _, .slice _ _, .slice _ _, .int _ _, .int _ _, .int _ _, .int _ _]) rfl rfl (by decide) Try.underlying24 ag24 ti24 (by decide) (sv (d := .ref _ _) rfl) rfl (nle rfl) rfl) <|
    ils_cons rfl (iop_call (r := .tuple [.int _ _, .int _ _]) rfl rfl (by decide) cl31 (.cons (sv (d := .agg [.bool _, .int _ _, .int _ _, .slice _ _, .slice _ _, .int _ _, .int _ _, .int _ _, .int _ _]) rfl) .nil) rfl (p_sennitref22_Count _ _ hx2)) <|
    ils_cons rfl (iop_move rfl rfl (by decide) (sv (d := .tuple [.int _ _, .int _ _]) rfl)) <|
    ils_cons rfl (iop_extract (d := .int _ _) rfl rfl (by decide) (sv (d := .tuple [.int _ _, .int _ _]) rfl) rfl) <|
    ils_cons rfl (iop_extract (d := .int _ _) rfl rfl (by decide) (sv (d := .tuple [.int _ _, .int _ _]) rfl) rfl) <|
    ils_cons rfl (iop_assign rfl rfl (by decide) (sv (d := .int _ _) rfl)) <|
    ils_cons rfl (iop_assign rfl rfl (by decide) (sv (d := .int _ _) rfl)) <|
    ils_end ?_)
  refine iwp_seq ?_
  refine iwp_block ?_
  obtain ⟨x3, hx3, h⟩ := bnd_e h
  refine iwp_reg (ils_cons rfl (iop_move rfl rfl (by decide) (sv (d := .int _ _) rfl)) <|
    ils_cons rfl (iop_cmpx rfl rfl (by decide) (sv (d := .int _ _) rfl) (sv (d := .int _ 0) rfl) rfl hx3) <|
    ils_cons rfl (iop_assign rfl rfl (by decide) (sv (d := .bool _) rfl)) <|
    ils_end ?_)
  refine iwp_cond (b := _) rfl (fun hc4 => ?_) (fun hc4 => ?_)
  ·
    replace h := bif_t h hc4
    refine iwp_reg (ils_cons rfl (iop_load_ra (cs := [.bool _, .int _ _, .int _ _, .slice _ _, .slice _ _, .int _ _, .int _ _, .int _ _, .int _ _]) rfl rfl (by decide) Try.underlying24 ag24 ti24 (by decide) (sv (d := .ref _ _) rfl) rfl (nle rfl) rfl) <|
      ils_cons rfl (iop_move rfl rfl (by decide) (sv (d := .int _ _) rfl)) <|
      ils_cons rfl (iop_store (ds' := [.bool _, .int _ _, .int _ _, .slice _ _, .slice _ _, .int _ _, .int _ _, .int _ _, .int _ _]) rfl rfl ti24 (sv (d := .ref _ _) rfl) rfl (sv (d := .agg [.bool _, .int _ _, .int _ _, .slice _ _, .slice _ _, .int _ _, .int _ _, .int _ _, .int _ _]) rfl) rfl rfl rfl (nle rfl) rfl) <|
      ils_cons rfl (iop_assign rfl rfl (by decide) (sv (d := .int _ 0) rfl)) <|
      ils_cons rfl (iop_assign rfl rfl (by decide) (sv (d := .int _ _) rfl)) <|
      ils_end ?_)
    refine iwp_ret ?_
    refine blockQ_r ?_
    refine thenQ_r ?_
    obtain rfl := Option.some.inj h
    refine ⟨.inr rfl, (.cons (resv_a rfl rfl Try.underlying24 ag24 ti24 (by decide) (nle rfl) rfl) (.cons (sv rfl) (.cons (sv rfl) .nil)))⟩
  ·
    replace h := bif_f h hc4
    obtain ⟨x5, hx5, h⟩ := bnd_e h
    obtain ⟨x6, hx6, h⟩ := bnd_e h
    obtain ⟨x7, hx7, h⟩ := bnd_e h
    refine iwp_reg (ils_cons rfl (iop_fieldAddr_ref rfl rfl (by decide) Try.underlying24 rfl ti3 (by decide) (sv (d := .ref _ _) rfl) (off' := 7) rfl) <|
      ils_cons rfl (iop_load_rs (d := .int _ _) rfl rfl (by decide) Try.underlying3 ag3 ti3 (by decide) (sv (d := .ref _ _) rfl) rfl (nle rfl) rfl) <|
      ils_cons rfl (iop_cmpx rfl rfl (by decide) (sv (d := .int _ _) rfl) (sv (d := .int _ (-1)) rfl) rfl hx5) <|
      ils_cons rfl (iop_move rfl rfl (by decide) (sv (d := .bool _) rfl)) <|
      ils_guard rfl rfl (.one rfl) rfl (by decide) (fun hb => (iop_fieldAddr_ref rfl rfl (by decide) Try.underlying24 rfl ti3 (by decide) (sv (d := .ref _ _) rfl) (off' := 8) rfl)) <|
      ils_guard rfl rfl (.one rfl) rfl (by decide) (fun hb => (iop_load_rs (d := .int _ _) rfl rfl (by decide) Try.underlying3 ag3 ti3 (by decide) (svc (d := .ref _ _) rfl hb) rfl (nle rfl) rfl)) <|
      ils_guard rfl rfl (.one rfl) rfl (by decide) (fun hb => (iop_cmpx rfl rfl (by decide) (svc (d := .int _ _) rfl hb) (sv (d := .int _ (-1)) rfl) rfl hx6)) <|
      ils_cons rfl (iop_orx rfl rfl (by decide) (sv (d := .bool _) rfl) rfl rfl hx7) <|
      ils_cons rfl (iop_assign rfl rfl (by decide) (sv (d := .bool _) rfl)) <|
      ils_end ?_)
    refine iwp_cond (b := _) rfl (fun hc8 => ?_) (fun hc8 => ?_)
    ·
      replace h := bif_t h hc8
      refine iwp_reg (ils_cons rfl (iop_load_ra (cs := [.bool _, .int _ _, .int _ _, .slice _ _, .slice _ _, .int _ _, .int _ _, .int _ _, .int _ _]) rfl rfl (by decide) Try.underlying24 ag24 ti24 (by decide) (sv (d := .ref _ _) rfl) rfl (nle rfl) rfl) <|
        ils_cons rfl (iop_store (ds' := [.bool _, .int _ _, .int _ _, .slice _ _, .slice _ _, .int _ _, .int _ _, .int _ _, .int _ _]) rfl rfl ti24 (sv (d := .ref _ _) rfl) rfl (sv (d := .agg [.bool _, .int _ _, .int _ _, .slice _ _, .slice _ _, .int _ _, .int _ _, .int _ _, .int _ _]) rfl) rfl rfl rfl (nle rfl) rfl) <|
        ils_cons rfl (iop_assign rfl rfl (by decide) (sv (d := .int _ 0) rfl)) <|
        ils_cons rfl (iop_assign rfl rfl (by decide) (sv (d := .int _ 14) rfl)) <|
        ils_end ?_)
      refine iwp_ret ?_
      refine blockQ_r ?_
      refine thenQ_r ?_
      obtain rfl := Option.some.inj h
      refine ⟨.inr rfl, (.cons (resv_a rfl rfl Try.underlying24 ag24 ti24 (by decide) (nle rfl) rfl) (.cons (sv rfl) (.cons (sv rfl) .nil)))⟩
    ·
      replace h := bif_f h hc8
      obtain ⟨x9, hx9, h⟩ := bnd_e h
      refine iwp_reg (ils_cons rfl (iop_move rfl rfl (by decide) (sv (d := .int _ _) rfl)) <|
        ils_cons rfl (iop_fieldAddr_ref rfl rfl (by decide) Try.underlying24 rfl ti3 (by decide) (sv (d := .ref _ _) rfl) (off' := 5) rfl) <|
        ils_cons rfl (iop_load_rs (d := .int _ _) rfl rfl (by decide) Try.underlying3 ag3 ti3 (by decide) (sv (d := .ref _ _) rfl) rfl (nle rfl) rfl) <|
        ils_cons rfl (iop_cmpx rfl rfl (by decide) (sv (d := .int _ _) rfl) (sv (d := .int _ _) rfl) rfl hx9) <|
        ils_cons rfl (iop_assign rfl rfl (by decide) (sv (d := .bool _) rfl)) <|
        ils_end ?_)
      refine iwp_cond (b := _) rfl (fun hc10 => ?_) (fun hc10 => ?_)
      ·
        replace h := bif_t h hc10
        refine iwp_reg (ils_cons rfl (iop_load_ra (cs := [.bool _, .int _ _, .int _ _, .slice _ _, .slice _ _, .int _ _, .int _ _, .int _ _, .int _ _]) rfl rfl (by decide) Try.underlying24 ag24 ti24 (by decide) (sv (d := .ref _ _) rfl) rfl (nle rfl) rfl) <|
          ils_cons rfl (iop_store (ds' := [.bool _, .int _ _, .int _ _, .slice _ _, .slice _ _, .int _ _, .int _ _, .int _ _, .int _ _]) rfl rfl ti24 (sv (d := .ref _ _) rfl) rfl (sv (d := .agg [.bool _, .int _ _, .int _ _, .slice _ _, .slice _ _, .int _ _, .int _ _, .int _ _, .int _ _]) rfl) rfl rfl rfl (nle rfl) rfl) <|
          ils_cons rfl (iop_assign rfl rfl (by decide) (sv (d := .int _ 0) rfl)) <|
          ils_cons rfl (iop_assign rfl rfl (by decide) (sv (d := .int _ 7) rfl)) <|
          ils_end ?_)
        refine iwp_ret ?_
        refine blockQ_r ?_
        refine thenQ_r ?_
        obtain rfl := Option.some.inj h
        refine ⟨.inr rfl, (.cons (resv_a rfl rfl Try.underlying24 ag24 ti24 (by decide) (nle rfl) rfl) (.cons (sv rfl) (.cons (sv rfl) .nil)))⟩
      ·
        replace h := bif_f h hc10
        obtain ⟨x11, hx11, h⟩ := bnd_e h
        refine iwp_reg (ils_cons rfl (iop_fieldAddr_ref rfl rfl (by decide) Try.underlying24 rfl ti3 (by decide) (sv (d := .ref _ _) rfl) (off' := 1) rfl) <|
          ils_cons rfl (iop_load_rs (d := .int _ _) rfl rfl (by decide) Try.underlying3 ag3 ti3 (by decide) (sv (d := .ref _ _) rfl) rfl (nle rfl) rfl) <|
          ils_cons rfl (iop_cmpx rfl rfl (by decide) (sv (d := .int _ _) rfl) (sv (d := .int _ 1048576) rfl) rfl hx11) <|
          ils_cons rfl (iop_assign rfl rfl (by decide) (sv (d := .bool _) rfl)) <|
          ils_end ?_)
        refine iwp_cond (b := _) rfl (fun hc12 => ?_) (fun hc12 => ?_)
        ·
          replace h := bif_t h hc12
          refine iwp_reg (ils_cons rfl (iop_load_ra (cs := [.bool _, .int _ _, .int _ _, .slice _ _, .slice _ _, .int _ _, .int _ _, .int _ _, .int _ _]) rfl rfl (by decide) Try.underlying24 ag24 ti24 (by decide) (sv (d := .ref _ _) rfl) rfl (nle rfl) rfl) <|
            ils_cons rfl (iop_store (ds' := [.bool _, .int _ _, .int _ _, .slice _ _, .slice _ _, .int _ _, .int _ _, .int _ _, .int _ _]) rfl rfl ti24 (sv (d := .ref _ _) rfl) rfl (sv (d := .agg [.bool _, .int _ _, .int _ _, .slice _ _, .slice _ _, .int _ _, .int _ _, .int _ _, .int _ _]) rfl) rfl rfl rfl (nle rfl) rfl) <|
            ils_cons rfl (iop_assign rfl rfl (by decide) (sv (d := .int _ 0) rfl)) <|
            ils_cons rfl (iop_assign rfl rfl (by decide) (sv (d := .int _ 8) rfl)) <|
            ils_end ?_)
          refine iwp_ret ?_
          refine blockQ_r ?_
          refine thenQ_r ?_
          obtain rfl := Option.some.inj h
          refine ⟨.inr rfl, (.cons (resv_a rfl rfl Try.underlying24 ag24 ti24 (by decide) (nle rfl) rfl) (.cons (sv rfl) (.cons (sv rfl) .nil)))⟩
        ·
          replace h := bif_f h hc12
          refine iwp_skip ?_
          refine blockQ_n ?_
          refine thenQ_n ?_
          refine iwp_reg (ils_cons rfl (iop_fieldAddr_ref rfl rfl (by decide) Try.underlying24 rfl ti3 (by decide) (sv (d := .ref _ _) rfl) (off' := 1) rfl) <|
            ils_cons rfl (iop_load_rs (d := .int _ _) rfl rfl (by decide) Try.underlying3 ag3 ti3 (by decide) (sv (d := .ref _ _) rfl) rfl (nle rfl) rfl) <|
            ils_cons rfl (iop_assign rfl rfl (by decide) (sv (d := .int _ _) rfl)) <|
            ils_end ?_)
          obtain ⟨x13, hx13, h⟩ := bnd_e h
          refine iwp_reg (ils_cons rfl (iop_fieldAddr_ref rfl rfl (by decide) Try.underlying24 rfl ti3 (by decide) (sv (d := .ref _ _) rfl) (off' := 1) rfl) <|
            ils_cons rfl (iop_load_rs (d := .int _ _) rfl rfl (by decide) Try.underlying3 ag3 ti3 (by decide) (sv (d := .ref _ _) rfl) rfl (nle rfl) rfl) <|
            ils_cons rfl (iop_intx rfl rfl (by decide) (sv (d := .int _ _) rfl) (sv (d := .int _ 2) rfl) rfl hx13) <|
            ils_cons rfl (iop_fieldAddr_ref rfl rfl (by decide) Try.underlying24 rfl ti3 (by decide) (sv (d := .ref _ _) rfl) (off' := 1) rfl) <|
            ils_cons rfl (iop_store (ds' := [.bool _, .int _ _, .int _ _, .slice _ _, .slice _ _, .int _ _, .int _ _, .int _ _, .int _ _]) rfl rfl ti3 (sv (d := .ref _ _) rfl) rfl (sv (d := .int _ _) rfl) rfl rfl rfl (nle rfl) rfl) <|
            ils_end ?_)
          obtain ⟨x14, hx14, h⟩ := bno_e h
          refine iwp_reg (ils_cons rfl (iop_load_ra (cs := [.bool _, .int _ _, .int _ _, .slice _ _, .slice _ _, .int _ _, .int _ _, .int _ _, .int _ _]) rfl rfl (by decide) Try.underlying24 ag24 ti24 (by decide) (sv (d := .ref _ _) rfl) rfl (nle rfl) rfl) <|
            ils_cons rfl (iop_move rfl rfl (by decide) (sv (d := .int _ _) rfl)) <|
            ils_cons rfl (iop_call (r := .agg [.bool _, .int _ _, .int _ _, .slice _ _, .slice _ _, .int _ _, .int _ _, .int _ _, .int _ _]) rfl rfl (by decide) cl32 (.cons (sv (d := .agg [.bool _, .int _ _, .int _ _, .slice _ _, .slice _ _, .int _ _, .int _ _, .int _ _, .int _ _]) rfl) (.cons (sv (d := .int _ _) rfl) .nil)) rfl (p_sennitref22_add _ _ _ hx14)) <|
            ils_cons rfl (iop_move rfl rfl (by decide) (sv (d := .int _ _) rfl)) <|
            ils_cons rfl (iop_store (ds' := [.bool _, .int _ _, .int _ _, .slice _ _, .slice _ _, .int _ _, .int _ _, .int _ _, .int _ _]) rfl rfl ti24 (sv (d := .ref _ _) rfl) rfl (sv (d := .agg [.bool _, .int _ _, .int _ _, .slice _ _, .slice _ _, .int _ _, .int _ _, .int _ _, .int _ _]) rfl) rfl rfl rfl (nle rfl) rfl) <|
            ils_cons rfl (iop_assign rfl rfl (by decide) (sv (d := .int _ _) rfl)) <|
            ils_cons rfl (iop_assign rfl rfl (by decide) (sv (d := .int _ 0) rfl)) <|
            ils_end ?_)
          refine iwp_ret ?_
          obtain rfl := Option.some.inj h
          refine ⟨.inr rfl, (.cons (resv_a rfl rfl Try.underlying24 ag24 ti24 (by decide) (nle rfl) rfl) (.cons (sv rfl) (.cons (sv rfl) .nil)))⟩

set_option maxRecDepth 8000 in
set_option maxHeartbeats 2000000 in
theorem p_sennitref22_cutOff (a0 : T_stid_State) (a1 : Int) (r : T_stid_State) (h : sennitref22_cutOff a0 a1 = some r) : PureAt Try.prog 40 [.agg [.bool a0.Odd, .int .i64 a0.Next, .int .i64 a0.Last, .slice false (a0.Live.map (eInt .i64).d), .slice false (a0.Cut.map (eInt .i64).d), .int .i64 a0.Mine, .int .i64 a0.Hers, .int .i64 a0.Heard, .int .i64 a0.Told], .int .i64 a1] (.agg [.bool r.Odd, .int .i64 r.Next, .int .i64 r.Last, .slice false (r.Live.map (eInt .i64).d), .slice false (r.Cut.map (eInt .i64).d), .int .i64 r.Mine, .int .i64 r.Hers, .int .i64 r.Heard, .int .i64 r.Told]) := by
  refine pure_of_iwp (rs := [.agg [.bool r.Odd, .int .i64 r.Next, .int .i64 r.Last, .slice false (r.Live.map (eInt .i64).d), .slice false (r.Cut.map (eInt .i64).d), .int .i64 r.Mine, .int .i64 r.Hers, .int .i64 r.Heard, .int .i64 r.Told]]) Try.func40 rfl Try.ntmps40 (nle rfl) rfl fun O hO => ?_
  show IWP _ _ _ _ ⟨[(0, .agg [.bool a0.Odd, .int .i64 a0.Next, .int .i64 a0.Last, .slice false (a0.Live.map (eInt .i64).d), .slice false (a0.Cut.map (eInt .i64).d), .int .i64 a0.Mine, .int .i64 a0.Hers, .int .i64 a0.Heard, .int .i64 a0.Told]), (1, .int .i64 a1)], []⟩ _
  unfold sennitref22_cutOff at h
  refine iwp_reg (ils_cons rfl (iop_box' (cs := [.bool _, .int _ _, .int _ _, .slice _ _, .slice _ _, .int _ _, .int _ _, .int _ _, .int _ _]) 0 rfl rfl (by decide) rfl (sv (d := .agg [.bool _, .int _ _, .int _ _, .slice _ _, .slice _ _, .int _ _, .int _ _, .int _ _, .int _ _]) rfl) rfl rfl) <|
    ils_cons rfl (iop_allocS (cs := [.bool _, .int _ _, .int _ _, .nils, .nils, .int _ _, .int _ _, .int _ _, .int _ _]) (cs' := [.bool false, .int .i64 0, .int .i64 0, .slice false (([] : List Int).map (eInt .i64).d), .slice false (([] : List Int).map (eInt .i64).d), .int .i64 0, .int .i64 0, .int .i64 0, .int .i64 0]) 1 rfl rfl (by decide) rfl ti24 rfl rfl (.cons (.refl _) (.cons (.refl _) (.cons (.refl _) (.cons (.nils _) (.cons (.nils _) (.cons (.refl _) (.cons (.refl _) (.cons (.refl _) (.cons (.refl _) .nil)))))))))) <|
    ils_end ?_)
  refine iwp_reg (ils_cons rfl (iop_assign rfl rfl (by decide) (sv (d := .nils) rfl)) <|
    ils_end ?_)
  obtain ⟨x1, hx1, h⟩ := bno_e h
  obtain ⟨x2, hx2, h⟩ := bno_e h
  refine iwp_reg (ils_cons rfl (iop_move rfl rfl (by decide) (sv (d := .nils) rfl)) <|
    ils_cons rfl (iop_fieldAddr_ref rfl rfl (by decide) Try.underlying24 rfl ti22 (by decide) (sv (d := .ref _ _) rfl) (off' := 4) rfl) <|
    ils_cons rfl (iop_load_rs (d := .slice _ _) rfl rfl (by decide) Try.underlying22 ag22 ti22 (by decide) (sv (d := .ref _ _) rfl) rfl (nle rfl) rfl) <|
    ils_cons rfl (iop_appTn (eInt .i64) (ys := a0.Cut) 2 rfl rfl (by decide) Try.underlying22 ti3 rfl rfl rfl (sv (d := .slice _ _) rfl) hx1) <|
    ils_cons rfl (iop_move rfl rfl (by decide) (sv (d := .int _ _) rfl)) <|
    ils_cons rfl (iop_bsT (eInt .i64) ([a1] : (List Int)) 3 rfl rfl (by decide) Try.underlying22 ti3 rfl (.cons (sv (d := .int _ _) rfl) .nil) rfl rfl (by decide)) <|
    ils_cons rfl (iop_appT (eInt .i64) 4 rfl rfl (by decide) Try.underlying22 ti3 rfl rfl rfl rfl (svg rfl) hx2) <|
    ils_cons rfl (iop_assign rfl rfl (by decide) (sv (d := .gsl _ _ _) rfl)) <|
    ils_end ?_)
  obtain ⟨x3, hx3, h⟩ := bnd_e h
  obtain ⟨x4, hx4, h⟩ := bnd_e h
  obtain ⟨x5, hx5, h⟩ := bno_e h
  refine iwp_reg (ils_cons rfl (iop_move rfl rfl (by decide) (sv (d := .gsl _ _ _) rfl)) <|
    ils_cons rfl (iop_move rfl rfl (by decide) (sv (d := .gsl _ _ _) rfl)) <|
    ils_cons rfl (iop_lenT (eInt .i64) (l := x2) rfl rfl (by decide) Try.underlying22 (svg rfl)) <|
    ils_cons rfl (iop_intx rfl rfl (by decide) (sv (d := .int _ _) rfl) (sv (d := .int _ 8) rfl) rfl hx3) <|
    ils_cons rfl (iop_max2 rfl rfl (by decide) (sv (d := .int _ 0) rfl) (sv (d := .int _ _) rfl) hx4) <|
    ils_cons rfl (iop_cutT (eInt .i64) rfl rfl (by decide) Try.underlying22 ti3 (svg rfl) ⟨_, (sv (d := .int _ _) rfl)⟩ rfl hx5) <|
    ils_cons rfl (iop_fieldAddr_ref rfl rfl (by decide) Try.underlying24 rfl ti22 (by decide) (sv (d := .ref _ _) rfl) (off' := 4) rfl) <|
    ils_cons rfl (iop_store (ds' := [.bool _, .int _ _, .int _ _, .slice _ _, .slice _ _, .int _ _, .int _ _, .int _ _, .int _ _]) rfl rfl ti22 (sv (d := .ref _ _) rfl) rfl (sv (d := .slice _ _) rfl) rfl rfl rfl (nle rfl) rfl) <|
    ils_end ?_)
  refine iwp_reg (ils_cons rfl (iop_load_ra (cs := [.bool _, .int _ _, .int _ _, .slice _ _, .slice _ _, .int _ _, .int _ _, .int _ _, .int _ _]) rfl rfl (by decide) Try.underlying24 ag24 ti24 (by decide) (sv (d := .ref _ _) rfl) rfl (nle rfl) rfl) <|
    ils_cons rfl (iop_store (ds' := [.bool _, .int _ _, .int _ _, .slice _ _, .slice _ _, .int _ _, .int _ _, .int _ _, .int _ _]) rfl rfl ti24 (sv (d := .ref _ _) rfl) rfl (sv (d := .agg [.bool _, .int _ _, .int _ _, .slice _ _, .slice _ _, .int _ _, .int _ _, .int _ _, .int _ _]) rfl) rfl rfl rfl (nle rfl) rfl) <|
    ils_end ?_)
  refine iwp_ret ?_
  obtain rfl := Option.some.inj h
  refine ⟨.inr rfl, (.cons (resv_a rfl rfl Try.underlying24 ag24 ti24 (by decide) (nle rfl) rfl) .nil)⟩

set_option maxRecDepth 8000 in
set_option maxHeartbeats 2000000 in
theorem p_sennitref22_Begin (a0 : T_stid_State) (a1 : Int) (r : (T_stid_State × T_sennitref17_Verdict)) (h : sennitref22_Begin a0 a1 = some r) : PureAt Try.prog 11 [.agg [.bool a0.Odd, .int .i64 a0.Next, .int .i64 a0.Last, .slice false (a0.Live.map (eInt .i64).d), .slice false (a0.Cut.map (eInt .i64).d), .int .i64 a0.Mine, .int .i64 a0.Hers, .int .i64 a0.Heard, .int .i64 a0.Told], .int .i64 a1] (retD [.agg [.bool r.1.Odd, .int .i64 r.1.Next, .int .i64 r.1.Last, .slice false (r.1.Live.map (eInt .i64).d), .slice false (r.1.Cut.map (eInt .i64).d), .int .i64 r.1.Mine, .int .i64 r.1.Hers, .int .i64 r.1.Heard, .int .i64 r.1.Told], .agg [.int .i64 r.2.Scope, .int .i64 r.2.Code]]) := by
  refine pure_of_iwp (rs := [.agg [.bool r.1.Odd, .int .i64 r.1.Next, .int .i64 r.1.Last, .slice false (r.1.Live.map (eInt .i64).d), .slice false (r.1.Cut.map (eInt .i64).d), .int .i64 r.1.Mine, .int .i64 r.1.Hers, .int .i64 r.1.Heard, .int .i64 r.1.Told], .agg [.int .i64 r.2.Scope, .int .i64 r.2.Code]]) Try.func11 rfl Try.ntmps11 (nle rfl) rfl fun O hO => ?_
  show IWP _ _ _ _ ⟨[(0, .agg [.bool a0.Odd, .int .i64 a0.Next, .int .i64 a0.Last, .slice false (a0.Live.map (eInt .i64).d), .slice false (a0.Cut.map (eInt .i64).d), .int .i64 a0.Mine, .int .i64 a0.Hers, .int .i64 a0.Heard, .int .i64 a0.Told]), (1, .int .i64 a1)], []⟩ _
  unfold sennitref22_Begin at h
  refine iwp_reg (ils_cons rfl (iop_box' (cs := [.bool _, .int _ _, .int _ _, .slice _ _, .slice _ _, .int _ _, .int _ _, .int _ _, .int _ _]) 0 rfl rfl (by decide) rfl (sv (d := .agg [.bool _, .int _ _, .int _ _, .slice _ _, .slice _ _, .int _ _, .int _ _, .int _ _, .int _ _]) rfl) rfl rfl) <|
    ils_cons rfl (iop_allocS (cs := [.bool _, .int _ _, .int _ _, .nils, .nils, .int _ _, .int _ _, .int _ _, .int _ _]) (cs' := [.bool false, .int .i64 0, .int .i64 0, .slice false (([] : List Int).map (eInt .i64).d), .slice false (([] : List Int).map (eInt .i64).d), .int .i64 0, .int .i64 0, .int .i64 0, .int .i64 0]) 1 rfl rfl (by decide) rfl ti24 rfl rfl (.cons (.refl _) (.cons (.refl _) (.cons (.refl _) (.cons (.nils _) (.cons (.nils _) (.cons (.refl _) (.cons (.refl _) (.cons (.refl _) (.cons (.refl _) .nil)))))))))) <|
    ils_cons rfl (iop_allocS (cs := [.int _ _, .int _ _]) (cs' := [.int .i64 0, .int .i64 0]) 2 rfl rfl (by decide) rfl ti40 rfl rfl (.cons (.refl _) (.cons (.refl _) .nil))) <|
    ils_end ?_)
  obtain ⟨x1, hx1, h⟩ := bno_e h
  refine iwp_reg (ils_cons rfl (iop_load_ra (cs := [.bool _, .int _ _, .int _ _, .slice _ _, .slice _ _, .int _ _, .int _ _, .int _ _, .int _ _]) rfl rfl (by decide) Try.underlying24 ag24 ti24 (by decide) (sv (d := .ref _ _) rfl) rfl (nle rfl) rfl) <|
    ils_cons rfl (iop_call (r := .tuple [.int _ _, .int _ _]) rfl rfl (by decide) cl31 (.cons (sv (d := .agg [.bool _, .int _ _, .int _ _, .slice _ _, .slice _ _, .int _ _, .int _ _, .int _ _, .int _ _]) rfl) .nil) rfl (p_sennitref22_Count _ _ hx1)) <|
    ils_cons rfl (iop_move rfl rfl (by decide) (sv (d := .tuple [.int _ _, .int _ _]) rfl)) <|
    ils_cons rfl (iop_extract (d := .int _ _) rfl rfl (by decide) (sv (d := .tuple [.int _ _, .int _ _]) rfl) rfl) <|
    ils_cons rfl (iop_extract (d := .int _ _) rfl rfl (by decide) (sv (d := .tuple [.int _ _, .int _ _]) rfl) rfl) <|
    ils_cons rfl (iop_assign rfl rfl (by decide) (sv (d := .int _ _) rfl)) <|
    ils_cons rfl (iop_assign rfl rfl (by decide) (sv (d := .int _ _) rfl)) <|
    ils_end ?_)
  refine iwp_seq ?_
  refine iwp_block ?_
  obtain ⟨x2, hx2, h⟩ := bno_e h
  obtain ⟨x3, hx3, h⟩ := bnd_e h
  refine iwp_reg (ils_cons rfl (iop_load_ra (cs := [.bool _, .int _ _, .int _ _, .slice _ _, .slice _ _, .int _ _, .int _ _, .int _ _, .int _ _]) rfl rfl (by decide) Try.underlying24 ag24 ti24 (by decide) (sv (d := .ref _ _) rfl) rfl (nle rfl) rfl) <|
    ils_cons rfl (iop_call (r := .int _ _) rfl rfl (by decide) cl30 (.cons (sv (d := .agg [.bool _, .int _ _, .int _ _, .slice _ _, .slice _ _, .int _ _, .int _ _, .int _ _, .int _ _]) rfl) .nil) rfl (p_sennitref22_Check _ _ hx2)) <|
    ils_cons rfl (iop_cmpx rfl rfl (by decide) (sv (d := .int _ _) rfl) (sv (d := .int _ 0) rfl) rfl hx3) <|
    ils_cons rfl (iop_assign rfl rfl (by decide) (sv (d := .bool _) rfl)) <|
    ils_end ?_)
  refine iwp_cond (b := _) rfl (fun hc4 => ?_) (fun hc4 => ?_)
  ·
    replace h := bif_t h hc4
    refine iwp_reg (ils_cons rfl (iop_load_ra (cs := [.bool _, .int _ _, .int _ _, .slice _ _, .slice _ _, .int _ _, .int _ _, .int _ _, .int _ _]) rfl rfl (by decide) Try.underlying24 ag24 ti24 (by decide) (sv (d := .ref _ _) rfl) rfl (nle rfl) rfl) <|
      ils_cons rfl (iop_build_struct (cs := [.int _ _, .int _ _]) rfl rfl (by decide) Try.underlying40 ti40 pl40 rfl (.cons (sv (d := .int _ 3) rfl) (.cons (sv (d := .int _ 2) rfl) .nil)) rfl) <|
      ils_cons rfl (iop_store (ds' := [.bool _, .int _ _, .int _ _, .slice _ _, .slice _ _, .int _ _, .int _ _, .int _ _, .int _ _]) rfl rfl ti24 (sv (d := .ref _ _) rfl) rfl (sv (d := .agg [.bool _, .int _ _, .int _ _, .slice _ _, .slice _ _, .int _ _, .int _ _, .int _ _, .int _ _]) rfl) rfl rfl rfl (nle rfl) rfl) <|
      ils_cons rfl (iop_store (ds' := [.int _ _, .int _ _]) rfl rfl ti40 (sv (d := .ref _ _) rfl) rfl (sv (d := .agg [.int _ _, .int _ _]) rfl) rfl rfl rfl (nle rfl) rfl) <|
      ils_end ?_)
    refine iwp_ret ?_
    refine blockQ_r ?_
    refine thenQ_r ?_
    obtain rfl := Option.some.inj h
    refine ⟨.inr rfl, (.cons (resv_a rfl rfl Try.underlying24 ag24 ti24 (by decide) (nle rfl) rfl) (.cons (resv_a rfl rfl Try.underlying40 ag40 ti40 (by decide) (nle rfl) rfl) .nil))⟩
  ·
    replace h := bif_f h hc4
    obtain ⟨x5, hx5, h⟩ := bno_e h
    obtain ⟨x6, hx6, h⟩ := bno_e h
    obtain ⟨x7, hx7, h⟩ := bnd_e h
    obtain ⟨x8, hx8, h⟩ := bno_e h
    obtain ⟨x9, hx9, h⟩ := bnd_e h
    refine iwp_reg (ils_cons rfl (iop_load_ra (cs := [.bool _, .int _ _, .int _ _, .slice _ _, .slice _ _, .int _ _, .int _ _, .int _ _, .int _ _]) rfl rfl (by decide) Try.underlying24 ag24 ti24 (by decide) (sv (d := .ref _ _) rfl) rfl (nle rfl) rfl) <|
      ils_cons rfl (iop_move rfl rfl (by decide) (sv (d := .int _ _) rfl)) <|
      ils_cons rfl (iop_call (r := .bool _) rfl rfl (by decide) cl37 (.cons (sv (d := .agg [.bool _, .int _ _, .int _ _, .slice _ _, .slice _ _, .int _ _, .int _ _, .int _ _, .int _ _]) rfl) (.cons (sv (d := .int _ _) rfl) .nil)) rfl (p_sennitref22_Own _ _ _ hx5)) <|
      ils_cons rfl (iop_move rfl rfl (by decide) (sv (d := .bool _) rfl)) <|
      ils_guard rfl rfl (.one rfl) rfl (by decide) (fun hb => (iop_move rfl rfl (by decide) (sv (d := .int _ _) rfl))) <|
      ils_guard rfl rfl (.one rfl) rfl (by decide) (fun hb => (iop_call (r := .bool _) rfl rfl (by decide) cl38 (.cons (svc (d := .int _ _) rfl hb) (.cons (sv (d := .int _ 1) rfl) (.cons (sv (d := .int _ 1048576) rfl) .nil))) rfl (p_sennitref22_in _ _ _ _ (gd_t hx6 hb)))) <|
      ils_guard rfl rfl (.one rfl) rfl (by decide) (fun hb => (iop_not rfl rfl (by decide) (svc (d := .bool _) rfl hb))) <|
      ils_cons rfl (iop_orx rfl rfl (by decide) (sv (d := .bool _) rfl) rfl rfl hx7) <|
      ils_cons rfl (iop_move rfl rfl (by decide) (sv (d := .bool _) rfl)) <|
      ils_guard rfl rfl (.one rfl) rfl (by decide) (fun hb => (iop_fieldAddr_ref rfl rfl (by decide) Try.underlying24 rfl ti22 (by decide) (sv (d := .ref _ _) rfl) (off' := 3) rfl)) <|
      ils_guard rfl rfl (.one rfl) rfl (by decide) (fun hb => (iop_load_rs (d := .slice _ _) rfl rfl (by decide) Try.underlying22 ag22 ti22 (by decide) (svc (d := .ref _ _) rfl hb) rfl (nle rfl) rfl)) <|
      ils_guard rfl rfl (.one rfl) rfl (by decide) (fun hb => (iop_move rfl rfl (by decide) (sv (d := .int _ _) rfl))) <|
      ils_guard rfl rfl (.one rfl) rfl (by decide) (fun hb => (iop_call (r := .bool _) rfl rfl (by decide) cl39 (.cons (svc (d := .slice _ _) rfl hb) (.cons (svc (d := .int _ _) rfl hb) .nil)) rfl (p_sennitref22_Is _ _ _ (gd_t hx8 hb)))) <|
      ils_cons rfl (iop_orx rfl rfl (by decide) (sv (d := .bool _) rfl) rfl rfl hx9) <|
      ils_cons rfl (iop_assign rfl rfl (by decide) (sv (d := .bool _) rfl)) <|
      ils_end ?_)
    refine iwp_cond (b := _) rfl (fun hc10 => ?_) (fun hc10 => ?_)
    ·
      replace h := bif_t h hc10
      refine iwp_reg (ils_cons rfl (iop_load_ra (cs := [.bool _, .int _ _, .int _ _, .slice _ _, .slice _ _, .int _ _, .int _ _, .int _ _, .int _ _]) rfl rfl (by decide) Try.underlying24 ag24 ti24 (by decide) (sv (d := .ref _ _) rfl) rfl (nle rfl) rfl) <|
        ils_cons rfl (iop_build_struct (cs := [.int _ _, .int _ _]) rfl rfl (by decide) Try.underlying40 ti40 pl40 rfl (.cons (sv (d := .int _ 3) rfl) (.cons (sv (d := .int _ 1) rfl) .nil)) rfl) <|
        ils_cons rfl (iop_store (ds' := [.bool _, .int _ _, .int _ _, .slice _ _, .slice _ _, .int _ _, .int _ _, .int _ _, .int _ _]) rfl rfl ti24 (sv (d := .ref _ _) rfl) rfl (sv (d := .agg [.bool _, .int _ _, .int _ _, .slice _ _, .slice _ _, .int _ _, .int _ _, .int _ _, .int _ _]) rfl) rfl rfl rfl (nle rfl) rfl) <|
        ils_cons rfl (iop_store (ds' := [.int _ _, .int _ _]) rfl rfl ti40 (sv (d := .ref _ _) rfl) rfl (sv (d := .agg [.int _ _, .int _ _]) rfl) rfl rfl rfl (nle rfl) rfl) <|
        ils_end ?_)
      refine iwp_ret ?_
      refine blockQ_r ?_
      refine thenQ_r ?_
      obtain rfl := Option.some.inj h
      refine ⟨.inr rfl, (.cons (resv_a rfl rfl Try.underlying24 ag24 ti24 (by decide) (nle rfl) rfl) (.cons (resv_a rfl rfl Try.underlying40 ag40 ti40 (by decide) (nle rfl) rfl) .nil))⟩
    ·
      replace h := bif_f h hc10
      obtain ⟨x11, hx11, h⟩ := bnd_e h
      refine iwp_reg (ils_cons rfl (iop_move rfl rfl (by decide) (sv (d := .int _ _) rfl)) <|
        ils_cons rfl (iop_fieldAddr_ref rfl rfl (by decide) Try.underlying24 rfl ti3 (by decide) (sv (d := .ref _ _) rfl) (off' := 2) rfl) <|
        ils_cons rfl (iop_load_rs (d := .int _ _) rfl rfl (by decide) Try.underlying3 ag3 ti3 (by decide) (sv (d := .ref _ _) rfl) rfl (nle rfl) rfl) <|
        ils_cons rfl (iop_cmpx rfl rfl (by decide) (sv (d := .int _ _) rfl) (sv (d := .int _ _) rfl) rfl hx11) <|
        ils_cons rfl (iop_assign rfl rfl (by decide) (sv (d := .bool _) rfl)) <|
        ils_end ?_)
      refine iwp_cond (b := _) rfl (fun hc12 => ?_) (fun hc12 => ?_)
      ·
        replace h := bif_t h hc12
        refine iwp_reg (ils_cons rfl (iop_load_ra (cs := [.bool _, .int _ _, .int _ _, .slice _ _, .slice _ _, .int _ _, .int _ _, .int _ _, .int _ _]) rfl rfl (by decide) Try.underlying24 ag24 ti24 (by decide) (sv (d := .ref _ _) rfl) rfl (nle rfl) rfl) <|
          ils_cons rfl (iop_build_struct (cs := [.int _ _, .int _ _]) rfl rfl (by decide) Try.underlying40 ti40 pl40 rfl (.cons (sv (d := .int _ 3) rfl) (.cons (sv (d := .int _ 5) rfl) .nil)) rfl) <|
          ils_cons rfl (iop_store (ds' := [.bool _, .int _ _, .int _ _, .slice _ _, .slice _ _, .int _ _, .int _ _, .int _ _, .int _ _]) rfl rfl ti24 (sv (d := .ref _ _) rfl) rfl (sv (d := .agg [.bool _, .int _ _, .int _ _, .slice _ _, .slice _ _, .int _ _, .int _ _, .int _ _, .int _ _]) rfl) rfl rfl rfl (nle rfl) rfl) <|
          ils_cons rfl (iop_store (ds' := [.int _ _, .int _ _]) rfl rfl ti40 (sv (d := .ref _ _) rfl) rfl (sv (d := .agg [.int _ _, .int _ _]) rfl) rfl rfl rfl (nle rfl) rfl) <|
          ils_end ?_)
        refine iwp_ret ?_
        refine blockQ_r ?_
        refine thenQ_r ?_
        obtain rfl := Option.some.inj h
        refine ⟨.inr rfl, (.cons (resv_a rfl rfl Try.underlying24 ag24 ti24 (by decide) (nle rfl) rfl) (.cons (resv_a rfl rfl Try.underlying40 ag40 ti40 (by decide) (nle rfl) rfl) .nil))⟩
      ·
        replace h := bif_f h hc12
        refine iwp_skip ?_
        refine blockQ_n ?_
        refine thenQ_n ?_
        refine iwp_reg (ils_cons rfl (iop_move rfl rfl (by decide) (sv (d := .int _ _) rfl)) <|
          ils_cons rfl (iop_fieldAddr_ref rfl rfl (by decide) Try.underlying24 rfl ti3 (by decide) (sv (d := .ref _ _) rfl) (off' := 2) rfl) <|
          ils_cons rfl (iop_store (ds' := [.bool _, .int _ _, .int _ _, .slice _ _, .slice _ _, .int _ _, .int _ _, .int _ _, .int _ _]) rfl rfl ti3 (sv (d := .ref _ _) rfl) rfl (sv (d := .int _ _) rfl) rfl rfl rfl (nle rfl) rfl) <|
          ils_end ?_)
        refine iwp_seq ?_
        obtain ⟨x13, hx13, h⟩ := bnd_e h
        refine iwp_reg (ils_cons rfl (iop_fieldAddr_ref rfl rfl (by decide) Try.underlying24 rfl ti3 (by decide) (sv (d := .ref _ _) rfl) (off' := 8) rfl) <|
          ils_cons rfl (iop_load_rs (d := .int _ _) rfl rfl (by decide) Try.underlying3 ag3 ti3 (by decide) (sv (d := .ref _ _) rfl) rfl (nle rfl) rfl) <|
          ils_cons rfl (iop_cmpx rfl rfl (by decide) (sv (d := .int _ _) rfl) (sv (d := .int _ 0) rfl) rfl hx13) <|
          ils_end ?_)
        refine iwp_cond (b := _) rfl (fun hc14 => ?_) (fun hc14 => ?_)
        ·
          replace h := bif_t h hc14
          refine iwp_reg (ils_cons rfl (iop_load_ra (cs := [.bool _, .int _ _, .int _ _, .slice _ _, .slice _ _, .int _ _, .int _ _, .int _ _, .int _ _]) rfl rfl (by decide) Try.underlying24 ag24 ti24 (by decide) (sv (d := .ref _ _) rfl) rfl (nle rfl) rfl) <|
            ils_cons rfl (iop_build_struct (cs := [.int _ _, .int _ _]) rfl rfl (by decide) Try.underlying40 ti40 pl40 rfl (.cons (sv (d := .int _ 1) rfl) .nil) rfl) <|
            ils_cons rfl (iop_store (ds' := [.bool _, .int _ _, .int _ _, .slice _ _, .slice _ _, .int _ _, .int _ _, .int _ _, .int _ _]) rfl rfl ti24 (sv (d := .ref _ _) rfl) rfl (sv (d := .agg [.bool _, .int _ _, .int _ _, .slice _ _, .slice _ _, .int _ _, .int _ _, .int _ _, .int _ _]) rfl) rfl rfl rfl (nle rfl) rfl) <|
            ils_cons rfl (iop_store (ds' := [.int _ _, .int _ _]) rfl rfl ti40 (sv (d := .ref _ _) rfl) rfl (sv (d := .agg [.int _ _, .int _ _]) rfl) rfl rfl rfl (nle rfl) rfl) <|
            ils_end ?_)
          refine iwp_ret ?_
          refine thenQ_r ?_
          obtain rfl := Option.some.inj h
          refine ⟨.inr rfl, (.cons (resv_a rfl rfl Try.underlying24 ag24 ti24 (by decide) (nle rfl) rfl) (.cons (resv_a rfl rfl Try.underlying40 ag40 ti40 (by decide) (nle rfl) rfl) .nil))⟩
        ·
          replace h := bif_f h hc14
          refine iwp_skip ?_
          refine thenQ_n ?_
          refine iwp_seq ?_
          obtain ⟨x15, hx15, h⟩ := bnd_e h
          refine iwp_reg (ils_cons rfl (iop_move rfl rfl (by decide) (sv (d := .int _ _) rfl)) <|
            ils_cons rfl (iop_fieldAddr_ref rfl rfl (by decide) Try.underlying24 rfl ti3 (by decide) (sv (d := .ref _ _) rfl) (off' := 6) rfl) <|
            ils_cons rfl (iop_load_rs (d := .int _ _) rfl rfl (by decide) Try.underlying3 ag3 ti3 (by decide) (sv (d := .ref _ _) rfl) rfl (nle rfl) rfl) <|
            ils_cons rfl (iop_cmpx rfl rfl (by decide) (sv (d := .int _ _) rfl) (sv (d := .int _ _) rfl) rfl hx15) <|
            ils_end ?_)
          refine iwp_cond (b := _) rfl (fun hc16 => ?_) (fun hc16 => ?_)
          ·
            replace h := bif_t h hc16
            obtain ⟨x17, hx17, h⟩ := bno_e h
            refine iwp_reg (ils_cons rfl (iop_load_ra (cs := [.bool _, .int _ _, .int _ _, .slice _ _, .slice _ _, .int _ _, .int _ _, .int _ _, .int _ _]) rfl rfl (by decide) Try.underlying24 ag24 ti24 (by decide) (sv (d := .ref _ _) rfl) rfl (nle rfl) rfl) <|
              ils_cons rfl (iop_move rfl rfl (by decide) (sv (d := .int _ _) rfl)) <|
              ils_cons rfl (iop_call (r := .agg [.bool _, .int _ _, .int _ _, .slice _ _, .slice _ _, .int _ _, .int _ _, .int _ _, .int _ _]) rfl rfl (by decide) cl40 (.cons (sv (d := .agg [.bool _, .int _ _, .int _ _, .slice _ _, .slice _ _, .int _ _, .int _ _, .int _ _, .int _ _]) rfl) (.cons (sv (d := .int _ _) rfl) .nil)) rfl (p_sennitref22_cutOff _ _ _ hx17)) <|
              ils_cons rfl (iop_build_struct (cs := [.int _ _, .int _ _]) rfl rfl (by decide) Try.underlying40 ti40 pl40 rfl (.cons (sv (d := .int _ 2) rfl) (.cons (sv (d := .int _ 7) rfl) .nil)) rfl) <|
              ils_cons rfl (iop_store (ds' := [.bool _, .int _ _, .int _ _, .slice _ _, .slice _ _, .int _ _, .int _ _, .int _ _, .int _ _]) rfl rfl ti24 (sv (d := .ref _ _) rfl) rfl (sv (d := .agg [.bool _, .int _ _, .int _ _, .slice _ _, .slice _ _, .int _ _, .int _ _, .int _ _, .int _ _]) rfl) rfl rfl rfl (nle rfl) rfl) <|
              ils_cons rfl (iop_store (ds' := [.int _ _, .int _ _]) rfl rfl ti40 (sv (d := .ref _ _) rfl) rfl (sv (d := .agg [.int _ _, .int _ _]) rfl) rfl rfl rfl (nle rfl) rfl) <|
              ils_end ?_)
            refine iwp_ret ?_
            refine thenQ_r ?_
            obtain rfl := Option.some.inj h
            refine ⟨.inr rfl, (.cons (resv_a rfl rfl Try.underlying24 ag24 ti24 (by decide) (nle rfl) rfl) (.cons (resv_a rfl rfl Try.underlying40 ag40 ti40 (by decide) (nle rfl) rfl) .nil))⟩
          ·
            replace h := bif_f h hc16
            refine iwp_skip ?_
            refine thenQ_n ?_
            obtain ⟨x18, hx18, h⟩ := bno_e h
            refine iwp_reg (ils_cons rfl (iop_load_ra (cs := [.bool _, .int _ _, .int _ _, .slice _ _, .slice _ _, .int _ _, .int _ _, .int _ _, .int _ _]) rfl rfl (by decide) Try.underlying24 ag24 ti24 (by decide) (sv (d := .ref _ _) rfl) rfl (nle rfl) rfl) <|
              ils_cons rfl (iop_move rfl rfl (by decide) (sv (d := .int _ _) rfl)) <|
              ils_cons rfl (iop_call (r := .agg [.bool _, .int _ _, .int _ _, .slice _ _, .slice _ _, .int _ _, .int _ _, .int _ _, .int _ _]) rfl rfl (by decide) cl32 (.cons (sv (d := .agg [.bool _, .int _ _, .int _ _, .slice _ _, .slice _ _, .int _ _, .int _ _, .int _ _, .int _ _]) rfl) (.cons (sv (d := .int _ _) rfl) .nil)) rfl (p_sennitref22_add _ _ _ hx18)) <|
              ils_cons rfl (iop_build_struct (cs := [.int _ _, .int _ _]) rfl rfl (by decide) Try.underlying40 ti40 pl40 rfl .nil rfl) <|
              ils_cons rfl (iop_store (ds' := [.bool _, .int _ _, .int _ _, .slice _ _, .slice _ _, .int _ _, .int _ _, .int _ _, .int _ _]) rfl rfl ti24 (sv (d := .ref _ _) rfl) rfl (sv (d := .agg [.bool _, .int _ _, .int _ _, .slice _ _, .slice _ _, .int _ _, .int _ _, .int _ _, .int _ _]) rfl) rfl rfl rfl (nle rfl) rfl) <|
              ils_cons rfl (iop_store (ds' := [.int _ _, .int _ _]) rfl rfl ti40 (sv (d := .ref _ _) rfl) rfl (sv (d := .agg [.int _ _, .int _ _]) rfl) rfl rfl rfl (nle rfl) rfl) <|
              ils_end ?_)
            refine iwp_ret ?_
            obtain rfl := Option.some.inj h
            refine ⟨.inr rfl, (.cons (resv_a rfl rfl Try.underlying24 ag24 ti24 (by decide) (nle rfl) rfl) (.cons (resv_a rfl rfl Try.underlying40 ag40 ti40 (by decide) (nle rfl) rfl) .nil))⟩

set_option maxRecDepth 8000 in
set_option maxHeartbeats 2000000 in
theorem p_sennitref22_off (a0 : (List Int)) (a1 : Int) (r : (List Int)) (h : sennitref22_off a0 a1 = some r) : PureAt Try.prog 43 [.slice false (a0.map (eInt .i64).d), .int .i64 a1] (.slice false (r.map (eInt .i64).d)) := by
  refine pure_of_iwp (rs := [.slice false (r.map (eInt .i64).d)]) Try.func43 rfl Try.ntmps43 (nle rfl) rfl fun O hO => ?_
  show IWP _ _ _ _ ⟨[(0, .slice false (a0.map (eInt .i64).d)), (1, .int .i64 a1)], []⟩ _
  unfold sennitref22_off at h
  refine iwp_reg (ils_cons rfl (iop_assign rfl rfl (by decide) (sv (d := .nils) rfl)) <|
    ils_end ?_)
  refine iwp_reg (ils_cons rfl (iop_assign rfl rfl (by decide) (sv (d := .nils) rfl)) <|
    ils_end ?_)
  refine iwp_seq ?_
  refine iwp_reg (ils_cons rfl (iop_assign rfl rfl (by decide) (sv (d := .int _ 0) rfl)) <|
    ils_end ?_)
  refine iwp_block ?_
  refine iwp_loopP (α := Nat × (List Int) × Int) (fun z => ⟨[(0, .slice false (a0.map (eInt .i64).d)), (1, .int .i64 a1), (5, .gsl 21 (eInt .i64).sz (z.2.1.map (eInt .i64).d)), (6, .int .i64 z.2.2)], [(21, .tail 3 (eInt .i64).sz z.2.1.length)]⟩) (fun z => sennitref22_off_L0 a0 a1 z.1 z.2.1 z.2.2 = some r) (fun z => z.1) (fuel, ([] : (List Int)), 0) (fun i => if i = 21 then 71 else i) ⟨(.cons (.same rfl rfl) (.cons (.same rfl rfl) (.cons (.nils rfl) (.cons (.same rfl rfl) .nil)))), (.cons (.nils rfl) .nil), nd_of [71] rfl (by decide), (fun i hi => by first | rfl | (show (if _ then _ else _) = _; (repeat' split) <;> omega))⟩ ?_ ?_
  · exact h
  ·
    rintro ⟨n0, v10, v11⟩ h
    cases n0 with
    | zero => exact absurd h (by unfold sennitref22_off_L0; exact nofun)
    | succ n0 =>
      unfold sennitref22_off_L0 at h
      refine iwp_seq ?_
      obtain ⟨x21, hx21, h⟩ := bnd_e h
      refine iwp_reg (ils_cons rfl (iop_move rfl rfl (by decide) (sv (d := .int _ _) rfl)) <|
        ils_cons rfl (iop_move rfl rfl (by decide) (sv (d := .slice _ _) rfl)) <|
        ils_cons rfl (iop_lenT (eInt .i64) (l := a0) rfl rfl (by decide) Try.underlying22 (sv (d := .slice _ _) rfl)) <|
        ils_cons rfl (iop_cmpx rfl rfl (by decide) (sv (d := .int _ _) rfl) (sv (d := .int _ _) rfl) rfl hx21) <|
        ils_end ?_)
      refine iwp_cond (b := _) rfl (fun hc22 => ?_) (fun hc22 => ?_)
      ·
        replace h := bif_t h hc22
        refine iwp_skip ?_
        refine thenQ_n ?_
        refine iwp_seq ?_
        refine iwp_block ?_
        obtain ⟨x23, hx23, h⟩ := bno_e h
        obtain ⟨x24, hx24, h⟩ := bnd_e h
        refine iwp_reg (ils_cons rfl (iop_move rfl rfl (by decide) (sv (d := .slice _ _) rfl)) <|
          ils_cons rfl (iop_move rfl rfl (by decide) (sv (d := .int _ _) rfl)) <|
          ils_cons rfl (iop_idxT (eInt .i64) (cs := [.int _ _]) rfl rfl (by decide) Try.underlying22 ti3 (sv (d := .slice _ _) rfl) (sv (d := .int _ _) rfl) hx23 rfl rfl) <|
          ils_cons rfl (iop_load_fs rfl rfl (by decide) Try.underlying3 ag3 ti3 (by decide) (sv (d := .fptr [.int _ _]) rfl) (nle rfl)) <|
          ils_cons rfl (iop_move rfl rfl (by decide) (sv (d := .int _ _) rfl)) <|
          ils_cons rfl (iop_cmpx rfl rfl (by decide) (sv (d := .int _ _) rfl) (sv (d := .int _ _) rfl) rfl hx24) <|
          ils_end ?_)
        refine iwp_cond (b := _) rfl (fun hc25 => ?_) (fun hc25 => ?_)
        ·
          replace h := bif_t h hc25
          obtain ⟨x26, hx26, h⟩ := bno_e h
          obtain ⟨x27, hx27, h⟩ := bno_e h
          refine iwp_region (ils_cons rfl (iop_move rfl rfl (by decide) (sv (d := .gsl _ _ _) rfl)) <|
            ils_cons rfl (iop_move rfl rfl (by decide) (sv (d := .slice _ _) rfl)) <|
            ils_cons rfl (iop_move rfl rfl (by decide) (sv (d := .int _ _) rfl)) <|
            ils_cons rfl (iop_idxT (eInt .i64) (cs := [.int _ _]) rfl rfl (by decide) Try.underlying22 ti3 (sv (d := .slice _ _) rfl) (sv (d := .int _ _) rfl) hx26 rfl rfl) <|
            ils_cons rfl (iop_load_fs rfl rfl (by decide) Try.underlying3 ag3 ti3 (by decide) (sv (d := .fptr [.int _ _]) rfl) (nle rfl)) <|
            ils_cons rfl (iop_bsT (eInt .i64) ([x26] : (List Int)) 22 rfl rfl (by decide) Try.underlying22 ti3 rfl (.cons (sv (d := .int _ _) rfl) .nil) rfl rfl (by decide)) <|
            ils_cons rfl (iop_appT (eInt .i64) 23 rfl rfl (by decide) Try.underlying22 ti3 rfl rfl rfl rfl (svg rfl) hx27) <|
            ils_cons rfl (iop_assign rfl rfl (by decide) (sv (d := .gsl _ _ _) rfl)) <|
            ils_nil ?_)
          refine blockQ_n ?_
          refine thenQ_n ?_
          obtain ⟨x28, hx28, h⟩ := bnd_e h
          refine iwp_region (ils_cons rfl (iop_move rfl rfl (by decide) (sv (d := .int _ _) rfl)) <|
            ils_cons rfl (iop_intx rfl rfl (by decide) (sv (d := .int _ _) rfl) (sv (d := .int _ 1) rfl) rfl hx28) <|
            ils_cons rfl (iop_assign rfl rfl (by decide) (sv (d := .int _ _) rfl)) <|
            ils_nil ?_)
          refine thenQ_n ⟨(n0, x27, x28), (fun i => if i = 21 then 23 else i), ⟨(.cons (.same rfl rfl) (.cons (.same rfl rfl) (.cons (.same rfl rfl) (.cons (.same rfl rfl) .nil)))), (.cons (.tail rfl) .nil), nd_of [23] rfl (by decide), (fun i hi => by first | rfl | (show (if _ then _ else _) = _; (repeat' split) <;> omega))⟩, ?_, ?_⟩
          exact h
          exact Nat.lt_succ_self _
        ·
          replace h := bif_f h hc25
          refine iwp_skip ?_
          refine blockQ_n ?_
          refine thenQ_n ?_
          obtain ⟨x29, hx29, h⟩ := bnd_e h
          refine iwp_region (ils_cons rfl (iop_move rfl rfl (by decide) (sv (d := .int _ _) rfl)) <|
            ils_cons rfl (iop_intx rfl rfl (by decide) (sv (d := .int _ _) rfl) (sv (d := .int _ 1) rfl) rfl hx29) <|
            ils_cons rfl (iop_assign rfl rfl (by decide) (sv (d := .int _ _) rfl)) <|
            ils_nil ?_)
          refine thenQ_n ⟨(n0, v10, x29), (fun i => i), ⟨(.cons (.same rfl rfl) (.cons (.same rfl rfl) (.cons (.same rfl rfl) (.cons (.same rfl rfl) .nil)))), (.cons (.tail rfl) .nil), nd_of [21] rfl (by decide), (fun i hi => by first | rfl | (show (if _ then _ else _) = _; (repeat' split) <;> omega))⟩, ?_, ?_⟩
          exact h
          exact Nat.lt_succ_self _
      ·
        replace h := bif_f h hc22
        refine iwp_exit ?_
        refine thenQ_e ?_
        refine thenQ_e ?_
        refine blockQ_e ?_
        refine thenQ_n ?_
        refine iwp_reg (ils_cons rfl (iop_move rfl rfl (by decide) (sv (d := .gsl _ _ _) rfl)) <|
          ils_cons rfl (iop_assign rfl rfl (by decide) (sv (d := .gsl _ _ _) rfl)) <|
          ils_end ?_)
        refine iwp_ret ?_
        obtain rfl := Option.some.inj h
        refine ⟨.inr rfl, (.cons (svg_of rfl rfl) .nil)⟩

set_option maxRecDepth 8000 in
set_option maxHeartbeats 2000000 in
theorem p_sennitref22_End (a0 : T_stid_State) (a1 : Int) (a2 : Bool) (r : T_stid_State) (h : sennitref22_End a0 a1 a2 = some r) : PureAt Try.prog 13 [.agg [.bool a0.Odd, .int .i64 a0.Next, .int .i64 a0.Last, .slice false (a0.Live.map (eInt .i64).d), .slice false (a0.Cut.map (eInt .i64).d), .int .i64 a0.Mine, .int .i64 a0.Hers, .int .i64 a0.Heard, .int .i64 a0.Told], .int .i64 a1, .bool a2] (.agg [.bool r.Odd, .int .i64 r.Next, .int .i64 r.Last, .slice false (r.Live.map (eInt .i64).d), .slice false (r.Cut.map (eInt .i64).d), .int .i64 r.Mine, .int .i64 r.Hers, .int .i64 r.Heard, .int .i64 r.Told]) := by
  refine pure_of_iwp (rs := [.agg [.bool r.Odd, .int .i64 r.Next, .int .i64 r.Last, .slice false (r.Live.map (eInt .i64).d), .slice false (r.Cut.map (eInt .i64).d), .int .i64 r.Mine, .int .i64 r.Hers, .int .i64 r.Heard, .int .i64 r.Told]]) Try.func13 rfl Try.ntmps13 (nle rfl) rfl fun O hO => ?_
  show IWP _ _ _ _ ⟨[(0, .agg [.bool a0.Odd, .int .i64 a0.Next, .int .i64 a0.Last, .slice false (a0.Live.map (eInt .i64).d), .slice false (a0.Cut.map (eInt .i64).d), .int .i64 a0.Mine, .int .i64 a0.Hers, .int .i64 a0.Heard, .int .i64 a0.Told]), (1, .int .i64 a1), (2, .bool a2)], []⟩ _
  unfold sennitref22_End at h
  refine iwp_reg (ils_cons rfl (iop_box' (cs := [.bool _, .int _ _, .int _ _, .slice _ _, .slice _ _, .int _ _, .int _ _, .int _ _, .int _ _]) 0 rfl rfl (by decide) rfl (sv (d := .agg [.bool _, .int _ _, .int _ _, .slice _ _, .slice _ _, .int _ _, .int _ _, .int _ _, .int _ _]) rfl) rfl rfl) <|
    ils_cons rfl (iop_allocS (cs := [.bool _, .int _ _, .int _ _, .nils, .nils, .int _ _, .int _ _, .int _ _, .int _ _]) (cs' := [.bool false, .int .i64 0, .int .i64 0, .slice false (([] : List Int).map (eInt .i64).d), .slice false (([] : List Int).map (eInt .i64).d), .int .i64 0, .int .i64 0, .int .i64 0, .int .i64 0]) 1 rfl rfl (by decide) rfl ti24 rfl rfl (.cons (.refl _) (.cons (.refl _) (.cons (.refl _) (.cons (.nils _) (.cons (.nils _) (.cons (.refl _) (.cons (.refl _) (.cons (.refl _) (.cons (.refl _) .nil)))))))))) <|
    ils_end ?_)
  refine iwp_seq ?_
  obtain ⟨x1, hx1, h⟩ := bno_e h
  obtain ⟨x2, hx2, h⟩ := bnd_e h
  obtain ⟨x3, hx3, h⟩ := bno_e h
  obtain ⟨x4, hx4, h⟩ := bnd_e h
  refine iwp_reg (ils_cons rfl (iop_load_ra (cs := [.bool _, .int _ _, .int _ _, .slice _ _, .slice _ _, .int _ _, .int _ _, .int _ _, .int _ _]) rfl rfl (by decide) Try.underlying24 ag24 ti24 (by decide) (sv (d := .ref _ _) rfl) rfl (nle rfl) rfl) <|
    ils_cons rfl (iop_call (r := .int _ _) rfl rfl (by decide) cl30 (.cons (sv (d := .agg [.bool _, .int _ _, .int _ _, .slice _ _, .slice _ _, .int _ _, .int _ _, .int _ _, .int _ _]) rfl) .nil) rfl (p_sennitref22_Check _ _ hx1)) <|
    ils_cons rfl (iop_cmpx rfl rfl (by decide) (sv (d := .int _ _) rfl) (sv (d := .int _ 0) rfl) rfl hx2) <|
    ils_cons rfl (iop_move rfl rfl (by decide) (sv (d := .bool _) rfl)) <|
    ils_guard rfl rfl (.one rfl) rfl (by decide) (fun hb => (iop_fieldAddr_ref rfl rfl (by decide) Try.underlying24 rfl ti22 (by decide) (sv (d := .ref _ _) rfl) (off' := 3) rfl)) <|
    ils_guard rfl rfl (.one rfl) rfl (by decide) (fun hb => (iop_load_rs (d := .slice _ _) rfl rfl (by decide) Try.underlying22 ag22 ti22 (by decide) (svc (d := .ref _ _) rfl hb) rfl (nle rfl) rfl)) <|
    ils_guard rfl rfl (.one rfl) rfl (by decide) (fun hb => (iop_move rfl rfl (by decide) (sv (d := .int _ _) rfl))) <|
    ils_guard rfl rfl (.one rfl) rfl (by decide) (fun hb => (iop_call (r := .bool _) rfl rfl (by decide) cl39 (.cons (svc (d := .slice _ _) rfl hb) (.cons (svc (d := .int _ _) rfl hb) .nil)) rfl (p_sennitref22_Is _ _ _ (gd_t hx3 hb)))) <|
    ils_guard rfl rfl (.one rfl) rfl (by decide) (fun hb => (iop_not rfl rfl (by decide) (svc (d := .bool _) rfl hb))) <|
    ils_cons rfl (iop_orx rfl rfl (by decide) (sv (d := .bool _) rfl) rfl rfl hx4) <|
    ils_end ?_)
  refine iwp_cond (b := _) rfl (fun hc5 => ?_) (fun hc5 => ?_)
  ·
    replace h := bif_t h hc5
    refine iwp_reg (ils_cons rfl (iop_load_ra (cs := [.bool _, .int _ _, .int _ _, .slice _ _, .slice _ _, .int _ _, .int _ _, .int _ _, .int _ _]) rfl rfl (by decide) Try.underlying24 ag24 ti24 (by decide) (sv (d := .ref _ _) rfl) rfl (nle rfl) rfl) <|
      ils_cons rfl (iop_store (ds' := [.bool _, .int _ _, .int _ _, .slice _ _, .slice _ _, .int _ _, .int _ _, .int _ _, .int _ _]) rfl rfl ti24 (sv (d := .ref _ _) rfl) rfl (sv (d := .agg [.bool _, .int _ _, .int _ _, .slice _ _, .slice _ _, .int _ _, .int _ _, .int _ _, .int _ _]) rfl) rfl rfl rfl (nle rfl) rfl) <|
      ils_end ?_)
    refine iwp_ret ?_
    refine thenQ_r ?_
    obtain rfl := Option.some.inj h
    refine ⟨.inr rfl, (.cons (resv_a rfl rfl Try.underlying24 ag24 ti24 (by decide) (nle rfl) rfl) .nil)⟩
  ·
    replace h := bif_f h hc5
    refine iwp_skip ?_
    refine thenQ_n ?_
    obtain ⟨x6, hx6, h⟩ := bno_e h
    refine iwp_reg (ils_cons rfl (iop_fieldAddr_ref rfl rfl (by decide) Try.underlying24 rfl ti22 (by decide) (sv (d := .ref _ _) rfl) (off' := 3) rfl) <|
      ils_cons rfl (iop_load_rs (d := .slice _ _) rfl rfl (by decide) Try.underlying22 ag22 ti22 (by decide) (sv (d := .ref _ _) rfl) rfl (nle rfl) rfl) <|
      ils_cons rfl (iop_move rfl rfl (by decide) (sv (d := .int _ _) rfl)) <|
      ils_cons rfl (iop_call (r := .slice _ _) rfl rfl (by decide) cl43 (.cons (sv (d := .slice _ _) rfl) (.cons (sv (d := .int _ _) rfl) .nil)) rfl (p_sennitref22_off _ _ _ hx6)) <|
      ils_cons rfl (iop_fieldAddr_ref rfl rfl (by decide) Try.underlying24 rfl ti22 (by decide) (sv (d := .ref _ _) rfl) (off' := 3) rfl) <|
      ils_cons rfl (iop_store (ds' := [.bool _, .int _ _, .int _ _, .slice _ _, .slice _ _, .int _ _, .int _ _, .int _ _, .int _ _]) rfl rfl ti22 (sv (d := .ref _ _) rfl) rfl (sv (d := .slice _ _) rfl) rfl rfl rfl (nle rfl) rfl) <|
      ils_end ?_)
    refine iwp_seq ?_
    refine iwp_reg (ils_cons rfl (iop_move rfl rfl (by decide) (sv (d := .bool _) rfl)) <|
      ils_end ?_)
    refine iwp_cond (b := _) rfl (fun hc7 => ?_) (fun hc7 => ?_)
    ·
      replace h := bif_t h hc7
      obtain ⟨x8, hx8, h⟩ := bno_e h
      refine iwp_reg (ils_cons rfl (iop_load_ra (cs := [.bool _, .int _ _, .int _ _, .slice _ _, .slice _ _, .int _ _, .int _ _, .int _ _, .int _ _]) rfl rfl (by decide) Try.underlying24 ag24 ti24 (by decide) (sv (d := .ref _ _) rfl) rfl (nle rfl) rfl) <|
        ils_cons rfl (iop_move rfl rfl (by decide) (sv (d := .int _ _) rfl)) <|
        ils_cons rfl (iop_call (r := .agg [.bool _, .int _ _, .int _ _, .slice _ _, .slice _ _, .int _ _, .int _ _, .int _ _, .int _ _]) rfl rfl (by decide) cl40 (.cons (sv (d := .agg [.bool _, .int _ _, .int _ _, .slice _ _, .slice _ _, .int _ _, .int _ _, .int _ _, .int _ _]) rfl) (.cons (sv (d := .int _ _) rfl) .nil)) rfl (p_sennitref22_cutOff _ _ _ hx8)) <|
        ils_cons rfl (iop_store (ds' := [.bool _, .int _ _, .int _ _, .slice _ _, .slice _ _, .int _ _, .int _ _, .int _ _, .int _ _]) rfl rfl ti24 (sv (d := .ref _ _) rfl) rfl (sv (d := .agg [.bool _, .int _ _, .int _ _, .slice _ _, .slice _ _, .int _ _, .int _ _, .int _ _, .int _ _]) rfl) rfl rfl rfl (nle rfl) rfl) <|
        ils_end ?_)
      refine iwp_ret ?_
      refine thenQ_r ?_
      obtain rfl := Option.some.inj h
      refine ⟨.inr rfl, (.cons (resv_a rfl rfl Try.underlying24 ag24 ti24 (by decide) (nle rfl) rfl) .nil)⟩
    ·
      replace h := bif_f h hc7
      refine iwp_skip ?_
      refine thenQ_n ?_
      refine iwp_reg (ils_cons rfl (iop_load_ra (cs := [.bool _, .int _ _, .int _ _, .slice _ _, .slice _ _, .int _ _, .int _ _, .int _ _, .int _ _]) rfl rfl (by decide) Try.underlying24 ag24 ti24 (by decide) (sv (d := .ref _ _) rfl) rfl (nle rfl) rfl) <|
        ils_cons rfl (iop_store (ds' := [.bool _, .int _ _, .int _ _, .slice _ _, .slice _ _, .int _ _, .int _ _, .int _ _, .int _ _]) rfl rfl ti24 (sv (d := .ref _ _) rfl) rfl (sv (d := .agg [.bool _, .int _ _, .int _ _, .slice _ _, .slice _ _, .int _ _, .int _ _, .int _ _, .int _ _]) rfl) rfl rfl rfl (nle rfl) rfl) <|
        ils_end ?_)
      refine iwp_ret ?_
      obtain rfl := Option.some.inj h
      refine ⟨.inr rfl, (.cons (resv_a rfl rfl Try.underlying24 ag24 ti24 (by decide) (nle rfl) rfl) .nil)⟩
end Go.Proofs.Ytalalambgppmpaa
