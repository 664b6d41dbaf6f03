/-
  A part of the proof: rules and plain facts. No condition.
-/
import Derived.Test.YtalalambgppmpaaProg
import Derived.KernelRfl
import Derived.Test.YtalalambgppmpaaIlTm
import Derived.Test.YtalalambgppmpaaIlA22cD
set_option linter.all false
set_option linter.unusedSimpArgs false
set_option linter.unusedVariables false
open Go Go.IL Go.Fn Go.Proofs
namespace Go.Proofs.Ytalalambgppmpaa
theorem ti3 : TI Try.prog 3 (some (.int .i64 0)) 1 8 := by unfold TI; kernel_rfl
theorem ti4 : TI Try.prog 4 (some (.bool false)) 1 1 := by unfold TI; kernel_rfl
theorem ti22 : TI Try.prog 22 (some (.slice none 0 0)) 1 24 := by unfold TI; kernel_rfl
theorem ti27 : TI Try.prog 27 (some (.agg #[.bool false, .int .i64 0, .int .i64 0, .slice none 0 0, .slice none 0 0, .int .i64 0, .int .i64 0, .int .i64 0, .int .i64 0])) 9 104 := by unfold TI; kernel_rfl
theorem ti36 : TI Try.prog 36 (some (.agg #[.int .i64 0, .int .u32 0])) 2 16 := by unfold TI; kernel_rfl
theorem ag3 : aggOf Try.prog 3 = false := by kernel_rfl
theorem ag4 : aggOf Try.prog 4 = false := by kernel_rfl
theorem ag22 : aggOf Try.prog 22 = false := by kernel_rfl
theorem ag27 : aggOf Try.prog 27 = true := by kernel_rfl
theorem ag36 : aggOf Try.prog 36 = true := by kernel_rfl
theorem ex59 : ExternAt Try.prog 59 (Extern.SlicesOverlaps.overlaps #[22, 22] #[4]) := ⟨Try.f59, Try.func59, by kernel_rfl, by kernel_rfl, by kernel_rfl, by kernel_rfl⟩
theorem pl27 : ∀ w, (Array.mapM (m := Sem) (fun (f : Field) => Functor.map (Prod.mk f.offset) (sizeOf f.type)) (fieldsOf Try.prog 27)).run Try.prog w = .ok #[(0, 1), (1, 1), (2, 1), (3, 1), (4, 1), (5, 1), (6, 1), (7, 1), (8, 1)] w := fun w => by kernel_rfl
theorem pl36 : ∀ w, (Array.mapM (m := Sem) (fun (f : Field) => Functor.map (Prod.mk f.offset) (sizeOf f.type)) (fieldsOf Try.prog 36)).run Try.prog w = .ok #[(0, 1), (1, 1)] w := fun w => by kernel_rfl
theorem cl24 : Callable Try.prog 24 := ⟨Try.f24, Try.func24, rfl, rfl⟩
theorem cl25 : Callable Try.prog 25 := ⟨Try.f25, Try.func25, rfl, rfl⟩
theorem cl26 : Callable Try.prog 26 := ⟨Try.f26, Try.func26, rfl, rfl⟩
theorem cl28 : Callable Try.prog 28 := ⟨Try.f28, Try.func28, rfl, rfl⟩
theorem cl29 : Callable Try.prog 29 := ⟨Try.f29, Try.func29, rfl, rfl⟩
theorem cl33 : Callable Try.prog 33 := ⟨Try.f33, Try.func33, rfl, rfl⟩
theorem cl34 : Callable Try.prog 34 := ⟨Try.f34, Try.func34, rfl, rfl⟩
theorem cl35 : Callable Try.prog 35 := ⟨Try.f35, Try.func35, rfl, rfl⟩
theorem cl36 : Callable Try.prog 36 := ⟨Try.f36, Try.func36, rfl, rfl⟩
theorem cl41 : Callable Try.prog 41 := ⟨Try.f41, Try.func41, rfl, rfl⟩
theorem cl42 : Callable Try.prog 42 := ⟨Try.f42, Try.func42, rfl, rfl⟩
theorem cl44 : Callable Try.prog 44 := ⟨Try.f44, Try.func44, rfl, rfl⟩
theorem cl45 : Callable Try.prog 45 := ⟨Try.f45, Try.func45, rfl, rfl⟩
theorem cl46 : Callable Try.prog 46 := ⟨Try.f46, Try.func46, rfl, rfl⟩
theorem cl47 : Callable Try.prog 47 := ⟨Try.f47, Try.func47, rfl, rfl⟩
theorem cl48 : Callable Try.prog 48 := ⟨Try.f48, Try.func48, rfl, rfl⟩
theorem cl49 : Callable Try.prog 49 := ⟨Try.f49, Try.func49, rfl, rfl⟩
theorem cl51 : Callable Try.prog 51 := ⟨Try.f51, Try.func51, rfl, rfl⟩
theorem cl52 : Callable Try.prog 52 := ⟨Try.f52, Try.func52, rfl, rfl⟩
theorem cl54 : Callable Try.prog 54 := ⟨Try.f54, Try.func54, rfl, rfl⟩
theorem cl55 : Callable Try.prog 55 := ⟨Try.f55, Try.func55, rfl, rfl⟩
theorem cl56 : Callable Try.prog 56 := ⟨Try.f56, Try.func56, rfl, rfl⟩
theorem cl57 : Callable Try.prog 57 := ⟨Try.f57, Try.func57, rfl, rfl⟩
theorem cl58 : Callable Try.prog 58 := ⟨Try.f58, Try.func58, rfl, rfl⟩
theorem cl61 : Callable Try.prog 61 := ⟨Try.f61, Try.func61, rfl, rfl⟩
theorem cl62 : Callable Try.prog 62 := ⟨Try.f62, Try.func62, rfl, rfl⟩

set_option maxRecDepth 8000 in
set_option maxHeartbeats 2000000 in
theorem p_stid_in (a0 : Int) (a1 : Int) (a2 : Int) (r : Bool) (h : stid_in a0 a1 a2 = some r) : PureAt Try.prog 34 [.int .i64 a0, .int .i64 a1, .int .i64 a2] (.bool r) := by
  refine pure_of_iwp (rs := [.bool r]) Try.func34 rfl Try.ntmps34 (nle rfl) rfl fun O hO => ?_
  show IWP _ _ _ _ ⟨[(0, .int .i64 a0), (1, .int .i64 a1), (2, .int .i64 a2)], []⟩ _
  unfold stid_in at h
  refine iwp_reg (ils_cons rfl (iop_assign rfl rfl (by decide) (sv (d := .bool false) rfl)) <|
    ils_end ?_)
  obtain ⟨x1, hx1, h⟩ := bnd_e h
  obtain ⟨x2, hx2, h⟩ := bnd_e h
  obtain ⟨x3, hx3, h⟩ := bnd_e h
  refine iwp_reg (ils_cons rfl (iop_move rfl rfl (by decide) (sv (d := .int _ _) rfl)) <|
    ils_cons rfl (iop_move rfl rfl (by decide) (sv (d := .int _ _) rfl)) <|
    ils_cons rfl (iop_cmpx rfl rfl (by decide) (sv (d := .int _ _) rfl) (sv (d := .int _ _) rfl) rfl hx1) <|
    ils_cons rfl (iop_move rfl rfl (by decide) (sv (d := .bool _) rfl)) <|
    ils_guard rfl rfl (.one rfl) rfl (by decide) (fun hb => (iop_move rfl rfl (by decide) (sv (d := .int _ _) rfl))) <|
    ils_guard rfl rfl (.one rfl) rfl (by decide) (fun hb => (iop_move rfl rfl (by decide) (sv (d := .int _ _) rfl))) <|
    ils_guard rfl rfl (.one rfl) rfl (by decide) (fun hb => (iop_cmpx rfl rfl (by decide) (svc (d := .int _ _) rfl hb) (svc (d := .int _ _) rfl hb) rfl hx2)) <|
    ils_cons rfl (iop_andx rfl rfl (by decide) (sv (d := .bool _) rfl) rfl rfl hx3) <|
    ils_cons rfl (iop_assign rfl rfl (by decide) (sv (d := .bool _) rfl)) <|
    ils_end ?_)
  refine iwp_ret ?_
  obtain rfl := Option.some.inj h
  refine ⟨.inr rfl, (.cons (sv rfl) .nil)⟩

set_option maxRecDepth 8000 in
set_option maxHeartbeats 2000000 in
theorem p_stid_Own (a0 : T_stid_State) (a1 : Int) (r : Bool) (h : stid_Own a0 a1 = some r) : PureAt Try.prog 24 [.agg [.bool a0.Odd, .int .i64 a0.Next, .int .i64 a0.Last, .slice false (a0.Live.map (eInt .i64).d), .slice false (a0.Cut.map (eInt .i64).d), .int .i64 a0.Mine, .int .i64 a0.Hers, .int .i64 a0.Heard, .int .i64 a0.Told], .int .i64 a1] (.bool r) := by
  refine pure_of_iwp (rs := [.bool r]) Try.func24 rfl Try.ntmps24 (nle rfl) rfl fun O hO => ?_
  show IWP _ _ _ _ ⟨[(0, .agg [.bool a0.Odd, .int .i64 a0.Next, .int .i64 a0.Last, .slice false (a0.Live.map (eInt .i64).d), .slice false (a0.Cut.map (eInt .i64).d), .int .i64 a0.Mine, .int .i64 a0.Hers, .int .i64 a0.Heard, .int .i64 a0.Told]), (1, .int .i64 a1)], []⟩ _
  unfold stid_Own at h
  refine iwp_reg (ils_cons rfl (iop_box' (cs := [.bool _, .int _ _, .int _ _, .slice _ _, .slice _ _, .int _ _, .int _ _, .int _ _, .int _ _]) 0 rfl rfl (by decide) rfl (sv (d := .agg [.bool _, .int _ _, .int _ _, .slice _ _, .slice _ _, .int _ _, .int _ _, .int _ _, .int _ _]) rfl) rfl rfl) <|
    ils_cons rfl (iop_assign rfl rfl (by decide) (sv (d := .bool false) rfl)) <|
    ils_end ?_)
  obtain ⟨x1, hx1, h⟩ := bnd_e h
  obtain ⟨x2, hx2, h⟩ := bnd_e h
  obtain ⟨x3, hx3, h⟩ := bnd_e h
  obtain ⟨x4, hx4, h⟩ := bnd_e h
  obtain ⟨x5, hx5, h⟩ := bnd_e h
  refine iwp_reg (ils_cons rfl (iop_move rfl rfl (by decide) (sv (d := .int _ _) rfl)) <|
    ils_cons rfl (iop_cmpx rfl rfl (by decide) (sv (d := .int _ _) rfl) (sv (d := .int _ 0) rfl) rfl hx1) <|
    ils_cons rfl (iop_move rfl rfl (by decide) (sv (d := .bool _) rfl)) <|
    ils_guard rfl rfl (.one rfl) rfl (by decide) (fun hb => (iop_move rfl rfl (by decide) (sv (d := .int _ _) rfl))) <|
    ils_guard rfl rfl (.one rfl) rfl (by decide) (fun hb => (iop_intx rfl rfl (by decide) (svc (d := .int _ _) rfl hb) (sv (d := .int _ 1) rfl) rfl hx2)) <|
    ils_guard rfl rfl (.one rfl) rfl (by decide) (fun hb => (iop_cmpx rfl rfl (by decide) (svc (d := .int _ _) rfl hb) (sv (d := .int _ 1) rfl) rfl hx3)) <|
    ils_guard rfl rfl (.one rfl) rfl (by decide) (fun hb => (iop_fieldAddr_ref rfl rfl (by decide) Try.underlying27 rfl ti4 (by decide) (sv (d := .ref _ _) rfl) (off' := 0) rfl)) <|
    ils_guard rfl rfl (.one rfl) rfl (by decide) (fun hb => (iop_load_rs (d := .bool _) rfl rfl (by decide) Try.underlying4 ag4 ti4 (by decide) (svc (d := .ref _ _) rfl hb) rfl (nle rfl) rfl)) <|
    ils_guard rfl rfl (.one rfl) rfl (by decide) (fun hb => (iop_eqbx rfl rfl (by decide) Try.underlying4 (svc (d := .bool _) rfl hb) (svc (d := .bool _) rfl hb) hx4)) <|
    ils_cons rfl (iop_andx rfl rfl (by decide) (sv (d := .bool _) rfl) rfl rfl hx5) <|
    ils_cons rfl (iop_assign rfl rfl (by decide) (sv (d := .bool _) rfl)) <|
    ils_end ?_)
  refine iwp_ret ?_
  obtain rfl := Option.some.inj h
  refine ⟨.inr rfl, (.cons (sv rfl) .nil)⟩

set_option maxRecDepth 8000 in
set_option maxHeartbeats 2000000 in
theorem p_stid_State_numbers (a0 : T_stid_State) (r : Bool) (h : stid_State_numbers a0 = some r) : PureAt Try.prog 47 [.agg [.bool a0.Odd, .int .i64 a0.Next, .int .i64 a0.Last, .slice false (a0.Live.map (eInt .i64).d), .slice false (a0.Cut.map (eInt .i64).d), .int .i64 a0.Mine, .int .i64 a0.Hers, .int .i64 a0.Heard, .int .i64 a0.Told]] (.bool r) := by
  refine pure_of_iwp (rs := [.bool r]) Try.func47 rfl Try.ntmps47 (nle rfl) rfl fun O hO => ?_
  show IWP _ _ _ _ ⟨[(0, .agg [.bool a0.Odd, .int .i64 a0.Next, .int .i64 a0.Last, .slice false (a0.Live.map (eInt .i64).d), .slice false (a0.Cut.map (eInt .i64).d), .int .i64 a0.Mine, .int .i64 a0.Hers, .int .i64 a0.Heard, .int .i64 a0.Told])], []⟩ _
  unfold stid_State_numbers at h
  refine iwp_reg (ils_cons rfl (iop_box' (cs := [.bool _, .int _ _, .int _ _, .slice _ _, .slice _ _, .int _ _, .int _ _, .int _ _, .int _ _]) 0 rfl rfl (by decide) rfl (sv (d := .agg [.bool _, .int _ _, .int _ _, .slice _ _, .slice _ _, .int _ _, .int _ _, .int _ _, .int _ _]) rfl) rfl rfl) <|
    ils_cons rfl (iop_assign rfl rfl (by decide) (sv (d := .bool false) rfl)) <|
    ils_end ?_)
  refine iwp_seq ?_
  obtain ⟨x1, hx1, h⟩ := bno_e h
  obtain ⟨x2, hx2, h⟩ := bno_e h
  obtain ⟨x3, hx3, h⟩ := bnd_e h
  obtain ⟨x4, hx4, h⟩ := bno_e h
  obtain ⟨x5, hx5, h⟩ := bnd_e h
  obtain ⟨x6, hx6, h⟩ := bno_e h
  obtain ⟨x7, hx7, h⟩ := bnd_e h
  refine iwp_reg (ils_cons rfl (iop_fieldAddr_ref rfl rfl (by decide) Try.underlying27 rfl ti3 (by decide) (sv (d := .ref _ _) rfl) (off' := 1) rfl) <|
    ils_cons rfl (iop_load_rs (d := .int _ _) rfl rfl (by decide) Try.underlying3 ag3 ti3 (by decide) (sv (d := .ref _ _) rfl) rfl (nle rfl) rfl) <|
    ils_cons rfl (iop_call (r := .bool _) rfl rfl (by decide) cl34 (.cons (sv (d := .int _ _) rfl) (.cons (sv (d := .int _ 1) rfl) (.cons (sv (d := .int _ 1048578) rfl) .nil))) rfl (p_stid_in _ _ _ _ hx1)) <|
    ils_cons rfl (iop_not rfl rfl (by decide) (sv (d := .bool _) rfl)) <|
    ils_cons rfl (iop_move rfl rfl (by decide) (sv (d := .bool _) rfl)) <|
    ils_guard rfl rfl (.one rfl) rfl (by decide) (fun hb => (iop_load_ra (cs := [.bool _, .int _ _, .int _ _, .slice _ _, .slice _ _, .int _ _, .int _ _, .int _ _, .int _ _]) rfl rfl (by decide) Try.underlying27 ag27 ti27 (by decide) (sv (d := .ref _ _) rfl) rfl (nle rfl) rfl)) <|
    ils_guard rfl rfl (.one rfl) rfl (by decide) (fun hb => (iop_fieldAddr_ref rfl rfl (by decide) Try.underlying27 rfl ti3 (by decide) (sv (d := .ref _ _) rfl) (off' := 1) rfl)) <|
    ils_guard rfl rfl (.one rfl) rfl (by decide) (fun hb => (iop_load_rs (d := .int _ _) rfl rfl (by decide) Try.underlying3 ag3 ti3 (by decide) (svc (d := .ref _ _) rfl hb) rfl (nle rfl) rfl)) <|
    ils_guard rfl rfl (.one rfl) rfl (by decide) (fun hb => (iop_call (r := .bool _) rfl rfl (by decide) cl24 (.cons (svc (d := .agg [.bool a0.Odd, .int .i64 a0.Next, .int .i64 a0.Last, .slice false (a0.Live.map (eInt .i64).d), .slice false (a0.Cut.map (eInt .i64).d), .int .i64 a0.Mine, .int .i64 a0.Hers, .int .i64 a0.Heard, .int .i64 a0.Told]) rfl hb) (.cons (svc (d := .int _ _) rfl hb) .nil)) rfl (p_stid_Own _ _ _ (gd_t hx2 hb)))) <|
    ils_guard rfl rfl (.one rfl) rfl (by decide) (fun hb => (iop_not rfl rfl (by decide) (svc (d := .bool _) rfl hb))) <|
    ils_cons rfl (iop_orx rfl rfl (by decide) (sv (d := .bool _) rfl) rfl rfl hx3) <|
    ils_cons rfl (iop_move rfl rfl (by decide) (sv (d := .bool _) rfl)) <|
    ils_guard rfl rfl (.one rfl) rfl (by decide) (fun hb => (iop_fieldAddr_ref rfl rfl (by decide) Try.underlying27 rfl ti3 (by decide) (sv (d := .ref _ _) rfl) (off' := 2) rfl)) <|
    ils_guard rfl rfl (.one rfl) rfl (by decide) (fun hb => (iop_load_rs (d := .int _ _) rfl rfl (by decide) Try.underlying3 ag3 ti3 (by decide) (svc (d := .ref _ _) rfl hb) rfl (nle rfl) rfl)) <|
    ils_guard rfl rfl (.one rfl) rfl (by decide) (fun hb => (iop_call (r := .bool _) rfl rfl (by decide) cl34 (.cons (svc (d := .int _ _) rfl hb) (.cons (sv (d := .int _ 0) rfl) (.cons (sv (d := .int _ 1048576) rfl) .nil))) rfl (p_stid_in _ _ _ _ (gd_t hx4 hb)))) <|
    ils_guard rfl rfl (.one rfl) rfl (by decide) (fun hb => (iop_not rfl rfl (by decide) (svc (d := .bool _) rfl hb))) <|
    ils_cons rfl (iop_orx rfl rfl (by decide) (sv (d := .bool _) rfl) rfl rfl hx5) <|
    ils_cons rfl (iop_move rfl rfl (by decide) (sv (d := .bool _) rfl)) <|
    ils_guard rfl rfl (.one rfl) rfl (by decide) (fun hb => (iop_load_ra (cs := [.bool _, .int _ _, .int _ _, .slice _ _, .slice _ _, .int _ _, .int _ _, .int _ _, .int _ _]) rfl rfl (by decide) Try.underlying27 ag27 ti27 (by decide) (sv (d := .ref _ _) rfl) rfl (nle rfl) rfl)) <|
    ils_guard rfl rfl (.one rfl) rfl (by decide) (fun hb => (iop_fieldAddr_ref rfl rfl (by decide) Try.underlying27 rfl ti3 (by decide) (sv (d := .ref _ _) rfl) (off' := 2) rfl)) <|
    ils_guard rfl rfl (.one rfl) rfl (by decide) (fun hb => (iop_load_rs (d := .int _ _) rfl rfl (by decide) Try.underlying3 ag3 ti3 (by decide) (svc (d := .ref _ _) rfl hb) rfl (nle rfl) rfl)) <|
    ils_guard rfl rfl (.one rfl) rfl (by decide) (fun hb => (iop_call (r := .bool _) rfl rfl (by decide) cl24 (.cons (svc (d := .agg [.bool a0.Odd, .int .i64 a0.Next, .int .i64 a0.Last, .slice false (a0.Live.map (eInt .i64).d), .slice false (a0.Cut.map (eInt .i64).d), .int .i64 a0.Mine, .int .i64 a0.Hers, .int .i64 a0.Heard, .int .i64 a0.Told]) rfl hb) (.cons (svc (d := .int _ _) rfl hb) .nil)) rfl (p_stid_Own _ _ _ (gd_t hx6 hb)))) <|
    ils_cons rfl (iop_orx rfl rfl (by decide) (sv (d := .bool _) rfl) rfl rfl hx7) <|
    ils_end ?_)
  refine iwp_cond (b := _) rfl (fun hc8 => ?_) (fun hc8 => ?_)
  ·
    replace h := bif_t h hc8
    refine iwp_reg (ils_cons rfl (iop_assign rfl rfl (by decide) (sv (d := .bool false) rfl)) <|
      ils_end ?_)
    refine iwp_ret ?_
    refine thenQ_r ?_
    obtain rfl := Option.some.inj h
    refine ⟨.inr rfl, (.cons (sv rfl) .nil)⟩
  ·
    replace h := bif_f h hc8
    refine iwp_skip ?_
    refine thenQ_n ?_
    obtain ⟨x9, hx9, h⟩ := bno_e h
    obtain ⟨x10, hx10, h⟩ := bno_e h
    obtain ⟨x11, hx11, h⟩ := bnd_e h
    refine iwp_reg (ils_cons rfl (iop_fieldAddr_ref rfl rfl (by decide) Try.underlying27 rfl ti3 (by decide) (sv (d := .ref _ _) rfl) (off' := 7) rfl) <|
      ils_cons rfl (iop_load_rs (d := .int _ _) rfl rfl (by decide) Try.underlying3 ag3 ti3 (by decide) (sv (d := .ref _ _) rfl) rfl (nle rfl) rfl) <|
      ils_cons rfl (iop_call (r := .bool _) rfl rfl (by decide) cl34 (.cons (sv (d := .int _ _) rfl) (.cons (sv (d := .int _ (-1)) rfl) (.cons (sv (d := .int _ 1048576) rfl) .nil))) rfl (p_stid_in _ _ _ _ hx9)) <|
      ils_cons rfl (iop_move rfl rfl (by decide) (sv (d := .bool _) rfl)) <|
      ils_guard rfl rfl (.one rfl) rfl (by decide) (fun hb => (iop_fieldAddr_ref rfl rfl (by decide) Try.underlying27 rfl ti3 (by decide) (sv (d := .ref _ _) rfl) (off' := 8) rfl)) <|
      ils_guard rfl rfl (.one rfl) rfl (by decide) (fun hb => (iop_load_rs (d := .int _ _) rfl rfl (by decide) Try.underlying3 ag3 ti3 (by decide) (svc (d := .ref _ _) rfl hb) rfl (nle rfl) rfl)) <|
      ils_guard rfl rfl (.one rfl) rfl (by decide) (fun hb => (iop_call (r := .bool _) rfl rfl (by decide) cl34 (.cons (svc (d := .int _ _) rfl hb) (.cons (sv (d := .int _ (-1)) rfl) (.cons (sv (d := .int _ 1048576) rfl) .nil))) rfl (p_stid_in _ _ _ _ (gd_t hx10 hb)))) <|
      ils_cons rfl (iop_andx rfl rfl (by decide) (sv (d := .bool _) rfl) rfl rfl hx11) <|
      ils_cons rfl (iop_assign rfl rfl (by decide) (sv (d := .bool _) rfl)) <|
      ils_end ?_)
    obtain ⟨x12, hx12, h⟩ := bno_e h
    obtain ⟨x13, hx13, h⟩ := bnd_e h
    obtain ⟨x14, hx14, h⟩ := bno_e h
    obtain ⟨x15, hx15, h⟩ := bnd_e h
    refine iwp_reg (ils_cons rfl (iop_move rfl rfl (by decide) (sv (d := .bool _) rfl)) <|
      ils_cons rfl (iop_move rfl rfl (by decide) (sv (d := .bool _) rfl)) <|
      ils_guard rfl rfl (.one rfl) rfl (by decide) (fun hb => (iop_fieldAddr_ref rfl rfl (by decide) Try.underlying27 rfl ti3 (by decide) (sv (d := .ref _ _) rfl) (off' := 5) rfl)) <|
      ils_guard rfl rfl (.one rfl) rfl (by decide) (fun hb => (iop_load_rs (d := .int _ _) rfl rfl (by decide) Try.underlying3 ag3 ti3 (by decide) (svc (d := .ref _ _) rfl hb) rfl (nle rfl) rfl)) <|
      ils_guard rfl rfl (.one rfl) rfl (by decide) (fun hb => (iop_call (r := .bool _) rfl rfl (by decide) cl34 (.cons (svc (d := .int _ _) rfl hb) (.cons (sv (d := .int _ 0) rfl) (.cons (sv (d := .int _ 8) rfl) .nil))) rfl (p_stid_in _ _ _ _ (gd_t hx12 hb)))) <|
      ils_cons rfl (iop_andx rfl rfl (by decide) (sv (d := .bool _) rfl) rfl rfl hx13) <|
      ils_cons rfl (iop_move rfl rfl (by decide) (sv (d := .bool _) rfl)) <|
      ils_guard rfl rfl (.one rfl) rfl (by decide) (fun hb => (iop_fieldAddr_ref rfl rfl (by decide) Try.underlying27 rfl ti3 (by decide) (sv (d := .ref _ _) rfl) (off' := 6) rfl)) <|
      ils_guard rfl rfl (.one rfl) rfl (by decide) (fun hb => (iop_load_rs (d := .int _ _) rfl rfl (by decide) Try.underlying3 ag3 ti3 (by decide) (svc (d := .ref _ _) rfl hb) rfl (nle rfl) rfl)) <|
      ils_guard rfl rfl (.one rfl) rfl (by decide) (fun hb => (iop_call (r := .bool _) rfl rfl (by decide) cl34 (.cons (svc (d := .int _ _) rfl hb) (.cons (sv (d := .int _ 0) rfl) (.cons (sv (d := .int _ 8) rfl) .nil))) rfl (p_stid_in _ _ _ _ (gd_t hx14 hb)))) <|
      ils_cons rfl (iop_andx rfl rfl (by decide) (sv (d := .bool _) rfl) rfl rfl hx15) <|
      ils_cons rfl (iop_assign rfl rfl (by decide) (sv (d := .bool _) rfl)) <|
      ils_end ?_)
    refine iwp_ret ?_
    obtain rfl := Option.some.inj h
    refine ⟨.inr rfl, (.cons (sv rfl) .nil)⟩

set_option maxRecDepth 8000 in
set_option maxHeartbeats 2000000 in
theorem p_stid_State_began (a0 : T_stid_State) (a1 : Int) (r : Bool) (h : stid_State_began a0 a1 = some r) : PureAt Try.prog 46 [.agg [.bool a0.Odd, .int .i64 a0.Next, .int .i64 a0.Last, .slice false (a0.Live.map (eInt .i64).d), .slice false (a0.Cut.map (eInt .i64).d), .int .i64 a0.Mine, .int .i64 a0.Hers, .int .i64 a0.Heard, .int .i64 a0.Told], .int .i64 a1] (.bool r) := by
  refine pure_of_iwp (rs := [.bool r]) Try.func46 rfl Try.ntmps46 (nle rfl) rfl fun O hO => ?_
  show IWP _ _ _ _ ⟨[(0, .agg [.bool a0.Odd, .int .i64 a0.Next, .int .i64 a0.Last, .slice false (a0.Live.map (eInt .i64).d), .slice false (a0.Cut.map (eInt .i64).d), .int .i64 a0.Mine, .int .i64 a0.Hers, .int .i64 a0.Heard, .int .i64 a0.Told]), (1, .int .i64 a1)], []⟩ _
  unfold stid_State_began at h
  refine iwp_reg (ils_cons rfl (iop_box' (cs := [.bool _, .int _ _, .int _ _, .slice _ _, .slice _ _, .int _ _, .int _ _, .int _ _, .int _ _]) 0 rfl rfl (by decide) rfl (sv (d := .agg [.bool _, .int _ _, .int _ _, .slice _ _, .slice _ _, .int _ _, .int _ _, .int _ _, .int _ _]) rfl) rfl rfl) <|
    ils_cons rfl (iop_assign rfl rfl (by decide) (sv (d := .bool false) rfl)) <|
    ils_end ?_)
  refine iwp_seq ?_
  obtain ⟨x1, hx1, h⟩ := bno_e h
  refine iwp_reg (ils_cons rfl (iop_load_ra (cs := [.bool _, .int _ _, .int _ _, .slice _ _, .slice _ _, .int _ _, .int _ _, .int _ _, .int _ _]) rfl rfl (by decide) Try.underlying27 ag27 ti27 (by decide) (sv (d := .ref _ _) rfl) rfl (nle rfl) rfl) <|
    ils_cons rfl (iop_move rfl rfl (by decide) (sv (d := .int _ _) rfl)) <|
    ils_cons rfl (iop_call (r := .bool _) rfl rfl (by decide) cl24 (.cons (sv (d := .agg [.bool _, .int _ _, .int _ _, .slice _ _, .slice _ _, .int _ _, .int _ _, .int _ _, .int _ _]) rfl) (.cons (sv (d := .int _ _) rfl) .nil)) rfl (p_stid_Own _ _ _ hx1)) <|
    ils_end ?_)
  refine iwp_cond (b := _) rfl (fun hc2 => ?_) (fun hc2 => ?_)
  ·
    replace h := bif_t h hc2
    obtain ⟨x3, hx3, h⟩ := bnd_e h
    refine iwp_reg (ils_cons rfl (iop_move rfl rfl (by decide) (sv (d := .int _ _) rfl)) <|
      ils_cons rfl (iop_fieldAddr_ref rfl rfl (by decide) Try.underlying27 rfl ti3 (by decide) (sv (d := .ref _ _) rfl) (off' := 1) rfl) <|
      ils_cons rfl (iop_load_rs (d := .int _ _) rfl rfl (by decide) Try.underlying3 ag3 ti3 (by decide) (sv (d := .ref _ _) rfl) rfl (nle rfl) rfl) <|
      ils_cons rfl (iop_cmpx rfl rfl (by decide) (sv (d := .int _ _) rfl) (sv (d := .int _ _) rfl) rfl hx3) <|
      ils_cons rfl (iop_assign rfl rfl (by decide) (sv (d := .bool _) rfl)) <|
      ils_end ?_)
    refine iwp_ret ?_
    refine thenQ_r ?_
    obtain rfl := Option.some.inj h
    refine ⟨.inr rfl, (.cons (sv rfl) .nil)⟩
  ·
    replace h := bif_f h hc2
    refine iwp_skip ?_
    refine thenQ_n ?_
    obtain ⟨x4, hx4, h⟩ := bno_e h
    refine iwp_reg (ils_cons rfl (iop_move rfl rfl (by decide) (sv (d := .int _ _) rfl)) <|
      ils_cons rfl (iop_fieldAddr_ref rfl rfl (by decide) Try.underlying27 rfl ti3 (by decide) (sv (d := .ref _ _) rfl) (off' := 2) rfl) <|
      ils_cons rfl (iop_load_rs (d := .int _ _) rfl rfl (by decide) Try.underlying3 ag3 ti3 (by decide) (sv (d := .ref _ _) rfl) rfl (nle rfl) rfl) <|
      ils_cons rfl (iop_call (r := .bool _) rfl rfl (by decide) cl34 (.cons (sv (d := .int _ _) rfl) (.cons (sv (d := .int _ 1) rfl) (.cons (sv (d := .int _ _) rfl) .nil))) rfl (p_stid_in _ _ _ _ hx4)) <|
      ils_cons rfl (iop_assign rfl rfl (by decide) (sv (d := .bool _) rfl)) <|
      ils_end ?_)
    refine iwp_ret ?_
    obtain rfl := Option.some.inj h
    refine ⟨.inr rfl, (.cons (sv rfl) .nil)⟩

set_option maxRecDepth 8000 in
set_option maxHeartbeats 2000000 in
theorem p_stid_State_rises (a0 : T_stid_State) (r : Bool) (h : stid_State_rises a0 = some r) : PureAt Try.prog 48 [.agg [.bool a0.Odd, .int .i64 a0.Next, .int .i64 a0.Last, .slice false (a0.Live.map (eInt .i64).d), .slice false (a0.Cut.map (eInt .i64).d), .int .i64 a0.Mine, .int .i64 a0.Hers, .int .i64 a0.Heard, .int .i64 a0.Told]] (.bool r) := by
  refine pure_of_iwp (rs := [.bool r]) Try.func48 rfl Try.ntmps48 (nle rfl) rfl fun O hO => ?_
  show IWP _ _ _ _ ⟨[(0, .agg [.bool a0.Odd, .int .i64 a0.Next, .int .i64 a0.Last, .slice false (a0.Live.map (eInt .i64).d), .slice false (a0.Cut.map (eInt .i64).d), .int .i64 a0.Mine, .int .i64 a0.Hers, .int .i64 a0.Heard, .int .i64 a0.Told])], []⟩ _
  unfold stid_State_rises at h
  refine iwp_reg (ils_cons rfl (iop_box' (cs := [.bool _, .int _ _, .int _ _, .slice _ _, .slice _ _, .int _ _, .int _ _, .int _ _, .int _ _]) 0 rfl rfl (by decide) rfl (sv (d := .agg [.bool _, .int _ _, .int _ _, .slice _ _, .slice _ _, .int _ _, .int _ _, .int _ _, .int _ _]) rfl) rfl rfl) <|
    ils_cons rfl (iop_assign rfl rfl (by decide) (sv (d := .bool false) rfl)) <|
    ils_end ?_)
  refine iwp_seq ?_
  obtain ⟨x1, hx1, h⟩ := bnd_e h
  refine iwp_reg (ils_cons rfl (iop_fieldAddr_ref rfl rfl (by decide) Try.underlying27 rfl ti22 (by decide) (sv (d := .ref _ _) rfl) (off' := 3) rfl) <|
    ils_cons rfl (iop_load_rs (d := .slice _ _) rfl rfl (by decide) Try.underlying22 ag22 ti22 (by decide) (sv (d := .ref _ _) rfl) rfl (nle rfl) rfl) <|
    ils_cons rfl (iop_lenT (eInt .i64) (l := a0.Live) rfl rfl (by decide) Try.underlying22 (sv (d := .slice _ _) rfl)) <|
    ils_cons rfl (iop_cmpx rfl rfl (by decide) (sv (d := .int _ _) rfl) (sv (d := .int _ 16) rfl) rfl hx1) <|
    ils_end ?_)
  refine iwp_cond (b := _) rfl (fun hc2 => ?_) (fun hc2 => ?_)
  ·
    replace h := bif_t h hc2
    refine iwp_reg (ils_cons rfl (iop_assign rfl rfl (by decide) (sv (d := .bool false) rfl)) <|
      ils_end ?_)
    refine iwp_ret ?_
    refine thenQ_r ?_
    obtain rfl := Option.some.inj h
    refine ⟨.inr rfl, (.cons (sv rfl) .nil)⟩
  ·
    replace h := bif_f h hc2
    refine iwp_skip ?_
    refine thenQ_n ?_
    refine iwp_reg (ils_cons rfl (iop_assign rfl rfl (by decide) (sv (d := .int _ 0) rfl)) <|
      ils_end ?_)
    refine iwp_seq ?_
    refine iwp_reg (ils_cons rfl (iop_fieldAddr_ref rfl rfl (by decide) Try.underlying27 rfl ti22 (by decide) (sv (d := .ref _ _) rfl) (off' := 3) rfl) <|
      ils_cons rfl (iop_load_rs (d := .slice _ _) rfl rfl (by decide) Try.underlying22 ag22 ti22 (by decide) (sv (d := .ref _ _) rfl) rfl (nle rfl) rfl) <|
      ils_cons rfl (iop_lenT (eInt .i64) (l := a0.Live) rfl rfl (by decide) Try.underlying22 (sv (d := .slice _ _) rfl)) <|
      ils_cons rfl (iop_move rfl rfl (by decide) (sv (d := .int _ 0) rfl)) <|
      ils_end ?_)
    refine iwp_block ?_
    refine iwp_loopP (α := Nat × Int × Int) (fun z => ⟨[(1, .ref 0 0), (3, .int .i64 z.2.1), (11, .slice false (a0.Live.map (eInt .i64).d)), (12, .int .i64 (a0.Live.length : Int)), (13, .int .i64 z.2.2)], [(0, .blk 27 [.bool a0.Odd, .int .i64 a0.Next, .int .i64 a0.Last, .slice false (a0.Live.map (eInt .i64).d), .slice false (a0.Cut.map (eInt .i64).d), .int .i64 a0.Mine, .int .i64 a0.Hers, .int .i64 a0.Heard, .int .i64 a0.Told])]⟩) (fun z => stid_State_rises_L0 a0 z.1 z.2.1 z.2.2 = some r) (fun z => z.1) (fuel, 0, 0) (fun i => i) ⟨(.cons (.same rfl rfl) (.cons (.same rfl rfl) (.cons (.same rfl rfl) (.cons (.same rfl rfl) (.cons (.same rfl rfl) .nil))))), (.cons (.blk rfl rfl rfl) .nil), nd_of [0] rfl (by decide), (fun i hi => by first | rfl | (show (if _ then _ else _) = _; (repeat' split) <;> omega))⟩ ?_ ?_
    · exact h
    ·
      rintro ⟨n0, v11, v12⟩ h
      cases n0 with
      | zero => exact absurd h (by unfold stid_State_rises_L0; exact nofun)
      | succ n0 =>
        unfold stid_State_rises_L0 at h
        obtain ⟨x21, hx21, h⟩ := bnd_e h
        refine iwp_reg (ils_cons rfl (iop_cmpx rfl rfl (by decide) (sv (d := .int _ _) rfl) (sv (d := .int _ _) rfl) rfl hx21) <|
          ils_end ?_)
        refine iwp_seq ?_
        refine iwp_cond (b := _) rfl (fun hc22 => ?_) (fun hc22 => ?_)
        ·
          replace h := bif_t h hc22
          refine iwp_skip ?_
          refine thenQ_n ?_
          refine iwp_seq ?_
          refine iwp_block ?_
          obtain ⟨x23, hx23, h⟩ := bno_e h
          refine iwp_reg (ils_cons rfl (iop_idxT (eInt .i64) (cs := [.int _ _]) rfl rfl (by decide) Try.underlying22 ti3 (sv (d := .slice _ _) rfl) (sv (d := .int _ _) rfl) hx23 rfl rfl) <|
            ils_cons rfl (iop_load_fs rfl rfl (by decide) Try.underlying3 ag3 ti3 (by decide) (sv (d := .fptr [.int _ _]) rfl) (nle rfl)) <|
            ils_cons rfl (iop_assign rfl rfl (by decide) (sv (d := .int _ _) rfl)) <|
            ils_end ?_)
          refine iwp_seq ?_
          obtain ⟨x24, hx24, h⟩ := bnd_e h
          obtain ⟨x25, hx25, h⟩ := bno_e h
          obtain ⟨x26, hx26, h⟩ := bnd_e h
          refine iwp_reg (ils_cons rfl (iop_move rfl rfl (by decide) (sv (d := .int _ _) rfl)) <|
            ils_cons rfl (iop_move rfl rfl (by decide) (sv (d := .int _ _) rfl)) <|
            ils_cons rfl (iop_cmpx rfl rfl (by decide) (sv (d := .int _ _) rfl) (sv (d := .int _ _) rfl) rfl hx24) <|
            ils_cons rfl (iop_move rfl rfl (by decide) (sv (d := .bool _) rfl)) <|
            ils_guard rfl rfl (.one rfl) rfl (by decide) (fun hb => (iop_load_ra (cs := [.bool _, .int _ _, .int _ _, .slice _ _, .slice _ _, .int _ _, .int _ _, .int _ _, .int _ _]) rfl rfl (by decide) Try.underlying27 ag27 ti27 (by decide) (sv (d := .ref _ _) rfl) rfl (nle rfl) rfl)) <|
            ils_guard rfl rfl (.one rfl) rfl (by decide) (fun hb => (iop_move rfl rfl (by decide) (sv (d := .int _ _) rfl))) <|
            ils_guard rfl rfl (.one rfl) rfl (by decide) (fun hb => (iop_call (r := .bool _) rfl rfl (by decide) cl46 (.cons (svc (d := .agg [.bool a0.Odd, .int .i64 a0.Next, .int .i64 a0.Last, .slice false (a0.Live.map (eInt .i64).d), .slice false (a0.Cut.map (eInt .i64).d), .int .i64 a0.Mine, .int .i64 a0.Hers, .int .i64 a0.Heard, .int .i64 a0.Told]) rfl hb) (.cons (svc (d := .int _ _) rfl hb) .nil)) rfl (p_stid_State_began _ _ _ (gd_t hx25 hb)))) <|
            ils_guard rfl rfl (.one rfl) rfl (by decide) (fun hb => (iop_not rfl rfl (by decide) (svc (d := .bool _) rfl hb))) <|
            ils_cons rfl (iop_orx rfl rfl (by decide) (sv (d := .bool _) rfl) rfl rfl hx26) <|
            ils_end ?_)
          refine iwp_cond (b := _) rfl (fun hc27 => ?_) (fun hc27 => ?_)
          ·
            replace h := bif_t h hc27
            refine iwp_reg (ils_cons rfl (iop_assign rfl rfl (by decide) (sv (d := .bool false) rfl)) <|
              ils_end ?_)
            refine iwp_ret ?_
            refine thenQ_r ?_
            refine blockQ_r ?_
            refine thenQ_r ?_
            refine thenQ_r ?_
            refine blockQ_r ?_
            refine thenQ_r ?_
            obtain rfl := Option.some.inj h
            refine ⟨.inr rfl, (.cons (sv rfl) .nil)⟩
          ·
            replace h := bif_f h hc27
            refine iwp_skip ?_
            refine thenQ_n ?_
            refine iwp_region (ils_cons rfl (iop_move rfl rfl (by decide) (sv (d := .int _ _) rfl)) <|
              ils_cons rfl (iop_assign rfl rfl (by decide) (sv (d := .int _ _) rfl)) <|
              ils_nil ?_)
            refine blockQ_n ?_
            refine thenQ_n ?_
            obtain ⟨x28, hx28, h⟩ := bnd_e h
            refine iwp_region (ils_cons rfl (iop_intx rfl rfl (by decide) (sv (d := .int _ _) rfl) (sv (d := .int _ 1) rfl) rfl hx28) <|
              ils_cons rfl (iop_move rfl rfl (by decide) (sv (d := .int _ _) rfl)) <|
              ils_nil ?_)
            refine thenQ_n ⟨(n0, x23, x28), (fun i => i), ⟨(.cons (.same rfl rfl) (.cons (.same rfl rfl) (.cons (.same rfl rfl) (.cons (.same rfl rfl) (.cons (.same rfl rfl) .nil))))), (.cons (.blk rfl rfl rfl) .nil), nd_of [0] rfl (by decide), (fun i hi => by first | rfl | (show (if _ then _ else _) = _; (repeat' split) <;> omega))⟩, ?_, ?_⟩
            exact h
            exact Nat.lt_succ_self _
        ·
          replace h := bif_f h hc22
          refine iwp_exit ?_
          refine thenQ_e ?_
          refine thenQ_e ?_
          refine blockQ_e ?_
          refine thenQ_n ?_
          refine iwp_reg (ils_cons rfl (iop_assign rfl rfl (by decide) (sv (d := .bool true) rfl)) <|
            ils_end ?_)
          refine iwp_ret ?_
          obtain rfl := Option.some.inj h
          refine ⟨.inr rfl, (.cons (sv rfl) .nil)⟩

set_option maxRecDepth 8000 in
set_option maxHeartbeats 4000000 in
theorem p_slices_Grow_int_int_h_n (a0 : Int) (r : List Int) (h : slices_Grow_int_int_h_n a0 = some r) : FnH Try.prog 62 [.nils, .int .i64 a0] [] (.osl 0 (eInt .i64).sz r.length) [(0, .blk 3 (D.flat (r.map (eInt .i64).d)))] := by
  replace h : growS 8 a0 = some r := h
  obtain ⟨n, rfl, hm, hb, rfl⟩ := growS_e h
  refine fnh_of_iwp (rs := [.osl 0 (eInt .i64).sz 0]) Try.func62 rfl Try.ntmps62 (nle rfl) fun O hO => ?_
  show IWP _ _ _ _ ⟨[(0, .nils), (1, .int .i64 (n : Int))], []⟩ _
  have w1 : IntKind.wrap .i64 ((n : Int) - 0) = (n : Int) := wS (b := 0) (Nat.zero_le _) hm
  refine iwp_reg (ils_cons rfl (iop_assign rfl rfl (by decide) (sv (d := .nils) rfl)) <| ils_end ?_)
  refine iwp_seq ?_
  refine iwp_reg (ils_cons rfl (iop_move rfl rfl (by decide) (sv (d := .int _ _) rfl)) <| ils_cons rfl (iop_cmpx rfl rfl (by decide) (sv (d := .int _ _) rfl) (sv (d := .int _ 0) rfl) rfl rfl) <| ils_end ?_)
  refine iwp_cond_f rfl (decide_eq_false (by omega)) ?_
  refine iwp_skip ?_
  refine thenQ_n ?_
  refine iwp_seq ?_
  refine iwp_reg (ils_cons rfl (iop_move rfl rfl (by decide) (sv (d := .int _ _) rfl)) <| ils_cons rfl (iop_move rfl rfl (by decide) (sv (d := .nils) rfl)) <| ils_cons rfl (iop_cap_nils rfl rfl (by decide) Try.underlying22 (sv (d := .nils) rfl) rfl) <|
    ils_cons rfl (iop_move rfl rfl (by decide) (sv (d := .nils) rfl)) <| ils_cons rfl (iop_lenT (eInt .i64) (l := []) (b := false) rfl rfl (by decide) Try.underlying22 (svn rfl)) <|
    ils_cons rfl (iop_intx rfl rfl (by decide) (sv (d := .int _ 0) rfl) (sv (d := .int _ 0) rfl) rfl (c' := 0) rfl) <| ils_cons rfl (iop_intx rfl rfl (by decide) (sv (d := .int _ _) rfl) (sv (d := .int _ 0) rfl) rfl w1) <|
    ils_cons rfl (iop_assign rfl rfl (by decide) (sv (d := .int _ _) rfl)) <| ils_end ?_)
  refine iwp_reg (ils_cons rfl (iop_move rfl rfl (by decide) (sv (d := .int _ _) rfl)) <| ils_cons rfl (iop_cmpx rfl rfl (by decide) (sv (d := .int _ _) rfl) (sv (d := .int _ 0) rfl) rfl rfl) <| ils_end ?_)
  refine iwp_cond (b := _) rfl (fun h1 => ?_) (fun h1 => ?_)
  · have h2 := of_decide_eq_true h1
    have hn : 0 < n := by omega
    refine iwp_region (ils_cons rfl (iop_move rfl rfl (by decide) (sv (d := .nils) rfl)) <| ils_cons rfl (iop_move rfl rfl (by decide) (sv (d := .nils) rfl)) <| ils_cons rfl (iop_cap_nils rfl rfl (by decide) Try.underlying22 (sv (d := .nils) rfl) rfl) <|
      ils_cons rfl (iop_slice_nilsH rfl rfl (by decide) Try.underlying22 ti3 (sv (d := .nils) rfl) (sv (d := .int _ 0) rfl)) <| ils_cons rfl (iop_move rfl rfl (by decide) (sv (d := .int _ _) rfl)) <|
      ils_cons rfl (iop_app_made_nil (k := n) 0 rfl rfl (by decide) Try.underlying22 Try.underlying3 ti3 rfl (eInt .i64).pos (sv (d := .nils) rfl) rfl (sv (d := .int _ _) rfl) rfl hn hm hb) <|
      ils_cons rfl (iop_move rfl rfl (by decide) (sv (d := .nils) rfl)) <| ils_cons rfl (iop_lenT (eInt .i64) (l := []) (b := false) rfl rfl (by decide) Try.underlying22 (svn rfl)) <|
      ils_cons rfl (iop_trunc0 rfl rfl (by decide) Try.underlying22 ti3 (sv (d := .osl _ _ _) rfl) rfl (sv (d := .int _ 0) rfl)) <|
      ils_cons rfl (iop_assign rfl rfl (by decide) (sv (d := .osl _ _ _) rfl)) <| ils_nil ?_)
    refine thenQ_n ?_
    refine iwp_reg (ils_cons rfl (iop_move rfl rfl (by decide) (sv (d := .osl _ _ _) rfl)) <| ils_cons rfl (iop_assign rfl rfl (by decide) (sv (d := .osl _ _ _) rfl)) <| ils_end ?_)
    refine iwp_ret ?_
    refine ⟨.inr rfl, (fun i => i), ⟨.nil, (.cons (EntW.lst rfl) .nil), nd_of [0] rfl (by decide), (fun i hi => by first | rfl | (show (if _ then _ else _) = _; (repeat' split) <;> omega))⟩, (.cons (sv rfl) .nil), rfl⟩
  · refine iwp_skip ?_
    refine thenQ_n ?_
    refine iwp_reg (ils_cons rfl (iop_move rfl rfl (by decide) (sv (d := .nils) rfl)) <| ils_cons rfl (iop_assign rfl rfl (by decide) (sv (d := .nils) rfl)) <| ils_end ?_)
    refine iwp_ret ?_
    refine ⟨.inr rfl, (fun i => if i = 0 then 50 else i), ⟨.nil, (.cons (.nilb rfl) .nil), nd_of [50] rfl (by decide), (fun i hi => by first | rfl | (show (if _ then _ else _) = _; (repeat' split) <;> omega))⟩, (.cons (svno rfl) .nil), rfl⟩

set_option maxRecDepth 8000 in
set_option maxHeartbeats 2000000 in
theorem p_slices_Concat_int_int (a0 : (List (List Int))) (r : (List Int)) (h : slices_Concat_int_int a0 = some r) : PureAt Try.prog 58 [.slice false (a0.map (eLst (eInt .i64)).d)] (.slice false (r.map (eInt .i64).d)) := by
  refine pure_of_iwpF (rs := [.slice false (r.map (eInt .i64).d)]) Try.func58 rfl Try.ntmps58 (nle rfl) rfl fun O hO => ?_
  show IWP _ _ _ _ ⟨[(0, .slice false (a0.map (eLst (eInt .i64)).d))], []⟩ _
  unfold slices_Concat_int_int at h
  refine iwp_reg (ils_cons rfl (iop_assign rfl rfl (by decide) (sv (d := .nils) rfl)) <|
    ils_end ?_)
  refine iwp_reg (ils_cons rfl (iop_assign rfl rfl (by decide) (sv (d := .int _ 0) rfl)) <|
    ils_end ?_)
  refine iwp_seq ?_
  refine iwp_reg (ils_cons rfl (iop_move rfl rfl (by decide) (sv (d := .slice _ _) rfl)) <|
    ils_cons rfl (iop_lenT (eLst (eInt .i64)) (l := a0) rfl rfl (by decide) Try.underlying96 (sv (d := .slice _ _) rfl)) <|
    ils_cons rfl (iop_move rfl rfl (by decide) (sv (d := .int _ 0) rfl)) <|
    ils_end ?_)
  refine iwp_block ?_
  refine iwp_loopP (α := Nat × Int × Int) (fun z => ⟨[(0, .slice false (a0.map (eLst (eInt .i64)).d)), (3, .int .i64 z.2.1), (9, .slice false (a0.map (eLst (eInt .i64)).d)), (10, .int .i64 (a0.length : Int)), (11, .int .i64 z.2.2)], []⟩) (fun z => slices_Concat_int_int_L0 a0 z.1 z.2.1 z.2.2 = some r) (fun z => z.1) (fuel, 0, 0) (fun i => i) ⟨(.cons (.same rfl rfl) (.cons (.same rfl rfl) (.cons (.same rfl rfl) (.cons (.same rfl rfl) (.cons (.same rfl rfl) .nil))))), .nil, nd_of [] rfl (by decide), (fun i hi => by first | rfl | (show (if _ then _ else _) = _; (repeat' split) <;> omega))⟩ ?_ ?_
  · exact h
  ·
    rintro ⟨n0, v8, v9⟩ h
    cases n0 with
    | zero => exact absurd h (by unfold slices_Concat_int_int_L0; exact nofun)
    | succ n0 =>
      unfold slices_Concat_int_int_L0 at h
      obtain ⟨x17, hx17, h⟩ := bnd_e h
      refine iwp_reg (ils_cons rfl (iop_cmpx rfl rfl (by decide) (sv (d := .int _ _) rfl) (sv (d := .int _ _) rfl) rfl hx17) <|
        ils_end ?_)
      refine iwp_seq ?_
      refine iwp_cond (b := _) rfl (fun hc18 => ?_) (fun hc18 => ?_)
      ·
        replace h := bif_t h hc18
        refine iwp_skip ?_
        refine thenQ_n ?_
        refine iwp_seq ?_
        refine iwp_block ?_
        obtain ⟨x19, hx19, h⟩ := bno_e h
        refine iwp_reg (ils_cons rfl (iop_idxT (eLst (eInt .i64)) (cs := [.slice _ _]) rfl rfl (by decide) Try.underlying96 ti22 (sv (d := .slice _ _) rfl) (sv (d := .int _ _) rfl) hx19 rfl rfl) <|
          ils_cons rfl (iop_load_fs rfl rfl (by decide) Try.underlying22 ag22 ti22 (by decide) (sv (d := .fptr [.slice _ _]) rfl) (nle rfl)) <|
          ils_cons rfl (iop_assign rfl rfl (by decide) (sv (d := .slice _ _) rfl)) <|
          ils_end ?_)
        obtain ⟨x20, hx20, h⟩ := bnd_e h
        refine iwp_reg (ils_cons rfl (iop_move rfl rfl (by decide) (sv (d := .int _ _) rfl)) <|
          ils_cons rfl (iop_move rfl rfl (by decide) (sv (d := .slice _ _) rfl)) <|
          ils_cons rfl (iop_lenT (eInt .i64) (l := x19) rfl rfl (by decide) Try.underlying22 (sv (d := .slice _ _) rfl)) <|
          ils_cons rfl (iop_intx rfl rfl (by decide) (sv (d := .int _ _) rfl) (sv (d := .int _ _) rfl) rfl hx20) <|
          ils_cons rfl (iop_assign rfl rfl (by decide) (sv (d := .int _ _) rfl)) <|
          ils_end ?_)
        obtain ⟨x21, hx21, h⟩ := bnd_e h
        refine iwp_reg (ils_cons rfl (iop_move rfl rfl (by decide) (sv (d := .int _ _) rfl)) <|
          ils_cons rfl (iop_cmpx rfl rfl (by decide) (sv (d := .int _ _) rfl) (sv (d := .int _ 0) rfl) rfl hx21) <|
          ils_end ?_)
        refine iwp_cond (b := _) rfl (fun hc22 => ?_) (fun hc22 => ?_)
        ·
          replace h := bif_t h hc22
          cases h
        ·
          replace h := bif_f h hc22
          refine iwp_skip ?_
          refine blockQ_n ?_
          refine thenQ_n ?_
          obtain ⟨x23, hx23, h⟩ := bnd_e h
          refine iwp_region (ils_cons rfl (iop_intx rfl rfl (by decide) (sv (d := .int _ _) rfl) (sv (d := .int _ 1) rfl) rfl hx23) <|
            ils_cons rfl (iop_move rfl rfl (by decide) (sv (d := .int _ _) rfl)) <|
            ils_nil ?_)
          refine thenQ_n ⟨(n0, x20, x23), (fun i => i), ⟨(.cons (.same rfl rfl) (.cons (.same rfl rfl) (.cons (.same rfl rfl) (.cons (.same rfl rfl) (.cons (.same rfl rfl) .nil))))), .nil, nd_of [] rfl (by decide), (fun i hi => by first | rfl | (show (if _ then _ else _) = _; (repeat' split) <;> omega))⟩, ?_, ?_⟩
          exact h
          exact Nat.lt_succ_self _
      ·
        replace h := bif_f h hc18
        refine iwp_exit ?_
        refine thenQ_e ?_
        refine thenQ_e ?_
        refine blockQ_e ?_
        refine thenQ_n ?_
        obtain ⟨x24, hx24, h⟩ := bno_e h
        refine iwp_reg (ils_cons rfl (iop_move rfl rfl (by decide) (sv (d := .int _ _) rfl)) <|
          ils_cons rfl (iop_callh2 (r' := .osl 0 (eInt .i64).sz x24.length) (H1' := [(0, .blk 3 (D.flat (x24.map (eInt .i64).d)))]) 0 [] rfl rfl (by decide) cl62 (.cons (sv (d := .nils) rfl) (.cons (sv (d := .int _ _) rfl) .nil)) rfl rfl ⟨rfl, rfl, by decide, rfl, List.forall_mem_nil _⟩ (p_slices_Grow_int_int_h_n _ _ hx24) rfl rfl (List.forall_mem_cons.2 ⟨⟨rfl, (handLr (eInt .i64))⟩, List.forall_mem_nil _⟩) (by simp only [List.map_cons, List.map_nil, Ent.ren, renL_flat, renL_ref]; rfl)) <|
          ils_cons rfl (iop_assign rfl rfl (by decide) (sv (d := .osl _ _ _) rfl)) <|
          ils_end ?_)
        refine iwp_seq ?_
        refine iwp_reg (ils_cons rfl (iop_move rfl rfl (by decide) (sv (d := .slice _ _) rfl)) <|
          ils_cons rfl (iop_lenT (eLst (eInt .i64)) (l := a0) rfl rfl (by decide) Try.underlying96 (sv (d := .slice _ _) rfl)) <|
          ils_cons rfl (iop_move rfl rfl (by decide) (sv (d := .int _ 0) rfl)) <|
          ils_end ?_)
        refine iwp_block ?_
        refine iwp_loopP (α := Nat × (List Int) × Int) (fun z => ⟨[(6, .osl 0 (eInt .i64).sz z.2.1.length), (25, .slice false (a0.map (eLst (eInt .i64)).d)), (26, .int .i64 (a0.length : Int)), (27, .int .i64 z.2.2)], [(0, .blk 3 (D.flat (z.2.1.map (eInt .i64).d)))]⟩) (fun z => slices_Concat_int_int_L1 a0 z.1 z.2.1 z.2.2 = some r) (fun z => z.1) (fuel, x24, 0) (fun i => i) ⟨(.cons (.same rfl rfl) (.cons (.same rfl rfl) (.cons (.same rfl rfl) (.cons (.same rfl rfl) .nil)))), (.cons (EntW.lst rfl) .nil), nd_of [0] rfl (by decide), (fun i hi => by first | rfl | (show (if _ then _ else _) = _; (repeat' split) <;> omega))⟩ ?_ ?_
        · exact h
        ·
          rintro ⟨n1, v30, v31⟩ h
          cases n1 with
          | zero => exact absurd h (by unfold slices_Concat_int_int_L1; exact nofun)
          | succ n1 =>
            unfold slices_Concat_int_int_L1 at h
            obtain ⟨x37, hx37, h⟩ := bnd_e h
            refine iwp_reg (ils_cons rfl (iop_cmpx rfl rfl (by decide) (sv (d := .int _ _) rfl) (sv (d := .int _ _) rfl) rfl hx37) <|
              ils_end ?_)
            refine iwp_seq ?_
            refine iwp_cond (b := _) rfl (fun hc38 => ?_) (fun hc38 => ?_)
            ·
              replace h := bif_t h hc38
              refine iwp_skip ?_
              refine thenQ_n ?_
              refine iwp_seq ?_
              refine iwp_block ?_
              obtain ⟨x39, hx39, h⟩ := bno_e h
              refine iwp_reg (ils_cons rfl (iop_idxT (eLst (eInt .i64)) (cs := [.slice _ _]) rfl rfl (by decide) Try.underlying96 ti22 (sv (d := .slice _ _) rfl) (sv (d := .int _ _) rfl) hx39 rfl rfl) <|
                ils_cons rfl (iop_load_fs rfl rfl (by decide) Try.underlying22 ag22 ti22 (by decide) (sv (d := .fptr [.slice _ _]) rfl) (nle rfl)) <|
                ils_cons rfl (iop_assign rfl rfl (by decide) (sv (d := .slice _ _) rfl)) <|
                ils_end ?_)
              obtain ⟨x40, hx40, h⟩ := bno_e h
              refine iwp_region (ils_cons rfl (iop_move rfl rfl (by decide) (sv (d := .osl _ _ _) rfl)) <|
                ils_cons rfl (iop_move rfl rfl (by decide) (sv (d := .slice _ _) rfl)) <|
                ils_cons rfl (iop_appO (eInt .i64).toEnc0 1 rfl rfl (by decide) Try.underlying22 ti3 rfl rfl rfl rfl rfl (src_T (eInt .i64) (ys := x39) (sv (d := .slice _ _) rfl)) hx40) <|
                ils_cons rfl (iop_assign rfl rfl (by decide) (sv (d := .osl _ _ _) rfl)) <|
                ils_nil ?_)
              refine blockQ_n ?_
              refine thenQ_n ?_
              obtain ⟨x41, hx41, h⟩ := bnd_e h
              refine iwp_region (ils_cons rfl (iop_intx rfl rfl (by decide) (sv (d := .int _ _) rfl) (sv (d := .int _ 1) rfl) rfl hx41) <|
                ils_cons rfl (iop_move rfl rfl (by decide) (sv (d := .int _ _) rfl)) <|
                ils_nil ?_)
              refine thenQ_n ⟨(n1, x40, x41), (fun i => if i = 0 then 1 else i), ⟨(.cons (.same rfl rfl) (.cons (.same rfl rfl) (.cons (.same rfl rfl) (.cons (.same rfl rfl) .nil)))), (.cons (EntW.lst rfl) .nil), nd_of [1] rfl (by decide), (fun i hi => by first | rfl | (show (if _ then _ else _) = _; (repeat' split) <;> omega))⟩, ?_, ?_⟩
              exact h
              exact Nat.lt_succ_self _
            ·
              replace h := bif_f h hc38
              refine iwp_exit ?_
              refine thenQ_e ?_
              refine thenQ_e ?_
              refine blockQ_e ?_
              refine thenQ_n ?_
              refine iwp_reg (ils_cons rfl (iop_move rfl rfl (by decide) (sv (d := .osl _ _ _) rfl)) <|
                ils_cons rfl (iop_assign rfl rfl (by decide) (sv (d := .osl _ _ _) rfl)) <|
                ils_end ?_)
              refine iwp_ret ?_
              obtain rfl := Option.some.inj h
              refine ⟨.inr rfl, _, (.cons (sv rfl) .nil), (.cons (FDT (eInt .i64) rfl rfl) .nil)⟩

set_option maxRecDepth 8000 in
set_option maxHeartbeats 2000000 in
theorem p_stid_State_apart (a0 : T_stid_State) (r : Bool) (h : stid_State_apart a0 = some r) : PureAt Try.prog 49 [.agg [.bool a0.Odd, .int .i64 a0.Next, .int .i64 a0.Last, .slice false (a0.Live.map (eInt .i64).d), .slice false (a0.Cut.map (eInt .i64).d), .int .i64 a0.Mine, .int .i64 a0.Hers, .int .i64 a0.Heard, .int .i64 a0.Told]] (.bool r) := by
  refine pure_of_iwp (rs := [.bool r]) Try.func49 rfl Try.ntmps49 (nle rfl) rfl fun O hO => ?_
  show IWP _ _ _ _ ⟨[(0, .agg [.bool a0.Odd, .int .i64 a0.Next, .int .i64 a0.Last, .slice false (a0.Live.map (eInt .i64).d), .slice false (a0.Cut.map (eInt .i64).d), .int .i64 a0.Mine, .int .i64 a0.Hers, .int .i64 a0.Heard, .int .i64 a0.Told])], []⟩ _
  unfold stid_State_apart at h
  refine iwp_reg (ils_cons rfl (iop_box' (cs := [.bool _, .int _ _, .int _ _, .slice _ _, .slice _ _, .int _ _, .int _ _, .int _ _, .int _ _]) 0 rfl rfl (by decide) rfl (sv (d := .agg [.bool _, .int _ _, .int _ _, .slice _ _, .slice _ _, .int _ _, .int _ _, .int _ _, .int _ _]) rfl) rfl rfl) <|
    ils_cons rfl (iop_assign rfl rfl (by decide) (sv (d := .bool false) rfl)) <|
    ils_end ?_)
  refine iwp_scope ?_
  refine iwp_seq ?_
  obtain ⟨x1, hx1, h⟩ := bnd_e h
  refine iwp_reg (ils_cons rfl (iop_fieldAddr_ref rfl rfl (by decide) Try.underlying27 rfl ti22 (by decide) (sv (d := .ref _ _) rfl) (off' := 4) rfl) <|
    ils_cons rfl (iop_load_rs (d := .slice _ _) rfl rfl (by decide) Try.underlying22 ag22 ti22 (by decide) (sv (d := .ref _ _) rfl) rfl (nle rfl) rfl) <|
    ils_cons rfl (iop_lenT (eInt .i64) (l := a0.Cut) rfl rfl (by decide) Try.underlying22 (sv (d := .slice _ _) rfl)) <|
    ils_cons rfl (iop_cmpx rfl rfl (by decide) (sv (d := .int _ _) rfl) (sv (d := .int _ 8) rfl) rfl hx1) <|
    ils_end ?_)
  refine iwp_cond (b := _) rfl (fun hc2 => ?_) (fun hc2 => ?_)
  ·
    replace h := bif_t h hc2
    refine iwp_reg (ils_cons rfl (iop_assign rfl rfl (by decide) (sv (d := .bool false) rfl)) <|
      ils_end ?_)
    refine iwp_ret ?_
    refine thenQ_r ?_
    refine scopeQ_r ?_
    obtain rfl := Option.some.inj h
    refine ⟨.inr rfl, (.cons (sv rfl) .nil)⟩
  ·
    replace h := bif_f h hc2
    refine iwp_skip ?_
    refine thenQ_n ?_
    refine iwp_reg (ils_cons rfl (iop_assign rfl rfl (by decide) (sv (d := .bool true) rfl)) <|
      ils_end ?_)
    refine iwp_seq ?_
    refine iwp_label ?_
    refine thenQ_n ?_
    refine iwp_seq ?_
    refine iwp_reg (ils_cons rfl (iop_fieldAddr_ref rfl rfl (by decide) Try.underlying27 rfl ti22 (by decide) (sv (d := .ref _ _) rfl) (off' := 4) rfl) <|
      ils_cons rfl (iop_load_rs (d := .slice _ _) rfl rfl (by decide) Try.underlying22 ag22 ti22 (by decide) (sv (d := .ref _ _) rfl) rfl (nle rfl) rfl) <|
      ils_cons rfl (iop_lenT (eInt .i64) (l := a0.Cut) rfl rfl (by decide) Try.underlying22 (sv (d := .slice _ _) rfl)) <|
      ils_cons rfl (iop_move rfl rfl (by decide) (sv (d := .int _ 0) rfl)) <|
      ils_end ?_)
    refine iwp_block ?_
    refine iwp_loopP (α := Nat × Bool × Int) (fun z => ⟨[(1, .ref 0 0), (3, .bool z.2.1), (13, .slice false (a0.Cut.map (eInt .i64).d)), (14, .int .i64 (a0.Cut.length : Int)), (15, .int .i64 z.2.2)], [(0, .blk 27 [.bool a0.Odd, .int .i64 a0.Next, .int .i64 a0.Last, .slice false (a0.Live.map (eInt .i64).d), .slice false (a0.Cut.map (eInt .i64).d), .int .i64 a0.Mine, .int .i64 a0.Hers, .int .i64 a0.Heard, .int .i64 a0.Told])]⟩) (fun z => stid_State_apart_L0 a0 z.1 z.2.1 z.2.2 = some r) (fun z => z.1) (fuel, true, 0) (fun i => i) ⟨(.cons (.same rfl rfl) (.cons (.same rfl rfl) (.cons (.same rfl rfl) (.cons (.same rfl rfl) (.cons (.same rfl rfl) .nil))))), (.cons (.blk rfl rfl rfl) .nil), nd_of [0] rfl (by decide), (fun i hi => by first | rfl | (show (if _ then _ else _) = _; (repeat' split) <;> omega))⟩ ?_ ?_
    · exact h
    ·
      rintro ⟨n0, v30, v31⟩ h
      cases n0 with
      | zero => exact absurd h (by unfold stid_State_apart_L0; exact nofun)
      | succ n0 =>
        unfold stid_State_apart_L0 at h
        obtain ⟨x59, hx59, h⟩ := bnd_e h
        refine iwp_reg (ils_cons rfl (iop_cmpx rfl rfl (by decide) (sv (d := .int _ _) rfl) (sv (d := .int _ _) rfl) rfl hx59) <|
          ils_end ?_)
        refine iwp_seq ?_
        refine iwp_cond (b := _) rfl (fun hc60 => ?_) (fun hc60 => ?_)
        ·
          replace h := bif_t h hc60
          refine iwp_skip ?_
          refine thenQ_n ?_
          refine iwp_seq ?_
          refine iwp_block ?_
          obtain ⟨x61, hx61, h⟩ := bno_e h
          refine iwp_reg (ils_cons rfl (iop_move rfl rfl (by decide) (sv (d := .int _ _) rfl)) <|
            ils_cons rfl (iop_idxT (eInt .i64) (cs := [.int _ _]) rfl rfl (by decide) Try.underlying22 ti3 (sv (d := .slice _ _) rfl) (sv (d := .int _ _) rfl) hx61 rfl rfl) <|
            ils_cons rfl (iop_load_fs rfl rfl (by decide) Try.underlying3 ag3 ti3 (by decide) (sv (d := .fptr [.int _ _]) rfl) (nle rfl)) <|
            ils_cons rfl (iop_assign rfl rfl (by decide) (sv (d := .int _ _) rfl)) <|
            ils_cons rfl (iop_assign rfl rfl (by decide) (sv (d := .int _ _) rfl)) <|
            ils_end ?_)
          refine iwp_seq ?_
          obtain ⟨x62, hx62, h⟩ := bno_e h
          obtain ⟨x63, hx63, h⟩ := bno_e h
          refine iwp_drw rfl [⟨[1], [], [(20, .ref 0 3)], []⟩,
            ⟨[20], [0], [(21, .slice false (a0.Live.map (eInt .i64).d))], []⟩,
            ⟨[1], [], [(22, .ref 0 4)], []⟩,
            ⟨[22], [0], [(23, .slice false (a0.Cut.map (eInt .i64).d))], []⟩,
            ⟨[4], [], [(24, .int .i64 v31)], []⟩,
            ⟨[23, 24], [], [(25, .slice false (x62.map (eInt .i64).d))], []⟩,
            ⟨[21, 25], [1], [(26, .gsl 1 (eLst (eInt .i64)).sz (([a0.Live, x62] : (List (List Int))).map (eLst (eInt .i64)).d))], [(1, .tail 22 (eLst (eInt .i64)).sz ([a0.Live, x62] : (List (List Int))).length)]⟩,
            ⟨[26], [], [(27, .slice false (x63.map (eInt .i64).d))], []⟩,
            ⟨[27], [], [(28, .int .i64 (x63.length : Int))], []⟩,
            ⟨[], [], [(29, .int .i64 0)], []⟩] rfl ?_ (by kernel_rfl) ?_
          · refine .cons (lop rfl rfl fun S hA => (iop_fieldAddr_ref rfl rfl (by decide) Try.underlying27 rfl ti22 (by decide) (sv (d := .ref _ _) (agr hA rfl rfl)) (off' := 3) rfl)) ?_
            refine .cons (lop rfl rfl fun S hA => (iop_load_rs (d := .slice _ _) rfl rfl (by decide) Try.underlying22 ag22 ti22 (by decide) (sv (d := .ref _ _) (agr hA rfl rfl)) (agi hA rfl rfl) (nle rfl) rfl)) ?_
            refine .cons (lop rfl rfl fun S hA => (iop_fieldAddr_ref rfl rfl (by decide) Try.underlying27 rfl ti22 (by decide) (sv (d := .ref _ _) (agr hA rfl rfl)) (off' := 4) rfl)) ?_
            refine .cons (lop rfl rfl fun S hA => (iop_load_rs (d := .slice _ _) rfl rfl (by decide) Try.underlying22 ag22 ti22 (by decide) (sv (d := .ref _ _) (agr hA rfl rfl)) (agi hA rfl rfl) (nle rfl) rfl)) ?_
            refine .cons (lop rfl rfl fun S hA => (iop_move rfl rfl (by decide) (sv (d := .int _ _) (agr hA rfl rfl)))) ?_
            refine .cons (lop rfl rfl fun S hA => (iop_cutT (eInt .i64) rfl rfl (by decide) Try.underlying22 ti3 (sv (d := .slice _ _) (agr hA rfl rfl)) rfl ⟨_, (sv (d := .int _ _) (agr hA rfl rfl))⟩ hx62)) ?_
            refine .cons (lop rfl rfl fun S hA => (iop_bsT (eLst (eInt .i64)) ([a0.Live, x62] : (List (List Int))) 1 rfl rfl (by decide) Try.underlying96 ti22 (agi hA rfl rfl) (.cons (sv (d := .slice _ _) (agr hA rfl rfl)) (.cons (sv (d := .slice _ _) (agr hA rfl rfl)) .nil)) rfl rfl (by decide))) ?_
            refine .cons (lop rfl rfl fun S hA => (iop_call (r := .slice _ _) rfl rfl (by decide) cl58 (.cons (svg (agr hA rfl rfl)) .nil) rfl (p_slices_Concat_int_int _ _ hx63))) ?_
            refine .cons (lop rfl rfl fun S hA => (iop_lenT (eInt .i64) (l := x63) rfl rfl (by decide) Try.underlying22 (sv (d := .slice _ _) (agr hA rfl rfl)))) ?_
            refine .cons (lop rfl rfl fun S hA => (iop_move rfl rfl (by decide) (sv (d := .int _ 0) rfl))) ?_
            exact .nil
          refine iwp_block ?_
          refine iwp_loopP (α := Nat × Int) (fun z => ⟨[(1, .ref 0 0), (3, .bool v30), (13, .slice false (a0.Cut.map (eInt .i64).d)), (14, .int .i64 (a0.Cut.length : Int)), (15, .int .i64 v31), (5, .int .i64 x61), (27, .slice false (x63.map (eInt .i64).d)), (28, .int .i64 (x63.length : Int)), (29, .int .i64 z.2)], [(0, .blk 27 [.bool a0.Odd, .int .i64 a0.Next, .int .i64 a0.Last, .slice false (a0.Live.map (eInt .i64).d), .slice false (a0.Cut.map (eInt .i64).d), .int .i64 a0.Mine, .int .i64 a0.Hers, .int .i64 a0.Heard, .int .i64 a0.Told])]⟩) (fun z => stid_State_apart_L1 a0 v30 v31 (stid_State_apart_L0 a0 n0) x61 x63 z.1 z.2 = some r) (fun z => z.1) (fuel, 0) (fun i => i) ⟨(.cons (.same rfl rfl) (.cons (.same rfl rfl) (.cons (.same rfl rfl) (.cons (.same rfl rfl) (.cons (.same rfl rfl) (.cons (.same rfl rfl) (.cons (.same rfl rfl) (.cons (.same rfl rfl) (.cons (.same rfl rfl) .nil))))))))), (.cons (.blk rfl rfl rfl) .nil), nd_of [0] rfl (by decide), (fun i hi => by first | rfl | (show (if _ then _ else _) = _; (repeat' split) <;> omega))⟩ ?_ ?_
          · exact h
          ·
            rintro ⟨n1, v70⟩ h
            cases n1 with
            | zero => exact absurd h (by unfold stid_State_apart_L1; exact nofun)
            | succ n1 =>
              unfold stid_State_apart_L1 at h
              obtain ⟨x77, hx77, h⟩ := bnd_e h
              refine iwp_reg (ils_cons rfl (iop_cmpx rfl rfl (by decide) (sv (d := .int _ _) rfl) (sv (d := .int _ _) rfl) rfl hx77) <|
                ils_end ?_)
              refine iwp_seq ?_
              refine iwp_cond (b := _) rfl (fun hc78 => ?_) (fun hc78 => ?_)
              ·
                replace h := bif_t h hc78
                refine iwp_skip ?_
                refine thenQ_n ?_
                refine iwp_seq ?_
                refine iwp_block ?_
                obtain ⟨x79, hx79, h⟩ := bno_e h
                refine iwp_reg (ils_cons rfl (iop_idxT (eInt .i64) (cs := [.int _ _]) rfl rfl (by decide) Try.underlying22 ti3 (sv (d := .slice _ _) rfl) (sv (d := .int _ _) rfl) hx79 rfl rfl) <|
                  ils_cons rfl (iop_load_fs rfl rfl (by decide) Try.underlying3 ag3 ti3 (by decide) (sv (d := .fptr [.int _ _]) rfl) (nle rfl)) <|
                  ils_cons rfl (iop_assign rfl rfl (by decide) (sv (d := .int _ _) rfl)) <|
                  ils_end ?_)
                obtain ⟨x80, hx80, h⟩ := bnd_e h
                refine iwp_reg (ils_cons rfl (iop_move rfl rfl (by decide) (sv (d := .int _ _) rfl)) <|
                  ils_cons rfl (iop_move rfl rfl (by decide) (sv (d := .int _ _) rfl)) <|
                  ils_cons rfl (iop_cmpx rfl rfl (by decide) (sv (d := .int _ _) rfl) (sv (d := .int _ _) rfl) rfl hx80) <|
                  ils_end ?_)
                refine iwp_cond (b := _) rfl (fun hc81 => ?_) (fun hc81 => ?_)
                ·
                  replace h := bif_t h hc81
                  refine iwp_reg (ils_cons rfl (iop_assign rfl rfl (by decide) (sv (d := .bool false) rfl)) <|
                    ils_end ?_)
                  refine iwp_exit ?_
                  refine blockQ_x rfl ?_
                  refine thenQ_e ?_
                  refine thenQ_e ?_
                  refine blockQ_x rfl ?_
                  refine thenQ_e ?_
                  refine blockQ_x rfl ?_
                  refine thenQ_e ?_
                  refine thenQ_e ?_
                  refine blockQ_e ?_
                  refine thenQ_n ?_
                  refine iwp_reg (ils_cons rfl (iop_move rfl rfl (by decide) (sv (d := .bool _) rfl)) <|
                    ils_cons rfl (iop_assign rfl rfl (by decide) (sv (d := .bool _) rfl)) <|
                    ils_end ?_)
                  refine iwp_ret ?_
                  refine scopeQ_r ?_
                  obtain rfl := Option.some.inj h
                  refine ⟨.inr rfl, (.cons (sv rfl) .nil)⟩
                ·
                  replace h := bif_f h hc81
                  refine iwp_skip ?_
                  refine blockQ_n ?_
                  refine thenQ_n ?_
                  obtain ⟨x82, hx82, h⟩ := bnd_e h
                  refine iwp_region (ils_cons rfl (iop_intx rfl rfl (by decide) (sv (d := .int _ _) rfl) (sv (d := .int _ 1) rfl) rfl hx82) <|
                    ils_cons rfl (iop_move rfl rfl (by decide) (sv (d := .int _ _) rfl)) <|
                    ils_nil ?_)
                  refine thenQ_n ⟨(n1, x82), (fun i => i), ⟨(.cons (.same rfl rfl) (.cons (.same rfl rfl) (.cons (.same rfl rfl) (.cons (.same rfl rfl) (.cons (.same rfl rfl) (.cons (.same rfl rfl) (.cons (.same rfl rfl) (.cons (.same rfl rfl) (.cons (.same rfl rfl) .nil))))))))), (.cons (.blk rfl rfl rfl) .nil), nd_of [0] rfl (by decide), (fun i hi => by first | rfl | (show (if _ then _ else _) = _; (repeat' split) <;> omega))⟩, ?_, ?_⟩
                  exact h
                  exact Nat.lt_succ_self _
              ·
                replace h := bif_f h hc78
                refine iwp_exit ?_
                refine thenQ_e ?_
                refine thenQ_e ?_
                refine blockQ_e ?_
                refine thenQ_n ?_
                obtain ⟨x83, hx83, h⟩ := bno_e h
                obtain ⟨x84, hx84, h⟩ := bnd_e h
                refine iwp_region (ils_cons rfl (iop_move rfl rfl (by decide) (sv (d := .bool _) rfl)) <|
                  ils_cons rfl (iop_move rfl rfl (by decide) (sv (d := .bool _) rfl)) <|
                  ils_guard rfl rfl (.one rfl) rfl (by decide) (fun hb => (iop_load_ra (cs := [.bool _, .int _ _, .int _ _, .slice _ _, .slice _ _, .int _ _, .int _ _, .int _ _, .int _ _]) rfl rfl (by decide) Try.underlying27 ag27 ti27 (by decide) (sv (d := .ref _ _) rfl) rfl (nle rfl) rfl)) <|
                  ils_guard rfl rfl (.one rfl) rfl (by decide) (fun hb => (iop_move rfl rfl (by decide) (sv (d := .int _ _) rfl))) <|
                  ils_guard rfl rfl (.one rfl) rfl (by decide) (fun hb => (iop_call (r := .bool _) rfl rfl (by decide) cl46 (.cons (svc (d := .agg [.bool a0.Odd, .int .i64 a0.Next, .int .i64 a0.Last, .slice false (a0.Live.map (eInt .i64).d), .slice false (a0.Cut.map (eInt .i64).d), .int .i64 a0.Mine, .int .i64 a0.Hers, .int .i64 a0.Heard, .int .i64 a0.Told]) rfl hb) (.cons (svc (d := .int _ _) rfl hb) .nil)) rfl (p_stid_State_began _ _ _ (gd_t hx83 hb)))) <|
                  ils_cons rfl (iop_andx rfl rfl (by decide) (sv (d := .bool _) rfl) rfl rfl hx84) <|
                  ils_cons rfl (iop_assign rfl rfl (by decide) (sv (d := .bool _) rfl)) <|
                  ils_nil ?_)
                refine blockQ_n ?_
                refine thenQ_n ?_
                obtain ⟨x85, hx85, h⟩ := bnd_e h
                refine iwp_region (ils_cons rfl (iop_intx rfl rfl (by decide) (sv (d := .int _ _) rfl) (sv (d := .int _ 1) rfl) rfl hx85) <|
                  ils_cons rfl (iop_move rfl rfl (by decide) (sv (d := .int _ _) rfl)) <|
                  ils_nil ?_)
                refine thenQ_n ⟨(n0, x84, x85), (fun i => i), ⟨(.cons (.same rfl rfl) (.cons (.same rfl rfl) (.cons (.same rfl rfl) (.cons (.same rfl rfl) (.cons (.same rfl rfl) .nil))))), (.cons (.blk rfl rfl rfl) .nil), nd_of [0] rfl (by decide), (fun i hi => by first | rfl | (show (if _ then _ else _) = _; (repeat' split) <;> omega))⟩, ?_, ?_⟩
                exact h
                exact Nat.lt_succ_self _
        ·
          replace h := bif_f h hc60
          refine iwp_exit ?_
          refine thenQ_e ?_
          refine thenQ_e ?_
          refine blockQ_e ?_
          refine thenQ_n ?_
          refine iwp_reg (ils_cons rfl (iop_move rfl rfl (by decide) (sv (d := .bool _) rfl)) <|
            ils_cons rfl (iop_assign rfl rfl (by decide) (sv (d := .bool _) rfl)) <|
            ils_end ?_)
          refine iwp_ret ?_
          refine scopeQ_r ?_
          obtain rfl := Option.some.inj h
          refine ⟨.inr rfl, (.cons (sv rfl) .nil)⟩

set_option maxRecDepth 8000 in
set_option maxHeartbeats 2000000 in
theorem p_stid_Check (a0 : T_stid_State) (r : Int) (h : stid_Check a0 = some r) : PureAt Try.prog 26 [.agg [.bool a0.Odd, .int .i64 a0.Next, .int .i64 a0.Last, .slice false (a0.Live.map (eInt .i64).d), .slice false (a0.Cut.map (eInt .i64).d), .int .i64 a0.Mine, .int .i64 a0.Hers, .int .i64 a0.Heard, .int .i64 a0.Told]] (.int .i64 r) := by
  refine pure_of_iwp (rs := [.int .i64 r]) Try.func26 rfl Try.ntmps26 (nle rfl) rfl fun O hO => ?_
  show IWP _ _ _ _ ⟨[(0, .agg [.bool a0.Odd, .int .i64 a0.Next, .int .i64 a0.Last, .slice false (a0.Live.map (eInt .i64).d), .slice false (a0.Cut.map (eInt .i64).d), .int .i64 a0.Mine, .int .i64 a0.Hers, .int .i64 a0.Heard, .int .i64 a0.Told])], []⟩ _
  unfold stid_Check at h
  refine iwp_reg (ils_cons rfl (iop_box' (cs := [.bool _, .int _ _, .int _ _, .slice _ _, .slice _ _, .int _ _, .int _ _, .int _ _, .int _ _]) 0 rfl rfl (by decide) rfl (sv (d := .agg [.bool _, .int _ _, .int _ _, .slice _ _, .slice _ _, .int _ _, .int _ _, .int _ _, .int _ _]) rfl) rfl rfl) <|
    ils_cons rfl (iop_assign rfl rfl (by decide) (sv (d := .int _ 0) rfl)) <|
    ils_end ?_)
  refine iwp_seq ?_
  refine iwp_block ?_
  obtain ⟨x1, hx1, h⟩ := bno_e h
  refine iwp_reg (ils_cons rfl (iop_load_ra (cs := [.bool _, .int _ _, .int _ _, .slice _ _, .slice _ _, .int _ _, .int _ _, .int _ _, .int _ _]) rfl rfl (by decide) Try.underlying27 ag27 ti27 (by decide) (sv (d := .ref _ _) rfl) rfl (nle rfl) rfl) <|
    ils_cons rfl (iop_call (r := .bool _) rfl rfl (by decide) cl47 (.cons (sv (d := .agg [.bool _, .int _ _, .int _ _, .slice _ _, .slice _ _, .int _ _, .int _ _, .int _ _, .int _ _]) rfl) .nil) rfl (p_stid_State_numbers _ _ hx1)) <|
    ils_cons rfl (iop_not rfl rfl (by decide) (sv (d := .bool _) rfl)) <|
    ils_cons rfl (iop_assign rfl rfl (by decide) (sv (d := .bool _) rfl)) <|
    ils_end ?_)
  refine iwp_cond (b := _) rfl (fun hc2 => ?_) (fun hc2 => ?_)
  ·
    replace h := bif_t h hc2
    refine iwp_reg (ils_cons rfl (iop_assign rfl rfl (by decide) (sv (d := .int _ 8) rfl)) <|
      ils_end ?_)
    refine iwp_ret ?_
    refine blockQ_r ?_
    refine thenQ_r ?_
    obtain rfl := Option.some.inj h
    refine ⟨.inr rfl, (.cons (sv rfl) .nil)⟩
  ·
    replace h := bif_f h hc2
    obtain ⟨x3, hx3, h⟩ := bno_e h
    refine iwp_reg (ils_cons rfl (iop_load_ra (cs := [.bool _, .int _ _, .int _ _, .slice _ _, .slice _ _, .int _ _, .int _ _, .int _ _, .int _ _]) rfl rfl (by decide) Try.underlying27 ag27 ti27 (by decide) (sv (d := .ref _ _) rfl) rfl (nle rfl) rfl) <|
      ils_cons rfl (iop_call (r := .bool _) rfl rfl (by decide) cl48 (.cons (sv (d := .agg [.bool _, .int _ _, .int _ _, .slice _ _, .slice _ _, .int _ _, .int _ _, .int _ _, .int _ _]) rfl) .nil) rfl (p_stid_State_rises _ _ hx3)) <|
      ils_cons rfl (iop_not rfl rfl (by decide) (sv (d := .bool _) rfl)) <|
      ils_cons rfl (iop_assign rfl rfl (by decide) (sv (d := .bool _) rfl)) <|
      ils_end ?_)
    refine iwp_cond (b := _) rfl (fun hc4 => ?_) (fun hc4 => ?_)
    ·
      replace h := bif_t h hc4
      refine iwp_reg (ils_cons rfl (iop_assign rfl rfl (by decide) (sv (d := .int _ 4) rfl)) <|
        ils_end ?_)
      refine iwp_ret ?_
      refine blockQ_r ?_
      refine thenQ_r ?_
      obtain rfl := Option.some.inj h
      refine ⟨.inr rfl, (.cons (sv rfl) .nil)⟩
    ·
      replace h := bif_f h hc4
      obtain ⟨x5, hx5, h⟩ := bno_e h
      refine iwp_reg (ils_cons rfl (iop_load_ra (cs := [.bool _, .int _ _, .int _ _, .slice _ _, .slice _ _, .int _ _, .int _ _, .int _ _, .int _ _]) rfl rfl (by decide) Try.underlying27 ag27 ti27 (by decide) (sv (d := .ref _ _) rfl) rfl (nle rfl) rfl) <|
        ils_cons rfl (iop_call (r := .bool _) rfl rfl (by decide) cl49 (.cons (sv (d := .agg [.bool _, .int _ _, .int _ _, .slice _ _, .slice _ _, .int _ _, .int _ _, .int _ _, .int _ _]) rfl) .nil) rfl (p_stid_State_apart _ _ hx5)) <|
        ils_cons rfl (iop_not rfl rfl (by decide) (sv (d := .bool _) rfl)) <|
        ils_cons rfl (iop_assign rfl rfl (by decide) (sv (d := .bool _) rfl)) <|
        ils_end ?_)
      refine iwp_cond (b := _) rfl (fun hc6 => ?_) (fun hc6 => ?_)
      ·
        replace h := bif_t h hc6
        refine iwp_reg (ils_cons rfl (iop_assign rfl rfl (by decide) (sv (d := .int _ 10) rfl)) <|
          ils_end ?_)
        refine iwp_ret ?_
        refine blockQ_r ?_
        refine thenQ_r ?_
        obtain rfl := Option.some.inj h
        refine ⟨.inr rfl, (.cons (sv rfl) .nil)⟩
      ·
        replace h := bif_f h hc6
        refine iwp_skip ?_
        refine blockQ_n ?_
        refine thenQ_n ?_
        refine iwp_reg (ils_cons rfl (iop_assign rfl rfl (by decide) (sv (d := .int _ 0) rfl)) <|
          ils_end ?_)
        refine iwp_ret ?_
        obtain rfl := Option.some.inj h
        refine ⟨.inr rfl, (.cons (sv rfl) .nil)⟩

set_option maxRecDepth 8000 in
set_option maxHeartbeats 2000000 in
theorem p_stid_New (a0 : Bool) (a1 : Int) (a2 : Int) (r : (T_stid_State × Int)) (h : stid_New a0 a1 a2 = some r) : PureAt Try.prog 22 [.bool a0, .int .i64 a1, .int .i64 a2] (retD [.agg [.bool r.1.Odd, .int .i64 r.1.Next, .int .i64 r.1.Last, .slice false (r.1.Live.map (eInt .i64).d), .slice false (r.1.Cut.map (eInt .i64).d), .int .i64 r.1.Mine, .int .i64 r.1.Hers, .int .i64 r.1.Heard, .int .i64 r.1.Told], .int .i64 r.2]) := by
  refine pure_of_iwp (rs := [.agg [.bool r.1.Odd, .int .i64 r.1.Next, .int .i64 r.1.Last, .slice false (r.1.Live.map (eInt .i64).d), .slice false (r.1.Cut.map (eInt .i64).d), .int .i64 r.1.Mine, .int .i64 r.1.Hers, .int .i64 r.1.Heard, .int .i64 r.1.Told], .int .i64 r.2]) Try.func22 rfl Try.ntmps22 (nle rfl) rfl fun O hO => ?_
  show IWP _ _ _ _ ⟨[(0, .bool a0), (1, .int .i64 a1), (2, .int .i64 a2)], []⟩ _
  unfold stid_New at h
  refine iwp_reg (ils_cons rfl (iop_allocS (cs := [.bool _, .int _ _, .int _ _, .nils, .nils, .int _ _, .int _ _, .int _ _, .int _ _]) (cs' := [.bool false, .int .i64 0, .int .i64 0, .slice false (([] : List Int).map (eInt .i64).d), .slice false (([] : List Int).map (eInt .i64).d), .int .i64 0, .int .i64 0, .int .i64 0, .int .i64 0]) 0 rfl rfl (by decide) rfl ti27 rfl rfl (.cons (.refl _) (.cons (.refl _) (.cons (.refl _) (.cons (.nils _) (.cons (.nils _) (.cons (.refl _) (.cons (.refl _) (.cons (.refl _) (.cons (.refl _) .nil)))))))))) <|
    ils_cons rfl (iop_assign rfl rfl (by decide) (sv (d := .int _ 0) rfl)) <|
    ils_end ?_)
  refine iwp_reg (ils_cons rfl (iop_move rfl rfl (by decide) (sv (d := .bool _) rfl)) <|
    ils_cons rfl (iop_move rfl rfl (by decide) (sv (d := .int _ _) rfl)) <|
    ils_cons rfl (iop_move rfl rfl (by decide) (sv (d := .int _ _) rfl)) <|
    ils_cons rfl (iop_sub (d' := .agg [.bool a0, .int .i64 1, .int .i64 0, .slice false (([] : List Int).map (eInt .i64).d), .slice false (([] : List Int).map (eInt .i64).d), .int .i64 a1, .int .i64 a2, .int .i64 (-1), .int .i64 (-1)]) (iop_build_struct (cs := [.bool _, .int _ _, .int _ _, .nils, .nils, .int _ _, .int _ _, .int _ _, .int _ _]) rfl rfl (by decide) Try.underlying27 ti27 pl27 rfl (.cons (sv (d := .bool _) rfl) (.cons (sv (d := .int _ 1) rfl) (.cons (sv (d := .int _ _) rfl) (.cons (sv (d := .int _ _) rfl) (.cons (sv (d := .int _ (-1)) rfl) (.cons (sv (d := .int _ (-1)) rfl) .nil)))))) rfl) (.agg (.cons (.refl _) (.cons (.refl _) (.cons (.refl _) (.cons (.nils _) (.cons (.nils _) (.cons (.refl _) (.cons (.refl _) (.cons (.refl _) (.cons (.refl _) .nil))))))))))) <|
    ils_cons rfl (iop_allocS (cs := [.bool _, .int _ _, .int _ _, .nils, .nils, .int _ _, .int _ _, .int _ _, .int _ _]) (cs' := [.bool false, .int .i64 0, .int .i64 0, .slice false (([] : List Int).map (eInt .i64).d), .slice false (([] : List Int).map (eInt .i64).d), .int .i64 0, .int .i64 0, .int .i64 0, .int .i64 0]) 1 rfl rfl (by decide) rfl ti27 rfl rfl (.cons (.refl _) (.cons (.refl _) (.cons (.refl _) (.cons (.nils _) (.cons (.nils _) (.cons (.refl _) (.cons (.refl _) (.cons (.refl _) (.cons (.refl _) .nil)))))))))) <|
    ils_cons rfl (iop_store (ds' := [.bool _, .int _ _, .int _ _, .slice false (([] : List Int).map (eInt .i64).d), .slice false (([] : List Int).map (eInt .i64).d), .int _ _, .int _ _, .int _ _, .int _ _]) rfl rfl ti27 (sv (d := .ref _ _) rfl) rfl (sv (d := .agg [.bool _, .int _ _, .int _ _, .slice _ _, .slice _ _, .int _ _, .int _ _, .int _ _, .int _ _]) rfl) rfl rfl rfl (nle rfl) rfl) <|
    ils_end ?_)
  refine iwp_join (α := Int) (fun z => ⟨[(6, .ref 0 0), (8, .ref 1 0)], [(0, .blk 27 [.bool false, .int .i64 0, .int .i64 0, .slice false (([] : List Int).map (eInt .i64).d), .slice false (([] : List Int).map (eInt .i64).d), .int .i64 0, .int .i64 0, .int .i64 0, .int .i64 0]), (1, .blk 27 [.bool a0, .int .i64 z, .int .i64 0, .slice false (([] : List Int).map (eInt .i64).d), .slice false (([] : List Int).map (eInt .i64).d), .int .i64 a1, .int .i64 a2, .int .i64 (-1), .int .i64 (-1)])]⟩) (fun z => stid_New_J0 a0 a1 a2 z = some r) ?_ ?_
  ·
    refine iwp_reg (ils_cons rfl (iop_move rfl rfl (by decide) (sv (d := .bool _) rfl)) <|
      ils_cons rfl (iop_not rfl rfl (by decide) (sv (d := .bool _) rfl)) <|
      ils_end ?_)
    refine iwp_cond (b := _) rfl (fun hc7 => ?_) (fun hc7 => ?_)
    ·
      replace h := bif_t h hc7
      obtain ⟨x8, hx8, h⟩ := bnd_e h
      refine iwp_region (ils_cons rfl (iop_fieldAddr_ref rfl rfl (by decide) Try.underlying27 rfl ti3 (by decide) (sv (d := .ref _ _) rfl) (off' := 1) rfl) <|
        ils_cons rfl (iop_load_rs (d := .int _ _) rfl rfl (by decide) Try.underlying3 ag3 ti3 (by decide) (sv (d := .ref _ _) rfl) rfl (nle rfl) rfl) <|
        ils_cons rfl (iop_intx rfl rfl (by decide) (sv (d := .int _ _) rfl) (sv (d := .int _ 1) rfl) rfl hx8) <|
        ils_cons rfl (iop_fieldAddr_ref rfl rfl (by decide) Try.underlying27 rfl ti3 (by decide) (sv (d := .ref _ _) rfl) (off' := 1) rfl) <|
        ils_cons rfl (iop_store (ds' := [.bool _, .int _ _, .int _ _, .slice false (([] : List Int).map (eInt .i64).d), .slice false (([] : List Int).map (eInt .i64).d), .int _ _, .int _ _, .int _ _, .int _ _]) rfl rfl ti3 (sv (d := .ref _ _) rfl) rfl (sv (d := .int _ _) rfl) rfl rfl rfl (nle rfl) rfl) <|
        ils_nil ?_)
      refine thenQ_n ⟨x8, (fun i => i), ⟨(.cons (.same rfl rfl) (.cons (.same rfl rfl) .nil)), (.cons (.blk rfl rfl rfl) (.cons (.blk rfl rfl rfl) .nil)), nd_of [0, 1] rfl (by decide), (fun i hi => by first | rfl | (show (if _ then _ else _) = _; (repeat' split) <;> omega))⟩, ?_⟩
      exact h
    ·
      replace h := bif_f h hc7
      refine iwp_skip ?_
      refine thenQ_n ⟨1, (fun i => i), ⟨(.cons (.same rfl rfl) (.cons (.same rfl rfl) .nil)), (.cons (.blk rfl rfl rfl) (.cons (.blk rfl rfl rfl) .nil)), nd_of [0, 1] rfl (by decide), (fun i hi => by first | rfl | (show (if _ then _ else _) = _; (repeat' split) <;> omega))⟩, ?_⟩
      exact h
  ·
    rintro v3 h
    unfold stid_New_J0 at h
    refine iwp_seq ?_
    obtain ⟨x4, hx4, h⟩ := bno_e h
    refine iwp_reg (ils_cons rfl (iop_load_ra (cs := [.bool _, .int _ _, .int _ _, .slice _ _, .slice _ _, .int _ _, .int _ _, .int _ _, .int _ _]) rfl rfl (by decide) Try.underlying27 ag27 ti27 (by decide) (sv (d := .ref _ _) rfl) rfl (nle rfl) rfl) <|
      ils_cons rfl (iop_call (r := .int _ _) rfl rfl (by decide) cl26 (.cons (sv (d := .agg [.bool _, .int _ _, .int _ _, .slice _ _, .slice _ _, .int _ _, .int _ _, .int _ _, .int _ _]) rfl) .nil) rfl (p_stid_Check _ _ hx4)) <|
      ils_cons rfl (iop_assign rfl rfl (by decide) (sv (d := .int _ _) rfl)) <|
      ils_end ?_)
    obtain ⟨x5, hx5, h⟩ := bnd_e h
    refine iwp_reg (ils_cons rfl (iop_move rfl rfl (by decide) (sv (d := .int _ _) rfl)) <|
      ils_cons rfl (iop_cmpx rfl rfl (by decide) (sv (d := .int _ _) rfl) (sv (d := .int _ 0) rfl) rfl hx5) <|
      ils_end ?_)
    refine iwp_cond (b := _) rfl (fun hc6 => ?_) (fun hc6 => ?_)
    ·
      replace h := bif_t h hc6
      refine iwp_reg (ils_cons rfl (iop_sub (d' := .agg [.bool false, .int .i64 0, .int .i64 0, .slice false (([] : List Int).map (eInt .i64).d), .slice false (([] : List Int).map (eInt .i64).d), .int .i64 0, .int .i64 0, .int .i64 0, .int .i64 0]) (iop_build_struct (cs := [.bool _, .int _ _, .int _ _, .nils, .nils, .int _ _, .int _ _, .int _ _, .int _ _]) rfl rfl (by decide) Try.underlying27 ti27 pl27 rfl .nil rfl) (.agg (.cons (.refl _) (.cons (.refl _) (.cons (.refl _) (.cons (.nils _) (.cons (.nils _) (.cons (.refl _) (.cons (.refl _) (.cons (.refl _) (.cons (.refl _) .nil))))))))))) <|
        ils_cons rfl (iop_move rfl rfl (by decide) (sv (d := .int _ _) rfl)) <|
        ils_cons rfl (iop_store (ds' := [.bool _, .int _ _, .int _ _, .slice false (([] : List Int).map (eInt .i64).d), .slice false (([] : List Int).map (eInt .i64).d), .int _ _, .int _ _, .int _ _, .int _ _]) rfl rfl ti27 (sv (d := .ref _ _) rfl) rfl (sv (d := .agg [.bool _, .int _ _, .int _ _, .slice _ _, .slice _ _, .int _ _, .int _ _, .int _ _, .int _ _]) rfl) rfl rfl rfl (nle rfl) rfl) <|
        ils_cons rfl (iop_assign rfl rfl (by decide) (sv (d := .int _ _) rfl)) <|
        ils_end ?_)
      refine iwp_ret ?_
      refine thenQ_r ?_
      obtain rfl := Option.some.inj h
      refine ⟨.inr rfl, (.cons (resv_a rfl rfl Try.underlying27 ag27 ti27 (by decide) (nle rfl) rfl) (.cons (sv rfl) .nil))⟩
    ·
      replace h := bif_f h hc6
      refine iwp_skip ?_
      refine thenQ_n ?_
      refine iwp_reg (ils_cons rfl (iop_load_ra (cs := [.bool _, .int _ _, .int _ _, .slice _ _, .slice _ _, .int _ _, .int _ _, .int _ _, .int _ _]) rfl rfl (by decide) Try.underlying27 ag27 ti27 (by decide) (sv (d := .ref _ _) rfl) rfl (nle rfl) rfl) <|
        ils_cons rfl (iop_store (ds' := [.bool _, .int _ _, .int _ _, .slice false (([] : List Int).map (eInt .i64).d), .slice false (([] : List Int).map (eInt .i64).d), .int _ _, .int _ _, .int _ _, .int _ _]) rfl rfl ti27 (sv (d := .ref _ _) rfl) rfl (sv (d := .agg [.bool _, .int _ _, .int _ _, .slice _ _, .slice _ _, .int _ _, .int _ _, .int _ _, .int _ _]) rfl) rfl rfl rfl (nle rfl) rfl) <|
        ils_cons rfl (iop_assign rfl rfl (by decide) (sv (d := .int _ 0) rfl)) <|
        ils_end ?_)
      refine iwp_ret ?_
      obtain rfl := Option.some.inj h
      refine ⟨.inr rfl, (.cons (resv_a rfl rfl Try.underlying27 ag27 ti27 (by decide) (nle rfl) rfl) (.cons (sv rfl) .nil))⟩

set_option maxRecDepth 8000 in
set_option maxHeartbeats 2000000 in
theorem p_slices_Clone_int_int_h (a0 : (List Int)) (r : (List Int)) (h : slices_Clone_int_int_h a0 = some r) : FnH Try.prog 51 [.slice false (a0.map (eInt .i64).d)] [] (.osl 0 (eInt .i64).sz r.length) [(0, .blk 3 (D.flat (r.map (eInt .i64).d)))] := by
  refine fnh_of_iwp (rs := [.osl 0 (eInt .i64).sz r.length]) Try.func51 rfl Try.ntmps51 (nle rfl) fun O hO => ?_
  show IWP _ _ _ _ ⟨[(0, .slice false (a0.map (eInt .i64).d))], []⟩ _
  unfold slices_Clone_int_int_h at h
  refine iwp_reg (ils_cons rfl (iop_assign rfl rfl (by decide) (sv (d := .nils) rfl)) <|
    ils_end ?_)
  refine iwp_seq ?_
  refine iwp_reg (ils_cons rfl (iop_move rfl rfl (by decide) (sv (d := .slice _ _) rfl)) <|
    ils_eqnil rfl rfl rfl (by decide) Try.underlying22 (sv (d := .slice _ _) rfl) rfl <| fun bn1 hbn1 =>
    ils_end ?_)
  refine iwp_cond (b := _) rfl (fun hc2 => ?_) (fun hc2 => ?_)
  ·
    replace h := bothE_t h (mapE (hbn1 hc2))
    refine iwp_reg (ils_cons rfl (iop_assign rfl rfl (by decide) (sv (d := .nils) rfl)) <|
      ils_end ?_)
    refine iwp_ret ?_
    refine thenQ_r ?_
    obtain rfl := Option.some.inj h
    refine ⟨.inr rfl, (fun i => if i = 0 then 50 else i), ⟨.nil, (.cons (.nilb rfl) .nil), nd_of [50] rfl (by decide), (fun i hi => by first | rfl | (show (if _ then _ else _) = _; (repeat' split) <;> omega))⟩, (.cons (svno rfl) .nil), rfl⟩
  ·
    replace h := bothE_f h
    refine iwp_skip ?_
    refine thenQ_n ?_
    obtain ⟨x3, hx3, h⟩ := bno_e h
    refine iwp_reg (ils_cons rfl (iop_bsO (eInt .i64).toEnc0 ([] : (List Int)) 0 rfl rfl (by decide) Try.underlying22 ti3 rfl .nil rfl rfl (by decide)) <|
      ils_cons rfl (iop_move rfl rfl (by decide) (sv (d := .slice _ _) rfl)) <|
      ils_cons rfl (iop_appO (eInt .i64).toEnc0 1 rfl rfl (by decide) Try.underlying22 ti3 rfl rfl rfl rfl rfl (src_T (eInt .i64) (ys := a0) (sv (d := .slice _ _) rfl)) hx3) <|
      ils_cons rfl (iop_assign rfl rfl (by decide) (sv (d := .osl _ _ _) rfl)) <|
      ils_end ?_)
    refine iwp_ret ?_
    obtain rfl := Option.some.inj h
    refine ⟨.inr rfl, (fun i => if i = 0 then 1 else i), ⟨.nil, (.cons (EntW.lst rfl) .nil), nd_of [1] rfl (by decide), (fun i hi => by first | rfl | (show (if _ then _ else _) = _; (repeat' split) <;> omega))⟩, (.cons (sv rfl) .nil), rfl⟩

set_option maxRecDepth 8000 in
set_option maxHeartbeats 2000000 in
theorem p_stid_State_own_h (a0 : T_stid_State) (r : (Bool × Int × Int × (List Int) × (List Int) × Int × Int × Int × Int)) (h : stid_State_own_h a0 = some r) : FnH Try.prog 28 [.agg [.bool a0.Odd, .int .i64 a0.Next, .int .i64 a0.Last, .slice false (a0.Live.map (eInt .i64).d), .slice false (a0.Cut.map (eInt .i64).d), .int .i64 a0.Mine, .int .i64 a0.Hers, .int .i64 a0.Heard, .int .i64 a0.Told]] [] (.agg [.bool r.1, .int .i64 r.2.1, .int .i64 r.2.2.1, .osl 0 (eInt .i64).sz r.2.2.2.1.length, .osl 1 (eInt .i64).sz r.2.2.2.2.1.length, .int .i64 r.2.2.2.2.2.1, .int .i64 r.2.2.2.2.2.2.1, .int .i64 r.2.2.2.2.2.2.2.1, .int .i64 r.2.2.2.2.2.2.2.2]) [(0, .blk 3 (D.flat (r.2.2.2.1.map (eInt .i64).d))), (1, .blk 3 (D.flat (r.2.2.2.2.1.map (eInt .i64).d)))] := by
  refine fnh_of_iwp (rs := [.agg [.bool r.1, .int .i64 r.2.1, .int .i64 r.2.2.1, .osl 0 (eInt .i64).sz r.2.2.2.1.length, .osl 1 (eInt .i64).sz r.2.2.2.2.1.length, .int .i64 r.2.2.2.2.2.1, .int .i64 r.2.2.2.2.2.2.1, .int .i64 r.2.2.2.2.2.2.2.1, .int .i64 r.2.2.2.2.2.2.2.2]]) Try.func28 rfl Try.ntmps28 (nle rfl) fun O hO => ?_
  show IWP _ _ _ _ ⟨[(0, .agg [.bool a0.Odd, .int .i64 a0.Next, .int .i64 a0.Last, .slice false (a0.Live.map (eInt .i64).d), .slice false (a0.Cut.map (eInt .i64).d), .int .i64 a0.Mine, .int .i64 a0.Hers, .int .i64 a0.Heard, .int .i64 a0.Told])], []⟩ _
  unfold stid_State_own_h at h
  refine iwp_reg (ils_cons rfl (iop_box' (cs := [.bool _, .int _ _, .int _ _, .slice _ _, .slice _ _, .int _ _, .int _ _, .int _ _, .int _ _]) 0 rfl rfl (by decide) rfl (sv (d := .agg [.bool _, .int _ _, .int _ _, .slice _ _, .slice _ _, .int _ _, .int _ _, .int _ _, .int _ _]) rfl) rfl rfl) <|
    ils_cons rfl (iop_allocS (cs := [.bool _, .int _ _, .int _ _, .nils, .nils, .int _ _, .int _ _, .int _ _, .int _ _]) (cs' := [.bool false, .int .i64 0, .int .i64 0, .slice false (([] : List Int).map (eInt .i64).d), .slice false (([] : List Int).map (eInt .i64).d), .int .i64 0, .int .i64 0, .int .i64 0, .int .i64 0]) 1 rfl rfl (by decide) rfl ti27 rfl rfl (.cons (.refl _) (.cons (.refl _) (.cons (.refl _) (.cons (.nils _) (.cons (.nils _) (.cons (.refl _) (.cons (.refl _) (.cons (.refl _) (.cons (.refl _) .nil)))))))))) <|
    ils_end ?_)
  obtain ⟨x1, hx1, h⟩ := bno_e h
  obtain ⟨x2, hx2, h⟩ := bno_e h
  refine iwp_drw rfl [⟨[1], [], [(3, .ref 0 3)], []⟩,
    ⟨[3], [0], [(4, .slice false (a0.Live.map (eInt .i64).d))], []⟩,
    ⟨[4], [2], [(5, .osl 2 (eInt .i64).sz x1.length)], [(2, .blk 3 (D.flat (x1.map (eInt .i64).d)))]⟩,
    ⟨[1], [], [(6, .ref 0 4)], []⟩,
    ⟨[6], [0], [(7, .slice false (a0.Cut.map (eInt .i64).d))], []⟩,
    ⟨[7], [3], [(8, .osl 3 (eInt .i64).sz x2.length)], [(3, .blk 3 (D.flat (x2.map (eInt .i64).d)))]⟩,
    ⟨[1], [], [(9, .ref 0 3)], []⟩,
    ⟨[5, 9], [0], [], [(0, .blk 27 [.bool a0.Odd, .int .i64 a0.Next, .int .i64 a0.Last, .osl 2 (eInt .i64).sz x1.length, .slice false (a0.Cut.map (eInt .i64).d), .int .i64 a0.Mine, .int .i64 a0.Hers, .int .i64 a0.Heard, .int .i64 a0.Told])]⟩,
    ⟨[1], [], [(10, .ref 0 4)], []⟩,
    ⟨[8, 10], [0], [], [(0, .blk 27 [.bool a0.Odd, .int .i64 a0.Next, .int .i64 a0.Last, .osl 2 (eInt .i64).sz x1.length, .osl 3 (eInt .i64).sz x2.length, .int .i64 a0.Mine, .int .i64 a0.Hers, .int .i64 a0.Heard, .int .i64 a0.Told])]⟩] rfl ?_ (by kernel_rfl) ?_
  · refine .cons (lop rfl rfl fun S hA => (iop_fieldAddr_ref rfl rfl (by decide) Try.underlying27 rfl ti22 (by decide) (sv (d := .ref _ _) (agr hA rfl rfl)) (off' := 3) rfl)) ?_
    refine .cons (lop rfl rfl fun S hA => (iop_load_rs (d := .slice _ _) rfl rfl (by decide) Try.underlying22 ag22 ti22 (by decide) (sv (d := .ref _ _) (agr hA rfl rfl)) (agi hA rfl rfl) (nle rfl) rfl)) ?_
    refine .cons (lop rfl rfl fun S hA => (iop_callM (r' := .osl 2 (eInt .i64).sz x1.length) (U := [(2, .blk 3 (D.flat (x1.map (eInt .i64).d)))]) 2 1 [] rfl rfl (by decide) cl51 (.cons (sv (d := .slice _ _) (agr hA rfl rfl)) .nil) rfl rfl rfl (List.forall_mem_cons.2 ⟨(agi hA rfl rfl), List.forall_mem_nil _⟩) ⟨by decide, rfl, List.forall_mem_nil _⟩ (p_slices_Clone_int_int_h _ _ hx1) rfl rfl (List.forall_mem_cons.2 ⟨⟨rfl, (handLr (eInt .i64))⟩, List.forall_mem_nil _⟩) (by simp only [List.map_cons, List.map_nil, Ent.ren, renL_flat, renL_ref]; rfl))) ?_
    refine .cons (lop rfl rfl fun S hA => (iop_fieldAddr_ref rfl rfl (by decide) Try.underlying27 rfl ti22 (by decide) (sv (d := .ref _ _) (agr hA rfl rfl)) (off' := 4) rfl)) ?_
    refine .cons (lop rfl rfl fun S hA => (iop_load_rs (d := .slice _ _) rfl rfl (by decide) Try.underlying22 ag22 ti22 (by decide) (sv (d := .ref _ _) (agr hA rfl rfl)) (agi hA rfl rfl) (nle rfl) rfl)) ?_
    refine .cons (lop rfl rfl fun S hA => (iop_callM (r' := .osl 3 (eInt .i64).sz x2.length) (U := [(3, .blk 3 (D.flat (x2.map (eInt .i64).d)))]) 3 1 [] rfl rfl (by decide) cl51 (.cons (sv (d := .slice _ _) (agr hA rfl rfl)) .nil) rfl rfl rfl (List.forall_mem_cons.2 ⟨(agi hA rfl rfl), List.forall_mem_nil _⟩) ⟨by decide, rfl, List.forall_mem_nil _⟩ (p_slices_Clone_int_int_h _ _ hx2) rfl rfl (List.forall_mem_cons.2 ⟨⟨rfl, (handLr (eInt .i64))⟩, List.forall_mem_nil _⟩) (by simp only [List.map_cons, List.map_nil, Ent.ren, renL_flat, renL_ref]; rfl))) ?_
    refine .cons (lop rfl rfl fun S hA => (iop_fieldAddr_ref rfl rfl (by decide) Try.underlying27 rfl ti22 (by decide) (sv (d := .ref _ _) (agr hA rfl rfl)) (off' := 3) rfl)) ?_
    refine .cons (lop rfl rfl fun S hA => (iop_store (ds' := [.bool _, .int _ _, .int _ _, .osl _ _ _, .slice _ _, .int _ _, .int _ _, .int _ _, .int _ _]) rfl rfl ti22 (sv (d := .ref _ _) (agr hA rfl rfl)) (agi hA rfl rfl) (sv (d := .osl _ _ _) (agr hA rfl rfl)) rfl rfl rfl (nle rfl) rfl)) ?_
    refine .cons (lop rfl rfl fun S hA => (iop_fieldAddr_ref rfl rfl (by decide) Try.underlying27 rfl ti22 (by decide) (sv (d := .ref _ _) (agr hA rfl rfl)) (off' := 4) rfl)) ?_
    refine .cons (lop rfl rfl fun S hA => (iop_store (ds' := [.bool _, .int _ _, .int _ _, .osl _ _ _, .osl _ _ _, .int _ _, .int _ _, .int _ _, .int _ _]) rfl rfl ti22 (sv (d := .ref _ _) (agr hA rfl rfl)) (agi hA rfl rfl) (sv (d := .osl _ _ _) (agr hA rfl rfl)) rfl rfl rfl (nle rfl) rfl)) ?_
    exact .nil
  refine iwp_reg (ils_cons rfl (iop_load_ra (cs := [.bool _, .int _ _, .int _ _, .osl _ _ _, .osl _ _ _, .int _ _, .int _ _, .int _ _, .int _ _]) rfl rfl (by decide) Try.underlying27 ag27 ti27 (by decide) (sv (d := .ref _ _) rfl) rfl (nle rfl) rfl) <|
    ils_cons rfl (iop_store (ds' := [.bool _, .int _ _, .int _ _, .osl _ _ _, .osl _ _ _, .int _ _, .int _ _, .int _ _, .int _ _]) rfl rfl ti27 (sv (d := .ref _ _) rfl) rfl (sv (d := .agg [.bool _, .int _ _, .int _ _, .osl _ _ _, .osl _ _ _, .int _ _, .int _ _, .int _ _, .int _ _]) rfl) rfl rfl rfl (nle rfl) rfl) <|
    ils_end ?_)
  refine iwp_ret ?_
  obtain rfl := Option.some.inj h
  refine ⟨.inr rfl, (fun i => if i = 0 then 2 else if i = 1 then 3 else i), ⟨.nil, (.cons (EntW.lst rfl) (.cons (EntW.lst rfl) .nil)), nd_of [2, 3] rfl (by decide), (fun i hi => by first | rfl | (show (if _ then _ else _) = _; (repeat' split) <;> omega))⟩, (.cons (resv_a rfl rfl Try.underlying27 ag27 ti27 (by decide) (nle rfl) rfl) .nil), rfl⟩

set_option maxRecDepth 8000 in
set_option maxHeartbeats 2000000 in
theorem p_stid_Count (a0 : T_stid_State) (r : (Int × Int)) (h : stid_Count a0 = some r) : PureAt Try.prog 25 [.agg [.bool a0.Odd, .int .i64 a0.Next, .int .i64 a0.Last, .slice false (a0.Live.map (eInt .i64).d), .slice false (a0.Cut.map (eInt .i64).d), .int .i64 a0.Mine, .int .i64 a0.Hers, .int .i64 a0.Heard, .int .i64 a0.Told]] (retD [.int .i64 r.1, .int .i64 r.2]) := by
  refine pure_of_iwp (rs := [.int .i64 r.1, .int .i64 r.2]) Try.func25 rfl Try.ntmps25 (nle rfl) rfl fun O hO => ?_
  show IWP _ _ _ _ ⟨[(0, .agg [.bool a0.Odd, .int .i64 a0.Next, .int .i64 a0.Last, .slice false (a0.Live.map (eInt .i64).d), .slice false (a0.Cut.map (eInt .i64).d), .int .i64 a0.Mine, .int .i64 a0.Hers, .int .i64 a0.Heard, .int .i64 a0.Told])], []⟩ _
  unfold stid_Count at h
  refine iwp_reg (ils_cons rfl (iop_box' (cs := [.bool _, .int _ _, .int _ _, .slice _ _, .slice _ _, .int _ _, .int _ _, .int _ _, .int _ _]) 0 rfl rfl (by decide) rfl (sv (d := .agg [.bool _, .int _ _, .int _ _, .slice _ _, .slice _ _, .int _ _, .int _ _, .int _ _, .int _ _]) rfl) rfl rfl) <|
    ils_cons rfl (iop_assign rfl rfl (by decide) (sv (d := .int _ 0) rfl)) <|
    ils_cons rfl (iop_assign rfl rfl (by decide) (sv (d := .int _ 0) rfl)) <|
    ils_end ?_)
  refine iwp_reg (ils_cons rfl (iop_assign rfl rfl (by decide) (sv (d := .int _ 0) rfl)) <|
    ils_end ?_)
  refine iwp_seq ?_
  refine iwp_reg (ils_cons rfl (iop_fieldAddr_ref rfl rfl (by decide) Try.underlying27 rfl ti22 (by decide) (sv (d := .ref _ _) rfl) (off' := 3) rfl) <|
    ils_cons rfl (iop_load_rs (d := .slice _ _) rfl rfl (by decide) Try.underlying22 ag22 ti22 (by decide) (sv (d := .ref _ _) rfl) rfl (nle rfl) rfl) <|
    ils_cons rfl (iop_lenT (eInt .i64) (l := a0.Live) rfl rfl (by decide) Try.underlying22 (sv (d := .slice _ _) rfl)) <|
    ils_cons rfl (iop_move rfl rfl (by decide) (sv (d := .int _ 0) rfl)) <|
    ils_end ?_)
  refine iwp_block ?_
  refine iwp_loopP (α := Nat × Int × Int) (fun z => ⟨[(1, .ref 0 0), (4, .int .i64 z.2.1), (8, .slice false (a0.Live.map (eInt .i64).d)), (9, .int .i64 (a0.Live.length : Int)), (10, .int .i64 z.2.2)], [(0, .blk 27 [.bool a0.Odd, .int .i64 a0.Next, .int .i64 a0.Last, .slice false (a0.Live.map (eInt .i64).d), .slice false (a0.Cut.map (eInt .i64).d), .int .i64 a0.Mine, .int .i64 a0.Hers, .int .i64 a0.Heard, .int .i64 a0.Told])]⟩) (fun z => stid_Count_L0 a0 z.1 z.2.1 z.2.2 = some r) (fun z => z.1) (fuel, 0, 0) (fun i => i) ⟨(.cons (.same rfl rfl) (.cons (.same rfl rfl) (.cons (.same rfl rfl) (.cons (.same rfl rfl) (.cons (.same rfl rfl) .nil))))), (.cons (.blk rfl rfl rfl) .nil), nd_of [0] rfl (by decide), (fun i hi => by first | rfl | (show (if _ then _ else _) = _; (repeat' split) <;> omega))⟩ ?_ ?_
  · exact h
  ·
    rintro ⟨n0, v9, v10⟩ h
    cases n0 with
    | zero => exact absurd h (by unfold stid_Count_L0; exact nofun)
    | succ n0 =>
      unfold stid_Count_L0 at h
      obtain ⟨x19, hx19, h⟩ := bnd_e h
      refine iwp_reg (ils_cons rfl (iop_cmpx rfl rfl (by decide) (sv (d := .int _ _) rfl) (sv (d := .int _ _) rfl) rfl hx19) <|
        ils_end ?_)
      refine iwp_seq ?_
      refine iwp_cond (b := _) rfl (fun hc20 => ?_) (fun hc20 => ?_)
      ·
        replace h := bif_t h hc20
        refine iwp_skip ?_
        refine thenQ_n ?_
        refine iwp_seq ?_
        refine iwp_block ?_
        obtain ⟨x21, hx21, h⟩ := bno_e h
        refine iwp_reg (ils_cons rfl (iop_idxT (eInt .i64) (cs := [.int _ _]) rfl rfl (by decide) Try.underlying22 ti3 (sv (d := .slice _ _) rfl) (sv (d := .int _ _) rfl) hx21 rfl rfl) <|
          ils_cons rfl (iop_load_fs rfl rfl (by decide) Try.underlying3 ag3 ti3 (by decide) (sv (d := .fptr [.int _ _]) rfl) (nle rfl)) <|
          ils_cons rfl (iop_assign rfl rfl (by decide) (sv (d := .int _ _) rfl)) <|
          ils_end ?_)
        obtain ⟨x22, hx22, h⟩ := bno_e h
        refine iwp_reg (ils_cons rfl (iop_load_ra (cs := [.bool _, .int _ _, .int _ _, .slice _ _, .slice _ _, .int _ _, .int _ _, .int _ _, .int _ _]) rfl rfl (by decide) Try.underlying27 ag27 ti27 (by decide) (sv (d := .ref _ _) rfl) rfl (nle rfl) rfl) <|
          ils_cons rfl (iop_move rfl rfl (by decide) (sv (d := .int _ _) rfl)) <|
          ils_cons rfl (iop_call (r := .bool _) rfl rfl (by decide) cl24 (.cons (sv (d := .agg [.bool _, .int _ _, .int _ _, .slice _ _, .slice _ _, .int _ _, .int _ _, .int _ _, .int _ _]) rfl) (.cons (sv (d := .int _ _) rfl) .nil)) rfl (p_stid_Own _ _ _ hx22)) <|
          ils_end ?_)
        refine iwp_cond (b := _) rfl (fun hc23 => ?_) (fun hc23 => ?_)
        ·
          replace h := bif_t h hc23
          obtain ⟨x24, hx24, h⟩ := bnd_e h
          refine iwp_region (ils_cons rfl (iop_move rfl rfl (by decide) (sv (d := .int _ _) rfl)) <|
            ils_cons rfl (iop_intx rfl rfl (by decide) (sv (d := .int _ _) rfl) (sv (d := .int _ 1) rfl) rfl hx24) <|
            ils_cons rfl (iop_assign rfl rfl (by decide) (sv (d := .int _ _) rfl)) <|
            ils_nil ?_)
          refine blockQ_n ?_
          refine thenQ_n ?_
          obtain ⟨x25, hx25, h⟩ := bnd_e h
          refine iwp_region (ils_cons rfl (iop_intx rfl rfl (by decide) (sv (d := .int _ _) rfl) (sv (d := .int _ 1) rfl) rfl hx25) <|
            ils_cons rfl (iop_move rfl rfl (by decide) (sv (d := .int _ _) rfl)) <|
            ils_nil ?_)
          refine thenQ_n ⟨(n0, x24, x25), (fun i => i), ⟨(.cons (.same rfl rfl) (.cons (.same rfl rfl) (.cons (.same rfl rfl) (.cons (.same rfl rfl) (.cons (.same rfl rfl) .nil))))), (.cons (.blk rfl rfl rfl) .nil), nd_of [0] rfl (by decide), (fun i hi => by first | rfl | (show (if _ then _ else _) = _; (repeat' split) <;> omega))⟩, ?_, ?_⟩
          exact h
          exact Nat.lt_succ_self _
        ·
          replace h := bif_f h hc23
          refine iwp_skip ?_
          refine blockQ_n ?_
          refine thenQ_n ?_
          obtain ⟨x26, hx26, h⟩ := bnd_e h
          refine iwp_region (ils_cons rfl (iop_intx rfl rfl (by decide) (sv (d := .int _ _) rfl) (sv (d := .int _ 1) rfl) rfl hx26) <|
            ils_cons rfl (iop_move rfl rfl (by decide) (sv (d := .int _ _) rfl)) <|
            ils_nil ?_)
          refine thenQ_n ⟨(n0, v9, x26), (fun i => i), ⟨(.cons (.same rfl rfl) (.cons (.same rfl rfl) (.cons (.same rfl rfl) (.cons (.same rfl rfl) (.cons (.same rfl rfl) .nil))))), (.cons (.blk rfl rfl rfl) .nil), nd_of [0] rfl (by decide), (fun i hi => by first | rfl | (show (if _ then _ else _) = _; (repeat' split) <;> omega))⟩, ?_, ?_⟩
          exact h
          exact Nat.lt_succ_self _
      ·
        replace h := bif_f h hc20
        refine iwp_exit ?_
        refine thenQ_e ?_
        refine thenQ_e ?_
        refine blockQ_e ?_
        refine thenQ_n ?_
        obtain ⟨x27, hx27, h⟩ := bnd_e h
        refine iwp_drw rfl [⟨[4], [], [(20, .int .i64 v9)], []⟩,
          ⟨[1], [], [(21, .ref 0 3)], []⟩,
          ⟨[21], [0], [(22, .slice false (a0.Live.map (eInt .i64).d))], []⟩,
          ⟨[22], [], [(23, .int .i64 (a0.Live.length : Int))], []⟩,
          ⟨[4], [], [(24, .int .i64 v9)], []⟩,
          ⟨[23, 24], [], [(25, .int .i64 x27)], []⟩,
          ⟨[20], [], [(2, .int .i64 v9)], []⟩,
          ⟨[25], [], [(3, .int .i64 x27)], []⟩] rfl ?_ (by kernel_rfl) ?_
        · refine .cons (lop rfl rfl fun S hA => (iop_move rfl rfl (by decide) (sv (d := .int _ _) (agr hA rfl rfl)))) ?_
          refine .cons (lop rfl rfl fun S hA => (iop_fieldAddr_ref rfl rfl (by decide) Try.underlying27 rfl ti22 (by decide) (sv (d := .ref _ _) (agr hA rfl rfl)) (off' := 3) rfl)) ?_
          refine .cons (lop rfl rfl fun S hA => (iop_load_rs (d := .slice _ _) rfl rfl (by decide) Try.underlying22 ag22 ti22 (by decide) (sv (d := .ref _ _) (agr hA rfl rfl)) (agi hA rfl rfl) (nle rfl) rfl)) ?_
          refine .cons (lop rfl rfl fun S hA => (iop_lenT (eInt .i64) (l := a0.Live) rfl rfl (by decide) Try.underlying22 (sv (d := .slice _ _) (agr hA rfl rfl)))) ?_
          refine .cons (lop rfl rfl fun S hA => (iop_move rfl rfl (by decide) (sv (d := .int _ _) (agr hA rfl rfl)))) ?_
          refine .cons (lop rfl rfl fun S hA => (iop_intx rfl rfl (by decide) (sv (d := .int _ _) (agr hA rfl rfl)) (sv (d := .int _ _) (agr hA rfl rfl)) rfl hx27)) ?_
          refine .cons (lop rfl rfl fun S hA => (iop_assign rfl rfl (by decide) (sv (d := .int _ _) (agr hA rfl rfl)))) ?_
          refine .cons (lop rfl rfl fun S hA => (iop_assign rfl rfl (by decide) (sv (d := .int _ _) (agr hA rfl rfl)))) ?_
          exact .nil
        refine iwp_ret ?_
        obtain rfl := Option.some.inj h
        refine ⟨.inr rfl, (.cons (sv rfl) (.cons (sv rfl) .nil))⟩

set_option maxRecDepth 8000 in
set_option maxHeartbeats 2000000 in
theorem p_cmp_isNaN_int (a0 : Int) (r : Bool) (h : cmp_isNaN_int a0 = some r) : PureAt Try.prog 61 [.int .i64 a0] (.bool r) := by
  refine pure_of_iwp (rs := [.bool r]) Try.func61 rfl Try.ntmps61 (nle rfl) rfl fun O hO => ?_
  show IWP _ _ _ _ ⟨[(0, .int .i64 a0)], []⟩ _
  unfold cmp_isNaN_int at h
  refine iwp_reg (ils_cons rfl (iop_assign rfl rfl (by decide) (sv (d := .bool false) rfl)) <|
    ils_end ?_)
  obtain ⟨x1, hx1, h⟩ := bnd_e h
  refine iwp_reg (ils_cons rfl (iop_move rfl rfl (by decide) (sv (d := .int _ _) rfl)) <|
    ils_cons rfl (iop_move rfl rfl (by decide) (sv (d := .int _ _) rfl)) <|
    ils_cons rfl (iop_cmpx rfl rfl (by decide) (sv (d := .int _ _) rfl) (sv (d := .int _ _) rfl) rfl hx1) <|
    ils_cons rfl (iop_assign rfl rfl (by decide) (sv (d := .bool _) rfl)) <|
    ils_end ?_)
  refine iwp_ret ?_
  obtain rfl := Option.some.inj h
  refine ⟨.inr rfl, (.cons (sv rfl) .nil)⟩

set_option maxRecDepth 8000 in
set_option maxHeartbeats 2000000 in
theorem p_cmp_Less_int (a0 : Int) (a1 : Int) (r : Bool) (h : cmp_Less_int a0 a1 = some r) : PureAt Try.prog 55 [.int .i64 a0, .int .i64 a1] (.bool r) := by
  refine pure_of_iwp (rs := [.bool r]) Try.func55 rfl Try.ntmps55 (nle rfl) rfl fun O hO => ?_
  show IWP _ _ _ _ ⟨[(0, .int .i64 a0), (1, .int .i64 a1)], []⟩ _
  unfold cmp_Less_int at h
  refine iwp_reg (ils_cons rfl (iop_assign rfl rfl (by decide) (sv (d := .bool false) rfl)) <|
    ils_end ?_)
  obtain ⟨x1, hx1, h⟩ := bno_e h
  obtain ⟨x2, hx2, h⟩ := bno_e h
  obtain ⟨x3, hx3, h⟩ := bnd_e h
  obtain ⟨x4, hx4, h⟩ := bnd_e h
  obtain ⟨x5, hx5, h⟩ := bnd_e h
  refine iwp_reg (ils_cons rfl (iop_move rfl rfl (by decide) (sv (d := .int _ _) rfl)) <|
    ils_cons rfl (iop_call (r := .bool _) rfl rfl (by decide) cl61 (.cons (sv (d := .int _ _) rfl) .nil) rfl (p_cmp_isNaN_int _ _ hx1)) <|
    ils_cons rfl (iop_move rfl rfl (by decide) (sv (d := .bool _) rfl)) <|
    ils_guard rfl rfl (.one rfl) rfl (by decide) (fun hb => (iop_move rfl rfl (by decide) (sv (d := .int _ _) rfl))) <|
    ils_guard rfl rfl (.one rfl) rfl (by decide) (fun hb => (iop_call (r := .bool _) rfl rfl (by decide) cl61 (.cons (svc (d := .int _ _) rfl hb) .nil) rfl (p_cmp_isNaN_int _ _ (gd_t hx2 hb)))) <|
    ils_guard rfl rfl (.one rfl) rfl (by decide) (fun hb => (iop_not rfl rfl (by decide) (svc (d := .bool _) rfl hb))) <|
    ils_cons rfl (iop_andx rfl rfl (by decide) (sv (d := .bool _) rfl) rfl rfl hx3) <|
    ils_cons rfl (iop_move rfl rfl (by decide) (sv (d := .bool _) rfl)) <|
    ils_guard rfl rfl (.one rfl) rfl (by decide) (fun hb => (iop_move rfl rfl (by decide) (sv (d := .int _ _) rfl))) <|
    ils_guard rfl rfl (.one rfl) rfl (by decide) (fun hb => (iop_move rfl rfl (by decide) (sv (d := .int _ _) rfl))) <|
    ils_guard rfl rfl (.one rfl) rfl (by decide) (fun hb => (iop_cmpx rfl rfl (by decide) (svc (d := .int _ _) rfl hb) (svc (d := .int _ _) rfl hb) rfl hx4)) <|
    ils_cons rfl (iop_orx rfl rfl (by decide) (sv (d := .bool _) rfl) rfl rfl hx5) <|
    ils_cons rfl (iop_assign rfl rfl (by decide) (sv (d := .bool _) rfl)) <|
    ils_end ?_)
  refine iwp_ret ?_
  obtain rfl := Option.some.inj h
  refine ⟨.inr rfl, (.cons (sv rfl) .nil)⟩

set_option maxRecDepth 8000 in
set_option maxHeartbeats 2000000 in
theorem p_slices_isNaN_int (a0 : Int) (r : Bool) (h : slices_isNaN_int a0 = some r) : PureAt Try.prog 56 [.int .i64 a0] (.bool r) := by
  refine pure_of_iwp (rs := [.bool r]) Try.func56 rfl Try.ntmps56 (nle rfl) rfl fun O hO => ?_
  show IWP _ _ _ _ ⟨[(0, .int .i64 a0)], []⟩ _
  unfold slices_isNaN_int at h
  refine iwp_reg (ils_cons rfl (iop_assign rfl rfl (by decide) (sv (d := .bool false) rfl)) <|
    ils_end ?_)
  obtain ⟨x1, hx1, h⟩ := bnd_e h
  refine iwp_reg (ils_cons rfl (iop_move rfl rfl (by decide) (sv (d := .int _ _) rfl)) <|
    ils_cons rfl (iop_move rfl rfl (by decide) (sv (d := .int _ _) rfl)) <|
    ils_cons rfl (iop_cmpx rfl rfl (by decide) (sv (d := .int _ _) rfl) (sv (d := .int _ _) rfl) rfl hx1) <|
    ils_cons rfl (iop_assign rfl rfl (by decide) (sv (d := .bool _) rfl)) <|
    ils_end ?_)
  refine iwp_ret ?_
  obtain rfl := Option.some.inj h
  refine ⟨.inr rfl, (.cons (sv rfl) .nil)⟩

set_option maxRecDepth 8000 in
set_option maxHeartbeats 2000000 in
theorem p_slices_BinarySearch_int_int (a0 : (List Int)) (a1 : Int) (r : (Int × Bool)) (h : slices_BinarySearch_int_int a0 a1 = some r) : PureAt Try.prog 41 [.slice false (a0.map (eInt .i64).d), .int .i64 a1] (retD [.int .i64 r.1, .bool r.2]) := by
  refine pure_of_iwp (rs := [.int .i64 r.1, .bool r.2]) Try.func41 rfl Try.ntmps41 (nle rfl) rfl fun O hO => ?_
  show IWP _ _ _ _ ⟨[(0, .slice false (a0.map (eInt .i64).d)), (1, .int .i64 a1)], []⟩ _
  unfold slices_BinarySearch_int_int at h
  refine iwp_reg (ils_cons rfl (iop_assign rfl rfl (by decide) (sv (d := .int _ 0) rfl)) <|
    ils_cons rfl (iop_assign rfl rfl (by decide) (sv (d := .bool false) rfl)) <|
    ils_end ?_)
  refine iwp_reg (ils_cons rfl (iop_move rfl rfl (by decide) (sv (d := .slice _ _) rfl)) <|
    ils_cons rfl (iop_lenT (eInt .i64) (l := a0) rfl rfl (by decide) Try.underlying22 (sv (d := .slice _ _) rfl)) <|
    ils_cons rfl (iop_assign rfl rfl (by decide) (sv (d := .int _ _) rfl)) <|
    ils_end ?_)
  refine iwp_reg (ils_cons rfl (iop_move rfl rfl (by decide) (sv (d := .int _ _) rfl)) <|
    ils_cons rfl (iop_assign rfl rfl (by decide) (sv (d := .int _ 0) rfl)) <|
    ils_cons rfl (iop_assign rfl rfl (by decide) (sv (d := .int _ _) rfl)) <|
    ils_end ?_)
  refine iwp_seq ?_
  refine iwp_block ?_
  refine iwp_loopP (α := Nat × Int × Int) (fun z => ⟨[(0, .slice false (a0.map (eInt .i64).d)), (1, .int .i64 a1), (6, .int .i64 (a0.length : Int)), (7, .int .i64 z.2.1), (8, .int .i64 z.2.2)], []⟩) (fun z => slices_BinarySearch_int_int_L0 a0 a1 z.1 z.2.1 z.2.2 = some r) (fun z => z.1) (fuel, 0, (a0.length : Int)) (fun i => i) ⟨(.cons (.same rfl rfl) (.cons (.same rfl rfl) (.cons (.same rfl rfl) (.cons (.same rfl rfl) (.cons (.same rfl rfl) .nil))))), .nil, nd_of [] rfl (by decide), (fun i hi => by first | rfl | (show (if _ then _ else _) = _; (repeat' split) <;> omega))⟩ ?_ ?_
  · exact h
  ·
    rintro ⟨n0, v11, v12⟩ h
    cases n0 with
    | zero => exact absurd h (by unfold slices_BinarySearch_int_int_L0; exact nofun)
    | succ n0 =>
      unfold slices_BinarySearch_int_int_L0 at h
      refine iwp_seq ?_
      obtain ⟨x23, hx23, h⟩ := bnd_e h
      refine iwp_reg (ils_cons rfl (iop_move rfl rfl (by decide) (sv (d := .int _ _) rfl)) <|
        ils_cons rfl (iop_move rfl rfl (by decide) (sv (d := .int _ _) rfl)) <|
        ils_cons rfl (iop_cmpx rfl rfl (by decide) (sv (d := .int _ _) rfl) (sv (d := .int _ _) rfl) rfl hx23) <|
        ils_end ?_)
      refine iwp_cond (b := _) rfl (fun hc24 => ?_) (fun hc24 => ?_)
      ·
        replace h := bif_t h hc24
        refine iwp_skip ?_
        refine thenQ_n ?_
        refine iwp_block ?_
        obtain ⟨x25, hx25, h⟩ := bnd_e h
        obtain ⟨x26, hx26, h⟩ := bnd_e h
        obtain ⟨x27, hx27, h⟩ := bno_e h
        obtain ⟨x28, hx28, h⟩ := bnd_e h
        refine iwp_reg (ils_cons rfl (iop_move rfl rfl (by decide) (sv (d := .int _ _) rfl)) <|
          ils_cons rfl (iop_move rfl rfl (by decide) (sv (d := .int _ _) rfl)) <|
          ils_cons rfl (iop_intx rfl rfl (by decide) (sv (d := .int _ _) rfl) (sv (d := .int _ _) rfl) rfl hx25) <|
          ils_cons rfl (iop_int_conv rfl rfl (by decide) ⟨_, Try.underlying3⟩ Try.underlying91 (sv (d := .int _ _) rfl) hx26) <|
          ils_cons rfl (iop_shrx rfl rfl (by decide) (sv (d := .int _ _) rfl) (sv (d := .int _ 1) rfl) hx27) <|
          ils_cons rfl (iop_int_conv rfl rfl (by decide) ⟨_, Try.underlying91⟩ Try.underlying3 (sv (d := .int _ _) rfl) hx28) <|
          ils_cons rfl (iop_assign rfl rfl (by decide) (sv (d := .int _ _) rfl)) <|
          ils_end ?_)
        obtain ⟨x29, hx29, h⟩ := bno_e h
        obtain ⟨x30, hx30, h⟩ := bno_e h
        refine iwp_reg (ils_cons rfl (iop_move rfl rfl (by decide) (sv (d := .slice _ _) rfl)) <|
          ils_cons rfl (iop_move rfl rfl (by decide) (sv (d := .int _ _) rfl)) <|
          ils_cons rfl (iop_idxT (eInt .i64) (cs := [.int _ _]) rfl rfl (by decide) Try.underlying22 ti3 (sv (d := .slice _ _) rfl) (sv (d := .int _ _) rfl) hx29 rfl rfl) <|
          ils_cons rfl (iop_load_fs rfl rfl (by decide) Try.underlying3 ag3 ti3 (by decide) (sv (d := .fptr [.int _ _]) rfl) (nle rfl)) <|
          ils_cons rfl (iop_move rfl rfl (by decide) (sv (d := .int _ _) rfl)) <|
          ils_cons rfl (iop_call (r := .bool _) rfl rfl (by decide) cl55 (.cons (sv (d := .int _ _) rfl) (.cons (sv (d := .int _ _) rfl) .nil)) rfl (p_cmp_Less_int _ _ _ hx30)) <|
          ils_end ?_)
        refine iwp_cond (b := _) rfl (fun hc31 => ?_) (fun hc31 => ?_)
        ·
          replace h := bif_t h hc31
          obtain ⟨x32, hx32, h⟩ := bnd_e h
          refine iwp_region (ils_cons rfl (iop_move rfl rfl (by decide) (sv (d := .int _ _) rfl)) <|
            ils_cons rfl (iop_intx rfl rfl (by decide) (sv (d := .int _ _) rfl) (sv (d := .int _ 1) rfl) rfl hx32) <|
            ils_cons rfl (iop_assign rfl rfl (by decide) (sv (d := .int _ _) rfl)) <|
            ils_nil ?_)
          refine blockQ_n ?_
          refine thenQ_n ⟨(n0, x32, v12), (fun i => i), ⟨(.cons (.same rfl rfl) (.cons (.same rfl rfl) (.cons (.same rfl rfl) (.cons (.same rfl rfl) (.cons (.same rfl rfl) .nil))))), .nil, nd_of [] rfl (by decide), (fun i hi => by first | rfl | (show (if _ then _ else _) = _; (repeat' split) <;> omega))⟩, ?_, ?_⟩
          exact h
          exact Nat.lt_succ_self _
        ·
          replace h := bif_f h hc31
          refine iwp_region (ils_cons rfl (iop_move rfl rfl (by decide) (sv (d := .int _ _) rfl)) <|
            ils_cons rfl (iop_assign rfl rfl (by decide) (sv (d := .int _ _) rfl)) <|
            ils_nil ?_)
          refine blockQ_n ?_
          refine thenQ_n ⟨(n0, v11, x28), (fun i => i), ⟨(.cons (.same rfl rfl) (.cons (.same rfl rfl) (.cons (.same rfl rfl) (.cons (.same rfl rfl) (.cons (.same rfl rfl) .nil))))), .nil, nd_of [] rfl (by decide), (fun i hi => by first | rfl | (show (if _ then _ else _) = _; (repeat' split) <;> omega))⟩, ?_, ?_⟩
          exact h
          exact Nat.lt_succ_self _
      ·
        replace h := bif_f h hc24
        refine iwp_exit ?_
        refine thenQ_e ?_
        refine thenQ_e ?_
        refine blockQ_e ?_
        refine thenQ_n ?_
        obtain ⟨x33, hx33, h⟩ := bnd_e h
        obtain ⟨x34, hx34, h⟩ := bno_e h
        obtain ⟨x35, hx35, h⟩ := bnd_e h
        obtain ⟨x36, hx36, h⟩ := bno_e h
        obtain ⟨x37, hx37, h⟩ := bno_e h
        obtain ⟨x38, hx38, h⟩ := bno_e h
        obtain ⟨x39, hx39, h⟩ := bnd_e h
        obtain ⟨x40, hx40, h⟩ := bnd_e h
        obtain ⟨x41, hx41, h⟩ := bnd_e h
        refine iwp_reg (ils_cons rfl (iop_move rfl rfl (by decide) (sv (d := .int _ _) rfl)) <|
          ils_cons rfl (iop_move rfl rfl (by decide) (sv (d := .int _ _) rfl)) <|
          ils_cons rfl (iop_move rfl rfl (by decide) (sv (d := .int _ _) rfl)) <|
          ils_cons rfl (iop_cmpx rfl rfl (by decide) (sv (d := .int _ _) rfl) (sv (d := .int _ _) rfl) rfl hx33) <|
          ils_cons rfl (iop_move rfl rfl (by decide) (sv (d := .bool _) rfl)) <|
          ils_guard rfl rfl (.one rfl) rfl (by decide) (fun hb => (iop_move rfl rfl (by decide) (sv (d := .slice _ _) rfl))) <|
          ils_guard rfl rfl (.one rfl) rfl (by decide) (fun hb => (iop_move rfl rfl (by decide) (sv (d := .int _ _) rfl))) <|
          ils_guard rfl rfl (.one rfl) rfl (by decide) (fun hb => (iop_idxT (eInt .i64) (cs := [.int _ _]) rfl rfl (by decide) Try.underlying22 ti3 (svc (d := .slice _ _) rfl hb) (svc (d := .int _ _) rfl hb) (gd_t hx34 hb) rfl rfl)) <|
          ils_guard rfl rfl (.one rfl) rfl (by decide) (fun hb => (iop_load_fs rfl rfl (by decide) Try.underlying3 ag3 ti3 (by decide) (svc (d := .fptr [.int _ _]) rfl hb) (nle rfl))) <|
          ils_guard rfl rfl (.one rfl) rfl (by decide) (fun hb => (iop_move rfl rfl (by decide) (sv (d := .int _ _) rfl))) <|
          ils_guard rfl rfl (.one rfl) rfl (by decide) (fun hb => (iop_cmpx rfl rfl (by decide) (svc (d := .int _ _) rfl hb) (svc (d := .int _ _) rfl hb) rfl hx35)) <|
          ils_guard rfl rfl (.one rfl) rfl (by decide) (fun hb => (iop_move rfl rfl (by decide) (svc (d := .bool _) rfl hb))) <|
          ils_guard rfl rfl (.two rfl) rfl (by decide) (fun hb => (iop_move rfl rfl (by decide) (sv (d := .slice _ _) rfl))) <|
          ils_guard rfl rfl (.two rfl) rfl (by decide) (fun hb => (iop_move rfl rfl (by decide) (sv (d := .int _ _) rfl))) <|
          ils_guard rfl rfl (.two rfl) rfl (by decide) (fun hb => (iop_idxT (eInt .i64) (cs := [.int _ _]) rfl rfl (by decide) Try.underlying22 ti3 (svc (d := .slice _ _) rfl hb) (svc (d := .int _ _) rfl hb) (gd_t hx36 hb) rfl rfl)) <|
          ils_guard rfl rfl (.two rfl) rfl (by decide) (fun hb => (iop_load_fs rfl rfl (by decide) Try.underlying3 ag3 ti3 (by decide) (svc (d := .fptr [.int _ _]) rfl hb) (nle rfl))) <|
          ils_guard rfl rfl (.two rfl) rfl (by decide) (fun hb => (iop_call (r := .bool _) rfl rfl (by decide) cl56 (.cons (svc (d := .int _ _) rfl hb) .nil) rfl (p_slices_isNaN_int _ _ (gd_t hx37 hb)))) <|
          ils_guard rfl rfl (.two rfl) rfl (by decide) (fun hb => (iop_move rfl rfl (by decide) (svc (d := .bool _) rfl hb))) <|
          ils_guard rfl rfl (.two rfl) rfl (by decide) (fun hb => (iop_move rfl rfl (by decide) (sv (d := .int _ _) rfl))) <|
          ils_guard rfl rfl (.two rfl) rfl (by decide) (fun hb => (iop_call (r := .bool _) rfl rfl (by decide) cl56 (.cons (svc (d := .int _ _) rfl hb) .nil) rfl (p_slices_isNaN_int _ _ (gd_t hx38 hb)))) <|
          ils_guard rfl rfl (.two rfl) rfl (by decide) (fun hb => (iop_and2x rfl rfl (by decide) hb (svc (d := .bool _) rfl hb) rfl rfl hx39)) <|
          ils_guard rfl rfl (.one rfl) rfl (by decide) (fun hb => (iop_or2x rfl rfl (by decide) hb (svc (d := .bool _) rfl hb) rfl rfl hx40)) <|
          ils_cons rfl (iop_andx rfl rfl (by decide) (sv (d := .bool _) rfl) rfl rfl hx41) <|
          ils_cons rfl (iop_assign rfl rfl (by decide) (sv (d := .int _ _) rfl)) <|
          ils_cons rfl (iop_assign rfl rfl (by decide) (sv (d := .bool _) rfl)) <|
          ils_end ?_)
        refine iwp_ret ?_
        obtain rfl := Option.some.inj h
        refine ⟨.inr rfl, (.cons (sv rfl) (.cons (sv rfl) .nil))⟩

set_option maxRecDepth 8000 in
set_option maxHeartbeats 4000000 in
theorem p_slices_Insert_int_int_h (a0 : Int) (a1 : List Int) (a2 : List Int) (r : List Int) (h : slices_Insert_int_int_h a0 a1 a2 = some r) : FnH Try.prog 52 [.osl 1000 (eInt .i64).sz a2.length, .int .i64 a0, .slice false (a1.map (eInt .i64).d)] [(1000, .blk 3 (D.flat (a2.map (eInt .i64).d)))] (.osl 0 (eInt .i64).sz r.length) [(0, .blk 3 (D.flat (r.map (eInt .i64).d)))] := by
  replace h : insS 8 a2 a0 a1 = some r := h
  obtain ⟨i, rfl, hi, hm, hb, hr⟩ := insS_e h
  have hX := (eInt .i64).toEnc0.flat_len a2
  have hV := (eInt .i64).toEnc0.flat_len a1
  have hp := (eInt .i64).pos
  have hvt : ∀ k, a1.length ≤ k → (D.flat (a1.map (eInt .i64).d)).take (min a1.length k * (eInt .i64).sz) = D.flat (a1.map (eInt .i64).d) := fun k hk => by
    rw [Nat.min_eq_left hk, ← hV, List.take_length]
  refine fnh_of_iwp (rs := [.osl 0 (eInt .i64).sz r.length]) Try.func52 rfl Try.ntmps52 (nle rfl) fun O hO => ?_
  show IWP _ _ _ _ ⟨[(0, .osl 1000 (eInt .i64).sz a2.length), (1, .int .i64 (i : Int)), (2, .slice false (a1.map (eInt .i64).d))], [(1000, .blk 3 (D.flat (a2.map (eInt .i64).d)))]⟩ _
  refine iwp_open 0 (id := 1000) (sz := (eInt .i64).sz) (n := a2.length) rfl rfl hX (fun hn => ?_) (fun c hc hcm => ?_)
  · -- nothing is there
    obtain rfl := List.length_eq_zero_iff.1 hn
    obtain rfl : i = 0 := by simpa using hi
    refine iwp_reg (ils_cons rfl (iop_assign rfl rfl (by decide) (sv (d := .nils) rfl)) <| ils_end ?_)
    refine iwp_reg (ils_cons rfl (iop_move rfl rfl (by decide) (sv (d := .nils) rfl)) <| ils_cons rfl (iop_move rfl rfl (by decide) (sv (d := .int _ _) rfl)) <|
      ils_cons rfl (iop_cutT (eInt .i64) (s := []) (r := []) (b := false) rfl rfl (by decide) Try.underlying22 ti3 (svn rfl) ⟨_, (sv (d := .int _ _) rfl)⟩ rfl rfl) <| ils_end ?_)
    refine iwp_reg (ils_cons rfl (iop_move rfl rfl (by decide) (sv (d := .slice _ _) rfl)) <| ils_cons rfl (iop_lenT (eInt .i64) (l := a1) rfl rfl (by decide) Try.underlying22 (sv (d := .slice _ _) rfl)) <|
      ils_cons rfl (iop_assign rfl rfl (by decide) (sv (d := .int _ _) rfl)) <| ils_end ?_)
    refine iwp_seq ?_
    refine iwp_reg (ils_cons rfl (iop_move rfl rfl (by decide) (sv (d := .int _ _) rfl)) <| ils_cons rfl (iop_cmpx rfl rfl (by decide) (sv (d := .int _ _) rfl) (sv (d := .int _ 0) rfl) rfl rfl) <| ils_end ?_)
    refine iwp_cond (b := _) rfl (fun h1 => ?_) (fun h1 => ?_)
    · have h2 := of_decide_eq_true h1
      obtain rfl := List.length_eq_zero_iff.1 (show a1.length = 0 by omega)
      have hr' : [] = r := by simpa using hr
      subst hr'
      refine iwp_reg (ils_cons rfl (iop_move rfl rfl (by decide) (sv (d := .nils) rfl)) <| ils_cons rfl (iop_assign rfl rfl (by decide) (sv (d := .nils) rfl)) <| ils_end ?_)
      refine iwp_ret ?_
      refine thenQ_r ?_
      refine ⟨.inr rfl, (fun i => if i = 0 then 50 else i), ⟨.nil, (.cons (.nilb rfl) .nil), nd_of [50] rfl (by decide), (fun i hi => by first | rfl | (show (if _ then _ else _) = _; (repeat' split) <;> omega))⟩, (.cons (svno rfl) .nil), rfl⟩
    · refine iwp_skip ?_
      refine thenQ_n ?_
      refine iwp_reg (ils_cons rfl (iop_move rfl rfl (by decide) (sv (d := .nils) rfl)) <| ils_cons rfl (iop_lenT (eInt .i64) (l := []) (b := false) rfl rfl (by decide) Try.underlying22 (svn rfl)) <|
        ils_cons rfl (iop_assign rfl rfl (by decide) (sv (d := .int _ _) rfl)) <| ils_end ?_)
      refine iwp_seq ?_
      refine iwp_reg (ils_cons rfl (iop_move rfl rfl (by decide) (sv (d := .int _ _) rfl)) <| ils_cons rfl (iop_move rfl rfl (by decide) (sv (d := .int _ _) rfl)) <| ils_cons rfl (iop_cmpx rfl rfl (by decide) (sv (d := .int _ _) rfl) (sv (d := .int _ _) rfl) rfl rfl) <| ils_end ?_)
      refine iwp_cond_t rfl rfl ?_
      have ha : app 8 ([] : List Int) a1 = some r := by
        rw [← hr]; unfold maxLen at hm; simpa using app_ok hm hb
      refine iwp_reg (ils_cons rfl (iop_move rfl rfl (by decide) (sv (d := .nils) rfl)) <| ils_cons rfl (iop_move rfl rfl (by decide) (sv (d := .slice _ _) rfl)) <|
        ils_cons rfl (iop_appOn (eInt .i64).toEnc0 0 rfl rfl (by decide) Try.underlying22 ti3 rfl rfl rfl (src_T (eInt .i64) (ys := a1) (sv (d := .slice _ _) rfl)) ha) <|
        ils_cons rfl (iop_assign rfl rfl (by decide) (sv (d := .osl _ _ _) rfl)) <| ils_end ?_)
      refine iwp_ret ?_
      refine thenQ_r ?_
      refine ⟨.inr rfl, (fun i => i), ⟨.nil, (.cons (EntW.lst rfl) .nil), nd_of [0] rfl (by decide), (fun i hi => by first | rfl | (show (if _ then _ else _) = _; (repeat' split) <;> omega))⟩, (.cons (sv rfl) .nil), rfl⟩
  · refine iwp_reg (ils_cons rfl (iop_assign rfl rfl (by decide) (sv (d := .nils) rfl)) <| ils_end ?_)
    refine iwp_reg (ils_cons rfl (iop_move rfl rfl (by decide) (sv (d := .rsl _ _ _ _ _) rfl)) <| ils_cons rfl (iop_move rfl rfl (by decide) (sv (d := .int _ _) rfl)) <|
      ils_cons rfl (iop_slice_rsl (sz := (eInt .i64).sz) (l := (i : Int)) (h := (a2.length : Int)) (m := (c : Int)) rfl rfl (by decide) Try.underlying22 ti3 (sv (d := .rsl _ _ _ _ _) rfl) ⟨_, (sv (d := .int _ _) rfl)⟩ rfl rfl (by simp) (by omega) (by omega) (by omega) (by omega) rfl) <| ils_end ?_)
    refine iwp_reg (ils_cons rfl (iop_move rfl rfl (by decide) (sv (d := .slice _ _) rfl)) <| ils_cons rfl (iop_lenT (eInt .i64) (l := a1) rfl rfl (by decide) Try.underlying22 (sv (d := .slice _ _) rfl)) <|
      ils_cons rfl (iop_assign rfl rfl (by decide) (sv (d := .int _ _) rfl)) <| ils_end ?_)
    refine iwp_seq ?_
    refine iwp_reg (ils_cons rfl (iop_move rfl rfl (by decide) (sv (d := .int _ _) rfl)) <| ils_cons rfl (iop_cmpx rfl rfl (by decide) (sv (d := .int _ _) rfl) (sv (d := .int _ 0) rfl) rfl rfl) <| ils_end ?_)
    refine iwp_cond (b := _) rfl (fun h1 => ?_) (fun h1 => ?_)
    · have h2 := of_decide_eq_true h1
      obtain rfl := List.length_eq_zero_iff.1 (show a1.length = 0 by omega)
      have hr' : a2 = r := by simpa using hr
      subst hr'
      refine iwp_reg (ils_cons rfl (iop_move rfl rfl (by decide) (sv (d := .rsl _ _ _ _ _) rfl)) <| ils_cons rfl (iop_assign rfl rfl (by decide) (sv (d := .rsl _ _ _ _ _) rfl)) <| ils_end ?_)
      refine iwp_close 6 (id := 1000) rfl rfl hX ?_
      refine iwp_ret ?_
      refine thenQ_r ?_
      refine ⟨.inr rfl, (fun i => if i = 0 then 1000 else i), ⟨.nil, (.cons (EntW.lst rfl) .nil), nd_of [1000] rfl (by decide), (fun i hi => by first | rfl | (show (if _ then _ else _) = _; (repeat' split) <;> omega))⟩, (.cons (sv rfl) .nil), rfl⟩
    · have h2 := of_decide_eq_false h1
      have hm0 : 0 < a1.length := by omega
      refine iwp_skip ?_
      refine thenQ_n ?_
      refine iwp_reg (ils_cons rfl (iop_move rfl rfl (by decide) (sv (d := .rsl _ _ _ _ _) rfl)) <| ils_cons rfl (iop_len_rsl rfl rfl (by decide) Try.underlying22 (sv (d := .rsl _ _ _ _ _) rfl) rfl) <|
        ils_cons rfl (iop_assign rfl rfl (by decide) (sv (d := .int _ _) rfl)) <| ils_end ?_)
      refine iwp_seq ?_
      refine iwp_reg (ils_cons rfl (iop_move rfl rfl (by decide) (sv (d := .int _ _) rfl)) <| ils_cons rfl (iop_move rfl rfl (by decide) (sv (d := .int _ _) rfl)) <| ils_cons rfl (iop_cmpx rfl rfl (by decide) (sv (d := .int _ _) rfl) (sv (d := .int _ _) rfl) rfl rfl) <| ils_end ?_)
      refine iwp_cond (b := _) rfl (fun h3 => ?_) (fun h3 => ?_)
      · have h4 := of_decide_eq_true h3
        obtain rfl : i = a2.length := by omega
        have hr' : a2 ++ a1 = r := by simpa using hr
        have ha : app 8 a2 a1 = some r := by
          rw [← hr']; unfold maxLen at hm; exact app_ok hm hb
        refine iwp_reg (ils_cons rfl (iop_move rfl rfl (by decide) (sv (d := .rsl _ _ _ _ _) rfl)) <| ils_cons rfl (iop_move rfl rfl (by decide) (sv (d := .slice _ _) rfl)) <|
          ils_close 23 (id := 1000) rfl rfl hX <|
          ils_cons rfl (iop_appO (eInt .i64).toEnc0 0 rfl rfl (by decide) Try.underlying22 ti3 rfl rfl rfl rfl rfl (src_T (eInt .i64) (ys := a1) (sv (d := .slice _ _) rfl)) ha) <|
          ils_cons rfl (iop_assign rfl rfl (by decide) (sv (d := .osl _ _ _) rfl)) <| ils_end ?_)
        refine iwp_ret ?_
        refine thenQ_r ?_
        refine ⟨.inr rfl, (fun i => i), ⟨.nil, (.cons (EntW.lst rfl) .nil), nd_of [0] rfl (by decide), (fun i hi => by first | rfl | (show (if _ then _ else _) = _; (repeat' split) <;> omega))⟩, (.cons (sv rfl) .nil), rfl⟩
      · have h4 := of_decide_eq_false h3
        have hin : i < a2.length := by omega
        have hXt : (D.flat ((a2.take i).map (eInt .i64).d)).length = i * (eInt .i64).sz := by rw [(eInt .i64).toEnc0.flat_len, List.length_take, Nat.min_eq_left hi]
        have hXd : (D.flat ((a2.drop i).map (eInt .i64).d)).length = (a2.length - i) * (eInt .i64).sz := by rw [(eInt .i64).toEnc0.flat_len, List.length_drop]
        have hXs : D.flat (a2.map (eInt .i64).d) = D.flat ((a2.take i).map (eInt .i64).d) ++ D.flat ((a2.drop i).map (eInt .i64).d) := by
          rw [(eInt .i64).toEnc0.flat_append, List.take_append_drop]
        have hR : D.flat (r.map (eInt .i64).d) = D.flat ((a2.take i).map (eInt .i64).d) ++ D.flat (a1.map (eInt .i64).d) ++ D.flat ((a2.drop i).map (eInt .i64).d) := by
          rw [← hr, (eInt .i64).toEnc0.flat_append, (eInt .i64).toEnc0.flat_append]
        have hRl : (D.flat (r.map (eInt .i64).d)).length = r.length * (eInt .i64).sz := (eInt .i64).toEnc0.flat_len r
        have hrl : r.length = a2.length + a1.length := by rw [← hr]; simp; omega
        refine iwp_skip ?_
        refine thenQ_n ?_
        refine iwp_seq ?_
        refine iwp_reg (ils_cons rfl (iop_move rfl rfl (by decide) (sv (d := .int _ _) rfl)) <| ils_cons rfl (iop_move rfl rfl (by decide) (sv (d := .int _ _) rfl)) <| ils_cons rfl (iop_intx rfl rfl (by decide) (sv (d := .int _ _) rfl) (sv (d := .int _ _) rfl) rfl (wN hm)) <|
          ils_cons rfl (iop_move rfl rfl (by decide) (sv (d := .rsl _ _ _ _ _) rfl)) <| ils_cons rfl (iop_cap_rsl rfl rfl (by decide) Try.underlying22 (sv (d := .rsl _ _ _ _ _) rfl) rfl) <| ils_cons rfl (iop_cmpx rfl rfl (by decide) (sv (d := .int _ _) rfl) (sv (d := .int _ _) rfl) rfl rfl) <| ils_end ?_)
        refine iwp_cond (b := _) rfl (fun h5 => ?_) (fun h5 => ?_)
        · have h6 := of_decide_eq_true h5
          have hcn : c < a2.length + a1.length := by omega
          obtain ⟨K, hK⟩ : ∃ K, K = a2.length + a1.length - i := ⟨_, rfl⟩
          have hKm : i + K = a2.length + a1.length := by omega
          have w1 : IntKind.wrap .i64 (((a2.length + a1.length : Nat) : Int) - (i : Int)) = (K : Int) := by rw [hK]; exact wS (by omega) hm
          have hD0 : i * (eInt .i64).sz ≤ (D.flat (a2.map (eInt .i64).d) ++ List.replicate ((c - a2.length) * (eInt .i64).sz) D.dead).length := by
            rw [List.length_append, hX]; exact Nat.le_trans (Nat.mul_le_mul_right _ hi) (Nat.le_add_right _ _)
          have hT0 : (D.flat (a2.map (eInt .i64).d) ++ List.replicate ((c - a2.length) * (eInt .i64).sz) D.dead).take (i * (eInt .i64).sz) = D.flat ((a2.take i).map (eInt .i64).d) := by
            rw [List.take_append_of_le_length (by rw [hX]; exact Nat.mul_le_mul_right _ hi), (eInt .i64).toEnc0.flat_take]
          refine iwp_reg (ils_cons rfl (iop_move rfl rfl (by decide) (sv (d := .rsl _ _ _ _ _) rfl)) <| ils_cons rfl (iop_move rfl rfl (by decide) (sv (d := .int _ _) rfl)) <|
            ils_cons rfl (iop_slice_rsl (sz := (eInt .i64).sz) (l := 0) (h := (i : Int)) (m := (c : Int)) (d := .rsl 1000 (eInt .i64).sz 0 i c) rfl rfl (by decide) Try.underlying22 ti3 (sv (d := .rsl _ _ _ _ _) rfl) rfl ⟨_, (sv (d := .int _ _) rfl)⟩ rfl (by simp) (by omega) (by omega) (by omega) (by omega) (by simp only [Int.toNat_natCast, Int.toNat_zero, Nat.zero_mul, Nat.zero_add, Nat.sub_zero])) <|
            ils_cons rfl (iop_move rfl rfl (by decide) (sv (d := .int _ _) rfl)) <| ils_cons rfl (iop_move rfl rfl (by decide) (sv (d := .int _ _) rfl)) <| ils_cons rfl (iop_intx rfl rfl (by decide) (sv (d := .int _ _) rfl) (sv (d := .int _ _) rfl) rfl (wN hm)) <|
            ils_cons rfl (iop_move rfl rfl (by decide) (sv (d := .int _ _) rfl)) <| ils_cons rfl (iop_intx rfl rfl (by decide) (sv (d := .int _ _) rfl) (sv (d := .int _ _) rfl) rfl w1) <|
            ils_cons rfl (iop_app_made (sz := (eInt .i64).sz) (k := K) 0 rfl rfl (by decide) Try.underlying22 Try.underlying3 ti3 rfl (sv (d := .rsl _ _ _ _ _) rfl) rfl rfl (sv (d := .int _ _) rfl) rfl (by omega) hD0 (by omega) (by rw [hKm]; exact hm) (by rw [hKm]; exact hb)) <|
            ils_cons rfl (iop_assign rfl rfl (by decide) (sv (d := .osl _ _ _) rfl)) <| ils_end ?_)
          have hY0 : ((D.flat (a2.map (eInt .i64).d) ++ List.replicate ((c - a2.length) * (eInt .i64).sz) D.dead).take (i * (eInt .i64).sz) ++ List.replicate (K * (eInt .i64).sz) D.dead).length = (i + K) * (eInt .i64).sz := by
            rw [List.length_append, List.length_take, List.length_replicate, Nat.min_eq_left hD0, Nat.add_mul]
          refine iwp_open 9 (id := 0) rfl rfl hY0 (fun h0 => absurd h0 (by omega)) (fun c1 hc1 hcm1 => ?_)
          rw [hT0]
          rw [hT0] at hY0
          have w2 : IntKind.wrap .i64 ((i : Int) + (a1.length : Int)) = ((i + a1.length : Nat) : Int) := wN (by omega)
          have hKs : (K - a1.length) * (eInt .i64).sz = (a2.length - i) * (eInt .i64).sz := by congr 1; omega
          obtain ⟨J, hJ⟩ : ∃ J, J = List.replicate ((c1 - (i + K)) * (eInt .i64).sz) D.dead := ⟨_, rfl⟩
          obtain ⟨Z, hZ⟩ : ∃ Z, Z = List.replicate (K * (eInt .i64).sz) D.dead := ⟨_, rfl⟩
          have hZl : Z.length = K * (eInt .i64).sz := by rw [hZ, List.length_replicate]
          have hKsp : K * (eInt .i64).sz = a1.length * (eInt .i64).sz + (a2.length - i) * (eInt .i64).sz := by rw [← Nat.add_mul]; congr 1; omega
          rw [← hJ, ← hZ]
          have hYl : (D.flat ((a2.take i).map (eInt .i64).d) ++ Z ++ J).length = i * (eInt .i64).sz + K * (eInt .i64).sz + J.length := by simp only [List.length_append, hXt, hZl]
          refine iwp_reg (ils_cons rfl (iop_move rfl rfl (by decide) (sv (d := .rsl _ _ _ _ _) rfl)) <| ils_cons rfl (iop_move rfl rfl (by decide) (sv (d := .int _ _) rfl)) <|
            ils_cons rfl (iop_slice_rsl (sz := (eInt .i64).sz) (l := (i : Int)) (h := ((i + K : Nat) : Int)) (m := (c1 : Int)) (d := .rsl 0 (eInt .i64).sz (i * (eInt .i64).sz) K (c1 - i)) rfl rfl (by decide) Try.underlying22 ti3 (sv (d := .rsl _ _ _ _ _) rfl) ⟨_, (sv (d := .int _ _) rfl)⟩ rfl rfl (by simp) (by omega) (by omega) (by omega) (by omega) (by simp only [Int.toNat_natCast, Nat.zero_add]; congr 1; omega)) <|
            ils_cons rfl (iop_move rfl rfl (by decide) (sv (d := .slice _ _) rfl)) <|
            ils_cons rfl (iop_copy_rsl (sz := (eInt .i64).sz) (ds' := splice (D.flat ((a2.take i).map (eInt .i64).d) ++ Z ++ J) (i * (eInt .i64).sz) (D.flat (a1.map (eInt .i64).d))) rfl rfl (by decide) Try.underlying22 ti3 (sv (d := .rsl _ _ _ _ _) rfl) rfl (src_T (eInt .i64) (ys := a1) (sv (d := .slice _ _) rfl)) hV (all_take' ((eInt .i64).toEnc0.one a1) _) (by rw [hYl]; omega) rfl (by rw [hvt _ (by omega)])) <| ils_end ?_)
          have e1 : splice (D.flat ((a2.take i).map (eInt .i64).d) ++ Z ++ J) (i * (eInt .i64).sz) (D.flat (a1.map (eInt .i64).d)) = D.flat ((a2.take i).map (eInt .i64).d) ++ D.flat (a1.map (eInt .i64).d) ++ (Z.drop (a1.length * (eInt .i64).sz) ++ J) := by
            have e2 : D.flat ((a2.take i).map (eInt .i64).d) ++ Z ++ J = D.flat ((a2.take i).map (eInt .i64).d) ++ Z.take (a1.length * (eInt .i64).sz) ++ (Z.drop (a1.length * (eInt .i64).sz) ++ J) := by
              rw [List.append_assoc (D.flat ((a2.take i).map (eInt .i64).d)), List.append_assoc (D.flat ((a2.take i).map (eInt .i64).d)), ← List.append_assoc (Z.take _), List.take_append_drop]
            rw [e2]; exact splice_at hXt (by rw [List.length_take, hZl, hV]; omega)
          have hres := ins_new (J := J) (Y := D.flat ((a2.drop i).map (eInt .i64).d)) hXt hV (show Z.length = a1.length * (eInt .i64).sz + (D.flat ((a2.drop i).map (eInt .i64).d)).length by rw [hZl, hXd, hKsp])
          have hlen1 : (splice (D.flat ((a2.take i).map (eInt .i64).d) ++ Z ++ J) (i * (eInt .i64).sz) (D.flat (a1.map (eInt .i64).d))).length = i * (eInt .i64).sz + K * (eInt .i64).sz + J.length := by
            rw [e1]; simp only [List.length_append, hXt, hV, List.length_drop, hZl]; omega
          obtain ⟨Y1, hY1⟩ : ∃ Y1, Y1 = splice (D.flat ((a2.take i).map (eInt .i64).d) ++ Z ++ J) (i * (eInt .i64).sz) (D.flat (a1.map (eInt .i64).d)) := ⟨_, rfl⟩
          rw [← hY1] at hlen1 hres ⊢
          obtain ⟨es, hes⟩ : ∃ es, es = ((D.flat (a2.map (eInt .i64).d) ++ List.replicate ((c - a2.length) * (eInt .i64).sz) D.dead).drop (i * (eInt .i64).sz)).take ((a2.length - i) * (eInt .i64).sz) := ⟨_, rfl⟩
          have hes' : es = D.flat ((a2.drop i).map (eInt .i64).d) := by
            rw [hes, List.drop_append_of_le_length (by rw [hX]; exact Nat.mul_le_mul_right _ hi), (eInt .i64).toEnc0.flat_drop, List.take_append_of_le_length (by rw [hXd]; exact Nat.le_refl _), ← hXd, List.take_length]
          have hfit2 : i * (eInt .i64).sz + (a2.length - i) * (eInt .i64).sz ≤ (D.flat (a2.map (eInt .i64).d) ++ List.replicate ((c - a2.length) * (eInt .i64).sz) D.dead).length := by
            rw [List.length_append, hX, ← Nat.add_mul, show i + (a2.length - i) = a2.length by omega]; exact Nat.le_add_right _ _
          have him : (i + a1.length) * (eInt .i64).sz = i * (eInt .i64).sz + a1.length * (eInt .i64).sz := Nat.add_mul _ _ _
          refine iwp_drw rfl [⟨[9], [], [(46, .rsl 0 (eInt .i64).sz 0 (i + K) c1)], []⟩, ⟨[1], [], [(47, .int .i64 (i : Int))], []⟩, ⟨[7], [], [(48, .int .i64 (a1.length : Int))], []⟩, ⟨[47, 48], [], [(49, .int .i64 ((i + a1.length : Nat) : Int))], []⟩,
            ⟨[46, 49], [], [(50, .rsl 0 (eInt .i64).sz ((i + a1.length) * (eInt .i64).sz) (K - a1.length) (c1 - (i + a1.length)))], []⟩, ⟨[0], [], [(51, .rsl 1000 (eInt .i64).sz 0 a2.length c)], []⟩, ⟨[1], [], [(52, .int .i64 (i : Int))], []⟩, ⟨[51, 52], [], [(53, .rsl 1000 (eInt .i64).sz (i * (eInt .i64).sz) (a2.length - i) (c - i))], []⟩,
            ⟨[50, 53], [0, 1000], [(54, .int .i64 ((min (a2.length - i) (K - a1.length) : Nat) : Int))], [(0, .blk 3 (splice Y1 ((i + a1.length) * (eInt .i64).sz) es))]⟩] rfl ?_ (by kernel_rfl) ?_
          · refine .cons (lop rfl rfl fun S hA => (iop_move rfl rfl (by decide) (sv (d := .rsl _ _ _ _ _) (agr hA rfl rfl)))) ?_
            refine .cons (lop rfl rfl fun S hA => (iop_move rfl rfl (by decide) (sv (d := .int _ _) (agr hA rfl rfl)))) ?_
            refine .cons (lop rfl rfl fun S hA => (iop_move rfl rfl (by decide) (sv (d := .int _ _) (agr hA rfl rfl)))) ?_
            refine .cons (lop rfl rfl fun S hA => (iop_intx rfl rfl (by decide) (sv (d := .int _ _) (agr hA rfl rfl)) (sv (d := .int _ _) (agr hA rfl rfl)) rfl w2)) ?_
            refine .cons (lop rfl rfl fun S hA => (iop_slice_rsl (sz := (eInt .i64).sz) (l := ((i + a1.length : Nat) : Int)) (h := ((i + K : Nat) : Int)) (m := (c1 : Int)) (d := .rsl 0 (eInt .i64).sz ((i + a1.length) * (eInt .i64).sz) (K - a1.length) (c1 - (i + a1.length))) rfl rfl (by decide) Try.underlying22 ti3 (sv (d := .rsl _ _ _ _ _) (agr hA rfl rfl)) ⟨_, (sv (d := .int _ _) (agr hA rfl rfl))⟩ rfl rfl (by simp) (by omega) (by omega) (by omega) (by omega) (by simp only [Int.toNat_natCast, Nat.zero_add]; congr 1; omega))) ?_
            refine .cons (lop rfl rfl fun S hA => (iop_move rfl rfl (by decide) (sv (d := .rsl _ _ _ _ _) (agr hA rfl rfl)))) ?_
            refine .cons (lop rfl rfl fun S hA => (iop_move rfl rfl (by decide) (sv (d := .int _ _) (agr hA rfl rfl)))) ?_
            refine .cons (lop rfl rfl fun S hA => (iop_slice_rsl (sz := (eInt .i64).sz) (l := (i : Int)) (h := (a2.length : Int)) (m := (c : Int)) (d := .rsl 1000 (eInt .i64).sz (i * (eInt .i64).sz) (a2.length - i) (c - i)) rfl rfl (by decide) Try.underlying22 ti3 (sv (d := .rsl _ _ _ _ _) (agr hA rfl rfl)) ⟨_, (sv (d := .int _ _) (agr hA rfl rfl))⟩ rfl rfl (by simp) (by omega) (by omega) (by omega) (by omega) (by simp only [Int.toNat_natCast, Nat.zero_add]))) ?_
            refine .cons (lop rfl rfl fun S hA => (iop_copy_rsl (sz := (eInt .i64).sz) (es := es) (ds' := splice Y1 ((i + a1.length) * (eInt .i64).sz) es) rfl rfl (by decide) Try.underlying22 ti3 (sv (d := .rsl _ _ _ _ _) (agr hA rfl rfl)) (agi hA rfl rfl) (hes ▸ src_rsl (sv (d := .rsl _ _ _ _ _) (agr hA rfl rfl)) (agi hA rfl rfl) hfit2) (by rw [hes', hXd]) (all_take' (by rw [hes']; exact (eInt .i64).toEnc0.one _) _) (by rw [hlen1, him, hKs]; omega) rfl (by rw [show min (a2.length - i) (K - a1.length) = a2.length - i by omega, hes', ← hXd, List.take_length]))) ?_
            exact .nil
          · rw [hes', him, hres, ← hR]
            refine iwp_reg (ils_cons rfl (iop_move rfl rfl (by decide) (sv (d := .rsl _ _ _ _ _) rfl)) <| ils_cons rfl (iop_assign rfl rfl (by decide) (sv (d := .rsl _ _ _ _ _) rfl)) <| ils_end ?_)
            refine iwp_close 6 (id := 0) rfl rfl (show (D.flat (r.map (eInt .i64).d)).length = (i + K) * (eInt .i64).sz by rw [hRl, hrl, hKm]) ?_
            refine iwp_ret ?_
            refine thenQ_r ?_
            refine ⟨.inr rfl, (fun i => i), ⟨.nil, (.cons (EntW.lst rfl) .nil), nd_of [0] rfl (by decide), (fun i hi => by first | rfl | (show (if _ then _ else _) = _; (repeat' split) <;> omega))⟩, (.cons (sv (congrArg (D.osl _ _) (show i + K = r.length by omega))) .nil), rfl⟩
        · have h6 := of_decide_eq_false h5
          have hcn : a2.length + a1.length ≤ c := by omega
          have w2 : IntKind.wrap .i64 ((i : Int) + (a1.length : Int)) = ((i + a1.length : Nat) : Int) := wN (by omega)
          have him : (i + a1.length) * (eInt .i64).sz = i * (eInt .i64).sz + a1.length * (eInt .i64).sz := Nat.add_mul _ _ _
          obtain ⟨J, hJ⟩ : ∃ J, J = List.replicate ((c - a2.length) * (eInt .i64).sz) D.dead := ⟨_, rfl⟩
          have hJl : J.length = (c - a2.length) * (eInt .i64).sz := by rw [hJ, List.length_replicate]
          have hJm : a1.length * (eInt .i64).sz ≤ J.length := by rw [hJl]; exact Nat.mul_le_mul_right _ (by omega)
          have hni : a2.length * (eInt .i64).sz = i * (eInt .i64).sz + (a2.length - i) * (eInt .i64).sz := by rw [← Nat.add_mul]; congr 1; omega
          have hnm : (a2.length + a1.length - i) * (eInt .i64).sz = (a2.length - i) * (eInt .i64).sz + a1.length * (eInt .i64).sz := by rw [← Nat.add_mul]; congr 1; omega
          have hnm2 : (a2.length + a1.length - (i + a1.length)) * (eInt .i64).sz = (a2.length - i) * (eInt .i64).sz := by congr 1; omega
          rw [← hJ]
          have hD0 : (D.flat (a2.map (eInt .i64).d) ++ J).length = i * (eInt .i64).sz + (a2.length - i) * (eInt .i64).sz + J.length := by rw [List.length_append, hX, hni]
          refine iwp_skip ?_
          refine thenQ_n ?_
          refine iwp_reg (ils_cons rfl (iop_move rfl rfl (by decide) (sv (d := .rsl _ _ _ _ _) rfl)) <| ils_cons rfl (iop_move rfl rfl (by decide) (sv (d := .int _ _) rfl)) <| ils_cons rfl (iop_move rfl rfl (by decide) (sv (d := .int _ _) rfl)) <|
            ils_cons rfl (iop_intx rfl rfl (by decide) (sv (d := .int _ _) rfl) (sv (d := .int _ _) rfl) rfl (wN hm)) <|
            ils_cons rfl (iop_slice_rsl (sz := (eInt .i64).sz) (l := 0) (h := ((a2.length + a1.length : Nat) : Int)) (m := (c : Int)) (d := .rsl 1000 (eInt .i64).sz 0 (a2.length + a1.length) c) rfl rfl (by decide) Try.underlying22 ti3 (sv (d := .rsl _ _ _ _ _) rfl) rfl ⟨_, (sv (d := .int _ _) rfl)⟩ rfl (by simp) (by omega) (by omega) (by omega) (by omega) (by simp only [Int.toNat_natCast, Int.toNat_zero, Nat.zero_mul, Nat.zero_add, Nat.sub_zero])) <|
            ils_cons rfl (iop_assign rfl rfl (by decide) (sv (d := .rsl _ _ _ _ _) rfl)) <| ils_end ?_)
          refine iwp_seq ?_
          refine iwp_reg (ils_cons rfl (iop_move rfl rfl (by decide) (sv (d := .slice _ _) rfl)) <| ils_cons rfl (iop_move rfl rfl (by decide) (sv (d := .rsl _ _ _ _ _) rfl)) <| ils_cons rfl (iop_move rfl rfl (by decide) (sv (d := .int _ _) rfl)) <| ils_cons rfl (iop_move rfl rfl (by decide) (sv (d := .int _ _) rfl)) <|
            ils_cons rfl (iop_intx rfl rfl (by decide) (sv (d := .int _ _) rfl) (sv (d := .int _ _) rfl) rfl w2) <|
            ils_cons rfl (iop_slice_rsl (sz := (eInt .i64).sz) (l := ((i + a1.length : Nat) : Int)) (h := ((a2.length + a1.length : Nat) : Int)) (m := (c : Int)) rfl rfl (by decide) Try.underlying22 ti3 (sv (d := .rsl _ _ _ _ _) rfl) ⟨_, (sv (d := .int _ _) rfl)⟩ rfl rfl (by simp) (by omega) (by omega) (by omega) (by omega) rfl) <|
            ils_cons rfl (iop_overlaps rfl rfl (by decide) ex59 Try.underlying22 ti3 (sv (d := .slice _ _) rfl) (by intro e; have e9 := congrArg List.length e; rw [List.length_map, List.length_nil] at e9; omega) (sv (d := .rsl _ _ _ _ _) rfl) rfl (by intro e; have := congrArg List.length e; rw [hD0] at this; simp only [List.length_nil] at this; have h9 : 0 < (a2.length - i) * (eInt .i64).sz := Nat.mul_pos (Nat.sub_pos_of_lt hin) hp; clear hnm hnm2 him; omega)) <|
            ils_cons rfl (iop_not rfl rfl (by decide) (sv (d := .bool _) rfl)) <| ils_end ?_)
          refine iwp_cond_t rfl rfl ?_
          obtain ⟨es, hes⟩ : ∃ es, es = ((D.flat (a2.map (eInt .i64).d) ++ J).drop (i * (eInt .i64).sz)).take ((a2.length + a1.length - i) * (eInt .i64).sz) := ⟨_, rfl⟩
          have hes' : es.take ((a2.length - i) * (eInt .i64).sz) = D.flat ((a2.drop i).map (eInt .i64).d) := by
            rw [hes, List.take_take, Nat.min_eq_left (by omega), List.drop_append_of_le_length (by omega), (eInt .i64).toEnc0.flat_drop, List.take_append_of_le_length (by rw [hXd]; exact Nat.le_refl _), ← hXd, List.take_length]
          have hesl : es.length = (a2.length + a1.length - i) * (eInt .i64).sz := by
            rw [hes, List.length_take, List.length_drop, hD0]; omega
          have hres := ins_place (J := J) (Y := D.flat ((a2.drop i).map (eInt .i64).d)) hXt hV hJm
          rw [← hXs] at hres
          refine iwp_drw rfl [⟨[0], [], [(69, .rsl 1000 (eInt .i64).sz 0 (a2.length + a1.length) c)], []⟩, ⟨[1], [], [(70, .int .i64 (i : Int))], []⟩, ⟨[7], [], [(71, .int .i64 (a1.length : Int))], []⟩, ⟨[70, 71], [], [(72, .int .i64 ((i + a1.length : Nat) : Int))], []⟩,
            ⟨[69, 72], [], [(73, .rsl 1000 (eInt .i64).sz ((i + a1.length) * (eInt .i64).sz) (a2.length + a1.length - (i + a1.length)) (c - (i + a1.length)))], []⟩, ⟨[0], [], [(74, .rsl 1000 (eInt .i64).sz 0 (a2.length + a1.length) c)], []⟩, ⟨[1], [], [(75, .int .i64 (i : Int))], []⟩, ⟨[74, 75], [], [(76, .rsl 1000 (eInt .i64).sz (i * (eInt .i64).sz) (a2.length + a1.length - i) (c - i))], []⟩,
            ⟨[73, 76], [1000], [(77, .int .i64 ((min (a2.length + a1.length - i) (a2.length + a1.length - (i + a1.length)) : Nat) : Int))], [(1000, .blk 3 (splice (D.flat (a2.map (eInt .i64).d) ++ J) (i * (eInt .i64).sz + a1.length * (eInt .i64).sz) (D.flat ((a2.drop i).map (eInt .i64).d))))]⟩] rfl ?_ (by kernel_rfl) ?_
          · refine .cons (lop rfl rfl fun S hA => (iop_move rfl rfl (by decide) (sv (d := .rsl _ _ _ _ _) (agr hA rfl rfl)))) ?_
            refine .cons (lop rfl rfl fun S hA => (iop_move rfl rfl (by decide) (sv (d := .int _ _) (agr hA rfl rfl)))) ?_
            refine .cons (lop rfl rfl fun S hA => (iop_move rfl rfl (by decide) (sv (d := .int _ _) (agr hA rfl rfl)))) ?_
            refine .cons (lop rfl rfl fun S hA => (iop_intx rfl rfl (by decide) (sv (d := .int _ _) (agr hA rfl rfl)) (sv (d := .int _ _) (agr hA rfl rfl)) rfl w2)) ?_
            refine .cons (lop rfl rfl fun S hA => (iop_slice_rsl (sz := (eInt .i64).sz) (l := ((i + a1.length : Nat) : Int)) (h := ((a2.length + a1.length : Nat) : Int)) (m := (c : Int)) (d := .rsl 1000 (eInt .i64).sz ((i + a1.length) * (eInt .i64).sz) (a2.length + a1.length - (i + a1.length)) (c - (i + a1.length))) rfl rfl (by decide) Try.underlying22 ti3 (sv (d := .rsl _ _ _ _ _) (agr hA rfl rfl)) ⟨_, (sv (d := .int _ _) (agr hA rfl rfl))⟩ rfl rfl (by simp) (by omega) (by omega) (by omega) (by omega) (by simp only [Int.toNat_natCast, Nat.zero_add]))) ?_
            refine .cons (lop rfl rfl fun S hA => (iop_move rfl rfl (by decide) (sv (d := .rsl _ _ _ _ _) (agr hA rfl rfl)))) ?_
            refine .cons (lop rfl rfl fun S hA => (iop_move rfl rfl (by decide) (sv (d := .int _ _) (agr hA rfl rfl)))) ?_
            refine .cons (lop rfl rfl fun S hA => (iop_slice_rsl (sz := (eInt .i64).sz) (l := (i : Int)) (h := ((a2.length + a1.length : Nat) : Int)) (m := (c : Int)) (d := .rsl 1000 (eInt .i64).sz (i * (eInt .i64).sz) (a2.length + a1.length - i) (c - i)) rfl rfl (by decide) Try.underlying22 ti3 (sv (d := .rsl _ _ _ _ _) (agr hA rfl rfl)) ⟨_, (sv (d := .int _ _) (agr hA rfl rfl))⟩ rfl rfl (by simp) (by omega) (by omega) (by omega) (by omega) (by simp only [Int.toNat_natCast, Nat.zero_add]))) ?_
            refine .cons (lop rfl rfl fun S hA => (iop_copy_rsl (sz := (eInt .i64).sz) (es := es) (ds' := splice (D.flat (a2.map (eInt .i64).d) ++ J) (i * (eInt .i64).sz + a1.length * (eInt .i64).sz) (D.flat ((a2.drop i).map (eInt .i64).d))) rfl rfl (by decide) Try.underlying22 ti3 (sv (d := .rsl _ _ _ _ _) (agr hA rfl rfl)) (agi hA rfl rfl) (hes ▸ src_rsl (sv (d := .rsl _ _ _ _ _) (agr hA rfl rfl)) (agi hA rfl rfl) (by rw [hD0]; omega)) hesl (by rw [show min (a2.length + a1.length - i) (a2.length + a1.length - (i + a1.length)) = a2.length - i by omega, hes']; exact (eInt .i64).toEnc0.one _) (by rw [hD0, him, hnm2]; omega) rfl (by rw [show min (a2.length + a1.length - i) (a2.length + a1.length - (i + a1.length)) = a2.length - i by omega, hes', him]))) ?_
            exact .nil
          · refine iwp_reg (ils_cons rfl (iop_move rfl rfl (by decide) (sv (d := .rsl _ _ _ _ _) rfl)) <| ils_cons rfl (iop_move rfl rfl (by decide) (sv (d := .int _ _) rfl)) <|
              ils_cons rfl (iop_slice_rsl (sz := (eInt .i64).sz) (l := (i : Int)) (h := ((a2.length + a1.length : Nat) : Int)) (m := (c : Int)) (d := .rsl 1000 (eInt .i64).sz (i * (eInt .i64).sz) (a2.length + a1.length - i) (c - i)) rfl rfl (by decide) Try.underlying22 ti3 (sv (d := .rsl _ _ _ _ _) rfl) ⟨_, (sv (d := .int _ _) rfl)⟩ rfl rfl (by simp) (by omega) (by omega) (by omega) (by omega) (by simp only [Int.toNat_natCast, Nat.zero_add])) <|
              ils_cons rfl (iop_move rfl rfl (by decide) (sv (d := .slice _ _) rfl)) <|
              ils_cons rfl (iop_copy_rsl (sz := (eInt .i64).sz) (ds' := D.flat (r.map (eInt .i64).d) ++ J.drop (a1.length * (eInt .i64).sz)) rfl rfl (by decide) Try.underlying22 ti3 (sv (d := .rsl _ _ _ _ _) rfl) rfl (src_T (eInt .i64) (ys := a1) (sv (d := .slice _ _) rfl)) hV (all_take' ((eInt .i64).toEnc0.one a1) _) (by rw [length_splice', hD0]; omega; rw [hD0, hXd]; omega) rfl (by rw [hvt _ (by omega), hres, hR])) <| ils_end ?_)
            refine iwp_reg (ils_cons rfl (iop_move rfl rfl (by decide) (sv (d := .rsl _ _ _ _ _) rfl)) <| ils_cons rfl (iop_assign rfl rfl (by decide) (sv (d := .rsl _ _ _ _ _) rfl)) <| ils_end ?_)
            refine iwp_close 6 (id := 1000) rfl rfl (show (D.flat (r.map (eInt .i64).d)).length = (a2.length + a1.length) * (eInt .i64).sz by rw [hRl, hrl]) ?_
            refine iwp_ret ?_
            refine thenQ_r ?_
            refine ⟨.inr rfl, (fun i => if i = 0 then 1000 else i), ⟨.nil, (.cons (EntW.lst rfl) .nil), nd_of [1000] rfl (by decide), (fun i hi => by first | rfl | (show (if _ then _ else _) = _; (repeat' split) <;> omega))⟩, (.cons (sv (congrArg (D.osl _ _) hrl.symm)) .nil), rfl⟩

set_option maxRecDepth 8000 in
set_option maxHeartbeats 2000000 in
theorem p_stid_State_born_h (a0 : Bool) (a1 : Int) (a2 : Int) (a3 : Int) (a4 : Int) (a5 : Int) (a6 : Int) (a7 : Int) (a8 : (List Int)) (a9 : (List Int)) (r : (Bool × Int × Int × (List Int) × (List Int) × Int × Int × Int × Int)) (h : stid_State_born_h a0 a1 a2 a3 a4 a5 a6 a7 a8 a9 = some r) : FnH Try.prog 29 [.agg [.bool a0, .int .i64 a1, .int .i64 a2, .osl 1000 (eInt .i64).sz a8.length, .osl 1001 (eInt .i64).sz a9.length, .int .i64 a3, .int .i64 a4, .int .i64 a5, .int .i64 a6], .int .i64 a7] [(1000, .blk 3 (D.flat (a8.map (eInt .i64).d))), (1001, .blk 3 (D.flat (a9.map (eInt .i64).d)))] (.agg [.bool r.1, .int .i64 r.2.1, .int .i64 r.2.2.1, .osl 0 (eInt .i64).sz r.2.2.2.1.length, .osl 1 (eInt .i64).sz r.2.2.2.2.1.length, .int .i64 r.2.2.2.2.2.1, .int .i64 r.2.2.2.2.2.2.1, .int .i64 r.2.2.2.2.2.2.2.1, .int .i64 r.2.2.2.2.2.2.2.2]) [(0, .blk 3 (D.flat (r.2.2.2.1.map (eInt .i64).d))), (1, .blk 3 (D.flat (r.2.2.2.2.1.map (eInt .i64).d)))] := by
  refine fnh_of_iwp (rs := [.agg [.bool r.1, .int .i64 r.2.1, .int .i64 r.2.2.1, .osl 0 (eInt .i64).sz r.2.2.2.1.length, .osl 1 (eInt .i64).sz r.2.2.2.2.1.length, .int .i64 r.2.2.2.2.2.1, .int .i64 r.2.2.2.2.2.2.1, .int .i64 r.2.2.2.2.2.2.2.1, .int .i64 r.2.2.2.2.2.2.2.2]]) Try.func29 rfl Try.ntmps29 (nle rfl) fun O hO => ?_
  show IWP _ _ _ _ ⟨[(0, .agg [.bool a0, .int .i64 a1, .int .i64 a2, .osl 1000 (eInt .i64).sz a8.length, .osl 1001 (eInt .i64).sz a9.length, .int .i64 a3, .int .i64 a4, .int .i64 a5, .int .i64 a6]), (1, .int .i64 a7)], [(1000, .blk 3 (D.flat (a8.map (eInt .i64).d))), (1001, .blk 3 (D.flat (a9.map (eInt .i64).d)))]⟩ _
  unfold stid_State_born_h at h
  refine iwp_reg (ils_cons rfl (iop_box' (cs := [.bool _, .int _ _, .int _ _, .osl _ _ _, .osl _ _ _, .int _ _, .int _ _, .int _ _, .int _ _]) 0 rfl rfl (by decide) rfl (sv (d := .agg [.bool _, .int _ _, .int _ _, .osl _ _ _, .osl _ _ _, .int _ _, .int _ _, .int _ _, .int _ _]) rfl) rfl rfl) <|
    ils_cons rfl (iop_allocS (cs := [.bool _, .int _ _, .int _ _, .nils, .nils, .int _ _, .int _ _, .int _ _, .int _ _]) (cs' := [.bool false, .int .i64 0, .int .i64 0, .slice false (([] : List Int).map (eInt .i64).d), .slice false (([] : List Int).map (eInt .i64).d), .int .i64 0, .int .i64 0, .int .i64 0, .int .i64 0]) 1 rfl rfl (by decide) rfl ti27 rfl rfl (.cons (.refl _) (.cons (.refl _) (.cons (.refl _) (.cons (.nils _) (.cons (.nils _) (.cons (.refl _) (.cons (.refl _) (.cons (.refl _) (.cons (.refl _) .nil)))))))))) <|
    ils_end ?_)
  obtain ⟨x1, hx1, h⟩ := bno_e h
  refine iwp_reg (ils_cons rfl (iop_fieldAddr_ref rfl rfl (by decide) Try.underlying27 rfl ti22 (by decide) (sv (d := .ref _ _) rfl) (off' := 3) rfl) <|
    ils_cons rfl (iop_load_rs (d := .osl _ _ _) rfl rfl (by decide) Try.underlying22 ag22 ti22 (by decide) (sv (d := .ref _ _) rfl) rfl (nle rfl) rfl) <|
    ils_cons rfl (iop_move rfl rfl (by decide) (sv (d := .int _ _) rfl)) <|
    ils_cons rfl (iop_callp (r := .tuple [.int .i64 x1.1, .bool x1.2]) rfl rfl (by decide) cl41 (.cons (sv (d := .osl _ _ _) rfl) (.cons (sv (d := .int _ _) rfl) .nil)) (.cons (FDT (eInt .i64) rfl rfl) (.cons (.refl _) .nil)) rfl rfl (p_slices_BinarySearch_int_int _ _ _ hx1)) <|
    ils_cons rfl (iop_move rfl rfl (by decide) (sv (d := .tuple [.int _ _, .bool _]) rfl)) <|
    ils_cons rfl (iop_extract (d := .int _ _) rfl rfl (by decide) (sv (d := .tuple [.int _ _, .bool _]) rfl) rfl) <|
    ils_cons rfl (iop_extract (d := .bool _) rfl rfl (by decide) (sv (d := .tuple [.int _ _, .bool _]) rfl) rfl) <|
    ils_cons rfl (iop_assign rfl rfl (by decide) (sv (d := .int _ _) rfl)) <|
    ils_cons rfl (iop_assign rfl rfl (by decide) (sv (d := .bool _) rfl)) <|
    ils_end ?_)
  obtain ⟨x2, hx2, h⟩ := bno_e h
  refine iwp_reg (ils_cons rfl (iop_fieldAddr_ref rfl rfl (by decide) Try.underlying27 rfl ti22 (by decide) (sv (d := .ref _ _) rfl) (off' := 3) rfl) <|
    ils_cons rfl (iop_load_rs (d := .osl _ _ _) rfl rfl (by decide) Try.underlying22 ag22 ti22 (by decide) (sv (d := .ref _ _) rfl) rfl (nle rfl) rfl) <|
    ils_cons rfl (iop_move rfl rfl (by decide) (sv (d := .int _ _) rfl)) <|
    ils_cons rfl (iop_move rfl rfl (by decide) (sv (d := .int _ _) rfl)) <|
    ils_cons rfl (iop_bsT (eInt .i64) ([a7] : (List Int)) 2 rfl rfl (by decide) Try.underlying22 ti3 rfl (.cons (sv (d := .int _ _) rfl) .nil) rfl rfl (by decide)) <|
    ils_cons rfl (iop_callh2 (r' := .osl 3 (eInt .i64).sz x2.length) (H1' := [(3, .blk 3 (D.flat (x2.map (eInt .i64).d)))]) 3 [1000] rfl rfl (by decide) cl52 (.cons (sv (d := .osl _ _ _) rfl) (.cons (sv (d := .int _ _) rfl) (.cons (svg rfl) .nil))) rfl rfl ⟨rfl, rfl, by decide, rfl, List.forall_mem_cons.2 ⟨⟨rfl, rfl, (handL (eInt .i64) rfl), (handLr (eInt .i64))⟩, List.forall_mem_nil _⟩⟩ (p_slices_Insert_int_int_h _ _ _ _ hx2) rfl rfl (List.forall_mem_cons.2 ⟨⟨rfl, (handLr (eInt .i64))⟩, List.forall_mem_nil _⟩) (by simp only [List.map_cons, List.map_nil, Ent.ren, renL_flat, renL_ref]; rfl)) <|
    ils_cons rfl (iop_fieldAddr_ref rfl rfl (by decide) Try.underlying27 rfl ti22 (by decide) (sv (d := .ref _ _) rfl) (off' := 3) rfl) <|
    ils_cons rfl (iop_store (ds' := [.bool _, .int _ _, .int _ _, .osl _ _ _, .osl _ _ _, .int _ _, .int _ _, .int _ _, .int _ _]) rfl rfl ti22 (sv (d := .ref _ _) rfl) rfl (sv (d := .osl _ _ _) rfl) rfl rfl rfl (nle rfl) rfl) <|
    ils_end ?_)
  refine iwp_reg (ils_cons rfl (iop_load_ra (cs := [.bool _, .int _ _, .int _ _, .osl _ _ _, .osl _ _ _, .int _ _, .int _ _, .int _ _, .int _ _]) rfl rfl (by decide) Try.underlying27 ag27 ti27 (by decide) (sv (d := .ref _ _) rfl) rfl (nle rfl) rfl) <|
    ils_cons rfl (iop_store (ds' := [.bool _, .int _ _, .int _ _, .osl _ _ _, .osl _ _ _, .int _ _, .int _ _, .int _ _, .int _ _]) rfl rfl ti27 (sv (d := .ref _ _) rfl) rfl (sv (d := .agg [.bool _, .int _ _, .int _ _, .osl _ _ _, .osl _ _ _, .int _ _, .int _ _, .int _ _, .int _ _]) rfl) rfl rfl rfl (nle rfl) rfl) <|
    ils_end ?_)
  refine iwp_ret ?_
  obtain rfl := Option.some.inj h
  refine ⟨.inr rfl, (fun i => if i = 0 then 3 else if i = 1 then 1001 else i), ⟨.nil, (.cons (EntW.lst rfl) (.cons (EntW.lst rfl) .nil)), nd_of [3, 1001] rfl (by decide), (fun i hi => by first | rfl | (show (if _ then _ else _) = _; (repeat' split) <;> omega))⟩, (.cons (resv_a rfl rfl Try.underlying27 ag27 ti27 (by decide) (nle rfl) rfl) .nil), rfl⟩

set_option maxRecDepth 8000 in
set_option maxHeartbeats 2000000 in
theorem p_stid_Open (a0 : T_stid_State) (r : (T_stid_State × Int × Int)) (h : stid_Open a0 = some r) : PureAt Try.prog 8 [.agg [.bool a0.Odd, .int .i64 a0.Next, .int .i64 a0.Last, .slice false (a0.Live.map (eInt .i64).d), .slice false (a0.Cut.map (eInt .i64).d), .int .i64 a0.Mine, .int .i64 a0.Hers, .int .i64 a0.Heard, .int .i64 a0.Told]] (retD [.agg [.bool r.1.Odd, .int .i64 r.1.Next, .int .i64 r.1.Last, .slice false (r.1.Live.map (eInt .i64).d), .slice false (r.1.Cut.map (eInt .i64).d), .int .i64 r.1.Mine, .int .i64 r.1.Hers, .int .i64 r.1.Heard, .int .i64 r.1.Told], .int .i64 r.2.1, .int .i64 r.2.2]) := by
  refine pure_of_iwpF (rs := [.agg [.bool r.1.Odd, .int .i64 r.1.Next, .int .i64 r.1.Last, .slice false (r.1.Live.map (eInt .i64).d), .slice false (r.1.Cut.map (eInt .i64).d), .int .i64 r.1.Mine, .int .i64 r.1.Hers, .int .i64 r.1.Heard, .int .i64 r.1.Told], .int .i64 r.2.1, .int .i64 r.2.2]) Try.func8 rfl Try.ntmps8 (nle rfl) rfl fun O hO => ?_
  show IWP _ _ _ _ ⟨[(0, .agg [.bool a0.Odd, .int .i64 a0.Next, .int .i64 a0.Last, .slice false (a0.Live.map (eInt .i64).d), .slice false (a0.Cut.map (eInt .i64).d), .int .i64 a0.Mine, .int .i64 a0.Hers, .int .i64 a0.Heard, .int .i64 a0.Told])], []⟩ _
  unfold stid_Open at h
  refine iwp_reg (ils_cons rfl (iop_box' (cs := [.bool _, .int _ _, .int _ _, .slice _ _, .slice _ _, .int _ _, .int _ _, .int _ _, .int _ _]) 0 rfl rfl (by decide) rfl (sv (d := .agg [.bool _, .int _ _, .int _ _, .slice _ _, .slice _ _, .int _ _, .int _ _, .int _ _, .int _ _]) rfl) rfl rfl) <|
    ils_cons rfl (iop_allocS (cs := [.bool _, .int _ _, .int _ _, .nils, .nils, .int _ _, .int _ _, .int _ _, .int _ _]) (cs' := [.bool false, .int .i64 0, .int .i64 0, .slice false (([] : List Int).map (eInt .i64).d), .slice false (([] : List Int).map (eInt .i64).d), .int .i64 0, .int .i64 0, .int .i64 0, .int .i64 0]) 1 rfl rfl (by decide) rfl ti27 rfl rfl (.cons (.refl _) (.cons (.refl _) (.cons (.refl _) (.cons (.nils _) (.cons (.nils _) (.cons (.refl _) (.cons (.refl _) (.cons (.refl _) (.cons (.refl _) .nil)))))))))) <|
    ils_cons rfl (iop_assign rfl rfl (by decide) (sv (d := .int _ 0) rfl)) <|
    ils_cons rfl (iop_assign rfl rfl (by decide) (sv (d := .int _ 0) rfl)) <|
    ils_end ?_)
  obtain ⟨x1, hx1, h⟩ := bno_e h
  refine iwp_reg (ils_cons rfl (iop_load_ra (cs := [.bool _, .int _ _, .int _ _, .slice _ _, .slice _ _, .int _ _, .int _ _, .int _ _, .int _ _]) rfl rfl (by decide) Try.underlying27 ag27 ti27 (by decide) (sv (d := .ref _ _) rfl) rfl (nle rfl) rfl) <|
    ils_cons rfl (iop_callh2 (r' := .agg [.bool x1.1, .int .i64 x1.2.1, .int .i64 x1.2.2.1, .osl 2 (eInt .i64).sz x1.2.2.2.1.length, .osl 3 (eInt .i64).sz x1.2.2.2.2.1.length, .int .i64 x1.2.2.2.2.2.1, .int .i64 x1.2.2.2.2.2.2.1, .int .i64 x1.2.2.2.2.2.2.2.1, .int .i64 x1.2.2.2.2.2.2.2.2]) (H1' := [(2, .blk 3 (D.flat (x1.2.2.2.1.map (eInt .i64).d))), (3, .blk 3 (D.flat (x1.2.2.2.2.1.map (eInt .i64).d)))]) 2 [] rfl rfl (by decide) cl28 (.cons (sv (d := .agg [.bool _, .int _ _, .int _ _, .slice _ _, .slice _ _, .int _ _, .int _ _, .int _ _, .int _ _]) rfl) .nil) rfl rfl ⟨rfl, rfl, by decide, rfl, List.forall_mem_nil _⟩ (p_stid_State_own_h _ _ hx1) rfl rfl (List.forall_mem_cons.2 ⟨⟨rfl, (handLr (eInt .i64))⟩, List.forall_mem_cons.2 ⟨⟨rfl, (handLr (eInt .i64))⟩, List.forall_mem_nil _⟩⟩) (by simp only [List.map_cons, List.map_nil, Ent.ren, renL_flat, renL_ref]; rfl)) <|
    ils_cons rfl (iop_allocS (cs := [.bool _, .int _ _, .int _ _, .nils, .nils, .int _ _, .int _ _, .int _ _, .int _ _]) (cs' := [.bool false, .int .i64 0, .int .i64 0, .slice false (([] : List Int).map (eInt .i64).d), .slice false (([] : List Int).map (eInt .i64).d), .int .i64 0, .int .i64 0, .int .i64 0, .int .i64 0]) 4 rfl rfl (by decide) rfl ti27 rfl rfl (.cons (.refl _) (.cons (.refl _) (.cons (.refl _) (.cons (.nils _) (.cons (.nils _) (.cons (.refl _) (.cons (.refl _) (.cons (.refl _) (.cons (.refl _) .nil)))))))))) <|
    ils_cons rfl (iop_store (ds' := [.bool _, .int _ _, .int _ _, .osl _ _ _, .osl _ _ _, .int _ _, .int _ _, .int _ _, .int _ _]) rfl rfl ti27 (sv (d := .ref _ _) rfl) rfl (sv (d := .agg [.bool _, .int _ _, .int _ _, .osl _ _ _, .osl _ _ _, .int _ _, .int _ _, .int _ _, .int _ _]) rfl) rfl rfl rfl (nle rfl) rfl) <|
    ils_end ?_)
  refine iwp_seq ?_
  obtain ⟨x2, hx2, h⟩ := bno_e h
  refine iwp_reg (ils_cons rfl (iop_load_ra (cs := [.bool _, .int _ _, .int _ _, .slice _ _, .slice _ _, .int _ _, .int _ _, .int _ _, .int _ _]) rfl rfl (by decide) Try.underlying27 ag27 ti27 (by decide) (sv (d := .ref _ _) rfl) rfl (nle rfl) rfl) <|
    ils_cons rfl (iop_call (r := .int _ _) rfl rfl (by decide) cl26 (.cons (sv (d := .agg [.bool _, .int _ _, .int _ _, .slice _ _, .slice _ _, .int _ _, .int _ _, .int _ _, .int _ _]) rfl) .nil) rfl (p_stid_Check _ _ hx2)) <|
    ils_cons rfl (iop_assign rfl rfl (by decide) (sv (d := .int _ _) rfl)) <|
    ils_end ?_)
  obtain ⟨x3, hx3, h⟩ := bnd_e h
  refine iwp_reg (ils_cons rfl (iop_move rfl rfl (by decide) (sv (d := .int _ _) rfl)) <|
    ils_cons rfl (iop_cmpx rfl rfl (by decide) (sv (d := .int _ _) rfl) (sv (d := .int _ 0) rfl) rfl hx3) <|
    ils_end ?_)
  refine iwp_cond (b := _) rfl (fun hc4 => ?_) (fun hc4 => ?_)
  ·
    replace h := bif_t h hc4
    refine iwp_reg (ils_cons rfl (iop_load_ra (cs := [.bool _, .int _ _, .int _ _, .osl _ _ _, .osl _ _ _, .int _ _, .int _ _, .int _ _, .int _ _]) rfl rfl (by decide) Try.underlying27 ag27 ti27 (by decide) (sv (d := .ref _ _) rfl) rfl (nle rfl) rfl) <|
      ils_cons rfl (iop_move rfl rfl (by decide) (sv (d := .int _ _) rfl)) <|
      ils_cons rfl (iop_store (ds' := [.bool _, .int _ _, .int _ _, .osl _ _ _, .osl _ _ _, .int _ _, .int _ _, .int _ _, .int _ _]) rfl rfl ti27 (sv (d := .ref _ _) rfl) rfl (sv (d := .agg [.bool _, .int _ _, .int _ _, .osl _ _ _, .osl _ _ _, .int _ _, .int _ _, .int _ _, .int _ _]) rfl) rfl rfl rfl (nle rfl) rfl) <|
      ils_cons rfl (iop_assign rfl rfl (by decide) (sv (d := .int _ 0) rfl)) <|
      ils_cons rfl (iop_assign rfl rfl (by decide) (sv (d := .int _ _) rfl)) <|
      ils_end ?_)
    refine iwp_ret ?_
    refine thenQ_r ?_
    obtain rfl := Option.some.inj h
    refine ⟨.inr rfl, _, (.cons (resv_a rfl rfl Try.underlying27 ag27 ti27 (by decide) (nle rfl) rfl) (.cons (sv rfl) (.cons (sv rfl) .nil))), (.cons (.agg (.cons (.refl _) (.cons (.refl _) (.cons (.refl _) (.cons (FDT (eInt .i64) rfl rfl) (.cons (FDT (eInt .i64) rfl rfl) (.cons (.refl _) (.cons (.refl _) (.cons (.refl _) (.cons (.refl _) .nil)))))))))) (.cons (.refl _) (.cons (.refl _) .nil)))⟩
  ·
    replace h := bif_f h hc4
    refine iwp_skip ?_
    refine thenQ_n ?_
    obtain ⟨x5, hx5, h⟩ := bno_e h
    refine iwp_reg (ils_cons rfl (iop_load_ra (cs := [.bool _, .int _ _, .int _ _, .slice _ _, .slice _ _, .int _ _, .int _ _, .int _ _, .int _ _]) rfl rfl (by decide) Try.underlying27 ag27 ti27 (by decide) (sv (d := .ref _ _) rfl) rfl (nle rfl) rfl) <|
      ils_cons rfl (iop_call (r := .tuple [.int _ _, .int _ _]) rfl rfl (by decide) cl25 (.cons (sv (d := .agg [.bool _, .int _ _, .int _ _, .slice _ _, .slice _ _, .int _ _, .int _ _, .int _ _, .int _ _]) rfl) .nil) rfl (p_stid_Count _ _ hx5)) <|
      ils_cons rfl (iop_move rfl rfl (by decide) (sv (d := .tuple [.int _ _, .int _ _]) rfl)) <|
      ils_cons rfl (iop_extract (d := .int _ _) rfl rfl (by decide) (sv (d := .tuple [.int _ _, .int _ _]) rfl) rfl) <|
      ils_cons rfl (iop_extract (d := .int _ _) rfl rfl (by decide) (sv (d := .tuple [.int _ _, .int _ _]) rfl) rfl) <|
      ils_cons rfl (iop_assign rfl rfl (by decide) (sv (d := .int _ _) rfl)) <|
      ils_cons rfl (iop_assign rfl rfl (by decide) (sv (d := .int _ _) rfl)) <|
      ils_end ?_)
    refine iwp_seq ?_
    refine iwp_block ?_
    obtain ⟨x6, hx6, h⟩ := bnd_e h
    obtain ⟨x7, hx7, h⟩ := bnd_e h
    refine iwp_reg (ils_cons rfl (iop_fieldAddr_ref rfl rfl (by decide) Try.underlying27 rfl ti3 (by decide) (sv (d := .ref _ _) rfl) (off' := 7) rfl) <|
      ils_cons rfl (iop_load_rs (d := .int _ _) rfl rfl (by decide) Try.underlying3 ag3 ti3 (by decide) (sv (d := .ref _ _) rfl) rfl (nle rfl) rfl) <|
      ils_cons rfl (iop_fieldAddr_ref rfl rfl (by decide) Try.underlying27 rfl ti3 (by decide) (sv (d := .ref _ _) rfl) (off' := 8) rfl) <|
      ils_cons rfl (iop_load_rs (d := .int _ _) rfl rfl (by decide) Try.underlying3 ag3 ti3 (by decide) (sv (d := .ref _ _) rfl) rfl (nle rfl) rfl) <|
      ils_cons rfl (iop_max2 rfl rfl (by decide) (sv (d := .int _ _) rfl) (sv (d := .int _ _) rfl) hx6) <|
      ils_cons rfl (iop_cmpx rfl rfl (by decide) (sv (d := .int _ _) rfl) (sv (d := .int _ (-1)) rfl) rfl hx7) <|
      ils_cons rfl (iop_assign rfl rfl (by decide) (sv (d := .bool _) rfl)) <|
      ils_end ?_)
    refine iwp_cond (b := _) rfl (fun hc8 => ?_) (fun hc8 => ?_)
    ·
      replace h := bif_t h hc8
      refine iwp_reg (ils_cons rfl (iop_load_ra (cs := [.bool _, .int _ _, .int _ _, .osl _ _ _, .osl _ _ _, .int _ _, .int _ _, .int _ _, .int _ _]) rfl rfl (by decide) Try.underlying27 ag27 ti27 (by decide) (sv (d := .ref _ _) rfl) rfl (nle rfl) rfl) <|
        ils_cons rfl (iop_store (ds' := [.bool _, .int _ _, .int _ _, .osl _ _ _, .osl _ _ _, .int _ _, .int _ _, .int _ _, .int _ _]) rfl rfl ti27 (sv (d := .ref _ _) rfl) rfl (sv (d := .agg [.bool _, .int _ _, .int _ _, .osl _ _ _, .osl _ _ _, .int _ _, .int _ _, .int _ _, .int _ _]) rfl) rfl rfl rfl (nle rfl) rfl) <|
        ils_cons rfl (iop_assign rfl rfl (by decide) (sv (d := .int _ 0) rfl)) <|
        ils_cons rfl (iop_assign rfl rfl (by decide) (sv (d := .int _ 14) rfl)) <|
        ils_end ?_)
      refine iwp_ret ?_
      refine blockQ_r ?_
      refine thenQ_r ?_
      obtain rfl := Option.some.inj h
      refine ⟨.inr rfl, _, (.cons (resv_a rfl rfl Try.underlying27 ag27 ti27 (by decide) (nle rfl) rfl) (.cons (sv rfl) (.cons (sv rfl) .nil))), (.cons (.agg (.cons (.refl _) (.cons (.refl _) (.cons (.refl _) (.cons (FDT (eInt .i64) rfl rfl) (.cons (FDT (eInt .i64) rfl rfl) (.cons (.refl _) (.cons (.refl _) (.cons (.refl _) (.cons (.refl _) .nil)))))))))) (.cons (.refl _) (.cons (.refl _) .nil)))⟩
    ·
      replace h := bif_f h hc8
      obtain ⟨x9, hx9, h⟩ := bnd_e h
      refine iwp_reg (ils_cons rfl (iop_move rfl rfl (by decide) (sv (d := .int _ _) rfl)) <|
        ils_cons rfl (iop_fieldAddr_ref rfl rfl (by decide) Try.underlying27 rfl ti3 (by decide) (sv (d := .ref _ _) rfl) (off' := 5) rfl) <|
        ils_cons rfl (iop_load_rs (d := .int _ _) rfl rfl (by decide) Try.underlying3 ag3 ti3 (by decide) (sv (d := .ref _ _) rfl) rfl (nle rfl) rfl) <|
        ils_cons rfl (iop_cmpx rfl rfl (by decide) (sv (d := .int _ _) rfl) (sv (d := .int _ _) rfl) rfl hx9) <|
        ils_cons rfl (iop_assign rfl rfl (by decide) (sv (d := .bool _) rfl)) <|
        ils_end ?_)
      refine iwp_cond (b := _) rfl (fun hc10 => ?_) (fun hc10 => ?_)
      ·
        replace h := bif_t h hc10
        refine iwp_reg (ils_cons rfl (iop_load_ra (cs := [.bool _, .int _ _, .int _ _, .osl _ _ _, .osl _ _ _, .int _ _, .int _ _, .int _ _, .int _ _]) rfl rfl (by decide) Try.underlying27 ag27 ti27 (by decide) (sv (d := .ref _ _) rfl) rfl (nle rfl) rfl) <|
          ils_cons rfl (iop_store (ds' := [.bool _, .int _ _, .int _ _, .osl _ _ _, .osl _ _ _, .int _ _, .int _ _, .int _ _, .int _ _]) rfl rfl ti27 (sv (d := .ref _ _) rfl) rfl (sv (d := .agg [.bool _, .int _ _, .int _ _, .osl _ _ _, .osl _ _ _, .int _ _, .int _ _, .int _ _, .int _ _]) rfl) rfl rfl rfl (nle rfl) rfl) <|
          ils_cons rfl (iop_assign rfl rfl (by decide) (sv (d := .int _ 0) rfl)) <|
          ils_cons rfl (iop_assign rfl rfl (by decide) (sv (d := .int _ 7) rfl)) <|
          ils_end ?_)
        refine iwp_ret ?_
        refine blockQ_r ?_
        refine thenQ_r ?_
        obtain rfl := Option.some.inj h
        refine ⟨.inr rfl, _, (.cons (resv_a rfl rfl Try.underlying27 ag27 ti27 (by decide) (nle rfl) rfl) (.cons (sv rfl) (.cons (sv rfl) .nil))), (.cons (.agg (.cons (.refl _) (.cons (.refl _) (.cons (.refl _) (.cons (FDT (eInt .i64) rfl rfl) (.cons (FDT (eInt .i64) rfl rfl) (.cons (.refl _) (.cons (.refl _) (.cons (.refl _) (.cons (.refl _) .nil)))))))))) (.cons (.refl _) (.cons (.refl _) .nil)))⟩
      ·
        replace h := bif_f h hc10
        obtain ⟨x11, hx11, h⟩ := bnd_e h
        refine iwp_reg (ils_cons rfl (iop_fieldAddr_ref rfl rfl (by decide) Try.underlying27 rfl ti3 (by decide) (sv (d := .ref _ _) rfl) (off' := 1) rfl) <|
          ils_cons rfl (iop_load_rs (d := .int _ _) rfl rfl (by decide) Try.underlying3 ag3 ti3 (by decide) (sv (d := .ref _ _) rfl) rfl (nle rfl) rfl) <|
          ils_cons rfl (iop_cmpx rfl rfl (by decide) (sv (d := .int _ _) rfl) (sv (d := .int _ 1048576) rfl) rfl hx11) <|
          ils_cons rfl (iop_assign rfl rfl (by decide) (sv (d := .bool _) rfl)) <|
          ils_end ?_)
        refine iwp_cond (b := _) rfl (fun hc12 => ?_) (fun hc12 => ?_)
        ·
          replace h := bif_t h hc12
          refine iwp_reg (ils_cons rfl (iop_load_ra (cs := [.bool _, .int _ _, .int _ _, .osl _ _ _, .osl _ _ _, .int _ _, .int _ _, .int _ _, .int _ _]) rfl rfl (by decide) Try.underlying27 ag27 ti27 (by decide) (sv (d := .ref _ _) rfl) rfl (nle rfl) rfl) <|
            ils_cons rfl (iop_store (ds' := [.bool _, .int _ _, .int _ _, .osl _ _ _, .osl _ _ _, .int _ _, .int _ _, .int _ _, .int _ _]) rfl rfl ti27 (sv (d := .ref _ _) rfl) rfl (sv (d := .agg [.bool _, .int _ _, .int _ _, .osl _ _ _, .osl _ _ _, .int _ _, .int _ _, .int _ _, .int _ _]) rfl) rfl rfl rfl (nle rfl) rfl) <|
            ils_cons rfl (iop_assign rfl rfl (by decide) (sv (d := .int _ 0) rfl)) <|
            ils_cons rfl (iop_assign rfl rfl (by decide) (sv (d := .int _ 8) rfl)) <|
            ils_end ?_)
          refine iwp_ret ?_
          refine blockQ_r ?_
          refine thenQ_r ?_
          obtain rfl := Option.some.inj h
          refine ⟨.inr rfl, _, (.cons (resv_a rfl rfl Try.underlying27 ag27 ti27 (by decide) (nle rfl) rfl) (.cons (sv rfl) (.cons (sv rfl) .nil))), (.cons (.agg (.cons (.refl _) (.cons (.refl _) (.cons (.refl _) (.cons (FDT (eInt .i64) rfl rfl) (.cons (FDT (eInt .i64) rfl rfl) (.cons (.refl _) (.cons (.refl _) (.cons (.refl _) (.cons (.refl _) .nil)))))))))) (.cons (.refl _) (.cons (.refl _) .nil)))⟩
        ·
          replace h := bif_f h hc12
          refine iwp_skip ?_
          refine blockQ_n ?_
          refine thenQ_n ?_
          obtain ⟨x13, hx13, h⟩ := bnd_e h
          refine iwp_reg (ils_cons rfl (iop_fieldAddr_ref rfl rfl (by decide) Try.underlying27 rfl ti3 (by decide) (sv (d := .ref _ _) rfl) (off' := 1) rfl) <|
            ils_cons rfl (iop_load_rs (d := .int _ _) rfl rfl (by decide) Try.underlying3 ag3 ti3 (by decide) (sv (d := .ref _ _) rfl) rfl (nle rfl) rfl) <|
            ils_cons rfl (iop_intx rfl rfl (by decide) (sv (d := .int _ _) rfl) (sv (d := .int _ 2) rfl) rfl hx13) <|
            ils_cons rfl (iop_fieldAddr_ref rfl rfl (by decide) Try.underlying27 rfl ti3 (by decide) (sv (d := .ref _ _) rfl) (off' := 1) rfl) <|
            ils_cons rfl (iop_store (ds' := [.bool _, .int _ _, .int _ _, .osl _ _ _, .osl _ _ _, .int _ _, .int _ _, .int _ _, .int _ _]) rfl rfl ti3 (sv (d := .ref _ _) rfl) rfl (sv (d := .int _ _) rfl) rfl rfl rfl (nle rfl) rfl) <|
            ils_end ?_)
          obtain ⟨x14, hx14, h⟩ := bno_e h
          refine iwp_drw rfl [⟨[5], [4], [(45, .agg [.bool x1.1, .int .i64 x13, .int .i64 x1.2.2.1, .osl 2 (eInt .i64).sz x1.2.2.2.1.length, .osl 3 (eInt .i64).sz x1.2.2.2.2.1.length, .int .i64 x1.2.2.2.2.2.1, .int .i64 x1.2.2.2.2.2.2.1, .int .i64 x1.2.2.2.2.2.2.2.1, .int .i64 x1.2.2.2.2.2.2.2.2])], []⟩,
            ⟨[1], [], [(46, .ref 0 1)], []⟩,
            ⟨[46], [0], [(47, .int .i64 a0.Next)], []⟩,
            ⟨[45, 47], [2, 3, 5, 6], [(48, .agg [.bool x14.1, .int .i64 x14.2.1, .int .i64 x14.2.2.1, .osl 5 (eInt .i64).sz x14.2.2.2.1.length, .osl 6 (eInt .i64).sz x14.2.2.2.2.1.length, .int .i64 x14.2.2.2.2.2.1, .int .i64 x14.2.2.2.2.2.2.1, .int .i64 x14.2.2.2.2.2.2.2.1, .int .i64 x14.2.2.2.2.2.2.2.2])], [(5, .blk 3 (D.flat (x14.2.2.2.1.map (eInt .i64).d))), (6, .blk 3 (D.flat (x14.2.2.2.2.1.map (eInt .i64).d))), (2, .none), (3, .none)]⟩,
            ⟨[1], [], [(49, .ref 0 1)], []⟩,
            ⟨[49], [0], [(50, .int .i64 a0.Next)], []⟩,
            ⟨[2, 48], [1], [], [(1, .blk 27 [.bool x14.1, .int .i64 x14.2.1, .int .i64 x14.2.2.1, .osl 5 (eInt .i64).sz x14.2.2.2.1.length, .osl 6 (eInt .i64).sz x14.2.2.2.2.1.length, .int .i64 x14.2.2.2.2.2.1, .int .i64 x14.2.2.2.2.2.2.1, .int .i64 x14.2.2.2.2.2.2.2.1, .int .i64 x14.2.2.2.2.2.2.2.2])]⟩,
            ⟨[50], [], [(3, .int .i64 a0.Next)], []⟩,
            ⟨[], [], [(4, .int .i64 0)], []⟩] rfl ?_ (by kernel_rfl) ?_
          · refine .cons (lop rfl rfl fun S hA => (iop_load_ra (cs := [.bool _, .int _ _, .int _ _, .osl _ _ _, .osl _ _ _, .int _ _, .int _ _, .int _ _, .int _ _]) rfl rfl (by decide) Try.underlying27 ag27 ti27 (by decide) (sv (d := .ref _ _) (agr hA rfl rfl)) (agi hA rfl rfl) (nle rfl) rfl)) ?_
            refine .cons (lop rfl rfl fun S hA => (iop_fieldAddr_ref rfl rfl (by decide) Try.underlying27 rfl ti3 (by decide) (sv (d := .ref _ _) (agr hA rfl rfl)) (off' := 1) rfl)) ?_
            refine .cons (lop rfl rfl fun S hA => (iop_load_rs (d := .int _ _) rfl rfl (by decide) Try.underlying3 ag3 ti3 (by decide) (sv (d := .ref _ _) (agr hA rfl rfl)) (agi hA rfl rfl) (nle rfl) rfl)) ?_
            refine .cons (lop rfl rfl fun S hA => (iop_callM (r' := .agg [.bool x14.1, .int .i64 x14.2.1, .int .i64 x14.2.2.1, .osl 5 (eInt .i64).sz x14.2.2.2.1.length, .osl 6 (eInt .i64).sz x14.2.2.2.2.1.length, .int .i64 x14.2.2.2.2.2.1, .int .i64 x14.2.2.2.2.2.2.1, .int .i64 x14.2.2.2.2.2.2.2.1, .int .i64 x14.2.2.2.2.2.2.2.2]) (U := [(5, .blk 3 (D.flat (x14.2.2.2.1.map (eInt .i64).d))), (6, .blk 3 (D.flat (x14.2.2.2.2.1.map (eInt .i64).d))), (2, .none), (3, .none)]) 5 2 [2, 3] rfl rfl (by decide) cl29 (.cons (sv (d := .agg [.bool _, .int _ _, .int _ _, .osl _ _ _, .osl _ _ _, .int _ _, .int _ _, .int _ _, .int _ _]) (agr hA rfl rfl)) (.cons (sv (d := .int _ _) (agr hA rfl rfl)) .nil)) rfl rfl rfl (List.forall_mem_cons.2 ⟨(agi hA rfl rfl), List.forall_mem_cons.2 ⟨(agi hA rfl rfl), List.forall_mem_nil _⟩⟩) ⟨by decide, rfl, List.forall_mem_cons.2 ⟨⟨rfl, rfl, (handL (eInt .i64) (agi hA rfl rfl)), (handLr (eInt .i64))⟩, List.forall_mem_cons.2 ⟨⟨rfl, rfl, (handL (eInt .i64) (agi hA rfl rfl)), (handLr (eInt .i64))⟩, List.forall_mem_nil _⟩⟩⟩ (p_stid_State_born_h _ _ _ _ _ _ _ _ _ _ _ hx14) rfl rfl (List.forall_mem_cons.2 ⟨⟨rfl, (handLr (eInt .i64))⟩, List.forall_mem_cons.2 ⟨⟨rfl, (handLr (eInt .i64))⟩, List.forall_mem_nil _⟩⟩) (by simp only [List.map_cons, List.map_nil, Ent.ren, renL_flat, renL_ref]; rfl))) ?_
            refine .cons (lop rfl rfl fun S hA => (iop_fieldAddr_ref rfl rfl (by decide) Try.underlying27 rfl ti3 (by decide) (sv (d := .ref _ _) (agr hA rfl rfl)) (off' := 1) rfl)) ?_
            refine .cons (lop rfl rfl fun S hA => (iop_load_rs (d := .int _ _) rfl rfl (by decide) Try.underlying3 ag3 ti3 (by decide) (sv (d := .ref _ _) (agr hA rfl rfl)) (agi hA rfl rfl) (nle rfl) rfl)) ?_
            refine .cons (lop rfl rfl fun S hA => (iop_store (ds' := [.bool _, .int _ _, .int _ _, .osl _ _ _, .osl _ _ _, .int _ _, .int _ _, .int _ _, .int _ _]) rfl rfl ti27 (sv (d := .ref _ _) (agr hA rfl rfl)) (agi hA rfl rfl) (sv (d := .agg [.bool _, .int _ _, .int _ _, .osl _ _ _, .osl _ _ _, .int _ _, .int _ _, .int _ _, .int _ _]) (agr hA rfl rfl)) rfl rfl rfl (nle rfl) rfl)) ?_
            refine .cons (lop rfl rfl fun S hA => (iop_assign rfl rfl (by decide) (sv (d := .int _ _) (agr hA rfl rfl)))) ?_
            refine .cons (lop rfl rfl fun S hA => (iop_assign rfl rfl (by decide) (sv (d := .int _ 0) rfl))) ?_
            exact .nil
          refine iwp_ret ?_
          obtain rfl := Option.some.inj h
          refine ⟨.inr rfl, _, (.cons (resv_a rfl rfl Try.underlying27 ag27 ti27 (by decide) (nle rfl) rfl) (.cons (sv rfl) (.cons (sv rfl) .nil))), (.cons (.agg (.cons (.refl _) (.cons (.refl _) (.cons (.refl _) (.cons (FDT (eInt .i64) rfl rfl) (.cons (FDT (eInt .i64) rfl rfl) (.cons (.refl _) (.cons (.refl _) (.cons (.refl _) (.cons (.refl _) .nil)))))))))) (.cons (.refl _) (.cons (.refl _) .nil)))⟩

set_option maxRecDepth 8000 in
set_option maxHeartbeats 2000000 in
theorem p_stid_Begin_1_h (a0 : Int) (a1 : Bool) (a2 : Int) (a3 : Int) (a4 : Int) (a5 : Int) (a6 : Int) (a7 : Int) (a8 : (List Int)) (a9 : (List Int)) (r : (Bool × Int × Int × (List Int) × (List Int) × Int × Int × Int × Int × T_rules_Verdict)) (h : stid_Begin_1_h a0 a1 a2 a3 a4 a5 a6 a7 a8 a9 = some r) : FnH Try.prog 33 [.int .u32 a0, .ref 1000 0] [(1000, .blk 27 [.bool a1, .int .i64 a2, .int .i64 a3, .osl 1001 (eInt .i64).sz a8.length, .osl 1002 (eInt .i64).sz a9.length, .int .i64 a4, .int .i64 a5, .int .i64 a6, .int .i64 a7]), (1001, .blk 3 (D.flat (a8.map (eInt .i64).d))), (1002, .blk 3 (D.flat (a9.map (eInt .i64).d)))] (retD [.agg [.bool r.1, .int .i64 r.2.1, .int .i64 r.2.2.1, .osl 0 (eInt .i64).sz r.2.2.2.1.length, .osl 1 (eInt .i64).sz r.2.2.2.2.1.length, .int .i64 r.2.2.2.2.2.1, .int .i64 r.2.2.2.2.2.2.1, .int .i64 r.2.2.2.2.2.2.2.1, .int .i64 r.2.2.2.2.2.2.2.2.1], .agg [.int .i64 r.2.2.2.2.2.2.2.2.2.Scope, .int .u32 r.2.2.2.2.2.2.2.2.2.Code]]) [(1000, .blk 27 [.bool a1, .int .i64 a2, .int .i64 a3, .osl 1001 (eInt .i64).sz a8.length, .osl 1002 (eInt .i64).sz a9.length, .int .i64 a4, .int .i64 a5, .int .i64 a6, .int .i64 a7]), (0, .blk 3 (D.flat (r.2.2.2.1.map (eInt .i64).d))), (1, .blk 3 (D.flat (r.2.2.2.2.1.map (eInt .i64).d)))] := by
  refine fnh_of_iwp (rs := [.agg [.bool r.1, .int .i64 r.2.1, .int .i64 r.2.2.1, .osl 0 (eInt .i64).sz r.2.2.2.1.length, .osl 1 (eInt .i64).sz r.2.2.2.2.1.length, .int .i64 r.2.2.2.2.2.1, .int .i64 r.2.2.2.2.2.2.1, .int .i64 r.2.2.2.2.2.2.2.1, .int .i64 r.2.2.2.2.2.2.2.2.1], .agg [.int .i64 r.2.2.2.2.2.2.2.2.2.Scope, .int .u32 r.2.2.2.2.2.2.2.2.2.Code]]) Try.func33 rfl Try.ntmps33 (nle rfl) fun O hO => ?_
  show IWP _ _ _ _ ⟨[(0, .int .u32 a0), (1, .ref 1000 0)], [(1000, .blk 27 [.bool a1, .int .i64 a2, .int .i64 a3, .osl 1001 (eInt .i64).sz a8.length, .osl 1002 (eInt .i64).sz a9.length, .int .i64 a4, .int .i64 a5, .int .i64 a6, .int .i64 a7]), (1001, .blk 3 (D.flat (a8.map (eInt .i64).d))), (1002, .blk 3 (D.flat (a9.map (eInt .i64).d)))]⟩ _
  unfold stid_Begin_1_h at h
  refine iwp_reg (ils_cons rfl (iop_allocS (cs := [.bool _, .int _ _, .int _ _, .nils, .nils, .int _ _, .int _ _, .int _ _, .int _ _]) (cs' := [.bool false, .int .i64 0, .int .i64 0, .slice false (([] : List Int).map (eInt .i64).d), .slice false (([] : List Int).map (eInt .i64).d), .int .i64 0, .int .i64 0, .int .i64 0, .int .i64 0]) 0 rfl rfl (by decide) rfl ti27 rfl rfl (.cons (.refl _) (.cons (.refl _) (.cons (.refl _) (.cons (.nils _) (.cons (.nils _) (.cons (.refl _) (.cons (.refl _) (.cons (.refl _) (.cons (.refl _) .nil)))))))))) <|
    ils_cons rfl (iop_allocS (cs := [.int _ _, .int _ _]) (cs' := [.int .i64 0, .int .u32 0]) 1 rfl rfl (by decide) rfl ti36 rfl rfl (.cons (.refl _) (.cons (.refl _) .nil))) <|
    ils_end ?_)
  refine iwp_reg (ils_cons rfl (iop_load_ra (cs := [.bool _, .int _ _, .int _ _, .osl _ _ _, .osl _ _ _, .int _ _, .int _ _, .int _ _, .int _ _]) rfl rfl (by decide) Try.underlying27 ag27 ti27 (by decide) (sv (d := .ref _ _) rfl) rfl (nle rfl) rfl) <|
    ils_cons rfl (iop_move rfl rfl (by decide) (sv (d := .int _ _) rfl)) <|
    ils_cons rfl (iop_build_struct (cs := [.int _ _, .int _ _]) rfl rfl (by decide) Try.underlying36 ti36 pl36 rfl (.cons (sv (d := .int _ 3) rfl) (.cons (sv (d := .int _ _) rfl) .nil)) rfl) <|
    ils_cons rfl (iop_store (ds' := [.bool _, .int _ _, .int _ _, .osl _ _ _, .osl _ _ _, .int _ _, .int _ _, .int _ _, .int _ _]) rfl rfl ti27 (sv (d := .ref _ _) rfl) rfl (sv (d := .agg [.bool _, .int _ _, .int _ _, .osl _ _ _, .osl _ _ _, .int _ _, .int _ _, .int _ _, .int _ _]) rfl) rfl rfl rfl (nle rfl) rfl) <|
    ils_cons rfl (iop_store (ds' := [.int _ _, .int _ _]) rfl rfl ti36 (sv (d := .ref _ _) rfl) rfl (sv (d := .agg [.int _ _, .int _ _]) rfl) rfl rfl rfl (nle rfl) rfl) <|
    ils_end ?_)
  refine iwp_ret ?_
  obtain rfl := Option.some.inj h
  refine ⟨.inr rfl, (fun i => if i = 0 then 1001 else if i = 1 then 1002 else i), ⟨.nil, (.cons (.blk rfl rfl rfl) (.cons (EntW.lst rfl) (.cons (EntW.lst rfl) .nil))), nd_of [1000, 1001, 1002] rfl (by decide), (fun i hi => by first | rfl | (show (if _ then _ else _) = _; (repeat' split) <;> omega))⟩, (.cons (resv_a rfl rfl Try.underlying27 ag27 ti27 (by decide) (nle rfl) rfl) (.cons (resv_a rfl rfl Try.underlying36 ag36 ti36 (by decide) (nle rfl) rfl) .nil)), rfl⟩

set_option maxRecDepth 8000 in
set_option maxHeartbeats 2000000 in
theorem p_slices_Index_int_int (a0 : (List Int)) (a1 : Int) (r : Int) (h : slices_Index_int_int a0 a1 = some r) : PureAt Try.prog 54 [.slice false (a0.map (eInt .i64).d), .int .i64 a1] (.int .i64 r) := by
  refine pure_of_iwp (rs := [.int .i64 r]) Try.func54 rfl Try.ntmps54 (nle rfl) rfl fun O hO => ?_
  show IWP _ _ _ _ ⟨[(0, .slice false (a0.map (eInt .i64).d)), (1, .int .i64 a1)], []⟩ _
  unfold slices_Index_int_int at h
  refine iwp_reg (ils_cons rfl (iop_assign rfl rfl (by decide) (sv (d := .int _ 0) rfl)) <|
    ils_end ?_)
  refine iwp_seq ?_
  refine iwp_reg (ils_cons rfl (iop_move rfl rfl (by decide) (sv (d := .slice _ _) rfl)) <|
    ils_cons rfl (iop_lenT (eInt .i64) (l := a0) rfl rfl (by decide) Try.underlying22 (sv (d := .slice _ _) rfl)) <|
    ils_cons rfl (iop_move rfl rfl (by decide) (sv (d := .int _ 0) rfl)) <|
    ils_end ?_)
  refine iwp_block ?_
  refine iwp_loopP (α := Nat × Int) (fun z => ⟨[(0, .slice false (a0.map (eInt .i64).d)), (1, .int .i64 a1), (7, .int .i64 (a0.length : Int)), (8, .int .i64 z.2)], []⟩) (fun z => slices_Index_int_int_L0 a0 a1 z.1 z.2 = some r) (fun z => z.1) (fuel, 0) (fun i => i) ⟨(.cons (.same rfl rfl) (.cons (.same rfl rfl) (.cons (.same rfl rfl) (.cons (.same rfl rfl) .nil)))), .nil, nd_of [] rfl (by decide), (fun i hi => by first | rfl | (show (if _ then _ else _) = _; (repeat' split) <;> omega))⟩ ?_ ?_
  · exact h
  ·
    rintro ⟨n0, v7⟩ h
    cases n0 with
    | zero => exact absurd h (by unfold slices_Index_int_int_L0; exact nofun)
    | succ n0 =>
      unfold slices_Index_int_int_L0 at h
      obtain ⟨x14, hx14, h⟩ := bnd_e h
      refine iwp_reg (ils_cons rfl (iop_cmpx rfl rfl (by decide) (sv (d := .int _ _) rfl) (sv (d := .int _ _) rfl) rfl hx14) <|
        ils_end ?_)
      refine iwp_seq ?_
      refine iwp_cond (b := _) rfl (fun hc15 => ?_) (fun hc15 => ?_)
      ·
        replace h := bif_t h hc15
        refine iwp_skip ?_
        refine thenQ_n ?_
        refine iwp_seq ?_
        refine iwp_block ?_
        refine iwp_reg (ils_cons rfl (iop_move rfl rfl (by decide) (sv (d := .int _ _) rfl)) <|
          ils_cons rfl (iop_assign rfl rfl (by decide) (sv (d := .int _ _) rfl)) <|
          ils_end ?_)
        obtain ⟨x16, hx16, h⟩ := bno_e h
        obtain ⟨x17, hx17, h⟩ := bnd_e h
        refine iwp_reg (ils_cons rfl (iop_move rfl rfl (by decide) (sv (d := .int _ _) rfl)) <|
          ils_cons rfl (iop_move rfl rfl (by decide) (sv (d := .slice _ _) rfl)) <|
          ils_cons rfl (iop_move rfl rfl (by decide) (sv (d := .int _ _) rfl)) <|
          ils_cons rfl (iop_idxT (eInt .i64) (cs := [.int _ _]) rfl rfl (by decide) Try.underlying22 ti3 (sv (d := .slice _ _) rfl) (sv (d := .int _ _) rfl) hx16 rfl rfl) <|
          ils_cons rfl (iop_load_fs rfl rfl (by decide) Try.underlying3 ag3 ti3 (by decide) (sv (d := .fptr [.int _ _]) rfl) (nle rfl)) <|
          ils_cons rfl (iop_cmpx rfl rfl (by decide) (sv (d := .int _ _) rfl) (sv (d := .int _ _) rfl) rfl hx17) <|
          ils_end ?_)
        refine iwp_cond (b := _) rfl (fun hc18 => ?_) (fun hc18 => ?_)
        ·
          replace h := bif_t h hc18
          refine iwp_reg (ils_cons rfl (iop_move rfl rfl (by decide) (sv (d := .int _ _) rfl)) <|
            ils_cons rfl (iop_assign rfl rfl (by decide) (sv (d := .int _ _) rfl)) <|
            ils_end ?_)
          refine iwp_ret ?_
          refine blockQ_r ?_
          refine thenQ_r ?_
          refine thenQ_r ?_
          refine blockQ_r ?_
          refine thenQ_r ?_
          obtain rfl := Option.some.inj h
          refine ⟨.inr rfl, (.cons (sv rfl) .nil)⟩
        ·
          replace h := bif_f h hc18
          refine iwp_skip ?_
          refine blockQ_n ?_
          refine thenQ_n ?_
          obtain ⟨x19, hx19, h⟩ := bnd_e h
          refine iwp_region (ils_cons rfl (iop_intx rfl rfl (by decide) (sv (d := .int _ _) rfl) (sv (d := .int _ 1) rfl) rfl hx19) <|
            ils_cons rfl (iop_move rfl rfl (by decide) (sv (d := .int _ _) rfl)) <|
            ils_nil ?_)
          refine thenQ_n ⟨(n0, x19), (fun i => i), ⟨(.cons (.same rfl rfl) (.cons (.same rfl rfl) (.cons (.same rfl rfl) (.cons (.same rfl rfl) .nil)))), .nil, nd_of [] rfl (by decide), (fun i hi => by first | rfl | (show (if _ then _ else _) = _; (repeat' split) <;> omega))⟩, ?_, ?_⟩
          exact h
          exact Nat.lt_succ_self _
      ·
        replace h := bif_f h hc15
        refine iwp_exit ?_
        refine thenQ_e ?_
        refine thenQ_e ?_
        refine blockQ_e ?_
        refine thenQ_n ?_
        refine iwp_reg (ils_cons rfl (iop_assign rfl rfl (by decide) (sv (d := .int _ (-1)) rfl)) <|
          ils_end ?_)
        refine iwp_ret ?_
        obtain rfl := Option.some.inj h
        refine ⟨.inr rfl, (.cons (sv rfl) .nil)⟩

set_option maxRecDepth 8000 in
set_option maxHeartbeats 2000000 in
theorem p_slices_Contains_int_int (a0 : (List Int)) (a1 : Int) (r : Bool) (h : slices_Contains_int_int a0 a1 = some r) : PureAt Try.prog 35 [.slice false (a0.map (eInt .i64).d), .int .i64 a1] (.bool r) := by
  refine pure_of_iwp (rs := [.bool r]) Try.func35 rfl Try.ntmps35 (nle rfl) rfl fun O hO => ?_
  show IWP _ _ _ _ ⟨[(0, .slice false (a0.map (eInt .i64).d)), (1, .int .i64 a1)], []⟩ _
  unfold slices_Contains_int_int at h
  refine iwp_reg (ils_cons rfl (iop_assign rfl rfl (by decide) (sv (d := .bool false) rfl)) <|
    ils_end ?_)
  obtain ⟨x1, hx1, h⟩ := bno_e h
  obtain ⟨x2, hx2, h⟩ := bnd_e h
  refine iwp_reg (ils_cons rfl (iop_move rfl rfl (by decide) (sv (d := .slice _ _) rfl)) <|
    ils_cons rfl (iop_move rfl rfl (by decide) (sv (d := .int _ _) rfl)) <|
    ils_cons rfl (iop_call (r := .int _ _) rfl rfl (by decide) cl54 (.cons (sv (d := .slice _ _) rfl) (.cons (sv (d := .int _ _) rfl) .nil)) rfl (p_slices_Index_int_int _ _ _ hx1)) <|
    ils_cons rfl (iop_cmpx rfl rfl (by decide) (sv (d := .int _ _) rfl) (sv (d := .int _ 0) rfl) rfl hx2) <|
    ils_cons rfl (iop_assign rfl rfl (by decide) (sv (d := .bool _) rfl)) <|
    ils_end ?_)
  refine iwp_ret ?_
  obtain rfl := Option.some.inj h
  refine ⟨.inr rfl, (.cons (sv rfl) .nil)⟩

set_option maxRecDepth 8000 in
set_option maxHeartbeats 4000000 in
theorem p_slices_Delete_int_int_h (a0 : Int) (a1 : Int) (a2 : List Int) (r : List Int) (h : slices_Delete_int_int_h a0 a1 a2 = some r) : FnH Try.prog 42 [.osl 1000 (eInt .i64).sz a2.length, .int .i64 a0, .int .i64 a1] [(1000, .blk 3 (D.flat (a2.map (eInt .i64).d)))] (.osl 0 (eInt .i64).sz r.length) [(0, .blk 3 (D.flat (r.map (eInt .i64).d)))] := by
  replace h : delS a2 a0 a1 = some r := h
  obtain ⟨i, j, rfl, rfl, hij, hj, hr⟩ := delS_e h
  have hX := (eInt .i64).toEnc0.flat_len a2
  refine fnh_of_iwp (rs := [.osl 0 (eInt .i64).sz r.length]) Try.func42 rfl Try.ntmps42 (nle rfl) fun O hO => ?_
  show IWP _ _ _ _ ⟨[(0, .osl 1000 (eInt .i64).sz a2.length), (1, .int .i64 (i : Int)), (2, .int .i64 (j : Int))], [(1000, .blk 3 (D.flat (a2.map (eInt .i64).d)))]⟩ _
  refine iwp_open 0 (id := 1000) (sz := (eInt .i64).sz) (n := a2.length) rfl rfl hX (fun hn => ?_) (fun c hc hcm => ?_)
  · obtain rfl := List.length_eq_zero_iff.1 hn
    obtain rfl : j = 0 := by simpa using hj
    obtain rfl : i = 0 := by omega
    refine iwp_reg (ils_cons rfl (iop_assign rfl rfl (by decide) (sv (d := .nils) rfl)) <| ils_end ?_)
    refine iwp_reg (ils_cons rfl (iop_move rfl rfl (by decide) (sv (d := .nils) rfl)) <| ils_cons rfl (iop_move rfl rfl (by decide) (sv (d := .int _ _) rfl)) <| ils_cons rfl (iop_move rfl rfl (by decide) (sv (d := .int _ _) rfl)) <| ils_cons rfl (iop_move rfl rfl (by decide) (sv (d := .nils) rfl)) <|
      ils_cons rfl (iop_lenT (eInt .i64) (l := []) (b := false) rfl rfl (by decide) Try.underlying22 (svn rfl)) <|
      ils_cons rfl (iop_slice_nils3 rfl rfl (by decide) Try.underlying22 ti3 (sv (d := .nils) rfl) (sv (d := .int _ _) rfl) (sv (d := .int _ _) rfl) (sv (d := .int _ _) rfl)) <| ils_end ?_)
    refine iwp_seq ?_
    refine iwp_reg (ils_cons rfl (iop_move rfl rfl (by decide) (sv (d := .int _ _) rfl)) <| ils_cons rfl (iop_move rfl rfl (by decide) (sv (d := .int _ _) rfl)) <| ils_cons rfl (iop_cmpx rfl rfl (by decide) (sv (d := .int _ _) rfl) (sv (d := .int _ _) rfl) rfl rfl) <| ils_end ?_)
    refine iwp_cond_t rfl rfl ?_
    have hr' : [] = r := by simpa using hr
    subst hr'
    refine iwp_reg (ils_cons rfl (iop_move rfl rfl (by decide) (sv (d := .nils) rfl)) <| ils_cons rfl (iop_assign rfl rfl (by decide) (sv (d := .nils) rfl)) <| ils_end ?_)
    refine iwp_ret ?_
    refine thenQ_r ?_
    refine ⟨.inr rfl, (fun i => if i = 0 then 50 else i), ⟨.nil, (.cons (.nilb rfl) .nil), nd_of [50] rfl (by decide), (fun i hi => by first | rfl | (show (if _ then _ else _) = _; (repeat' split) <;> omega))⟩, (.cons (svno rfl) .nil), rfl⟩
  · refine iwp_reg (ils_cons rfl (iop_assign rfl rfl (by decide) (sv (d := .nils) rfl)) <| ils_end ?_)
    refine iwp_reg (ils_cons rfl (iop_move rfl rfl (by decide) (sv (d := .rsl _ _ _ _ _) rfl)) <| ils_cons rfl (iop_move rfl rfl (by decide) (sv (d := .int _ _) rfl)) <| ils_cons rfl (iop_move rfl rfl (by decide) (sv (d := .int _ _) rfl)) <| ils_cons rfl (iop_move rfl rfl (by decide) (sv (d := .rsl _ _ _ _ _) rfl)) <|
      ils_cons rfl (iop_len_rsl rfl rfl (by decide) Try.underlying22 (sv (d := .rsl _ _ _ _ _) rfl) rfl) <|
      ils_cons rfl (iop_slice_rsl (sz := (eInt .i64).sz) (l := (i : Int)) (h := (j : Int)) (m := (a2.length : Int)) rfl rfl (by decide) Try.underlying22 ti3 (sv (d := .rsl _ _ _ _ _) rfl) ⟨_, (sv (d := .int _ _) rfl)⟩ ⟨_, (sv (d := .int _ _) rfl)⟩ ⟨_, (sv (d := .int _ _) rfl)⟩ (by simp) (by omega) (by omega) (by omega) (by omega) rfl) <| ils_end ?_)
    refine iwp_seq ?_
    refine iwp_reg (ils_cons rfl (iop_move rfl rfl (by decide) (sv (d := .int _ _) rfl)) <| ils_cons rfl (iop_move rfl rfl (by decide) (sv (d := .int _ _) rfl)) <| ils_cons rfl (iop_cmpx rfl rfl (by decide) (sv (d := .int _ _) rfl) (sv (d := .int _ _) rfl) rfl rfl) <| ils_end ?_)
    refine iwp_cond (b := _) rfl (fun h1 => ?_) (fun h1 => ?_)
    · have h2 := of_decide_eq_true h1
      obtain rfl : i = j := by omega
      have hr' : a2 = r := by simpa using hr
      subst hr'
      refine iwp_reg (ils_cons rfl (iop_move rfl rfl (by decide) (sv (d := .rsl _ _ _ _ _) rfl)) <| ils_cons rfl (iop_assign rfl rfl (by decide) (sv (d := .rsl _ _ _ _ _) rfl)) <| ils_end ?_)
      refine iwp_close 6 (id := 1000) rfl rfl hX ?_
      refine iwp_ret ?_
      refine thenQ_r ?_
      refine ⟨.inr rfl, (fun i => if i = 0 then 1000 else i), ⟨.nil, (.cons (EntW.lst rfl) .nil), nd_of [1000] rfl (by decide), (fun i hi => by first | rfl | (show (if _ then _ else _) = _; (repeat' split) <;> omega))⟩, (.cons (sv rfl) .nil), rfl⟩
    · have h2 := of_decide_eq_false h1
      have hlt : i < j := by omega
      obtain ⟨J, hJ⟩ : ∃ J, J = List.replicate ((c - a2.length) * (eInt .i64).sz) D.dead := ⟨_, rfl⟩
      have hXd : (D.flat ((a2.drop j).map (eInt .i64).d)).length = (a2.length - j) * (eInt .i64).sz := by rw [(eInt .i64).toEnc0.flat_len, List.length_drop]
      have hXt : (D.flat ((a2.take i).map (eInt .i64).d)).length = i * (eInt .i64).sz := by rw [(eInt .i64).toEnc0.flat_len, List.length_take, Nat.min_eq_left (by omega)]
      have hrl : r.length = i + (a2.length - j) := by rw [← hr, List.length_append, List.length_take, List.length_drop, Nat.min_eq_left (by omega)]
      have hR : D.flat (r.map (eInt .i64).d) = D.flat ((a2.take i).map (eInt .i64).d) ++ D.flat ((a2.drop j).map (eInt .i64).d) := by rw [← hr, (eInt .i64).toEnc0.flat_append]
      have hRl : (D.flat (r.map (eInt .i64).d)).length = (i + (a2.length - j)) * (eInt .i64).sz := by rw [(eInt .i64).toEnc0.flat_len, hrl]
      have hfitj : j * (eInt .i64).sz + (a2.length - j) * (eInt .i64).sz = a2.length * (eInt .i64).sz := by rw [← Nat.add_mul]; congr 1; omega
      have hfiti : (i + (a2.length - j)) * (eInt .i64).sz ≤ a2.length * (eInt .i64).sz := Nat.mul_le_mul_right _ (by omega)
      rw [← hJ]
      have hD0 : (D.flat (a2.map (eInt .i64).d) ++ J).length = a2.length * (eInt .i64).sz + J.length := by rw [List.length_append, hX]
      obtain ⟨es, hes⟩ : ∃ es, es = ((D.flat (a2.map (eInt .i64).d) ++ J).drop (j * (eInt .i64).sz)).take ((a2.length - j) * (eInt .i64).sz) := ⟨_, rfl⟩
      have hes' : es = D.flat ((a2.drop j).map (eInt .i64).d) := by
        rw [hes, List.drop_append_of_le_length (by rw [hX]; exact Nat.mul_le_mul_right _ hj), (eInt .i64).toEnc0.flat_drop, List.take_append_of_le_length (by rw [hXd]; exact Nat.le_refl _), ← hXd, List.take_length]
      obtain ⟨Z, hZ⟩ : ∃ Z, splice (D.flat (a2.map (eInt .i64).d) ++ J) (i * (eInt .i64).sz) es = D.flat (r.map (eInt .i64).d) ++ Z := by
        refine ⟨(D.flat ((a2.drop i).map (eInt .i64).d) ++ J).drop es.length, ?_⟩
        rw [flat_split (eInt .i64).toEnc0 a2 i, List.append_assoc, splice_pre hXt, hR, hes', List.append_assoc]
      have hZl : (D.flat (r.map (eInt .i64).d) ++ Z).length = a2.length * (eInt .i64).sz + J.length := by
        rw [← hZ, length_splice' (by rw [hD0, hes', hXd, ← Nat.add_mul]; omega), hD0]
      refine iwp_skip ?_
      refine thenQ_n ?_
      refine iwp_reg (ils_cons rfl (iop_move rfl rfl (by decide) (sv (d := .rsl _ _ _ _ _) rfl)) <| ils_cons rfl (iop_len_rsl rfl rfl (by decide) Try.underlying22 (sv (d := .rsl _ _ _ _ _) rfl) rfl) <| ils_cons rfl (iop_assign rfl rfl (by decide) (sv (d := .int _ _) rfl)) <| ils_end ?_)
      refine iwp_drw rfl [⟨[0], [], [(20, .rsl 1000 (eInt .i64).sz 0 a2.length c)], []⟩, ⟨[1], [], [(21, .int .i64 (i : Int))], []⟩, ⟨[20, 21], [], [(22, .rsl 1000 (eInt .i64).sz 0 i c)], []⟩, ⟨[0], [], [(23, .rsl 1000 (eInt .i64).sz 0 a2.length c)], []⟩, ⟨[2], [], [(24, .int .i64 (j : Int))], []⟩,
        ⟨[23, 24], [], [(25, .rsl 1000 (eInt .i64).sz (j * (eInt .i64).sz) (a2.length - j) (c - j))], []⟩, ⟨[22, 25], [1000], [(26, .rsl 1000 (eInt .i64).sz 0 (i + (a2.length - j)) c)], [(1000, .blk 3 (D.flat (r.map (eInt .i64).d) ++ Z))]⟩, ⟨[26], [], [(0, .rsl 1000 (eInt .i64).sz 0 (i + (a2.length - j)) c)], []⟩] rfl ?_ (by kernel_rfl) ?_
      · refine .cons (lop rfl rfl fun S hA => (iop_move rfl rfl (by decide) (sv (d := .rsl _ _ _ _ _) (agr hA rfl rfl)))) ?_
        refine .cons (lop rfl rfl fun S hA => (iop_move rfl rfl (by decide) (sv (d := .int _ _) (agr hA rfl rfl)))) ?_
        refine .cons (lop rfl rfl fun S hA => (iop_slice_rsl (sz := (eInt .i64).sz) (l := 0) (h := (i : Int)) (m := (c : Int)) (d := .rsl 1000 (eInt .i64).sz 0 i c) rfl rfl (by decide) Try.underlying22 ti3 (sv (d := .rsl _ _ _ _ _) (agr hA rfl rfl)) rfl ⟨_, (sv (d := .int _ _) (agr hA rfl rfl))⟩ rfl (by simp) (by omega) (by omega) (by omega) (by omega) (by simp only [Int.toNat_natCast, Int.toNat_zero, Nat.zero_mul, Nat.zero_add, Nat.sub_zero]))) ?_
        refine .cons (lop rfl rfl fun S hA => (iop_move rfl rfl (by decide) (sv (d := .rsl _ _ _ _ _) (agr hA rfl rfl)))) ?_
        refine .cons (lop rfl rfl fun S hA => (iop_move rfl rfl (by decide) (sv (d := .int _ _) (agr hA rfl rfl)))) ?_
        refine .cons (lop rfl rfl fun S hA => (iop_slice_rsl (sz := (eInt .i64).sz) (l := (j : Int)) (h := (a2.length : Int)) (m := (c : Int)) (d := .rsl 1000 (eInt .i64).sz (j * (eInt .i64).sz) (a2.length - j) (c - j)) rfl rfl (by decide) Try.underlying22 ti3 (sv (d := .rsl _ _ _ _ _) (agr hA rfl rfl)) ⟨_, (sv (d := .int _ _) (agr hA rfl rfl))⟩ rfl rfl (by simp) (by omega) (by omega) (by omega) (by omega) (by simp only [Int.toNat_natCast, Nat.zero_add]))) ?_
        refine .cons (lop rfl rfl fun S hA => (iop_app_room (sz := (eInt .i64).sz) (m := a2.length - j) (es := es) (ds' := D.flat (r.map (eInt .i64).d) ++ Z) (d := .rsl 1000 (eInt .i64).sz 0 (i + (a2.length - j)) c) rfl rfl (by decide) Try.underlying22 ti3 (sv (d := .rsl _ _ _ _ _) (agr hA rfl rfl)) (agi hA rfl rfl) (hes ▸ src_rsl (sv (d := .rsl _ _ _ _ _) (agr hA rfl rfl)) (agi hA rfl rfl) (by rw [hD0, hfitj]; exact Nat.le_add_right _ _)) (by rw [hes', hXd]) (by rw [hes']; exact (eInt .i64).toEnc0.one _) (by omega) (by rw [hD0]; exact Nat.le_trans hfiti (Nat.le_add_right _ _)) hZ rfl)) ?_
        refine .cons (lop rfl rfl fun S hA => (iop_assign rfl rfl (by decide) (sv (d := .rsl _ _ _ _ _) (agr hA rfl rfl)))) ?_
        exact .nil
      · refine iwp_reg (ils_cons rfl (iop_move rfl rfl (by decide) (sv (d := .rsl _ _ _ _ _) rfl)) <| ils_cons rfl (iop_move rfl rfl (by decide) (sv (d := .rsl _ _ _ _ _) rfl)) <| ils_cons rfl (iop_len_rsl rfl rfl (by decide) Try.underlying22 (sv (d := .rsl _ _ _ _ _) rfl) rfl) <| ils_cons rfl (iop_move rfl rfl (by decide) (sv (d := .int _ _) rfl)) <|
          ils_cons rfl (iop_slice_rsl (sz := (eInt .i64).sz) (l := ((i + (a2.length - j) : Nat) : Int)) (h := (a2.length : Int)) (m := (c : Int)) (d := .rsl 1000 (eInt .i64).sz ((i + (a2.length - j)) * (eInt .i64).sz) (a2.length - (i + (a2.length - j))) (c - (i + (a2.length - j)))) rfl rfl (by decide) Try.underlying22 ti3 (sv (d := .rsl _ _ _ _ _) rfl) ⟨_, (sv (d := .int _ _) rfl)⟩ ⟨_, (sv (d := .int _ _) rfl)⟩ rfl (by simp) (by omega) (by omega) (by omega) (by omega) (by simp only [Int.toNat_natCast, Nat.zero_add])) <|
          ils_cons rfl (iop_clear_rsl (sz := (eInt .i64).sz) rfl rfl Try.underlying22 ti3 rfl rfl (sv (d := .rsl _ _ _ _ _) rfl) rfl (by rw [hZl, ← Nat.add_mul, show i + (a2.length - j) + (a2.length - (i + (a2.length - j))) = a2.length by omega]; exact Nat.le_add_right _ _) (splice_pre hRl)) <| ils_end ?_)
        refine iwp_reg (ils_cons rfl (iop_move rfl rfl (by decide) (sv (d := .rsl _ _ _ _ _) rfl)) <| ils_cons rfl (iop_assign rfl rfl (by decide) (sv (d := .rsl _ _ _ _ _) rfl)) <| ils_end ?_)
        refine iwp_close 6 (id := 1000) rfl rfl hRl ?_
        refine iwp_ret ?_
        refine ⟨.inr rfl, (fun i => if i = 0 then 1000 else i), ⟨.nil, (.cons (EntW.lst rfl) .nil), nd_of [1000] rfl (by decide), (fun i hi => by first | rfl | (show (if _ then _ else _) = _; (repeat' split) <;> omega))⟩, (.cons (sv (congrArg (D.osl _ _) hrl.symm)) .nil), rfl⟩

set_option maxRecDepth 8000 in
set_option maxHeartbeats 2000000 in
theorem p_stid_State_slain_h (a0 : Bool) (a1 : Int) (a2 : Int) (a3 : Int) (a4 : Int) (a5 : Int) (a6 : Int) (a7 : Int) (a8 : (List Int)) (a9 : (List Int)) (r : (Bool × Int × Int × (List Int) × (List Int) × Int × Int × Int × Int)) (h : stid_State_slain_h a0 a1 a2 a3 a4 a5 a6 a7 a8 a9 = some r) : FnH Try.prog 36 [.agg [.bool a0, .int .i64 a1, .int .i64 a2, .osl 1000 (eInt .i64).sz a8.length, .osl 1001 (eInt .i64).sz a9.length, .int .i64 a3, .int .i64 a4, .int .i64 a5, .int .i64 a6], .int .i64 a7] [(1000, .blk 3 (D.flat (a8.map (eInt .i64).d))), (1001, .blk 3 (D.flat (a9.map (eInt .i64).d)))] (.agg [.bool r.1, .int .i64 r.2.1, .int .i64 r.2.2.1, .osl 0 (eInt .i64).sz r.2.2.2.1.length, .osl 1 (eInt .i64).sz r.2.2.2.2.1.length, .int .i64 r.2.2.2.2.2.1, .int .i64 r.2.2.2.2.2.2.1, .int .i64 r.2.2.2.2.2.2.2.1, .int .i64 r.2.2.2.2.2.2.2.2]) [(0, .blk 3 (D.flat (r.2.2.2.1.map (eInt .i64).d))), (1, .blk 3 (D.flat (r.2.2.2.2.1.map (eInt .i64).d)))] := by
  refine fnh_of_iwp (rs := [.agg [.bool r.1, .int .i64 r.2.1, .int .i64 r.2.2.1, .osl 0 (eInt .i64).sz r.2.2.2.1.length, .osl 1 (eInt .i64).sz r.2.2.2.2.1.length, .int .i64 r.2.2.2.2.2.1, .int .i64 r.2.2.2.2.2.2.1, .int .i64 r.2.2.2.2.2.2.2.1, .int .i64 r.2.2.2.2.2.2.2.2]]) Try.func36 rfl Try.ntmps36 (nle rfl) fun O hO => ?_
  show IWP _ _ _ _ ⟨[(0, .agg [.bool a0, .int .i64 a1, .int .i64 a2, .osl 1000 (eInt .i64).sz a8.length, .osl 1001 (eInt .i64).sz a9.length, .int .i64 a3, .int .i64 a4, .int .i64 a5, .int .i64 a6]), (1, .int .i64 a7)], [(1000, .blk 3 (D.flat (a8.map (eInt .i64).d))), (1001, .blk 3 (D.flat (a9.map (eInt .i64).d)))]⟩ _
  unfold stid_State_slain_h at h
  refine iwp_reg (ils_cons rfl (iop_box' (cs := [.bool _, .int _ _, .int _ _, .osl _ _ _, .osl _ _ _, .int _ _, .int _ _, .int _ _, .int _ _]) 0 rfl rfl (by decide) rfl (sv (d := .agg [.bool _, .int _ _, .int _ _, .osl _ _ _, .osl _ _ _, .int _ _, .int _ _, .int _ _, .int _ _]) rfl) rfl rfl) <|
    ils_cons rfl (iop_allocS (cs := [.bool _, .int _ _, .int _ _, .nils, .nils, .int _ _, .int _ _, .int _ _, .int _ _]) (cs' := [.bool false, .int .i64 0, .int .i64 0, .slice false (([] : List Int).map (eInt .i64).d), .slice false (([] : List Int).map (eInt .i64).d), .int .i64 0, .int .i64 0, .int .i64 0, .int .i64 0]) 1 rfl rfl (by decide) rfl ti27 rfl rfl (.cons (.refl _) (.cons (.refl _) (.cons (.refl _) (.cons (.nils _) (.cons (.nils _) (.cons (.refl _) (.cons (.refl _) (.cons (.refl _) (.cons (.refl _) .nil)))))))))) <|
    ils_end ?_)
  obtain ⟨x1, hx1, h⟩ := bno_e h
  refine iwp_reg (ils_cons rfl (iop_fieldAddr_ref rfl rfl (by decide) Try.underlying27 rfl ti22 (by decide) (sv (d := .ref _ _) rfl) (off' := 4) rfl) <|
    ils_cons rfl (iop_load_rs (d := .osl _ _ _) rfl rfl (by decide) Try.underlying22 ag22 ti22 (by decide) (sv (d := .ref _ _) rfl) rfl (nle rfl) rfl) <|
    ils_cons rfl (iop_move rfl rfl (by decide) (sv (d := .int _ _) rfl)) <|
    ils_cons rfl (iop_bsO (eInt .i64).toEnc0 ([a7] : (List Int)) 2 rfl rfl (by decide) Try.underlying22 ti3 rfl (.cons (sv (d := .int _ _) rfl) .nil) rfl rfl (by decide)) <|
    ils_cons rfl (iop_appO (eInt .i64).toEnc0 3 rfl rfl (by decide) Try.underlying22 ti3 rfl rfl rfl rfl rfl (src_O (eInt .i64).toEnc0 rfl rfl rfl) hx1) <|
    ils_cons rfl (iop_fieldAddr_ref rfl rfl (by decide) Try.underlying27 rfl ti22 (by decide) (sv (d := .ref _ _) rfl) (off' := 4) rfl) <|
    ils_cons rfl (iop_store (ds' := [.bool _, .int _ _, .int _ _, .osl _ _ _, .osl _ _ _, .int _ _, .int _ _, .int _ _, .int _ _]) rfl rfl ti22 (sv (d := .ref _ _) rfl) rfl (sv (d := .osl _ _ _) rfl) rfl rfl rfl (nle rfl) rfl) <|
    ils_end ?_)
  refine iwp_seq ?_
  obtain ⟨x2, hx2, h⟩ := bnd_e h
  refine iwp_reg (ils_cons rfl (iop_fieldAddr_ref rfl rfl (by decide) Try.underlying27 rfl ti22 (by decide) (sv (d := .ref _ _) rfl) (off' := 4) rfl) <|
    ils_cons rfl (iop_load_rs (d := .osl _ _ _) rfl rfl (by decide) Try.underlying22 ag22 ti22 (by decide) (sv (d := .ref _ _) rfl) rfl (nle rfl) rfl) <|
    ils_cons rfl (iop_lenO rfl rfl (by decide) Try.underlying22 (sv (d := .osl _ _ _) rfl)) <|
    ils_cons rfl (iop_cmpx rfl rfl (by decide) (sv (d := .int _ _) rfl) (sv (d := .int _ 8) rfl) rfl hx2) <|
    ils_end ?_)
  refine iwp_cond (b := _) rfl (fun hc3 => ?_) (fun hc3 => ?_)
  ·
    replace h := bif_t h hc3
    obtain ⟨x4, hx4, h⟩ := bnd_e h
    obtain ⟨x5, hx5, h⟩ := bno_e h
    refine iwp_region (ils_cons rfl (iop_fieldAddr_ref rfl rfl (by decide) Try.underlying27 rfl ti22 (by decide) (sv (d := .ref _ _) rfl) (off' := 4) rfl) <|
      ils_cons rfl (iop_load_rs (d := .osl _ _ _) rfl rfl (by decide) Try.underlying22 ag22 ti22 (by decide) (sv (d := .ref _ _) rfl) rfl (nle rfl) rfl) <|
      ils_cons rfl (iop_fieldAddr_ref rfl rfl (by decide) Try.underlying27 rfl ti22 (by decide) (sv (d := .ref _ _) rfl) (off' := 4) rfl) <|
      ils_cons rfl (iop_load_rs (d := .osl _ _ _) rfl rfl (by decide) Try.underlying22 ag22 ti22 (by decide) (sv (d := .ref _ _) rfl) rfl (nle rfl) rfl) <|
      ils_cons rfl (iop_lenO rfl rfl (by decide) Try.underlying22 (sv (d := .osl _ _ _) rfl)) <|
      ils_cons rfl (iop_intx rfl rfl (by decide) (sv (d := .int _ _) rfl) (sv (d := .int _ 8) rfl) rfl hx4) <|
      ils_cons rfl (iop_callh2 (r' := .osl 4 (eInt .i64).sz x5.length) (H1' := [(4, .blk 3 (D.flat (x5.map (eInt .i64).d)))]) 4 [3] rfl rfl (by decide) cl42 (.cons (sv (d := .osl _ _ _) rfl) (.cons (sv (d := .int _ 0) rfl) (.cons (sv (d := .int _ _) rfl) .nil))) rfl rfl ⟨rfl, rfl, by decide, rfl, List.forall_mem_cons.2 ⟨⟨rfl, rfl, (handL (eInt .i64) rfl), (handLr (eInt .i64))⟩, List.forall_mem_nil _⟩⟩ (p_slices_Delete_int_int_h _ _ _ _ hx5) rfl rfl (List.forall_mem_cons.2 ⟨⟨rfl, (handLr (eInt .i64))⟩, List.forall_mem_nil _⟩) (by simp only [List.map_cons, List.map_nil, Ent.ren, renL_flat, renL_ref]; rfl)) <|
      ils_cons rfl (iop_fieldAddr_ref rfl rfl (by decide) Try.underlying27 rfl ti22 (by decide) (sv (d := .ref _ _) rfl) (off' := 4) rfl) <|
      ils_cons rfl (iop_store (ds' := [.bool _, .int _ _, .int _ _, .osl _ _ _, .osl _ _ _, .int _ _, .int _ _, .int _ _, .int _ _]) rfl rfl ti22 (sv (d := .ref _ _) rfl) rfl (sv (d := .osl _ _ _) rfl) rfl rfl rfl (nle rfl) rfl) <|
      ils_nil ?_)
    refine thenQ_n ?_
    refine iwp_reg (ils_cons rfl (iop_load_ra (cs := [.bool _, .int _ _, .int _ _, .osl _ _ _, .osl _ _ _, .int _ _, .int _ _, .int _ _, .int _ _]) rfl rfl (by decide) Try.underlying27 ag27 ti27 (by decide) (sv (d := .ref _ _) rfl) rfl (nle rfl) rfl) <|
      ils_cons rfl (iop_store (ds' := [.bool _, .int _ _, .int _ _, .osl _ _ _, .osl _ _ _, .int _ _, .int _ _, .int _ _, .int _ _]) rfl rfl ti27 (sv (d := .ref _ _) rfl) rfl (sv (d := .agg [.bool _, .int _ _, .int _ _, .osl _ _ _, .osl _ _ _, .int _ _, .int _ _, .int _ _, .int _ _]) rfl) rfl rfl rfl (nle rfl) rfl) <|
      ils_end ?_)
    refine iwp_ret ?_
    obtain rfl := Option.some.inj h
    refine ⟨.inr rfl, (fun i => if i = 0 then 1000 else if i = 1 then 4 else i), ⟨.nil, (.cons (EntW.lst rfl) (.cons (EntW.lst rfl) .nil)), nd_of [1000, 4] rfl (by decide), (fun i hi => by first | rfl | (show (if _ then _ else _) = _; (repeat' split) <;> omega))⟩, (.cons (resv_a rfl rfl Try.underlying27 ag27 ti27 (by decide) (nle rfl) rfl) .nil), rfl⟩
  ·
    replace h := bif_f h hc3
    refine iwp_skip ?_
    refine thenQ_n ?_
    refine iwp_reg (ils_cons rfl (iop_load_ra (cs := [.bool _, .int _ _, .int _ _, .osl _ _ _, .osl _ _ _, .int _ _, .int _ _, .int _ _, .int _ _]) rfl rfl (by decide) Try.underlying27 ag27 ti27 (by decide) (sv (d := .ref _ _) rfl) rfl (nle rfl) rfl) <|
      ils_cons rfl (iop_store (ds' := [.bool _, .int _ _, .int _ _, .osl _ _ _, .osl _ _ _, .int _ _, .int _ _, .int _ _, .int _ _]) rfl rfl ti27 (sv (d := .ref _ _) rfl) rfl (sv (d := .agg [.bool _, .int _ _, .int _ _, .osl _ _ _, .osl _ _ _, .int _ _, .int _ _, .int _ _, .int _ _]) rfl) rfl rfl rfl (nle rfl) rfl) <|
      ils_end ?_)
    refine iwp_ret ?_
    obtain rfl := Option.some.inj h
    refine ⟨.inr rfl, (fun i => if i = 0 then 1000 else if i = 1 then 3 else i), ⟨.nil, (.cons (EntW.lst rfl) (.cons (EntW.lst rfl) .nil)), nd_of [1000, 3] rfl (by decide), (fun i hi => by first | rfl | (show (if _ then _ else _) = _; (repeat' split) <;> omega))⟩, (.cons (resv_a rfl rfl Try.underlying27 ag27 ti27 (by decide) (nle rfl) rfl) .nil), rfl⟩

set_option maxRecDepth 8000 in
set_option maxHeartbeats 2000000 in
theorem p_stid_Begin (a0 : T_stid_State) (a1 : Int) (r : (T_stid_State × T_rules_Verdict)) (h : stid_Begin a0 a1 = some r) : PureAt Try.prog 10 [.agg [.bool a0.Odd, .int .i64 a0.Next, .int .i64 a0.Last, .slice false (a0.Live.map (eInt .i64).d), .slice false (a0.Cut.map (eInt .i64).d), .int .i64 a0.Mine, .int .i64 a0.Hers, .int .i64 a0.Heard, .int .i64 a0.Told], .int .i64 a1] (retD [.agg [.bool r.1.Odd, .int .i64 r.1.Next, .int .i64 r.1.Last, .slice false (r.1.Live.map (eInt .i64).d), .slice false (r.1.Cut.map (eInt .i64).d), .int .i64 r.1.Mine, .int .i64 r.1.Hers, .int .i64 r.1.Heard, .int .i64 r.1.Told], .agg [.int .i64 r.2.Scope, .int .u32 r.2.Code]]) := by
  refine pure_of_iwpF (rs := [.agg [.bool r.1.Odd, .int .i64 r.1.Next, .int .i64 r.1.Last, .slice false (r.1.Live.map (eInt .i64).d), .slice false (r.1.Cut.map (eInt .i64).d), .int .i64 r.1.Mine, .int .i64 r.1.Hers, .int .i64 r.1.Heard, .int .i64 r.1.Told], .agg [.int .i64 r.2.Scope, .int .u32 r.2.Code]]) Try.func10 rfl Try.ntmps10 (nle rfl) rfl fun O hO => ?_
  show IWP _ _ _ _ ⟨[(0, .agg [.bool a0.Odd, .int .i64 a0.Next, .int .i64 a0.Last, .slice false (a0.Live.map (eInt .i64).d), .slice false (a0.Cut.map (eInt .i64).d), .int .i64 a0.Mine, .int .i64 a0.Hers, .int .i64 a0.Heard, .int .i64 a0.Told]), (1, .int .i64 a1)], []⟩ _
  unfold stid_Begin at h
  refine iwp_reg (ils_cons rfl (iop_box' (cs := [.bool _, .int _ _, .int _ _, .slice _ _, .slice _ _, .int _ _, .int _ _, .int _ _, .int _ _]) 0 rfl rfl (by decide) rfl (sv (d := .agg [.bool _, .int _ _, .int _ _, .slice _ _, .slice _ _, .int _ _, .int _ _, .int _ _, .int _ _]) rfl) rfl rfl) <|
    ils_cons rfl (iop_allocS (cs := [.bool _, .int _ _, .int _ _, .nils, .nils, .int _ _, .int _ _, .int _ _, .int _ _]) (cs' := [.bool false, .int .i64 0, .int .i64 0, .slice false (([] : List Int).map (eInt .i64).d), .slice false (([] : List Int).map (eInt .i64).d), .int .i64 0, .int .i64 0, .int .i64 0, .int .i64 0]) 1 rfl rfl (by decide) rfl ti27 rfl rfl (.cons (.refl _) (.cons (.refl _) (.cons (.refl _) (.cons (.nils _) (.cons (.nils _) (.cons (.refl _) (.cons (.refl _) (.cons (.refl _) (.cons (.refl _) .nil)))))))))) <|
    ils_cons rfl (iop_allocS (cs := [.int _ _, .int _ _]) (cs' := [.int .i64 0, .int .u32 0]) 2 rfl rfl (by decide) rfl ti36 rfl rfl (.cons (.refl _) (.cons (.refl _) .nil))) <|
    ils_end ?_)
  obtain ⟨x1, hx1, h⟩ := bno_e h
  refine iwp_reg (ils_cons rfl (iop_load_ra (cs := [.bool _, .int _ _, .int _ _, .slice _ _, .slice _ _, .int _ _, .int _ _, .int _ _, .int _ _]) rfl rfl (by decide) Try.underlying27 ag27 ti27 (by decide) (sv (d := .ref _ _) rfl) rfl (nle rfl) rfl) <|
    ils_cons rfl (iop_callh2 (r' := .agg [.bool x1.1, .int .i64 x1.2.1, .int .i64 x1.2.2.1, .osl 3 (eInt .i64).sz x1.2.2.2.1.length, .osl 4 (eInt .i64).sz x1.2.2.2.2.1.length, .int .i64 x1.2.2.2.2.2.1, .int .i64 x1.2.2.2.2.2.2.1, .int .i64 x1.2.2.2.2.2.2.2.1, .int .i64 x1.2.2.2.2.2.2.2.2]) (H1' := [(3, .blk 3 (D.flat (x1.2.2.2.1.map (eInt .i64).d))), (4, .blk 3 (D.flat (x1.2.2.2.2.1.map (eInt .i64).d)))]) 3 [] rfl rfl (by decide) cl28 (.cons (sv (d := .agg [.bool _, .int _ _, .int _ _, .slice _ _, .slice _ _, .int _ _, .int _ _, .int _ _, .int _ _]) rfl) .nil) rfl rfl ⟨rfl, rfl, by decide, rfl, List.forall_mem_nil _⟩ (p_stid_State_own_h _ _ hx1) rfl rfl (List.forall_mem_cons.2 ⟨⟨rfl, (handLr (eInt .i64))⟩, List.forall_mem_cons.2 ⟨⟨rfl, (handLr (eInt .i64))⟩, List.forall_mem_nil _⟩⟩) (by simp only [List.map_cons, List.map_nil, Ent.ren, renL_flat, renL_ref]; rfl)) <|
    ils_cons rfl (iop_allocS (cs := [.bool _, .int _ _, .int _ _, .nils, .nils, .int _ _, .int _ _, .int _ _, .int _ _]) (cs' := [.bool false, .int .i64 0, .int .i64 0, .slice false (([] : List Int).map (eInt .i64).d), .slice false (([] : List Int).map (eInt .i64).d), .int .i64 0, .int .i64 0, .int .i64 0, .int .i64 0]) 5 rfl rfl (by decide) rfl ti27 rfl rfl (.cons (.refl _) (.cons (.refl _) (.cons (.refl _) (.cons (.nils _) (.cons (.nils _) (.cons (.refl _) (.cons (.refl _) (.cons (.refl _) (.cons (.refl _) .nil)))))))))) <|
    ils_cons rfl (iop_store (ds' := [.bool _, .int _ _, .int _ _, .osl _ _ _, .osl _ _ _, .int _ _, .int _ _, .int _ _, .int _ _]) rfl rfl ti27 (sv (d := .ref _ _) rfl) rfl (sv (d := .agg [.bool _, .int _ _, .int _ _, .osl _ _ _, .osl _ _ _, .int _ _, .int _ _, .int _ _, .int _ _]) rfl) rfl rfl rfl (nle rfl) rfl) <|
    ils_end ?_)
  refine iwp_reg (ils_cons rfl (iop_makeFunc rfl rfl (by decide) (.cons (sv (d := .ref _ _) rfl) .nil)) <|
    ils_cons rfl (iop_assign rfl rfl (by decide) (sv (d := .fn 33 [.ref _ _]) rfl)) <|
    ils_end ?_)
  refine iwp_seq ?_
  refine iwp_block ?_
  obtain ⟨x2, hx2, h⟩ := bno_e h
  obtain ⟨x3, hx3, h⟩ := bnd_e h
  refine iwp_reg (ils_cons rfl (iop_load_ra (cs := [.bool _, .int _ _, .int _ _, .slice _ _, .slice _ _, .int _ _, .int _ _, .int _ _, .int _ _]) rfl rfl (by decide) Try.underlying27 ag27 ti27 (by decide) (sv (d := .ref _ _) rfl) rfl (nle rfl) rfl) <|
    ils_cons rfl (iop_call (r := .int _ _) rfl rfl (by decide) cl26 (.cons (sv (d := .agg [.bool _, .int _ _, .int _ _, .slice _ _, .slice _ _, .int _ _, .int _ _, .int _ _, .int _ _]) rfl) .nil) rfl (p_stid_Check _ _ hx2)) <|
    ils_cons rfl (iop_cmpx rfl rfl (by decide) (sv (d := .int _ _) rfl) (sv (d := .int _ 0) rfl) rfl hx3) <|
    ils_cons rfl (iop_assign rfl rfl (by decide) (sv (d := .bool _) rfl)) <|
    ils_end ?_)
  refine iwp_cond (b := _) rfl (fun hc4 => ?_) (fun hc4 => ?_)
  ·
    replace h := bif_t h hc4
    obtain ⟨x5, hx5, h⟩ := bno_e h
    refine iwp_reg (ils_cons rfl (iop_move rfl rfl (by decide) (sv (d := .fn 33 [.ref _ _]) rfl)) <|
      ils_cons rfl (iop_callvh2 (r' := .tuple [.agg [.bool x5.1, .int .i64 x5.2.1, .int .i64 x5.2.2.1, .osl 6 (eInt .i64).sz x5.2.2.2.1.length, .osl 7 (eInt .i64).sz x5.2.2.2.2.1.length, .int .i64 x5.2.2.2.2.2.1, .int .i64 x5.2.2.2.2.2.2.1, .int .i64 x5.2.2.2.2.2.2.2.1, .int .i64 x5.2.2.2.2.2.2.2.2.1], .agg [.int .i64 x5.2.2.2.2.2.2.2.2.2.Scope, .int .u32 x5.2.2.2.2.2.2.2.2.2.Code]]) (H1' := [(5, .blk 27 [.bool x1.1, .int .i64 x1.2.1, .int .i64 x1.2.2.1, .osl 3 (eInt .i64).sz x1.2.2.2.1.length, .osl 4 (eInt .i64).sz x1.2.2.2.2.1.length, .int .i64 x1.2.2.2.2.2.1, .int .i64 x1.2.2.2.2.2.2.1, .int .i64 x1.2.2.2.2.2.2.2.1, .int .i64 x1.2.2.2.2.2.2.2.2]), (6, .blk 3 (D.flat (x5.2.2.2.1.map (eInt .i64).d))), (7, .blk 3 (D.flat (x5.2.2.2.2.1.map (eInt .i64).d)))]) 6 [5, 3, 4] rfl rfl (by decide) cl33 (sv (d := .fn 33 [.ref _ _]) rfl) (.cons (sv (d := .int _ 2) rfl) .nil) rfl rfl ⟨rfl, rfl, by decide, rfl, List.forall_mem_cons.2 ⟨⟨rfl, rfl, rfl, rfl⟩, List.forall_mem_cons.2 ⟨⟨rfl, rfl, (handL (eInt .i64) rfl), (handLr (eInt .i64))⟩, List.forall_mem_cons.2 ⟨⟨rfl, rfl, (handL (eInt .i64) rfl), (handLr (eInt .i64))⟩, List.forall_mem_nil _⟩⟩⟩⟩ (p_stid_Begin_1_h _ _ _ _ _ _ _ _ _ _ _ hx5) rfl rfl (List.forall_mem_cons.2 ⟨⟨rfl, rfl⟩, List.forall_mem_cons.2 ⟨⟨rfl, (handLr (eInt .i64))⟩, List.forall_mem_cons.2 ⟨⟨rfl, (handLr (eInt .i64))⟩, List.forall_mem_nil _⟩⟩⟩) (by simp only [List.map_cons, List.map_nil, Ent.ren, renL_flat, renL_ref]; rfl)) <|
      ils_cons rfl (iop_extract (d := .agg [.bool _, .int _ _, .int _ _, .osl _ _ _, .osl _ _ _, .int _ _, .int _ _, .int _ _, .int _ _]) rfl rfl (by decide) (sv (d := .tuple [.agg [.bool _, .int _ _, .int _ _, .osl _ _ _, .osl _ _ _, .int _ _, .int _ _, .int _ _, .int _ _], .agg [.int _ _, .int _ _]]) rfl) rfl) <|
      ils_cons rfl (iop_extract (d := .agg [.int _ _, .int _ _]) rfl rfl (by decide) (sv (d := .tuple [.agg [.bool _, .int _ _, .int _ _, .osl _ _ _, .osl _ _ _, .int _ _, .int _ _, .int _ _, .int _ _], .agg [.int _ _, .int _ _]]) rfl) rfl) <|
      ils_cons rfl (iop_store (ds' := [.bool _, .int _ _, .int _ _, .osl _ _ _, .osl _ _ _, .int _ _, .int _ _, .int _ _, .int _ _]) rfl rfl ti27 (sv (d := .ref _ _) rfl) rfl (sv (d := .agg [.bool _, .int _ _, .int _ _, .osl _ _ _, .osl _ _ _, .int _ _, .int _ _, .int _ _, .int _ _]) rfl) rfl rfl rfl (nle rfl) rfl) <|
      ils_cons rfl (iop_store (ds' := [.int _ _, .int _ _]) rfl rfl ti36 (sv (d := .ref _ _) rfl) rfl (sv (d := .agg [.int _ _, .int _ _]) rfl) rfl rfl rfl (nle rfl) rfl) <|
      ils_end ?_)
    refine iwp_ret ?_
    refine blockQ_r ?_
    refine thenQ_r ?_
    obtain rfl := Option.some.inj h
    refine ⟨.inr rfl, _, (.cons (resv_a rfl rfl Try.underlying27 ag27 ti27 (by decide) (nle rfl) rfl) (.cons (resv_a rfl rfl Try.underlying36 ag36 ti36 (by decide) (nle rfl) rfl) .nil)), (.cons (.agg (.cons (.refl _) (.cons (.refl _) (.cons (.refl _) (.cons (FDT (eInt .i64) rfl rfl) (.cons (FDT (eInt .i64) rfl rfl) (.cons (.refl _) (.cons (.refl _) (.cons (.refl _) (.cons (.refl _) .nil)))))))))) (.cons (.refl _) .nil))⟩
  ·
    replace h := bif_f h hc4
    refine iwp_join (α := Bool) (fun z => ⟨[(1, .int .i64 a1), (2, .ref 0 0), (4, .ref 1 0), (5, .ref 2 0), (6, .ref 5 0), (7, .fn 33 [.ref 5 0]), (21, .bool z)], [(0, .blk 27 [.bool a0.Odd, .int .i64 a0.Next, .int .i64 a0.Last, .slice false (a0.Live.map (eInt .i64).d), .slice false (a0.Cut.map (eInt .i64).d), .int .i64 a0.Mine, .int .i64 a0.Hers, .int .i64 a0.Heard, .int .i64 a0.Told]), (1, .blk 27 [.bool false, .int .i64 0, .int .i64 0, .slice false (([] : List Int).map (eInt .i64).d), .slice false (([] : List Int).map (eInt .i64).d), .int .i64 0, .int .i64 0, .int .i64 0, .int .i64 0]), (2, .blk 36 [.int .i64 0, .int .u32 0]), (5, .blk 27 [.bool x1.1, .int .i64 x1.2.1, .int .i64 x1.2.2.1, .osl 3 (eInt .i64).sz x1.2.2.2.1.length, .osl 4 (eInt .i64).sz x1.2.2.2.2.1.length, .int .i64 x1.2.2.2.2.2.1, .int .i64 x1.2.2.2.2.2.2.1, .int .i64 x1.2.2.2.2.2.2.2.1, .int .i64 x1.2.2.2.2.2.2.2.2]), (3, .blk 3 (D.flat (x1.2.2.2.1.map (eInt .i64).d))), (4, .blk 3 (D.flat (x1.2.2.2.2.1.map (eInt .i64).d)))]⟩) (fun z => stid_Begin_J0 a0 a1 x1 z = some r) ?_ ?_
    ·
      obtain ⟨x24, hx24, h⟩ := bno_e h
      refine iwp_reg (ils_cons rfl (iop_load_ra (cs := [.bool _, .int _ _, .int _ _, .slice _ _, .slice _ _, .int _ _, .int _ _, .int _ _, .int _ _]) rfl rfl (by decide) Try.underlying27 ag27 ti27 (by decide) (sv (d := .ref _ _) rfl) rfl (nle rfl) rfl) <|
        ils_cons rfl (iop_move rfl rfl (by decide) (sv (d := .int _ _) rfl)) <|
        ils_cons rfl (iop_call (r := .bool _) rfl rfl (by decide) cl24 (.cons (sv (d := .agg [.bool _, .int _ _, .int _ _, .slice _ _, .slice _ _, .int _ _, .int _ _, .int _ _, .int _ _]) rfl) (.cons (sv (d := .int _ _) rfl) .nil)) rfl (p_stid_Own _ _ _ hx24)) <|
        ils_cons rfl (iop_assign rfl rfl (by decide) (sv (d := .bool _) rfl)) <|
        ils_end ?_)
      refine iwp_cond (b := _) rfl (fun hc25 => ?_) (fun hc25 => ?_)
      ·
        replace h := bif_t h hc25
        refine iwp_skip ?_
        refine thenQ_n ⟨x24, (fun i => i), ⟨(.cons (.same rfl rfl) (.cons (.same rfl rfl) (.cons (.same rfl rfl) (.cons (.same rfl rfl) (.cons (.same rfl rfl) (.cons (.same rfl rfl) (.cons (.same rfl rfl) .nil))))))), (.cons (.blk rfl rfl rfl) (.cons (.blk rfl rfl rfl) (.cons (.blk rfl rfl rfl) (.cons (.blk rfl rfl rfl) (.cons (EntW.lst rfl) (.cons (EntW.lst rfl) .nil)))))), nd_of [0, 1, 2, 5, 3, 4] rfl (by decide), (fun i hi => by first | rfl | (show (if _ then _ else _) = _; (repeat' split) <;> omega))⟩, ?_⟩
        exact h
      ·
        replace h := bif_f h hc25
        obtain ⟨x26, hx26, h⟩ := bno_e h
        refine iwp_reg (ils_cons rfl (iop_move rfl rfl (by decide) (sv (d := .int _ _) rfl)) <|
          ils_cons rfl (iop_call (r := .bool _) rfl rfl (by decide) cl34 (.cons (sv (d := .int _ _) rfl) (.cons (sv (d := .int _ 1) rfl) (.cons (sv (d := .int _ 1048576) rfl) .nil))) rfl (p_stid_in _ _ _ _ hx26)) <|
          ils_cons rfl (iop_not rfl rfl (by decide) (sv (d := .bool _) rfl)) <|
          ils_cons rfl (iop_assign rfl rfl (by decide) (sv (d := .bool _) rfl)) <|
          ils_end ?_)
        refine iwp_cond (b := _) rfl (fun hc27 => ?_) (fun hc27 => ?_)
        ·
          replace h := bif_t h hc27
          refine iwp_skip ?_
          refine thenQ_n ⟨(!x26), (fun i => i), ⟨(.cons (.same rfl rfl) (.cons (.same rfl rfl) (.cons (.same rfl rfl) (.cons (.same rfl rfl) (.cons (.same rfl rfl) (.cons (.same rfl rfl) (.cons (.same rfl rfl) .nil))))))), (.cons (.blk rfl rfl rfl) (.cons (.blk rfl rfl rfl) (.cons (.blk rfl rfl rfl) (.cons (.blk rfl rfl rfl) (.cons (EntW.lst rfl) (.cons (EntW.lst rfl) .nil)))))), nd_of [0, 1, 2, 5, 3, 4] rfl (by decide), (fun i hi => by first | rfl | (show (if _ then _ else _) = _; (repeat' split) <;> omega))⟩, ?_⟩
          exact h
        ·
          replace h := bif_f h hc27
          obtain ⟨x28, hx28, h⟩ := bno_e h
          refine iwp_region (ils_cons rfl (iop_fieldAddr_ref rfl rfl (by decide) Try.underlying27 rfl ti22 (by decide) (sv (d := .ref _ _) rfl) (off' := 3) rfl) <|
            ils_cons rfl (iop_load_rs (d := .slice _ _) rfl rfl (by decide) Try.underlying22 ag22 ti22 (by decide) (sv (d := .ref _ _) rfl) rfl (nle rfl) rfl) <|
            ils_cons rfl (iop_move rfl rfl (by decide) (sv (d := .int _ _) rfl)) <|
            ils_cons rfl (iop_call (r := .bool _) rfl rfl (by decide) cl35 (.cons (sv (d := .slice _ _) rfl) (.cons (sv (d := .int _ _) rfl) .nil)) rfl (p_slices_Contains_int_int _ _ _ hx28)) <|
            ils_cons rfl (iop_assign rfl rfl (by decide) (sv (d := .bool _) rfl)) <|
            ils_nil ?_)
          refine thenQ_n ⟨x28, (fun i => i), ⟨(.cons (.same rfl rfl) (.cons (.same rfl rfl) (.cons (.same rfl rfl) (.cons (.same rfl rfl) (.cons (.same rfl rfl) (.cons (.same rfl rfl) (.cons (.same rfl rfl) .nil))))))), (.cons (.blk rfl rfl rfl) (.cons (.blk rfl rfl rfl) (.cons (.blk rfl rfl rfl) (.cons (.blk rfl rfl rfl) (.cons (EntW.lst rfl) (.cons (EntW.lst rfl) .nil)))))), nd_of [0, 1, 2, 5, 3, 4] rfl (by decide), (fun i hi => by first | rfl | (show (if _ then _ else _) = _; (repeat' split) <;> omega))⟩, ?_⟩
          exact h
    ·
      rintro v11 h
      unfold stid_Begin_J0 at h
      refine iwp_cond (b := _) rfl (fun hc12 => ?_) (fun hc12 => ?_)
      ·
        replace h := bif_t h hc12
        obtain ⟨x13, hx13, h⟩ := bno_e h
        refine iwp_reg (ils_cons rfl (iop_move rfl rfl (by decide) (sv (d := .fn 33 [.ref _ _]) rfl)) <|
          ils_cons rfl (iop_callvh2 (r' := .tuple [.agg [.bool x13.1, .int .i64 x13.2.1, .int .i64 x13.2.2.1, .osl 6 (eInt .i64).sz x13.2.2.2.1.length, .osl 7 (eInt .i64).sz x13.2.2.2.2.1.length, .int .i64 x13.2.2.2.2.2.1, .int .i64 x13.2.2.2.2.2.2.1, .int .i64 x13.2.2.2.2.2.2.2.1, .int .i64 x13.2.2.2.2.2.2.2.2.1], .agg [.int .i64 x13.2.2.2.2.2.2.2.2.2.Scope, .int .u32 x13.2.2.2.2.2.2.2.2.2.Code]]) (H1' := [(5, .blk 27 [.bool x1.1, .int .i64 x1.2.1, .int .i64 x1.2.2.1, .osl 3 (eInt .i64).sz x1.2.2.2.1.length, .osl 4 (eInt .i64).sz x1.2.2.2.2.1.length, .int .i64 x1.2.2.2.2.2.1, .int .i64 x1.2.2.2.2.2.2.1, .int .i64 x1.2.2.2.2.2.2.2.1, .int .i64 x1.2.2.2.2.2.2.2.2]), (6, .blk 3 (D.flat (x13.2.2.2.1.map (eInt .i64).d))), (7, .blk 3 (D.flat (x13.2.2.2.2.1.map (eInt .i64).d)))]) 6 [5, 3, 4] rfl rfl (by decide) cl33 (sv (d := .fn 33 [.ref _ _]) rfl) (.cons (sv (d := .int _ 1) rfl) .nil) rfl rfl ⟨rfl, rfl, by decide, rfl, List.forall_mem_cons.2 ⟨⟨rfl, rfl, rfl, rfl⟩, List.forall_mem_cons.2 ⟨⟨rfl, rfl, (handL (eInt .i64) rfl), (handLr (eInt .i64))⟩, List.forall_mem_cons.2 ⟨⟨rfl, rfl, (handL (eInt .i64) rfl), (handLr (eInt .i64))⟩, List.forall_mem_nil _⟩⟩⟩⟩ (p_stid_Begin_1_h _ _ _ _ _ _ _ _ _ _ _ hx13) rfl rfl (List.forall_mem_cons.2 ⟨⟨rfl, rfl⟩, List.forall_mem_cons.2 ⟨⟨rfl, (handLr (eInt .i64))⟩, List.forall_mem_cons.2 ⟨⟨rfl, (handLr (eInt .i64))⟩, List.forall_mem_nil _⟩⟩⟩) (by simp only [List.map_cons, List.map_nil, Ent.ren, renL_flat, renL_ref]; rfl)) <|
          ils_cons rfl (iop_extract (d := .agg [.bool _, .int _ _, .int _ _, .osl _ _ _, .osl _ _ _, .int _ _, .int _ _, .int _ _, .int _ _]) rfl rfl (by decide) (sv (d := .tuple [.agg [.bool _, .int _ _, .int _ _, .osl _ _ _, .osl _ _ _, .int _ _, .int _ _, .int _ _, .int _ _], .agg [.int _ _, .int _ _]]) rfl) rfl) <|
          ils_cons rfl (iop_extract (d := .agg [.int _ _, .int _ _]) rfl rfl (by decide) (sv (d := .tuple [.agg [.bool _, .int _ _, .int _ _, .osl _ _ _, .osl _ _ _, .int _ _, .int _ _, .int _ _, .int _ _], .agg [.int _ _, .int _ _]]) rfl) rfl) <|
          ils_cons rfl (iop_store (ds' := [.bool _, .int _ _, .int _ _, .osl _ _ _, .osl _ _ _, .int _ _, .int _ _, .int _ _, .int _ _]) rfl rfl ti27 (sv (d := .ref _ _) rfl) rfl (sv (d := .agg [.bool _, .int _ _, .int _ _, .osl _ _ _, .osl _ _ _, .int _ _, .int _ _, .int _ _, .int _ _]) rfl) rfl rfl rfl (nle rfl) rfl) <|
          ils_cons rfl (iop_store (ds' := [.int _ _, .int _ _]) rfl rfl ti36 (sv (d := .ref _ _) rfl) rfl (sv (d := .agg [.int _ _, .int _ _]) rfl) rfl rfl rfl (nle rfl) rfl) <|
          ils_end ?_)
        refine iwp_ret ?_
        refine blockQ_r ?_
        refine thenQ_r ?_
        obtain rfl := Option.some.inj h
        refine ⟨.inr rfl, _, (.cons (resv_a rfl rfl Try.underlying27 ag27 ti27 (by decide) (nle rfl) rfl) (.cons (resv_a rfl rfl Try.underlying36 ag36 ti36 (by decide) (nle rfl) rfl) .nil)), (.cons (.agg (.cons (.refl _) (.cons (.refl _) (.cons (.refl _) (.cons (FDT (eInt .i64) rfl rfl) (.cons (FDT (eInt .i64) rfl rfl) (.cons (.refl _) (.cons (.refl _) (.cons (.refl _) (.cons (.refl _) .nil)))))))))) (.cons (.refl _) .nil))⟩
      ·
        replace h := bif_f h hc12
        obtain ⟨x14, hx14, h⟩ := bnd_e h
        refine iwp_reg (ils_cons rfl (iop_move rfl rfl (by decide) (sv (d := .int _ _) rfl)) <|
          ils_cons rfl (iop_fieldAddr_ref rfl rfl (by decide) Try.underlying27 rfl ti3 (by decide) (sv (d := .ref _ _) rfl) (off' := 2) rfl) <|
          ils_cons rfl (iop_load_rs (d := .int _ _) rfl rfl (by decide) Try.underlying3 ag3 ti3 (by decide) (sv (d := .ref _ _) rfl) rfl (nle rfl) rfl) <|
          ils_cons rfl (iop_cmpx rfl rfl (by decide) (sv (d := .int _ _) rfl) (sv (d := .int _ _) rfl) rfl hx14) <|
          ils_cons rfl (iop_assign rfl rfl (by decide) (sv (d := .bool _) rfl)) <|
          ils_end ?_)
        refine iwp_cond (b := _) rfl (fun hc15 => ?_) (fun hc15 => ?_)
        ·
          replace h := bif_t h hc15
          obtain ⟨x16, hx16, h⟩ := bno_e h
          refine iwp_reg (ils_cons rfl (iop_move rfl rfl (by decide) (sv (d := .fn 33 [.ref _ _]) rfl)) <|
            ils_cons rfl (iop_callvh2 (r' := .tuple [.agg [.bool x16.1, .int .i64 x16.2.1, .int .i64 x16.2.2.1, .osl 6 (eInt .i64).sz x16.2.2.2.1.length, .osl 7 (eInt .i64).sz x16.2.2.2.2.1.length, .int .i64 x16.2.2.2.2.2.1, .int .i64 x16.2.2.2.2.2.2.1, .int .i64 x16.2.2.2.2.2.2.2.1, .int .i64 x16.2.2.2.2.2.2.2.2.1], .agg [.int .i64 x16.2.2.2.2.2.2.2.2.2.Scope, .int .u32 x16.2.2.2.2.2.2.2.2.2.Code]]) (H1' := [(5, .blk 27 [.bool x1.1, .int .i64 x1.2.1, .int .i64 x1.2.2.1, .osl 3 (eInt .i64).sz x1.2.2.2.1.length, .osl 4 (eInt .i64).sz x1.2.2.2.2.1.length, .int .i64 x1.2.2.2.2.2.1, .int .i64 x1.2.2.2.2.2.2.1, .int .i64 x1.2.2.2.2.2.2.2.1, .int .i64 x1.2.2.2.2.2.2.2.2]), (6, .blk 3 (D.flat (x16.2.2.2.1.map (eInt .i64).d))), (7, .blk 3 (D.flat (x16.2.2.2.2.1.map (eInt .i64).d)))]) 6 [5, 3, 4] rfl rfl (by decide) cl33 (sv (d := .fn 33 [.ref _ _]) rfl) (.cons (sv (d := .int _ 5) rfl) .nil) rfl rfl ⟨rfl, rfl, by decide, rfl, List.forall_mem_cons.2 ⟨⟨rfl, rfl, rfl, rfl⟩, List.forall_mem_cons.2 ⟨⟨rfl, rfl, (handL (eInt .i64) rfl), (handLr (eInt .i64))⟩, List.forall_mem_cons.2 ⟨⟨rfl, rfl, (handL (eInt .i64) rfl), (handLr (eInt .i64))⟩, List.forall_mem_nil _⟩⟩⟩⟩ (p_stid_Begin_1_h _ _ _ _ _ _ _ _ _ _ _ hx16) rfl rfl (List.forall_mem_cons.2 ⟨⟨rfl, rfl⟩, List.forall_mem_cons.2 ⟨⟨rfl, (handLr (eInt .i64))⟩, List.forall_mem_cons.2 ⟨⟨rfl, (handLr (eInt .i64))⟩, List.forall_mem_nil _⟩⟩⟩) (by simp only [List.map_cons, List.map_nil, Ent.ren, renL_flat, renL_ref]; rfl)) <|
            ils_cons rfl (iop_extract (d := .agg [.bool _, .int _ _, .int _ _, .osl _ _ _, .osl _ _ _, .int _ _, .int _ _, .int _ _, .int _ _]) rfl rfl (by decide) (sv (d := .tuple [.agg [.bool _, .int _ _, .int _ _, .osl _ _ _, .osl _ _ _, .int _ _, .int _ _, .int _ _, .int _ _], .agg [.int _ _, .int _ _]]) rfl) rfl) <|
            ils_cons rfl (iop_extract (d := .agg [.int _ _, .int _ _]) rfl rfl (by decide) (sv (d := .tuple [.agg [.bool _, .int _ _, .int _ _, .osl _ _ _, .osl _ _ _, .int _ _, .int _ _, .int _ _, .int _ _], .agg [.int _ _, .int _ _]]) rfl) rfl) <|
            ils_cons rfl (iop_store (ds' := [.bool _, .int _ _, .int _ _, .osl _ _ _, .osl _ _ _, .int _ _, .int _ _, .int _ _, .int _ _]) rfl rfl ti27 (sv (d := .ref _ _) rfl) rfl (sv (d := .agg [.bool _, .int _ _, .int _ _, .osl _ _ _, .osl _ _ _, .int _ _, .int _ _, .int _ _, .int _ _]) rfl) rfl rfl rfl (nle rfl) rfl) <|
            ils_cons rfl (iop_store (ds' := [.int _ _, .int _ _]) rfl rfl ti36 (sv (d := .ref _ _) rfl) rfl (sv (d := .agg [.int _ _, .int _ _]) rfl) rfl rfl rfl (nle rfl) rfl) <|
            ils_end ?_)
          refine iwp_ret ?_
          refine blockQ_r ?_
          refine thenQ_r ?_
          obtain rfl := Option.some.inj h
          refine ⟨.inr rfl, _, (.cons (resv_a rfl rfl Try.underlying27 ag27 ti27 (by decide) (nle rfl) rfl) (.cons (resv_a rfl rfl Try.underlying36 ag36 ti36 (by decide) (nle rfl) rfl) .nil)), (.cons (.agg (.cons (.refl _) (.cons (.refl _) (.cons (.refl _) (.cons (FDT (eInt .i64) rfl rfl) (.cons (FDT (eInt .i64) rfl rfl) (.cons (.refl _) (.cons (.refl _) (.cons (.refl _) (.cons (.refl _) .nil)))))))))) (.cons (.refl _) .nil))⟩
        ·
          replace h := bif_f h hc15
          refine iwp_skip ?_
          refine blockQ_n ?_
          refine thenQ_n ?_
          refine iwp_reg (ils_cons rfl (iop_move rfl rfl (by decide) (sv (d := .int _ _) rfl)) <|
            ils_cons rfl (iop_fieldAddr_ref rfl rfl (by decide) Try.underlying27 rfl ti3 (by decide) (sv (d := .ref _ _) rfl) (off' := 2) rfl) <|
            ils_cons rfl (iop_store (ds' := [.bool _, .int _ _, .int _ _, .osl _ _ _, .osl _ _ _, .int _ _, .int _ _, .int _ _, .int _ _]) rfl rfl ti3 (sv (d := .ref _ _) rfl) rfl (sv (d := .int _ _) rfl) rfl rfl rfl (nle rfl) rfl) <|
            ils_end ?_)
          refine iwp_seq ?_
          obtain ⟨x17, hx17, h⟩ := bnd_e h
          refine iwp_reg (ils_cons rfl (iop_fieldAddr_ref rfl rfl (by decide) Try.underlying27 rfl ti3 (by decide) (sv (d := .ref _ _) rfl) (off' := 8) rfl) <|
            ils_cons rfl (iop_load_rs (d := .int _ _) rfl rfl (by decide) Try.underlying3 ag3 ti3 (by decide) (sv (d := .ref _ _) rfl) rfl (nle rfl) rfl) <|
            ils_cons rfl (iop_cmpx rfl rfl (by decide) (sv (d := .int _ _) rfl) (sv (d := .int _ (-1)) rfl) rfl hx17) <|
            ils_end ?_)
          refine iwp_cond (b := _) rfl (fun hc18 => ?_) (fun hc18 => ?_)
          ·
            replace h := bif_t h hc18
            refine iwp_reg (ils_cons rfl (iop_load_ra (cs := [.bool _, .int _ _, .int _ _, .osl _ _ _, .osl _ _ _, .int _ _, .int _ _, .int _ _, .int _ _]) rfl rfl (by decide) Try.underlying27 ag27 ti27 (by decide) (sv (d := .ref _ _) rfl) rfl (nle rfl) rfl) <|
              ils_cons rfl (iop_build_struct (cs := [.int _ _, .int _ _]) rfl rfl (by decide) Try.underlying36 ti36 pl36 rfl (.cons (sv (d := .int _ 1) rfl) .nil) rfl) <|
              ils_cons rfl (iop_store (ds' := [.bool _, .int _ _, .int _ _, .osl _ _ _, .osl _ _ _, .int _ _, .int _ _, .int _ _, .int _ _]) rfl rfl ti27 (sv (d := .ref _ _) rfl) rfl (sv (d := .agg [.bool _, .int _ _, .int _ _, .osl _ _ _, .osl _ _ _, .int _ _, .int _ _, .int _ _, .int _ _]) rfl) rfl rfl rfl (nle rfl) rfl) <|
              ils_cons rfl (iop_store (ds' := [.int _ _, .int _ _]) rfl rfl ti36 (sv (d := .ref _ _) rfl) rfl (sv (d := .agg [.int _ _, .int _ _]) rfl) rfl rfl rfl (nle rfl) rfl) <|
              ils_end ?_)
            refine iwp_ret ?_
            refine thenQ_r ?_
            obtain rfl := Option.some.inj h
            refine ⟨.inr rfl, _, (.cons (resv_a rfl rfl Try.underlying27 ag27 ti27 (by decide) (nle rfl) rfl) (.cons (resv_a rfl rfl Try.underlying36 ag36 ti36 (by decide) (nle rfl) rfl) .nil)), (.cons (.agg (.cons (.refl _) (.cons (.refl _) (.cons (.refl _) (.cons (FDT (eInt .i64) rfl rfl) (.cons (FDT (eInt .i64) rfl rfl) (.cons (.refl _) (.cons (.refl _) (.cons (.refl _) (.cons (.refl _) .nil)))))))))) (.cons (.refl _) .nil))⟩
          ·
            replace h := bif_f h hc18
            refine iwp_skip ?_
            refine thenQ_n ?_
            refine iwp_seq ?_
            obtain ⟨x19, hx19, h⟩ := bno_e h
            refine iwp_reg (ils_cons rfl (iop_load_ra (cs := [.bool _, .int _ _, .int _ _, .slice _ _, .slice _ _, .int _ _, .int _ _, .int _ _, .int _ _]) rfl rfl (by decide) Try.underlying27 ag27 ti27 (by decide) (sv (d := .ref _ _) rfl) rfl (nle rfl) rfl) <|
              ils_cons rfl (iop_call (r := .tuple [.int _ _, .int _ _]) rfl rfl (by decide) cl25 (.cons (sv (d := .agg [.bool _, .int _ _, .int _ _, .slice _ _, .slice _ _, .int _ _, .int _ _, .int _ _, .int _ _]) rfl) .nil) rfl (p_stid_Count _ _ hx19)) <|
              ils_cons rfl (iop_move rfl rfl (by decide) (sv (d := .tuple [.int _ _, .int _ _]) rfl)) <|
              ils_cons rfl (iop_extract (d := .int _ _) rfl rfl (by decide) (sv (d := .tuple [.int _ _, .int _ _]) rfl) rfl) <|
              ils_cons rfl (iop_extract (d := .int _ _) rfl rfl (by decide) (sv (d := .tuple [.int _ _, .int _ _]) rfl) rfl) <|
              ils_cons rfl (iop_assign rfl rfl (by decide) (sv (d := .int _ _) rfl)) <|
              ils_cons rfl (iop_assign rfl rfl (by decide) (sv (d := .int _ _) rfl)) <|
              ils_end ?_)
            obtain ⟨x20, hx20, h⟩ := bnd_e h
            refine iwp_reg (ils_cons rfl (iop_move rfl rfl (by decide) (sv (d := .int _ _) rfl)) <|
              ils_cons rfl (iop_fieldAddr_ref rfl rfl (by decide) Try.underlying27 rfl ti3 (by decide) (sv (d := .ref _ _) rfl) (off' := 6) rfl) <|
              ils_cons rfl (iop_load_rs (d := .int _ _) rfl rfl (by decide) Try.underlying3 ag3 ti3 (by decide) (sv (d := .ref _ _) rfl) rfl (nle rfl) rfl) <|
              ils_cons rfl (iop_cmpx rfl rfl (by decide) (sv (d := .int _ _) rfl) (sv (d := .int _ _) rfl) rfl hx20) <|
              ils_end ?_)
            refine iwp_cond (b := _) rfl (fun hc21 => ?_) (fun hc21 => ?_)
            ·
              replace h := bif_t h hc21
              obtain ⟨x22, hx22, h⟩ := bno_e h
              refine iwp_reg (ils_cons rfl (iop_load_ra (cs := [.bool _, .int _ _, .int _ _, .osl _ _ _, .osl _ _ _, .int _ _, .int _ _, .int _ _, .int _ _]) rfl rfl (by decide) Try.underlying27 ag27 ti27 (by decide) (sv (d := .ref _ _) rfl) rfl (nle rfl) rfl) <|
                ils_cons rfl (iop_move rfl rfl (by decide) (sv (d := .int _ _) rfl)) <|
                ils_cons rfl (iop_callh2 (r' := .agg [.bool x22.1, .int .i64 x22.2.1, .int .i64 x22.2.2.1, .osl 6 (eInt .i64).sz x22.2.2.2.1.length, .osl 7 (eInt .i64).sz x22.2.2.2.2.1.length, .int .i64 x22.2.2.2.2.2.1, .int .i64 x22.2.2.2.2.2.2.1, .int .i64 x22.2.2.2.2.2.2.2.1, .int .i64 x22.2.2.2.2.2.2.2.2]) (H1' := [(6, .blk 3 (D.flat (x22.2.2.2.1.map (eInt .i64).d))), (7, .blk 3 (D.flat (x22.2.2.2.2.1.map (eInt .i64).d)))]) 6 [3, 4] rfl rfl (by decide) cl36 (.cons (sv (d := .agg [.bool _, .int _ _, .int _ _, .osl _ _ _, .osl _ _ _, .int _ _, .int _ _, .int _ _, .int _ _]) rfl) (.cons (sv (d := .int _ _) rfl) .nil)) rfl rfl ⟨rfl, rfl, by decide, rfl, List.forall_mem_cons.2 ⟨⟨rfl, rfl, (handL (eInt .i64) rfl), (handLr (eInt .i64))⟩, List.forall_mem_cons.2 ⟨⟨rfl, rfl, (handL (eInt .i64) rfl), (handLr (eInt .i64))⟩, List.forall_mem_nil _⟩⟩⟩ (p_stid_State_slain_h _ _ _ _ _ _ _ _ _ _ _ hx22) rfl rfl (List.forall_mem_cons.2 ⟨⟨rfl, (handLr (eInt .i64))⟩, List.forall_mem_cons.2 ⟨⟨rfl, (handLr (eInt .i64))⟩, List.forall_mem_nil _⟩⟩) (by simp only [List.map_cons, List.map_nil, Ent.ren, renL_flat, renL_ref]; rfl)) <|
                ils_cons rfl (iop_build_struct (cs := [.int _ _, .int _ _]) rfl rfl (by decide) Try.underlying36 ti36 pl36 rfl (.cons (sv (d := .int _ 2) rfl) (.cons (sv (d := .int _ 7) rfl) .nil)) rfl) <|
                ils_cons rfl (iop_store (ds' := [.bool _, .int _ _, .int _ _, .osl _ _ _, .osl _ _ _, .int _ _, .int _ _, .int _ _, .int _ _]) rfl rfl ti27 (sv (d := .ref _ _) rfl) rfl (sv (d := .agg [.bool _, .int _ _, .int _ _, .osl _ _ _, .osl _ _ _, .int _ _, .int _ _, .int _ _, .int _ _]) rfl) rfl rfl rfl (nle rfl) rfl) <|
                ils_cons rfl (iop_store (ds' := [.int _ _, .int _ _]) rfl rfl ti36 (sv (d := .ref _ _) rfl) rfl (sv (d := .agg [.int _ _, .int _ _]) rfl) rfl rfl rfl (nle rfl) rfl) <|
                ils_end ?_)
              refine iwp_ret ?_
              refine thenQ_r ?_
              obtain rfl := Option.some.inj h
              refine ⟨.inr rfl, _, (.cons (resv_a rfl rfl Try.underlying27 ag27 ti27 (by decide) (nle rfl) rfl) (.cons (resv_a rfl rfl Try.underlying36 ag36 ti36 (by decide) (nle rfl) rfl) .nil)), (.cons (.agg (.cons (.refl _) (.cons (.refl _) (.cons (.refl _) (.cons (FDT (eInt .i64) rfl rfl) (.cons (FDT (eInt .i64) rfl rfl) (.cons (.refl _) (.cons (.refl _) (.cons (.refl _) (.cons (.refl _) .nil)))))))))) (.cons (.refl _) .nil))⟩
            ·
              replace h := bif_f h hc21
              refine iwp_skip ?_
              refine thenQ_n ?_
              obtain ⟨x23, hx23, h⟩ := bno_e h
              refine iwp_reg (ils_cons rfl (iop_load_ra (cs := [.bool _, .int _ _, .int _ _, .osl _ _ _, .osl _ _ _, .int _ _, .int _ _, .int _ _, .int _ _]) rfl rfl (by decide) Try.underlying27 ag27 ti27 (by decide) (sv (d := .ref _ _) rfl) rfl (nle rfl) rfl) <|
                ils_cons rfl (iop_move rfl rfl (by decide) (sv (d := .int _ _) rfl)) <|
                ils_cons rfl (iop_callh2 (r' := .agg [.bool x23.1, .int .i64 x23.2.1, .int .i64 x23.2.2.1, .osl 6 (eInt .i64).sz x23.2.2.2.1.length, .osl 7 (eInt .i64).sz x23.2.2.2.2.1.length, .int .i64 x23.2.2.2.2.2.1, .int .i64 x23.2.2.2.2.2.2.1, .int .i64 x23.2.2.2.2.2.2.2.1, .int .i64 x23.2.2.2.2.2.2.2.2]) (H1' := [(6, .blk 3 (D.flat (x23.2.2.2.1.map (eInt .i64).d))), (7, .blk 3 (D.flat (x23.2.2.2.2.1.map (eInt .i64).d)))]) 6 [3, 4] rfl rfl (by decide) cl29 (.cons (sv (d := .agg [.bool _, .int _ _, .int _ _, .osl _ _ _, .osl _ _ _, .int _ _, .int _ _, .int _ _, .int _ _]) rfl) (.cons (sv (d := .int _ _) rfl) .nil)) rfl rfl ⟨rfl, rfl, by decide, rfl, List.forall_mem_cons.2 ⟨⟨rfl, rfl, (handL (eInt .i64) rfl), (handLr (eInt .i64))⟩, List.forall_mem_cons.2 ⟨⟨rfl, rfl, (handL (eInt .i64) rfl), (handLr (eInt .i64))⟩, List.forall_mem_nil _⟩⟩⟩ (p_stid_State_born_h _ _ _ _ _ _ _ _ _ _ _ hx23) rfl rfl (List.forall_mem_cons.2 ⟨⟨rfl, (handLr (eInt .i64))⟩, List.forall_mem_cons.2 ⟨⟨rfl, (handLr (eInt .i64))⟩, List.forall_mem_nil _⟩⟩) (by simp only [List.map_cons, List.map_nil, Ent.ren, renL_flat, renL_ref]; rfl)) <|
                ils_cons rfl (iop_build_struct (cs := [.int _ _, .int _ _]) rfl rfl (by decide) Try.underlying36 ti36 pl36 rfl .nil rfl) <|
                ils_cons rfl (iop_store (ds' := [.bool _, .int _ _, .int _ _, .osl _ _ _, .osl _ _ _, .int _ _, .int _ _, .int _ _, .int _ _]) rfl rfl ti27 (sv (d := .ref _ _) rfl) rfl (sv (d := .agg [.bool _, .int _ _, .int _ _, .osl _ _ _, .osl _ _ _, .int _ _, .int _ _, .int _ _, .int _ _]) rfl) rfl rfl rfl (nle rfl) rfl) <|
                ils_cons rfl (iop_store (ds' := [.int _ _, .int _ _]) rfl rfl ti36 (sv (d := .ref _ _) rfl) rfl (sv (d := .agg [.int _ _, .int _ _]) rfl) rfl rfl rfl (nle rfl) rfl) <|
                ils_end ?_)
              refine iwp_ret ?_
              obtain rfl := Option.some.inj h
              refine ⟨.inr rfl, _, (.cons (resv_a rfl rfl Try.underlying27 ag27 ti27 (by decide) (nle rfl) rfl) (.cons (resv_a rfl rfl Try.underlying36 ag36 ti36 (by decide) (nle rfl) rfl) .nil)), (.cons (.agg (.cons (.refl _) (.cons (.refl _) (.cons (.refl _) (.cons (FDT (eInt .i64) rfl rfl) (.cons (FDT (eInt .i64) rfl rfl) (.cons (.refl _) (.cons (.refl _) (.cons (.refl _) (.cons (.refl _) .nil)))))))))) (.cons (.refl _) .nil))⟩

set_option maxRecDepth 8000 in
set_option maxHeartbeats 2000000 in
theorem p_stid_Away_1 (a0 : Int) (a1 : Int) (a2 : T_stid_State) (r : Bool) (h : stid_Away_1 a0 a1 a2 = some r) : PureAt Try.prog 44 [.int .i64 a0, .fptr [.int .i64 a1], .fptr [.bool a2.Odd, .int .i64 a2.Next, .int .i64 a2.Last, .slice false (a2.Live.map (eInt .i64).d), .slice false (a2.Cut.map (eInt .i64).d), .int .i64 a2.Mine, .int .i64 a2.Hers, .int .i64 a2.Heard, .int .i64 a2.Told]] (.bool r) := by
  refine pure_of_iwp (rs := [.bool r]) Try.func44 rfl Try.ntmps44 (nle rfl) rfl fun O hO => ?_
  show IWP _ _ _ _ ⟨[(0, .int .i64 a0), (1, .fptr [.int .i64 a1]), (2, .fptr [.bool a2.Odd, .int .i64 a2.Next, .int .i64 a2.Last, .slice false (a2.Live.map (eInt .i64).d), .slice false (a2.Cut.map (eInt .i64).d), .int .i64 a2.Mine, .int .i64 a2.Hers, .int .i64 a2.Heard, .int .i64 a2.Told])], []⟩ _
  unfold stid_Away_1 at h
  refine iwp_reg (ils_cons rfl (iop_assign rfl rfl (by decide) (sv (d := .bool false) rfl)) <|
    ils_end ?_)
  obtain ⟨x1, hx1, h⟩ := bnd_e h
  obtain ⟨x2, hx2, h⟩ := bno_e h
  obtain ⟨x3, hx3, h⟩ := bnd_e h
  refine iwp_reg (ils_cons rfl (iop_move rfl rfl (by decide) (sv (d := .int _ _) rfl)) <|
    ils_cons rfl (iop_load_fs rfl rfl (by decide) Try.underlying3 ag3 ti3 (by decide) (sv (d := .fptr [.int _ _]) rfl) (nle rfl)) <|
    ils_cons rfl (iop_cmpx rfl rfl (by decide) (sv (d := .int _ _) rfl) (sv (d := .int _ _) rfl) rfl hx1) <|
    ils_cons rfl (iop_move rfl rfl (by decide) (sv (d := .bool _) rfl)) <|
    ils_guard rfl rfl (.one rfl) rfl (by decide) (fun hb => (iop_load_fa (cs := [.bool _, .int _ _, .int _ _, .slice _ _, .slice _ _, .int _ _, .int _ _, .int _ _, .int _ _]) rfl rfl (by decide) Try.underlying27 ag27 ti27 (by decide) (sv (d := .fptr [.bool _, .int _ _, .int _ _, .slice _ _, .slice _ _, .int _ _, .int _ _, .int _ _, .int _ _]) rfl) (nle rfl) rfl)) <|
    ils_guard rfl rfl (.one rfl) rfl (by decide) (fun hb => (iop_move rfl rfl (by decide) (sv (d := .int _ _) rfl))) <|
    ils_guard rfl rfl (.one rfl) rfl (by decide) (fun hb => (iop_call (r := .bool _) rfl rfl (by decide) cl24 (.cons (svc (d := .agg [.bool a2.Odd, .int .i64 a2.Next, .int .i64 a2.Last, .slice false (a2.Live.map (eInt .i64).d), .slice false (a2.Cut.map (eInt .i64).d), .int .i64 a2.Mine, .int .i64 a2.Hers, .int .i64 a2.Heard, .int .i64 a2.Told]) rfl hb) (.cons (svc (d := .int _ _) rfl hb) .nil)) rfl (p_stid_Own _ _ _ (gd_t hx2 hb)))) <|
    ils_cons rfl (iop_andx rfl rfl (by decide) (sv (d := .bool _) rfl) rfl rfl hx3) <|
    ils_cons rfl (iop_assign rfl rfl (by decide) (sv (d := .bool _) rfl)) <|
    ils_end ?_)
  refine iwp_ret ?_
  obtain rfl := Option.some.inj h
  refine ⟨.inr rfl, (.cons (sv rfl) .nil)⟩

set_option maxRecDepth 8000 in
set_option maxHeartbeats 2000000 in
theorem p_slices_IndexFunc_int_int_Away_1 (a0 : (List Int)) (a1 : Int) (a2 : T_stid_State) (r : Int) (h : slices_IndexFunc_int_int_Away_1 a0 a1 a2 = some r) : PureAt Try.prog 57 [.slice false (a0.map (eInt .i64).d), .fn 44 [.fptr [.int .i64 a1], .fptr [.bool a2.Odd, .int .i64 a2.Next, .int .i64 a2.Last, .slice false (a2.Live.map (eInt .i64).d), .slice false (a2.Cut.map (eInt .i64).d), .int .i64 a2.Mine, .int .i64 a2.Hers, .int .i64 a2.Heard, .int .i64 a2.Told]]] (.int .i64 r) := by
  refine pure_of_iwp (rs := [.int .i64 r]) Try.func57 rfl Try.ntmps57 (nle rfl) rfl fun O hO => ?_
  show IWP _ _ _ _ ⟨[(0, .slice false (a0.map (eInt .i64).d)), (1, .fn 44 [.fptr [.int .i64 a1], .fptr [.bool a2.Odd, .int .i64 a2.Next, .int .i64 a2.Last, .slice false (a2.Live.map (eInt .i64).d), .slice false (a2.Cut.map (eInt .i64).d), .int .i64 a2.Mine, .int .i64 a2.Hers, .int .i64 a2.Heard, .int .i64 a2.Told]])], []⟩ _
  unfold slices_IndexFunc_int_int_Away_1 at h
  refine iwp_reg (ils_cons rfl (iop_assign rfl rfl (by decide) (sv (d := .int _ 0) rfl)) <|
    ils_end ?_)
  refine iwp_seq ?_
  refine iwp_reg (ils_cons rfl (iop_move rfl rfl (by decide) (sv (d := .slice _ _) rfl)) <|
    ils_cons rfl (iop_lenT (eInt .i64) (l := a0) rfl rfl (by decide) Try.underlying22 (sv (d := .slice _ _) rfl)) <|
    ils_cons rfl (iop_move rfl rfl (by decide) (sv (d := .int _ 0) rfl)) <|
    ils_end ?_)
  refine iwp_block ?_
  refine iwp_loopP (α := Nat × Int) (fun z => ⟨[(0, .slice false (a0.map (eInt .i64).d)), (1, .fn 44 [.fptr [.int .i64 a1], .fptr [.bool a2.Odd, .int .i64 a2.Next, .int .i64 a2.Last, .slice false (a2.Live.map (eInt .i64).d), .slice false (a2.Cut.map (eInt .i64).d), .int .i64 a2.Mine, .int .i64 a2.Hers, .int .i64 a2.Heard, .int .i64 a2.Told]]), (7, .int .i64 (a0.length : Int)), (8, .int .i64 z.2)], []⟩) (fun z => slices_IndexFunc_int_int_Away_1_L0 a0 a1 a2 z.1 z.2 = some r) (fun z => z.1) (fuel, 0) (fun i => i) ⟨(.cons (.same rfl rfl) (.cons (.same rfl rfl) (.cons (.same rfl rfl) (.cons (.same rfl rfl) .nil)))), .nil, nd_of [] rfl (by decide), (fun i hi => by first | rfl | (show (if _ then _ else _) = _; (repeat' split) <;> omega))⟩ ?_ ?_
  · exact h
  ·
    rintro ⟨n0, v7⟩ h
    cases n0 with
    | zero => exact absurd h (by unfold slices_IndexFunc_int_int_Away_1_L0; exact nofun)
    | succ n0 =>
      unfold slices_IndexFunc_int_int_Away_1_L0 at h
      obtain ⟨x14, hx14, h⟩ := bnd_e h
      refine iwp_reg (ils_cons rfl (iop_cmpx rfl rfl (by decide) (sv (d := .int _ _) rfl) (sv (d := .int _ _) rfl) rfl hx14) <|
        ils_end ?_)
      refine iwp_seq ?_
      refine iwp_cond (b := _) rfl (fun hc15 => ?_) (fun hc15 => ?_)
      ·
        replace h := bif_t h hc15
        refine iwp_skip ?_
        refine thenQ_n ?_
        refine iwp_seq ?_
        refine iwp_block ?_
        refine iwp_reg (ils_cons rfl (iop_move rfl rfl (by decide) (sv (d := .int _ _) rfl)) <|
          ils_cons rfl (iop_assign rfl rfl (by decide) (sv (d := .int _ _) rfl)) <|
          ils_end ?_)
        obtain ⟨x16, hx16, h⟩ := bno_e h
        obtain ⟨x17, hx17, h⟩ := bno_e h
        refine iwp_reg (ils_cons rfl (iop_move rfl rfl (by decide) (sv (d := .fn 44 [.fptr [.int _ _], .fptr [.bool _, .int _ _, .int _ _, .slice _ _, .slice _ _, .int _ _, .int _ _, .int _ _, .int _ _]]) rfl)) <|
          ils_cons rfl (iop_move rfl rfl (by decide) (sv (d := .slice _ _) rfl)) <|
          ils_cons rfl (iop_move rfl rfl (by decide) (sv (d := .int _ _) rfl)) <|
          ils_cons rfl (iop_idxT (eInt .i64) (cs := [.int _ _]) rfl rfl (by decide) Try.underlying22 ti3 (sv (d := .slice _ _) rfl) (sv (d := .int _ _) rfl) hx16 rfl rfl) <|
          ils_cons rfl (iop_load_fs rfl rfl (by decide) Try.underlying3 ag3 ti3 (by decide) (sv (d := .fptr [.int _ _]) rfl) (nle rfl)) <|
          ils_cons rfl (iop_callv (r := .bool _) rfl rfl (by decide) cl44 (sv (d := .fn 44 [.fptr [.int _ _], .fptr [.bool _, .int _ _, .int _ _, .slice _ _, .slice _ _, .int _ _, .int _ _, .int _ _, .int _ _]]) rfl) (.cons (sv (d := .int _ _) rfl) .nil) rfl (p_stid_Away_1 _ _ _ _ hx17)) <|
          ils_end ?_)
        refine iwp_cond (b := _) rfl (fun hc18 => ?_) (fun hc18 => ?_)
        ·
          replace h := bif_t h hc18
          refine iwp_reg (ils_cons rfl (iop_move rfl rfl (by decide) (sv (d := .int _ _) rfl)) <|
            ils_cons rfl (iop_assign rfl rfl (by decide) (sv (d := .int _ _) rfl)) <|
            ils_end ?_)
          refine iwp_ret ?_
          refine blockQ_r ?_
          refine thenQ_r ?_
          refine thenQ_r ?_
          refine blockQ_r ?_
          refine thenQ_r ?_
          obtain rfl := Option.some.inj h
          refine ⟨.inr rfl, (.cons (sv rfl) .nil)⟩
        ·
          replace h := bif_f h hc18
          refine iwp_skip ?_
          refine blockQ_n ?_
          refine thenQ_n ?_
          obtain ⟨x19, hx19, h⟩ := bnd_e h
          refine iwp_region (ils_cons rfl (iop_intx rfl rfl (by decide) (sv (d := .int _ _) rfl) (sv (d := .int _ 1) rfl) rfl hx19) <|
            ils_cons rfl (iop_move rfl rfl (by decide) (sv (d := .int _ _) rfl)) <|
            ils_nil ?_)
          refine thenQ_n ⟨(n0, x19), (fun i => i), ⟨(.cons (.same rfl rfl) (.cons (.same rfl rfl) (.cons (.same rfl rfl) (.cons (.same rfl rfl) .nil)))), .nil, nd_of [] rfl (by decide), (fun i hi => by first | rfl | (show (if _ then _ else _) = _; (repeat' split) <;> omega))⟩, ?_, ?_⟩
          exact h
          exact Nat.lt_succ_self _
      ·
        replace h := bif_f h hc15
        refine iwp_exit ?_
        refine thenQ_e ?_
        refine thenQ_e ?_
        refine blockQ_e ?_
        refine thenQ_n ?_
        refine iwp_reg (ils_cons rfl (iop_assign rfl rfl (by decide) (sv (d := .int _ (-1)) rfl)) <|
          ils_end ?_)
        refine iwp_ret ?_
        obtain rfl := Option.some.inj h
        refine ⟨.inr rfl, (.cons (sv rfl) .nil)⟩

set_option maxRecDepth 8000 in
set_option maxHeartbeats 2000000 in
theorem p_slices_DeleteFunc_int_int_h_Away_1 (a0 : (List Int)) (a1 : Int) (a2 : T_stid_State) (r : (List Int)) (h : slices_DeleteFunc_int_int_h_Away_1 a0 a1 a2 = some r) : FnH Try.prog 45 [.osl 1000 (eInt .i64).sz a0.length, .fn 44 [.ref 1001 0, .ref 1002 0]] [(1000, .blk 3 (D.flat (a0.map (eInt .i64).d))), (1001, .blk 3 [.int .i64 a1]), (1002, .blk 27 [.bool a2.Odd, .int .i64 a2.Next, .int .i64 a2.Last, .slice false (a2.Live.map (eInt .i64).d), .slice false (a2.Cut.map (eInt .i64).d), .int .i64 a2.Mine, .int .i64 a2.Hers, .int .i64 a2.Heard, .int .i64 a2.Told])] (.osl 0 (eInt .i64).sz r.length) [(1001, .blk 3 [.int .i64 a1]), (1002, .blk 27 [.bool a2.Odd, .int .i64 a2.Next, .int .i64 a2.Last, .slice false (a2.Live.map (eInt .i64).d), .slice false (a2.Cut.map (eInt .i64).d), .int .i64 a2.Mine, .int .i64 a2.Hers, .int .i64 a2.Heard, .int .i64 a2.Told]), (0, .blk 3 (D.flat (r.map (eInt .i64).d)))] := by
  refine fnh_of_iwp (rs := [.osl 0 (eInt .i64).sz r.length]) Try.func45 rfl Try.ntmps45 (nle rfl) fun O hO => ?_
  show IWP _ _ _ _ ⟨[(0, .osl 1000 (eInt .i64).sz a0.length), (1, .fn 44 [.ref 1001 0, .ref 1002 0])], [(1000, .blk 3 (D.flat (a0.map (eInt .i64).d))), (1001, .blk 3 [.int .i64 a1]), (1002, .blk 27 [.bool a2.Odd, .int .i64 a2.Next, .int .i64 a2.Last, .slice false (a2.Live.map (eInt .i64).d), .slice false (a2.Cut.map (eInt .i64).d), .int .i64 a2.Mine, .int .i64 a2.Hers, .int .i64 a2.Heard, .int .i64 a2.Told])]⟩ _
  unfold slices_DeleteFunc_int_int_h_Away_1 at h
  refine iwp_reg (ils_cons rfl (iop_assign rfl rfl (by decide) (sv (d := .nils) rfl)) <|
    ils_end ?_)
  obtain ⟨x1, hx1, h⟩ := bno_e h
  refine iwp_reg (ils_cons rfl (iop_move rfl rfl (by decide) (sv (d := .osl _ _ _) rfl)) <|
    ils_cons rfl (iop_move rfl rfl (by decide) (sv (d := .fn 44 [.ref _ _, .ref _ _]) rfl)) <|
    ils_cons rfl (iop_callp (r := .int .i64 x1) rfl rfl (by decide) cl57 (.cons (sv (d := .osl _ _ _) rfl) (.cons (sv (d := .fn 44 [.ref _ _, .ref _ _]) rfl) .nil)) (.cons (FDT (eInt .i64) rfl rfl) (.cons (.fn (.cons (.ref rfl rfl (fdl_refl _) rfl) (.cons (.ref rfl rfl (fdl_refl _) rfl) .nil))) .nil)) rfl rfl (p_slices_IndexFunc_int_int_Away_1 _ _ _ _ hx1)) <|
    ils_cons rfl (iop_assign rfl rfl (by decide) (sv (d := .int _ _) rfl)) <|
    ils_end ?_)
  refine iwp_seq ?_
  obtain ⟨x2, hx2, h⟩ := bnd_e h
  refine iwp_reg (ils_cons rfl (iop_move rfl rfl (by decide) (sv (d := .int _ _) rfl)) <|
    ils_cons rfl (iop_cmpx rfl rfl (by decide) (sv (d := .int _ _) rfl) (sv (d := .int _ (-1)) rfl) rfl hx2) <|
    ils_end ?_)
  refine iwp_cond (b := _) rfl (fun hc3 => ?_) (fun hc3 => ?_)
  ·
    replace h := bif_t h hc3
    refine iwp_reg (ils_cons rfl (iop_move rfl rfl (by decide) (sv (d := .osl _ _ _) rfl)) <|
      ils_cons rfl (iop_assign rfl rfl (by decide) (sv (d := .osl _ _ _) rfl)) <|
      ils_end ?_)
    refine iwp_ret ?_
    refine thenQ_r ?_
    obtain rfl := Option.some.inj h
    refine ⟨.inr rfl, (fun i => if i = 0 then 1000 else i), ⟨.nil, (.cons (.blk rfl rfl rfl) (.cons (.blk rfl rfl rfl) (.cons (EntW.lst rfl) .nil))), nd_of [1001, 1002, 1000] rfl (by decide), (fun i hi => by first | rfl | (show (if _ then _ else _) = _; (repeat' split) <;> omega))⟩, (.cons (sv rfl) .nil), rfl⟩
  ·
    replace h := bif_f h hc3
    refine iwp_skip ?_
    refine thenQ_n ?_
    refine iwp_seq ?_
    obtain ⟨x4, hx4, h⟩ := bnd_e h
    refine iwp_reg (ils_cons rfl (iop_move rfl rfl (by decide) (sv (d := .int _ _) rfl)) <|
      ils_cons rfl (iop_intx rfl rfl (by decide) (sv (d := .int _ _) rfl) (sv (d := .int _ 1) rfl) rfl hx4) <|
      ils_cons rfl (iop_assign rfl rfl (by decide) (sv (d := .int _ _) rfl)) <|
      ils_end ?_)
    refine iwp_block ?_
    refine iwp_loopP (α := Nat × (List Int) × Int × Int) (fun z => ⟨[(0, .osl 1000 (eInt .i64).sz z.2.1.length), (1, .fn 44 [.ref 1001 0, .ref 1002 0]), (5, .int .i64 z.2.2.1), (6, .int .i64 z.2.2.2)], [(1000, .blk 3 (D.flat (z.2.1.map (eInt .i64).d))), (1001, .blk 3 [.int .i64 a1]), (1002, .blk 27 [.bool a2.Odd, .int .i64 a2.Next, .int .i64 a2.Last, .slice false (a2.Live.map (eInt .i64).d), .slice false (a2.Cut.map (eInt .i64).d), .int .i64 a2.Mine, .int .i64 a2.Hers, .int .i64 a2.Heard, .int .i64 a2.Told])]⟩) (fun z => slices_DeleteFunc_int_int_h_Away_1_L0 a1 a2 z.1 z.2.1 z.2.2.1 z.2.2.2 = some r) (fun z => z.1) (fuel, a0, x1, x4) (fun i => i) ⟨(.cons (.same rfl rfl) (.cons (.same rfl rfl) (.cons (.same rfl rfl) (.cons (.same rfl rfl) .nil)))), (.cons (EntW.lst rfl) (.cons (.blk rfl rfl rfl) (.cons (.blk rfl rfl rfl) .nil))), nd_of [1000, 1001, 1002] rfl (by decide), (fun i hi => by first | rfl | (show (if _ then _ else _) = _; (repeat' split) <;> omega))⟩ ?_ ?_
    · exact h
    ·
      rintro ⟨n0, v17, v18, v19⟩ h
      cases n0 with
      | zero => exact absurd h (by unfold slices_DeleteFunc_int_int_h_Away_1_L0; exact nofun)
      | succ n0 =>
        unfold slices_DeleteFunc_int_int_h_Away_1_L0 at h
        refine iwp_seq ?_
        obtain ⟨x32, hx32, h⟩ := bnd_e h
        refine iwp_reg (ils_cons rfl (iop_move rfl rfl (by decide) (sv (d := .int _ _) rfl)) <|
          ils_cons rfl (iop_move rfl rfl (by decide) (sv (d := .osl _ _ _) rfl)) <|
          ils_cons rfl (iop_lenO rfl rfl (by decide) Try.underlying22 (sv (d := .osl _ _ _) rfl)) <|
          ils_cons rfl (iop_cmpx rfl rfl (by decide) (sv (d := .int _ _) rfl) (sv (d := .int _ _) rfl) rfl hx32) <|
          ils_end ?_)
        refine iwp_cond (b := _) rfl (fun hc33 => ?_) (fun hc33 => ?_)
        ·
          replace h := bif_t h hc33
          refine iwp_skip ?_
          refine thenQ_n ?_
          refine iwp_seq ?_
          refine iwp_block ?_
          obtain ⟨x34, hx34, h⟩ := bno_e h
          obtain ⟨x35, hx35, h⟩ := bno_e h
          refine iwp_reg (ils_cons rfl (iop_move rfl rfl (by decide) (sv (d := .osl _ _ _) rfl)) <|
            ils_cons rfl (iop_move rfl rfl (by decide) (sv (d := .int _ _) rfl)) <|
            ils_cons rfl (iop_idxO (eInt .i64).toEnc0 rfl rfl (by decide) Try.underlying22 ti3 (sv (d := .osl _ _ _) rfl) rfl (sv (d := .int _ _) rfl) hx34) <|
            ils_cons rfl (iop_loadEs (eInt .i64).toEnc0 (d := .int _ _) rfl rfl (by decide) Try.underlying3 ag3 ti3 (by decide) (sv (d := .ref _ _) rfl) rfl hx35 (nle rfl) rfl) <|
            ils_cons rfl (iop_assign rfl rfl (by decide) (sv (d := .int _ _) rfl)) <|
            ils_end ?_)
          obtain ⟨x36, hx36, h⟩ := bno_e h
          refine iwp_reg (ils_cons rfl (iop_move rfl rfl (by decide) (sv (d := .fn 44 [.ref _ _, .ref _ _]) rfl)) <|
            ils_cons rfl (iop_move rfl rfl (by decide) (sv (d := .int _ _) rfl)) <|
            ils_cons rfl (iop_callvp (r := .bool x36) rfl rfl (by decide) cl44 (sv (d := .fn 44 [.ref _ _, .ref _ _]) rfl) (.cons (sv (d := .int _ _) rfl) .nil) (.cons (.refl _) (.cons (.ref rfl rfl (fdl_refl _) rfl) (.cons (.ref rfl rfl (fdl_refl _) rfl) .nil))) rfl rfl (p_stid_Away_1 _ _ _ _ hx36)) <|
            ils_cons rfl (iop_not rfl rfl (by decide) (sv (d := .bool _) rfl)) <|
            ils_end ?_)
          refine iwp_cond (b := _) rfl (fun hc37 => ?_) (fun hc37 => ?_)
          ·
            replace h := bif_t h hc37
            obtain ⟨x38, hx38, h⟩ := bno_e h
            obtain ⟨x39, hx39, h⟩ := bno_e h
            obtain ⟨x40, hx40, h⟩ := bnd_e h
            refine iwp_reg (ils_cons rfl (iop_move rfl rfl (by decide) (sv (d := .osl _ _ _) rfl)) <|
              ils_cons rfl (iop_move rfl rfl (by decide) (sv (d := .int _ _) rfl)) <|
              ils_cons rfl (iop_move rfl rfl (by decide) (sv (d := .int _ _) rfl)) <|
              ils_cons rfl (iop_idxO (eInt .i64).toEnc0 rfl rfl (by decide) Try.underlying22 ti3 (sv (d := .osl _ _ _) rfl) rfl (sv (d := .int _ _) rfl) hx38) <|
              ils_cons rfl (iop_storeE (eInt .i64).toEnc0 (a' := x35) rfl rfl ti3 (sv (d := .ref _ _) rfl) rfl (sv (d := .int _ _) rfl) rfl rfl rfl hx39 (nle rfl) rfl hx40) <|
              ils_end ?_)
            obtain ⟨x41, hx41, h⟩ := bnd_e h
            refine iwp_region (ils_cons rfl (iop_move rfl rfl (by decide) (sv (d := .int _ _) rfl)) <|
              ils_cons rfl (iop_intx rfl rfl (by decide) (sv (d := .int _ _) rfl) (sv (d := .int _ 1) rfl) rfl hx41) <|
              ils_cons rfl (iop_assign rfl rfl (by decide) (sv (d := .int _ _) rfl)) <|
              ils_nil ?_)
            refine blockQ_n ?_
            refine thenQ_n ?_
            obtain ⟨x42, hx42, h⟩ := bnd_e h
            refine iwp_region (ils_cons rfl (iop_move rfl rfl (by decide) (sv (d := .int _ _) rfl)) <|
              ils_cons rfl (iop_intx rfl rfl (by decide) (sv (d := .int _ _) rfl) (sv (d := .int _ 1) rfl) rfl hx42) <|
              ils_cons rfl (iop_assign rfl rfl (by decide) (sv (d := .int _ _) rfl)) <|
              ils_nil ?_)
            refine thenQ_n ⟨(n0, x40, x41, x42), (fun i => i), ⟨(.cons (.same (congrArg (D.osl _ _) (len_set hx40 rfl).symm) rfl) (.cons (.same rfl rfl) (.cons (.same rfl rfl) (.cons (.same rfl rfl) .nil)))), (.cons (EntW.lst rfl) (.cons (.blk rfl rfl rfl) (.cons (.blk rfl rfl rfl) .nil))), nd_of [1000, 1001, 1002] rfl (by decide), (fun i hi => by first | rfl | (show (if _ then _ else _) = _; (repeat' split) <;> omega))⟩, ?_, ?_⟩
            exact h
            exact Nat.lt_succ_self _
          ·
            replace h := bif_f h hc37
            refine iwp_skip ?_
            refine blockQ_n ?_
            refine thenQ_n ?_
            obtain ⟨x43, hx43, h⟩ := bnd_e h
            refine iwp_region (ils_cons rfl (iop_move rfl rfl (by decide) (sv (d := .int _ _) rfl)) <|
              ils_cons rfl (iop_intx rfl rfl (by decide) (sv (d := .int _ _) rfl) (sv (d := .int _ 1) rfl) rfl hx43) <|
              ils_cons rfl (iop_assign rfl rfl (by decide) (sv (d := .int _ _) rfl)) <|
              ils_nil ?_)
            refine thenQ_n ⟨(n0, v17, v18, x43), (fun i => i), ⟨(.cons (.same rfl rfl) (.cons (.same rfl rfl) (.cons (.same rfl rfl) (.cons (.same rfl rfl) .nil)))), (.cons (EntW.lst rfl) (.cons (.blk rfl rfl rfl) (.cons (.blk rfl rfl rfl) .nil))), nd_of [1000, 1001, 1002] rfl (by decide), (fun i hi => by first | rfl | (show (if _ then _ else _) = _; (repeat' split) <;> omega))⟩, ?_, ?_⟩
            exact h
            exact Nat.lt_succ_self _
        ·
          replace h := bif_f h hc33
          refine iwp_exit ?_
          refine thenQ_e ?_
          refine thenQ_e ?_
          refine blockQ_e ?_
          refine thenQ_n ?_
          obtain ⟨x44, hx44, h⟩ := bno_e h
          refine iwp_reg (ils_cons rfl (iop_move rfl rfl (by decide) (sv (d := .osl _ _ _) rfl)) <|
            ils_cons rfl (iop_move rfl rfl (by decide) (sv (d := .int _ _) rfl)) <|
            ils_clrtail (eInt .i64).toEnc0 rfl rfl rfl rfl (by decide) rfl rfl Try.underlying22 ti3 rfl rfl rfl rfl rfl (fun S1 h9 => sv ((h9 37 (by decide)).trans rfl)) hx44 <|
            ils_end ?_)
          obtain ⟨x45, hx45, h⟩ := bno_e h
          refine iwp_reg (ils_cons rfl (iop_move rfl rfl (by decide) (sv (d := .osl _ _ _) rfl)) <|
            ils_cons rfl (iop_move rfl rfl (by decide) (sv (d := .int _ _) rfl)) <|
            ils_cons rfl (iop_truncO (eInt .i64).toEnc0 rfl rfl (by decide) Try.underlying22 ti3 (sv (d := .osl _ _ _) rfl) rfl (Nat.le_trans (cut_le hx44) (Nat.le_of_eq rfl)) (sv (d := .int _ _) rfl) hx45) <|
            ils_cons rfl (iop_assign rfl rfl (by decide) (sv (d := .osl _ _ _) rfl)) <|
            ils_end ?_)
          refine iwp_ret ?_
          obtain rfl := Option.some.inj h
          refine ⟨.inr rfl, (fun i => if i = 0 then 1000 else i), ⟨.nil, (.cons (.blk rfl rfl rfl) (.cons (.blk rfl rfl rfl) (.cons (EntW.lst rfl) .nil))), nd_of [1001, 1002, 1000] rfl (by decide), (fun i hi => by first | rfl | (show (if _ then _ else _) = _; (repeat' split) <;> omega))⟩, (.cons (sv rfl) .nil), rfl⟩

set_option maxRecDepth 8000 in
set_option maxHeartbeats 2000000 in
theorem p_stid_Away (a0 : T_stid_State) (a1 : Int) (r : (T_stid_State × (List Int) × Bool)) (h : stid_Away a0 a1 = some r) : PureAt Try.prog 14 [.agg [.bool a0.Odd, .int .i64 a0.Next, .int .i64 a0.Last, .slice false (a0.Live.map (eInt .i64).d), .slice false (a0.Cut.map (eInt .i64).d), .int .i64 a0.Mine, .int .i64 a0.Hers, .int .i64 a0.Heard, .int .i64 a0.Told], .int .i64 a1] (retD [.agg [.bool r.1.Odd, .int .i64 r.1.Next, .int .i64 r.1.Last, .slice false (r.1.Live.map (eInt .i64).d), .slice false (r.1.Cut.map (eInt .i64).d), .int .i64 r.1.Mine, .int .i64 r.1.Hers, .int .i64 r.1.Heard, .int .i64 r.1.Told], .slice false (r.2.1.map (eInt .i64).d), .bool r.2.2]) := by
  refine pure_of_iwpF (rs := [.agg [.bool r.1.Odd, .int .i64 r.1.Next, .int .i64 r.1.Last, .slice false (r.1.Live.map (eInt .i64).d), .slice false (r.1.Cut.map (eInt .i64).d), .int .i64 r.1.Mine, .int .i64 r.1.Hers, .int .i64 r.1.Heard, .int .i64 r.1.Told], .slice false (r.2.1.map (eInt .i64).d), .bool r.2.2]) Try.func14 rfl Try.ntmps14 (nle rfl) rfl fun O hO => ?_
  show IWP _ _ _ _ ⟨[(0, .agg [.bool a0.Odd, .int .i64 a0.Next, .int .i64 a0.Last, .slice false (a0.Live.map (eInt .i64).d), .slice false (a0.Cut.map (eInt .i64).d), .int .i64 a0.Mine, .int .i64 a0.Hers, .int .i64 a0.Heard, .int .i64 a0.Told]), (1, .int .i64 a1)], []⟩ _
  unfold stid_Away at h
  refine iwp_reg (ils_cons rfl (iop_box' (cs := [.bool _, .int _ _, .int _ _, .slice _ _, .slice _ _, .int _ _, .int _ _, .int _ _, .int _ _]) 0 rfl rfl (by decide) rfl (sv (d := .agg [.bool _, .int _ _, .int _ _, .slice _ _, .slice _ _, .int _ _, .int _ _, .int _ _, .int _ _]) rfl) rfl rfl) <|
    ils_cons rfl (iop_box' (cs := [.int _ _]) 1 rfl rfl (by decide) rfl (sv (d := .int _ _) rfl) rfl rfl) <|
    ils_cons rfl (iop_allocS (cs := [.bool _, .int _ _, .int _ _, .nils, .nils, .int _ _, .int _ _, .int _ _, .int _ _]) (cs' := [.bool false, .int .i64 0, .int .i64 0, .slice false (([] : List Int).map (eInt .i64).d), .slice false (([] : List Int).map (eInt .i64).d), .int .i64 0, .int .i64 0, .int .i64 0, .int .i64 0]) 2 rfl rfl (by decide) rfl ti27 rfl rfl (.cons (.refl _) (.cons (.refl _) (.cons (.refl _) (.cons (.nils _) (.cons (.nils _) (.cons (.refl _) (.cons (.refl _) (.cons (.refl _) (.cons (.refl _) .nil)))))))))) <|
    ils_cons rfl (iop_assign rfl rfl (by decide) (sv (d := .nils) rfl)) <|
    ils_cons rfl (iop_assign rfl rfl (by decide) (sv (d := .bool false) rfl)) <|
    ils_end ?_)
  obtain ⟨x1, hx1, h⟩ := bno_e h
  refine iwp_reg (ils_cons rfl (iop_load_ra (cs := [.bool _, .int _ _, .int _ _, .slice _ _, .slice _ _, .int _ _, .int _ _, .int _ _, .int _ _]) rfl rfl (by decide) Try.underlying27 ag27 ti27 (by decide) (sv (d := .ref _ _) rfl) rfl (nle rfl) rfl) <|
    ils_cons rfl (iop_callh2 (r' := .agg [.bool x1.1, .int .i64 x1.2.1, .int .i64 x1.2.2.1, .osl 3 (eInt .i64).sz x1.2.2.2.1.length, .osl 4 (eInt .i64).sz x1.2.2.2.2.1.length, .int .i64 x1.2.2.2.2.2.1, .int .i64 x1.2.2.2.2.2.2.1, .int .i64 x1.2.2.2.2.2.2.2.1, .int .i64 x1.2.2.2.2.2.2.2.2]) (H1' := [(3, .blk 3 (D.flat (x1.2.2.2.1.map (eInt .i64).d))), (4, .blk 3 (D.flat (x1.2.2.2.2.1.map (eInt .i64).d)))]) 3 [] rfl rfl (by decide) cl28 (.cons (sv (d := .agg [.bool _, .int _ _, .int _ _, .slice _ _, .slice _ _, .int _ _, .int _ _, .int _ _, .int _ _]) rfl) .nil) rfl rfl ⟨rfl, rfl, by decide, rfl, List.forall_mem_nil _⟩ (p_stid_State_own_h _ _ hx1) rfl rfl (List.forall_mem_cons.2 ⟨⟨rfl, (handLr (eInt .i64))⟩, List.forall_mem_cons.2 ⟨⟨rfl, (handLr (eInt .i64))⟩, List.forall_mem_nil _⟩⟩) (by simp only [List.map_cons, List.map_nil, Ent.ren, renL_flat, renL_ref]; rfl)) <|
    ils_cons rfl (iop_allocS (cs := [.bool _, .int _ _, .int _ _, .nils, .nils, .int _ _, .int _ _, .int _ _, .int _ _]) (cs' := [.bool false, .int .i64 0, .int .i64 0, .slice false (([] : List Int).map (eInt .i64).d), .slice false (([] : List Int).map (eInt .i64).d), .int .i64 0, .int .i64 0, .int .i64 0, .int .i64 0]) 5 rfl rfl (by decide) rfl ti27 rfl rfl (.cons (.refl _) (.cons (.refl _) (.cons (.refl _) (.cons (.nils _) (.cons (.nils _) (.cons (.refl _) (.cons (.refl _) (.cons (.refl _) (.cons (.refl _) .nil)))))))))) <|
    ils_cons rfl (iop_store (ds' := [.bool _, .int _ _, .int _ _, .osl _ _ _, .osl _ _ _, .int _ _, .int _ _, .int _ _, .int _ _]) rfl rfl ti27 (sv (d := .ref _ _) rfl) rfl (sv (d := .agg [.bool _, .int _ _, .int _ _, .osl _ _ _, .osl _ _ _, .int _ _, .int _ _, .int _ _, .int _ _]) rfl) rfl rfl rfl (nle rfl) rfl) <|
    ils_end ?_)
  refine iwp_seq ?_
  obtain ⟨x2, hx2, h⟩ := bno_e h
  obtain ⟨x3, hx3, h⟩ := bnd_e h
  obtain ⟨x4, hx4, h⟩ := bno_e h
  obtain ⟨x5, hx5, h⟩ := bnd_e h
  obtain ⟨x6, hx6, h⟩ := bnd_e h
  obtain ⟨x7, hx7, h⟩ := bnd_e h
  obtain ⟨x8, hx8, h⟩ := bnd_e h
  obtain ⟨x9, hx9, h⟩ := bnd_e h
  refine iwp_reg (ils_cons rfl (iop_load_ra (cs := [.bool _, .int _ _, .int _ _, .slice _ _, .slice _ _, .int _ _, .int _ _, .int _ _, .int _ _]) rfl rfl (by decide) Try.underlying27 ag27 ti27 (by decide) (sv (d := .ref _ _) rfl) rfl (nle rfl) rfl) <|
    ils_cons rfl (iop_call (r := .int _ _) rfl rfl (by decide) cl26 (.cons (sv (d := .agg [.bool _, .int _ _, .int _ _, .slice _ _, .slice _ _, .int _ _, .int _ _, .int _ _, .int _ _]) rfl) .nil) rfl (p_stid_Check _ _ hx2)) <|
    ils_cons rfl (iop_cmpx rfl rfl (by decide) (sv (d := .int _ _) rfl) (sv (d := .int _ 0) rfl) rfl hx3) <|
    ils_cons rfl (iop_move rfl rfl (by decide) (sv (d := .bool _) rfl)) <|
    ils_guard rfl rfl (.one rfl) rfl (by decide) (fun hb => (iop_load_rs (d := .int _ _) rfl rfl (by decide) Try.underlying3 ag3 ti3 (by decide) (sv (d := .ref _ _) rfl) rfl (nle rfl) rfl)) <|
    ils_guard rfl rfl (.one rfl) rfl (by decide) (fun hb => (iop_call (r := .bool _) rfl rfl (by decide) cl34 (.cons (svc (d := .int _ _) rfl hb) (.cons (sv (d := .int _ 0) rfl) (.cons (sv (d := .int _ 1048576) rfl) .nil))) rfl (p_stid_in _ _ _ _ (gd_t hx4 hb)))) <|
    ils_guard rfl rfl (.one rfl) rfl (by decide) (fun hb => (iop_not rfl rfl (by decide) (svc (d := .bool _) rfl hb))) <|
    ils_cons rfl (iop_orx rfl rfl (by decide) (sv (d := .bool _) rfl) rfl rfl hx5) <|
    ils_cons rfl (iop_move rfl rfl (by decide) (sv (d := .bool _) rfl)) <|
    ils_guard rfl rfl (.one rfl) rfl (by decide) (fun hb => (iop_fieldAddr_ref rfl rfl (by decide) Try.underlying27 rfl ti3 (by decide) (sv (d := .ref _ _) rfl) (off' := 7) rfl)) <|
    ils_guard rfl rfl (.one rfl) rfl (by decide) (fun hb => (iop_load_rs (d := .int _ _) rfl rfl (by decide) Try.underlying3 ag3 ti3 (by decide) (svc (d := .ref _ _) rfl hb) rfl (nle rfl) rfl)) <|
    ils_guard rfl rfl (.one rfl) rfl (by decide) (fun hb => (iop_cmpx rfl rfl (by decide) (svc (d := .int _ _) rfl hb) (sv (d := .int _ (-1)) rfl) rfl hx6)) <|
    ils_guard rfl rfl (.one rfl) rfl (by decide) (fun hb => (iop_move rfl rfl (by decide) (svc (d := .bool _) rfl hb))) <|
    ils_guard rfl rfl (.two rfl) rfl (by decide) (fun hb => (iop_load_rs (d := .int _ _) rfl rfl (by decide) Try.underlying3 ag3 ti3 (by decide) (sv (d := .ref _ _) rfl) rfl (nle rfl) rfl)) <|
    ils_guard rfl rfl (.two rfl) rfl (by decide) (fun hb => (iop_fieldAddr_ref rfl rfl (by decide) Try.underlying27 rfl ti3 (by decide) (sv (d := .ref _ _) rfl) (off' := 7) rfl)) <|
    ils_guard rfl rfl (.two rfl) rfl (by decide) (fun hb => (iop_load_rs (d := .int _ _) rfl rfl (by decide) Try.underlying3 ag3 ti3 (by decide) (svc (d := .ref _ _) rfl hb) rfl (nle rfl) rfl)) <|
    ils_guard rfl rfl (.two rfl) rfl (by decide) (fun hb => (iop_cmpx rfl rfl (by decide) (svc (d := .int _ _) rfl hb) (svc (d := .int _ _) rfl hb) rfl hx7)) <|
    ils_guard rfl rfl (.one rfl) rfl (by decide) (fun hb => (iop_and2x rfl rfl (by decide) hb (svc (d := .bool _) rfl hb) rfl rfl hx8)) <|
    ils_cons rfl (iop_orx rfl rfl (by decide) (sv (d := .bool _) rfl) rfl rfl hx9) <|
    ils_end ?_)
  refine iwp_cond (b := _) rfl (fun hc10 => ?_) (fun hc10 => ?_)
  ·
    replace h := bif_t h hc10
    refine iwp_reg (ils_cons rfl (iop_load_ra (cs := [.bool _, .int _ _, .int _ _, .osl _ _ _, .osl _ _ _, .int _ _, .int _ _, .int _ _, .int _ _]) rfl rfl (by decide) Try.underlying27 ag27 ti27 (by decide) (sv (d := .ref _ _) rfl) rfl (nle rfl) rfl) <|
      ils_cons rfl (iop_store (ds' := [.bool _, .int _ _, .int _ _, .osl _ _ _, .osl _ _ _, .int _ _, .int _ _, .int _ _, .int _ _]) rfl rfl ti27 (sv (d := .ref _ _) rfl) rfl (sv (d := .agg [.bool _, .int _ _, .int _ _, .osl _ _ _, .osl _ _ _, .int _ _, .int _ _, .int _ _, .int _ _]) rfl) rfl rfl rfl (nle rfl) rfl) <|
      ils_cons rfl (iop_assign rfl rfl (by decide) (sv (d := .nils) rfl)) <|
      ils_cons rfl (iop_assign rfl rfl (by decide) (sv (d := .bool false) rfl)) <|
      ils_end ?_)
    refine iwp_ret ?_
    refine thenQ_r ?_
    obtain rfl := Option.some.inj h
    refine ⟨.inr rfl, _, (.cons (resv_a rfl rfl Try.underlying27 ag27 ti27 (by decide) (nle rfl) rfl) (.cons (sv rfl) (.cons (sv rfl) .nil))), (.cons (.agg (.cons (.refl _) (.cons (.refl _) (.cons (.refl _) (.cons (FDT (eInt .i64) rfl rfl) (.cons (FDT (eInt .i64) rfl rfl) (.cons (.refl _) (.cons (.refl _) (.cons (.refl _) (.cons (.refl _) .nil)))))))))) (.cons (.nils _) (.cons (.refl _) .nil)))⟩
  ·
    replace h := bif_f h hc10
    refine iwp_skip ?_
    refine thenQ_n ?_
    refine iwp_reg (ils_cons rfl (iop_load_rs (d := .int _ _) rfl rfl (by decide) Try.underlying3 ag3 ti3 (by decide) (sv (d := .ref _ _) rfl) rfl (nle rfl) rfl) <|
      ils_cons rfl (iop_fieldAddr_ref rfl rfl (by decide) Try.underlying27 rfl ti3 (by decide) (sv (d := .ref _ _) rfl) (off' := 7) rfl) <|
      ils_cons rfl (iop_store (ds' := [.bool _, .int _ _, .int _ _, .osl _ _ _, .osl _ _ _, .int _ _, .int _ _, .int _ _, .int _ _]) rfl rfl ti3 (sv (d := .ref _ _) rfl) rfl (sv (d := .int _ _) rfl) rfl rfl rfl (nle rfl) rfl) <|
      ils_end ?_)
    refine iwp_reg (ils_cons rfl (iop_makeFunc rfl rfl (by decide) (.cons (sv (d := .ref _ _) rfl) (.cons (sv (d := .ref _ _) rfl) .nil))) <|
      ils_cons rfl (iop_assign rfl rfl (by decide) (sv (d := .fn 44 [.ref _ _, .ref _ _]) rfl)) <|
      ils_end ?_)
    refine iwp_reg (ils_cons rfl (iop_assign rfl rfl (by decide) (sv (d := .nils) rfl)) <|
      ils_end ?_)
    refine iwp_seq ?_
    refine iwp_reg (ils_cons rfl (iop_fieldAddr_ref rfl rfl (by decide) Try.underlying27 rfl ti22 (by decide) (sv (d := .ref _ _) rfl) (off' := 3) rfl) <|
      ils_cons rfl (iop_load_rs (d := .slice _ _) rfl rfl (by decide) Try.underlying22 ag22 ti22 (by decide) (sv (d := .ref _ _) rfl) rfl (nle rfl) rfl) <|
      ils_cons rfl (iop_lenT (eInt .i64) (l := a0.Live) rfl rfl (by decide) Try.underlying22 (sv (d := .slice _ _) rfl)) <|
      ils_cons rfl (iop_move rfl rfl (by decide) (sv (d := .int _ 0) rfl)) <|
      ils_end ?_)
    refine iwp_block ?_
    refine iwp_loopP (α := Nat × (List Int) × Int) (fun z => ⟨[(4, .ref 2 0), (7, .ref 5 0), (8, .fn 44 [.ref 1 0, .ref 0 0]), (9, .osl 27 (eInt .i64).sz z.2.1.length), (38, .slice false (a0.Live.map (eInt .i64).d)), (39, .int .i64 (a0.Live.length : Int)), (40, .int .i64 z.2.2)], [(2, .blk 27 [.bool false, .int .i64 0, .int .i64 0, .slice false (([] : List Int).map (eInt .i64).d), .slice false (([] : List Int).map (eInt .i64).d), .int .i64 0, .int .i64 0, .int .i64 0, .int .i64 0]), (5, .blk 27 [.bool x1.1, .int .i64 x1.2.1, .int .i64 x1.2.2.1, .osl 3 (eInt .i64).sz x1.2.2.2.1.length, .osl 4 (eInt .i64).sz x1.2.2.2.2.1.length, .int .i64 x1.2.2.2.2.2.1, .int .i64 x1.2.2.2.2.2.2.1, .int .i64 a1, .int .i64 x1.2.2.2.2.2.2.2.2]), (1, .blk 3 [.int .i64 a1]), (0, .blk 27 [.bool a0.Odd, .int .i64 a0.Next, .int .i64 a0.Last, .slice false (a0.Live.map (eInt .i64).d), .slice false (a0.Cut.map (eInt .i64).d), .int .i64 a0.Mine, .int .i64 a0.Hers, .int .i64 a0.Heard, .int .i64 a0.Told]), (27, .blk 3 (D.flat (z.2.1.map (eInt .i64).d))), (3, .blk 3 (D.flat (x1.2.2.2.1.map (eInt .i64).d))), (4, .blk 3 (D.flat (x1.2.2.2.2.1.map (eInt .i64).d)))]⟩) (fun z => stid_Away_L0 a0 a1 x1 z.1 z.2.1 z.2.2 = some r) (fun z => z.1) (fuel, ([] : (List Int)), 0) (fun i => if i = 27 then 83 else i) ⟨(.cons (.same rfl rfl) (.cons (.same rfl rfl) (.cons (.same rfl rfl) (.cons (.nilo rfl) (.cons (.same rfl rfl) (.cons (.same rfl rfl) (.cons (.same rfl rfl) .nil))))))), (.cons (.blk rfl rfl rfl) (.cons (.blk rfl rfl rfl) (.cons (.blk rfl rfl rfl) (.cons (.blk rfl rfl rfl) (.cons (.nilb rfl) (.cons (EntW.lst rfl) (.cons (EntW.lst rfl) .nil))))))), nd_of [2, 5, 1, 0, 83, 3, 4] rfl (by decide), (fun i hi => by first | rfl | (show (if _ then _ else _) = _; (repeat' split) <;> omega))⟩ ?_ ?_
    · exact h
    ·
      rintro ⟨n0, v19, v20⟩ h
      cases n0 with
      | zero => exact absurd h (by unfold stid_Away_L0; exact nofun)
      | succ n0 =>
        unfold stid_Away_L0 at h
        obtain ⟨x29, hx29, h⟩ := bnd_e h
        refine iwp_reg (ils_cons rfl (iop_cmpx rfl rfl (by decide) (sv (d := .int _ _) rfl) (sv (d := .int _ _) rfl) rfl hx29) <|
          ils_end ?_)
        refine iwp_seq ?_
        refine iwp_cond (b := _) rfl (fun hc30 => ?_) (fun hc30 => ?_)
        ·
          replace h := bif_t h hc30
          refine iwp_skip ?_
          refine thenQ_n ?_
          refine iwp_seq ?_
          refine iwp_block ?_
          obtain ⟨x31, hx31, h⟩ := bno_e h
          refine iwp_reg (ils_cons rfl (iop_idxT (eInt .i64) (cs := [.int _ _]) rfl rfl (by decide) Try.underlying22 ti3 (sv (d := .slice _ _) rfl) (sv (d := .int _ _) rfl) hx31 rfl rfl) <|
            ils_cons rfl (iop_load_fs rfl rfl (by decide) Try.underlying3 ag3 ti3 (by decide) (sv (d := .fptr [.int _ _]) rfl) (nle rfl)) <|
            ils_cons rfl (iop_assign rfl rfl (by decide) (sv (d := .int _ _) rfl)) <|
            ils_end ?_)
          obtain ⟨x32, hx32, h⟩ := bno_e h
          refine iwp_reg (ils_cons rfl (iop_move rfl rfl (by decide) (sv (d := .fn 44 [.ref _ _, .ref _ _]) rfl)) <|
            ils_cons rfl (iop_move rfl rfl (by decide) (sv (d := .int _ _) rfl)) <|
            ils_cons rfl (iop_callvp (r := .bool x32) rfl rfl (by decide) cl44 (sv (d := .fn 44 [.ref _ _, .ref _ _]) rfl) (.cons (sv (d := .int _ _) rfl) .nil) (.cons (.refl _) (.cons (.ref rfl rfl (fdl_refl _) rfl) (.cons (.ref rfl rfl (fdl_refl _) rfl) .nil))) rfl rfl (p_stid_Away_1 _ _ _ _ hx32)) <|
            ils_end ?_)
          refine iwp_cond (b := _) rfl (fun hc33 => ?_) (fun hc33 => ?_)
          ·
            replace h := bif_t h hc33
            obtain ⟨x34, hx34, h⟩ := bno_e h
            refine iwp_region (ils_cons rfl (iop_move rfl rfl (by decide) (sv (d := .osl _ _ _) rfl)) <|
              ils_cons rfl (iop_move rfl rfl (by decide) (sv (d := .int _ _) rfl)) <|
              ils_cons rfl (iop_bsO (eInt .i64).toEnc0 ([x31] : (List Int)) 28 rfl rfl (by decide) Try.underlying22 ti3 rfl (.cons (sv (d := .int _ _) rfl) .nil) rfl rfl (by decide)) <|
              ils_cons rfl (iop_appO (eInt .i64).toEnc0 29 rfl rfl (by decide) Try.underlying22 ti3 rfl rfl rfl rfl rfl (src_O (eInt .i64).toEnc0 rfl rfl rfl) hx34) <|
              ils_cons rfl (iop_assign rfl rfl (by decide) (sv (d := .osl _ _ _) rfl)) <|
              ils_nil ?_)
            refine blockQ_n ?_
            refine thenQ_n ?_
            obtain ⟨x35, hx35, h⟩ := bnd_e h
            refine iwp_region (ils_cons rfl (iop_intx rfl rfl (by decide) (sv (d := .int _ _) rfl) (sv (d := .int _ 1) rfl) rfl hx35) <|
              ils_cons rfl (iop_move rfl rfl (by decide) (sv (d := .int _ _) rfl)) <|
              ils_nil ?_)
            refine thenQ_n ⟨(n0, x34, x35), (fun i => if i = 27 then 29 else i), ⟨(.cons (.same rfl rfl) (.cons (.same rfl rfl) (.cons (.same rfl rfl) (.cons (.same rfl rfl) (.cons (.same rfl rfl) (.cons (.same rfl rfl) (.cons (.same rfl rfl) .nil))))))), (.cons (.blk rfl rfl rfl) (.cons (.blk rfl rfl rfl) (.cons (.blk rfl rfl rfl) (.cons (.blk rfl rfl rfl) (.cons (EntW.lst rfl) (.cons (EntW.lst rfl) (.cons (EntW.lst rfl) .nil))))))), nd_of [2, 5, 1, 0, 29, 3, 4] rfl (by decide), (fun i hi => by first | rfl | (show (if _ then _ else _) = _; (repeat' split) <;> omega))⟩, ?_, ?_⟩
            exact h
            exact Nat.lt_succ_self _
          ·
            replace h := bif_f h hc33
            refine iwp_skip ?_
            refine blockQ_n ?_
            refine thenQ_n ?_
            obtain ⟨x36, hx36, h⟩ := bnd_e h
            refine iwp_region (ils_cons rfl (iop_intx rfl rfl (by decide) (sv (d := .int _ _) rfl) (sv (d := .int _ 1) rfl) rfl hx36) <|
              ils_cons rfl (iop_move rfl rfl (by decide) (sv (d := .int _ _) rfl)) <|
              ils_nil ?_)
            refine thenQ_n ⟨(n0, v19, x36), (fun i => i), ⟨(.cons (.same rfl rfl) (.cons (.same rfl rfl) (.cons (.same rfl rfl) (.cons (.same rfl rfl) (.cons (.same rfl rfl) (.cons (.same rfl rfl) (.cons (.same rfl rfl) .nil))))))), (.cons (.blk rfl rfl rfl) (.cons (.blk rfl rfl rfl) (.cons (.blk rfl rfl rfl) (.cons (.blk rfl rfl rfl) (.cons (EntW.lst rfl) (.cons (EntW.lst rfl) (.cons (EntW.lst rfl) .nil))))))), nd_of [2, 5, 1, 0, 27, 3, 4] rfl (by decide), (fun i hi => by first | rfl | (show (if _ then _ else _) = _; (repeat' split) <;> omega))⟩, ?_, ?_⟩
            exact h
            exact Nat.lt_succ_self _
        ·
          replace h := bif_f h hc30
          refine iwp_exit ?_
          refine thenQ_e ?_
          refine thenQ_e ?_
          refine blockQ_e ?_
          refine thenQ_n ?_
          obtain ⟨x37, hx37, h⟩ := bno_e h
          refine iwp_reg (ils_cons rfl (iop_fieldAddr_ref rfl rfl (by decide) Try.underlying27 rfl ti22 (by decide) (sv (d := .ref _ _) rfl) (off' := 3) rfl) <|
            ils_cons rfl (iop_load_rs (d := .osl _ _ _) rfl rfl (by decide) Try.underlying22 ag22 ti22 (by decide) (sv (d := .ref _ _) rfl) rfl (nle rfl) rfl) <|
            ils_cons rfl (iop_move rfl rfl (by decide) (sv (d := .fn 44 [.ref _ _, .ref _ _]) rfl)) <|
            ils_cons rfl (iop_callh2 (r' := .osl 28 (eInt .i64).sz x37.length) (H1' := [(1, .blk 3 [.int .i64 a1]), (0, .blk 27 [.bool a0.Odd, .int .i64 a0.Next, .int .i64 a0.Last, .slice false (a0.Live.map (eInt .i64).d), .slice false (a0.Cut.map (eInt .i64).d), .int .i64 a0.Mine, .int .i64 a0.Hers, .int .i64 a0.Heard, .int .i64 a0.Told]), (28, .blk 3 (D.flat (x37.map (eInt .i64).d)))]) 28 [3, 1, 0] rfl rfl (by decide) cl45 (.cons (sv (d := .osl _ _ _) rfl) (.cons (sv (d := .fn 44 [.ref _ _, .ref _ _]) rfl) .nil)) rfl rfl ⟨rfl, rfl, by decide, rfl, List.forall_mem_cons.2 ⟨⟨rfl, rfl, (handL (eInt .i64) rfl), (handLr (eInt .i64))⟩, List.forall_mem_cons.2 ⟨⟨rfl, rfl, rfl, rfl⟩, List.forall_mem_cons.2 ⟨⟨rfl, rfl, rfl, rfl⟩, List.forall_mem_nil _⟩⟩⟩⟩ (p_slices_DeleteFunc_int_int_h_Away_1 _ _ _ _ hx37) rfl rfl (List.forall_mem_cons.2 ⟨⟨rfl, rfl⟩, List.forall_mem_cons.2 ⟨⟨rfl, rfl⟩, List.forall_mem_cons.2 ⟨⟨rfl, (handLr (eInt .i64))⟩, List.forall_mem_nil _⟩⟩⟩) (by simp only [List.map_cons, List.map_nil, Ent.ren, renL_flat, renL_ref]; rfl)) <|
            ils_cons rfl (iop_fieldAddr_ref rfl rfl (by decide) Try.underlying27 rfl ti22 (by decide) (sv (d := .ref _ _) rfl) (off' := 3) rfl) <|
            ils_cons rfl (iop_store (ds' := [.bool _, .int _ _, .int _ _, .osl _ _ _, .osl _ _ _, .int _ _, .int _ _, .int _ _, .int _ _]) rfl rfl ti22 (sv (d := .ref _ _) rfl) rfl (sv (d := .osl _ _ _) rfl) rfl rfl rfl (nle rfl) rfl) <|
            ils_end ?_)
          refine iwp_reg (ils_cons rfl (iop_load_ra (cs := [.bool _, .int _ _, .int _ _, .osl _ _ _, .osl _ _ _, .int _ _, .int _ _, .int _ _, .int _ _]) rfl rfl (by decide) Try.underlying27 ag27 ti27 (by decide) (sv (d := .ref _ _) rfl) rfl (nle rfl) rfl) <|
            ils_cons rfl (iop_move rfl rfl (by decide) (sv (d := .osl _ _ _) rfl)) <|
            ils_cons rfl (iop_store (ds' := [.bool _, .int _ _, .int _ _, .osl _ _ _, .osl _ _ _, .int _ _, .int _ _, .int _ _, .int _ _]) rfl rfl ti27 (sv (d := .ref _ _) rfl) rfl (sv (d := .agg [.bool _, .int _ _, .int _ _, .osl _ _ _, .osl _ _ _, .int _ _, .int _ _, .int _ _, .int _ _]) rfl) rfl rfl rfl (nle rfl) rfl) <|
            ils_cons rfl (iop_assign rfl rfl (by decide) (sv (d := .osl _ _ _) rfl)) <|
            ils_cons rfl (iop_assign rfl rfl (by decide) (sv (d := .bool true) rfl)) <|
            ils_end ?_)
          refine iwp_ret ?_
          obtain rfl := Option.some.inj h
          refine ⟨.inr rfl, _, (.cons (resv_a rfl rfl Try.underlying27 ag27 ti27 (by decide) (nle rfl) rfl) (.cons (sv rfl) (.cons (sv rfl) .nil))), (.cons (.agg (.cons (.refl _) (.cons (.refl _) (.cons (.refl _) (.cons (FDT (eInt .i64) rfl rfl) (.cons (FDT (eInt .i64) rfl rfl) (.cons (.refl _) (.cons (.refl _) (.cons (.refl _) (.cons (.refl _) .nil)))))))))) (.cons (FDT (eInt .i64) rfl rfl) (.cons (.refl _) .nil)))⟩
end Go.Proofs.Ytalalambgppmpaa
