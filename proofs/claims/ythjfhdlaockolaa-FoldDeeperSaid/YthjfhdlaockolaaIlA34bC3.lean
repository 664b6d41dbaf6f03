/-
  A part of the proof: rules and plain facts. No condition.
-/
import Derived.Test.YthjfhdlaockolaaProg
import Derived.KernelRfl
import Derived.Test.YthjfhdlaockolaaIlSh
import Derived.Test.YthjfhdlaockolaaIlA34bC2
set_option linter.all false
set_option linter.unusedSimpArgs false
set_option linter.unusedVariables false
set_option maxRecDepth 8000
set_option maxHeartbeats 2000000
open Go Go.IL Go.Fn Go.Proofs
namespace Go.Proofs.Ythjfhdlaockolaa
theorem ti27 : TI Try.prog 27 (some (.agg #[.int .u8 0, .int .i64 0, .int .i64 0, .int .i64 0, .bool false])) 5 40 := by unfold TI; kernel_rfl
theorem ag27 : aggOf Try.prog 27 = true := by kernel_rfl
theorem ag34 : aggOf Try.prog 34 = false := by kernel_rfl
theorem pl32 : ∀ w, (Array.mapM (m := Sem) (fun (f : Field) => Functor.map (Prod.mk f.offset) (sizeOf f.type)) (fieldsOf Try.prog 32)).run Try.prog w = .ok #[(0, 1), (1, 1), (2, 1), (3, 1)] w := fun w => by kernel_rfl
theorem st56 : Try.prog.stoodInHeld 56 = false ∧ Try.prog.eqGuardType Try.prog.depth 56 = false := ⟨by kernel_rfl, by kernel_rfl⟩
theorem cl8 : Callable Try.prog 8 := ⟨Try.f8, Try.func8, rfl, rfl⟩
theorem cl16 : Callable Try.prog 16 := ⟨Try.f16, Try.func16, rfl, rfl⟩
theorem cl17 : Callable Try.prog 17 := ⟨Try.f17, Try.func17, rfl, rfl⟩
theorem cl19 : Callable Try.prog 19 := ⟨Try.f19, Try.func19, rfl, rfl⟩
theorem cl21 : Callable Try.prog 21 := ⟨Try.f21, Try.func21, rfl, rfl⟩
theorem cl22 : Callable Try.prog 22 := ⟨Try.f22, Try.func22, rfl, rfl⟩
theorem cl24 : Callable Try.prog 24 := ⟨Try.f24, Try.func24, rfl, rfl⟩
theorem cl26 : Callable Try.prog 26 := ⟨Try.f26, Try.func26, rfl, rfl⟩
theorem cl49 : Callable Try.prog 49 := ⟨Try.f49, Try.func49, rfl, rfl⟩
theorem cl50 : Callable Try.prog 50 := ⟨Try.f50, Try.func50, rfl, rfl⟩
theorem cl57 : Callable Try.prog 57 := ⟨Try.f57, Try.func57, rfl, rfl⟩



theorem p_fold_Below (a0 : T_fold_State) (a1 : Int) (r : (List Int)) (h : fold_Below a0 a1 = some r) : PureAt Try.prog 22 [.agg (v0 a0), .int .i64 a1] (.slice false (r.map (eInt .i64).d)) := by
 refine pure_of_iwpF (rs := [.slice false (r.map (eInt .i64).d)]) Try.func22 rfl Try.ntmps22 (nle rfl) rfl fun O hO => ?_
 show IWP _ _ _ _ ⟨[(0, .agg (v0 a0)), (1, .int .i64 a1)], []⟩ _
 unfold fold_Below at h
 refine iwp_reg (ils_cons rfl (iop_box' (cs := q4) 0 rfl rfl (lb rfl) rfl (svA q4 rfl) rfl rfl) <|
  ils_cons rfl (iop_assign rfl rfl (lb rfl) (sv (d := .nils) rfl)) <|
  ils_end ?_)
 refine iwp_seq ?_
 obtain ⟨x1, hx1, h⟩ := bno_e h
 obtain ⟨x2, hx2, h⟩ := bnd_e h
 obtain ⟨x3, hx3, h⟩ := bnd_e h
 obtain ⟨x4, hx4, h⟩ := bno_e h
 obtain ⟨x5, hx5, h⟩ := bnd_e h
 obtain ⟨x6, hx6, h⟩ := bnd_e h
 refine iwp_reg (ils_cons rfl (lra q4 la32 rfl rfl rfl rfl rfl (nle rfl) rfl) <|
  ils_cons rfl (iop_call (r := .int _ _) rfl rfl (lb rfl) cl14 (.cons (svA q4 rfl) .nil) rfl (p_fold_Check _ _ hx1)) <|
  ils_cons rfl (iop_cmpx rfl rfl (lb rfl) (svI rfl) (sv (d := .int _ 0) rfl) rfl hx2) <|
  ils_cons rfl (mvB rfl rfl rfl rfl) <|
  ils_guard rfl rfl (.one rfl) rfl (by decide) (fun hb => (mvI rfl rfl rfl rfl)) <|
  ils_guard rfl rfl (.one rfl) rfl (by decide) (fun hb => (iop_cmpx rfl rfl (lb rfl) (svcI rfl hb) (sv (d := .int _ 0) rfl) rfl hx3)) <|
  ils_guard rfl rfl (.one rfl) rfl (by decide) (fun hb => (iop_move rfl rfl (lb rfl) (svcB rfl hb))) <|
  ils_guard rfl rfl (.two rfl) rfl (by decide) (fun hb => (lra q4 la32 rfl rfl rfl rfl rfl (nle rfl) rfl)) <|
  ils_guard rfl rfl (.two rfl) rfl (by decide) (fun hb => (mvI rfl rfl rfl rfl)) <|
  ils_guard rfl rfl (.two rfl) rfl (by decide) (fun hb => (iop_call (r := .bool _) rfl rfl (lb rfl) cl51 (.cons (svcA (v0 a0) rfl hb) (.cons (svcI rfl hb) .nil)) rfl (p_fold_State_there _ _ _ (gd_t hx4 hb)))) <|
  ils_guard rfl rfl (.two rfl) rfl (by decide) (fun hb => (iop_not rfl rfl (lb rfl) (svcB rfl hb))) <|
  ils_guard rfl rfl (.one rfl) rfl (by decide) (fun hb => (iop_and2x rfl rfl (lb rfl) hb (svcB rfl hb) rfl rfl hx5)) <|
  ils_cons rfl (iop_orx rfl rfl (lb rfl) (svB rfl) rfl rfl hx6) <|
  ils_end ?_)
 refine iwp_cond (b := _) rfl (fun hc7 => ?_) (fun hc7 => ?_)
 ·
  replace h := bif_t h hc7
  refine iwp_reg (ils_cons rfl (iop_assign rfl rfl (lb rfl) (sv (d := .nils) rfl)) <|
   ils_end ?_)
  refine iwp_ret ?_
  refine thenQ_r ?_
  obtain rfl := Option.some.inj h
  refine ⟨.inr rfl, _, (.cons (sv rfl) .nil), (.cons (.nils _) .nil)⟩
 ·
  replace h := bif_f h hc7
  refine iwp_skip ?_
  refine thenQ_n ?_
  refine iwp_reg (ils_cons rfl (iop_allocS (cs := [.nils]) (cs' := [.nils]) 1 rfl rfl (lb rfl) rfl ti23 rfl rfl (.all _)) <|
   ils_end ?_)
  refine iwp_reg (ils_cons rfl (iop_allocS (cs := [.nilf]) (cs' := [.nilf]) 2 rfl rfl (lb rfl) rfl ti86 rfl rfl (.all _)) <|
   ils_end ?_)
  refine iwp_reg (ils_cons rfl (iop_makeFunc rfl rfl (lb rfl) (.cons (svR rfl) (.cons (svR rfl) (.cons (svR rfl) .nil)))) <|
   ils_cons rfl (iop_store (ds' := [.fn 56 q8]) rfl rfl ti86 (svR rfl) rfl (sv (d := .fn 56 q8) rfl) rfl rfl rfl (nle rfl) rfl) <|
   ils_end ?_)
  obtain ⟨x8, hx8, h⟩ := bno_e h
  refine iwp_reg (ils_cons rfl (iop_load_rs (d := .fn 56 q8) rfl rfl (lb rfl) Try.underlying86 ag86 ti86 (by decide) (svR rfl) rfl (nle rfl) rfl) <|
   ils_cons rfl (mvI rfl rfl rfl rfl) <|
   ils_cons rfl (iop_callvh2 (r' := .tuple []) (H1' := [(0, .blk 32 (v0 a0)), (1, .blk 23 [.osl 3 (eInt .i64).sz x8.length]), (2, .blk 86 [.fn 56 [.ref 0 0, .ref 1 0, .ref 2 0]]), (3, .blk 3 (D.flat (x8.map (eInt .i64).d)))]) 3 [0, 1, 2] rfl rfl (lb rfl) cl56 (sv (d := .fn 56 q8) rfl) (.cons (svI rfl) .nil) rfl rfl ⟨rfl, rfl, by decide, rfl, List.forall_mem_cons.2 ⟨⟨rfl, rfl, rfl, rfl⟩, List.forall_mem_cons.2 ⟨⟨rfl, rfl, rfl, rfl⟩, List.forall_mem_cons.2 ⟨⟨rfl, rfl, rfl, rfl⟩, List.forall_mem_nil _⟩⟩⟩⟩ (p_fold_Below_1_h _ _ _ hx8) rfl rfl (List.forall_mem_cons.2 ⟨⟨rfl, rfl⟩, List.forall_mem_cons.2 ⟨⟨rfl, rfl⟩, List.forall_mem_cons.2 ⟨⟨rfl, rfl⟩, List.forall_mem_cons.2 ⟨⟨rfl, (handLr (eInt .i64))⟩, List.forall_mem_nil _⟩⟩⟩⟩) (by simp only [List.map_cons, List.map_nil, Ent.ren, renL_flat, renL_ref]; rfl)) <|
   ils_end ?_)
  obtain ⟨x9, hx9, h⟩ := bno_e h
  obtain ⟨hk10, h⟩ := chk_e h
  refine iwp_reg (ils_cons rfl (iop_load_rs (d := .osl _ _ _) rfl rfl (lb rfl) Try.underlying23 ag23 ti23 (by decide) (svR rfl) rfl (nle rfl) rfl) <|
   ils_cons rfl (iop_callh2 (r' := .tuple []) (H1' := [(3, .blk 3 (D.flat (x9.map (eInt .i64).d)))]) 4 [3] rfl rfl (lb rfl) cl57 (.cons (sv (d := .osl _ _ _) rfl) .nil) rfl rfl ⟨rfl, rfl, by decide, rfl, List.forall_mem_cons.2 ⟨⟨rfl, rfl, (handL (eInt .i64) rfl), (handLr (eInt .i64))⟩, List.forall_mem_nil _⟩⟩ (p_slices_Sort_int_int_h _ _ hx9) rfl rfl (List.forall_mem_cons.2 ⟨⟨rfl, (handLr (eInt .i64))⟩, List.forall_mem_nil _⟩) (by simp only [List.map_cons, List.map_nil, Ent.ren, renL_flat, renL_ref]; rfl)) <|
   ils_end ?_)
  refine iwp_reg (ils_cons rfl (iop_load_rs (d := .osl _ _ _) rfl rfl (lb rfl) Try.underlying23 ag23 ti23 (by decide) (svR rfl) rfl (nle rfl) rfl) <|
   ils_cons rfl (iop_assign rfl rfl (lb rfl) (sv (d := .osl _ _ _) rfl)) <|
   ils_end ?_)
  refine iwp_ret ?_
  obtain rfl := Option.some.inj h
  refine ⟨.inr rfl, _, (.cons (sv rfl) .nil), (.cons (FDT (eInt .i64) rfl hk10) .nil)⟩

theorem p_sennitref02_SameInts (a0 : (List Int)) (a1 : (List Int)) (r : Bool) (h : sennitref02_SameInts a0 a1 = some r) : PureAt Try.prog 21 [.slice false (a0.map (eInt .i64).d), .slice false (a1.map (eInt .i64).d)] (.bool r) := by
 refine pure_of_iwp (rs := [.bool r]) Try.func21 rfl Try.ntmps21 (nle rfl) rfl fun O hO => ?_
 show IWP _ _ _ _ ⟨[(0, .slice false (a0.map (eInt .i64).d)), (1, .slice false (a1.map (eInt .i64).d))], []⟩ _
 unfold sennitref02_SameInts at h
 refine iwp_reg (ils_cons rfl (iop_assign rfl rfl (lb rfl) (sv (d := .bool false) rfl)) <|
  ils_end ?_)
 refine iwp_seq ?_
 obtain ⟨x1, hx1, h⟩ := bnd_e h
 refine iwp_reg (ils_cons rfl (mvL rfl rfl rfl rfl) <|
  ils_cons rfl (iop_lenT (eInt .i64) (l := a0) rfl rfl (lb rfl) Try.underlying23 (svL rfl)) <|
  ils_cons rfl (mvL rfl rfl rfl rfl) <|
  ils_cons rfl (iop_lenT (eInt .i64) (l := a1) rfl rfl (lb rfl) Try.underlying23 (svL rfl)) <|
  ils_cons rfl (iop_cmpx rfl rfl (lb rfl) (svI rfl) (svI rfl) rfl hx1) <|
  ils_end ?_)
 refine iwp_cond (b := _) rfl (fun hc2 => ?_) (fun hc2 => ?_)
 ·
  replace h := bif_t h hc2
  refine iwp_reg (ils_cons rfl (iop_assign rfl rfl (lb rfl) (sv (d := .bool false) rfl)) <|
   ils_end ?_)
  refine iwp_ret ?_
  refine thenQ_r ?_
  obtain rfl := Option.some.inj h
  refine ⟨.inr rfl, (.cons (sv rfl) .nil)⟩
 ·
  replace h := bif_f h hc2
  refine iwp_skip ?_
  refine thenQ_n ?_
  refine iwp_seq ?_
  refine iwp_reg (ils_cons rfl (iop_assign rfl rfl (lb rfl) (sv (d := .int _ 0) rfl)) <|
   ils_end ?_)
  refine iwp_block ?_
  refine iwp_loopP (α := Nat × Int) (fun z => ⟨[(0, .slice false (a0.map (eInt .i64).d)), (1, .slice false (a1.map (eInt .i64).d)), (5, .int .i64 z.2)], []⟩) (fun z => sennitref02_SameInts_L0 a0 a1 z.1 z.2 = some r) (fun z => z.1) (fuel, 0) (fun i => i) ⟨(.sames rfl rfl), .nil, nd_of [] rfl (by decide), fun _ _ => rfl⟩ ?_ ?_
  ·exact h
  ·
   rintro ⟨n0, v10⟩ h
   cases n0 with
   | zero => exact absurd h (by unfold sennitref02_SameInts_L0; exact nofun)
   | succ n0 =>
    unfold sennitref02_SameInts_L0 at h
    refine iwp_seq ?_
    obtain ⟨x18, hx18, h⟩ := bnd_e h
    refine iwp_reg (ils_cons rfl (mvI rfl rfl rfl rfl) <|
     ils_cons rfl (mvL rfl rfl rfl rfl) <|
     ils_cons rfl (iop_lenT (eInt .i64) (l := a0) rfl rfl (lb rfl) Try.underlying23 (svL rfl)) <|
     ils_cons rfl (iop_cmpx rfl rfl (lb rfl) (svI rfl) (svI rfl) rfl hx18) <|
     ils_end ?_)
    refine iwp_cond (b := _) rfl (fun hc19 => ?_) (fun hc19 => ?_)
    ·
     replace h := bif_t h hc19
     refine iwp_skip ?_
     refine thenQ_n ?_
     refine iwp_seq ?_
     refine iwp_block ?_
     obtain ⟨x20, hx20, h⟩ := bno_e h
     obtain ⟨x21, hx21, h⟩ := bno_e h
     obtain ⟨x22, hx22, h⟩ := bnd_e h
     refine iwp_drw rfl [⟨[0], [], [(17, .slice false (a0.map (eInt .i64).d))], []⟩,
      ⟨[5], [], [(18, .int .i64 v10)], []⟩,
      ⟨[17, 18], [], [(19, .fptr [.int .i64 x20])], []⟩,
      ⟨[19], [], [(20, .int .i64 x20)], []⟩,
      ⟨[1], [], [(21, .slice false (a1.map (eInt .i64).d))], []⟩,
      ⟨[5], [], [(22, .int .i64 v10)], []⟩,
      ⟨[21, 22], [], [(23, .fptr [.int .i64 x21])], []⟩,
      ⟨[23], [], [(24, .int .i64 x21)], []⟩,
      ⟨[20, 24], [], [(25, .bool x22)], []⟩] rfl ?_ (by kernel_rfl) ?_
     ·refine .cons (lop rfl rfl fun S hA => (iop_move rfl rfl (lb rfl) (svaL hA rfl rfl))) ?_
      refine .cons (lop rfl rfl fun S hA => (iop_move rfl rfl (lb rfl) (svaI hA rfl rfl))) ?_
      refine .cons (lop rfl rfl fun S hA => (iop_idxT (eInt .i64) (cs := [.int _ _]) rfl rfl (lb rfl) Try.underlying23 ti3 (svaL hA rfl rfl) (svaI hA rfl rfl) hx20 rfl rfl)) ?_
      refine .cons (lop rfl rfl fun S hA => (iop_load_fs rfl rfl (lb rfl) Try.underlying3 ag3 ti3 (by decide) (sv (d := .fptr [.int _ _]) (agr hA rfl rfl)) (nle rfl))) ?_
      refine .cons (lop rfl rfl fun S hA => (iop_move rfl rfl (lb rfl) (svaL hA rfl rfl))) ?_
      refine .cons (lop rfl rfl fun S hA => (iop_move rfl rfl (lb rfl) (svaI hA rfl rfl))) ?_
      refine .cons (lop rfl rfl fun S hA => (iop_idxT (eInt .i64) (cs := [.int _ _]) rfl rfl (lb rfl) Try.underlying23 ti3 (svaL hA rfl rfl) (svaI hA rfl rfl) hx21 rfl rfl)) ?_
      refine .cons (lop rfl rfl fun S hA => (iop_load_fs rfl rfl (lb rfl) Try.underlying3 ag3 ti3 (by decide) (sv (d := .fptr [.int _ _]) (agr hA rfl rfl)) (nle rfl))) ?_
      refine .cons (lop rfl rfl fun S hA => (iop_cmpx rfl rfl (lb rfl) (svaI hA rfl rfl) (svaI hA rfl rfl) rfl hx22)) ?_
      exact .nil
     refine iwp_cond (b := _) rfl (fun hc23 => ?_) (fun hc23 => ?_)
     ·
      replace h := bif_t h hc23
      refine iwp_reg (ils_cons rfl (iop_assign rfl rfl (lb rfl) (sv (d := .bool false) rfl)) <|
       ils_end ?_)
      refine iwp_ret ?_
      refine blockQ_r ?_
      refine thenQ_r ?_
      refine thenQ_r ?_
      refine blockQ_r ?_
      refine thenQ_r ?_
      obtain rfl := Option.some.inj h
      refine ⟨.inr rfl, (.cons (sv rfl) .nil)⟩
     ·
      replace h := bif_f h hc23
      refine iwp_skip ?_
      refine blockQ_n ?_
      refine thenQ_n ?_
      obtain ⟨x24, hx24, h⟩ := bnd_e h
      refine iwp_region (ils_cons rfl (mvI rfl rfl rfl rfl) <|
       ils_cons rfl (iop_intx rfl rfl (lb rfl) (svI rfl) (sv (d := .int _ 1) rfl) rfl hx24) <|
       ils_cons rfl (asI rfl rfl rfl rfl) <|
       ils_nil ?_)
      refine thenQ_n ⟨(n0, x24), (fun i => i), ⟨(.sames rfl rfl), .nil, nd_of [] rfl (by decide), fun _ _ => rfl⟩, ?_, ?_⟩
      exact h
      exact Nat.lt_succ_self _
    ·
     replace h := bif_f h hc19
     refine iwp_exit ?_
     refine thenQ_e ?_
     refine thenQ_e ?_
     refine blockQ_e ?_
     refine thenQ_n ?_
     refine iwp_reg (ils_cons rfl (iop_assign rfl rfl (lb rfl) (sv (d := .bool true) rfl)) <|
      ils_end ?_)
     refine iwp_ret ?_
     obtain rfl := Option.some.inj h
     refine ⟨.inr rfl, (.cons (sv rfl) .nil)⟩

theorem p_fold_Sum (a0 : T_fold_State) (a1 : Int) (r : Int) (h : fold_Sum a0 a1 = some r) : PureAt Try.prog 24 [.agg (v0 a0), .int .i64 a1] (.int .i64 r) := by
 refine pure_of_iwp (rs := [.int .i64 r]) Try.func24 rfl Try.ntmps24 (nle rfl) rfl fun O hO => ?_
 show IWP _ _ _ _ ⟨[(0, .agg (v0 a0)), (1, .int .i64 a1)], []⟩ _
 unfold fold_Sum at h
 refine iwp_reg (ils_cons rfl (iop_box' (cs := q4) 0 rfl rfl (lb rfl) rfl (svA q4 rfl) rfl rfl) <|
  ils_cons rfl (iop_assign rfl rfl (lb rfl) (sv (d := .int _ 0) rfl)) <|
  ils_end ?_)
 refine iwp_seq ?_
 obtain ⟨x1, hx1, h⟩ := bno_e h
 obtain ⟨x2, hx2, h⟩ := bnd_e h
 obtain ⟨x3, hx3, h⟩ := bnd_e h
 obtain ⟨x4, hx4, h⟩ := bno_e h
 obtain ⟨x5, hx5, h⟩ := bnd_e h
 obtain ⟨x6, hx6, h⟩ := bnd_e h
 refine iwp_reg (ils_cons rfl (lra q4 la32 rfl rfl rfl rfl rfl (nle rfl) rfl) <|
  ils_cons rfl (iop_call (r := .int _ _) rfl rfl (lb rfl) cl14 (.cons (svA q4 rfl) .nil) rfl (p_fold_Check _ _ hx1)) <|
  ils_cons rfl (iop_cmpx rfl rfl (lb rfl) (svI rfl) (sv (d := .int _ 0) rfl) rfl hx2) <|
  ils_cons rfl (mvB rfl rfl rfl rfl) <|
  ils_guard rfl rfl (.one rfl) rfl (by decide) (fun hb => (mvI rfl rfl rfl rfl)) <|
  ils_guard rfl rfl (.one rfl) rfl (by decide) (fun hb => (iop_cmpx rfl rfl (lb rfl) (svcI rfl hb) (sv (d := .int _ 0) rfl) rfl hx3)) <|
  ils_guard rfl rfl (.one rfl) rfl (by decide) (fun hb => (iop_move rfl rfl (lb rfl) (svcB rfl hb))) <|
  ils_guard rfl rfl (.two rfl) rfl (by decide) (fun hb => (lra q4 la32 rfl rfl rfl rfl rfl (nle rfl) rfl)) <|
  ils_guard rfl rfl (.two rfl) rfl (by decide) (fun hb => (mvI rfl rfl rfl rfl)) <|
  ils_guard rfl rfl (.two rfl) rfl (by decide) (fun hb => (iop_call (r := .bool _) rfl rfl (lb rfl) cl51 (.cons (svcA (v0 a0) rfl hb) (.cons (svcI rfl hb) .nil)) rfl (p_fold_State_there _ _ _ (gd_t hx4 hb)))) <|
  ils_guard rfl rfl (.two rfl) rfl (by decide) (fun hb => (iop_not rfl rfl (lb rfl) (svcB rfl hb))) <|
  ils_guard rfl rfl (.one rfl) rfl (by decide) (fun hb => (iop_and2x rfl rfl (lb rfl) hb (svcB rfl hb) rfl rfl hx5)) <|
  ils_cons rfl (iop_orx rfl rfl (lb rfl) (svB rfl) rfl rfl hx6) <|
  ils_end ?_)
 refine iwp_cond (b := _) rfl (fun hc7 => ?_) (fun hc7 => ?_)
 ·
  replace h := bif_t h hc7
  refine iwp_reg (ils_cons rfl (iop_assign rfl rfl (lb rfl) (sv (d := .int _ 0) rfl)) <|
   ils_end ?_)
  refine iwp_ret ?_
  refine thenQ_r ?_
  obtain rfl := Option.some.inj h
  refine ⟨.inr rfl, (.cons (sv rfl) .nil)⟩
 ·
  replace h := bif_f h hc7
  refine iwp_skip ?_
  refine thenQ_n ?_
  obtain ⟨x8, hx8, h⟩ := bno_e h
  refine iwp_reg (ils_cons rfl (lra q4 la32 rfl rfl rfl rfl rfl (nle rfl) rfl) <|
   ils_cons rfl (mvI rfl rfl rfl rfl) <|
   ils_cons rfl (iop_call (r := .int _ _) rfl rfl (lb rfl) cl58 (.cons (svA q4 rfl) (.cons (svI rfl) .nil)) rfl (p_fold_State_sum _ _ _ hx8)) <|
   ils_cons rfl (asI rfl rfl rfl rfl) <|
   ils_end ?_)
  refine iwp_ret ?_
  obtain rfl := Option.some.inj h
  refine ⟨.inr rfl, (.cons (sv rfl) .nil)⟩

theorem p_slices_Equal_ptree_Node_ptree_Node (a0 : (List T_ptree_Node)) (a1 : (List T_ptree_Node)) (r : Bool) (h : slices_Equal_ptree_Node_ptree_Node a0 a1 = some r) : PureAt Try.prog 49 [.slice false (a0.map E_ptree_Node.d), .slice false (a1.map E_ptree_Node.d)] (.bool r) := by
 refine pure_of_iwp (rs := [.bool r]) Try.func49 rfl Try.ntmps49 (nle rfl) rfl fun O hO => ?_
 show IWP _ _ _ _ ⟨[(0, .slice false (a0.map E_ptree_Node.d)), (1, .slice false (a1.map E_ptree_Node.d))], []⟩ _
 unfold slices_Equal_ptree_Node_ptree_Node at h
 refine iwp_reg (ils_cons rfl (iop_assign rfl rfl (lb rfl) (sv (d := .bool false) rfl)) <|
  ils_end ?_)
 refine iwp_seq ?_
 obtain ⟨x1, hx1, h⟩ := bnd_e h
 refine iwp_reg (ils_cons rfl (mvL rfl rfl rfl rfl) <|
  ils_cons rfl (iop_lenT E_ptree_Node (l := a0) rfl rfl (lb rfl) Try.underlying30 (svL rfl)) <|
  ils_cons rfl (mvL rfl rfl rfl rfl) <|
  ils_cons rfl (iop_lenT E_ptree_Node (l := a1) rfl rfl (lb rfl) Try.underlying30 (svL rfl)) <|
  ils_cons rfl (iop_cmpx rfl rfl (lb rfl) (svI rfl) (svI rfl) rfl hx1) <|
  ils_end ?_)
 refine iwp_cond (b := _) rfl (fun hc2 => ?_) (fun hc2 => ?_)
 ·
  replace h := bif_t h hc2
  refine iwp_reg (ils_cons rfl (iop_assign rfl rfl (lb rfl) (sv (d := .bool false) rfl)) <|
   ils_end ?_)
  refine iwp_ret ?_
  refine thenQ_r ?_
  obtain rfl := Option.some.inj h
  refine ⟨.inr rfl, (.cons (sv rfl) .nil)⟩
 ·
  replace h := bif_f h hc2
  refine iwp_skip ?_
  refine thenQ_n ?_
  refine iwp_seq ?_
  refine iwp_reg (ils_cons rfl (mvL rfl rfl rfl rfl) <|
   ils_cons rfl (iop_lenT E_ptree_Node (l := a0) rfl rfl (lb rfl) Try.underlying30 (svL rfl)) <|
   ils_cons rfl (iop_move rfl rfl (lb rfl) (sv (d := .int _ 0) rfl)) <|
   ils_end ?_)
  refine iwp_block ?_
  refine iwp_loopP (α := Nat × Int) (fun z => ⟨[(0, .slice false (a0.map E_ptree_Node.d)), (1, .slice false (a1.map E_ptree_Node.d)), (12, .int .i64 (a0.length : Int)), (13, .int .i64 z.2)], []⟩) (fun z => slices_Equal_ptree_Node_ptree_Node_L0 a0 a1 z.1 z.2 = some r) (fun z => z.1) (fuel, 0) (fun i => i) ⟨(.sames rfl rfl), .nil, nd_of [] rfl (by decide), fun _ _ => rfl⟩ ?_ ?_
  ·exact h
  ·
   rintro ⟨n0, v10⟩ h
   cases n0 with
   | zero => exact absurd h (by unfold slices_Equal_ptree_Node_ptree_Node_L0; exact nofun)
   | succ n0 =>
    unfold slices_Equal_ptree_Node_ptree_Node_L0 at h
    obtain ⟨x18, hx18, h⟩ := bnd_e h
    refine iwp_reg (ils_cons rfl (iop_cmpx rfl rfl (lb rfl) (svI rfl) (svI rfl) rfl hx18) <|
     ils_end ?_)
    refine iwp_seq ?_
    refine iwp_cond (b := _) rfl (fun hc19 => ?_) (fun hc19 => ?_)
    ·
     replace h := bif_t h hc19
     refine iwp_skip ?_
     refine thenQ_n ?_
     refine iwp_seq ?_
     refine iwp_block ?_
     refine iwp_reg (ils_cons rfl (mvI rfl rfl rfl rfl) <|
      ils_cons rfl (asI rfl rfl rfl rfl) <|
      ils_end ?_)
     obtain ⟨x20, hx20, h⟩ := bno_e h
     obtain ⟨x21, hx21, h⟩ := bno_e h
     obtain ⟨x22, hx22, h⟩ := bnd_e h
     refine iwp_drw rfl [⟨[0], [], [(16, .slice false (a0.map E_ptree_Node.d))], []⟩,
      ⟨[5], [], [(17, .int .i64 v10)], []⟩,
      ⟨[16, 17], [], [(18, .fptr (v2 x20))], []⟩,
      ⟨[18], [], [(19, .agg (v2 x20))], []⟩,
      ⟨[1], [], [(20, .slice false (a1.map E_ptree_Node.d))], []⟩,
      ⟨[5], [], [(21, .int .i64 v10)], []⟩,
      ⟨[20, 21], [], [(22, .fptr (v2 x21))], []⟩,
      ⟨[22], [], [(23, .agg (v2 x21))], []⟩,
      ⟨[19, 23], [], [(24, .bool (!x22))], []⟩] rfl ?_ (by kernel_rfl) ?_
     ·refine .cons (lop rfl rfl fun S hA => (iop_move rfl rfl (lb rfl) (svaL hA rfl rfl))) ?_
      refine .cons (lop rfl rfl fun S hA => (iop_move rfl rfl (lb rfl) (svaI hA rfl rfl))) ?_
      refine .cons (lop rfl rfl fun S hA => (iop_idxT E_ptree_Node (cs := q6) rfl rfl (lb rfl) Try.underlying30 ti56 (svaL hA rfl rfl) (svaI hA rfl rfl) hx20 rfl rfl)) ?_
      refine .cons (lop rfl rfl fun S hA => (iop_load_fa (cs := q6) rfl rfl (lb rfl) Try.underlying56 ag56 ti56 (by decide) (sv (d := .fptr q6) (agr hA rfl rfl)) (nle rfl) rfl)) ?_
      refine .cons (lop rfl rfl fun S hA => (iop_move rfl rfl (lb rfl) (svaL hA rfl rfl))) ?_
      refine .cons (lop rfl rfl fun S hA => (iop_move rfl rfl (lb rfl) (svaI hA rfl rfl))) ?_
      refine .cons (lop rfl rfl fun S hA => (iop_idxT E_ptree_Node (cs := q6) rfl rfl (lb rfl) Try.underlying30 ti56 (svaL hA rfl rfl) (svaI hA rfl rfl) hx21 rfl rfl)) ?_
      refine .cons (lop rfl rfl fun S hA => (iop_load_fa (cs := q6) rfl rfl (lb rfl) Try.underlying56 ag56 ti56 (by decide) (sv (d := .fptr q6) (agr hA rfl rfl)) (nle rfl) rfl)) ?_
      refine .cons (lop rfl rfl fun S hA => (iop_nes rfl rfl (lb rfl) Try.underlying56 st56.1 st56.2 (svaA q6 hA rfl rfl) (svaA q6 hA rfl rfl) (congrArg some hx22))) ?_
      exact .nil
     refine iwp_cond (b := _) rfl (fun hc23 => ?_) (fun hc23 => ?_)
     ·
      replace h := bif_t h hc23
      refine iwp_reg (ils_cons rfl (iop_assign rfl rfl (lb rfl) (sv (d := .bool false) rfl)) <|
       ils_end ?_)
      refine iwp_ret ?_
      refine blockQ_r ?_
      refine thenQ_r ?_
      refine thenQ_r ?_
      refine blockQ_r ?_
      refine thenQ_r ?_
      obtain rfl := Option.some.inj h
      refine ⟨.inr rfl, (.cons (sv rfl) .nil)⟩
     ·
      replace h := bif_f h hc23
      refine iwp_skip ?_
      refine blockQ_n ?_
      refine thenQ_n ?_
      obtain ⟨x24, hx24, h⟩ := bnd_e h
      refine iwp_region (ils_cons rfl (iop_intx rfl rfl (lb rfl) (svI rfl) (sv (d := .int _ 1) rfl) rfl hx24) <|
       ils_cons rfl (mvI rfl rfl rfl rfl) <|
       ils_nil ?_)
      refine thenQ_n ⟨(n0, x24), (fun i => i), ⟨(.sames rfl rfl), .nil, nd_of [] rfl (by decide), fun _ _ => rfl⟩, ?_, ?_⟩
      exact h
      exact Nat.lt_succ_self _
    ·
     replace h := bif_f h hc19
     refine iwp_exit ?_
     refine thenQ_e ?_
     refine thenQ_e ?_
     refine blockQ_e ?_
     refine thenQ_n ?_
     refine iwp_reg (ils_cons rfl (iop_assign rfl rfl (lb rfl) (sv (d := .bool true) rfl)) <|
      ils_end ?_)
     refine iwp_ret ?_
     obtain rfl := Option.some.inj h
     refine ⟨.inr rfl, (.cons (sv rfl) .nil)⟩

theorem p_slices_Equal_int_int (a0 : (List Int)) (a1 : (List Int)) (r : Bool) (h : slices_Equal_int_int a0 a1 = some r) : PureAt Try.prog 50 [.slice false (a0.map (eInt .i64).d), .slice false (a1.map (eInt .i64).d)] (.bool r) := by
 refine pure_of_iwp (rs := [.bool r]) Try.func50 rfl Try.ntmps50 (nle rfl) rfl fun O hO => ?_
 show IWP _ _ _ _ ⟨[(0, .slice false (a0.map (eInt .i64).d)), (1, .slice false (a1.map (eInt .i64).d))], []⟩ _
 unfold slices_Equal_int_int at h
 refine iwp_reg (ils_cons rfl (iop_assign rfl rfl (lb rfl) (sv (d := .bool false) rfl)) <|
  ils_end ?_)
 refine iwp_seq ?_
 obtain ⟨x1, hx1, h⟩ := bnd_e h
 refine iwp_reg (ils_cons rfl (mvL rfl rfl rfl rfl) <|
  ils_cons rfl (iop_lenT (eInt .i64) (l := a0) rfl rfl (lb rfl) Try.underlying23 (svL rfl)) <|
  ils_cons rfl (mvL rfl rfl rfl rfl) <|
  ils_cons rfl (iop_lenT (eInt .i64) (l := a1) rfl rfl (lb rfl) Try.underlying23 (svL rfl)) <|
  ils_cons rfl (iop_cmpx rfl rfl (lb rfl) (svI rfl) (svI rfl) rfl hx1) <|
  ils_end ?_)
 refine iwp_cond (b := _) rfl (fun hc2 => ?_) (fun hc2 => ?_)
 ·
  replace h := bif_t h hc2
  refine iwp_reg (ils_cons rfl (iop_assign rfl rfl (lb rfl) (sv (d := .bool false) rfl)) <|
   ils_end ?_)
  refine iwp_ret ?_
  refine thenQ_r ?_
  obtain rfl := Option.some.inj h
  refine ⟨.inr rfl, (.cons (sv rfl) .nil)⟩
 ·
  replace h := bif_f h hc2
  refine iwp_skip ?_
  refine thenQ_n ?_
  refine iwp_seq ?_
  refine iwp_reg (ils_cons rfl (mvL rfl rfl rfl rfl) <|
   ils_cons rfl (iop_lenT (eInt .i64) (l := a0) rfl rfl (lb rfl) Try.underlying23 (svL rfl)) <|
   ils_cons rfl (iop_move rfl rfl (lb rfl) (sv (d := .int _ 0) rfl)) <|
   ils_end ?_)
  refine iwp_block ?_
  refine iwp_loopP (α := Nat × Int) (fun z => ⟨[(0, .slice false (a0.map (eInt .i64).d)), (1, .slice false (a1.map (eInt .i64).d)), (12, .int .i64 (a0.length : Int)), (13, .int .i64 z.2)], []⟩) (fun z => slices_Equal_int_int_L0 a0 a1 z.1 z.2 = some r) (fun z => z.1) (fuel, 0) (fun i => i) ⟨(.sames rfl rfl), .nil, nd_of [] rfl (by decide), fun _ _ => rfl⟩ ?_ ?_
  ·exact h
  ·
   rintro ⟨n0, v10⟩ h
   cases n0 with
   | zero => exact absurd h (by unfold slices_Equal_int_int_L0; exact nofun)
   | succ n0 =>
    unfold slices_Equal_int_int_L0 at h
    obtain ⟨x18, hx18, h⟩ := bnd_e h
    refine iwp_reg (ils_cons rfl (iop_cmpx rfl rfl (lb rfl) (svI rfl) (svI rfl) rfl hx18) <|
     ils_end ?_)
    refine iwp_seq ?_
    refine iwp_cond (b := _) rfl (fun hc19 => ?_) (fun hc19 => ?_)
    ·
     replace h := bif_t h hc19
     refine iwp_skip ?_
     refine thenQ_n ?_
     refine iwp_seq ?_
     refine iwp_block ?_
     refine iwp_reg (ils_cons rfl (mvI rfl rfl rfl rfl) <|
      ils_cons rfl (asI rfl rfl rfl rfl) <|
      ils_end ?_)
     obtain ⟨x20, hx20, h⟩ := bno_e h
     obtain ⟨x21, hx21, h⟩ := bno_e h
     obtain ⟨x22, hx22, h⟩ := bnd_e h
     refine iwp_drw rfl [⟨[0], [], [(16, .slice false (a0.map (eInt .i64).d))], []⟩,
      ⟨[5], [], [(17, .int .i64 v10)], []⟩,
      ⟨[16, 17], [], [(18, .fptr [.int .i64 x20])], []⟩,
      ⟨[18], [], [(19, .int .i64 x20)], []⟩,
      ⟨[1], [], [(20, .slice false (a1.map (eInt .i64).d))], []⟩,
      ⟨[5], [], [(21, .int .i64 v10)], []⟩,
      ⟨[20, 21], [], [(22, .fptr [.int .i64 x21])], []⟩,
      ⟨[22], [], [(23, .int .i64 x21)], []⟩,
      ⟨[19, 23], [], [(24, .bool x22)], []⟩] rfl ?_ (by kernel_rfl) ?_
     ·refine .cons (lop rfl rfl fun S hA => (iop_move rfl rfl (lb rfl) (svaL hA rfl rfl))) ?_
      refine .cons (lop rfl rfl fun S hA => (iop_move rfl rfl (lb rfl) (svaI hA rfl rfl))) ?_
      refine .cons (lop rfl rfl fun S hA => (iop_idxT (eInt .i64) (cs := [.int _ _]) rfl rfl (lb rfl) Try.underlying23 ti3 (svaL hA rfl rfl) (svaI hA rfl rfl) hx20 rfl rfl)) ?_
      refine .cons (lop rfl rfl fun S hA => (iop_load_fs rfl rfl (lb rfl) Try.underlying3 ag3 ti3 (by decide) (sv (d := .fptr [.int _ _]) (agr hA rfl rfl)) (nle rfl))) ?_
      refine .cons (lop rfl rfl fun S hA => (iop_move rfl rfl (lb rfl) (svaL hA rfl rfl))) ?_
      refine .cons (lop rfl rfl fun S hA => (iop_move rfl rfl (lb rfl) (svaI hA rfl rfl))) ?_
      refine .cons (lop rfl rfl fun S hA => (iop_idxT (eInt .i64) (cs := [.int _ _]) rfl rfl (lb rfl) Try.underlying23 ti3 (svaL hA rfl rfl) (svaI hA rfl rfl) hx21 rfl rfl)) ?_
      refine .cons (lop rfl rfl fun S hA => (iop_load_fs rfl rfl (lb rfl) Try.underlying3 ag3 ti3 (by decide) (sv (d := .fptr [.int _ _]) (agr hA rfl rfl)) (nle rfl))) ?_
      refine .cons (lop rfl rfl fun S hA => (iop_cmpx rfl rfl (lb rfl) (svaI hA rfl rfl) (svaI hA rfl rfl) rfl hx22)) ?_
      exact .nil
     refine iwp_cond (b := _) rfl (fun hc23 => ?_) (fun hc23 => ?_)
     ·
      replace h := bif_t h hc23
      refine iwp_reg (ils_cons rfl (iop_assign rfl rfl (lb rfl) (sv (d := .bool false) rfl)) <|
       ils_end ?_)
      refine iwp_ret ?_
      refine blockQ_r ?_
      refine thenQ_r ?_
      refine thenQ_r ?_
      refine blockQ_r ?_
      refine thenQ_r ?_
      obtain rfl := Option.some.inj h
      refine ⟨.inr rfl, (.cons (sv rfl) .nil)⟩
     ·
      replace h := bif_f h hc23
      refine iwp_skip ?_
      refine blockQ_n ?_
      refine thenQ_n ?_
      obtain ⟨x24, hx24, h⟩ := bnd_e h
      refine iwp_region (ils_cons rfl (iop_intx rfl rfl (lb rfl) (svI rfl) (sv (d := .int _ 1) rfl) rfl hx24) <|
       ils_cons rfl (mvI rfl rfl rfl rfl) <|
       ils_nil ?_)
      refine thenQ_n ⟨(n0, x24), (fun i => i), ⟨(.sames rfl rfl), .nil, nd_of [] rfl (by decide), fun _ _ => rfl⟩, ?_, ?_⟩
      exact h
      exact Nat.lt_succ_self _
    ·
     replace h := bif_f h hc19
     refine iwp_exit ?_
     refine thenQ_e ?_
     refine thenQ_e ?_
     refine blockQ_e ?_
     refine thenQ_n ?_
     refine iwp_reg (ils_cons rfl (iop_assign rfl rfl (lb rfl) (sv (d := .bool true) rfl)) <|
      ils_end ?_)
     refine iwp_ret ?_
     obtain rfl := Option.some.inj h
     refine ⟨.inr rfl, (.cons (sv rfl) .nil)⟩

theorem p_fold_Same (a0 : T_fold_State) (a1 : T_fold_State) (r : Bool) (h : fold_Same a0 a1 = some r) : PureAt Try.prog 16 [.agg (v0 a0), .agg (v0 a1)] (.bool r) := by
 refine pure_of_iwp (rs := [.bool r]) Try.func16 rfl Try.ntmps16 (nle rfl) rfl fun O hO => ?_
 show IWP _ _ _ _ ⟨[(0, .agg (v0 a0)), (1, .agg (v0 a1))], []⟩ _
 unfold fold_Same at h
 refine iwp_reg (ils_cons rfl (iop_box' (cs := q4) 0 rfl rfl (lb rfl) rfl (svA q4 rfl) rfl rfl) <|
  ils_cons rfl (iop_box' (cs := q4) 1 rfl rfl (lb rfl) rfl (svA q4 rfl) rfl rfl) <|
  ils_cons rfl (iop_assign rfl rfl (lb rfl) (sv (d := .bool false) rfl)) <|
  ils_end ?_)
 obtain ⟨x1, hx1, h⟩ := bnd_e h
 obtain ⟨x2, hx2, h⟩ := bnd_e h
 obtain ⟨x3, hx3, h⟩ := bnd_e h
 obtain ⟨x4, hx4, h⟩ := bno_e h
 obtain ⟨x5, hx5, h⟩ := bnd_e h
 obtain ⟨x6, hx6, h⟩ := bno_e h
 obtain ⟨x7, hx7, h⟩ := bnd_e h
 refine iwp_reg (ils_cons rfl (faR 0 rfl rfl rfl Try.underlying32 rfl ti3 (lb rfl) rfl rfl) <|
  ils_cons rfl (iop_load_rs (d := .int _ _) rfl rfl (lb rfl) Try.underlying3 ag3 ti3 (by decide) (svR rfl) rfl (nle rfl) rfl) <|
  ils_cons rfl (faR 0 rfl rfl rfl Try.underlying32 rfl ti3 (lb rfl) rfl rfl) <|
  ils_cons rfl (iop_load_rs (d := .int _ _) rfl rfl (lb rfl) Try.underlying3 ag3 ti3 (by decide) (svR rfl) rfl (nle rfl) rfl) <|
  ils_cons rfl (iop_cmpx rfl rfl (lb rfl) (svI rfl) (svI rfl) rfl hx1) <|
  ils_cons rfl (mvB rfl rfl rfl rfl) <|
  ils_guard rfl rfl (.one rfl) rfl (by decide) (fun hb => (faR 1 rfl rfl rfl Try.underlying32 rfl ti3 (lb rfl) rfl rfl)) <|
  ils_guard rfl rfl (.one rfl) rfl (by decide) (fun hb => (iop_load_rs (d := .int _ _) rfl rfl (lb rfl) Try.underlying3 ag3 ti3 (by decide) (svcR rfl hb) rfl (nle rfl) rfl)) <|
  ils_guard rfl rfl (.one rfl) rfl (by decide) (fun hb => (faR 1 rfl rfl rfl Try.underlying32 rfl ti3 (lb rfl) rfl rfl)) <|
  ils_guard rfl rfl (.one rfl) rfl (by decide) (fun hb => (iop_load_rs (d := .int _ _) rfl rfl (lb rfl) Try.underlying3 ag3 ti3 (by decide) (svcR rfl hb) rfl (nle rfl) rfl)) <|
  ils_guard rfl rfl (.one rfl) rfl (by decide) (fun hb => (iop_cmpx rfl rfl (lb rfl) (svcI rfl hb) (svcI rfl hb) rfl hx2)) <|
  ils_cons rfl (iop_andx rfl rfl (lb rfl) (svB rfl) rfl rfl hx3) <|
  ils_cons rfl (mvB rfl rfl rfl rfl) <|
  ils_guard rfl rfl (.one rfl) rfl (by decide) (fun hb => (faR 2 rfl rfl rfl Try.underlying32 rfl ti30 (lb rfl) rfl rfl)) <|
  ils_guard rfl rfl (.one rfl) rfl (by decide) (fun hb => (iop_load_rs (d := .slice _ _) rfl rfl (lb rfl) Try.underlying30 ag30 ti30 (by decide) (svcR rfl hb) rfl (nle rfl) rfl)) <|
  ils_guard rfl rfl (.one rfl) rfl (by decide) (fun hb => (faR 2 rfl rfl rfl Try.underlying32 rfl ti30 (lb rfl) rfl rfl)) <|
  ils_guard rfl rfl (.one rfl) rfl (by decide) (fun hb => (iop_load_rs (d := .slice _ _) rfl rfl (lb rfl) Try.underlying30 ag30 ti30 (by decide) (svcR rfl hb) rfl (nle rfl) rfl)) <|
  ils_guard rfl rfl (.one rfl) rfl (by decide) (fun hb => (iop_call (r := .bool _) rfl rfl (lb rfl) cl49 (.cons (svcL rfl hb) (.cons (svcL rfl hb) .nil)) rfl (p_slices_Equal_ptree_Node_ptree_Node _ _ _ (gd_t hx4 hb)))) <|
  ils_cons rfl (iop_andx rfl rfl (lb rfl) (svB rfl) rfl rfl hx5) <|
  ils_cons rfl (mvB rfl rfl rfl rfl) <|
  ils_guard rfl rfl (.one rfl) rfl (by decide) (fun hb => (faR 3 rfl rfl rfl Try.underlying32 rfl ti23 (lb rfl) rfl rfl)) <|
  ils_guard rfl rfl (.one rfl) rfl (by decide) (fun hb => (iop_load_rs (d := .slice _ _) rfl rfl (lb rfl) Try.underlying23 ag23 ti23 (by decide) (svcR rfl hb) rfl (nle rfl) rfl)) <|
  ils_guard rfl rfl (.one rfl) rfl (by decide) (fun hb => (faR 3 rfl rfl rfl Try.underlying32 rfl ti23 (lb rfl) rfl rfl)) <|
  ils_guard rfl rfl (.one rfl) rfl (by decide) (fun hb => (iop_load_rs (d := .slice _ _) rfl rfl (lb rfl) Try.underlying23 ag23 ti23 (by decide) (svcR rfl hb) rfl (nle rfl) rfl)) <|
  ils_guard rfl rfl (.one rfl) rfl (by decide) (fun hb => (iop_call (r := .bool _) rfl rfl (lb rfl) cl50 (.cons (svcL rfl hb) (.cons (svcL rfl hb) .nil)) rfl (p_slices_Equal_int_int _ _ _ (gd_t hx6 hb)))) <|
  ils_cons rfl (iop_andx rfl rfl (lb rfl) (svB rfl) rfl rfl hx7) <|
  ils_cons rfl (asB rfl rfl rfl rfl) <|
  ils_end ?_)
 refine iwp_ret ?_
 obtain rfl := Option.some.inj h
 refine ⟨.inr rfl, (.cons (sv rfl) .nil)⟩

theorem p_sennitlaw34_awake  (r : Bool) (h : sennitlaw34_awake = some r) : PureAt Try.prog 8 [] (.bool r) := by
 refine pure_of_iwp (rs := [.bool r]) Try.func8 rfl Try.ntmps8 (nle rfl) rfl fun O hO => ?_
 show IWP _ _ _ _ ⟨[], []⟩ _
 unfold sennitlaw34_awake at h
 refine iwp_reg (ils_cons rfl (iop_assign rfl rfl (lb rfl) (sv (d := .bool false) rfl)) <|
  ils_end ?_)
 obtain ⟨x1, hx1, h⟩ := bno_e h
 refine iwp_reg (ils_cons rfl (iop_sub (d' := .agg (w12 8 1 ([] : List T_ptree_Node) ([] : List Int))) (iop_build_struct (cs := q7) rfl rfl (lb rfl) Try.underlying32 ti32 pl32 rfl (.cons (sv (d := .int _ 8) rfl) (.cons (sv (d := .int _ 1) rfl) .nil)) rfl) (.agg (.k (.k (.cons (.nils _) (.cons (.nils _) .nil)))))) <|
  ils_cons rfl (iop_build_struct (cs := q3) rfl rfl (lb rfl) Try.underlying37 ti37 pl37 rfl (.cons (sv (d := .int _ 1) rfl) (.cons (sv (d := .int _ 16) rfl) .nil)) rfl) <|
  ils_cons rfl (iop_build_struct (cs := q3) rfl rfl (lb rfl) Try.underlying37 ti37 pl37 rfl (.cons (sv (d := .int _ 3) rfl) (.cons (sv (d := .int _ 1) rfl) (.cons (sv (d := .int _ 5) rfl) .nil))) rfl) <|
  ils_cons rfl (iop_build_struct (cs := q3) rfl rfl (lb rfl) Try.underlying37 ti37 pl37 rfl (.cons (sv (d := .int _ 5) rfl) (.cons (sv (d := .int _ 1) rfl) (.cons (sv (d := .int _ 7) rfl) .nil))) rfl) <|
  ils_cons rfl (iop_build_struct (cs := q3) rfl rfl (lb rfl) Try.underlying37 ti37 pl37 rfl (.cons (sv (d := .int _ 2) rfl) (.cons (sv (d := .int _ 3) rfl) .nil)) rfl) <|
  ils_cons rfl (iop_build_struct (cs := q3) rfl rfl (lb rfl) Try.underlying37 ti37 pl37 rfl (.cons (sv (d := .int _ 9) rfl) .nil) rfl) <|
  ils_cons rfl (iop_build_struct (cs := q3) rfl rfl (lb rfl) Try.underlying37 ti37 pl37 rfl (.cons (sv (d := .int _ 1) rfl) (.cons (sv (d := .int _ 5) rfl) (.cons (sv (d := .int _ 2) rfl) .nil))) rfl) <|
  ils_cons rfl (iop_bsT E_fold_Op ([(⟨0, 1, 0, 16, false⟩ : T_fold_Op), (⟨0, 3, 1, 5, false⟩ : T_fold_Op), (⟨0, 5, 1, 7, false⟩ : T_fold_Op), (⟨2, 3, 0, 0, false⟩ : T_fold_Op), (⟨9, 0, 0, 0, false⟩ : T_fold_Op), (⟨1, 5, 0, 2, false⟩ : T_fold_Op)] : (List T_fold_Op)) 0 rfl rfl (lb rfl) Try.underlying62 ti37 rfl (.cons (svA q3 rfl) (.cons (svA q3 rfl) (.cons (svA q3 rfl) (.cons (svA q3 rfl) (.cons (svA q3 rfl) (.cons (svA q3 rfl) .nil)))))) rfl rfl (by decide)) <|
  ils_cons rfl (iop_call (r := .tuple [.agg q4, .slice _ _]) rfl rfl (lb rfl) cl26 (.cons (svA q4 rfl) (.cons (svg rfl) .nil)) rfl (p_fold_Run _ _ _ hx1)) <|
  ils_cons rfl (iop_move rfl rfl (lb rfl) (sv (d := .tuple [.agg q4, .slice _ _]) rfl)) <|
  ils_cons rfl (iop_extract (d := .agg q4) rfl rfl (lb rfl) (sv (d := .tuple [.agg q4, .slice _ _]) rfl) rfl) <|
  ils_cons rfl (iop_extract (d := .slice _ _) rfl rfl (lb rfl) (sv (d := .tuple [.agg q4, .slice _ _]) rfl) rfl) <|
  ils_cons rfl (iop_allocS (cs := q7) (cs' := (w12 0 0 ([] : List T_ptree_Node) ([] : List Int))) 1 rfl rfl (lb rfl) rfl ti32 rfl rfl (.k (.k (.cons (.nils _) (.cons (.nils _) .nil))))) <|
  ils_cons rfl (stA q4 q4 ti32 rfl rfl rfl rfl rfl rfl rfl rfl (nle rfl) rfl) <|
  ils_cons rfl (iop_assign rfl rfl (lb rfl) (svL rfl)) <|
  ils_end ?_)
 refine iwp_seq ?_
 obtain ⟨x2, hx2, h⟩ := bnd_e h
 refine iwp_reg (ils_cons rfl (mvL rfl rfl rfl rfl) <|
  ils_cons rfl (iop_lenT (eInt .i64) (l := x1.2) rfl rfl (lb rfl) Try.underlying59 (svL rfl)) <|
  ils_cons rfl (iop_cmpx rfl rfl (lb rfl) (svI rfl) (sv (d := .int _ 6) rfl) rfl hx2) <|
  ils_end ?_)
 refine iwp_cond (b := _) rfl (fun hc3 => ?_) (fun hc3 => ?_)
 ·
  replace h := bif_t h hc3
  refine iwp_reg (ils_cons rfl (iop_assign rfl rfl (lb rfl) (sv (d := .bool false) rfl)) <|
   ils_end ?_)
  refine iwp_ret ?_
  refine thenQ_r ?_
  obtain rfl := Option.some.inj h
  refine ⟨.inr rfl, (.cons (sv rfl) .nil)⟩
 ·
  replace h := bif_f h hc3
  refine iwp_skip ?_
  refine thenQ_n ?_
  obtain ⟨x4, hx4, h⟩ := bno_e h
  obtain ⟨x5, hx5, h⟩ := bnd_e h
  obtain ⟨x6, hx6, h⟩ := bno_e h
  obtain ⟨x7, hx7, h⟩ := bnd_e h
  obtain ⟨x8, hx8, h⟩ := bnd_e h
  obtain ⟨x9, hx9, h⟩ := bno_e h
  obtain ⟨x10, hx10, h⟩ := bnd_e h
  obtain ⟨x11, hx11, h⟩ := bnd_e h
  obtain ⟨x12, hx12, h⟩ := bnd_e h
  obtain ⟨x13, hx13, h⟩ := bnd_e h
  obtain ⟨x14, hx14, h⟩ := bno_e h
  obtain ⟨x15, hx15, h⟩ := bnd_e h
  obtain ⟨x16, hx16, h⟩ := bno_e h
  obtain ⟨x17, hx17, h⟩ := bnd_e h
  obtain ⟨x18, hx18, h⟩ := bnd_e h
  obtain ⟨x19, hx19, h⟩ := bno_e h
  obtain ⟨x20, hx20, h⟩ := bnd_e h
  obtain ⟨x21, hx21, h⟩ := bnd_e h
  obtain ⟨x22, hx22, h⟩ := bno_e h
  obtain ⟨x23, hx23, h⟩ := bnd_e h
  obtain ⟨x24, hx24, h⟩ := bnd_e h
  obtain ⟨x25, hx25, h⟩ := bno_e h
  obtain ⟨x26, hx26, h⟩ := bnd_e h
  obtain ⟨x27, hx27, h⟩ := bnd_e h
  obtain ⟨x28, hx28, h⟩ := bno_e h
  obtain ⟨x29, hx29, h⟩ := bno_e h
  obtain ⟨x30, hx30, h⟩ := bnd_e h
  obtain ⟨x31, hx31, h⟩ := bno_e h
  obtain ⟨x32, hx32, h⟩ := bno_e h
  obtain ⟨x33, hx33, h⟩ := bnd_e h
  obtain ⟨x34, hx34, h⟩ := bno_e h
  obtain ⟨x35, hx35, h⟩ := bnd_e h
  obtain ⟨x36, hx36, h⟩ := bnd_e h
  obtain ⟨x37, hx37, h⟩ := bno_e h
  obtain ⟨x38, hx38, h⟩ := bnd_e h
  obtain ⟨x39, hx39, h⟩ := bnd_e h
  obtain ⟨x40, hx40, h⟩ := bno_e h
  obtain ⟨x41, hx41, h⟩ := bnd_e h
  obtain ⟨x42, hx42, h⟩ := bnd_e h
  obtain ⟨x43, hx43, h⟩ := bno_e h
  obtain ⟨x44, hx44, h⟩ := bnd_e h
  obtain ⟨x45, hx45, h⟩ := bno_e h
  obtain ⟨x46, hx46, h⟩ := bnd_e h
  obtain ⟨x47, hx47, h⟩ := bnd_e h
  obtain ⟨x48, hx48, h⟩ := bnd_e h
  obtain ⟨x49, hx49, h⟩ := bnd_e h
  refine iwp_reg (ils_cons rfl (mvL rfl rfl rfl rfl) <|
   ils_cons rfl (iop_idxT (eInt .i64) (cs := [.int _ _]) rfl rfl (lb rfl) Try.underlying59 ti34 (svL rfl) (sv (d := .int _ 0) rfl) hx4 rfl rfl) <|
   ils_cons rfl (iop_load_fs rfl rfl (lb rfl) Try.underlying34 ag34 ti34 (by decide) (sv (d := .fptr [.int _ _]) rfl) (nle rfl)) <|
   ils_cons rfl (iop_cmpx rfl rfl (lb rfl) (svI rfl) (sv (d := .int _ 0) rfl) rfl hx5) <|
   ils_cons rfl (mvB rfl rfl rfl rfl) <|
   ils_guard rfl rfl (.one rfl) rfl (by decide) (fun hb => (mvL rfl rfl rfl rfl)) <|
   ils_guard rfl rfl (.one rfl) rfl (by decide) (fun hb => (iop_idxT (eInt .i64) (cs := [.int _ _]) rfl rfl (lb rfl) Try.underlying59 ti34 (svcL rfl hb) (sv (d := .int _ 3) rfl) (gd_t hx6 hb) rfl rfl)) <|
   ils_guard rfl rfl (.one rfl) rfl (by decide) (fun hb => (iop_load_fs rfl rfl (lb rfl) Try.underlying34 ag34 ti34 (by decide) (svc (d := .fptr [.int _ _]) rfl hb) (nle rfl))) <|
   ils_guard rfl rfl (.one rfl) rfl (by decide) (fun hb => (iop_cmpx rfl rfl (lb rfl) (svcI rfl hb) (sv (d := .int _ 0) rfl) rfl hx7)) <|
   ils_cons rfl (iop_andx rfl rfl (lb rfl) (svB rfl) rfl rfl hx8) <|
   ils_cons rfl (mvB rfl rfl rfl rfl) <|
   ils_guard rfl rfl (.one rfl) rfl (by decide) (fun hb => (mvL rfl rfl rfl rfl)) <|
   ils_guard rfl rfl (.one rfl) rfl (by decide) (fun hb => (iop_idxT (eInt .i64) (cs := [.int _ _]) rfl rfl (lb rfl) Try.underlying59 ti34 (svcL rfl hb) (sv (d := .int _ 4) rfl) (gd_t hx9 hb) rfl rfl)) <|
   ils_guard rfl rfl (.one rfl) rfl (by decide) (fun hb => (iop_load_fs rfl rfl (lb rfl) Try.underlying34 ag34 ti34 (by decide) (svc (d := .fptr [.int _ _]) rfl hb) (nle rfl))) <|
   ils_guard rfl rfl (.one rfl) rfl (by decide) (fun hb => (iop_cmpx rfl rfl (lb rfl) (svcI rfl hb) (sv (d := .int _ 12) rfl) rfl hx10)) <|
   ils_cons rfl (iop_andx rfl rfl (lb rfl) (svB rfl) rfl rfl hx11) <|
   ils_cons rfl (mvB rfl rfl rfl rfl) <|
   ils_guard rfl rfl (.one rfl) rfl (by decide) (fun hb => (faR 2 rfl rfl rfl Try.underlying32 rfl ti30 (lb rfl) rfl rfl)) <|
   ils_guard rfl rfl (.one rfl) rfl (by decide) (fun hb => (iop_load_rs (d := .slice _ _) rfl rfl (lb rfl) Try.underlying30 ag30 ti30 (by decide) (svcR rfl hb) rfl (nle rfl) rfl)) <|
   ils_guard rfl rfl (.one rfl) rfl (by decide) (fun hb => (iop_lenT E_ptree_Node (l := x1.1.Nodes) rfl rfl (lb rfl) Try.underlying30 (svcL rfl hb))) <|
   ils_guard rfl rfl (.one rfl) rfl (by decide) (fun hb => (iop_cmpx rfl rfl (lb rfl) (svcI rfl hb) (sv (d := .int _ 3) rfl) rfl hx12)) <|
   ils_cons rfl (iop_andx rfl rfl (lb rfl) (svB rfl) rfl rfl hx13) <|
   ils_cons rfl (mvB rfl rfl rfl rfl) <|
   ils_guard rfl rfl (.one rfl) rfl (by decide) (fun hb => (faR 2 rfl rfl rfl Try.underlying32 rfl ti30 (lb rfl) rfl rfl)) <|
   ils_guard rfl rfl (.one rfl) rfl (by decide) (fun hb => (iop_load_rs (d := .slice _ _) rfl rfl (lb rfl) Try.underlying30 ag30 ti30 (by decide) (svcR rfl hb) rfl (nle rfl) rfl)) <|
   ils_guard rfl rfl (.one rfl) rfl (by decide) (fun hb => (iop_idxT E_ptree_Node (cs := q6) rfl rfl (lb rfl) Try.underlying30 ti56 (svcL rfl hb) (sv (d := .int _ 1) rfl) (gd_t hx14 hb) rfl rfl)) <|
   ils_guard rfl rfl (.one rfl) rfl (by decide) (fun hb => (iop_fieldAddr_fptr (cs' := [.bool _]) rfl rfl (lb rfl) Try.underlying56 rfl ti4 (by decide) (svc (d := .fptr q6) rfl hb) rfl)) <|
   ils_guard rfl rfl (.one rfl) rfl (by decide) (fun hb => (iop_load_fs rfl rfl (lb rfl) Try.underlying4 ag4 ti4 (by decide) (svc (d := .fptr [.bool _]) rfl hb) (nle rfl))) <|
   ils_cons rfl (iop_andx rfl rfl (lb rfl) (svB rfl) rfl rfl hx15) <|
   ils_cons rfl (mvB rfl rfl rfl rfl) <|
   ils_guard rfl rfl (.one rfl) rfl (by decide) (fun hb => (lra q4 la32 rfl rfl rfl rfl rfl (nle rfl) rfl)) <|
   ils_guard rfl rfl (.one rfl) rfl (by decide) (fun hb => (iop_call (r := .int _ _) rfl rfl (lb rfl) cl17 (.cons (svcA (v0 x1.1) rfl hb) (.cons (sv (d := .int _ 3) rfl) .nil)) rfl (p_fold_Depth _ _ _ (gd_t hx16 hb)))) <|
   ils_guard rfl rfl (.one rfl) rfl (by decide) (fun hb => (iop_cmpx rfl rfl (lb rfl) (svcI rfl hb) (sv (d := .int _ 2) rfl) rfl hx17)) <|
   ils_cons rfl (iop_andx rfl rfl (lb rfl) (svB rfl) rfl rfl hx18) <|
   ils_cons rfl (mvB rfl rfl rfl rfl) <|
   ils_guard rfl rfl (.one rfl) rfl (by decide) (fun hb => (lra q4 la32 rfl rfl rfl rfl rfl (nle rfl) rfl)) <|
   ils_guard rfl rfl (.one rfl) rfl (by decide) (fun hb => (iop_call (r := .int _ _) rfl rfl (lb rfl) cl17 (.cons (svcA (v0 x1.1) rfl hb) (.cons (sv (d := .int _ 5) rfl) .nil)) rfl (p_fold_Depth _ _ _ (gd_t hx19 hb)))) <|
   ils_guard rfl rfl (.one rfl) rfl (by decide) (fun hb => (iop_cmpx rfl rfl (lb rfl) (svcI rfl hb) (sv (d := .int _ 1) rfl) rfl hx20)) <|
   ils_cons rfl (iop_andx rfl rfl (lb rfl) (svB rfl) rfl rfl hx21) <|
   ils_cons rfl (mvB rfl rfl rfl rfl) <|
   ils_guard rfl rfl (.one rfl) rfl (by decide) (fun hb => (lra q4 la32 rfl rfl rfl rfl rfl (nle rfl) rfl)) <|
   ils_guard rfl rfl (.one rfl) rfl (by decide) (fun hb => (iop_call (r := .int _ _) rfl rfl (lb rfl) cl19 (.cons (svcA (v0 x1.1) rfl hb) (.cons (sv (d := .int _ 1) rfl) (.cons (sv (d := .int _ 3) rfl) .nil))) rfl (p_fold_Meet _ _ _ _ (gd_t hx22 hb)))) <|
   ils_guard rfl rfl (.one rfl) rfl (by decide) (fun hb => (iop_cmpx rfl rfl (lb rfl) (svcI rfl hb) (sv (d := .int _ 1) rfl) rfl hx23)) <|
   ils_cons rfl (iop_andx rfl rfl (lb rfl) (svB rfl) rfl rfl hx24) <|
   ils_cons rfl (mvB rfl rfl rfl rfl) <|
   ils_guard rfl rfl (.one rfl) rfl (by decide) (fun hb => (lra q4 la32 rfl rfl rfl rfl rfl (nle rfl) rfl)) <|
   ils_guard rfl rfl (.one rfl) rfl (by decide) (fun hb => (iop_call (r := .int _ _) rfl rfl (lb rfl) cl19 (.cons (svcA (v0 x1.1) rfl hb) (.cons (sv (d := .int _ 5) rfl) (.cons (sv (d := .int _ 3) rfl) .nil))) rfl (p_fold_Meet _ _ _ _ (gd_t hx25 hb)))) <|
   ils_guard rfl rfl (.one rfl) rfl (by decide) (fun hb => (iop_cmpx rfl rfl (lb rfl) (svcI rfl hb) (sv (d := .int _ 0) rfl) rfl hx26)) <|
   ils_cons rfl (iop_andx rfl rfl (lb rfl) (svB rfl) rfl rfl hx27) <|
   ils_cons rfl (mvB rfl rfl rfl rfl) <|
   ils_guard rfl rfl (.one rfl) rfl (by decide) (fun hb => (lra q4 la32 rfl rfl rfl rfl rfl (nle rfl) rfl)) <|
   ils_guard rfl rfl (.one rfl) rfl (by decide) (fun hb => (iop_call (r := .slice _ _) rfl rfl (lb rfl) cl22 (.cons (svcA (v0 x1.1) rfl hb) (.cons (sv (d := .int _ 1) rfl) .nil)) rfl (p_fold_Below _ _ _ (gd_t hx28 hb)))) <|
   ils_guard rfl rfl (.one rfl) rfl (by decide) (fun hb => (iop_bsF (eInt .i64) ([3] : (List Int)) rfl rfl (lb rfl) Try.underlying23 ti3 (.cons (sv (d := .int _ 3) rfl) .nil) rfl rfl (by decide))) <|
   ils_guard rfl rfl (.one rfl) rfl (by decide) (fun hb => (iop_call (r := .bool _) rfl rfl (lb rfl) cl21 (.cons (svcL rfl hb) (.cons (svcL rfl hb) .nil)) rfl (p_sennitref02_SameInts _ _ _ (gd_t hx29 hb)))) <|
   ils_cons rfl (iop_andx rfl rfl (lb rfl) (svB rfl) rfl rfl hx30) <|
   ils_cons rfl (mvB rfl rfl rfl rfl) <|
   ils_guard rfl rfl (.one rfl) rfl (by decide) (fun hb => (lra q4 la32 rfl rfl rfl rfl rfl (nle rfl) rfl)) <|
   ils_guard rfl rfl (.one rfl) rfl (by decide) (fun hb => (iop_call (r := .slice _ _) rfl rfl (lb rfl) cl22 (.cons (svcA (v0 x1.1) rfl hb) (.cons (sv (d := .int _ 0) rfl) .nil)) rfl (p_fold_Below _ _ _ (gd_t hx31 hb)))) <|
   ils_guard rfl rfl (.one rfl) rfl (by decide) (fun hb => (iop_bsF (eInt .i64) ([1, 3, 5] : (List Int)) rfl rfl (lb rfl) Try.underlying23 ti3 (.cons (sv (d := .int _ 1) rfl) (.cons (sv (d := .int _ 3) rfl) (.cons (sv (d := .int _ 5) rfl) .nil))) rfl rfl (by decide))) <|
   ils_guard rfl rfl (.one rfl) rfl (by decide) (fun hb => (iop_call (r := .bool _) rfl rfl (lb rfl) cl21 (.cons (svcL rfl hb) (.cons (svcL rfl hb) .nil)) rfl (p_sennitref02_SameInts _ _ _ (gd_t hx32 hb)))) <|
   ils_cons rfl (iop_andx rfl rfl (lb rfl) (svB rfl) rfl rfl hx33) <|
   ils_cons rfl (mvB rfl rfl rfl rfl) <|
   ils_guard rfl rfl (.one rfl) rfl (by decide) (fun hb => (lra q4 la32 rfl rfl rfl rfl rfl (nle rfl) rfl)) <|
   ils_guard rfl rfl (.one rfl) rfl (by decide) (fun hb => (iop_call (r := .int _ _) rfl rfl (lb rfl) cl24 (.cons (svcA (v0 x1.1) rfl hb) (.cons (sv (d := .int _ 0) rfl) .nil)) rfl (p_fold_Sum _ _ _ (gd_t hx34 hb)))) <|
   ils_guard rfl rfl (.one rfl) rfl (by decide) (fun hb => (iop_cmpx rfl rfl (lb rfl) (svcI rfl hb) (sv (d := .int _ 18) rfl) rfl hx35)) <|
   ils_cons rfl (iop_andx rfl rfl (lb rfl) (svB rfl) rfl rfl hx36) <|
   ils_cons rfl (mvB rfl rfl rfl rfl) <|
   ils_guard rfl rfl (.one rfl) rfl (by decide) (fun hb => (lra q4 la32 rfl rfl rfl rfl rfl (nle rfl) rfl)) <|
   ils_guard rfl rfl (.one rfl) rfl (by decide) (fun hb => (iop_call (r := .int _ _) rfl rfl (lb rfl) cl14 (.cons (svcA (v0 x1.1) rfl hb) .nil) rfl (p_fold_Check _ _ (gd_t hx37 hb)))) <|
   ils_guard rfl rfl (.one rfl) rfl (by decide) (fun hb => (iop_cmpx rfl rfl (lb rfl) (svcI rfl hb) (sv (d := .int _ 0) rfl) rfl hx38)) <|
   ils_cons rfl (iop_andx rfl rfl (lb rfl) (svB rfl) rfl rfl hx39) <|
   ils_cons rfl (mvB rfl rfl rfl rfl) <|
   ils_guard rfl rfl (.one rfl) rfl (by decide) (fun hb => (iop_sub (d' := .agg (w12 0 0 ([] : List T_ptree_Node) ([] : List Int))) (iop_build_struct (cs := q7) rfl rfl (lb rfl) Try.underlying32 ti32 pl32 rfl .nil rfl) (.agg (.k (.k (.cons (.nils _) (.cons (.nils _) .nil))))))) <|
   ils_guard rfl rfl (.one rfl) rfl (by decide) (fun hb => (iop_call (r := .int _ _) rfl rfl (lb rfl) cl14 (.cons (svc (d := .agg (w12 0 0 ([] : List T_ptree_Node) ([] : List Int))) rfl hb) .nil) rfl (p_fold_Check _ _ (gd_t hx40 hb)))) <|
   ils_guard rfl rfl (.one rfl) rfl (by decide) (fun hb => (iop_cmpx rfl rfl (lb rfl) (svcI rfl hb) (sv (d := .int _ 8) rfl) rfl hx41)) <|
   ils_cons rfl (iop_andx rfl rfl (lb rfl) (svB rfl) rfl rfl hx42) <|
   ils_cons rfl (mvB rfl rfl rfl rfl) <|
   ils_guard rfl rfl (.one rfl) rfl (by decide) (fun hb => (lra q4 la32 rfl rfl rfl rfl rfl (nle rfl) rfl)) <|
   ils_guard rfl rfl (.one rfl) rfl (by decide) (fun hb => (iop_sub (d' := .agg (w12 0 0 ([] : List T_ptree_Node) ([] : List Int))) (iop_build_struct (cs := q7) rfl rfl (lb rfl) Try.underlying32 ti32 pl32 rfl .nil rfl) (.agg (.k (.k (.cons (.nils _) (.cons (.nils _) .nil))))))) <|
   ils_guard rfl rfl (.one rfl) rfl (by decide) (fun hb => (iop_call (r := .bool _) rfl rfl (lb rfl) cl16 (.cons (svcA (v0 x1.1) rfl hb) (.cons (svc (d := .agg (w12 0 0 ([] : List T_ptree_Node) ([] : List Int))) rfl hb) .nil)) rfl (p_fold_Same _ _ _ (gd_t hx43 hb)))) <|
   ils_guard rfl rfl (.one rfl) rfl (by decide) (fun hb => (iop_not rfl rfl (lb rfl) (svcB rfl hb))) <|
   ils_cons rfl (iop_andx rfl rfl (lb rfl) (svB rfl) rfl rfl hx44) <|
   ils_cons rfl (mvB rfl rfl rfl rfl) <|
   ils_guard rfl rfl (.one rfl) rfl (by decide) (fun hb => (lra q4 la32 rfl rfl rfl rfl rfl (nle rfl) rfl)) <|
   ils_guard rfl rfl (.one rfl) rfl (by decide) (fun hb => (lra q4 la32 rfl rfl rfl rfl rfl (nle rfl) rfl)) <|
   ils_guard rfl rfl (.one rfl) rfl (by decide) (fun hb => (iop_call (r := .bool _) rfl rfl (lb rfl) cl16 (.cons (svcA (v0 x1.1) rfl hb) (.cons (svcA (v0 x1.1) rfl hb) .nil)) rfl (p_fold_Same _ _ _ (gd_t hx45 hb)))) <|
   ils_cons rfl (iop_andx rfl rfl (lb rfl) (svB rfl) rfl rfl hx46) <|
   ils_cons rfl (mvB rfl rfl rfl rfl) <|
   ils_cons rfl (iop_pickc rfl rfl (lb rfl) (svB rfl) rfl rfl hx47) <|
   ils_cons rfl (mvB rfl rfl rfl rfl) <|
   ils_cons rfl (iop_pickc rfl rfl (lb rfl) (svB rfl) rfl rfl hx48) <|
   ils_cons rfl (mvB rfl rfl rfl rfl) <|
   ils_cons rfl (iop_pickc rfl rfl (lb rfl) (svB rfl) rfl rfl hx49) <|
   ils_cons rfl (asB rfl rfl rfl rfl) <|
   ils_end ?_)
  refine iwp_ret ?_
  obtain rfl := Option.some.inj h
  refine ⟨.inr rfl, (.cons (sv rfl) .nil)⟩

theorem p_sennitlaw34_FoldDeeper (a0 : (List T_fold_Op)) (r : Bool) (h : sennitlaw34_FoldDeeper a0 = some r) : PureAt Try.prog 5 [.slice false (a0.map E_fold_Op.d)] (.bool r) := by
 refine pure_of_iwp (rs := [.bool r]) Try.func5 rfl Try.ntmps5 (nle rfl) rfl fun O hO => ?_
 show IWP _ _ _ _ ⟨[(0, .slice false (a0.map E_fold_Op.d))], []⟩ _
 unfold sennitlaw34_FoldDeeper at h
 refine iwp_reg (ils_cons rfl (iop_assign rfl rfl (lb rfl) (sv (d := .bool false) rfl)) <|
  ils_end ?_)
 refine iwp_seq ?_
 obtain ⟨x1, hx1, h⟩ := bnd_e h
 refine iwp_reg (ils_cons rfl (mvL rfl rfl rfl rfl) <|
  ils_cons rfl (iop_lenT E_fold_Op (l := a0) rfl rfl (lb rfl) Try.underlying54 (svL rfl)) <|
  ils_cons rfl (iop_cmpx rfl rfl (lb rfl) (svI rfl) (sv (d := .int _ 60) rfl) rfl hx1) <|
  ils_end ?_)
 refine iwp_cond (b := _) rfl (fun hc2 => ?_) (fun hc2 => ?_)
 ·
  replace h := bif_t h hc2
  obtain ⟨x3, hx3, h⟩ := bno_e h
  refine iwp_reg (ils_cons rfl (iop_call (r := .bool _) rfl rfl (lb rfl) cl8 .nil rfl (p_sennitlaw34_awake  _ hx3)) <|
   ils_cons rfl (asB rfl rfl rfl rfl) <|
   ils_end ?_)
  refine iwp_ret ?_
  refine thenQ_r ?_
  obtain rfl := Option.some.inj h
  refine ⟨.inr rfl, (.cons (sv rfl) .nil)⟩
 ·
  replace h := bif_f h hc2
  refine iwp_skip ?_
  refine thenQ_n ?_
  refine iwp_reg (ils_cons rfl (iop_sub (d' := .agg (w12 24 4 ([] : List T_ptree_Node) ([] : List Int))) (iop_build_struct (cs := q7) rfl rfl (lb rfl) Try.underlying32 ti32 pl32 rfl (.cons (sv (d := .int _ 24) rfl) (.cons (sv (d := .int _ 4) rfl) .nil)) rfl) (.agg (.k (.k (.cons (.nils _) (.cons (.nils _) .nil)))))) <|
   ils_cons rfl (iop_allocS (cs := q7) (cs' := (w12 0 0 ([] : List T_ptree_Node) ([] : List Int))) 0 rfl rfl (lb rfl) rfl ti32 rfl rfl (.k (.k (.cons (.nils _) (.cons (.nils _) .nil))))) <|
   ils_cons rfl (iop_store (ds' := [.int _ _, .int _ _, .slice false (([] : List T_ptree_Node).map E_ptree_Node.d), .slice false (([] : List Int).map (eInt .i64).d)]) rfl rfl ti32 (svR rfl) rfl (svA q4 rfl) rfl rfl rfl (nle rfl) rfl) <|
   ils_end ?_)
  refine iwp_seq ?_
  refine iwp_reg (ils_cons rfl (iop_assign rfl rfl (lb rfl) (sv (d := .int _ 0) rfl)) <|
   ils_end ?_)
  refine iwp_block ?_
  refine iwp_loopP (α := Nat × Int × Int × Int × (List T_ptree_Node) × (List Int)) (fun z => ⟨[(0, .slice false (a0.map E_fold_Op.d)), (3, .ref 0 0), (4, .int .i64 z.2.1)], [(0, .blk 32 (w12 z.2.2.1 z.2.2.2.1 z.2.2.2.2.1 z.2.2.2.2.2))]⟩) (fun z => sennitlaw34_FoldDeeper_L0 a0 z.1 z.2.1 z.2.2.1 z.2.2.2.1 z.2.2.2.2.1 z.2.2.2.2.2 = some r) (fun z => z.1) (fuel, 0, 24, 4, ([] : (List T_ptree_Node)), ([] : (List Int))) (fun i => i) ⟨(.sames rfl rfl), (.cons (.blk rfl rfl rfl) .nil), nd_of [0] rfl (by decide), fun _ _ => rfl⟩ ?_ ?_
  ·exact h
  ·
   rintro ⟨n0, v9, v10, v11, v12, v13⟩ h
   cases n0 with
   | zero => exact absurd h (by unfold sennitlaw34_FoldDeeper_L0; exact nofun)
   | succ n0 =>
    unfold sennitlaw34_FoldDeeper_L0 at h
    refine iwp_seq ?_
    obtain ⟨x19, hx19, h⟩ := bnd_e h
    refine iwp_reg (ils_cons rfl (mvI rfl rfl rfl rfl) <|
     ils_cons rfl (mvL rfl rfl rfl rfl) <|
     ils_cons rfl (iop_lenT E_fold_Op (l := a0) rfl rfl (lb rfl) Try.underlying54 (svL rfl)) <|
     ils_cons rfl (iop_cmpx rfl rfl (lb rfl) (svI rfl) (svI rfl) rfl hx19) <|
     ils_end ?_)
    refine iwp_cond (b := _) rfl (fun hc20 => ?_) (fun hc20 => ?_)
    ·
     replace h := bif_t h hc20
     refine iwp_skip ?_
     refine thenQ_n ?_
     refine iwp_seq ?_
     refine iwp_block ?_
     obtain ⟨x21, hx21, h⟩ := bno_e h
     obtain ⟨x22, hx22, h⟩ := bno_e h
     refine iwp_draw rfl [⟨[3], [0], [(23, .agg (w12 v10 v11 v12 v13))], []⟩,
      ⟨[0], [], [(24, .slice false (a0.map E_fold_Op.d))], []⟩,
      ⟨[4], [], [(25, .int .i64 v9)], []⟩,
      ⟨[24, 25], [], [(26, .fptr (v1 x21))], []⟩,
      ⟨[26], [], [(27, .agg (v1 x21))], []⟩,
      ⟨[23, 27], [], [(28, .tuple [.agg (v0 x22.1), .int .i64 x22.2])], []⟩,
      ⟨[28], [], [(22, .tuple [.agg (v0 x22.1), .int .i64 x22.2])], []⟩,
      ⟨[22], [], [(29, .agg (v0 x22.1))], []⟩,
      ⟨[22], [], [(30, .int .i64 x22.2)], []⟩,
      ⟨[3, 29], [0], [], [(0, .blk 32 (v0 x22.1))]⟩] rfl ?_ (by kernel_rfl) ?_
     ·refine .cons (lop rfl rfl fun S hA => (iop_load_ra (cs := q4) rfl rfl (lb rfl) Try.underlying32 ag32 ti32 (by decide) (svaR hA rfl rfl) (agi hA rfl rfl) (nle rfl) rfl)) ?_
      refine .cons (lop rfl rfl fun S hA => (iop_move rfl rfl (lb rfl) (svaL hA rfl rfl))) ?_
      refine .cons (lop rfl rfl fun S hA => (iop_move rfl rfl (lb rfl) (svaI hA rfl rfl))) ?_
      refine .cons (lop rfl rfl fun S hA => (iop_idxT E_fold_Op (cs := q3) rfl rfl (lb rfl) Try.underlying54 ti27 (svaL hA rfl rfl) (svaI hA rfl rfl) hx21 rfl rfl)) ?_
      refine .cons (lop rfl rfl fun S hA => (iop_load_fa (cs := q3) rfl rfl (lb rfl) Try.underlying27 ag27 ti27 (by decide) (sv (d := .fptr q3) (agr hA rfl rfl)) (nle rfl) rfl)) ?_
      refine .cons (lop rfl rfl fun S hA => (iop_call (r := .tuple q11) rfl rfl (lb rfl) cl10 (.cons (svaA q4 hA rfl rfl) (.cons (svaA q3 hA rfl rfl) .nil)) rfl (p_fold_Do _ _ _ hx22))) ?_
      refine .cons (lop rfl rfl fun S hA => (iop_move rfl rfl (lb rfl) (sv (d := .tuple q11) (agr hA rfl rfl)))) ?_
      refine .cons (lop rfl rfl fun S hA => (iop_extract (d := .agg q4) rfl rfl (lb rfl) (sv (d := .tuple q11) (agr hA rfl rfl)) rfl)) ?_
      refine .cons (lop rfl rfl fun S hA => (iop_extract (d := .int _ _) rfl rfl (lb rfl) (sv (d := .tuple q11) (agr hA rfl rfl)) rfl)) ?_
      refine .cons (lop rfl rfl fun S hA => (iop_store (ds' := q4) rfl rfl ti32 (svaR hA rfl rfl) (agi hA rfl rfl) (svaA q4 hA rfl rfl) rfl rfl rfl (nle rfl) rfl)) ?_
      exact .nil
     refine blockQ_n ?_
     refine thenQ_n ?_
     obtain ⟨x23, hx23, h⟩ := bnd_e h
     refine iwp_region (ils_cons rfl (mvI rfl rfl rfl rfl) <|
      ils_cons rfl (iop_intx rfl rfl (lb rfl) (svI rfl) (sv (d := .int _ 1) rfl) rfl hx23) <|
      ils_cons rfl (asI rfl rfl rfl rfl) <|
      ils_nil ?_)
     refine thenQ_n ⟨(n0, x23, x22.1.Room, x22.1.Keep, x22.1.Nodes, x22.1.Ended), (fun i => i), ⟨(.sames rfl rfl), (.cons (.blk rfl rfl rfl) .nil), nd_of [0] rfl (by decide), fun _ _ => rfl⟩, ?_, ?_⟩
     exact h
     exact Nat.lt_succ_self _
    ·
     replace h := bif_f h hc20
     refine iwp_exit ?_
     refine thenQ_e ?_
     refine thenQ_e ?_
     refine blockQ_e ?_
     refine thenQ_n ?_
     obtain ⟨x24, hx24, h⟩ := bno_e h
     refine iwp_reg (ils_cons rfl (lra q4 la32 rfl rfl rfl rfl rfl (nle rfl) rfl) <|
      ils_cons rfl (iop_call (r := .int _ _) rfl rfl (lb rfl) cl24 (.cons (svA q4 rfl) (.cons (sv (d := .int _ 0) rfl) .nil)) rfl (p_fold_Sum _ _ _ hx24)) <|
      ils_cons rfl (asI rfl rfl rfl rfl) <|
      ils_end ?_)
     refine iwp_reg (ils_cons rfl (iop_assign rfl rfl (lb rfl) (sv (d := .int _ 0) rfl)) <|
      ils_end ?_)
     refine iwp_seq ?_
     refine iwp_reg (ils_cons rfl (iop_assign rfl rfl (lb rfl) (sv (d := .int _ 0) rfl)) <|
      ils_end ?_)
     refine iwp_block ?_
     refine iwp_loopP (α := Nat × Int × Int × Int) (fun z => ⟨[(3, .ref 0 0), (5, .int .i64 z.2.1), (6, .int .i64 z.2.2.1), (7, .int .i64 z.2.2.2)], [(0, .blk 32 (w12 v10 v11 v12 v13))]⟩) (fun z => sennitlaw34_FoldDeeper_L1 v10 v11 v12 v13 z.1 z.2.1 z.2.2.1 z.2.2.2 = some r) (fun z => z.1) (fuel, x24, 0, 0) (fun i => i) ⟨(.sames rfl rfl), (.cons (.blk rfl rfl rfl) .nil), nd_of [0] rfl (by decide), fun _ _ => rfl⟩ ?_ ?_
     ·exact h
     ·
      rintro ⟨n1, v89, v90, v91⟩ h
      cases n1 with
      | zero => exact absurd h (by unfold sennitlaw34_FoldDeeper_L1; exact nofun)
      | succ n1 =>
       unfold sennitlaw34_FoldDeeper_L1 at h
       refine iwp_seq ?_
       obtain ⟨x156, hx156, h⟩ := bnd_e h
       refine iwp_reg (ils_cons rfl (mvI rfl rfl rfl rfl) <|
        ils_cons rfl (faR 2 rfl rfl rfl Try.underlying32 rfl ti30 (lb rfl) rfl rfl) <|
        ils_cons rfl (lrL la30 rfl rfl rfl rfl rfl (nle rfl) rfl) <|
        ils_cons rfl (iop_lenT E_ptree_Node (l := v12) rfl rfl (lb rfl) Try.underlying30 (svL rfl)) <|
        ils_cons rfl (iop_cmpx rfl rfl (lb rfl) (svI rfl) (svI rfl) rfl hx156) <|
        ils_end ?_)
       refine iwp_cond (b := _) rfl (fun hc157 => ?_) (fun hc157 => ?_)
       ·
        replace h := bif_t h hc157
        refine iwp_skip ?_
        refine thenQ_n ?_
        refine iwp_seq ?_
        refine iwp_block ?_
        obtain ⟨x158, hx158, h⟩ := bno_e h
        refine iwp_reg (ils_cons rfl (faR 2 rfl rfl rfl Try.underlying32 rfl ti30 (lb rfl) rfl rfl) <|
         ils_cons rfl (lrL la30 rfl rfl rfl rfl rfl (nle rfl) rfl) <|
         ils_cons rfl (mvI rfl rfl rfl rfl) <|
         ils_cons rfl (iop_idxT E_ptree_Node (cs := q6) rfl rfl (lb rfl) Try.underlying30 ti56 (svL rfl) (svI rfl) hx158 rfl rfl) <|
         ils_cons rfl (iop_fieldAddr_fptr (cs' := [.int _ _]) rfl rfl (lb rfl) Try.underlying56 rfl ti3 (by decide) (sv (d := .fptr q6) rfl) rfl) <|
         ils_cons rfl (iop_load_fs rfl rfl (lb rfl) Try.underlying3 ag3 ti3 (by decide) (sv (d := .fptr [.int _ _]) rfl) (nle rfl)) <|
         ils_cons rfl (asI rfl rfl rfl rfl) <|
         ils_end ?_)
        obtain ⟨x159, hx159, h⟩ := bno_e h
        obtain ⟨x160, hx160, h⟩ := bnd_e h
        refine iwp_reg (ils_cons rfl (mvI rfl rfl rfl rfl) <|
         ils_cons rfl (faR 2 rfl rfl rfl Try.underlying32 rfl ti30 (lb rfl) rfl rfl) <|
         ils_cons rfl (lrL la30 rfl rfl rfl rfl rfl (nle rfl) rfl) <|
         ils_cons rfl (mvI rfl rfl rfl rfl) <|
         ils_cons rfl (iop_idxT E_ptree_Node (cs := q6) rfl rfl (lb rfl) Try.underlying30 ti56 (svL rfl) (svI rfl) hx159 rfl rfl) <|
         ils_cons rfl (iop_fieldAddr_fptr (cs' := [.int _ _]) rfl rfl (lb rfl) Try.underlying56 rfl ti3 (by decide) (sv (d := .fptr q6) rfl) rfl) <|
         ils_cons rfl (iop_load_fs rfl rfl (lb rfl) Try.underlying3 ag3 ti3 (by decide) (sv (d := .fptr [.int _ _]) rfl) (nle rfl)) <|
         ils_cons rfl (iop_intx rfl rfl (lb rfl) (svI rfl) (svI rfl) rfl hx160) <|
         ils_cons rfl (asI rfl rfl rfl rfl) <|
         ils_end ?_)
        obtain ⟨x161, hx161, h⟩ := bno_e h
        obtain ⟨x162, hx162, h⟩ := bnd_e h
        refine iwp_reg (ils_cons rfl (mvI rfl rfl rfl rfl) <|
         ils_cons rfl (lra q4 la32 rfl rfl rfl rfl rfl (nle rfl) rfl) <|
         ils_cons rfl (mvI rfl rfl rfl rfl) <|
         ils_cons rfl (iop_call (r := .int _ _) rfl rfl (lb rfl) cl24 (.cons (svA q4 rfl) (.cons (svI rfl) .nil)) rfl (p_fold_Sum _ _ _ hx161)) <|
         ils_cons rfl (iop_intx rfl rfl (lb rfl) (svI rfl) (svI rfl) rfl hx162) <|
         ils_cons rfl (asI rfl rfl rfl rfl) <|
         ils_end ?_)
        obtain ⟨x163, hx163, h⟩ := bno_e h
        refine iwp_reg (ils_cons rfl (lra q4 la32 rfl rfl rfl rfl rfl (nle rfl) rfl) <|
         ils_cons rfl (mvI rfl rfl rfl rfl) <|
         ils_cons rfl (iop_call (r := .slice _ _) rfl rfl (lb rfl) cl22 (.cons (svA q4 rfl) (.cons (svI rfl) .nil)) rfl (p_fold_Below _ _ _ hx163)) <|
         ils_cons rfl (iop_assign rfl rfl (lb rfl) (svL rfl)) <|
         ils_end ?_)
        refine iwp_seq ?_
        refine iwp_reg (ils_cons rfl (iop_assign rfl rfl (lb rfl) (sv (d := .int _ 0) rfl)) <|
         ils_end ?_)
        refine iwp_block ?_
        refine iwp_loopP (α := Nat × Int) (fun z => ⟨[(3, .ref 0 0), (5, .int .i64 x162), (6, .int .i64 x160), (7, .int .i64 v91), (8, .int .i64 x158.ID), (9, .slice false (x163.map (eInt .i64).d)), (10, .int .i64 z.2)], [(0, .blk 32 (w12 v10 v11 v12 v13))]⟩) (fun z => sennitlaw34_FoldDeeper_L2 v10 v11 v12 v13 v91 (sennitlaw34_FoldDeeper_L1 v10 v11 v12 v13 n1) x158 x160 x162 x163 z.1 z.2 = some r) (fun z => z.1) (fuel, 0) (fun i => i) ⟨(.sames rfl rfl), (.cons (.blk rfl rfl rfl) .nil), nd_of [0] rfl (by decide), fun _ _ => rfl⟩ ?_ ?_
        ·exact h
        ·
         rintro ⟨n2, v180⟩ h
         cases n2 with
         | zero => exact absurd h (by unfold sennitlaw34_FoldDeeper_L2; exact nofun)
         | succ n2 =>
          unfold sennitlaw34_FoldDeeper_L2 at h
          refine iwp_seq ?_
          obtain ⟨x197, hx197, h⟩ := bnd_e h
          refine iwp_reg (ils_cons rfl (mvI rfl rfl rfl rfl) <|
           ils_cons rfl (mvL rfl rfl rfl rfl) <|
           ils_cons rfl (iop_lenT (eInt .i64) (l := x163) rfl rfl (lb rfl) Try.underlying23 (svL rfl)) <|
           ils_cons rfl (iop_cmpx rfl rfl (lb rfl) (svI rfl) (svI rfl) rfl hx197) <|
           ils_end ?_)
          refine iwp_cond (b := _) rfl (fun hc198 => ?_) (fun hc198 => ?_)
          ·
           replace h := bif_t h hc198
           refine iwp_skip ?_
           refine thenQ_n ?_
           refine iwp_seq ?_
           refine iwp_block ?_
           obtain ⟨x199, hx199, h⟩ := bno_e h
           obtain ⟨x200, hx200, h⟩ := bno_e h
           obtain ⟨x201, hx201, h⟩ := bno_e h
           obtain ⟨x202, hx202, h⟩ := bnd_e h
           obtain ⟨x203, hx203, h⟩ := bno_e h
           obtain ⟨x204, hx204, h⟩ := bno_e h
           obtain ⟨x205, hx205, h⟩ := bnd_e h
           obtain ⟨x206, hx206, h⟩ := bnd_e h
           obtain ⟨x207, hx207, h⟩ := bno_e h
           obtain ⟨x208, hx208, h⟩ := bno_e h
           obtain ⟨x209, hx209, h⟩ := bnd_e h
           obtain ⟨x210, hx210, h⟩ := bnd_e h
           refine iwp_drw rfl [⟨[3], [0], [(68, .agg (w12 v10 v11 v12 v13))], []⟩,
            ⟨[9], [], [(69, .slice false (x163.map (eInt .i64).d))], []⟩,
            ⟨[10], [], [(70, .int .i64 v180)], []⟩,
            ⟨[69, 70], [], [(71, .fptr [.int .i64 x199])], []⟩,
            ⟨[71], [], [(72, .int .i64 x199)], []⟩,
            ⟨[68, 72], [], [(73, .int .i64 x200)], []⟩,
            ⟨[3], [0], [(74, .agg (w12 v10 v11 v12 v13))], []⟩,
            ⟨[8], [], [(75, .int .i64 x158.ID)], []⟩,
            ⟨[74, 75], [], [(76, .int .i64 x201)], []⟩,
            ⟨[73, 76], [], [(77, .bool x202)], []⟩,
            ⟨[77], [], [(78, .bool x202)], []⟩,
            ⟨[3, 78], [0], [(79, .cnd (x202 == false) (.agg (w12 v10 v11 v12 v13)))], []⟩,
            ⟨[9, 78], [], [(80, .cnd (x202 == false) (.slice false (x163.map (eInt .i64).d)))], []⟩,
            ⟨[10, 78], [], [(81, .cnd (x202 == false) (.int .i64 v180))], []⟩,
            ⟨[78, 80, 81], [], [(82, .cnd (x202 == false) (.fptr [.int .i64 x203]))], []⟩,
            ⟨[78, 82], [], [(83, .cnd (x202 == false) (.int .i64 x203))], []⟩,
            ⟨[8, 78], [], [(84, .cnd (x202 == false) (.int .i64 x158.ID))], []⟩,
            ⟨[78, 79, 83, 84], [], [(85, .cnd (x202 == false) (.int .i64 x204))], []⟩,
            ⟨[8, 78], [], [(86, .cnd (x202 == false) (.int .i64 x158.ID))], []⟩,
            ⟨[78, 85, 86], [], [(87, .cnd (x202 == false) (.bool x205))], []⟩,
            ⟨[78, 87], [], [(88, .bool x206)], []⟩,
            ⟨[88], [], [(89, .bool x206)], []⟩,
            ⟨[3, 89], [0], [(90, .cnd (x206 == false) (.agg (w12 v10 v11 v12 v13)))], []⟩,
            ⟨[8, 89], [], [(91, .cnd (x206 == false) (.int .i64 x158.ID))], []⟩,
            ⟨[9, 89], [], [(92, .cnd (x206 == false) (.slice false (x163.map (eInt .i64).d)))], []⟩,
            ⟨[10, 89], [], [(93, .cnd (x206 == false) (.int .i64 v180))], []⟩,
            ⟨[89, 92, 93], [], [(94, .cnd (x206 == false) (.fptr [.int .i64 x207]))], []⟩,
            ⟨[89, 94], [], [(95, .cnd (x206 == false) (.int .i64 x207))], []⟩,
            ⟨[89, 90, 91, 95], [], [(96, .cnd (x206 == false) (.int .i64 x208))], []⟩,
            ⟨[8, 89], [], [(97, .cnd (x206 == false) (.int .i64 x158.ID))], []⟩,
            ⟨[89, 96, 97], [], [(98, .cnd (x206 == false) (.bool x209))], []⟩,
            ⟨[89, 98], [], [(99, .bool x210)], []⟩] rfl ?_ (by kernel_rfl) ?_
           ·refine .cons (lop rfl rfl fun S hA => (iop_load_ra (cs := q4) rfl rfl (lb rfl) Try.underlying32 ag32 ti32 (by decide) (svaR hA rfl rfl) (agi hA rfl rfl) (nle rfl) rfl)) ?_
            refine .cons (lop rfl rfl fun S hA => (iop_move rfl rfl (lb rfl) (svaL hA rfl rfl))) ?_
            refine .cons (lop rfl rfl fun S hA => (iop_move rfl rfl (lb rfl) (svaI hA rfl rfl))) ?_
            refine .cons (lop rfl rfl fun S hA => (iop_idxT (eInt .i64) (cs := [.int _ _]) rfl rfl (lb rfl) Try.underlying23 ti3 (svaL hA rfl rfl) (svaI hA rfl rfl) hx199 rfl rfl)) ?_
            refine .cons (lop rfl rfl fun S hA => (iop_load_fs rfl rfl (lb rfl) Try.underlying3 ag3 ti3 (by decide) (sv (d := .fptr [.int _ _]) (agr hA rfl rfl)) (nle rfl))) ?_
            refine .cons (lop rfl rfl fun S hA => (iop_call (r := .int _ _) rfl rfl (lb rfl) cl17 (.cons (svaA q4 hA rfl rfl) (.cons (svaI hA rfl rfl) .nil)) rfl (p_fold_Depth _ _ _ hx200))) ?_
            refine .cons (lop rfl rfl fun S hA => (iop_load_ra (cs := q4) rfl rfl (lb rfl) Try.underlying32 ag32 ti32 (by decide) (svaR hA rfl rfl) (agi hA rfl rfl) (nle rfl) rfl)) ?_
            refine .cons (lop rfl rfl fun S hA => (iop_move rfl rfl (lb rfl) (svaI hA rfl rfl))) ?_
            refine .cons (lop rfl rfl fun S hA => (iop_call (r := .int _ _) rfl rfl (lb rfl) cl17 (.cons (svaA q4 hA rfl rfl) (.cons (svaI hA rfl rfl) .nil)) rfl (p_fold_Depth _ _ _ hx201))) ?_
            refine .cons (lop rfl rfl fun S hA => (iop_cmpx rfl rfl (lb rfl) (svaI hA rfl rfl) (svaI hA rfl rfl) rfl hx202)) ?_
            refine .cons (lop rfl rfl fun S hA => (iop_move rfl rfl (lb rfl) (svaB hA rfl rfl))) ?_
            refine .cons (lopg rfl rfl rfl rfl (by decide) (fun S hA => grd1 hA rfl rfl) (fun S hA hb => (iop_load_ra (cs := q4) rfl rfl (lb rfl) Try.underlying32 ag32 ti32 (by decide) (svaR hA rfl rfl) (agi hA rfl rfl) (nle rfl) rfl))) ?_
            refine .cons (lopg rfl rfl rfl rfl (by decide) (fun S hA => grd1 hA rfl rfl) (fun S hA hb => (iop_move rfl rfl (lb rfl) (svaL hA rfl rfl)))) ?_
            refine .cons (lopg rfl rfl rfl rfl (by decide) (fun S hA => grd1 hA rfl rfl) (fun S hA hb => (iop_move rfl rfl (lb rfl) (svaI hA rfl rfl)))) ?_
            refine .cons (lopg rfl rfl rfl rfl (by decide) (fun S hA => grd1 hA rfl rfl) (fun S hA hb => (iop_idxT (eInt .i64) (cs := [.int _ _]) rfl rfl (lb rfl) Try.underlying23 ti3 (svc (d := .slice _ _) (agr hA rfl rfl) hb) (svc (d := .int _ _) (agr hA rfl rfl) hb) (gd_t hx203 hb) rfl rfl))) ?_
            refine .cons (lopg rfl rfl rfl rfl (by decide) (fun S hA => grd1 hA rfl rfl) (fun S hA hb => (iop_load_fs rfl rfl (lb rfl) Try.underlying3 ag3 ti3 (by decide) (svc (d := .fptr [.int _ _]) (agr hA rfl rfl) hb) (nle rfl)))) ?_
            refine .cons (lopg rfl rfl rfl rfl (by decide) (fun S hA => grd1 hA rfl rfl) (fun S hA hb => (iop_move rfl rfl (lb rfl) (svaI hA rfl rfl)))) ?_
            refine .cons (lopg rfl rfl rfl rfl (by decide) (fun S hA => grd1 hA rfl rfl) (fun S hA hb => (iop_call (r := .int _ _) rfl rfl (lb rfl) cl19 (.cons (svc (d := .agg (w12 v10 v11 v12 v13)) (agr hA rfl rfl) hb) (.cons (svc (d := .int _ _) (agr hA rfl rfl) hb) (.cons (svc (d := .int _ _) (agr hA rfl rfl) hb) .nil))) rfl (p_fold_Meet _ _ _ _ (gd_t hx204 hb))))) ?_
            refine .cons (lopg rfl rfl rfl rfl (by decide) (fun S hA => grd1 hA rfl rfl) (fun S hA hb => (iop_move rfl rfl (lb rfl) (svaI hA rfl rfl)))) ?_
            refine .cons (lopg rfl rfl rfl rfl (by decide) (fun S hA => grd1 hA rfl rfl) (fun S hA hb => (iop_cmpx rfl rfl (lb rfl) (svc (d := .int _ _) (agr hA rfl rfl) hb) (svc (d := .int _ _) (agr hA rfl rfl) hb) rfl hx205))) ?_
            refine .cons (lop rfl rfl fun S hA => (iop_orx rfl rfl (lb rfl) (svaB hA rfl rfl) rfl (agr hA rfl rfl) hx206)) ?_
            refine .cons (lop rfl rfl fun S hA => (iop_move rfl rfl (lb rfl) (svaB hA rfl rfl))) ?_
            refine .cons (lopg rfl rfl rfl rfl (by decide) (fun S hA => grd1 hA rfl rfl) (fun S hA hb => (iop_load_ra (cs := q4) rfl rfl (lb rfl) Try.underlying32 ag32 ti32 (by decide) (svaR hA rfl rfl) (agi hA rfl rfl) (nle rfl) rfl))) ?_
            refine .cons (lopg rfl rfl rfl rfl (by decide) (fun S hA => grd1 hA rfl rfl) (fun S hA hb => (iop_move rfl rfl (lb rfl) (svaI hA rfl rfl)))) ?_
            refine .cons (lopg rfl rfl rfl rfl (by decide) (fun S hA => grd1 hA rfl rfl) (fun S hA hb => (iop_move rfl rfl (lb rfl) (svaL hA rfl rfl)))) ?_
            refine .cons (lopg rfl rfl rfl rfl (by decide) (fun S hA => grd1 hA rfl rfl) (fun S hA hb => (iop_move rfl rfl (lb rfl) (svaI hA rfl rfl)))) ?_
            refine .cons (lopg rfl rfl rfl rfl (by decide) (fun S hA => grd1 hA rfl rfl) (fun S hA hb => (iop_idxT (eInt .i64) (cs := [.int _ _]) rfl rfl (lb rfl) Try.underlying23 ti3 (svc (d := .slice _ _) (agr hA rfl rfl) hb) (svc (d := .int _ _) (agr hA rfl rfl) hb) (gd_t hx207 hb) rfl rfl))) ?_
            refine .cons (lopg rfl rfl rfl rfl (by decide) (fun S hA => grd1 hA rfl rfl) (fun S hA hb => (iop_load_fs rfl rfl (lb rfl) Try.underlying3 ag3 ti3 (by decide) (svc (d := .fptr [.int _ _]) (agr hA rfl rfl) hb) (nle rfl)))) ?_
            refine .cons (lopg rfl rfl rfl rfl (by decide) (fun S hA => grd1 hA rfl rfl) (fun S hA hb => (iop_call (r := .int _ _) rfl rfl (lb rfl) cl19 (.cons (svc (d := .agg (w12 v10 v11 v12 v13)) (agr hA rfl rfl) hb) (.cons (svc (d := .int _ _) (agr hA rfl rfl) hb) (.cons (svc (d := .int _ _) (agr hA rfl rfl) hb) .nil))) rfl (p_fold_Meet _ _ _ _ (gd_t hx208 hb))))) ?_
            refine .cons (lopg rfl rfl rfl rfl (by decide) (fun S hA => grd1 hA rfl rfl) (fun S hA hb => (iop_move rfl rfl (lb rfl) (svaI hA rfl rfl)))) ?_
            refine .cons (lopg rfl rfl rfl rfl (by decide) (fun S hA => grd1 hA rfl rfl) (fun S hA hb => (iop_cmpx rfl rfl (lb rfl) (svc (d := .int _ _) (agr hA rfl rfl) hb) (svc (d := .int _ _) (agr hA rfl rfl) hb) rfl hx209))) ?_
            refine .cons (lop rfl rfl fun S hA => (iop_orx rfl rfl (lb rfl) (svaB hA rfl rfl) rfl (agr hA rfl rfl) hx210)) ?_
            exact .nil
           refine iwp_cond (b := _) rfl (fun hc211 => ?_) (fun hc211 => ?_)
           ·
            replace h := bif_t h hc211
            refine iwp_reg (ils_cons rfl (iop_assign rfl rfl (lb rfl) (sv (d := .bool false) rfl)) <|
             ils_end ?_)
            refine iwp_ret ?_
            refine blockQ_r ?_
            refine thenQ_r ?_
            refine thenQ_r ?_
            refine blockQ_r ?_
            refine thenQ_r ?_
            refine blockQ_r ?_
            refine thenQ_r ?_
            refine thenQ_r ?_
            refine blockQ_r ?_
            refine thenQ_r ?_
            obtain rfl := Option.some.inj h
            refine ⟨.inr rfl, (.cons (sv rfl) .nil)⟩
           ·
            replace h := bif_f h hc211
            refine iwp_skip ?_
            refine blockQ_n ?_
            refine thenQ_n ?_
            obtain ⟨x212, hx212, h⟩ := bnd_e h
            refine iwp_region (ils_cons rfl (mvI rfl rfl rfl rfl) <|
             ils_cons rfl (iop_intx rfl rfl (lb rfl) (svI rfl) (sv (d := .int _ 1) rfl) rfl hx212) <|
             ils_cons rfl (asI rfl rfl rfl rfl) <|
             ils_nil ?_)
            refine thenQ_n ⟨(n2, x212), (fun i => i), ⟨(.sames rfl rfl), (.cons (.blk rfl rfl rfl) .nil), nd_of [0] rfl (by decide), fun _ _ => rfl⟩, ?_, ?_⟩
            exact h
            exact Nat.lt_succ_self _
          ·
           replace h := bif_f h hc198
           refine iwp_exit ?_
           refine thenQ_e ?_
           refine thenQ_e ?_
           refine blockQ_e ?_
           refine thenQ_n ?_
           obtain ⟨x213, hx213, h⟩ := bno_e h
           obtain ⟨x214, hx214, h⟩ := bnd_e h
           obtain ⟨x215, hx215, h⟩ := bno_e h
           obtain ⟨x216, hx216, h⟩ := bnd_e h
           obtain ⟨x217, hx217, h⟩ := bnd_e h
           refine iwp_reg (ils_cons rfl (lra q4 la32 rfl rfl rfl rfl rfl (nle rfl) rfl) <|
            ils_cons rfl (mvI rfl rfl rfl rfl) <|
            ils_cons rfl (mvI rfl rfl rfl rfl) <|
            ils_cons rfl (iop_call (r := .int _ _) rfl rfl (lb rfl) cl19 (.cons (svA q4 rfl) (.cons (svI rfl) (.cons (svI rfl) .nil))) rfl (p_fold_Meet _ _ _ _ hx213)) <|
            ils_cons rfl (mvI rfl rfl rfl rfl) <|
            ils_cons rfl (iop_cmpx rfl rfl (lb rfl) (svI rfl) (svI rfl) rfl hx214) <|
            ils_cons rfl (mvB rfl rfl rfl rfl) <|
            ils_guard rfl rfl (.one rfl) rfl (by decide) (fun hb => (lra q4 la32 rfl rfl rfl rfl rfl (nle rfl) rfl)) <|
            ils_guard rfl rfl (.one rfl) rfl (by decide) (fun hb => (mvI rfl rfl rfl rfl)) <|
            ils_guard rfl rfl (.one rfl) rfl (by decide) (fun hb => (iop_call (r := .int _ _) rfl rfl (lb rfl) cl17 (.cons (svcA (w12 v10 v11 v12 v13) rfl hb) (.cons (svcI rfl hb) .nil)) rfl (p_fold_Depth _ _ _ (gd_t hx215 hb)))) <|
            ils_guard rfl rfl (.one rfl) rfl (by decide) (fun hb => (iop_cmpx rfl rfl (lb rfl) (svcI rfl hb) (sv (d := .int _ 1) rfl) rfl hx216)) <|
            ils_cons rfl (iop_orx rfl rfl (lb rfl) (svB rfl) rfl rfl hx217) <|
            ils_end ?_)
           refine iwp_cond (b := _) rfl (fun hc218 => ?_) (fun hc218 => ?_)
           ·
            replace h := bif_t h hc218
            refine iwp_reg (ils_cons rfl (iop_assign rfl rfl (lb rfl) (sv (d := .bool false) rfl)) <|
             ils_end ?_)
            refine iwp_ret ?_
            refine blockQ_r ?_
            refine thenQ_r ?_
            refine thenQ_r ?_
            refine blockQ_r ?_
            refine thenQ_r ?_
            obtain rfl := Option.some.inj h
            refine ⟨.inr rfl, (.cons (sv rfl) .nil)⟩
           ·
            replace h := bif_f h hc218
            refine iwp_skip ?_
            refine blockQ_n ?_
            refine thenQ_n ?_
            obtain ⟨x219, hx219, h⟩ := bnd_e h
            refine iwp_region (ils_cons rfl (mvI rfl rfl rfl rfl) <|
             ils_cons rfl (iop_intx rfl rfl (lb rfl) (svI rfl) (sv (d := .int _ 1) rfl) rfl hx219) <|
             ils_cons rfl (asI rfl rfl rfl rfl) <|
             ils_nil ?_)
            refine thenQ_n ⟨(n1, x162, x160, x219), (fun i => i), ⟨(.sames rfl rfl), (.cons (.blk rfl rfl rfl) .nil), nd_of [0] rfl (by decide), fun _ _ => rfl⟩, ?_, ?_⟩
            exact h
            exact Nat.lt_succ_self _
       ·
        replace h := bif_f h hc157
        refine iwp_exit ?_
        refine thenQ_e ?_
        refine thenQ_e ?_
        refine blockQ_e ?_
        refine thenQ_n ?_
        obtain ⟨x220, hx220, h⟩ := bnd_e h
        obtain ⟨x221, hx221, h⟩ := bno_e h
        obtain ⟨x222, hx222, h⟩ := bnd_e h
        obtain ⟨x223, hx223, h⟩ := bnd_e h
        obtain ⟨x224, hx224, h⟩ := bno_e h
        obtain ⟨x225, hx225, h⟩ := bnd_e h
        refine iwp_drw rfl [⟨[5], [], [(112, .int .i64 v89)], []⟩,
         ⟨[6], [], [(113, .int .i64 v90)], []⟩,
         ⟨[112, 113], [], [(114, .bool x220)], []⟩,
         ⟨[114], [], [(115, .bool x220)], []⟩,
         ⟨[3, 115], [0], [(116, .cnd (x220 == true) (.agg (w12 v10 v11 v12 v13)))], []⟩,
         ⟨[115, 116], [], [(117, .cnd (x220 == true) (.slice false (x221.map (eInt .i64).d)))], []⟩,
         ⟨[115, 117], [], [(118, .cnd (x220 == true) (.int .i64 (x221.length : Int)))], []⟩,
         ⟨[3, 115], [], [(119, .cnd (x220 == true) (.ref 0 2))], []⟩,
         ⟨[115, 119], [0], [(120, .cnd (x220 == true) (.slice false (v12.map E_ptree_Node.d)))], []⟩,
         ⟨[115, 120], [], [(121, .cnd (x220 == true) (.int .i64 (v12.length : Int)))], []⟩,
         ⟨[115, 118, 121], [], [(122, .cnd (x220 == true) (.bool x222))], []⟩,
         ⟨[115, 122], [], [(123, .bool x223)], []⟩,
         ⟨[123], [], [(124, .bool x223)], []⟩,
         ⟨[124], [], [(125, .cnd (x223 == true) (.bool x224))], []⟩,
         ⟨[124, 125], [], [(126, .bool x225)], []⟩,
         ⟨[126], [], [(2, .bool x225)], []⟩] rfl ?_ (by kernel_rfl) ?_
        ·refine .cons (lop rfl rfl fun S hA => (iop_move rfl rfl (lb rfl) (svaI hA rfl rfl))) ?_
         refine .cons (lop rfl rfl fun S hA => (iop_move rfl rfl (lb rfl) (svaI hA rfl rfl))) ?_
         refine .cons (lop rfl rfl fun S hA => (iop_cmpx rfl rfl (lb rfl) (svaI hA rfl rfl) (svaI hA rfl rfl) rfl hx220)) ?_
         refine .cons (lop rfl rfl fun S hA => (iop_move rfl rfl (lb rfl) (svaB hA rfl rfl))) ?_
         refine .cons (lopg rfl rfl rfl rfl (by decide) (fun S hA => grd1 hA rfl rfl) (fun S hA hb => (iop_load_ra (cs := q4) rfl rfl (lb rfl) Try.underlying32 ag32 ti32 (by decide) (svaR hA rfl rfl) (agi hA rfl rfl) (nle rfl) rfl))) ?_
         refine .cons (lopg rfl rfl rfl rfl (by decide) (fun S hA => grd1 hA rfl rfl) (fun S hA hb => (iop_call (r := .slice _ _) rfl rfl (lb rfl) cl22 (.cons (svc (d := .agg (w12 v10 v11 v12 v13)) (agr hA rfl rfl) hb) (.cons (sv (d := .int _ 0) rfl) .nil)) rfl (p_fold_Below _ _ _ (gd_t hx221 hb))))) ?_
         refine .cons (lopg rfl rfl rfl rfl (by decide) (fun S hA => grd1 hA rfl rfl) (fun S hA hb => (iop_lenT (eInt .i64) (l := x221) rfl rfl (lb rfl) Try.underlying23 (svc (d := .slice _ _) (agr hA rfl rfl) hb)))) ?_
         refine .cons (lopg rfl rfl rfl rfl (by decide) (fun S hA => grd1 hA rfl rfl) (fun S hA hb => (iop_fieldAddr_ref rfl rfl (lb rfl) Try.underlying32 rfl ti30 (by decide) (svaR hA rfl rfl) (off' := 2) rfl))) ?_
         refine .cons (lopg rfl rfl rfl rfl (by decide) (fun S hA => grd1 hA rfl rfl) (fun S hA hb => (iop_load_rs (d := .slice _ _) rfl rfl (lb rfl) Try.underlying30 ag30 ti30 (by decide) (svc (d := .ref _ _) (agr hA rfl rfl) hb) (agi hA rfl rfl) (nle rfl) rfl))) ?_
         refine .cons (lopg rfl rfl rfl rfl (by decide) (fun S hA => grd1 hA rfl rfl) (fun S hA hb => (iop_lenT E_ptree_Node (l := v12) rfl rfl (lb rfl) Try.underlying30 (svc (d := .slice _ _) (agr hA rfl rfl) hb)))) ?_
         refine .cons (lopg rfl rfl rfl rfl (by decide) (fun S hA => grd1 hA rfl rfl) (fun S hA hb => (iop_cmpx rfl rfl (lb rfl) (svc (d := .int _ _) (agr hA rfl rfl) hb) (svc (d := .int _ _) (agr hA rfl rfl) hb) rfl hx222))) ?_
         refine .cons (lop rfl rfl fun S hA => (iop_andx rfl rfl (lb rfl) (svaB hA rfl rfl) (agr hA rfl rfl) rfl hx223)) ?_
         refine .cons (lop rfl rfl fun S hA => (iop_move rfl rfl (lb rfl) (svaB hA rfl rfl))) ?_
         refine .cons (lopg rfl rfl rfl rfl (by decide) (fun S hA => grd1 hA rfl rfl) (fun S hA hb => (iop_call (r := .bool _) rfl rfl (lb rfl) cl8 .nil rfl (p_sennitlaw34_awake  _ (gd_t hx224 hb))))) ?_
         refine .cons (lop rfl rfl fun S hA => (iop_andx rfl rfl (lb rfl) (svaB hA rfl rfl) (agr hA rfl rfl) rfl hx225)) ?_
         refine .cons (lop rfl rfl fun S hA => (iop_assign rfl rfl (lb rfl) (svaB hA rfl rfl))) ?_
         exact .nil
        refine iwp_ret ?_
        obtain rfl := Option.some.inj h
        refine ⟨.inr rfl, (.cons (sv rfl) .nil)⟩
end Go.Proofs.Ythjfhdlaockolaa
