/-
  A part of the proof: rules and plain facts. No condition.
-/
import Derived.Test.YthjfhdlaockolaaProg
import Derived.KernelRfl
import Derived.Test.YthjfhdlaockolaaIlSh
import Derived.Test.YthjfhdlaockolaaIlA34C2
set_option linter.all false
set_option linter.unusedSimpArgs false
set_option linter.unusedVariables false
set_option maxRecDepth 8000
set_option maxHeartbeats 2000000
open Go Go.IL Go.Fn Go.Proofs
namespace Go.Proofs.Ythjfhdlaockolaa
theorem ti27 : TI Try.prog 27 (some (.agg #[.int .u8 0, .int .i64 0, .int .i64 0, .int .i64 0, .bool false])) 5 40 := by unfold TI; kernel_rfl
theorem ag27 : aggOf Try.prog 27 = true := by kernel_rfl
theorem ag34 : aggOf Try.prog 34 = false := by kernel_rfl
theorem pl32 : ∀ w, (Array.mapM (m := Sem) (fun (f : Field) => Functor.map (Prod.mk f.offset) (sizeOf f.type)) (fieldsOf Try.prog 32)).run Try.prog w = .ok #[(0, 1), (1, 1), (2, 1), (3, 1)] w := fun w => by kernel_rfl
theorem st56 : Try.prog.stoodInHeld 56 = false ∧ Try.prog.eqGuardType Try.prog.depth 56 = false := ⟨by kernel_rfl, by kernel_rfl⟩
theorem cl8 : Callable Try.prog 8 := ⟨Try.f8, Try.func8, rfl, rfl⟩
theorem cl16 : Callable Try.prog 16 := ⟨Try.f16, Try.func16, rfl, rfl⟩
theorem cl17 : Callable Try.prog 17 := ⟨Try.f17, Try.func17, rfl, rfl⟩
theorem cl19 : Callable Try.prog 19 := ⟨Try.f19, Try.func19, rfl, rfl⟩
theorem cl21 : Callable Try.prog 21 := ⟨Try.f21, Try.func21, rfl, rfl⟩
theorem cl22 : Callable Try.prog 22 := ⟨Try.f22, Try.func22, rfl, rfl⟩
theorem cl24 : Callable Try.prog 24 := ⟨Try.f24, Try.func24, rfl, rfl⟩
theorem cl26 : Callable Try.prog 26 := ⟨Try.f26, Try.func26, rfl, rfl⟩
theorem cl49 : Callable Try.prog 49 := ⟨Try.f49, Try.func49, rfl, rfl⟩
theorem cl50 : Callable Try.prog 50 := ⟨Try.f50, Try.func50, rfl, rfl⟩
theorem cl57 : Callable Try.prog 57 := ⟨Try.f57, Try.func57, rfl, rfl⟩



theorem p_fold_Below (a0 : T_fold_State) (a1 : Int) (r : (List Int)) (h : fold_Below a0 a1 = some r) : PureAt Try.prog 22 [.agg (v0 a0), .int .i64 a1] (.slice false (r.map (eInt .i64).d)) := by
 refine pure_of_iwpF (rs := [.slice false (r.map (eInt .i64).d)]) Try.func22 rfl Try.ntmps22 (nle rfl) rfl fun O hO => ?_
 show IWP _ _ _ _ ⟨[(0, .agg (v0 a0)), (1, .int .i64 a1)], []⟩ _
 unfold fold_Below at h
 refine iwp_reg (ils_cons rfl (iop_box' (cs := q4) 0 rfl rfl (lb rfl) rfl (svA q4 rfl) rfl rfl) <|
  ils_cons rfl (iop_assign rfl rfl (lb rfl) (sv (d := .nils) rfl)) <|
  ils_end ?_)
 refine iwp_seq ?_
 obtain ⟨x1, hx1, h⟩ := bno_e h
 obtain ⟨x2, hx2, h⟩ := bnd_e h
 obtain ⟨x3, hx3, h⟩ := bnd_e h
 obtain ⟨x4, hx4, h⟩ := bno_e h
 obtain ⟨x5, hx5, h⟩ := bnd_e h
 obtain ⟨x6, hx6, h⟩ := bnd_e h
 refine iwp_reg (ils_cons rfl (lra q4 la32 rfl rfl rfl rfl rfl (nle rfl) rfl) <|
  ils_cons rfl (iop_call (r := .int _ _) rfl rfl (lb rfl) cl14 (.cons (svA q4 rfl) .nil) rfl (p_fold_Check _ _ hx1)) <|
  ils_cons rfl (iop_cmpx rfl rfl (lb rfl) (svI rfl) (sv (d := .int _ 0) rfl) rfl hx2) <|
  ils_cons rfl (mvB rfl rfl rfl rfl) <|
  ils_guard rfl rfl (.one rfl) rfl (by decide) (fun hb => (mvI rfl rfl rfl rfl)) <|
  ils_guard rfl rfl (.one rfl) rfl (by decide) (fun hb => (iop_cmpx rfl rfl (lb rfl) (svcI rfl hb) (sv (d := .int _ 0) rfl) rfl hx3)) <|
  ils_guard rfl rfl (.one rfl) rfl (by decide) (fun hb => (iop_move rfl rfl (lb rfl) (svcB rfl hb))) <|
  ils_guard rfl rfl (.two rfl) rfl (by decide) (fun hb => (lra q4 la32 rfl rfl rfl rfl rfl (nle rfl) rfl)) <|
  ils_guard rfl rfl (.two rfl) rfl (by decide) (fun hb => (mvI rfl rfl rfl rfl)) <|
  ils_guard rfl rfl (.two rfl) rfl (by decide) (fun hb => (iop_call (r := .bool _) rfl rfl (lb rfl) cl51 (.cons (svcA (v0 a0) rfl hb) (.cons (svcI rfl hb) .nil)) rfl (p_fold_State_there _ _ _ (gd_t hx4 hb)))) <|
  ils_guard rfl rfl (.two rfl) rfl (by decide) (fun hb => (iop_not rfl rfl (lb rfl) (svcB rfl hb))) <|
  ils_guard rfl rfl (.one rfl) rfl (by decide) (fun hb => (iop_and2x rfl rfl (lb rfl) hb (svcB rfl hb) rfl rfl hx5)) <|
  ils_cons rfl (iop_orx rfl rfl (lb rfl) (svB rfl) rfl rfl hx6) <|
  ils_end ?_)
 refine iwp_cond (b := _) rfl (fun hc7 => ?_) (fun hc7 => ?_)
 ·
  replace h := bif_t h hc7
  refine iwp_reg (ils_cons rfl (iop_assign rfl rfl (lb rfl) (sv (d := .nils) rfl)) <|
   ils_end ?_)
  refine iwp_ret ?_
  refine thenQ_r ?_
  obtain rfl := Option.some.inj h
  refine ⟨.inr rfl, _, (.cons (sv rfl) .nil), (.cons (.nils _) .nil)⟩
 ·
  replace h := bif_f h hc7
  refine iwp_skip ?_
  refine thenQ_n ?_
  refine iwp_reg (ils_cons rfl (iop_allocS (cs := [.nils]) (cs' := [.nils]) 1 rfl rfl (lb rfl) rfl ti23 rfl rfl (.all _)) <|
   ils_end ?_)
  refine iwp_reg (ils_cons rfl (iop_allocS (cs := [.nilf]) (cs' := [.nilf]) 2 rfl rfl (lb rfl) rfl ti86 rfl rfl (.all _)) <|
   ils_end ?_)
  refine iwp_reg (ils_cons rfl (iop_makeFunc rfl rfl (lb rfl) (.cons (svR rfl) (.cons (svR rfl) (.cons (svR rfl) .nil)))) <|
   ils_cons rfl (iop_store (ds' := [.fn 56 q8]) rfl rfl ti86 (svR rfl) rfl (sv (d := .fn 56 q8) rfl) rfl rfl rfl (nle rfl) rfl) <|
   ils_end ?_)
  obtain ⟨x8, hx8, h⟩ := bno_e h
  refine iwp_reg (ils_cons rfl (iop_load_rs (d := .fn 56 q8) rfl rfl (lb rfl) Try.underlying86 ag86 ti86 (by decide) (svR rfl) rfl (nle rfl) rfl) <|
   ils_cons rfl (mvI rfl rfl rfl rfl) <|
   ils_cons rfl (iop_callvh2 (r' := .tuple []) (H1' := [(0, .blk 32 (v0 a0)), (1, .blk 23 [.osl 3 (eInt .i64).sz x8.length]), (2, .blk 86 [.fn 56 [.ref 0 0, .ref 1 0, .ref 2 0]]), (3, .blk 3 (D.flat (x8.map (eInt .i64).d)))]) 3 [0, 1, 2] rfl rfl (lb rfl) cl56 (sv (d := .fn 56 q8) rfl) (.cons (svI rfl) .nil) rfl rfl ⟨rfl, rfl, by decide, rfl, List.forall_mem_cons.2 ⟨⟨rfl, rfl, rfl, rfl⟩, List.forall_mem_cons.2 ⟨⟨rfl, rfl, rfl, rfl⟩, List.forall_mem_cons.2 ⟨⟨rfl, rfl, rfl, rfl⟩, List.forall_mem_nil _⟩⟩⟩⟩ (p_fold_Below_1_h _ _ _ hx8) rfl rfl (List.forall_mem_cons.2 ⟨⟨rfl, rfl⟩, List.forall_mem_cons.2 ⟨⟨rfl, rfl⟩, List.forall_mem_cons.2 ⟨⟨rfl, rfl⟩, List.forall_mem_cons.2 ⟨⟨rfl, (handLr (eInt .i64))⟩, List.forall_mem_nil _⟩⟩⟩⟩) (by simp only [List.map_cons, List.map_nil, Ent.ren, renL_flat, renL_ref]; rfl)) <|
   ils_end ?_)
  obtain ⟨x9, hx9, h⟩ := bno_e h
  obtain ⟨hk10, h⟩ := chk_e h
  refine iwp_reg (ils_cons rfl (iop_load_rs (d := .osl _ _ _) rfl rfl (lb rfl) Try.underlying23 ag23 ti23 (by decide) (svR rfl) rfl (nle rfl) rfl) <|
   ils_cons rfl (iop_callh2 (r' := .tuple []) (H1' := [(3, .blk 3 (D.flat (x9.map (eInt .i64).d)))]) 4 [3] rfl rfl (lb rfl) cl57 (.cons (sv (d := .osl _ _ _) rfl) .nil) rfl rfl ⟨rfl, rfl, by decide, rfl, List.forall_mem_cons.2 ⟨⟨rfl, rfl, (handL (eInt .i64) rfl), (handLr (eInt .i64))⟩, List.forall_mem_nil _⟩⟩ (p_slices_Sort_int_int_h _ _ hx9) rfl rfl (List.forall_mem_cons.2 ⟨⟨rfl, (handLr (eInt .i64))⟩, List.forall_mem_nil _⟩) (by simp only [List.map_cons, List.map_nil, Ent.ren, renL_flat, renL_ref]; rfl)) <|
   ils_end ?_)
  refine iwp_reg (ils_cons rfl (iop_load_rs (d := .osl _ _ _) rfl rfl (lb rfl) Try.underlying23 ag23 ti23 (by decide) (svR rfl) rfl (nle rfl) rfl) <|
   ils_cons rfl (iop_assign rfl rfl (lb rfl) (sv (d := .osl _ _ _) rfl)) <|
   ils_end ?_)
  refine iwp_ret ?_
  obtain rfl := Option.some.inj h
  refine ⟨.inr rfl, _, (.cons (sv rfl) .nil), (.cons (FDT (eInt .i64) rfl hk10) .nil)⟩

theorem p_sennitref02_SameInts (a0 : (List Int)) (a1 : (List Int)) (r : Bool) (h : sennitref02_SameInts a0 a1 = some r) : PureAt Try.prog 21 [.slice false (a0.map (eInt .i64).d), .slice false (a1.map (eInt .i64).d)] (.bool r) := by
 refine pure_of_iwp (rs := [.bool r]) Try.func21 rfl Try.ntmps21 (nle rfl) rfl fun O hO => ?_
 show IWP _ _ _ _ ⟨[(0, .slice false (a0.map (eInt .i64).d)), (1, .slice false (a1.map (eInt .i64).d))], []⟩ _
 unfold sennitref02_SameInts at h
 refine iwp_reg (ils_cons rfl (iop_assign rfl rfl (lb rfl) (sv (d := .bool false) rfl)) <|
  ils_end ?_)
 refine iwp_seq ?_
 obtain ⟨x1, hx1, h⟩ := bnd_e h
 refine iwp_reg (ils_cons rfl (mvL rfl rfl rfl rfl) <|
  ils_cons rfl (iop_lenT (eInt .i64) (l := a0) rfl rfl (lb rfl) Try.underlying23 (svL rfl)) <|
  ils_cons rfl (mvL rfl rfl rfl rfl) <|
  ils_cons rfl (iop_lenT (eInt .i64) (l := a1) rfl rfl (lb rfl) Try.underlying23 (svL rfl)) <|
  ils_cons rfl (iop_cmpx rfl rfl (lb rfl) (svI rfl) (svI rfl) rfl hx1) <|
  ils_end ?_)
 refine iwp_cond (b := _) rfl (fun hc2 => ?_) (fun hc2 => ?_)
 ·
  replace h := bif_t h hc2
  refine iwp_reg (ils_cons rfl (iop_assign rfl rfl (lb rfl) (sv (d := .bool false) rfl)) <|
   ils_end ?_)
  refine iwp_ret ?_
  refine thenQ_r ?_
  obtain rfl := Option.some.inj h
  refine ⟨.inr rfl, (.cons (sv rfl) .nil)⟩
 ·
  replace h := bif_f h hc2
  refine iwp_skip ?_
  refine thenQ_n ?_
  refine iwp_seq ?_
  refine iwp_reg (ils_cons rfl (iop_assign rfl rfl (lb rfl) (sv (d := .int _ 0) rfl)) <|
   ils_end ?_)
  refine iwp_block ?_
  refine iwp_loopP (α := Nat × Int) (fun z => ⟨[(0, .slice false (a0.map (eInt .i64).d)), (1, .slice false (a1.map (eInt .i64).d)), (5, .int .i64 z.2)], []⟩) (fun z => sennitref02_SameInts_L0 a0 a1 z.1 z.2 = some r) (fun z => z.1) (fuel, 0) (fun i => i) ⟨(.sames rfl rfl), .nil, nd_of [] rfl (by decide), fun _ _ => rfl⟩ ?_ ?_
  ·exact h
  ·
   rintro ⟨n0, v10⟩ h
   cases n0 with
   | zero => exact absurd h (by unfold sennitref02_SameInts_L0; exact nofun)
   | succ n0 =>
    unfold sennitref02_SameInts_L0 at h
    refine iwp_seq ?_
    obtain ⟨x18, hx18, h⟩ := bnd_e h
    refine iwp_reg (ils_cons rfl (mvI rfl rfl rfl rfl) <|
     ils_cons rfl (mvL rfl rfl rfl rfl) <|
     ils_cons rfl (iop_lenT (eInt .i64) (l := a0) rfl rfl (lb rfl) Try.underlying23 (svL rfl)) <|
     ils_cons rfl (iop_cmpx rfl rfl (lb rfl) (svI rfl) (svI rfl) rfl hx18) <|
     ils_end ?_)
    refine iwp_cond (b := _) rfl (fun hc19 => ?_) (fun hc19 => ?_)
    ·
     replace h := bif_t h hc19
     refine iwp_skip ?_
     refine thenQ_n ?_
     refine iwp_seq ?_
     refine iwp_block ?_
     obtain ⟨x20, hx20, h⟩ := bno_e h
     obtain ⟨x21, hx21, h⟩ := bno_e h
     obtain ⟨x22, hx22, h⟩ := bnd_e h
     refine iwp_drw rfl [⟨[0], [], [(17, .slice false (a0.map (eInt .i64).d))], []⟩,
      ⟨[5], [], [(18, .int .i64 v10)], []⟩,
      ⟨[17, 18], [], [(19, .fptr [.int .i64 x20])], []⟩,
      ⟨[19], [], [(20, .int .i64 x20)], []⟩,
      ⟨[1], [], [(21, .slice false (a1.map (eInt .i64).d))], []⟩,
      ⟨[5], [], [(22, .int .i64 v10)], []⟩,
      ⟨[21, 22], [], [(23, .fptr [.int .i64 x21])], []⟩,
      ⟨[23], [], [(24, .int .i64 x21)], []⟩,
      ⟨[20, 24], [], [(25, .bool x22)], []⟩] rfl ?_ (by kernel_rfl) ?_
     ·refine .cons (lop rfl rfl fun S hA => (iop_move rfl rfl (lb rfl) (svaL hA rfl rfl))) ?_
      refine .cons (lop rfl rfl fun S hA => (iop_move rfl rfl (lb rfl) (svaI hA rfl rfl))) ?_
      refine .cons (lop rfl rfl fun S hA => (iop_idxT (eInt .i64) (cs := [.int _ _]) rfl rfl (lb rfl) Try.underlying23 ti3 (svaL hA rfl rfl) (svaI hA rfl rfl) hx20 rfl rfl)) ?_
      refine .cons (lop rfl rfl fun S hA => (iop_load_fs rfl rfl (lb rfl) Try.underlying3 ag3 ti3 (by decide) (sv (d := .fptr [.int _ _]) (agr hA rfl rfl)) (nle rfl))) ?_
      refine .cons (lop rfl rfl fun S hA => (iop_move rfl rfl (lb rfl) (svaL hA rfl rfl))) ?_
      refine .cons (lop rfl rfl fun S hA => (iop_move rfl rfl (lb rfl) (svaI hA rfl rfl))) ?_
      refine .cons (lop rfl rfl fun S hA => (iop_idxT (eInt .i64) (cs := [.int _ _]) rfl rfl (lb rfl) Try.underlying23 ti3 (svaL hA rfl rfl) (svaI hA rfl rfl) hx21 rfl rfl)) ?_
      refine .cons (lop rfl rfl fun S hA => (iop_load_fs rfl rfl (lb rfl) Try.underlying3 ag3 ti3 (by decide) (sv (d := .fptr [.int _ _]) (agr hA rfl rfl)) (nle rfl))) ?_
      refine .cons (lop rfl rfl fun S hA => (iop_cmpx rfl rfl (lb rfl) (svaI hA rfl rfl) (svaI hA rfl rfl) rfl hx22)) ?_
      exact .nil
     refine iwp_cond (b := _) rfl (fun hc23 => ?_) (fun hc23 => ?_)
     ·
      replace h := bif_t h hc23
      refine iwp_reg (ils_cons rfl (iop_assign rfl rfl (lb rfl) (sv (d := .bool false) rfl)) <|
       ils_end ?_)
      refine iwp_ret ?_
      refine blockQ_r ?_
      refine thenQ_r ?_
      refine thenQ_r ?_
      refine blockQ_r ?_
      refine thenQ_r ?_
      obtain rfl := Option.some.inj h
      refine ⟨.inr rfl, (.cons (sv rfl) .nil)⟩
     ·
      replace h := bif_f h hc23
      refine iwp_skip ?_
      refine blockQ_n ?_
      refine thenQ_n ?_
      obtain ⟨x24, hx24, h⟩ := bnd_e h
      refine iwp_region (ils_cons rfl (mvI rfl rfl rfl rfl) <|
       ils_cons rfl (iop_intx rfl rfl (lb rfl) (svI rfl) (sv (d := .int _ 1) rfl) rfl hx24) <|
       ils_cons rfl (asI rfl rfl rfl rfl) <|
       ils_nil ?_)
      refine thenQ_n ⟨(n0, x24), (fun i => i), ⟨(.sames rfl rfl), .nil, nd_of [] rfl (by decide), fun _ _ => rfl⟩, ?_, ?_⟩
      exact h
      exact Nat.lt_succ_self _
    ·
     replace h := bif_f h hc19
     refine iwp_exit ?_
     refine thenQ_e ?_
     refine thenQ_e ?_
     refine blockQ_e ?_
     refine thenQ_n ?_
     refine iwp_reg (ils_cons rfl (iop_assign rfl rfl (lb rfl) (sv (d := .bool true) rfl)) <|
      ils_end ?_)
     refine iwp_ret ?_
     obtain rfl := Option.some.inj h
     refine ⟨.inr rfl, (.cons (sv rfl) .nil)⟩

theorem p_fold_Sum (a0 : T_fold_State) (a1 : Int) (r : Int) (h : fold_Sum a0 a1 = some r) : PureAt Try.prog 24 [.agg (v0 a0), .int .i64 a1] (.int .i64 r) := by
 refine pure_of_iwp (rs := [.int .i64 r]) Try.func24 rfl Try.ntmps24 (nle rfl) rfl fun O hO => ?_
 show IWP _ _ _ _ ⟨[(0, .agg (v0 a0)), (1, .int .i64 a1)], []⟩ _
 unfold fold_Sum at h
 refine iwp_reg (ils_cons rfl (iop_box' (cs := q4) 0 rfl rfl (lb rfl) rfl (svA q4 rfl) rfl rfl) <|
  ils_cons rfl (iop_assign rfl rfl (lb rfl) (sv (d := .int _ 0) rfl)) <|
  ils_end ?_)
 refine iwp_seq ?_
 obtain ⟨x1, hx1, h⟩ := bno_e h
 obtain ⟨x2, hx2, h⟩ := bnd_e h
 obtain ⟨x3, hx3, h⟩ := bnd_e h
 obtain ⟨x4, hx4, h⟩ := bno_e h
 obtain ⟨x5, hx5, h⟩ := bnd_e h
 obtain ⟨x6, hx6, h⟩ := bnd_e h
 refine iwp_reg (ils_cons rfl (lra q4 la32 rfl rfl rfl rfl rfl (nle rfl) rfl) <|
  ils_cons rfl (iop_call (r := .int _ _) rfl rfl (lb rfl) cl14 (.cons (svA q4 rfl) .nil) rfl (p_fold_Check _ _ hx1)) <|
  ils_cons rfl (iop_cmpx rfl rfl (lb rfl) (svI rfl) (sv (d := .int _ 0) rfl) rfl hx2) <|
  ils_cons rfl (mvB rfl rfl rfl rfl) <|
  ils_guard rfl rfl (.one rfl) rfl (by decide) (fun hb => (mvI rfl rfl rfl rfl)) <|
  ils_guard rfl rfl (.one rfl) rfl (by decide) (fun hb => (iop_cmpx rfl rfl (lb rfl) (svcI rfl hb) (sv (d := .int _ 0) rfl) rfl hx3)) <|
  ils_guard rfl rfl (.one rfl) rfl (by decide) (fun hb => (iop_move rfl rfl (lb rfl) (svcB rfl hb))) <|
  ils_guard rfl rfl (.two rfl) rfl (by decide) (fun hb => (lra q4 la32 rfl rfl rfl rfl rfl (nle rfl) rfl)) <|
  ils_guard rfl rfl (.two rfl) rfl (by decide) (fun hb => (mvI rfl rfl rfl rfl)) <|
  ils_guard rfl rfl (.two rfl) rfl (by decide) (fun hb => (iop_call (r := .bool _) rfl rfl (lb rfl) cl51 (.cons (svcA (v0 a0) rfl hb) (.cons (svcI rfl hb) .nil)) rfl (p_fold_State_there _ _ _ (gd_t hx4 hb)))) <|
  ils_guard rfl rfl (.two rfl) rfl (by decide) (fun hb => (iop_not rfl rfl (lb rfl) (svcB rfl hb))) <|
  ils_guard rfl rfl (.one rfl) rfl (by decide) (fun hb => (iop_and2x rfl rfl (lb rfl) hb (svcB rfl hb) rfl rfl hx5)) <|
  ils_cons rfl (iop_orx rfl rfl (lb rfl) (svB rfl) rfl rfl hx6) <|
  ils_end ?_)
 refine iwp_cond (b := _) rfl (fun hc7 => ?_) (fun hc7 => ?_)
 ·
  replace h := bif_t h hc7
  refine iwp_reg (ils_cons rfl (iop_assign rfl rfl (lb rfl) (sv (d := .int _ 0) rfl)) <|
   ils_end ?_)
  refine iwp_ret ?_
  refine thenQ_r ?_
  obtain rfl := Option.some.inj h
  refine ⟨.inr rfl, (.cons (sv rfl) .nil)⟩
 ·
  replace h := bif_f h hc7
  refine iwp_skip ?_
  refine thenQ_n ?_
  obtain ⟨x8, hx8, h⟩ := bno_e h
  refine iwp_reg (ils_cons rfl (lra q4 la32 rfl rfl rfl rfl rfl (nle rfl) rfl) <|
   ils_cons rfl (mvI rfl rfl rfl rfl) <|
   ils_cons rfl (iop_call (r := .int _ _) rfl rfl (lb rfl) cl58 (.cons (svA q4 rfl) (.cons (svI rfl) .nil)) rfl (p_fold_State_sum _ _ _ hx8)) <|
   ils_cons rfl (asI rfl rfl rfl rfl) <|
   ils_end ?_)
  refine iwp_ret ?_
  obtain rfl := Option.some.inj h
  refine ⟨.inr rfl, (.cons (sv rfl) .nil)⟩

theorem p_slices_Equal_ptree_Node_ptree_Node (a0 : (List T_ptree_Node)) (a1 : (List T_ptree_Node)) (r : Bool) (h : slices_Equal_ptree_Node_ptree_Node a0 a1 = some r) : PureAt Try.prog 49 [.slice false (a0.map E_ptree_Node.d), .slice false (a1.map E_ptree_Node.d)] (.bool r) := by
 refine pure_of_iwp (rs := [.bool r]) Try.func49 rfl Try.ntmps49 (nle rfl) rfl fun O hO => ?_
 show IWP _ _ _ _ ⟨[(0, .slice false (a0.map E_ptree_Node.d)), (1, .slice false (a1.map E_ptree_Node.d))], []⟩ _
 unfold slices_Equal_ptree_Node_ptree_Node at h
 refine iwp_reg (ils_cons rfl (iop_assign rfl rfl (lb rfl) (sv (d := .bool false) rfl)) <|
  ils_end ?_)
 refine iwp_seq ?_
 obtain ⟨x1, hx1, h⟩ := bnd_e h
 refine iwp_reg (ils_cons rfl (mvL rfl rfl rfl rfl) <|
  ils_cons rfl (iop_lenT E_ptree_Node (l := a0) rfl rfl (lb rfl) Try.underlying30 (svL rfl)) <|
  ils_cons rfl (mvL rfl rfl rfl rfl) <|
  ils_cons rfl (iop_lenT E_ptree_Node (l := a1) rfl rfl (lb rfl) Try.underlying30 (svL rfl)) <|
  ils_cons rfl (iop_cmpx rfl rfl (lb rfl) (svI rfl) (svI rfl) rfl hx1) <|
  ils_end ?_)
 refine iwp_cond (b := _) rfl (fun hc2 => ?_) (fun hc2 => ?_)
 ·
  replace h := bif_t h hc2
  refine iwp_reg (ils_cons rfl (iop_assign rfl rfl (lb rfl) (sv (d := .bool false) rfl)) <|
   ils_end ?_)
  refine iwp_ret ?_
  refine thenQ_r ?_
  obtain rfl := Option.some.inj h
  refine ⟨.inr rfl, (.cons (sv rfl) .nil)⟩
 ·
  replace h := bif_f h hc2
  refine iwp_skip ?_
  refine thenQ_n ?_
  refine iwp_seq ?_
  refine iwp_reg (ils_cons rfl (mvL rfl rfl rfl rfl) <|
   ils_cons rfl (iop_lenT E_ptree_Node (l := a0) rfl rfl (lb rfl) Try.underlying30 (svL rfl)) <|
   ils_cons rfl (iop_move rfl rfl (lb rfl) (sv (d := .int _ 0) rfl)) <|
   ils_end ?_)
  refine iwp_block ?_
  refine iwp_loopP (α := Nat × Int) (fun z => ⟨[(0, .slice false (a0.map E_ptree_Node.d)), (1, .slice false (a1.map E_ptree_Node.d)), (12, .int .i64 (a0.length : Int)), (13, .int .i64 z.2)], []⟩) (fun z => slices_Equal_ptree_Node_ptree_Node_L0 a0 a1 z.1 z.2 = some r) (fun z => z.1) (fuel, 0) (fun i => i) ⟨(.sames rfl rfl), .nil, nd_of [] rfl (by decide), fun _ _ => rfl⟩ ?_ ?_
  ·exact h
  ·
   rintro ⟨n0, v10⟩ h
   cases n0 with
   | zero => exact absurd h (by unfold slices_Equal_ptree_Node_ptree_Node_L0; exact nofun)
   | succ n0 =>
    unfold slices_Equal_ptree_Node_ptree_Node_L0 at h
    obtain ⟨x18, hx18, h⟩ := bnd_e h
    refine iwp_reg (ils_cons rfl (iop_cmpx rfl rfl (lb rfl) (svI rfl) (svI rfl) rfl hx18) <|
     ils_end ?_)
    refine iwp_seq ?_
    refine iwp_cond (b := _) rfl (fun hc19 => ?_) (fun hc19 => ?_)
    ·
     replace h := bif_t h hc19
     refine iwp_skip ?_
     refine thenQ_n ?_
     refine iwp_seq ?_
     refine iwp_block ?_
     refine iwp_reg (ils_cons rfl (mvI rfl rfl rfl rfl) <|
      ils_cons rfl (asI rfl rfl rfl rfl) <|
      ils_end ?_)
     obtain ⟨x20, hx20, h⟩ := bno_e h
     obtain ⟨x21, hx21, h⟩ := bno_e h
     obtain ⟨x22, hx22, h⟩ := bnd_e h
     refine iwp_drw rfl [⟨[0], [], [(16, .slice false (a0.map E_ptree_Node.d))], []⟩,
      ⟨[5], [], [(17, .int .i64 v10)], []⟩,
      ⟨[16, 17], [], [(18, .fptr (v2 x20))], []⟩,
      ⟨[18], [], [(19, .agg (v2 x20))], []⟩,
      ⟨[1], [], [(20, .slice false (a1.map E_ptree_Node.d))], []⟩,
      ⟨[5], [], [(21, .int .i64 v10)], []⟩,
      ⟨[20, 21], [], [(22, .fptr (v2 x21))], []⟩,
      ⟨[22], [], [(23, .agg (v2 x21))], []⟩,
      ⟨[19, 23], [], [(24, .bool (!x22))], []⟩] rfl ?_ (by kernel_rfl) ?_
     ·refine .cons (lop rfl rfl fun S hA => (iop_move rfl rfl (lb rfl) (svaL hA rfl rfl))) ?_
      refine .cons (lop rfl rfl fun S hA => (iop_move rfl rfl (lb rfl) (svaI hA rfl rfl))) ?_
      refine .cons (lop rfl rfl fun S hA => (iop_idxT E_ptree_Node (cs := q6) rfl rfl (lb rfl) Try.underlying30 ti56 (svaL hA rfl rfl) (svaI hA rfl rfl) hx20 rfl rfl)) ?_
      refine .cons (lop rfl rfl fun S hA => (iop_load_fa (cs := q6) rfl rfl (lb rfl) Try.underlying56 ag56 ti56 (by decide) (sv (d := .fptr q6) (agr hA rfl rfl)) (nle rfl) rfl)) ?_
      refine .cons (lop rfl rfl fun S hA => (iop_move rfl rfl (lb rfl) (svaL hA rfl rfl))) ?_
      refine .cons (lop rfl rfl fun S hA => (iop_move rfl rfl (lb rfl) (svaI hA rfl rfl))) ?_
      refine .cons (lop rfl rfl fun S hA => (iop_idxT E_ptree_Node (cs := q6) rfl rfl (lb rfl) Try.underlying30 ti56 (svaL hA rfl rfl) (svaI hA rfl rfl) hx21 rfl rfl)) ?_
      refine .cons (lop rfl rfl fun S hA => (iop_load_fa (cs := q6) rfl rfl (lb rfl) Try.underlying56 ag56 ti56 (by decide) (sv (d := .fptr q6) (agr hA rfl rfl)) (nle rfl) rfl)) ?_
      refine .cons (lop rfl rfl fun S hA => (iop_nes rfl rfl (lb rfl) Try.underlying56 st56.1 st56.2 (svaA q6 hA rfl rfl) (svaA q6 hA rfl rfl) (congrArg some hx22))) ?_
      exact .nil
     refine iwp_cond (b := _) rfl (fun hc23 => ?_) (fun hc23 => ?_)
     ·
      replace h := bif_t h hc23
      refine iwp_reg (ils_cons rfl (iop_assign rfl rfl (lb rfl) (sv (d := .bool false) rfl)) <|
       ils_end ?_)
      refine iwp_ret ?_
      refine blockQ_r ?_
      refine thenQ_r ?_
      refine thenQ_r ?_
      refine blockQ_r ?_
      refine thenQ_r ?_
      obtain rfl := Option.some.inj h
      refine ⟨.inr rfl, (.cons (sv rfl) .nil)⟩
     ·
      replace h := bif_f h hc23
      refine iwp_skip ?_
      refine blockQ_n ?_
      refine thenQ_n ?_
      obtain ⟨x24, hx24, h⟩ := bnd_e h
      refine iwp_region (ils_cons rfl (iop_intx rfl rfl (lb rfl) (svI rfl) (sv (d := .int _ 1) rfl) rfl hx24) <|
       ils_cons rfl (mvI rfl rfl rfl rfl) <|
       ils_nil ?_)
      refine thenQ_n ⟨(n0, x24), (fun i => i), ⟨(.sames rfl rfl), .nil, nd_of [] rfl (by decide), fun _ _ => rfl⟩, ?_, ?_⟩
      exact h
      exact Nat.lt_succ_self _
    ·
     replace h := bif_f h hc19
     refine iwp_exit ?_
     refine thenQ_e ?_
     refine thenQ_e ?_
     refine blockQ_e ?_
     refine thenQ_n ?_
     refine iwp_reg (ils_cons rfl (iop_assign rfl rfl (lb rfl) (sv (d := .bool true) rfl)) <|
      ils_end ?_)
     refine iwp_ret ?_
     obtain rfl := Option.some.inj h
     refine ⟨.inr rfl, (.cons (sv rfl) .nil)⟩

theorem p_slices_Equal_int_int (a0 : (List Int)) (a1 : (List Int)) (r : Bool) (h : slices_Equal_int_int a0 a1 = some r) : PureAt Try.prog 50 [.slice false (a0.map (eInt .i64).d), .slice false (a1.map (eInt .i64).d)] (.bool r) := by
 refine pure_of_iwp (rs := [.bool r]) Try.func50 rfl Try.ntmps50 (nle rfl) rfl fun O hO => ?_
 show IWP _ _ _ _ ⟨[(0, .slice false (a0.map (eInt .i64).d)), (1, .slice false (a1.map (eInt .i64).d))], []⟩ _
 unfold slices_Equal_int_int at h
 refine iwp_reg (ils_cons rfl (iop_assign rfl rfl (lb rfl) (sv (d := .bool false) rfl)) <|
  ils_end ?_)
 refine iwp_seq ?_
 obtain ⟨x1, hx1, h⟩ := bnd_e h
 refine iwp_reg (ils_cons rfl (mvL rfl rfl rfl rfl) <|
  ils_cons rfl (iop_lenT (eInt .i64) (l := a0) rfl rfl (lb rfl) Try.underlying23 (svL rfl)) <|
  ils_cons rfl (mvL rfl rfl rfl rfl) <|
  ils_cons rfl (iop_lenT (eInt .i64) (l := a1) rfl rfl (lb rfl) Try.underlying23 (svL rfl)) <|
  ils_cons rfl (iop_cmpx rfl rfl (lb rfl) (svI rfl) (svI rfl) rfl hx1) <|
  ils_end ?_)
 refine iwp_cond (b := _) rfl (fun hc2 => ?_) (fun hc2 => ?_)
 ·
  replace h := bif_t h hc2
  refine iwp_reg (ils_cons rfl (iop_assign rfl rfl (lb rfl) (sv (d := .bool false) rfl)) <|
   ils_end ?_)
  refine iwp_ret ?_
  refine thenQ_r ?_
  obtain rfl := Option.some.inj h
  refine ⟨.inr rfl, (.cons (sv rfl) .nil)⟩
 ·
  replace h := bif_f h hc2
  refine iwp_skip ?_
  refine thenQ_n ?_
  refine iwp_seq ?_
  refine iwp_reg (ils_cons rfl (mvL rfl rfl rfl rfl) <|
   ils_cons rfl (iop_lenT (eInt .i64) (l := a0) rfl rfl (lb rfl) Try.underlying23 (svL rfl)) <|
   ils_cons rfl (iop_move rfl rfl (lb rfl) (sv (d := .int _ 0) rfl)) <|
   ils_end ?_)
  refine iwp_block ?_
  refine iwp_loopP (α := Nat × Int) (fun z => ⟨[(0, .slice false (a0.map (eInt .i64).d)), (1, .slice false (a1.map (eInt .i64).d)), (12, .int .i64 (a0.length : Int)), (13, .int .i64 z.2)], []⟩) (fun z => slices_Equal_int_int_L0 a0 a1 z.1 z.2 = some r) (fun z => z.1) (fuel, 0) (fun i => i) ⟨(.sames rfl rfl), .nil, nd_of [] rfl (by decide), fun _ _ => rfl⟩ ?_ ?_
  ·exact h
  ·
   rintro ⟨n0, v10⟩ h
   cases n0 with
   | zero => exact absurd h (by unfold slices_Equal_int_int_L0; exact nofun)
   | succ n0 =>
    unfold slices_Equal_int_int_L0 at h
    obtain ⟨x18, hx18, h⟩ := bnd_e h
    refine iwp_reg (ils_cons rfl (iop_cmpx rfl rfl (lb rfl) (svI rfl) (svI rfl) rfl hx18) <|
     ils_end ?_)
    refine iwp_seq ?_
    refine iwp_cond (b := _) rfl (fun hc19 => ?_) (fun hc19 => ?_)
    ·
     replace h := bif_t h hc19
     refine iwp_skip ?_
     refine thenQ_n ?_
     refine iwp_seq ?_
     refine iwp_block ?_
     refine iwp_reg (ils_cons rfl (mvI rfl rfl rfl rfl) <|
      ils_cons rfl (asI rfl rfl rfl rfl) <|
      ils_end ?_)
     obtain ⟨x20, hx20, h⟩ := bno_e h
     obtain ⟨x21, hx21, h⟩ := bno_e h
     obtain ⟨x22, hx22, h⟩ := bnd_e h
     refine iwp_drw rfl [⟨[0], [], [(16, .slice false (a0.map (eInt .i64).d))], []⟩,
      ⟨[5], [], [(17, .int .i64 v10)], []⟩,
      ⟨[16, 17], [], [(18, .fptr [.int .i64 x20])], []⟩,
      ⟨[18], [], [(19, .int .i64 x20)], []⟩,
      ⟨[1], [], [(20, .slice false (a1.map (eInt .i64).d))], []⟩,
      ⟨[5], [], [(21, .int .i64 v10)], []⟩,
      ⟨[20, 21], [], [(22, .fptr [.int .i64 x21])], []⟩,
      ⟨[22], [], [(23, .int .i64 x21)], []⟩,
      ⟨[19, 23], [], [(24, .bool x22)], []⟩] rfl ?_ (by kernel_rfl) ?_
     ·refine .cons (lop rfl rfl fun S hA => (iop_move rfl rfl (lb rfl) (svaL hA rfl rfl))) ?_
      refine .cons (lop rfl rfl fun S hA => (iop_move rfl rfl (lb rfl) (svaI hA rfl rfl))) ?_
      refine .cons (lop rfl rfl fun S hA => (iop_idxT (eInt .i64) (cs := [.int _ _]) rfl rfl (lb rfl) Try.underlying23 ti3 (svaL hA rfl rfl) (svaI hA rfl rfl) hx20 rfl rfl)) ?_
      refine .cons (lop rfl rfl fun S hA => (iop_load_fs rfl rfl (lb rfl) Try.underlying3 ag3 ti3 (by decide) (sv (d := .fptr [.int _ _]) (agr hA rfl rfl)) (nle rfl))) ?_
      refine .cons (lop rfl rfl fun S hA => (iop_move rfl rfl (lb rfl) (svaL hA rfl rfl))) ?_
      refine .cons (lop rfl rfl fun S hA => (iop_move rfl rfl (lb rfl) (svaI hA rfl rfl))) ?_
      refine .cons (lop rfl rfl fun S hA => (iop_idxT (eInt .i64) (cs := [.int _ _]) rfl rfl (lb rfl) Try.underlying23 ti3 (svaL hA rfl rfl) (svaI hA rfl rfl) hx21 rfl rfl)) ?_
      refine .cons (lop rfl rfl fun S hA => (iop_load_fs rfl rfl (lb rfl) Try.underlying3 ag3 ti3 (by decide) (sv (d := .fptr [.int _ _]) (agr hA rfl rfl)) (nle rfl))) ?_
      refine .cons (lop rfl rfl fun S hA => (iop_cmpx rfl rfl (lb rfl) (svaI hA rfl rfl) (svaI hA rfl rfl) rfl hx22)) ?_
      exact .nil
     refine iwp_cond (b := _) rfl (fun hc23 => ?_) (fun hc23 => ?_)
     ·
      replace h := bif_t h hc23
      refine iwp_reg (ils_cons rfl (iop_assign rfl rfl (lb rfl) (sv (d := .bool false) rfl)) <|
       ils_end ?_)
      refine iwp_ret ?_
      refine blockQ_r ?_
      refine thenQ_r ?_
      refine thenQ_r ?_
      refine blockQ_r ?_
      refine thenQ_r ?_
      obtain rfl := Option.some.inj h
      refine ⟨.inr rfl, (.cons (sv rfl) .nil)⟩
     ·
      replace h := bif_f h hc23
      refine iwp_skip ?_
      refine blockQ_n ?_
      refine thenQ_n ?_
      obtain ⟨x24, hx24, h⟩ := bnd_e h
      refine iwp_region (ils_cons rfl (iop_intx rfl rfl (lb rfl) (svI rfl) (sv (d := .int _ 1) rfl) rfl hx24) <|
       ils_cons rfl (mvI rfl rfl rfl rfl) <|
       ils_nil ?_)
      refine thenQ_n ⟨(n0, x24), (fun i => i), ⟨(.sames rfl rfl), .nil, nd_of [] rfl (by decide), fun _ _ => rfl⟩, ?_, ?_⟩
      exact h
      exact Nat.lt_succ_self _
    ·
     replace h := bif_f h hc19
     refine iwp_exit ?_
     refine thenQ_e ?_
     refine thenQ_e ?_
     refine blockQ_e ?_
     refine thenQ_n ?_
     refine iwp_reg (ils_cons rfl (iop_assign rfl rfl (lb rfl) (sv (d := .bool true) rfl)) <|
      ils_end ?_)
     refine iwp_ret ?_
     obtain rfl := Option.some.inj h
     refine ⟨.inr rfl, (.cons (sv rfl) .nil)⟩

theorem p_fold_Same (a0 : T_fold_State) (a1 : T_fold_State) (r : Bool) (h : fold_Same a0 a1 = some r) : PureAt Try.prog 16 [.agg (v0 a0), .agg (v0 a1)] (.bool r) := by
 refine pure_of_iwp (rs := [.bool r]) Try.func16 rfl Try.ntmps16 (nle rfl) rfl fun O hO => ?_
 show IWP _ _ _ _ ⟨[(0, .agg (v0 a0)), (1, .agg (v0 a1))], []⟩ _
 unfold fold_Same at h
 refine iwp_reg (ils_cons rfl (iop_box' (cs := q4) 0 rfl rfl (lb rfl) rfl (svA q4 rfl) rfl rfl) <|
  ils_cons rfl (iop_box' (cs := q4) 1 rfl rfl (lb rfl) rfl (svA q4 rfl) rfl rfl) <|
  ils_cons rfl (iop_assign rfl rfl (lb rfl) (sv (d := .bool false) rfl)) <|
  ils_end ?_)
 obtain ⟨x1, hx1, h⟩ := bnd_e h
 obtain ⟨x2, hx2, h⟩ := bnd_e h
 obtain ⟨x3, hx3, h⟩ := bnd_e h
 obtain ⟨x4, hx4, h⟩ := bno_e h
 obtain ⟨x5, hx5, h⟩ := bnd_e h
 obtain ⟨x6, hx6, h⟩ := bno_e h
 obtain ⟨x7, hx7, h⟩ := bnd_e h
 refine iwp_reg (ils_cons rfl (faR 0 rfl rfl rfl Try.underlying32 rfl ti3 (lb rfl) rfl rfl) <|
  ils_cons rfl (iop_load_rs (d := .int _ _) rfl rfl (lb rfl) Try.underlying3 ag3 ti3 (by decide) (svR rfl) rfl (nle rfl) rfl) <|
  ils_cons rfl (faR 0 rfl rfl rfl Try.underlying32 rfl ti3 (lb rfl) rfl rfl) <|
  ils_cons rfl (iop_load_rs (d := .int _ _) rfl rfl (lb rfl) Try.underlying3 ag3 ti3 (by decide) (svR rfl) rfl (nle rfl) rfl) <|
  ils_cons rfl (iop_cmpx rfl rfl (lb rfl) (svI rfl) (svI rfl) rfl hx1) <|
  ils_cons rfl (mvB rfl rfl rfl rfl) <|
  ils_guard rfl rfl (.one rfl) rfl (by decide) (fun hb => (faR 1 rfl rfl rfl Try.underlying32 rfl ti3 (lb rfl) rfl rfl)) <|
  ils_guard rfl rfl (.one rfl) rfl (by decide) (fun hb => (iop_load_rs (d := .int _ _) rfl rfl (lb rfl) Try.underlying3 ag3 ti3 (by decide) (svcR rfl hb) rfl (nle rfl) rfl)) <|
  ils_guard rfl rfl (.one rfl) rfl (by decide) (fun hb => (faR 1 rfl rfl rfl Try.underlying32 rfl ti3 (lb rfl) rfl rfl)) <|
  ils_guard rfl rfl (.one rfl) rfl (by decide) (fun hb => (iop_load_rs (d := .int _ _) rfl rfl (lb rfl) Try.underlying3 ag3 ti3 (by decide) (svcR rfl hb) rfl (nle rfl) rfl)) <|
  ils_guard rfl rfl (.one rfl) rfl (by decide) (fun hb => (iop_cmpx rfl rfl (lb rfl) (svcI rfl hb) (svcI rfl hb) rfl hx2)) <|
  ils_cons rfl (iop_andx rfl rfl (lb rfl) (svB rfl) rfl rfl hx3) <|
  ils_cons rfl (mvB rfl rfl rfl rfl) <|
  ils_guard rfl rfl (.one rfl) rfl (by decide) (fun hb => (faR 2 rfl rfl rfl Try.underlying32 rfl ti30 (lb rfl) rfl rfl)) <|
  ils_guard rfl rfl (.one rfl) rfl (by decide) (fun hb => (iop_load_rs (d := .slice _ _) rfl rfl (lb rfl) Try.underlying30 ag30 ti30 (by decide) (svcR rfl hb) rfl (nle rfl) rfl)) <|
  ils_guard rfl rfl (.one rfl) rfl (by decide) (fun hb => (faR 2 rfl rfl rfl Try.underlying32 rfl ti30 (lb rfl) rfl rfl)) <|
  ils_guard rfl rfl (.one rfl) rfl (by decide) (fun hb => (iop_load_rs (d := .slice _ _) rfl rfl (lb rfl) Try.underlying30 ag30 ti30 (by decide) (svcR rfl hb) rfl (nle rfl) rfl)) <|
  ils_guard rfl rfl (.one rfl) rfl (by decide) (fun hb => (iop_call (r := .bool _) rfl rfl (lb rfl) cl49 (.cons (svcL rfl hb) (.cons (svcL rfl hb) .nil)) rfl (p_slices_Equal_ptree_Node_ptree_Node _ _ _ (gd_t hx4 hb)))) <|
  ils_cons rfl (iop_andx rfl rfl (lb rfl) (svB rfl) rfl rfl hx5) <|
  ils_cons rfl (mvB rfl rfl rfl rfl) <|
  ils_guard rfl rfl (.one rfl) rfl (by decide) (fun hb => (faR 3 rfl rfl rfl Try.underlying32 rfl ti23 (lb rfl) rfl rfl)) <|
  ils_guard rfl rfl (.one rfl) rfl (by decide) (fun hb => (iop_load_rs (d := .slice _ _) rfl rfl (lb rfl) Try.underlying23 ag23 ti23 (by decide) (svcR rfl hb) rfl (nle rfl) rfl)) <|
  ils_guard rfl rfl (.one rfl) rfl (by decide) (fun hb => (faR 3 rfl rfl rfl Try.underlying32 rfl ti23 (lb rfl) rfl rfl)) <|
  ils_guard rfl rfl (.one rfl) rfl (by decide) (fun hb => (iop_load_rs (d := .slice _ _) rfl rfl (lb rfl) Try.underlying23 ag23 ti23 (by decide) (svcR rfl hb) rfl (nle rfl) rfl)) <|
  ils_guard rfl rfl (.one rfl) rfl (by decide) (fun hb => (iop_call (r := .bool _) rfl rfl (lb rfl) cl50 (.cons (svcL rfl hb) (.cons (svcL rfl hb) .nil)) rfl (p_slices_Equal_int_int _ _ _ (gd_t hx6 hb)))) <|
  ils_cons rfl (iop_andx rfl rfl (lb rfl) (svB rfl) rfl rfl hx7) <|
  ils_cons rfl (asB rfl rfl rfl rfl) <|
  ils_end ?_)
 refine iwp_ret ?_
 obtain rfl := Option.some.inj h
 refine ⟨.inr rfl, (.cons (sv rfl) .nil)⟩

theorem p_sennitlaw34_awake  (r : Bool) (h : sennitlaw34_awake = some r) : PureAt Try.prog 8 [] (.bool r) := by
 refine pure_of_iwp (rs := [.bool r]) Try.func8 rfl Try.ntmps8 (nle rfl) rfl fun O hO => ?_
 show IWP _ _ _ _ ⟨[], []⟩ _
 unfold sennitlaw34_awake at h
 refine iwp_reg (ils_cons rfl (iop_assign rfl rfl (lb rfl) (sv (d := .bool false) rfl)) <|
  ils_end ?_)
 obtain ⟨x1, hx1, h⟩ := bno_e h
 refine iwp_reg (ils_cons rfl (iop_sub (d' := .agg (w12 8 1 ([] : List T_ptree_Node) ([] : List Int))) (iop_build_struct (cs := q7) rfl rfl (lb rfl) Try.underlying32 ti32 pl32 rfl (.cons (sv (d := .int _ 8) rfl) (.cons (sv (d := .int _ 1) rfl) .nil)) rfl) (.agg (.k (.k (.cons (.nils _) (.cons (.nils _) .nil)))))) <|
  ils_cons rfl (iop_build_struct (cs := q3) rfl rfl (lb rfl) Try.underlying37 ti37 pl37 rfl (.cons (sv (d := .int _ 1) rfl) (.cons (sv (d := .int _ 16) rfl) .nil)) rfl) <|
  ils_cons rfl (iop_build_struct (cs := q3) rfl rfl (lb rfl) Try.underlying37 ti37 pl37 rfl (.cons (sv (d := .int _ 3) rfl) (.cons (sv (d := .int _ 1) rfl) (.cons (sv (d := .int _ 5) rfl) .nil))) rfl) <|
  ils_cons rfl (iop_build_struct (cs := q3) rfl rfl (lb rfl) Try.underlying37 ti37 pl37 rfl (.cons (sv (d := .int _ 5) rfl) (.cons (sv (d := .int _ 1) rfl) (.cons (sv (d := .int _ 7) rfl) .nil))) rfl) <|
  ils_cons rfl (iop_build_struct (cs := q3) rfl rfl (lb rfl) Try.underlying37 ti37 pl37 rfl (.cons (sv (d := .int _ 2) rfl) (.cons (sv (d := .int _ 3) rfl) .nil)) rfl) <|
  ils_cons rfl (iop_build_struct (cs := q3) rfl rfl (lb rfl) Try.underlying37 ti37 pl37 rfl (.cons (sv (d := .int _ 9) rfl) .nil) rfl) <|
  ils_cons rfl (iop_build_struct (cs := q3) rfl rfl (lb rfl) Try.underlying37 ti37 pl37 rfl (.cons (sv (d := .int _ 1) rfl) (.cons (sv (d := .int _ 5) rfl) (.cons (sv (d := .int _ 2) rfl) .nil))) rfl) <|
  ils_cons rfl (iop_bsT E_fold_Op ([(⟨0, 1, 0, 16, false⟩ : T_fold_Op), (⟨0, 3, 1, 5, false⟩ : T_fold_Op), (⟨0, 5, 1, 7, false⟩ : T_fold_Op), (⟨2, 3, 0, 0, false⟩ : T_fold_Op), (⟨9, 0, 0, 0, false⟩ : T_fold_Op), (⟨1, 5, 0, 2, false⟩ : T_fold_Op)] : (List T_fold_Op)) 0 rfl rfl (lb rfl) Try.underlying62 ti37 rfl (.cons (svA q3 rfl) (.cons (svA q3 rfl) (.cons (svA q3 rfl) (.cons (svA q3 rfl) (.cons (svA q3 rfl) (.cons (svA q3 rfl) .nil)))))) rfl rfl (by decide)) <|
  ils_cons rfl (iop_call (r := .tuple [.agg q4, .slice _ _]) rfl rfl (lb rfl) cl26 (.cons (svA q4 rfl) (.cons (svg rfl) .nil)) rfl (p_fold_Run _ _ _ hx1)) <|
  ils_cons rfl (iop_move rfl rfl (lb rfl) (sv (d := .tuple [.agg q4, .slice _ _]) rfl)) <|
  ils_cons rfl (iop_extract (d := .agg q4) rfl rfl (lb rfl) (sv (d := .tuple [.agg q4, .slice _ _]) rfl) rfl) <|
  ils_cons rfl (iop_extract (d := .slice _ _) rfl rfl (lb rfl) (sv (d := .tuple [.agg q4, .slice _ _]) rfl) rfl) <|
  ils_cons rfl (iop_allocS (cs := q7) (cs' := (w12 0 0 ([] : List T_ptree_Node) ([] : List Int))) 1 rfl rfl (lb rfl) rfl ti32 rfl rfl (.k (.k (.cons (.nils _) (.cons (.nils _) .nil))))) <|
  ils_cons rfl (stA q4 q4 ti32 rfl rfl rfl rfl rfl rfl rfl rfl (nle rfl) rfl) <|
  ils_cons rfl (iop_assign rfl rfl (lb rfl) (svL rfl)) <|
  ils_end ?_)
 refine iwp_seq ?_
 obtain ⟨x2, hx2, h⟩ := bnd_e h
 refine iwp_reg (ils_cons rfl (mvL rfl rfl rfl rfl) <|
  ils_cons rfl (iop_lenT (eInt .i64) (l := x1.2) rfl rfl (lb rfl) Try.underlying59 (svL rfl)) <|
  ils_cons rfl (iop_cmpx rfl rfl (lb rfl) (svI rfl) (sv (d := .int _ 6) rfl) rfl hx2) <|
  ils_end ?_)
 refine iwp_cond (b := _) rfl (fun hc3 => ?_) (fun hc3 => ?_)
 ·
  replace h := bif_t h hc3
  refine iwp_reg (ils_cons rfl (iop_assign rfl rfl (lb rfl) (sv (d := .bool false) rfl)) <|
   ils_end ?_)
  refine iwp_ret ?_
  refine thenQ_r ?_
  obtain rfl := Option.some.inj h
  refine ⟨.inr rfl, (.cons (sv rfl) .nil)⟩
 ·
  replace h := bif_f h hc3
  refine iwp_skip ?_
  refine thenQ_n ?_
  obtain ⟨x4, hx4, h⟩ := bno_e h
  obtain ⟨x5, hx5, h⟩ := bnd_e h
  obtain ⟨x6, hx6, h⟩ := bno_e h
  obtain ⟨x7, hx7, h⟩ := bnd_e h
  obtain ⟨x8, hx8, h⟩ := bnd_e h
  obtain ⟨x9, hx9, h⟩ := bno_e h
  obtain ⟨x10, hx10, h⟩ := bnd_e h
  obtain ⟨x11, hx11, h⟩ := bnd_e h
  obtain ⟨x12, hx12, h⟩ := bnd_e h
  obtain ⟨x13, hx13, h⟩ := bnd_e h
  obtain ⟨x14, hx14, h⟩ := bno_e h
  obtain ⟨x15, hx15, h⟩ := bnd_e h
  obtain ⟨x16, hx16, h⟩ := bno_e h
  obtain ⟨x17, hx17, h⟩ := bnd_e h
  obtain ⟨x18, hx18, h⟩ := bnd_e h
  obtain ⟨x19, hx19, h⟩ := bno_e h
  obtain ⟨x20, hx20, h⟩ := bnd_e h
  obtain ⟨x21, hx21, h⟩ := bnd_e h
  obtain ⟨x22, hx22, h⟩ := bno_e h
  obtain ⟨x23, hx23, h⟩ := bnd_e h
  obtain ⟨x24, hx24, h⟩ := bnd_e h
  obtain ⟨x25, hx25, h⟩ := bno_e h
  obtain ⟨x26, hx26, h⟩ := bnd_e h
  obtain ⟨x27, hx27, h⟩ := bnd_e h
  obtain ⟨x28, hx28, h⟩ := bno_e h
  obtain ⟨x29, hx29, h⟩ := bno_e h
  obtain ⟨x30, hx30, h⟩ := bnd_e h
  obtain ⟨x31, hx31, h⟩ := bno_e h
  obtain ⟨x32, hx32, h⟩ := bno_e h
  obtain ⟨x33, hx33, h⟩ := bnd_e h
  obtain ⟨x34, hx34, h⟩ := bno_e h
  obtain ⟨x35, hx35, h⟩ := bnd_e h
  obtain ⟨x36, hx36, h⟩ := bnd_e h
  obtain ⟨x37, hx37, h⟩ := bno_e h
  obtain ⟨x38, hx38, h⟩ := bnd_e h
  obtain ⟨x39, hx39, h⟩ := bnd_e h
  obtain ⟨x40, hx40, h⟩ := bno_e h
  obtain ⟨x41, hx41, h⟩ := bnd_e h
  obtain ⟨x42, hx42, h⟩ := bnd_e h
  obtain ⟨x43, hx43, h⟩ := bno_e h
  obtain ⟨x44, hx44, h⟩ := bnd_e h
  obtain ⟨x45, hx45, h⟩ := bno_e h
  obtain ⟨x46, hx46, h⟩ := bnd_e h
  obtain ⟨x47, hx47, h⟩ := bnd_e h
  obtain ⟨x48, hx48, h⟩ := bnd_e h
  obtain ⟨x49, hx49, h⟩ := bnd_e h
  refine iwp_reg (ils_cons rfl (mvL rfl rfl rfl rfl) <|
   ils_cons rfl (iop_idxT (eInt .i64) (cs := [.int _ _]) rfl rfl (lb rfl) Try.underlying59 ti34 (svL rfl) (sv (d := .int _ 0) rfl) hx4 rfl rfl) <|
   ils_cons rfl (iop_load_fs rfl rfl (lb rfl) Try.underlying34 ag34 ti34 (by decide) (sv (d := .fptr [.int _ _]) rfl) (nle rfl)) <|
   ils_cons rfl (iop_cmpx rfl rfl (lb rfl) (svI rfl) (sv (d := .int _ 0) rfl) rfl hx5) <|
   ils_cons rfl (mvB rfl rfl rfl rfl) <|
   ils_guard rfl rfl (.one rfl) rfl (by decide) (fun hb => (mvL rfl rfl rfl rfl)) <|
   ils_guard rfl rfl (.one rfl) rfl (by decide) (fun hb => (iop_idxT (eInt .i64) (cs := [.int _ _]) rfl rfl (lb rfl) Try.underlying59 ti34 (svcL rfl hb) (sv (d := .int _ 3) rfl) (gd_t hx6 hb) rfl rfl)) <|
   ils_guard rfl rfl (.one rfl) rfl (by decide) (fun hb => (iop_load_fs rfl rfl (lb rfl) Try.underlying34 ag34 ti34 (by decide) (svc (d := .fptr [.int _ _]) rfl hb) (nle rfl))) <|
   ils_guard rfl rfl (.one rfl) rfl (by decide) (fun hb => (iop_cmpx rfl rfl (lb rfl) (svcI rfl hb) (sv (d := .int _ 0) rfl) rfl hx7)) <|
   ils_cons rfl (iop_andx rfl rfl (lb rfl) (svB rfl) rfl rfl hx8) <|
   ils_cons rfl (mvB rfl rfl rfl rfl) <|
   ils_guard rfl rfl (.one rfl) rfl (by decide) (fun hb => (mvL rfl rfl rfl rfl)) <|
   ils_guard rfl rfl (.one rfl) rfl (by decide) (fun hb => (iop_idxT (eInt .i64) (cs := [.int _ _]) rfl rfl (lb rfl) Try.underlying59 ti34 (svcL rfl hb) (sv (d := .int _ 4) rfl) (gd_t hx9 hb) rfl rfl)) <|
   ils_guard rfl rfl (.one rfl) rfl (by decide) (fun hb => (iop_load_fs rfl rfl (lb rfl) Try.underlying34 ag34 ti34 (by decide) (svc (d := .fptr [.int _ _]) rfl hb) (nle rfl))) <|
   ils_guard rfl rfl (.one rfl) rfl (by decide) (fun hb => (iop_cmpx rfl rfl (lb rfl) (svcI rfl hb) (sv (d := .int _ 12) rfl) rfl hx10)) <|
   ils_cons rfl (iop_andx rfl rfl (lb rfl) (svB rfl) rfl rfl hx11) <|
   ils_cons rfl (mvB rfl rfl rfl rfl) <|
   ils_guard rfl rfl (.one rfl) rfl (by decide) (fun hb => (faR 2 rfl rfl rfl Try.underlying32 rfl ti30 (lb rfl) rfl rfl)) <|
   ils_guard rfl rfl (.one rfl) rfl (by decide) (fun hb => (iop_load_rs (d := .slice _ _) rfl rfl (lb rfl) Try.underlying30 ag30 ti30 (by decide) (svcR rfl hb) rfl (nle rfl) rfl)) <|
   ils_guard rfl rfl (.one rfl) rfl (by decide) (fun hb => (iop_lenT E_ptree_Node (l := x1.1.Nodes) rfl rfl (lb rfl) Try.underlying30 (svcL rfl hb))) <|
   ils_guard rfl rfl (.one rfl) rfl (by decide) (fun hb => (iop_cmpx rfl rfl (lb rfl) (svcI rfl hb) (sv (d := .int _ 3) rfl) rfl hx12)) <|
   ils_cons rfl (iop_andx rfl rfl (lb rfl) (svB rfl) rfl rfl hx13) <|
   ils_cons rfl (mvB rfl rfl rfl rfl) <|
   ils_guard rfl rfl (.one rfl) rfl (by decide) (fun hb => (faR 2 rfl rfl rfl Try.underlying32 rfl ti30 (lb rfl) rfl rfl)) <|
   ils_guard rfl rfl (.one rfl) rfl (by decide) (fun hb => (iop_load_rs (d := .slice _ _) rfl rfl (lb rfl) Try.underlying30 ag30 ti30 (by decide) (svcR rfl hb) rfl (nle rfl) rfl)) <|
   ils_guard rfl rfl (.one rfl) rfl (by decide) (fun hb => (iop_idxT E_ptree_Node (cs := q6) rfl rfl (lb rfl) Try.underlying30 ti56 (svcL rfl hb) (sv (d := .int _ 1) rfl) (gd_t hx14 hb) rfl rfl)) <|
   ils_guard rfl rfl (.one rfl) rfl (by decide) (fun hb => (iop_fieldAddr_fptr (cs' := [.bool _]) rfl rfl (lb rfl) Try.underlying56 rfl ti4 (by decide) (svc (d := .fptr q6) rfl hb) rfl)) <|
   ils_guard rfl rfl (.one rfl) rfl (by decide) (fun hb => (iop_load_fs rfl rfl (lb rfl) Try.underlying4 ag4 ti4 (by decide) (svc (d := .fptr [.bool _]) rfl hb) (nle rfl))) <|
   ils_cons rfl (iop_andx rfl rfl (lb rfl) (svB rfl) rfl rfl hx15) <|
   ils_cons rfl (mvB rfl rfl rfl rfl) <|
   ils_guard rfl rfl (.one rfl) rfl (by decide) (fun hb => (lra q4 la32 rfl rfl rfl rfl rfl (nle rfl) rfl)) <|
   ils_guard rfl rfl (.one rfl) rfl (by decide) (fun hb => (iop_call (r := .int _ _) rfl rfl (lb rfl) cl17 (.cons (svcA (v0 x1.1) rfl hb) (.cons (sv (d := .int _ 3) rfl) .nil)) rfl (p_fold_Depth _ _ _ (gd_t hx16 hb)))) <|
   ils_guard rfl rfl (.one rfl) rfl (by decide) (fun hb => (iop_cmpx rfl rfl (lb rfl) (svcI rfl hb) (sv (d := .int _ 2) rfl) rfl hx17)) <|
   ils_cons rfl (iop_andx rfl rfl (lb rfl) (svB rfl) rfl rfl hx18) <|
   ils_cons rfl (mvB rfl rfl rfl rfl) <|
   ils_guard rfl rfl (.one rfl) rfl (by decide) (fun hb => (lra q4 la32 rfl rfl rfl rfl rfl (nle rfl) rfl)) <|
   ils_guard rfl rfl (.one rfl) rfl (by decide) (fun hb => (iop_call (r := .int _ _) rfl rfl (lb rfl) cl17 (.cons (svcA (v0 x1.1) rfl hb) (.cons (sv (d := .int _ 5) rfl) .nil)) rfl (p_fold_Depth _ _ _ (gd_t hx19 hb)))) <|
   ils_guard rfl rfl (.one rfl) rfl (by decide) (fun hb => (iop_cmpx rfl rfl (lb rfl) (svcI rfl hb) (sv (d := .int _ 1) rfl) rfl hx20)) <|
   ils_cons rfl (iop_andx rfl rfl (lb rfl) (svB rfl) rfl rfl hx21) <|
   ils_cons rfl (mvB rfl rfl rfl rfl) <|
   ils_guard rfl rfl (.one rfl) rfl (by decide) (fun hb => (lra q4 la32 rfl rfl rfl rfl rfl (nle rfl) rfl)) <|
   ils_guard rfl rfl (.one rfl) rfl (by decide) (fun hb => (iop_call (r := .int _ _) rfl rfl (lb rfl) cl19 (.cons (svcA (v0 x1.1) rfl hb) (.cons (sv (d := .int _ 1) rfl) (.cons (sv (d := .int _ 3) rfl) .nil))) rfl (p_fold_Meet _ _ _ _ (gd_t hx22 hb)))) <|
   ils_guard rfl rfl (.one rfl) rfl (by decide) (fun hb => (iop_cmpx rfl rfl (lb rfl) (svcI rfl hb) (sv (d := .int _ 1) rfl) rfl hx23)) <|
   ils_cons rfl (iop_andx rfl rfl (lb rfl) (svB rfl) rfl rfl hx24) <|
   ils_cons rfl (mvB rfl rfl rfl rfl) <|
   ils_guard rfl rfl (.one rfl) rfl (by decide) (fun hb => (lra q4 la32 rfl rfl rfl rfl rfl (nle rfl) rfl)) <|
   ils_guard rfl rfl (.one rfl) rfl (by decide) (fun hb => (iop_call (r := .int _ _) rfl rfl (lb rfl) cl19 (.cons (svcA (v0 x1.1) rfl hb) (.cons (sv (d := .int _ 5) rfl) (.cons (sv (d := .int _ 3) rfl) .nil))) rfl (p_fold_Meet _ _ _ _ (gd_t hx25 hb)))) <|
   ils_guard rfl rfl (.one rfl) rfl (by decide) (fun hb => (iop_cmpx rfl rfl (lb rfl) (svcI rfl hb) (sv (d := .int _ 0) rfl) rfl hx26)) <|
   ils_cons rfl (iop_andx rfl rfl (lb rfl) (svB rfl) rfl rfl hx27) <|
   ils_cons rfl (mvB rfl rfl rfl rfl) <|
   ils_guard rfl rfl (.one rfl) rfl (by decide) (fun hb => (lra q4 la32 rfl rfl rfl rfl rfl (nle rfl) rfl)) <|
   ils_guard rfl rfl (.one rfl) rfl (by decide) (fun hb => (iop_call (r := .slice _ _) rfl rfl (lb rfl) cl22 (.cons (svcA (v0 x1.1) rfl hb) (.cons (sv (d := .int _ 1) rfl) .nil)) rfl (p_fold_Below _ _ _ (gd_t hx28 hb)))) <|
   ils_guard rfl rfl (.one rfl) rfl (by decide) (fun hb => (iop_bsF (eInt .i64) ([3] : (List Int)) rfl rfl (lb rfl) Try.underlying23 ti3 (.cons (sv (d := .int _ 3) rfl) .nil) rfl rfl (by decide))) <|
   ils_guard rfl rfl (.one rfl) rfl (by decide) (fun hb => (iop_call (r := .bool _) rfl rfl (lb rfl) cl21 (.cons (svcL rfl hb) (.cons (svcL rfl hb) .nil)) rfl (p_sennitref02_SameInts _ _ _ (gd_t hx29 hb)))) <|
   ils_cons rfl (iop_andx rfl rfl (lb rfl) (svB rfl) rfl rfl hx30) <|
   ils_cons rfl (mvB rfl rfl rfl rfl) <|
   ils_guard rfl rfl (.one rfl) rfl (by decide) (fun hb => (lra q4 la32 rfl rfl rfl rfl rfl (nle rfl) rfl)) <|
   ils_guard rfl rfl (.one rfl) rfl (by decide) (fun hb => (iop_call (r := .slice _ _) rfl rfl (lb rfl) cl22 (.cons (svcA (v0 x1.1) rfl hb) (.cons (sv (d := .int _ 0) rfl) .nil)) rfl (p_fold_Below _ _ _ (gd_t hx31 hb)))) <|
   ils_guard rfl rfl (.one rfl) rfl (by decide) (fun hb => (iop_bsF (eInt .i64) ([1, 3, 5] : (List Int)) rfl rfl (lb rfl) Try.underlying23 ti3 (.cons (sv (d := .int _ 1) rfl) (.cons (sv (d := .int _ 3) rfl) (.cons (sv (d := .int _ 5) rfl) .nil))) rfl rfl (by decide))) <|
   ils_guard rfl rfl (.one rfl) rfl (by decide) (fun hb => (iop_call (r := .bool _) rfl rfl (lb rfl) cl21 (.cons (svcL rfl hb) (.cons (svcL rfl hb) .nil)) rfl (p_sennitref02_SameInts _ _ _ (gd_t hx32 hb)))) <|
   ils_cons rfl (iop_andx rfl rfl (lb rfl) (svB rfl) rfl rfl hx33) <|
   ils_cons rfl (mvB rfl rfl rfl rfl) <|
   ils_guard rfl rfl (.one rfl) rfl (by decide) (fun hb => (lra q4 la32 rfl rfl rfl rfl rfl (nle rfl) rfl)) <|
   ils_guard rfl rfl (.one rfl) rfl (by decide) (fun hb => (iop_call (r := .int _ _) rfl rfl (lb rfl) cl24 (.cons (svcA (v0 x1.1) rfl hb) (.cons (sv (d := .int _ 0) rfl) .nil)) rfl (p_fold_Sum _ _ _ (gd_t hx34 hb)))) <|
   ils_guard rfl rfl (.one rfl) rfl (by decide) (fun hb => (iop_cmpx rfl rfl (lb rfl) (svcI rfl hb) (sv (d := .int _ 18) rfl) rfl hx35)) <|
   ils_cons rfl (iop_andx rfl rfl (lb rfl) (svB rfl) rfl rfl hx36) <|
   ils_cons rfl (mvB rfl rfl rfl rfl) <|
   ils_guard rfl rfl (.one rfl) rfl (by decide) (fun hb => (lra q4 la32 rfl rfl rfl rfl rfl (nle rfl) rfl)) <|
   ils_guard rfl rfl (.one rfl) rfl (by decide) (fun hb => (iop_call (r := .int _ _) rfl rfl (lb rfl) cl14 (.cons (svcA (v0 x1.1) rfl hb) .nil) rfl (p_fold_Check _ _ (gd_t hx37 hb)))) <|
   ils_guard rfl rfl (.one rfl) rfl (by decide) (fun hb => (iop_cmpx rfl rfl (lb rfl) (svcI rfl hb) (sv (d := .int _ 0) rfl) rfl hx38)) <|
   ils_cons rfl (iop_andx rfl rfl (lb rfl) (svB rfl) rfl rfl hx39) <|
   ils_cons rfl (mvB rfl rfl rfl rfl) <|
   ils_guard rfl rfl (.one rfl) rfl (by decide) (fun hb => (iop_sub (d' := .agg (w12 0 0 ([] : List T_ptree_Node) ([] : List Int))) (iop_build_struct (cs := q7) rfl rfl (lb rfl) Try.underlying32 ti32 pl32 rfl .nil rfl) (.agg (.k (.k (.cons (.nils _) (.cons (.nils _) .nil))))))) <|
   ils_guard rfl rfl (.one rfl) rfl (by decide) (fun hb => (iop_call (r := .int _ _) rfl rfl (lb rfl) cl14 (.cons (svc (d := .agg (w12 0 0 ([] : List T_ptree_Node) ([] : List Int))) rfl hb) .nil) rfl (p_fold_Check _ _ (gd_t hx40 hb)))) <|
   ils_guard rfl rfl (.one rfl) rfl (by decide) (fun hb => (iop_cmpx rfl rfl (lb rfl) (svcI rfl hb) (sv (d := .int _ 8) rfl) rfl hx41)) <|
   ils_cons rfl (iop_andx rfl rfl (lb rfl) (svB rfl) rfl rfl hx42) <|
   ils_cons rfl (mvB rfl rfl rfl rfl) <|
   ils_guard rfl rfl (.one rfl) rfl (by decide) (fun hb => (lra q4 la32 rfl rfl rfl rfl rfl (nle rfl) rfl)) <|
   ils_guard rfl rfl (.one rfl) rfl (by decide) (fun hb => (iop_sub (d' := .agg (w12 0 0 ([] : List T_ptree_Node) ([] : List Int))) (iop_build_struct (cs := q7) rfl rfl (lb rfl) Try.underlying32 ti32 pl32 rfl .nil rfl) (.agg (.k (.k (.cons (.nils _) (.cons (.nils _) .nil))))))) <|
   ils_guard rfl rfl (.one rfl) rfl (by decide) (fun hb => (iop_call (r := .bool _) rfl rfl (lb rfl) cl16 (.cons (svcA (v0 x1.1) rfl hb) (.cons (svc (d := .agg (w12 0 0 ([] : List T_ptree_Node) ([] : List Int))) rfl hb) .nil)) rfl (p_fold_Same _ _ _ (gd_t hx43 hb)))) <|
   ils_guard rfl rfl (.one rfl) rfl (by decide) (fun hb => (iop_not rfl rfl (lb rfl) (svcB rfl hb))) <|
   ils_cons rfl (iop_andx rfl rfl (lb rfl) (svB rfl) rfl rfl hx44) <|
   ils_cons rfl (mvB rfl rfl rfl rfl) <|
   ils_guard rfl rfl (.one rfl) rfl (by decide) (fun hb => (lra q4 la32 rfl rfl rfl rfl rfl (nle rfl) rfl)) <|
   ils_guard rfl rfl (.one rfl) rfl (by decide) (fun hb => (lra q4 la32 rfl rfl rfl rfl rfl (nle rfl) rfl)) <|
   ils_guard rfl rfl (.one rfl) rfl (by decide) (fun hb => (iop_call (r := .bool _) rfl rfl (lb rfl) cl16 (.cons (svcA (v0 x1.1) rfl hb) (.cons (svcA (v0 x1.1) rfl hb) .nil)) rfl (p_fold_Same _ _ _ (gd_t hx45 hb)))) <|
   ils_cons rfl (iop_andx rfl rfl (lb rfl) (svB rfl) rfl rfl hx46) <|
   ils_cons rfl (mvB rfl rfl rfl rfl) <|
   ils_cons rfl (iop_pickc rfl rfl (lb rfl) (svB rfl) rfl rfl hx47) <|
   ils_cons rfl (mvB rfl rfl rfl rfl) <|
   ils_cons rfl (iop_pickc rfl rfl (lb rfl) (svB rfl) rfl rfl hx48) <|
   ils_cons rfl (mvB rfl rfl rfl rfl) <|
   ils_cons rfl (iop_pickc rfl rfl (lb rfl) (svB rfl) rfl rfl hx49) <|
   ils_cons rfl (asB rfl rfl rfl rfl) <|
   ils_end ?_)
  refine iwp_ret ?_
  obtain rfl := Option.some.inj h
  refine ⟨.inr rfl, (.cons (sv rfl) .nil)⟩

theorem p_sennitlaw34_FoldWeights (a0 : (List T_fold_Op)) (a1 : Int) (r : Bool) (h : sennitlaw34_FoldWeights a0 a1 = some r) : PureAt Try.prog 6 [.slice false (a0.map E_fold_Op.d), .int .u8 a1] (.bool r) := by
 refine pure_of_iwp (rs := [.bool r]) Try.func6 rfl Try.ntmps6 (nle rfl) rfl fun O hO => ?_
 show IWP _ _ _ _ ⟨[(0, .slice false (a0.map E_fold_Op.d)), (1, .int .u8 a1)], []⟩ _
 unfold sennitlaw34_FoldWeights at h
 refine iwp_reg (ils_cons rfl (iop_assign rfl rfl (lb rfl) (sv (d := .bool false) rfl)) <|
  ils_end ?_)
 refine iwp_seq ?_
 obtain ⟨x1, hx1, h⟩ := bnd_e h
 refine iwp_reg (ils_cons rfl (mvL rfl rfl rfl rfl) <|
  ils_cons rfl (iop_lenT E_fold_Op (l := a0) rfl rfl (lb rfl) Try.underlying54 (svL rfl)) <|
  ils_cons rfl (iop_cmpx rfl rfl (lb rfl) (svI rfl) (sv (d := .int _ 60) rfl) rfl hx1) <|
  ils_end ?_)
 refine iwp_cond (b := _) rfl (fun hc2 => ?_) (fun hc2 => ?_)
 ·
  replace h := bif_t h hc2
  obtain ⟨x3, hx3, h⟩ := bno_e h
  refine iwp_reg (ils_cons rfl (iop_call (r := .bool _) rfl rfl (lb rfl) cl8 .nil rfl (p_sennitlaw34_awake  _ hx3)) <|
   ils_cons rfl (asB rfl rfl rfl rfl) <|
   ils_end ?_)
  refine iwp_ret ?_
  refine thenQ_r ?_
  obtain rfl := Option.some.inj h
  refine ⟨.inr rfl, (.cons (sv rfl) .nil)⟩
 ·
  replace h := bif_f h hc2
  refine iwp_skip ?_
  refine thenQ_n ?_
  refine iwp_reg (ils_cons rfl (iop_sub (d' := .agg (w12 24 24 ([] : List T_ptree_Node) ([] : List Int))) (iop_build_struct (cs := q7) rfl rfl (lb rfl) Try.underlying32 ti32 pl32 rfl (.cons (sv (d := .int _ 24) rfl) (.cons (sv (d := .int _ 24) rfl) .nil)) rfl) (.agg (.k (.k (.cons (.nils _) (.cons (.nils _) .nil)))))) <|
   ils_cons rfl (iop_allocS (cs := q7) (cs' := (w12 0 0 ([] : List T_ptree_Node) ([] : List Int))) 0 rfl rfl (lb rfl) rfl ti32 rfl rfl (.k (.k (.cons (.nils _) (.cons (.nils _) .nil))))) <|
   ils_cons rfl (iop_store (ds' := [.int _ _, .int _ _, .slice false (([] : List T_ptree_Node).map E_ptree_Node.d), .slice false (([] : List Int).map (eInt .i64).d)]) rfl rfl ti32 (svR rfl) rfl (svA q4 rfl) rfl rfl rfl (nle rfl) rfl) <|
   ils_end ?_)
  refine iwp_seq ?_
  refine iwp_reg (ils_cons rfl (iop_assign rfl rfl (lb rfl) (sv (d := .int _ 0) rfl)) <|
   ils_end ?_)
  refine iwp_block ?_
  refine iwp_loopP (α := Nat × Int × Int × Int × (List T_ptree_Node) × (List Int)) (fun z => ⟨[(0, .slice false (a0.map E_fold_Op.d)), (1, .int .u8 a1), (5, .ref 0 0), (6, .int .i64 z.2.1)], [(0, .blk 32 (w12 z.2.2.1 z.2.2.2.1 z.2.2.2.2.1 z.2.2.2.2.2))]⟩) (fun z => sennitlaw34_FoldWeights_L0 a0 a1 z.1 z.2.1 z.2.2.1 z.2.2.2.1 z.2.2.2.2.1 z.2.2.2.2.2 = some r) (fun z => z.1) (fuel, 0, 24, 24, ([] : (List T_ptree_Node)), ([] : (List Int))) (fun i => i) ⟨(.sames rfl rfl), (.cons (.blk rfl rfl rfl) .nil), nd_of [0] rfl (by decide), fun _ _ => rfl⟩ ?_ ?_
  ·exact h
  ·
   rintro ⟨n0, v9, v10, v11, v12, v13⟩ h
   cases n0 with
   | zero => exact absurd h (by unfold sennitlaw34_FoldWeights_L0; exact nofun)
   | succ n0 =>
    unfold sennitlaw34_FoldWeights_L0 at h
    refine iwp_seq ?_
    obtain ⟨x19, hx19, h⟩ := bnd_e h
    refine iwp_reg (ils_cons rfl (mvI rfl rfl rfl rfl) <|
     ils_cons rfl (mvL rfl rfl rfl rfl) <|
     ils_cons rfl (iop_lenT E_fold_Op (l := a0) rfl rfl (lb rfl) Try.underlying54 (svL rfl)) <|
     ils_cons rfl (iop_cmpx rfl rfl (lb rfl) (svI rfl) (svI rfl) rfl hx19) <|
     ils_end ?_)
    refine iwp_cond (b := _) rfl (fun hc20 => ?_) (fun hc20 => ?_)
    ·
     replace h := bif_t h hc20
     refine iwp_skip ?_
     refine thenQ_n ?_
     refine iwp_seq ?_
     refine iwp_block ?_
     obtain ⟨x21, hx21, h⟩ := bno_e h
     obtain ⟨x22, hx22, h⟩ := bno_e h
     refine iwp_draw rfl [⟨[5], [0], [(31, .agg (w12 v10 v11 v12 v13))], []⟩,
      ⟨[0], [], [(32, .slice false (a0.map E_fold_Op.d))], []⟩,
      ⟨[6], [], [(33, .int .i64 v9)], []⟩,
      ⟨[32, 33], [], [(34, .fptr (v1 x21))], []⟩,
      ⟨[34], [], [(35, .agg (v1 x21))], []⟩,
      ⟨[31, 35], [], [(36, .tuple [.agg (v0 x22.1), .int .i64 x22.2])], []⟩,
      ⟨[36], [], [(30, .tuple [.agg (v0 x22.1), .int .i64 x22.2])], []⟩,
      ⟨[30], [], [(37, .agg (v0 x22.1))], []⟩,
      ⟨[30], [], [(38, .int .i64 x22.2)], []⟩,
      ⟨[5, 37], [0], [], [(0, .blk 32 (v0 x22.1))]⟩] rfl ?_ (by kernel_rfl) ?_
     ·refine .cons (lop rfl rfl fun S hA => (iop_load_ra (cs := q4) rfl rfl (lb rfl) Try.underlying32 ag32 ti32 (by decide) (svaR hA rfl rfl) (agi hA rfl rfl) (nle rfl) rfl)) ?_
      refine .cons (lop rfl rfl fun S hA => (iop_move rfl rfl (lb rfl) (svaL hA rfl rfl))) ?_
      refine .cons (lop rfl rfl fun S hA => (iop_move rfl rfl (lb rfl) (svaI hA rfl rfl))) ?_
      refine .cons (lop rfl rfl fun S hA => (iop_idxT E_fold_Op (cs := q3) rfl rfl (lb rfl) Try.underlying54 ti27 (svaL hA rfl rfl) (svaI hA rfl rfl) hx21 rfl rfl)) ?_
      refine .cons (lop rfl rfl fun S hA => (iop_load_fa (cs := q3) rfl rfl (lb rfl) Try.underlying27 ag27 ti27 (by decide) (sv (d := .fptr q3) (agr hA rfl rfl)) (nle rfl) rfl)) ?_
      refine .cons (lop rfl rfl fun S hA => (iop_call (r := .tuple q11) rfl rfl (lb rfl) cl10 (.cons (svaA q4 hA rfl rfl) (.cons (svaA q3 hA rfl rfl) .nil)) rfl (p_fold_Do _ _ _ hx22))) ?_
      refine .cons (lop rfl rfl fun S hA => (iop_move rfl rfl (lb rfl) (sv (d := .tuple q11) (agr hA rfl rfl)))) ?_
      refine .cons (lop rfl rfl fun S hA => (iop_extract (d := .agg q4) rfl rfl (lb rfl) (sv (d := .tuple q11) (agr hA rfl rfl)) rfl)) ?_
      refine .cons (lop rfl rfl fun S hA => (iop_extract (d := .int _ _) rfl rfl (lb rfl) (sv (d := .tuple q11) (agr hA rfl rfl)) rfl)) ?_
      refine .cons (lop rfl rfl fun S hA => (iop_store (ds' := q4) rfl rfl ti32 (svaR hA rfl rfl) (agi hA rfl rfl) (svaA q4 hA rfl rfl) rfl rfl rfl (nle rfl) rfl)) ?_
      exact .nil
     refine blockQ_n ?_
     refine thenQ_n ?_
     obtain ⟨x23, hx23, h⟩ := bnd_e h
     refine iwp_region (ils_cons rfl (mvI rfl rfl rfl rfl) <|
      ils_cons rfl (iop_intx rfl rfl (lb rfl) (svI rfl) (sv (d := .int _ 1) rfl) rfl hx23) <|
      ils_cons rfl (asI rfl rfl rfl rfl) <|
      ils_nil ?_)
     refine thenQ_n ⟨(n0, x23, x22.1.Room, x22.1.Keep, x22.1.Nodes, x22.1.Ended), (fun i => i), ⟨(.sames rfl rfl), (.cons (.blk rfl rfl rfl) .nil), nd_of [0] rfl (by decide), fun _ _ => rfl⟩, ?_, ?_⟩
     exact h
     exact Nat.lt_succ_self _
    ·
     replace h := bif_f h hc20
     refine iwp_exit ?_
     refine thenQ_e ?_
     refine thenQ_e ?_
     refine blockQ_e ?_
     refine thenQ_n ?_
     obtain ⟨x24, hx24, h⟩ := bno_e h
     obtain ⟨x25, hx25, h⟩ := bnd_e h
     refine iwp_reg (ils_cons rfl (mvI rfl rfl rfl rfl) <|
      ils_cons rfl (iop_remx rfl rfl (lb rfl) (svI rfl) (sv (d := .int _ 14) rfl) hx24) <|
      ils_cons rfl (iop_int_conv rfl rfl (lb rfl) ⟨_, Try.underlying5⟩ Try.underlying3 (svI rfl) hx25) <|
      ils_cons rfl (asI rfl rfl rfl rfl) <|
      ils_end ?_)
     refine iwp_reg (ils_cons rfl (iop_assign rfl rfl (lb rfl) (sv (d := .int _ 0) rfl)) <|
      ils_cons rfl (iop_assign rfl rfl (lb rfl) (sv (d := .int _ (-1)) rfl)) <|
      ils_cons rfl (iop_assign rfl rfl (lb rfl) (sv (d := .bool false) rfl)) <|
      ils_end ?_)
     refine iwp_seq ?_
     refine iwp_reg (ils_cons rfl (iop_assign rfl rfl (lb rfl) (sv (d := .int _ 0) rfl)) <|
      ils_end ?_)
     refine iwp_block ?_
     refine iwp_loopP (α := Nat × Int × Int × Bool × Int) (fun z => ⟨[(5, .ref 0 0), (7, .int .i64 x25), (8, .int .i64 z.2.1), (9, .int .i64 z.2.2.1), (10, .bool z.2.2.2.1), (11, .int .i64 z.2.2.2.2)], [(0, .blk 32 (w12 v10 v11 v12 v13))]⟩) (fun z => sennitlaw34_FoldWeights_L1 v10 v11 v12 v13 x25 z.1 z.2.1 z.2.2.1 z.2.2.2.1 z.2.2.2.2 = some r) (fun z => z.1) (fuel, 0, (-1), false, 0) (fun i => i) ⟨(.sames rfl rfl), (.cons (.blk rfl rfl rfl) .nil), nd_of [0] rfl (by decide), fun _ _ => rfl⟩ ?_ ?_
     ·exact h
     ·
      rintro ⟨n1, v36, v37, v38, v39⟩ h
      cases n1 with
      | zero => exact absurd h (by unfold sennitlaw34_FoldWeights_L1; exact nofun)
      | succ n1 =>
       unfold sennitlaw34_FoldWeights_L1 at h
       refine iwp_seq ?_
       obtain ⟨x50, hx50, h⟩ := bnd_e h
       refine iwp_reg (ils_cons rfl (mvI rfl rfl rfl rfl) <|
        ils_cons rfl (faR 2 rfl rfl rfl Try.underlying32 rfl ti30 (lb rfl) rfl rfl) <|
        ils_cons rfl (lrL la30 rfl rfl rfl rfl rfl (nle rfl) rfl) <|
        ils_cons rfl (iop_lenT E_ptree_Node (l := v12) rfl rfl (lb rfl) Try.underlying30 (svL rfl)) <|
        ils_cons rfl (iop_cmpx rfl rfl (lb rfl) (svI rfl) (svI rfl) rfl hx50) <|
        ils_end ?_)
       refine iwp_cond (b := _) rfl (fun hc51 => ?_) (fun hc51 => ?_)
       ·
        replace h := bif_t h hc51
        refine iwp_skip ?_
        refine thenQ_n ?_
        refine iwp_seq ?_
        refine iwp_block ?_
        obtain ⟨x52, hx52, h⟩ := bno_e h
        obtain ⟨x53, hx53, h⟩ := bnd_e h
        refine iwp_reg (ils_cons rfl (faR 2 rfl rfl rfl Try.underlying32 rfl ti30 (lb rfl) rfl rfl) <|
         ils_cons rfl (lrL la30 rfl rfl rfl rfl rfl (nle rfl) rfl) <|
         ils_cons rfl (mvI rfl rfl rfl rfl) <|
         ils_cons rfl (iop_idxT E_ptree_Node (cs := q6) rfl rfl (lb rfl) Try.underlying30 ti56 (svL rfl) (svI rfl) hx52 rfl rfl) <|
         ils_cons rfl (iop_fieldAddr_fptr (cs' := [.int _ _]) rfl rfl (lb rfl) Try.underlying56 rfl ti3 (by decide) (sv (d := .fptr q6) rfl) rfl) <|
         ils_cons rfl (iop_load_fs rfl rfl (lb rfl) Try.underlying3 ag3 ti3 (by decide) (sv (d := .fptr [.int _ _]) rfl) (nle rfl)) <|
         ils_cons rfl (mvI rfl rfl rfl rfl) <|
         ils_cons rfl (iop_cmpx rfl rfl (lb rfl) (svI rfl) (svI rfl) rfl hx53) <|
         ils_end ?_)
        refine iwp_cond (b := _) rfl (fun hc54 => ?_) (fun hc54 => ?_)
        ·
         replace h := bif_t h hc54
         obtain ⟨x55, hx55, h⟩ := bno_e h
         obtain ⟨x56, hx56, h⟩ := bno_e h
         obtain ⟨x57, hx57, h⟩ := bno_e h
         refine iwp_draw rfl [⟨[5], [], [(57, .ref 0 2)], []⟩,
          ⟨[57], [0], [(58, .slice false (v12.map E_ptree_Node.d))], []⟩,
          ⟨[11], [], [(59, .int .i64 v39)], []⟩,
          ⟨[58, 59], [], [(60, .fptr (v2 x55))], []⟩,
          ⟨[60], [], [(61, .fptr [.int .i64 x55.Weight])], []⟩,
          ⟨[61], [], [(62, .int .i64 x55.Weight)], []⟩,
          ⟨[5], [], [(63, .ref 0 2)], []⟩,
          ⟨[63], [0], [(64, .slice false (v12.map E_ptree_Node.d))], []⟩,
          ⟨[11], [], [(65, .int .i64 v39)], []⟩,
          ⟨[64, 65], [], [(66, .fptr (v2 x56))], []⟩,
          ⟨[66], [], [(67, .fptr [.int .i64 x56.Parent])], []⟩,
          ⟨[67], [], [(68, .int .i64 x56.Parent)], []⟩,
          ⟨[5], [], [(69, .ref 0 2)], []⟩,
          ⟨[69], [0], [(70, .slice false (v12.map E_ptree_Node.d))], []⟩,
          ⟨[11], [], [(71, .int .i64 v39)], []⟩,
          ⟨[70, 71], [], [(72, .fptr (v2 x57))], []⟩,
          ⟨[72], [], [(73, .fptr [.bool x57.Closed])], []⟩,
          ⟨[73], [], [(74, .bool x57.Closed)], []⟩,
          ⟨[62], [], [(8, .int .i64 x55.Weight)], []⟩,
          ⟨[68], [], [(9, .int .i64 x56.Parent)], []⟩,
          ⟨[74], [], [(10, .bool x57.Closed)], []⟩] rfl ?_ (by kernel_rfl) ?_
         ·refine .cons (lop rfl rfl fun S hA => (iop_fieldAddr_ref rfl rfl (lb rfl) Try.underlying32 rfl ti30 (by decide) (svaR hA rfl rfl) (off' := 2) rfl)) ?_
          refine .cons (lop rfl rfl fun S hA => (iop_load_rs (d := .slice _ _) rfl rfl (lb rfl) Try.underlying30 ag30 ti30 (by decide) (svaR hA rfl rfl) (agi hA rfl rfl) (nle rfl) rfl)) ?_
          refine .cons (lop rfl rfl fun S hA => (iop_move rfl rfl (lb rfl) (svaI hA rfl rfl))) ?_
          refine .cons (lop rfl rfl fun S hA => (iop_idxT E_ptree_Node (cs := q6) rfl rfl (lb rfl) Try.underlying30 ti56 (svaL hA rfl rfl) (svaI hA rfl rfl) hx55 rfl rfl)) ?_
          refine .cons (lop rfl rfl fun S hA => (iop_fieldAddr_fptr (cs' := [.int _ _]) rfl rfl (lb rfl) Try.underlying56 rfl ti3 (by decide) (sv (d := .fptr q6) (agr hA rfl rfl)) rfl)) ?_
          refine .cons (lop rfl rfl fun S hA => (iop_load_fs rfl rfl (lb rfl) Try.underlying3 ag3 ti3 (by decide) (sv (d := .fptr [.int _ _]) (agr hA rfl rfl)) (nle rfl))) ?_
          refine .cons (lop rfl rfl fun S hA => (iop_fieldAddr_ref rfl rfl (lb rfl) Try.underlying32 rfl ti30 (by decide) (svaR hA rfl rfl) (off' := 2) rfl)) ?_
          refine .cons (lop rfl rfl fun S hA => (iop_load_rs (d := .slice _ _) rfl rfl (lb rfl) Try.underlying30 ag30 ti30 (by decide) (svaR hA rfl rfl) (agi hA rfl rfl) (nle rfl) rfl)) ?_
          refine .cons (lop rfl rfl fun S hA => (iop_move rfl rfl (lb rfl) (svaI hA rfl rfl))) ?_
          refine .cons (lop rfl rfl fun S hA => (iop_idxT E_ptree_Node (cs := q6) rfl rfl (lb rfl) Try.underlying30 ti56 (svaL hA rfl rfl) (svaI hA rfl rfl) hx56 rfl rfl)) ?_
          refine .cons (lop rfl rfl fun S hA => (iop_fieldAddr_fptr (cs' := [.int _ _]) rfl rfl (lb rfl) Try.underlying56 rfl ti3 (by decide) (sv (d := .fptr q6) (agr hA rfl rfl)) rfl)) ?_
          refine .cons (lop rfl rfl fun S hA => (iop_load_fs rfl rfl (lb rfl) Try.underlying3 ag3 ti3 (by decide) (sv (d := .fptr [.int _ _]) (agr hA rfl rfl)) (nle rfl))) ?_
          refine .cons (lop rfl rfl fun S hA => (iop_fieldAddr_ref rfl rfl (lb rfl) Try.underlying32 rfl ti30 (by decide) (svaR hA rfl rfl) (off' := 2) rfl)) ?_
          refine .cons (lop rfl rfl fun S hA => (iop_load_rs (d := .slice _ _) rfl rfl (lb rfl) Try.underlying30 ag30 ti30 (by decide) (svaR hA rfl rfl) (agi hA rfl rfl) (nle rfl) rfl)) ?_
          refine .cons (lop rfl rfl fun S hA => (iop_move rfl rfl (lb rfl) (svaI hA rfl rfl))) ?_
          refine .cons (lop rfl rfl fun S hA => (iop_idxT E_ptree_Node (cs := q6) rfl rfl (lb rfl) Try.underlying30 ti56 (svaL hA rfl rfl) (svaI hA rfl rfl) hx57 rfl rfl)) ?_
          refine .cons (lop rfl rfl fun S hA => (iop_fieldAddr_fptr (cs' := [.bool _]) rfl rfl (lb rfl) Try.underlying56 rfl ti4 (by decide) (sv (d := .fptr q6) (agr hA rfl rfl)) rfl)) ?_
          refine .cons (lop rfl rfl fun S hA => (iop_load_fs rfl rfl (lb rfl) Try.underlying4 ag4 ti4 (by decide) (sv (d := .fptr [.bool _]) (agr hA rfl rfl)) (nle rfl))) ?_
          refine .cons (lop rfl rfl fun S hA => (iop_assign rfl rfl (lb rfl) (svaI hA rfl rfl))) ?_
          refine .cons (lop rfl rfl fun S hA => (iop_assign rfl rfl (lb rfl) (svaI hA rfl rfl))) ?_
          refine .cons (lop rfl rfl fun S hA => (iop_assign rfl rfl (lb rfl) (svaB hA rfl rfl))) ?_
          exact .nil
         refine blockQ_n ?_
         refine thenQ_n ?_
         obtain ⟨x58, hx58, h⟩ := bnd_e h
         refine iwp_region (ils_cons rfl (mvI rfl rfl rfl rfl) <|
          ils_cons rfl (iop_intx rfl rfl (lb rfl) (svI rfl) (sv (d := .int _ 1) rfl) rfl hx58) <|
          ils_cons rfl (asI rfl rfl rfl rfl) <|
          ils_nil ?_)
         refine thenQ_n ⟨(n1, x55.Weight, x56.Parent, x57.Closed, x58), (fun i => i), ⟨(.sames rfl rfl), (.cons (.blk rfl rfl rfl) .nil), nd_of [0] rfl (by decide), fun _ _ => rfl⟩, ?_, ?_⟩
         exact h
         exact Nat.lt_succ_self _
        ·
         replace h := bif_f h hc54
         refine iwp_skip ?_
         refine blockQ_n ?_
         refine thenQ_n ?_
         obtain ⟨x59, hx59, h⟩ := bnd_e h
         refine iwp_region (ils_cons rfl (mvI rfl rfl rfl rfl) <|
          ils_cons rfl (iop_intx rfl rfl (lb rfl) (svI rfl) (sv (d := .int _ 1) rfl) rfl hx59) <|
          ils_cons rfl (asI rfl rfl rfl rfl) <|
          ils_nil ?_)
         refine thenQ_n ⟨(n1, v36, v37, v38, x59), (fun i => i), ⟨(.sames rfl rfl), (.cons (.blk rfl rfl rfl) .nil), nd_of [0] rfl (by decide), fun _ _ => rfl⟩, ?_, ?_⟩
         exact h
         exact Nat.lt_succ_self _
       ·
        replace h := bif_f h hc51
        refine iwp_exit ?_
        refine thenQ_e ?_
        refine thenQ_e ?_
        refine blockQ_e ?_
        refine thenQ_n ?_
        obtain ⟨x60, hx60, h⟩ := bno_e h
        refine iwp_reg (ils_cons rfl (lra q4 la32 rfl rfl rfl rfl rfl (nle rfl) rfl) <|
         ils_cons rfl (mvI rfl rfl rfl rfl) <|
         ils_cons rfl (iop_build_struct (cs := q3) rfl rfl (lb rfl) Try.underlying37 ti37 pl37 rfl (.cons (sv (d := .int _ 3) rfl) (.cons (svI rfl) .nil)) rfl) <|
         ils_cons rfl (iop_call (r := .tuple q11) rfl rfl (lb rfl) cl10 (.cons (svA q4 rfl) (.cons (svA q3 rfl) .nil)) rfl (p_fold_Do _ _ _ hx60)) <|
         ils_cons rfl (iop_move rfl rfl (lb rfl) (sv (d := .tuple q11) rfl)) <|
         ils_cons rfl (iop_extract (d := .agg q4) rfl rfl (lb rfl) (sv (d := .tuple q11) rfl) rfl) <|
         ils_cons rfl (iop_extract (d := .int _ _) rfl rfl (lb rfl) (sv (d := .tuple q11) rfl) rfl) <|
         ils_cons rfl (iop_allocS (cs := q7) (cs' := (w12 0 0 ([] : List T_ptree_Node) ([] : List Int))) 1 rfl rfl (lb rfl) rfl ti32 rfl rfl (.k (.k (.cons (.nils _) (.cons (.nils _) .nil))))) <|
         ils_cons rfl (stA q4 q4 ti32 rfl rfl rfl rfl rfl rfl rfl rfl (nle rfl) rfl) <|
         ils_cons rfl (asI rfl rfl rfl rfl) <|
         ils_end ?_)
        obtain ⟨x61, hx61, h⟩ := bno_e h
        refine iwp_reg (ils_cons rfl (lra q4 la32 rfl rfl rfl rfl rfl (nle rfl) rfl) <|
         ils_cons rfl (mvI rfl rfl rfl rfl) <|
         ils_cons rfl (iop_build_struct (cs := q3) rfl rfl (lb rfl) Try.underlying37 ti37 pl37 rfl (.cons (sv (d := .int _ 2) rfl) (.cons (svI rfl) .nil)) rfl) <|
         ils_cons rfl (iop_call (r := .tuple q11) rfl rfl (lb rfl) cl10 (.cons (svA q4 rfl) (.cons (svA q3 rfl) .nil)) rfl (p_fold_Do _ _ _ hx61)) <|
         ils_cons rfl (iop_move rfl rfl (lb rfl) (sv (d := .tuple q11) rfl)) <|
         ils_cons rfl (iop_extract (d := .agg q4) rfl rfl (lb rfl) (sv (d := .tuple q11) rfl) rfl) <|
         ils_cons rfl (iop_extract (d := .int _ _) rfl rfl (lb rfl) (sv (d := .tuple q11) rfl) rfl) <|
         ils_cons rfl (iop_allocS (cs := q7) (cs' := (w12 0 0 ([] : List T_ptree_Node) ([] : List Int))) 2 rfl rfl (lb rfl) rfl ti32 rfl rfl (.k (.k (.cons (.nils _) (.cons (.nils _) .nil))))) <|
         ils_cons rfl (stA q4 q4 ti32 rfl rfl rfl rfl rfl rfl rfl rfl (nle rfl) rfl) <|
         ils_cons rfl (asI rfl rfl rfl rfl) <|
         ils_end ?_)
        refine iwp_seq ?_
        obtain ⟨x62, hx62, h⟩ := bnd_e h
        refine iwp_reg (ils_cons rfl (mvI rfl rfl rfl rfl) <|
         ils_cons rfl (iop_cmpx rfl rfl (lb rfl) (svI rfl) (sv (d := .int _ 0) rfl) rfl hx62) <|
         ils_end ?_)
        refine iwp_cond (b := _) rfl (fun hc63 => ?_) (fun hc63 => ?_)
        ·
         replace h := bif_t h hc63
         obtain ⟨x64, hx64, h⟩ := bnd_e h
         obtain ⟨x65, hx65, h⟩ := bnd_e h
         obtain ⟨x66, hx66, h⟩ := bnd_e h
         obtain ⟨x67, hx67, h⟩ := bno_e h
         obtain ⟨x68, hx68, h⟩ := bnd_e h
         obtain ⟨x69, hx69, h⟩ := bno_e h
         obtain ⟨x70, hx70, h⟩ := bnd_e h
         refine iwp_reg (ils_cons rfl (mvI rfl rfl rfl rfl) <|
          ils_cons rfl (iop_cmpx rfl rfl (lb rfl) (svI rfl) (sv (d := .int _ 6) rfl) rfl hx64) <|
          ils_cons rfl (mvB rfl rfl rfl rfl) <|
          ils_guard rfl rfl (.one rfl) rfl (by decide) (fun hb => (mvI rfl rfl rfl rfl)) <|
          ils_guard rfl rfl (.one rfl) rfl (by decide) (fun hb => (iop_cmpx rfl rfl (lb rfl) (svcI rfl hb) (sv (d := .int _ 6) rfl) rfl hx65)) <|
          ils_cons rfl (iop_andx rfl rfl (lb rfl) (svB rfl) rfl rfl hx66) <|
          ils_cons rfl (mvB rfl rfl rfl rfl) <|
          ils_guard rfl rfl (.one rfl) rfl (by decide) (fun hb => (lra q4 la32 rfl rfl rfl rfl rfl (nle rfl) rfl)) <|
          ils_guard rfl rfl (.one rfl) rfl (by decide) (fun hb => (lra q4 la32 rfl rfl rfl rfl rfl (nle rfl) rfl)) <|
          ils_guard rfl rfl (.one rfl) rfl (by decide) (fun hb => (iop_call (r := .bool _) rfl rfl (lb rfl) cl16 (.cons (svcA (v0 x60.1) rfl hb) (.cons (svcA (w12 v10 v11 v12 v13) rfl hb) .nil)) rfl (p_fold_Same _ _ _ (gd_t hx67 hb)))) <|
          ils_cons rfl (iop_andx rfl rfl (lb rfl) (svB rfl) rfl rfl hx68) <|
          ils_cons rfl (mvB rfl rfl rfl rfl) <|
          ils_guard rfl rfl (.one rfl) rfl (by decide) (fun hb => (iop_call (r := .bool _) rfl rfl (lb rfl) cl8 .nil rfl (p_sennitlaw34_awake  _ (gd_t hx69 hb)))) <|
          ils_cons rfl (iop_andx rfl rfl (lb rfl) (svB rfl) rfl rfl hx70) <|
          ils_cons rfl (asB rfl rfl rfl rfl) <|
          ils_end ?_)
         refine iwp_ret ?_
         refine thenQ_r ?_
         obtain rfl := Option.some.inj h
         refine ⟨.inr rfl, (.cons (sv rfl) .nil)⟩
        ·
         replace h := bif_f h hc63
         refine iwp_skip ?_
         refine thenQ_n ?_
         refine iwp_reg (ils_cons rfl (iop_assign rfl rfl (lb rfl) (sv (d := .int _ 0) rfl)) <|
          ils_end ?_)
         refine iwp_seq ?_
         refine iwp_reg (ils_cons rfl (iop_assign rfl rfl (lb rfl) (sv (d := .int _ 0) rfl)) <|
          ils_end ?_)
         refine iwp_block ?_
         refine iwp_loopP (α := Nat × Int × Int) (fun z => ⟨[(5, .ref 0 0), (7, .int .i64 x25), (8, .int .i64 v36), (9, .int .i64 v37), (10, .bool v38), (12, .ref 1 0), (13, .int .i64 x60.2), (14, .ref 2 0), (15, .int .i64 x61.2), (16, .int .i64 z.2.1), (17, .int .i64 z.2.2)], [(0, .blk 32 (w12 v10 v11 v12 v13)), (1, .blk 32 (v0 x60.1)), (2, .blk 32 (v0 x61.1))]⟩) (fun z => sennitlaw34_FoldWeights_L2 v10 v11 v12 v13 x25 v36 v37 v38 x60 x61 z.1 z.2.1 z.2.2 = some r) (fun z => z.1) (fuel, 0, 0) (fun i => i) ⟨(.sames rfl rfl), (.cons (.blk rfl rfl rfl) (.cons (.blk rfl rfl rfl) (.cons (.blk rfl rfl rfl) .nil))), nd_of [0, 1, 2] rfl (by decide), fun _ _ => rfl⟩ ?_ ?_
         ·exact h
         ·
          rintro ⟨n2, v79, v80⟩ h
          cases n2 with
          | zero => exact absurd h (by unfold sennitlaw34_FoldWeights_L2; exact nofun)
          | succ n2 =>
           unfold sennitlaw34_FoldWeights_L2 at h
           refine iwp_seq ?_
           obtain ⟨x89, hx89, h⟩ := bnd_e h
           refine iwp_reg (ils_cons rfl (mvI rfl rfl rfl rfl) <|
            ils_cons rfl (faR 2 rfl rfl rfl Try.underlying32 rfl ti30 (lb rfl) rfl rfl) <|
            ils_cons rfl (lrL la30 rfl rfl rfl rfl rfl (nle rfl) rfl) <|
            ils_cons rfl (iop_lenT E_ptree_Node (l := v12) rfl rfl (lb rfl) Try.underlying30 (svL rfl)) <|
            ils_cons rfl (iop_cmpx rfl rfl (lb rfl) (svI rfl) (svI rfl) rfl hx89) <|
            ils_end ?_)
           refine iwp_cond (b := _) rfl (fun hc90 => ?_) (fun hc90 => ?_)
           ·
            replace h := bif_t h hc90
            refine iwp_skip ?_
            refine thenQ_n ?_
            refine iwp_seq ?_
            refine iwp_block ?_
            obtain ⟨x91, hx91, h⟩ := bno_e h
            obtain ⟨x92, hx92, h⟩ := bnd_e h
            refine iwp_reg (ils_cons rfl (faR 2 rfl rfl rfl Try.underlying32 rfl ti30 (lb rfl) rfl rfl) <|
             ils_cons rfl (lrL la30 rfl rfl rfl rfl rfl (nle rfl) rfl) <|
             ils_cons rfl (mvI rfl rfl rfl rfl) <|
             ils_cons rfl (iop_idxT E_ptree_Node (cs := q6) rfl rfl (lb rfl) Try.underlying30 ti56 (svL rfl) (svI rfl) hx91 rfl rfl) <|
             ils_cons rfl (iop_fieldAddr_fptr (cs' := [.int _ _]) rfl rfl (lb rfl) Try.underlying56 rfl ti3 (by decide) (sv (d := .fptr q6) rfl) rfl) <|
             ils_cons rfl (iop_load_fs rfl rfl (lb rfl) Try.underlying3 ag3 ti3 (by decide) (sv (d := .fptr [.int _ _]) rfl) (nle rfl)) <|
             ils_cons rfl (mvI rfl rfl rfl rfl) <|
             ils_cons rfl (iop_cmpx rfl rfl (lb rfl) (svI rfl) (svI rfl) rfl hx92) <|
             ils_end ?_)
            refine iwp_cond (b := _) rfl (fun hc93 => ?_) (fun hc93 => ?_)
            ·
             replace h := bif_t h hc93
             obtain ⟨x94, hx94, h⟩ := bnd_e h
             refine iwp_region (ils_cons rfl (mvI rfl rfl rfl rfl) <|
              ils_cons rfl (iop_intx rfl rfl (lb rfl) (svI rfl) (sv (d := .int _ 1) rfl) rfl hx94) <|
              ils_cons rfl (asI rfl rfl rfl rfl) <|
              ils_nil ?_)
             refine blockQ_n ?_
             refine thenQ_n ?_
             obtain ⟨x95, hx95, h⟩ := bnd_e h
             refine iwp_region (ils_cons rfl (mvI rfl rfl rfl rfl) <|
              ils_cons rfl (iop_intx rfl rfl (lb rfl) (svI rfl) (sv (d := .int _ 1) rfl) rfl hx95) <|
              ils_cons rfl (asI rfl rfl rfl rfl) <|
              ils_nil ?_)
             refine thenQ_n ⟨(n2, x94, x95), (fun i => i), ⟨(.sames rfl rfl), (.cons (.blk rfl rfl rfl) (.cons (.blk rfl rfl rfl) (.cons (.blk rfl rfl rfl) .nil))), nd_of [0, 1, 2] rfl (by decide), fun _ _ => rfl⟩, ?_, ?_⟩
             exact h
             exact Nat.lt_succ_self _
            ·
             replace h := bif_f h hc93
             refine iwp_skip ?_
             refine blockQ_n ?_
             refine thenQ_n ?_
             obtain ⟨x96, hx96, h⟩ := bnd_e h
             refine iwp_region (ils_cons rfl (mvI rfl rfl rfl rfl) <|
              ils_cons rfl (iop_intx rfl rfl (lb rfl) (svI rfl) (sv (d := .int _ 1) rfl) rfl hx96) <|
              ils_cons rfl (asI rfl rfl rfl rfl) <|
              ils_nil ?_)
             refine thenQ_n ⟨(n2, v79, x96), (fun i => i), ⟨(.sames rfl rfl), (.cons (.blk rfl rfl rfl) (.cons (.blk rfl rfl rfl) (.cons (.blk rfl rfl rfl) .nil))), nd_of [0, 1, 2] rfl (by decide), fun _ _ => rfl⟩, ?_, ?_⟩
             exact h
             exact Nat.lt_succ_self _
           ·
            replace h := bif_f h hc90
            refine iwp_exit ?_
            refine thenQ_e ?_
            refine thenQ_e ?_
            refine blockQ_e ?_
            refine thenQ_n ?_
            obtain ⟨x97, hx97, h⟩ := bno_e h
            obtain ⟨x98, hx98, h⟩ := bno_e h
            obtain ⟨x99, hx99, h⟩ := bnd_e h
            obtain ⟨x100, hx100, h⟩ := bnd_e h
            refine iwp_drw rfl [⟨[12], [1], [(122, .agg (v0 x60.1))], []⟩,
             ⟨[9], [], [(123, .int .i64 v37)], []⟩,
             ⟨[122, 123], [], [(124, .int .i64 x97)], []⟩,
             ⟨[5], [0], [(125, .agg (w12 v10 v11 v12 v13))], []⟩,
             ⟨[9], [], [(126, .int .i64 v37)], []⟩,
             ⟨[125, 126], [], [(127, .int .i64 x98)], []⟩,
             ⟨[8], [], [(128, .int .i64 v36)], []⟩,
             ⟨[127, 128], [], [(129, .int .i64 x99)], []⟩,
             ⟨[124, 129], [], [(130, .int .i64 x100)], []⟩,
             ⟨[130], [], [(18, .int .i64 x100)], []⟩] rfl ?_ (by kernel_rfl) ?_
            ·refine .cons (lop rfl rfl fun S hA => (iop_load_ra (cs := q4) rfl rfl (lb rfl) Try.underlying32 ag32 ti32 (by decide) (svaR hA rfl rfl) (agi hA rfl rfl) (nle rfl) rfl)) ?_
             refine .cons (lop rfl rfl fun S hA => (iop_move rfl rfl (lb rfl) (svaI hA rfl rfl))) ?_
             refine .cons (lop rfl rfl fun S hA => (iop_call (r := .int _ _) rfl rfl (lb rfl) cl24 (.cons (svaA q4 hA rfl rfl) (.cons (svaI hA rfl rfl) .nil)) rfl (p_fold_Sum _ _ _ hx97))) ?_
             refine .cons (lop rfl rfl fun S hA => (iop_load_ra (cs := q4) rfl rfl (lb rfl) Try.underlying32 ag32 ti32 (by decide) (svaR hA rfl rfl) (agi hA rfl rfl) (nle rfl) rfl)) ?_
             refine .cons (lop rfl rfl fun S hA => (iop_move rfl rfl (lb rfl) (svaI hA rfl rfl))) ?_
             refine .cons (lop rfl rfl fun S hA => (iop_call (r := .int _ _) rfl rfl (lb rfl) cl24 (.cons (svaA q4 hA rfl rfl) (.cons (svaI hA rfl rfl) .nil)) rfl (p_fold_Sum _ _ _ hx98))) ?_
             refine .cons (lop rfl rfl fun S hA => (iop_move rfl rfl (lb rfl) (svaI hA rfl rfl))) ?_
             refine .cons (lop rfl rfl fun S hA => (iop_intx rfl rfl (lb rfl) (svaI hA rfl rfl) (svaI hA rfl rfl) rfl hx99)) ?_
             refine .cons (lop rfl rfl fun S hA => (iop_intx rfl rfl (lb rfl) (svaI hA rfl rfl) (svaI hA rfl rfl) rfl hx100)) ?_
             refine .cons (lop rfl rfl fun S hA => (iop_assign rfl rfl (lb rfl) (svaI hA rfl rfl))) ?_
             exact .nil
            obtain ⟨x101, hx101, h⟩ := bnd_e h
            obtain ⟨x102, hx102, h⟩ := bnd_e h
            obtain ⟨x103, hx103, h⟩ := bnd_e h
            obtain ⟨x104, hx104, h⟩ := bnd_e h
            obtain ⟨x105, hx105, h⟩ := bnd_e h
            obtain ⟨x106, hx106, h⟩ := bnd_e h
            obtain ⟨x107, hx107, h⟩ := bnd_e h
            obtain ⟨x108, hx108, h⟩ := bnd_e h
            obtain ⟨x109, hx109, h⟩ := bnd_e h
            obtain ⟨x110, hx110, h⟩ := bno_e h
            obtain ⟨x111, hx111, h⟩ := bno_e h
            obtain ⟨x112, hx112, h⟩ := bnd_e h
            obtain ⟨x113, hx113, h⟩ := bnd_e h
            obtain ⟨x114, hx114, h⟩ := bnd_e h
            obtain ⟨x115, hx115, h⟩ := bnd_e h
            obtain ⟨x116, hx116, h⟩ := bnd_e h
            obtain ⟨x117, hx117, h⟩ := bnd_e h
            obtain ⟨x118, hx118, h⟩ := bnd_e h
            obtain ⟨x119, hx119, h⟩ := bno_e h
            obtain ⟨x120, hx120, h⟩ := bnd_e h
            refine iwp_drw rfl [⟨[13], [], [(131, .int .i64 x60.2)], []⟩,
             ⟨[131], [], [(132, .bool x101)], []⟩,
             ⟨[132], [], [(133, .bool x101)], []⟩,
             ⟨[15, 133], [], [(134, .cnd (x101 == true) (.int .i64 x61.2))], []⟩,
             ⟨[133, 134], [], [(135, .cnd (x101 == true) (.bool x102))], []⟩,
             ⟨[10, 133], [], [(136, .cnd (x101 == true) (.bool v38))], []⟩,
             ⟨[133, 136], [], [(137, .cnd (x101 == true) (.bool (!v38)))], []⟩,
             ⟨[133, 135, 137], [], [(138, .cnd (x101 == true) (.bool x103))], []⟩,
             ⟨[133, 138], [], [(139, .bool x104)], []⟩,
             ⟨[139], [], [(140, .bool x104)], []⟩,
             ⟨[12, 140], [], [(141, .cnd (x104 == true) (.ref 1 2))], []⟩,
             ⟨[140, 141], [1], [(142, .cnd (x104 == true) (.slice false (x60.1.Nodes.map E_ptree_Node.d)))], []⟩,
             ⟨[140, 142], [], [(143, .cnd (x104 == true) (.int .i64 (x60.1.Nodes.length : Int)))], []⟩,
             ⟨[5, 140], [], [(144, .cnd (x104 == true) (.ref 0 2))], []⟩,
             ⟨[140, 144], [0], [(145, .cnd (x104 == true) (.slice false (v12.map E_ptree_Node.d)))], []⟩,
             ⟨[140, 145], [], [(146, .cnd (x104 == true) (.int .i64 (v12.length : Int)))], []⟩,
             ⟨[140, 146], [], [(147, .cnd (x104 == true) (.int .i64 x105))], []⟩,
             ⟨[140, 143, 147], [], [(148, .cnd (x104 == true) (.bool x106))], []⟩,
             ⟨[140, 148], [], [(149, .bool x107)], []⟩,
             ⟨[149], [], [(150, .bool x107)], []⟩,
             ⟨[14, 150], [], [(151, .cnd (x107 == true) (.ref 2 2))], []⟩,
             ⟨[150, 151], [2], [(152, .cnd (x107 == true) (.slice false (x61.1.Nodes.map E_ptree_Node.d)))], []⟩,
             ⟨[150, 152], [], [(153, .cnd (x107 == true) (.int .i64 (x61.1.Nodes.length : Int)))], []⟩,
             ⟨[5, 150], [], [(154, .cnd (x107 == true) (.ref 0 2))], []⟩,
             ⟨[150, 154], [0], [(155, .cnd (x107 == true) (.slice false (v12.map E_ptree_Node.d)))], []⟩,
             ⟨[150, 155], [], [(156, .cnd (x107 == true) (.int .i64 (v12.length : Int)))], []⟩,
             ⟨[150, 153, 156], [], [(157, .cnd (x107 == true) (.bool x108))], []⟩,
             ⟨[150, 157], [], [(158, .bool x109)], []⟩,
             ⟨[158], [], [(159, .bool x109)], []⟩,
             ⟨[14, 159], [2], [(160, .cnd (x109 == true) (.agg (v0 x61.1)))], []⟩,
             ⟨[7, 159], [], [(161, .cnd (x109 == true) (.int .i64 x25))], []⟩,
             ⟨[159, 160, 161], [], [(162, .cnd (x109 == true) (.int .i64 x110))], []⟩,
             ⟨[5, 159], [0], [(163, .cnd (x109 == true) (.agg (w12 v10 v11 v12 v13)))], []⟩,
             ⟨[7, 159], [], [(164, .cnd (x109 == true) (.int .i64 x25))], []⟩,
             ⟨[159, 163, 164], [], [(165, .cnd (x109 == true) (.int .i64 x111))], []⟩,
             ⟨[159, 162, 165], [], [(166, .cnd (x109 == true) (.bool x112))], []⟩,
             ⟨[159, 166], [], [(167, .bool x113)], []⟩,
             ⟨[167], [], [(168, .bool x113)], []⟩,
             ⟨[18, 168], [], [(169, .cnd (x113 == true) (.int .i64 x100))], []⟩,
             ⟨[8, 168], [], [(170, .cnd (x113 == true) (.int .i64 v36))], []⟩,
             ⟨[16, 168], [], [(171, .cnd (x113 == true) (.int .i64 v79))], []⟩,
             ⟨[168, 170, 171], [], [(172, .cnd (x113 == true) (.int .i64 x114))], []⟩,
             ⟨[168, 169, 172], [], [(173, .cnd (x113 == true) (.bool x115))], []⟩,
             ⟨[168, 173], [], [(174, .bool x116)], []⟩,
             ⟨[174], [], [(175, .bool x116)], []⟩,
             ⟨[18, 175], [], [(176, .cnd (x116 == true) (.int .i64 x100))], []⟩,
             ⟨[16, 175], [], [(177, .cnd (x116 == true) (.int .i64 v79))], []⟩,
             ⟨[175, 176, 177], [], [(178, .cnd (x116 == true) (.bool x117))], []⟩,
             ⟨[175, 178], [], [(179, .bool x118)], []⟩,
             ⟨[179], [], [(180, .bool x118)], []⟩,
             ⟨[180], [], [(181, .cnd (x118 == true) (.bool x119))], []⟩,
             ⟨[180, 181], [], [(182, .bool x120)], []⟩,
             ⟨[182], [], [(4, .bool x120)], []⟩] rfl ?_ (by kernel_rfl) ?_
            ·refine .cons (lop rfl rfl fun S hA => (iop_move rfl rfl (lb rfl) (svaI hA rfl rfl))) ?_
             refine .cons (lop rfl rfl fun S hA => (iop_cmpx rfl rfl (lb rfl) (svaI hA rfl rfl) (sv (d := .int _ 0) rfl) rfl hx101)) ?_
             refine .cons (lop rfl rfl fun S hA => (iop_move rfl rfl (lb rfl) (svaB hA rfl rfl))) ?_
             refine .cons (lopg rfl rfl rfl rfl (by decide) (fun S hA => grd1 hA rfl rfl) (fun S hA hb => (iop_move rfl rfl (lb rfl) (svaI hA rfl rfl)))) ?_
             refine .cons (lopg rfl rfl rfl rfl (by decide) (fun S hA => grd1 hA rfl rfl) (fun S hA hb => (iop_cmpx rfl rfl (lb rfl) (svc (d := .int _ _) (agr hA rfl rfl) hb) (sv (d := .int _ 0) rfl) rfl hx102))) ?_
             refine .cons (lopg rfl rfl rfl rfl (by decide) (fun S hA => grd1 hA rfl rfl) (fun S hA hb => (iop_move rfl rfl (lb rfl) (svaB hA rfl rfl)))) ?_
             refine .cons (lopg rfl rfl rfl rfl (by decide) (fun S hA => grd1 hA rfl rfl) (fun S hA hb => (iop_not rfl rfl (lb rfl) (svc (d := .bool _) (agr hA rfl rfl) hb)))) ?_
             refine .cons (lopg rfl rfl rfl rfl (by decide) (fun S hA => grd1 hA rfl rfl) (fun S hA hb => (iop_eqbx rfl rfl (lb rfl) Try.underlying4 (svc (d := .bool _) (agr hA rfl rfl) hb) (svc (d := .bool _) (agr hA rfl rfl) hb) hx103))) ?_
             refine .cons (lop rfl rfl fun S hA => (iop_andx rfl rfl (lb rfl) (svaB hA rfl rfl) (agr hA rfl rfl) rfl hx104)) ?_
             refine .cons (lop rfl rfl fun S hA => (iop_move rfl rfl (lb rfl) (svaB hA rfl rfl))) ?_
             refine .cons (lopg rfl rfl rfl rfl (by decide) (fun S hA => grd1 hA rfl rfl) (fun S hA hb => (iop_fieldAddr_ref rfl rfl (lb rfl) Try.underlying32 rfl ti30 (by decide) (svaR hA rfl rfl) (off' := 2) rfl))) ?_
             refine .cons (lopg rfl rfl rfl rfl (by decide) (fun S hA => grd1 hA rfl rfl) (fun S hA hb => (iop_load_rs (d := .slice _ _) rfl rfl (lb rfl) Try.underlying30 ag30 ti30 (by decide) (svc (d := .ref _ _) (agr hA rfl rfl) hb) (agi hA rfl rfl) (nle rfl) rfl))) ?_
             refine .cons (lopg rfl rfl rfl rfl (by decide) (fun S hA => grd1 hA rfl rfl) (fun S hA hb => (iop_lenT E_ptree_Node (l := x60.1.Nodes) rfl rfl (lb rfl) Try.underlying30 (svc (d := .slice _ _) (agr hA rfl rfl) hb)))) ?_
             refine .cons (lopg rfl rfl rfl rfl (by decide) (fun S hA => grd1 hA rfl rfl) (fun S hA hb => (iop_fieldAddr_ref rfl rfl (lb rfl) Try.underlying32 rfl ti30 (by decide) (svaR hA rfl rfl) (off' := 2) rfl))) ?_
             refine .cons (lopg rfl rfl rfl rfl (by decide) (fun S hA => grd1 hA rfl rfl) (fun S hA hb => (iop_load_rs (d := .slice _ _) rfl rfl (lb rfl) Try.underlying30 ag30 ti30 (by decide) (svc (d := .ref _ _) (agr hA rfl rfl) hb) (agi hA rfl rfl) (nle rfl) rfl))) ?_
             refine .cons (lopg rfl rfl rfl rfl (by decide) (fun S hA => grd1 hA rfl rfl) (fun S hA hb => (iop_lenT E_ptree_Node (l := v12) rfl rfl (lb rfl) Try.underlying30 (svc (d := .slice _ _) (agr hA rfl rfl) hb)))) ?_
             refine .cons (lopg rfl rfl rfl rfl (by decide) (fun S hA => grd1 hA rfl rfl) (fun S hA hb => (iop_intx rfl rfl (lb rfl) (svc (d := .int _ _) (agr hA rfl rfl) hb) (sv (d := .int _ 1) rfl) rfl hx105))) ?_
             refine .cons (lopg rfl rfl rfl rfl (by decide) (fun S hA => grd1 hA rfl rfl) (fun S hA hb => (iop_cmpx rfl rfl (lb rfl) (svc (d := .int _ _) (agr hA rfl rfl) hb) (svc (d := .int _ _) (agr hA rfl rfl) hb) rfl hx106))) ?_
             refine .cons (lop rfl rfl fun S hA => (iop_andx rfl rfl (lb rfl) (svaB hA rfl rfl) (agr hA rfl rfl) rfl hx107)) ?_
             refine .cons (lop rfl rfl fun S hA => (iop_move rfl rfl (lb rfl) (svaB hA rfl rfl))) ?_
             refine .cons (lopg rfl rfl rfl rfl (by decide) (fun S hA => grd1 hA rfl rfl) (fun S hA hb => (iop_fieldAddr_ref rfl rfl (lb rfl) Try.underlying32 rfl ti30 (by decide) (svaR hA rfl rfl) (off' := 2) rfl))) ?_
             refine .cons (lopg rfl rfl rfl rfl (by decide) (fun S hA => grd1 hA rfl rfl) (fun S hA hb => (iop_load_rs (d := .slice _ _) rfl rfl (lb rfl) Try.underlying30 ag30 ti30 (by decide) (svc (d := .ref _ _) (agr hA rfl rfl) hb) (agi hA rfl rfl) (nle rfl) rfl))) ?_
             refine .cons (lopg rfl rfl rfl rfl (by decide) (fun S hA => grd1 hA rfl rfl) (fun S hA hb => (iop_lenT E_ptree_Node (l := x61.1.Nodes) rfl rfl (lb rfl) Try.underlying30 (svc (d := .slice _ _) (agr hA rfl rfl) hb)))) ?_
             refine .cons (lopg rfl rfl rfl rfl (by decide) (fun S hA => grd1 hA rfl rfl) (fun S hA hb => (iop_fieldAddr_ref rfl rfl (lb rfl) Try.underlying32 rfl ti30 (by decide) (svaR hA rfl rfl) (off' := 2) rfl))) ?_
             refine .cons (lopg rfl rfl rfl rfl (by decide) (fun S hA => grd1 hA rfl rfl) (fun S hA hb => (iop_load_rs (d := .slice _ _) rfl rfl (lb rfl) Try.underlying30 ag30 ti30 (by decide) (svc (d := .ref _ _) (agr hA rfl rfl) hb) (agi hA rfl rfl) (nle rfl) rfl))) ?_
             refine .cons (lopg rfl rfl rfl rfl (by decide) (fun S hA => grd1 hA rfl rfl) (fun S hA hb => (iop_lenT E_ptree_Node (l := v12) rfl rfl (lb rfl) Try.underlying30 (svc (d := .slice _ _) (agr hA rfl rfl) hb)))) ?_
             refine .cons (lopg rfl rfl rfl rfl (by decide) (fun S hA => grd1 hA rfl rfl) (fun S hA hb => (iop_cmpx rfl rfl (lb rfl) (svc (d := .int _ _) (agr hA rfl rfl) hb) (svc (d := .int _ _) (agr hA rfl rfl) hb) rfl hx108))) ?_
             refine .cons (lop rfl rfl fun S hA => (iop_andx rfl rfl (lb rfl) (svaB hA rfl rfl) (agr hA rfl rfl) rfl hx109)) ?_
             refine .cons (lop rfl rfl fun S hA => (iop_move rfl rfl (lb rfl) (svaB hA rfl rfl))) ?_
             refine .cons (lopg rfl rfl rfl rfl (by decide) (fun S hA => grd1 hA rfl rfl) (fun S hA hb => (iop_load_ra (cs := q4) rfl rfl (lb rfl) Try.underlying32 ag32 ti32 (by decide) (svaR hA rfl rfl) (agi hA rfl rfl) (nle rfl) rfl))) ?_
             refine .cons (lopg rfl rfl rfl rfl (by decide) (fun S hA => grd1 hA rfl rfl) (fun S hA hb => (iop_move rfl rfl (lb rfl) (svaI hA rfl rfl)))) ?_
             refine .cons (lopg rfl rfl rfl rfl (by decide) (fun S hA => grd1 hA rfl rfl) (fun S hA hb => (iop_call (r := .int _ _) rfl rfl (lb rfl) cl17 (.cons (svc (d := .agg (v0 x61.1)) (agr hA rfl rfl) hb) (.cons (svc (d := .int _ _) (agr hA rfl rfl) hb) .nil)) rfl (p_fold_Depth _ _ _ (gd_t hx110 hb))))) ?_
             refine .cons (lopg rfl rfl rfl rfl (by decide) (fun S hA => grd1 hA rfl rfl) (fun S hA hb => (iop_load_ra (cs := q4) rfl rfl (lb rfl) Try.underlying32 ag32 ti32 (by decide) (svaR hA rfl rfl) (agi hA rfl rfl) (nle rfl) rfl))) ?_
             refine .cons (lopg rfl rfl rfl rfl (by decide) (fun S hA => grd1 hA rfl rfl) (fun S hA hb => (iop_move rfl rfl (lb rfl) (svaI hA rfl rfl)))) ?_
             refine .cons (lopg rfl rfl rfl rfl (by decide) (fun S hA => grd1 hA rfl rfl) (fun S hA hb => (iop_call (r := .int _ _) rfl rfl (lb rfl) cl17 (.cons (svc (d := .agg (w12 v10 v11 v12 v13)) (agr hA rfl rfl) hb) (.cons (svc (d := .int _ _) (agr hA rfl rfl) hb) .nil)) rfl (p_fold_Depth _ _ _ (gd_t hx111 hb))))) ?_
             refine .cons (lopg rfl rfl rfl rfl (by decide) (fun S hA => grd1 hA rfl rfl) (fun S hA hb => (iop_cmpx rfl rfl (lb rfl) (svc (d := .int _ _) (agr hA rfl rfl) hb) (svc (d := .int _ _) (agr hA rfl rfl) hb) rfl hx112))) ?_
             refine .cons (lop rfl rfl fun S hA => (iop_andx rfl rfl (lb rfl) (svaB hA rfl rfl) (agr hA rfl rfl) rfl hx113)) ?_
             refine .cons (lop rfl rfl fun S hA => (iop_move rfl rfl (lb rfl) (svaB hA rfl rfl))) ?_
             refine .cons (lopg rfl rfl rfl rfl (by decide) (fun S hA => grd1 hA rfl rfl) (fun S hA hb => (iop_move rfl rfl (lb rfl) (svaI hA rfl rfl)))) ?_
             refine .cons (lopg rfl rfl rfl rfl (by decide) (fun S hA => grd1 hA rfl rfl) (fun S hA hb => (iop_move rfl rfl (lb rfl) (svaI hA rfl rfl)))) ?_
             refine .cons (lopg rfl rfl rfl rfl (by decide) (fun S hA => grd1 hA rfl rfl) (fun S hA hb => (iop_move rfl rfl (lb rfl) (svaI hA rfl rfl)))) ?_
             refine .cons (lopg rfl rfl rfl rfl (by decide) (fun S hA => grd1 hA rfl rfl) (fun S hA hb => (iop_intx rfl rfl (lb rfl) (svc (d := .int _ _) (agr hA rfl rfl) hb) (svc (d := .int _ _) (agr hA rfl rfl) hb) rfl hx114))) ?_
             refine .cons (lopg rfl rfl rfl rfl (by decide) (fun S hA => grd1 hA rfl rfl) (fun S hA hb => (iop_cmpx rfl rfl (lb rfl) (svc (d := .int _ _) (agr hA rfl rfl) hb) (svc (d := .int _ _) (agr hA rfl rfl) hb) rfl hx115))) ?_
             refine .cons (lop rfl rfl fun S hA => (iop_andx rfl rfl (lb rfl) (svaB hA rfl rfl) (agr hA rfl rfl) rfl hx116)) ?_
             refine .cons (lop rfl rfl fun S hA => (iop_move rfl rfl (lb rfl) (svaB hA rfl rfl))) ?_
             refine .cons (lopg rfl rfl rfl rfl (by decide) (fun S hA => grd1 hA rfl rfl) (fun S hA hb => (iop_move rfl rfl (lb rfl) (svaI hA rfl rfl)))) ?_
             refine .cons (lopg rfl rfl rfl rfl (by decide) (fun S hA => grd1 hA rfl rfl) (fun S hA hb => (iop_move rfl rfl (lb rfl) (svaI hA rfl rfl)))) ?_
             refine .cons (lopg rfl rfl rfl rfl (by decide) (fun S hA => grd1 hA rfl rfl) (fun S hA hb => (iop_cmpx rfl rfl (lb rfl) (svc (d := .int _ _) (agr hA rfl rfl) hb) (svc (d := .int _ _) (agr hA rfl rfl) hb) rfl hx117))) ?_
             refine .cons (lop rfl rfl fun S hA => (iop_andx rfl rfl (lb rfl) (svaB hA rfl rfl) (agr hA rfl rfl) rfl hx118)) ?_
             refine .cons (lop rfl rfl fun S hA => (iop_move rfl rfl (lb rfl) (svaB hA rfl rfl))) ?_
             refine .cons (lopg rfl rfl rfl rfl (by decide) (fun S hA => grd1 hA rfl rfl) (fun S hA hb => (iop_call (r := .bool _) rfl rfl (lb rfl) cl8 .nil rfl (p_sennitlaw34_awake  _ (gd_t hx119 hb))))) ?_
             refine .cons (lop rfl rfl fun S hA => (iop_andx rfl rfl (lb rfl) (svaB hA rfl rfl) (agr hA rfl rfl) rfl hx120)) ?_
             refine .cons (lop rfl rfl fun S hA => (iop_assign rfl rfl (lb rfl) (svaB hA rfl rfl))) ?_
             exact .nil
            refine iwp_ret ?_
            obtain rfl := Option.some.inj h
            refine ⟨.inr rfl, (.cons (sv rfl) .nil)⟩
end Go.Proofs.Ythjfhdlaockolaa
