/-
  A part of the proof: rules and plain facts. No condition.
-/
import Derived.Test.YthjfhdlaockolaaProg
import Derived.KernelRfl
import Derived.Test.YthjfhdlaockolaaIlA34dD
import Derived.Test.YthjfhdlaockolaaIlA34dC2
set_option linter.all false
set_option linter.unusedSimpArgs false
set_option linter.unusedVariables false
set_option maxRecDepth 8000
set_option maxHeartbeats 2000000
open Go Go.IL Go.Fn Go.Proofs
namespace Go.Proofs.Ythjfhdlaockolaa
theorem ti25 : TI Try.prog 25 (some (.agg #[.int .i64 0, .int .i64 0, .slice none 0 0, .slice none 0 0])) 4 64 := by unfold TI; kernel_rfl
theorem ti63 : TI Try.prog 63 (some (.agg #[.int .i64 0, .int .i64 0, .int .i64 0, .bool false])) 4 32 := by unfold TI; kernel_rfl
theorem ti71 : TI Try.prog 71 (some (.agg #[.int .i64 0, .int .i64 0, .slice none 0 0, .slice none 0 0])) 4 64 := by unfold TI; kernel_rfl
theorem ag25 : aggOf Try.prog 25 = true := by kernel_rfl
theorem ag34 : aggOf Try.prog 34 = false := by kernel_rfl
theorem ag63 : aggOf Try.prog 63 = true := by kernel_rfl
theorem ag71 : aggOf Try.prog 71 = true := by kernel_rfl
theorem pl32 : ∀ w, (Array.mapM (m := Sem) (fun (f : Field) => Functor.map (Prod.mk f.offset) (sizeOf f.type)) (fieldsOf Try.prog 32)).run Try.prog w = .ok #[(0, 1), (1, 1), (2, 1), (3, 1)] w := fun w => by kernel_rfl
theorem pl71 : ∀ w, (Array.mapM (m := Sem) (fun (f : Field) => Functor.map (Prod.mk f.offset) (sizeOf f.type)) (fieldsOf Try.prog 71)).run Try.prog w = .ok #[(0, 1), (1, 1), (2, 1), (3, 1)] w := fun w => by kernel_rfl
theorem st56 : Try.prog.stoodInHeld 56 = false ∧ Try.prog.eqGuardType Try.prog.depth 56 = false := ⟨by kernel_rfl, by kernel_rfl⟩
theorem cl7 : Callable Try.prog 7 := ⟨Try.f7, Try.func7, rfl, rfl⟩
theorem cl8 : Callable Try.prog 8 := ⟨Try.f8, Try.func8, rfl, rfl⟩
theorem cl9 : Callable Try.prog 9 := ⟨Try.f9, Try.func9, rfl, rfl⟩
theorem cl15 : Callable Try.prog 15 := ⟨Try.f15, Try.func15, rfl, rfl⟩
theorem cl16 : Callable Try.prog 16 := ⟨Try.f16, Try.func16, rfl, rfl⟩
theorem cl17 : Callable Try.prog 17 := ⟨Try.f17, Try.func17, rfl, rfl⟩
theorem cl18 : Callable Try.prog 18 := ⟨Try.f18, Try.func18, rfl, rfl⟩
theorem cl19 : Callable Try.prog 19 := ⟨Try.f19, Try.func19, rfl, rfl⟩
theorem cl20 : Callable Try.prog 20 := ⟨Try.f20, Try.func20, rfl, rfl⟩
theorem cl21 : Callable Try.prog 21 := ⟨Try.f21, Try.func21, rfl, rfl⟩
theorem cl22 : Callable Try.prog 22 := ⟨Try.f22, Try.func22, rfl, rfl⟩
theorem cl23 : Callable Try.prog 23 := ⟨Try.f23, Try.func23, rfl, rfl⟩
theorem cl24 : Callable Try.prog 24 := ⟨Try.f24, Try.func24, rfl, rfl⟩
theorem cl25 : Callable Try.prog 25 := ⟨Try.f25, Try.func25, rfl, rfl⟩
theorem cl26 : Callable Try.prog 26 := ⟨Try.f26, Try.func26, rfl, rfl⟩
theorem cl32 : Callable Try.prog 32 := ⟨Try.f32, Try.func32, rfl, rfl⟩
theorem cl44 : Callable Try.prog 44 := ⟨Try.f44, Try.func44, rfl, rfl⟩
theorem cl45 : Callable Try.prog 45 := ⟨Try.f45, Try.func45, rfl, rfl⟩
theorem cl46 : Callable Try.prog 46 := ⟨Try.f46, Try.func46, rfl, rfl⟩
theorem cl47 : Callable Try.prog 47 := ⟨Try.f47, Try.func47, rfl, rfl⟩
theorem cl48 : Callable Try.prog 48 := ⟨Try.f48, Try.func48, rfl, rfl⟩
theorem cl49 : Callable Try.prog 49 := ⟨Try.f49, Try.func49, rfl, rfl⟩
theorem cl50 : Callable Try.prog 50 := ⟨Try.f50, Try.func50, rfl, rfl⟩
theorem cl53 : Callable Try.prog 53 := ⟨Try.f53, Try.func53, rfl, rfl⟩
theorem cl55 : Callable Try.prog 55 := ⟨Try.f55, Try.func55, rfl, rfl⟩
theorem cl57 : Callable Try.prog 57 := ⟨Try.f57, Try.func57, rfl, rfl⟩
def la25 := LA.mk Try.underlying25 ag25 ti25 (by decide)
def la71 := LA.mk Try.underlying71 ag71 ti71 (by decide)


theorem p_fold_Below (a0 : T_fold_State) (a1 : Int) (r : (List Int)) (h : fold_Below a0 a1 = some r) : PureAt Try.prog 22 [.agg (v0 a0), .int .i64 a1] (.slice false (r.map (eInt .i64).d)) := by
 refine pure_of_iwpF (rs := [.slice false (r.map (eInt .i64).d)]) Try.func22 rfl Try.ntmps22 (nle rfl) rfl fun O hO => ?_
 show IWP _ _ _ _ ⟨[(0, .agg (v0 a0)), (1, .int .i64 a1)], []⟩ _
 unfold fold_Below at h
 refine iwp_reg (ils_cons rfl (iop_box' (cs := q5) 0 rfl rfl (lb rfl) rfl (svA q5 rfl) rfl rfl) <|
  ils_cons rfl (iop_assign rfl rfl (lb rfl) (sv (d := .nils) rfl)) <|
  ils_end ?_)
 refine iwp_seq ?_
 obtain ⟨x1, hx1, h⟩ := bno_e h
 obtain ⟨x2, hx2, h⟩ := bnd_e h
 obtain ⟨x3, hx3, h⟩ := bnd_e h
 obtain ⟨x4, hx4, h⟩ := bno_e h
 obtain ⟨x5, hx5, h⟩ := bnd_e h
 obtain ⟨x6, hx6, h⟩ := bnd_e h
 refine iwp_reg (ils_cons rfl (lra q5 la32 rfl rfl rfl rfl rfl (nle rfl) rfl) <|
  ils_cons rfl (iop_call (r := .int _ _) rfl rfl (lb rfl) cl14 (.cons (svA q5 rfl) .nil) rfl (p_fold_Check _ _ hx1)) <|
  ils_cons rfl (iop_cmpx rfl rfl (lb rfl) (svI rfl) (sv (d := .int _ 0) rfl) rfl hx2) <|
  ils_cons rfl (mvB rfl rfl rfl rfl) <|
  ils_guard rfl rfl (.one rfl) rfl (by decide) (fun hb => (mvI rfl rfl rfl rfl)) <|
  ils_guard rfl rfl (.one rfl) rfl (by decide) (fun hb => (iop_cmpx rfl rfl (lb rfl) (svcI rfl hb) (sv (d := .int _ 0) rfl) rfl hx3)) <|
  ils_guard rfl rfl (.one rfl) rfl (by decide) (fun hb => (iop_move rfl rfl (lb rfl) (svcB rfl hb))) <|
  ils_guard rfl rfl (.two rfl) rfl (by decide) (fun hb => (lra q5 la32 rfl rfl rfl rfl rfl (nle rfl) rfl)) <|
  ils_guard rfl rfl (.two rfl) rfl (by decide) (fun hb => (mvI rfl rfl rfl rfl)) <|
  ils_guard rfl rfl (.two rfl) rfl (by decide) (fun hb => (iop_call (r := .bool _) rfl rfl (lb rfl) cl51 (.cons (svcA (v0 a0) rfl hb) (.cons (svcI rfl hb) .nil)) rfl (p_fold_State_there _ _ _ (gd_t hx4 hb)))) <|
  ils_guard rfl rfl (.two rfl) rfl (by decide) (fun hb => (iop_not rfl rfl (lb rfl) (svcB rfl hb))) <|
  ils_guard rfl rfl (.one rfl) rfl (by decide) (fun hb => (iop_and2x rfl rfl (lb rfl) hb (svcB rfl hb) rfl rfl hx5)) <|
  ils_cons rfl (iop_orx rfl rfl (lb rfl) (svB rfl) rfl rfl hx6) <|
  ils_end ?_)
 refine iwp_cond (b := _) rfl (fun hc7 => ?_) (fun hc7 => ?_)
 ·
  replace h := bif_t h hc7
  refine iwp_reg (ils_cons rfl (iop_assign rfl rfl (lb rfl) (sv (d := .nils) rfl)) <|
   ils_end ?_)
  refine iwp_ret ?_
  refine thenQ_r ?_
  obtain rfl := Option.some.inj h
  refine ⟨.inr rfl, _, (.cons (sv rfl) .nil), (.cons (.nils _) .nil)⟩
 ·
  replace h := bif_f h hc7
  refine iwp_skip ?_
  refine thenQ_n ?_
  refine iwp_reg (ils_cons rfl (iop_allocS (cs := [.nils]) (cs' := [.nils]) 1 rfl rfl (lb rfl) rfl ti23 rfl rfl (.all _)) <|
   ils_end ?_)
  refine iwp_reg (ils_cons rfl (iop_allocS (cs := [.nilf]) (cs' := [.nilf]) 2 rfl rfl (lb rfl) rfl ti86 rfl rfl (.all _)) <|
   ils_end ?_)
  refine iwp_reg (ils_cons rfl (iop_makeFunc rfl rfl (lb rfl) (.cons (svR rfl) (.cons (svR rfl) (.cons (svR rfl) .nil)))) <|
   ils_cons rfl (iop_store (ds' := [.fn 56 q11]) rfl rfl ti86 (svR rfl) rfl (sv (d := .fn 56 q11) rfl) rfl rfl rfl (nle rfl) rfl) <|
   ils_end ?_)
  obtain ⟨x8, hx8, h⟩ := bno_e h
  refine iwp_reg (ils_cons rfl (iop_load_rs (d := .fn 56 q11) rfl rfl (lb rfl) Try.underlying86 ag86 ti86 (by decide) (svR rfl) rfl (nle rfl) rfl) <|
   ils_cons rfl (mvI rfl rfl rfl rfl) <|
   ils_cons rfl (iop_callvh2 (r' := .tuple []) (H1' := [(0, .blk 32 (v0 a0)), (1, .blk 23 [.osl 3 (eInt .i64).sz x8.length]), (2, .blk 86 [.fn 56 [.ref 0 0, .ref 1 0, .ref 2 0]]), (3, .blk 3 (D.flat (x8.map (eInt .i64).d)))]) 3 [0, 1, 2] rfl rfl (lb rfl) cl56 (sv (d := .fn 56 q11) rfl) (.cons (svI rfl) .nil) rfl rfl ⟨rfl, rfl, by decide, rfl, List.forall_mem_cons.2 ⟨⟨rfl, rfl, rfl, rfl⟩, List.forall_mem_cons.2 ⟨⟨rfl, rfl, rfl, rfl⟩, List.forall_mem_cons.2 ⟨⟨rfl, rfl, rfl, rfl⟩, List.forall_mem_nil _⟩⟩⟩⟩ (p_fold_Below_1_h _ _ _ hx8) rfl rfl (List.forall_mem_cons.2 ⟨⟨rfl, rfl⟩, List.forall_mem_cons.2 ⟨⟨rfl, rfl⟩, List.forall_mem_cons.2 ⟨⟨rfl, rfl⟩, List.forall_mem_cons.2 ⟨⟨rfl, (handLr (eInt .i64))⟩, List.forall_mem_nil _⟩⟩⟩⟩) (by simp only [List.map_cons, List.map_nil, Ent.ren, renL_flat, renL_ref]; rfl)) <|
   ils_end ?_)
  obtain ⟨x9, hx9, h⟩ := bno_e h
  obtain ⟨hk10, h⟩ := chk_e h
  refine iwp_reg (ils_cons rfl (iop_load_rs (d := .osl _ _ _) rfl rfl (lb rfl) Try.underlying23 ag23 ti23 (by decide) (svR rfl) rfl (nle rfl) rfl) <|
   ils_cons rfl (iop_callh2 (r' := .tuple []) (H1' := [(3, .blk 3 (D.flat (x9.map (eInt .i64).d)))]) 4 [3] rfl rfl (lb rfl) cl57 (.cons (sv (d := .osl _ _ _) rfl) .nil) rfl rfl ⟨rfl, rfl, by decide, rfl, List.forall_mem_cons.2 ⟨⟨rfl, rfl, (handL (eInt .i64) rfl), (handLr (eInt .i64))⟩, List.forall_mem_nil _⟩⟩ (p_slices_Sort_int_int_h _ _ hx9) rfl rfl (List.forall_mem_cons.2 ⟨⟨rfl, (handLr (eInt .i64))⟩, List.forall_mem_nil _⟩) (by simp only [List.map_cons, List.map_nil, Ent.ren, renL_flat, renL_ref]; rfl)) <|
   ils_end ?_)
  refine iwp_reg (ils_cons rfl (iop_load_rs (d := .osl _ _ _) rfl rfl (lb rfl) Try.underlying23 ag23 ti23 (by decide) (svR rfl) rfl (nle rfl) rfl) <|
   ils_cons rfl (iop_assign rfl rfl (lb rfl) (sv (d := .osl _ _ _) rfl)) <|
   ils_end ?_)
  refine iwp_ret ?_
  obtain rfl := Option.some.inj h
  refine ⟨.inr rfl, _, (.cons (sv rfl) .nil), (.cons (FDT (eInt .i64) rfl hk10) .nil)⟩

theorem p_sennitref02_SameInts (a0 : (List Int)) (a1 : (List Int)) (r : Bool) (h : sennitref02_SameInts a0 a1 = some r) : PureAt Try.prog 21 [.slice false (a0.map (eInt .i64).d), .slice false (a1.map (eInt .i64).d)] (.bool r) := by
 refine pure_of_iwp (rs := [.bool r]) Try.func21 rfl Try.ntmps21 (nle rfl) rfl fun O hO => ?_
 show IWP _ _ _ _ ⟨[(0, .slice false (a0.map (eInt .i64).d)), (1, .slice false (a1.map (eInt .i64).d))], []⟩ _
 unfold sennitref02_SameInts at h
 refine iwp_reg (ils_cons rfl (iop_assign rfl rfl (lb rfl) (sv (d := .bool false) rfl)) <|
  ils_end ?_)
 refine iwp_seq ?_
 obtain ⟨x1, hx1, h⟩ := bnd_e h
 refine iwp_reg (ils_cons rfl (mvL rfl rfl rfl rfl) <|
  ils_cons rfl (iop_lenT (eInt .i64) (l := a0) rfl rfl (lb rfl) Try.underlying23 (svL rfl)) <|
  ils_cons rfl (mvL rfl rfl rfl rfl) <|
  ils_cons rfl (iop_lenT (eInt .i64) (l := a1) rfl rfl (lb rfl) Try.underlying23 (svL rfl)) <|
  ils_cons rfl (iop_cmpx rfl rfl (lb rfl) (svI rfl) (svI rfl) rfl hx1) <|
  ils_end ?_)
 refine iwp_cond (b := _) rfl (fun hc2 => ?_) (fun hc2 => ?_)
 ·
  replace h := bif_t h hc2
  refine iwp_reg (ils_cons rfl (iop_assign rfl rfl (lb rfl) (sv (d := .bool false) rfl)) <|
   ils_end ?_)
  refine iwp_ret ?_
  refine thenQ_r ?_
  obtain rfl := Option.some.inj h
  refine ⟨.inr rfl, (.cons (sv rfl) .nil)⟩
 ·
  replace h := bif_f h hc2
  refine iwp_skip ?_
  refine thenQ_n ?_
  refine iwp_seq ?_
  refine iwp_reg (ils_cons rfl (iop_assign rfl rfl (lb rfl) (sv (d := .int _ 0) rfl)) <|
   ils_end ?_)
  refine iwp_block ?_
  refine iwp_loopP (α := Nat × Int) (fun z => ⟨[(0, .slice false (a0.map (eInt .i64).d)), (1, .slice false (a1.map (eInt .i64).d)), (5, .int .i64 z.2)], []⟩) (fun z => sennitref02_SameInts_L0 a0 a1 z.1 z.2 = some r) (fun z => z.1) (fuel, 0) (fun i => i) ⟨(.sames rfl rfl), .nil, nd_of [] rfl (by decide), fun _ _ => rfl⟩ ?_ ?_
  ·exact h
  ·
   rintro ⟨n0, v10⟩ h
   cases n0 with
   | zero => exact absurd h (by unfold sennitref02_SameInts_L0; exact nofun)
   | succ n0 =>
    unfold sennitref02_SameInts_L0 at h
    refine iwp_seq ?_
    obtain ⟨x18, hx18, h⟩ := bnd_e h
    refine iwp_reg (ils_cons rfl (mvI rfl rfl rfl rfl) <|
     ils_cons rfl (mvL rfl rfl rfl rfl) <|
     ils_cons rfl (iop_lenT (eInt .i64) (l := a0) rfl rfl (lb rfl) Try.underlying23 (svL rfl)) <|
     ils_cons rfl (iop_cmpx rfl rfl (lb rfl) (svI rfl) (svI rfl) rfl hx18) <|
     ils_end ?_)
    refine iwp_cond (b := _) rfl (fun hc19 => ?_) (fun hc19 => ?_)
    ·
     replace h := bif_t h hc19
     refine iwp_skip ?_
     refine thenQ_n ?_
     refine iwp_seq ?_
     refine iwp_block ?_
     obtain ⟨x20, hx20, h⟩ := bno_e h
     obtain ⟨x21, hx21, h⟩ := bno_e h
     obtain ⟨x22, hx22, h⟩ := bnd_e h
     refine iwp_drw rfl [⟨[0], [], [(17, .slice false (a0.map (eInt .i64).d))], []⟩,
      ⟨[5], [], [(18, .int .i64 v10)], []⟩,
      ⟨[17, 18], [], [(19, .fptr [.int .i64 x20])], []⟩,
      ⟨[19], [], [(20, .int .i64 x20)], []⟩,
      ⟨[1], [], [(21, .slice false (a1.map (eInt .i64).d))], []⟩,
      ⟨[5], [], [(22, .int .i64 v10)], []⟩,
      ⟨[21, 22], [], [(23, .fptr [.int .i64 x21])], []⟩,
      ⟨[23], [], [(24, .int .i64 x21)], []⟩,
      ⟨[20, 24], [], [(25, .bool x22)], []⟩] rfl ?_ (by kernel_rfl) ?_
     ·refine .cons (lop rfl rfl fun S hA => (iop_move rfl rfl (lb rfl) (svaL hA rfl rfl))) ?_
      refine .cons (lop rfl rfl fun S hA => (iop_move rfl rfl (lb rfl) (svaI hA rfl rfl))) ?_
      refine .cons (lop rfl rfl fun S hA => (iop_idxT (eInt .i64) (cs := [.int _ _]) rfl rfl (lb rfl) Try.underlying23 ti3 (svaL hA rfl rfl) (svaI hA rfl rfl) hx20 rfl rfl)) ?_
      refine .cons (lop rfl rfl fun S hA => (iop_load_fs rfl rfl (lb rfl) Try.underlying3 ag3 ti3 (by decide) (sv (d := .fptr [.int _ _]) (agr hA rfl rfl)) (nle rfl))) ?_
      refine .cons (lop rfl rfl fun S hA => (iop_move rfl rfl (lb rfl) (svaL hA rfl rfl))) ?_
      refine .cons (lop rfl rfl fun S hA => (iop_move rfl rfl (lb rfl) (svaI hA rfl rfl))) ?_
      refine .cons (lop rfl rfl fun S hA => (iop_idxT (eInt .i64) (cs := [.int _ _]) rfl rfl (lb rfl) Try.underlying23 ti3 (svaL hA rfl rfl) (svaI hA rfl rfl) hx21 rfl rfl)) ?_
      refine .cons (lop rfl rfl fun S hA => (iop_load_fs rfl rfl (lb rfl) Try.underlying3 ag3 ti3 (by decide) (sv (d := .fptr [.int _ _]) (agr hA rfl rfl)) (nle rfl))) ?_
      refine .cons (lop rfl rfl fun S hA => (iop_cmpx rfl rfl (lb rfl) (svaI hA rfl rfl) (svaI hA rfl rfl) rfl hx22)) ?_
      exact .nil
     refine iwp_cond (b := _) rfl (fun hc23 => ?_) (fun hc23 => ?_)
     ·
      replace h := bif_t h hc23
      refine iwp_reg (ils_cons rfl (iop_assign rfl rfl (lb rfl) (sv (d := .bool false) rfl)) <|
       ils_end ?_)
      refine iwp_ret ?_
      refine blockQ_r ?_
      refine thenQ_r ?_
      refine thenQ_r ?_
      refine blockQ_r ?_
      refine thenQ_r ?_
      obtain rfl := Option.some.inj h
      refine ⟨.inr rfl, (.cons (sv rfl) .nil)⟩
     ·
      replace h := bif_f h hc23
      refine iwp_skip ?_
      refine blockQ_n ?_
      refine thenQ_n ?_
      obtain ⟨x24, hx24, h⟩ := bnd_e h
      refine iwp_region (ils_cons rfl (mvI rfl rfl rfl rfl) <|
       ils_cons rfl (iop_intx rfl rfl (lb rfl) (svI rfl) (sv (d := .int _ 1) rfl) rfl hx24) <|
       ils_cons rfl (asI rfl rfl rfl rfl) <|
       ils_nil ?_)
      refine thenQ_n ⟨(n0, x24), (fun i => i), ⟨(.sames rfl rfl), .nil, nd_of [] rfl (by decide), fun _ _ => rfl⟩, ?_, ?_⟩
      exact h
      exact Nat.lt_succ_self _
    ·
     replace h := bif_f h hc19
     refine iwp_exit ?_
     refine thenQ_e ?_
     refine thenQ_e ?_
     refine blockQ_e ?_
     refine thenQ_n ?_
     refine iwp_reg (ils_cons rfl (iop_assign rfl rfl (lb rfl) (sv (d := .bool true) rfl)) <|
      ils_end ?_)
     refine iwp_ret ?_
     obtain rfl := Option.some.inj h
     refine ⟨.inr rfl, (.cons (sv rfl) .nil)⟩

theorem p_fold_Sum (a0 : T_fold_State) (a1 : Int) (r : Int) (h : fold_Sum a0 a1 = some r) : PureAt Try.prog 24 [.agg (v0 a0), .int .i64 a1] (.int .i64 r) := by
 refine pure_of_iwp (rs := [.int .i64 r]) Try.func24 rfl Try.ntmps24 (nle rfl) rfl fun O hO => ?_
 show IWP _ _ _ _ ⟨[(0, .agg (v0 a0)), (1, .int .i64 a1)], []⟩ _
 unfold fold_Sum at h
 refine iwp_reg (ils_cons rfl (iop_box' (cs := q5) 0 rfl rfl (lb rfl) rfl (svA q5 rfl) rfl rfl) <|
  ils_cons rfl (iop_assign rfl rfl (lb rfl) (sv (d := .int _ 0) rfl)) <|
  ils_end ?_)
 refine iwp_seq ?_
 obtain ⟨x1, hx1, h⟩ := bno_e h
 obtain ⟨x2, hx2, h⟩ := bnd_e h
 obtain ⟨x3, hx3, h⟩ := bnd_e h
 obtain ⟨x4, hx4, h⟩ := bno_e h
 obtain ⟨x5, hx5, h⟩ := bnd_e h
 obtain ⟨x6, hx6, h⟩ := bnd_e h
 refine iwp_reg (ils_cons rfl (lra q5 la32 rfl rfl rfl rfl rfl (nle rfl) rfl) <|
  ils_cons rfl (iop_call (r := .int _ _) rfl rfl (lb rfl) cl14 (.cons (svA q5 rfl) .nil) rfl (p_fold_Check _ _ hx1)) <|
  ils_cons rfl (iop_cmpx rfl rfl (lb rfl) (svI rfl) (sv (d := .int _ 0) rfl) rfl hx2) <|
  ils_cons rfl (mvB rfl rfl rfl rfl) <|
  ils_guard rfl rfl (.one rfl) rfl (by decide) (fun hb => (mvI rfl rfl rfl rfl)) <|
  ils_guard rfl rfl (.one rfl) rfl (by decide) (fun hb => (iop_cmpx rfl rfl (lb rfl) (svcI rfl hb) (sv (d := .int _ 0) rfl) rfl hx3)) <|
  ils_guard rfl rfl (.one rfl) rfl (by decide) (fun hb => (iop_move rfl rfl (lb rfl) (svcB rfl hb))) <|
  ils_guard rfl rfl (.two rfl) rfl (by decide) (fun hb => (lra q5 la32 rfl rfl rfl rfl rfl (nle rfl) rfl)) <|
  ils_guard rfl rfl (.two rfl) rfl (by decide) (fun hb => (mvI rfl rfl rfl rfl)) <|
  ils_guard rfl rfl (.two rfl) rfl (by decide) (fun hb => (iop_call (r := .bool _) rfl rfl (lb rfl) cl51 (.cons (svcA (v0 a0) rfl hb) (.cons (svcI rfl hb) .nil)) rfl (p_fold_State_there _ _ _ (gd_t hx4 hb)))) <|
  ils_guard rfl rfl (.two rfl) rfl (by decide) (fun hb => (iop_not rfl rfl (lb rfl) (svcB rfl hb))) <|
  ils_guard rfl rfl (.one rfl) rfl (by decide) (fun hb => (iop_and2x rfl rfl (lb rfl) hb (svcB rfl hb) rfl rfl hx5)) <|
  ils_cons rfl (iop_orx rfl rfl (lb rfl) (svB rfl) rfl rfl hx6) <|
  ils_end ?_)
 refine iwp_cond (b := _) rfl (fun hc7 => ?_) (fun hc7 => ?_)
 ·
  replace h := bif_t h hc7
  refine iwp_reg (ils_cons rfl (iop_assign rfl rfl (lb rfl) (sv (d := .int _ 0) rfl)) <|
   ils_end ?_)
  refine iwp_ret ?_
  refine thenQ_r ?_
  obtain rfl := Option.some.inj h
  refine ⟨.inr rfl, (.cons (sv rfl) .nil)⟩
 ·
  replace h := bif_f h hc7
  refine iwp_skip ?_
  refine thenQ_n ?_
  obtain ⟨x8, hx8, h⟩ := bno_e h
  refine iwp_reg (ils_cons rfl (lra q5 la32 rfl rfl rfl rfl rfl (nle rfl) rfl) <|
   ils_cons rfl (mvI rfl rfl rfl rfl) <|
   ils_cons rfl (iop_call (r := .int _ _) rfl rfl (lb rfl) cl58 (.cons (svA q5 rfl) (.cons (svI rfl) .nil)) rfl (p_fold_State_sum _ _ _ hx8)) <|
   ils_cons rfl (asI rfl rfl rfl rfl) <|
   ils_end ?_)
  refine iwp_ret ?_
  obtain rfl := Option.some.inj h
  refine ⟨.inr rfl, (.cons (sv rfl) .nil)⟩

theorem p_slices_Equal_ptree_Node_ptree_Node (a0 : (List T_ptree_Node)) (a1 : (List T_ptree_Node)) (r : Bool) (h : slices_Equal_ptree_Node_ptree_Node a0 a1 = some r) : PureAt Try.prog 49 [.slice false (a0.map E_ptree_Node.d), .slice false (a1.map E_ptree_Node.d)] (.bool r) := by
 refine pure_of_iwp (rs := [.bool r]) Try.func49 rfl Try.ntmps49 (nle rfl) rfl fun O hO => ?_
 show IWP _ _ _ _ ⟨[(0, .slice false (a0.map E_ptree_Node.d)), (1, .slice false (a1.map E_ptree_Node.d))], []⟩ _
 unfold slices_Equal_ptree_Node_ptree_Node at h
 refine iwp_reg (ils_cons rfl (iop_assign rfl rfl (lb rfl) (sv (d := .bool false) rfl)) <|
  ils_end ?_)
 refine iwp_seq ?_
 obtain ⟨x1, hx1, h⟩ := bnd_e h
 refine iwp_reg (ils_cons rfl (mvL rfl rfl rfl rfl) <|
  ils_cons rfl (iop_lenT E_ptree_Node (l := a0) rfl rfl (lb rfl) Try.underlying30 (svL rfl)) <|
  ils_cons rfl (mvL rfl rfl rfl rfl) <|
  ils_cons rfl (iop_lenT E_ptree_Node (l := a1) rfl rfl (lb rfl) Try.underlying30 (svL rfl)) <|
  ils_cons rfl (iop_cmpx rfl rfl (lb rfl) (svI rfl) (svI rfl) rfl hx1) <|
  ils_end ?_)
 refine iwp_cond (b := _) rfl (fun hc2 => ?_) (fun hc2 => ?_)
 ·
  replace h := bif_t h hc2
  refine iwp_reg (ils_cons rfl (iop_assign rfl rfl (lb rfl) (sv (d := .bool false) rfl)) <|
   ils_end ?_)
  refine iwp_ret ?_
  refine thenQ_r ?_
  obtain rfl := Option.some.inj h
  refine ⟨.inr rfl, (.cons (sv rfl) .nil)⟩
 ·
  replace h := bif_f h hc2
  refine iwp_skip ?_
  refine thenQ_n ?_
  refine iwp_seq ?_
  refine iwp_reg (ils_cons rfl (mvL rfl rfl rfl rfl) <|
   ils_cons rfl (iop_lenT E_ptree_Node (l := a0) rfl rfl (lb rfl) Try.underlying30 (svL rfl)) <|
   ils_cons rfl (iop_move rfl rfl (lb rfl) (sv (d := .int _ 0) rfl)) <|
   ils_end ?_)
  refine iwp_block ?_
  refine iwp_loopP (α := Nat × Int) (fun z => ⟨[(0, .slice false (a0.map E_ptree_Node.d)), (1, .slice false (a1.map E_ptree_Node.d)), (12, .int .i64 (a0.length : Int)), (13, .int .i64 z.2)], []⟩) (fun z => slices_Equal_ptree_Node_ptree_Node_L0 a0 a1 z.1 z.2 = some r) (fun z => z.1) (fuel, 0) (fun i => i) ⟨(.sames rfl rfl), .nil, nd_of [] rfl (by decide), fun _ _ => rfl⟩ ?_ ?_
  ·exact h
  ·
   rintro ⟨n0, v10⟩ h
   cases n0 with
   | zero => exact absurd h (by unfold slices_Equal_ptree_Node_ptree_Node_L0; exact nofun)
   | succ n0 =>
    unfold slices_Equal_ptree_Node_ptree_Node_L0 at h
    obtain ⟨x18, hx18, h⟩ := bnd_e h
    refine iwp_reg (ils_cons rfl (iop_cmpx rfl rfl (lb rfl) (svI rfl) (svI rfl) rfl hx18) <|
     ils_end ?_)
    refine iwp_seq ?_
    refine iwp_cond (b := _) rfl (fun hc19 => ?_) (fun hc19 => ?_)
    ·
     replace h := bif_t h hc19
     refine iwp_skip ?_
     refine thenQ_n ?_
     refine iwp_seq ?_
     refine iwp_block ?_
     refine iwp_reg (ils_cons rfl (mvI rfl rfl rfl rfl) <|
      ils_cons rfl (asI rfl rfl rfl rfl) <|
      ils_end ?_)
     obtain ⟨x20, hx20, h⟩ := bno_e h
     obtain ⟨x21, hx21, h⟩ := bno_e h
     obtain ⟨x22, hx22, h⟩ := bnd_e h
     refine iwp_drw rfl [⟨[0], [], [(16, .slice false (a0.map E_ptree_Node.d))], []⟩,
      ⟨[5], [], [(17, .int .i64 v10)], []⟩,
      ⟨[16, 17], [], [(18, .fptr (v3 x20))], []⟩,
      ⟨[18], [], [(19, .agg (v3 x20))], []⟩,
      ⟨[1], [], [(20, .slice false (a1.map E_ptree_Node.d))], []⟩,
      ⟨[5], [], [(21, .int .i64 v10)], []⟩,
      ⟨[20, 21], [], [(22, .fptr (v3 x21))], []⟩,
      ⟨[22], [], [(23, .agg (v3 x21))], []⟩,
      ⟨[19, 23], [], [(24, .bool (!x22))], []⟩] rfl ?_ (by kernel_rfl) ?_
     ·refine .cons (lop rfl rfl fun S hA => (iop_move rfl rfl (lb rfl) (svaL hA rfl rfl))) ?_
      refine .cons (lop rfl rfl fun S hA => (iop_move rfl rfl (lb rfl) (svaI hA rfl rfl))) ?_
      refine .cons (lop rfl rfl fun S hA => (iop_idxT E_ptree_Node (cs := q8) rfl rfl (lb rfl) Try.underlying30 ti56 (svaL hA rfl rfl) (svaI hA rfl rfl) hx20 rfl rfl)) ?_
      refine .cons (lop rfl rfl fun S hA => (iop_load_fa (cs := q8) rfl rfl (lb rfl) Try.underlying56 ag56 ti56 (by decide) (sv (d := .fptr q8) (agr hA rfl rfl)) (nle rfl) rfl)) ?_
      refine .cons (lop rfl rfl fun S hA => (iop_move rfl rfl (lb rfl) (svaL hA rfl rfl))) ?_
      refine .cons (lop rfl rfl fun S hA => (iop_move rfl rfl (lb rfl) (svaI hA rfl rfl))) ?_
      refine .cons (lop rfl rfl fun S hA => (iop_idxT E_ptree_Node (cs := q8) rfl rfl (lb rfl) Try.underlying30 ti56 (svaL hA rfl rfl) (svaI hA rfl rfl) hx21 rfl rfl)) ?_
      refine .cons (lop rfl rfl fun S hA => (iop_load_fa (cs := q8) rfl rfl (lb rfl) Try.underlying56 ag56 ti56 (by decide) (sv (d := .fptr q8) (agr hA rfl rfl)) (nle rfl) rfl)) ?_
      refine .cons (lop rfl rfl fun S hA => (iop_nes rfl rfl (lb rfl) Try.underlying56 st56.1 st56.2 (svaA q8 hA rfl rfl) (svaA q8 hA rfl rfl) (congrArg some hx22))) ?_
      exact .nil
     refine iwp_cond (b := _) rfl (fun hc23 => ?_) (fun hc23 => ?_)
     ·
      replace h := bif_t h hc23
      refine iwp_reg (ils_cons rfl (iop_assign rfl rfl (lb rfl) (sv (d := .bool false) rfl)) <|
       ils_end ?_)
      refine iwp_ret ?_
      refine blockQ_r ?_
      refine thenQ_r ?_
      refine thenQ_r ?_
      refine blockQ_r ?_
      refine thenQ_r ?_
      obtain rfl := Option.some.inj h
      refine ⟨.inr rfl, (.cons (sv rfl) .nil)⟩
     ·
      replace h := bif_f h hc23
      refine iwp_skip ?_
      refine blockQ_n ?_
      refine thenQ_n ?_
      obtain ⟨x24, hx24, h⟩ := bnd_e h
      refine iwp_region (ils_cons rfl (iop_intx rfl rfl (lb rfl) (svI rfl) (sv (d := .int _ 1) rfl) rfl hx24) <|
       ils_cons rfl (mvI rfl rfl rfl rfl) <|
       ils_nil ?_)
      refine thenQ_n ⟨(n0, x24), (fun i => i), ⟨(.sames rfl rfl), .nil, nd_of [] rfl (by decide), fun _ _ => rfl⟩, ?_, ?_⟩
      exact h
      exact Nat.lt_succ_self _
    ·
     replace h := bif_f h hc19
     refine iwp_exit ?_
     refine thenQ_e ?_
     refine thenQ_e ?_
     refine blockQ_e ?_
     refine thenQ_n ?_
     refine iwp_reg (ils_cons rfl (iop_assign rfl rfl (lb rfl) (sv (d := .bool true) rfl)) <|
      ils_end ?_)
     refine iwp_ret ?_
     obtain rfl := Option.some.inj h
     refine ⟨.inr rfl, (.cons (sv rfl) .nil)⟩

theorem p_slices_Equal_int_int (a0 : (List Int)) (a1 : (List Int)) (r : Bool) (h : slices_Equal_int_int a0 a1 = some r) : PureAt Try.prog 50 [.slice false (a0.map (eInt .i64).d), .slice false (a1.map (eInt .i64).d)] (.bool r) := by
 refine pure_of_iwp (rs := [.bool r]) Try.func50 rfl Try.ntmps50 (nle rfl) rfl fun O hO => ?_
 show IWP _ _ _ _ ⟨[(0, .slice false (a0.map (eInt .i64).d)), (1, .slice false (a1.map (eInt .i64).d))], []⟩ _
 unfold slices_Equal_int_int at h
 refine iwp_reg (ils_cons rfl (iop_assign rfl rfl (lb rfl) (sv (d := .bool false) rfl)) <|
  ils_end ?_)
 refine iwp_seq ?_
 obtain ⟨x1, hx1, h⟩ := bnd_e h
 refine iwp_reg (ils_cons rfl (mvL rfl rfl rfl rfl) <|
  ils_cons rfl (iop_lenT (eInt .i64) (l := a0) rfl rfl (lb rfl) Try.underlying23 (svL rfl)) <|
  ils_cons rfl (mvL rfl rfl rfl rfl) <|
  ils_cons rfl (iop_lenT (eInt .i64) (l := a1) rfl rfl (lb rfl) Try.underlying23 (svL rfl)) <|
  ils_cons rfl (iop_cmpx rfl rfl (lb rfl) (svI rfl) (svI rfl) rfl hx1) <|
  ils_end ?_)
 refine iwp_cond (b := _) rfl (fun hc2 => ?_) (fun hc2 => ?_)
 ·
  replace h := bif_t h hc2
  refine iwp_reg (ils_cons rfl (iop_assign rfl rfl (lb rfl) (sv (d := .bool false) rfl)) <|
   ils_end ?_)
  refine iwp_ret ?_
  refine thenQ_r ?_
  obtain rfl := Option.some.inj h
  refine ⟨.inr rfl, (.cons (sv rfl) .nil)⟩
 ·
  replace h := bif_f h hc2
  refine iwp_skip ?_
  refine thenQ_n ?_
  refine iwp_seq ?_
  refine iwp_reg (ils_cons rfl (mvL rfl rfl rfl rfl) <|
   ils_cons rfl (iop_lenT (eInt .i64) (l := a0) rfl rfl (lb rfl) Try.underlying23 (svL rfl)) <|
   ils_cons rfl (iop_move rfl rfl (lb rfl) (sv (d := .int _ 0) rfl)) <|
   ils_end ?_)
  refine iwp_block ?_
  refine iwp_loopP (α := Nat × Int) (fun z => ⟨[(0, .slice false (a0.map (eInt .i64).d)), (1, .slice false (a1.map (eInt .i64).d)), (12, .int .i64 (a0.length : Int)), (13, .int .i64 z.2)], []⟩) (fun z => slices_Equal_int_int_L0 a0 a1 z.1 z.2 = some r) (fun z => z.1) (fuel, 0) (fun i => i) ⟨(.sames rfl rfl), .nil, nd_of [] rfl (by decide), fun _ _ => rfl⟩ ?_ ?_
  ·exact h
  ·
   rintro ⟨n0, v10⟩ h
   cases n0 with
   | zero => exact absurd h (by unfold slices_Equal_int_int_L0; exact nofun)
   | succ n0 =>
    unfold slices_Equal_int_int_L0 at h
    obtain ⟨x18, hx18, h⟩ := bnd_e h
    refine iwp_reg (ils_cons rfl (iop_cmpx rfl rfl (lb rfl) (svI rfl) (svI rfl) rfl hx18) <|
     ils_end ?_)
    refine iwp_seq ?_
    refine iwp_cond (b := _) rfl (fun hc19 => ?_) (fun hc19 => ?_)
    ·
     replace h := bif_t h hc19
     refine iwp_skip ?_
     refine thenQ_n ?_
     refine iwp_seq ?_
     refine iwp_block ?_
     refine iwp_reg (ils_cons rfl (mvI rfl rfl rfl rfl) <|
      ils_cons rfl (asI rfl rfl rfl rfl) <|
      ils_end ?_)
     obtain ⟨x20, hx20, h⟩ := bno_e h
     obtain ⟨x21, hx21, h⟩ := bno_e h
     obtain ⟨x22, hx22, h⟩ := bnd_e h
     refine iwp_drw rfl [⟨[0], [], [(16, .slice false (a0.map (eInt .i64).d))], []⟩,
      ⟨[5], [], [(17, .int .i64 v10)], []⟩,
      ⟨[16, 17], [], [(18, .fptr [.int .i64 x20])], []⟩,
      ⟨[18], [], [(19, .int .i64 x20)], []⟩,
      ⟨[1], [], [(20, .slice false (a1.map (eInt .i64).d))], []⟩,
      ⟨[5], [], [(21, .int .i64 v10)], []⟩,
      ⟨[20, 21], [], [(22, .fptr [.int .i64 x21])], []⟩,
      ⟨[22], [], [(23, .int .i64 x21)], []⟩,
      ⟨[19, 23], [], [(24, .bool x22)], []⟩] rfl ?_ (by kernel_rfl) ?_
     ·refine .cons (lop rfl rfl fun S hA => (iop_move rfl rfl (lb rfl) (svaL hA rfl rfl))) ?_
      refine .cons (lop rfl rfl fun S hA => (iop_move rfl rfl (lb rfl) (svaI hA rfl rfl))) ?_
      refine .cons (lop rfl rfl fun S hA => (iop_idxT (eInt .i64) (cs := [.int _ _]) rfl rfl (lb rfl) Try.underlying23 ti3 (svaL hA rfl rfl) (svaI hA rfl rfl) hx20 rfl rfl)) ?_
      refine .cons (lop rfl rfl fun S hA => (iop_load_fs rfl rfl (lb rfl) Try.underlying3 ag3 ti3 (by decide) (sv (d := .fptr [.int _ _]) (agr hA rfl rfl)) (nle rfl))) ?_
      refine .cons (lop rfl rfl fun S hA => (iop_move rfl rfl (lb rfl) (svaL hA rfl rfl))) ?_
      refine .cons (lop rfl rfl fun S hA => (iop_move rfl rfl (lb rfl) (svaI hA rfl rfl))) ?_
      refine .cons (lop rfl rfl fun S hA => (iop_idxT (eInt .i64) (cs := [.int _ _]) rfl rfl (lb rfl) Try.underlying23 ti3 (svaL hA rfl rfl) (svaI hA rfl rfl) hx21 rfl rfl)) ?_
      refine .cons (lop rfl rfl fun S hA => (iop_load_fs rfl rfl (lb rfl) Try.underlying3 ag3 ti3 (by decide) (sv (d := .fptr [.int _ _]) (agr hA rfl rfl)) (nle rfl))) ?_
      refine .cons (lop rfl rfl fun S hA => (iop_cmpx rfl rfl (lb rfl) (svaI hA rfl rfl) (svaI hA rfl rfl) rfl hx22)) ?_
      exact .nil
     refine iwp_cond (b := _) rfl (fun hc23 => ?_) (fun hc23 => ?_)
     ·
      replace h := bif_t h hc23
      refine iwp_reg (ils_cons rfl (iop_assign rfl rfl (lb rfl) (sv (d := .bool false) rfl)) <|
       ils_end ?_)
      refine iwp_ret ?_
      refine blockQ_r ?_
      refine thenQ_r ?_
      refine thenQ_r ?_
      refine blockQ_r ?_
      refine thenQ_r ?_
      obtain rfl := Option.some.inj h
      refine ⟨.inr rfl, (.cons (sv rfl) .nil)⟩
     ·
      replace h := bif_f h hc23
      refine iwp_skip ?_
      refine blockQ_n ?_
      refine thenQ_n ?_
      obtain ⟨x24, hx24, h⟩ := bnd_e h
      refine iwp_region (ils_cons rfl (iop_intx rfl rfl (lb rfl) (svI rfl) (sv (d := .int _ 1) rfl) rfl hx24) <|
       ils_cons rfl (mvI rfl rfl rfl rfl) <|
       ils_nil ?_)
      refine thenQ_n ⟨(n0, x24), (fun i => i), ⟨(.sames rfl rfl), .nil, nd_of [] rfl (by decide), fun _ _ => rfl⟩, ?_, ?_⟩
      exact h
      exact Nat.lt_succ_self _
    ·
     replace h := bif_f h hc19
     refine iwp_exit ?_
     refine thenQ_e ?_
     refine thenQ_e ?_
     refine blockQ_e ?_
     refine thenQ_n ?_
     refine iwp_reg (ils_cons rfl (iop_assign rfl rfl (lb rfl) (sv (d := .bool true) rfl)) <|
      ils_end ?_)
     refine iwp_ret ?_
     obtain rfl := Option.some.inj h
     refine ⟨.inr rfl, (.cons (sv rfl) .nil)⟩

theorem p_fold_Same (a0 : T_fold_State) (a1 : T_fold_State) (r : Bool) (h : fold_Same a0 a1 = some r) : PureAt Try.prog 16 [.agg (v0 a0), .agg (v0 a1)] (.bool r) := by
 refine pure_of_iwp (rs := [.bool r]) Try.func16 rfl Try.ntmps16 (nle rfl) rfl fun O hO => ?_
 show IWP _ _ _ _ ⟨[(0, .agg (v0 a0)), (1, .agg (v0 a1))], []⟩ _
 unfold fold_Same at h
 refine iwp_reg (ils_cons rfl (iop_box' (cs := q5) 0 rfl rfl (lb rfl) rfl (svA q5 rfl) rfl rfl) <|
  ils_cons rfl (iop_box' (cs := q5) 1 rfl rfl (lb rfl) rfl (svA q5 rfl) rfl rfl) <|
  ils_cons rfl (iop_assign rfl rfl (lb rfl) (sv (d := .bool false) rfl)) <|
  ils_end ?_)
 obtain ⟨x1, hx1, h⟩ := bnd_e h
 obtain ⟨x2, hx2, h⟩ := bnd_e h
 obtain ⟨x3, hx3, h⟩ := bnd_e h
 obtain ⟨x4, hx4, h⟩ := bno_e h
 obtain ⟨x5, hx5, h⟩ := bnd_e h
 obtain ⟨x6, hx6, h⟩ := bno_e h
 obtain ⟨x7, hx7, h⟩ := bnd_e h
 refine iwp_reg (ils_cons rfl (faR 0 rfl rfl rfl Try.underlying32 rfl ti3 (lb rfl) rfl rfl) <|
  ils_cons rfl (iop_load_rs (d := .int _ _) rfl rfl (lb rfl) Try.underlying3 ag3 ti3 (by decide) (svR rfl) rfl (nle rfl) rfl) <|
  ils_cons rfl (faR 0 rfl rfl rfl Try.underlying32 rfl ti3 (lb rfl) rfl rfl) <|
  ils_cons rfl (iop_load_rs (d := .int _ _) rfl rfl (lb rfl) Try.underlying3 ag3 ti3 (by decide) (svR rfl) rfl (nle rfl) rfl) <|
  ils_cons rfl (iop_cmpx rfl rfl (lb rfl) (svI rfl) (svI rfl) rfl hx1) <|
  ils_cons rfl (mvB rfl rfl rfl rfl) <|
  ils_guard rfl rfl (.one rfl) rfl (by decide) (fun hb => (faR 1 rfl rfl rfl Try.underlying32 rfl ti3 (lb rfl) rfl rfl)) <|
  ils_guard rfl rfl (.one rfl) rfl (by decide) (fun hb => (iop_load_rs (d := .int _ _) rfl rfl (lb rfl) Try.underlying3 ag3 ti3 (by decide) (svcR rfl hb) rfl (nle rfl) rfl)) <|
  ils_guard rfl rfl (.one rfl) rfl (by decide) (fun hb => (faR 1 rfl rfl rfl Try.underlying32 rfl ti3 (lb rfl) rfl rfl)) <|
  ils_guard rfl rfl (.one rfl) rfl (by decide) (fun hb => (iop_load_rs (d := .int _ _) rfl rfl (lb rfl) Try.underlying3 ag3 ti3 (by decide) (svcR rfl hb) rfl (nle rfl) rfl)) <|
  ils_guard rfl rfl (.one rfl) rfl (by decide) (fun hb => (iop_cmpx rfl rfl (lb rfl) (svcI rfl hb) (svcI rfl hb) rfl hx2)) <|
  ils_cons rfl (iop_andx rfl rfl (lb rfl) (svB rfl) rfl rfl hx3) <|
  ils_cons rfl (mvB rfl rfl rfl rfl) <|
  ils_guard rfl rfl (.one rfl) rfl (by decide) (fun hb => (faR 2 rfl rfl rfl Try.underlying32 rfl ti30 (lb rfl) rfl rfl)) <|
  ils_guard rfl rfl (.one rfl) rfl (by decide) (fun hb => (iop_load_rs (d := .slice _ _) rfl rfl (lb rfl) Try.underlying30 ag30 ti30 (by decide) (svcR rfl hb) rfl (nle rfl) rfl)) <|
  ils_guard rfl rfl (.one rfl) rfl (by decide) (fun hb => (faR 2 rfl rfl rfl Try.underlying32 rfl ti30 (lb rfl) rfl rfl)) <|
  ils_guard rfl rfl (.one rfl) rfl (by decide) (fun hb => (iop_load_rs (d := .slice _ _) rfl rfl (lb rfl) Try.underlying30 ag30 ti30 (by decide) (svcR rfl hb) rfl (nle rfl) rfl)) <|
  ils_guard rfl rfl (.one rfl) rfl (by decide) (fun hb => (iop_call (r := .bool _) rfl rfl (lb rfl) cl49 (.cons (svcL rfl hb) (.cons (svcL rfl hb) .nil)) rfl (p_slices_Equal_ptree_Node_ptree_Node _ _ _ (gd_t hx4 hb)))) <|
  ils_cons rfl (iop_andx rfl rfl (lb rfl) (svB rfl) rfl rfl hx5) <|
  ils_cons rfl (mvB rfl rfl rfl rfl) <|
  ils_guard rfl rfl (.one rfl) rfl (by decide) (fun hb => (faR 3 rfl rfl rfl Try.underlying32 rfl ti23 (lb rfl) rfl rfl)) <|
  ils_guard rfl rfl (.one rfl) rfl (by decide) (fun hb => (iop_load_rs (d := .slice _ _) rfl rfl (lb rfl) Try.underlying23 ag23 ti23 (by decide) (svcR rfl hb) rfl (nle rfl) rfl)) <|
  ils_guard rfl rfl (.one rfl) rfl (by decide) (fun hb => (faR 3 rfl rfl rfl Try.underlying32 rfl ti23 (lb rfl) rfl rfl)) <|
  ils_guard rfl rfl (.one rfl) rfl (by decide) (fun hb => (iop_load_rs (d := .slice _ _) rfl rfl (lb rfl) Try.underlying23 ag23 ti23 (by decide) (svcR rfl hb) rfl (nle rfl) rfl)) <|
  ils_guard rfl rfl (.one rfl) rfl (by decide) (fun hb => (iop_call (r := .bool _) rfl rfl (lb rfl) cl50 (.cons (svcL rfl hb) (.cons (svcL rfl hb) .nil)) rfl (p_slices_Equal_int_int _ _ _ (gd_t hx6 hb)))) <|
  ils_cons rfl (iop_andx rfl rfl (lb rfl) (svB rfl) rfl rfl hx7) <|
  ils_cons rfl (asB rfl rfl rfl rfl) <|
  ils_end ?_)
 refine iwp_ret ?_
 obtain rfl := Option.some.inj h
 refine ⟨.inr rfl, (.cons (sv rfl) .nil)⟩

theorem p_sennitlaw34_awake  (r : Bool) (h : sennitlaw34_awake = some r) : PureAt Try.prog 8 [] (.bool r) := by
 refine pure_of_iwp (rs := [.bool r]) Try.func8 rfl Try.ntmps8 (nle rfl) rfl fun O hO => ?_
 show IWP _ _ _ _ ⟨[], []⟩ _
 unfold sennitlaw34_awake at h
 refine iwp_reg (ils_cons rfl (iop_assign rfl rfl (lb rfl) (sv (d := .bool false) rfl)) <|
  ils_end ?_)
 obtain ⟨x1, hx1, h⟩ := bno_e h
 refine iwp_reg (ils_cons rfl (iop_sub (d' := .agg (w14 8 1 ([] : List T_ptree_Node) ([] : List Int))) (iop_build_struct (cs := q10) rfl rfl (lb rfl) Try.underlying32 ti32 pl32 rfl (.cons (sv (d := .int _ 8) rfl) (.cons (sv (d := .int _ 1) rfl) .nil)) rfl) (.agg (.k (.k (.cons (.nils _) (.cons (.nils _) .nil)))))) <|
  ils_cons rfl (iop_build_struct (cs := q4) rfl rfl (lb rfl) Try.underlying37 ti37 pl37 rfl (.cons (sv (d := .int _ 1) rfl) (.cons (sv (d := .int _ 16) rfl) .nil)) rfl) <|
  ils_cons rfl (iop_build_struct (cs := q4) rfl rfl (lb rfl) Try.underlying37 ti37 pl37 rfl (.cons (sv (d := .int _ 3) rfl) (.cons (sv (d := .int _ 1) rfl) (.cons (sv (d := .int _ 5) rfl) .nil))) rfl) <|
  ils_cons rfl (iop_build_struct (cs := q4) rfl rfl (lb rfl) Try.underlying37 ti37 pl37 rfl (.cons (sv (d := .int _ 5) rfl) (.cons (sv (d := .int _ 1) rfl) (.cons (sv (d := .int _ 7) rfl) .nil))) rfl) <|
  ils_cons rfl (iop_build_struct (cs := q4) rfl rfl (lb rfl) Try.underlying37 ti37 pl37 rfl (.cons (sv (d := .int _ 2) rfl) (.cons (sv (d := .int _ 3) rfl) .nil)) rfl) <|
  ils_cons rfl (iop_build_struct (cs := q4) rfl rfl (lb rfl) Try.underlying37 ti37 pl37 rfl (.cons (sv (d := .int _ 9) rfl) .nil) rfl) <|
  ils_cons rfl (iop_build_struct (cs := q4) rfl rfl (lb rfl) Try.underlying37 ti37 pl37 rfl (.cons (sv (d := .int _ 1) rfl) (.cons (sv (d := .int _ 5) rfl) (.cons (sv (d := .int _ 2) rfl) .nil))) rfl) <|
  ils_cons rfl (iop_bsT E_fold_Op ([(⟨0, 1, 0, 16, false⟩ : T_fold_Op), (⟨0, 3, 1, 5, false⟩ : T_fold_Op), (⟨0, 5, 1, 7, false⟩ : T_fold_Op), (⟨2, 3, 0, 0, false⟩ : T_fold_Op), (⟨9, 0, 0, 0, false⟩ : T_fold_Op), (⟨1, 5, 0, 2, false⟩ : T_fold_Op)] : (List T_fold_Op)) 0 rfl rfl (lb rfl) Try.underlying62 ti37 rfl (.cons (svA q4 rfl) (.cons (svA q4 rfl) (.cons (svA q4 rfl) (.cons (svA q4 rfl) (.cons (svA q4 rfl) (.cons (svA q4 rfl) .nil)))))) rfl rfl (by decide)) <|
  ils_cons rfl (iop_call (r := .tuple [.agg q5, .slice _ _]) rfl rfl (lb rfl) cl26 (.cons (svA q5 rfl) (.cons (svg rfl) .nil)) rfl (p_fold_Run _ _ _ hx1)) <|
  ils_cons rfl (iop_move rfl rfl (lb rfl) (sv (d := .tuple [.agg q5, .slice _ _]) rfl)) <|
  ils_cons rfl (iop_extract (d := .agg q5) rfl rfl (lb rfl) (sv (d := .tuple [.agg q5, .slice _ _]) rfl) rfl) <|
  ils_cons rfl (iop_extract (d := .slice _ _) rfl rfl (lb rfl) (sv (d := .tuple [.agg q5, .slice _ _]) rfl) rfl) <|
  ils_cons rfl (iop_allocS (cs := q10) (cs' := (w14 0 0 ([] : List T_ptree_Node) ([] : List Int))) 1 rfl rfl (lb rfl) rfl ti32 rfl rfl (.k (.k (.cons (.nils _) (.cons (.nils _) .nil))))) <|
  ils_cons rfl (stA q5 q5 ti32 rfl rfl rfl rfl rfl rfl rfl rfl (nle rfl) rfl) <|
  ils_cons rfl (iop_assign rfl rfl (lb rfl) (svL rfl)) <|
  ils_end ?_)
 refine iwp_seq ?_
 obtain ⟨x2, hx2, h⟩ := bnd_e h
 refine iwp_reg (ils_cons rfl (mvL rfl rfl rfl rfl) <|
  ils_cons rfl (iop_lenT (eInt .i64) (l := x1.2) rfl rfl (lb rfl) Try.underlying59 (svL rfl)) <|
  ils_cons rfl (iop_cmpx rfl rfl (lb rfl) (svI rfl) (sv (d := .int _ 6) rfl) rfl hx2) <|
  ils_end ?_)
 refine iwp_cond (b := _) rfl (fun hc3 => ?_) (fun hc3 => ?_)
 ·
  replace h := bif_t h hc3
  refine iwp_reg (ils_cons rfl (iop_assign rfl rfl (lb rfl) (sv (d := .bool false) rfl)) <|
   ils_end ?_)
  refine iwp_ret ?_
  refine thenQ_r ?_
  obtain rfl := Option.some.inj h
  refine ⟨.inr rfl, (.cons (sv rfl) .nil)⟩
 ·
  replace h := bif_f h hc3
  refine iwp_skip ?_
  refine thenQ_n ?_
  obtain ⟨x4, hx4, h⟩ := bno_e h
  obtain ⟨x5, hx5, h⟩ := bnd_e h
  obtain ⟨x6, hx6, h⟩ := bno_e h
  obtain ⟨x7, hx7, h⟩ := bnd_e h
  obtain ⟨x8, hx8, h⟩ := bnd_e h
  obtain ⟨x9, hx9, h⟩ := bno_e h
  obtain ⟨x10, hx10, h⟩ := bnd_e h
  obtain ⟨x11, hx11, h⟩ := bnd_e h
  obtain ⟨x12, hx12, h⟩ := bnd_e h
  obtain ⟨x13, hx13, h⟩ := bnd_e h
  obtain ⟨x14, hx14, h⟩ := bno_e h
  obtain ⟨x15, hx15, h⟩ := bnd_e h
  obtain ⟨x16, hx16, h⟩ := bno_e h
  obtain ⟨x17, hx17, h⟩ := bnd_e h
  obtain ⟨x18, hx18, h⟩ := bnd_e h
  obtain ⟨x19, hx19, h⟩ := bno_e h
  obtain ⟨x20, hx20, h⟩ := bnd_e h
  obtain ⟨x21, hx21, h⟩ := bnd_e h
  obtain ⟨x22, hx22, h⟩ := bno_e h
  obtain ⟨x23, hx23, h⟩ := bnd_e h
  obtain ⟨x24, hx24, h⟩ := bnd_e h
  obtain ⟨x25, hx25, h⟩ := bno_e h
  obtain ⟨x26, hx26, h⟩ := bnd_e h
  obtain ⟨x27, hx27, h⟩ := bnd_e h
  obtain ⟨x28, hx28, h⟩ := bno_e h
  obtain ⟨x29, hx29, h⟩ := bno_e h
  obtain ⟨x30, hx30, h⟩ := bnd_e h
  obtain ⟨x31, hx31, h⟩ := bno_e h
  obtain ⟨x32, hx32, h⟩ := bno_e h
  obtain ⟨x33, hx33, h⟩ := bnd_e h
  obtain ⟨x34, hx34, h⟩ := bno_e h
  obtain ⟨x35, hx35, h⟩ := bnd_e h
  obtain ⟨x36, hx36, h⟩ := bnd_e h
  obtain ⟨x37, hx37, h⟩ := bno_e h
  obtain ⟨x38, hx38, h⟩ := bnd_e h
  obtain ⟨x39, hx39, h⟩ := bnd_e h
  obtain ⟨x40, hx40, h⟩ := bno_e h
  obtain ⟨x41, hx41, h⟩ := bnd_e h
  obtain ⟨x42, hx42, h⟩ := bnd_e h
  obtain ⟨x43, hx43, h⟩ := bno_e h
  obtain ⟨x44, hx44, h⟩ := bnd_e h
  obtain ⟨x45, hx45, h⟩ := bno_e h
  obtain ⟨x46, hx46, h⟩ := bnd_e h
  obtain ⟨x47, hx47, h⟩ := bnd_e h
  obtain ⟨x48, hx48, h⟩ := bnd_e h
  obtain ⟨x49, hx49, h⟩ := bnd_e h
  refine iwp_reg (ils_cons rfl (mvL rfl rfl rfl rfl) <|
   ils_cons rfl (iop_idxT (eInt .i64) (cs := [.int _ _]) rfl rfl (lb rfl) Try.underlying59 ti34 (svL rfl) (sv (d := .int _ 0) rfl) hx4 rfl rfl) <|
   ils_cons rfl (iop_load_fs rfl rfl (lb rfl) Try.underlying34 ag34 ti34 (by decide) (sv (d := .fptr [.int _ _]) rfl) (nle rfl)) <|
   ils_cons rfl (iop_cmpx rfl rfl (lb rfl) (svI rfl) (sv (d := .int _ 0) rfl) rfl hx5) <|
   ils_cons rfl (mvB rfl rfl rfl rfl) <|
   ils_guard rfl rfl (.one rfl) rfl (by decide) (fun hb => (mvL rfl rfl rfl rfl)) <|
   ils_guard rfl rfl (.one rfl) rfl (by decide) (fun hb => (iop_idxT (eInt .i64) (cs := [.int _ _]) rfl rfl (lb rfl) Try.underlying59 ti34 (svcL rfl hb) (sv (d := .int _ 3) rfl) (gd_t hx6 hb) rfl rfl)) <|
   ils_guard rfl rfl (.one rfl) rfl (by decide) (fun hb => (iop_load_fs rfl rfl (lb rfl) Try.underlying34 ag34 ti34 (by decide) (svc (d := .fptr [.int _ _]) rfl hb) (nle rfl))) <|
   ils_guard rfl rfl (.one rfl) rfl (by decide) (fun hb => (iop_cmpx rfl rfl (lb rfl) (svcI rfl hb) (sv (d := .int _ 0) rfl) rfl hx7)) <|
   ils_cons rfl (iop_andx rfl rfl (lb rfl) (svB rfl) rfl rfl hx8) <|
   ils_cons rfl (mvB rfl rfl rfl rfl) <|
   ils_guard rfl rfl (.one rfl) rfl (by decide) (fun hb => (mvL rfl rfl rfl rfl)) <|
   ils_guard rfl rfl (.one rfl) rfl (by decide) (fun hb => (iop_idxT (eInt .i64) (cs := [.int _ _]) rfl rfl (lb rfl) Try.underlying59 ti34 (svcL rfl hb) (sv (d := .int _ 4) rfl) (gd_t hx9 hb) rfl rfl)) <|
   ils_guard rfl rfl (.one rfl) rfl (by decide) (fun hb => (iop_load_fs rfl rfl (lb rfl) Try.underlying34 ag34 ti34 (by decide) (svc (d := .fptr [.int _ _]) rfl hb) (nle rfl))) <|
   ils_guard rfl rfl (.one rfl) rfl (by decide) (fun hb => (iop_cmpx rfl rfl (lb rfl) (svcI rfl hb) (sv (d := .int _ 12) rfl) rfl hx10)) <|
   ils_cons rfl (iop_andx rfl rfl (lb rfl) (svB rfl) rfl rfl hx11) <|
   ils_cons rfl (mvB rfl rfl rfl rfl) <|
   ils_guard rfl rfl (.one rfl) rfl (by decide) (fun hb => (faR 2 rfl rfl rfl Try.underlying32 rfl ti30 (lb rfl) rfl rfl)) <|
   ils_guard rfl rfl (.one rfl) rfl (by decide) (fun hb => (iop_load_rs (d := .slice _ _) rfl rfl (lb rfl) Try.underlying30 ag30 ti30 (by decide) (svcR rfl hb) rfl (nle rfl) rfl)) <|
   ils_guard rfl rfl (.one rfl) rfl (by decide) (fun hb => (iop_lenT E_ptree_Node (l := x1.1.Nodes) rfl rfl (lb rfl) Try.underlying30 (svcL rfl hb))) <|
   ils_guard rfl rfl (.one rfl) rfl (by decide) (fun hb => (iop_cmpx rfl rfl (lb rfl) (svcI rfl hb) (sv (d := .int _ 3) rfl) rfl hx12)) <|
   ils_cons rfl (iop_andx rfl rfl (lb rfl) (svB rfl) rfl rfl hx13) <|
   ils_cons rfl (mvB rfl rfl rfl rfl) <|
   ils_guard rfl rfl (.one rfl) rfl (by decide) (fun hb => (faR 2 rfl rfl rfl Try.underlying32 rfl ti30 (lb rfl) rfl rfl)) <|
   ils_guard rfl rfl (.one rfl) rfl (by decide) (fun hb => (iop_load_rs (d := .slice _ _) rfl rfl (lb rfl) Try.underlying30 ag30 ti30 (by decide) (svcR rfl hb) rfl (nle rfl) rfl)) <|
   ils_guard rfl rfl (.one rfl) rfl (by decide) (fun hb => (iop_idxT E_ptree_Node (cs := q8) rfl rfl (lb rfl) Try.underlying30 ti56 (svcL rfl hb) (sv (d := .int _ 1) rfl) (gd_t hx14 hb) rfl rfl)) <|
   ils_guard rfl rfl (.one rfl) rfl (by decide) (fun hb => (iop_fieldAddr_fptr (cs' := [.bool _]) rfl rfl (lb rfl) Try.underlying56 rfl ti4 (by decide) (svc (d := .fptr q8) rfl hb) rfl)) <|
   ils_guard rfl rfl (.one rfl) rfl (by decide) (fun hb => (iop_load_fs rfl rfl (lb rfl) Try.underlying4 ag4 ti4 (by decide) (svc (d := .fptr [.bool _]) rfl hb) (nle rfl))) <|
   ils_cons rfl (iop_andx rfl rfl (lb rfl) (svB rfl) rfl rfl hx15) <|
   ils_cons rfl (mvB rfl rfl rfl rfl) <|
   ils_guard rfl rfl (.one rfl) rfl (by decide) (fun hb => (lra q5 la32 rfl rfl rfl rfl rfl (nle rfl) rfl)) <|
   ils_guard rfl rfl (.one rfl) rfl (by decide) (fun hb => (iop_call (r := .int _ _) rfl rfl (lb rfl) cl17 (.cons (svcA (v0 x1.1) rfl hb) (.cons (sv (d := .int _ 3) rfl) .nil)) rfl (p_fold_Depth _ _ _ (gd_t hx16 hb)))) <|
   ils_guard rfl rfl (.one rfl) rfl (by decide) (fun hb => (iop_cmpx rfl rfl (lb rfl) (svcI rfl hb) (sv (d := .int _ 2) rfl) rfl hx17)) <|
   ils_cons rfl (iop_andx rfl rfl (lb rfl) (svB rfl) rfl rfl hx18) <|
   ils_cons rfl (mvB rfl rfl rfl rfl) <|
   ils_guard rfl rfl (.one rfl) rfl (by decide) (fun hb => (lra q5 la32 rfl rfl rfl rfl rfl (nle rfl) rfl)) <|
   ils_guard rfl rfl (.one rfl) rfl (by decide) (fun hb => (iop_call (r := .int _ _) rfl rfl (lb rfl) cl17 (.cons (svcA (v0 x1.1) rfl hb) (.cons (sv (d := .int _ 5) rfl) .nil)) rfl (p_fold_Depth _ _ _ (gd_t hx19 hb)))) <|
   ils_guard rfl rfl (.one rfl) rfl (by decide) (fun hb => (iop_cmpx rfl rfl (lb rfl) (svcI rfl hb) (sv (d := .int _ 1) rfl) rfl hx20)) <|
   ils_cons rfl (iop_andx rfl rfl (lb rfl) (svB rfl) rfl rfl hx21) <|
   ils_cons rfl (mvB rfl rfl rfl rfl) <|
   ils_guard rfl rfl (.one rfl) rfl (by decide) (fun hb => (lra q5 la32 rfl rfl rfl rfl rfl (nle rfl) rfl)) <|
   ils_guard rfl rfl (.one rfl) rfl (by decide) (fun hb => (iop_call (r := .int _ _) rfl rfl (lb rfl) cl19 (.cons (svcA (v0 x1.1) rfl hb) (.cons (sv (d := .int _ 1) rfl) (.cons (sv (d := .int _ 3) rfl) .nil))) rfl (p_fold_Meet _ _ _ _ (gd_t hx22 hb)))) <|
   ils_guard rfl rfl (.one rfl) rfl (by decide) (fun hb => (iop_cmpx rfl rfl (lb rfl) (svcI rfl hb) (sv (d := .int _ 1) rfl) rfl hx23)) <|
   ils_cons rfl (iop_andx rfl rfl (lb rfl) (svB rfl) rfl rfl hx24) <|
   ils_cons rfl (mvB rfl rfl rfl rfl) <|
   ils_guard rfl rfl (.one rfl) rfl (by decide) (fun hb => (lra q5 la32 rfl rfl rfl rfl rfl (nle rfl) rfl)) <|
   ils_guard rfl rfl (.one rfl) rfl (by decide) (fun hb => (iop_call (r := .int _ _) rfl rfl (lb rfl) cl19 (.cons (svcA (v0 x1.1) rfl hb) (.cons (sv (d := .int _ 5) rfl) (.cons (sv (d := .int _ 3) rfl) .nil))) rfl (p_fold_Meet _ _ _ _ (gd_t hx25 hb)))) <|
   ils_guard rfl rfl (.one rfl) rfl (by decide) (fun hb => (iop_cmpx rfl rfl (lb rfl) (svcI rfl hb) (sv (d := .int _ 0) rfl) rfl hx26)) <|
   ils_cons rfl (iop_andx rfl rfl (lb rfl) (svB rfl) rfl rfl hx27) <|
   ils_cons rfl (mvB rfl rfl rfl rfl) <|
   ils_guard rfl rfl (.one rfl) rfl (by decide) (fun hb => (lra q5 la32 rfl rfl rfl rfl rfl (nle rfl) rfl)) <|
   ils_guard rfl rfl (.one rfl) rfl (by decide) (fun hb => (iop_call (r := .slice _ _) rfl rfl (lb rfl) cl22 (.cons (svcA (v0 x1.1) rfl hb) (.cons (sv (d := .int _ 1) rfl) .nil)) rfl (p_fold_Below _ _ _ (gd_t hx28 hb)))) <|
   ils_guard rfl rfl (.one rfl) rfl (by decide) (fun hb => (iop_bsF (eInt .i64) ([3] : (List Int)) rfl rfl (lb rfl) Try.underlying23 ti3 (.cons (sv (d := .int _ 3) rfl) .nil) rfl rfl (by decide))) <|
   ils_guard rfl rfl (.one rfl) rfl (by decide) (fun hb => (iop_call (r := .bool _) rfl rfl (lb rfl) cl21 (.cons (svcL rfl hb) (.cons (svcL rfl hb) .nil)) rfl (p_sennitref02_SameInts _ _ _ (gd_t hx29 hb)))) <|
   ils_cons rfl (iop_andx rfl rfl (lb rfl) (svB rfl) rfl rfl hx30) <|
   ils_cons rfl (mvB rfl rfl rfl rfl) <|
   ils_guard rfl rfl (.one rfl) rfl (by decide) (fun hb => (lra q5 la32 rfl rfl rfl rfl rfl (nle rfl) rfl)) <|
   ils_guard rfl rfl (.one rfl) rfl (by decide) (fun hb => (iop_call (r := .slice _ _) rfl rfl (lb rfl) cl22 (.cons (svcA (v0 x1.1) rfl hb) (.cons (sv (d := .int _ 0) rfl) .nil)) rfl (p_fold_Below _ _ _ (gd_t hx31 hb)))) <|
   ils_guard rfl rfl (.one rfl) rfl (by decide) (fun hb => (iop_bsF (eInt .i64) ([1, 3, 5] : (List Int)) rfl rfl (lb rfl) Try.underlying23 ti3 (.cons (sv (d := .int _ 1) rfl) (.cons (sv (d := .int _ 3) rfl) (.cons (sv (d := .int _ 5) rfl) .nil))) rfl rfl (by decide))) <|
   ils_guard rfl rfl (.one rfl) rfl (by decide) (fun hb => (iop_call (r := .bool _) rfl rfl (lb rfl) cl21 (.cons (svcL rfl hb) (.cons (svcL rfl hb) .nil)) rfl (p_sennitref02_SameInts _ _ _ (gd_t hx32 hb)))) <|
   ils_cons rfl (iop_andx rfl rfl (lb rfl) (svB rfl) rfl rfl hx33) <|
   ils_cons rfl (mvB rfl rfl rfl rfl) <|
   ils_guard rfl rfl (.one rfl) rfl (by decide) (fun hb => (lra q5 la32 rfl rfl rfl rfl rfl (nle rfl) rfl)) <|
   ils_guard rfl rfl (.one rfl) rfl (by decide) (fun hb => (iop_call (r := .int _ _) rfl rfl (lb rfl) cl24 (.cons (svcA (v0 x1.1) rfl hb) (.cons (sv (d := .int _ 0) rfl) .nil)) rfl (p_fold_Sum _ _ _ (gd_t hx34 hb)))) <|
   ils_guard rfl rfl (.one rfl) rfl (by decide) (fun hb => (iop_cmpx rfl rfl (lb rfl) (svcI rfl hb) (sv (d := .int _ 18) rfl) rfl hx35)) <|
   ils_cons rfl (iop_andx rfl rfl (lb rfl) (svB rfl) rfl rfl hx36) <|
   ils_cons rfl (mvB rfl rfl rfl rfl) <|
   ils_guard rfl rfl (.one rfl) rfl (by decide) (fun hb => (lra q5 la32 rfl rfl rfl rfl rfl (nle rfl) rfl)) <|
   ils_guard rfl rfl (.one rfl) rfl (by decide) (fun hb => (iop_call (r := .int _ _) rfl rfl (lb rfl) cl14 (.cons (svcA (v0 x1.1) rfl hb) .nil) rfl (p_fold_Check _ _ (gd_t hx37 hb)))) <|
   ils_guard rfl rfl (.one rfl) rfl (by decide) (fun hb => (iop_cmpx rfl rfl (lb rfl) (svcI rfl hb) (sv (d := .int _ 0) rfl) rfl hx38)) <|
   ils_cons rfl (iop_andx rfl rfl (lb rfl) (svB rfl) rfl rfl hx39) <|
   ils_cons rfl (mvB rfl rfl rfl rfl) <|
   ils_guard rfl rfl (.one rfl) rfl (by decide) (fun hb => (iop_sub (d' := .agg (w14 0 0 ([] : List T_ptree_Node) ([] : List Int))) (iop_build_struct (cs := q10) rfl rfl (lb rfl) Try.underlying32 ti32 pl32 rfl .nil rfl) (.agg (.k (.k (.cons (.nils _) (.cons (.nils _) .nil))))))) <|
   ils_guard rfl rfl (.one rfl) rfl (by decide) (fun hb => (iop_call (r := .int _ _) rfl rfl (lb rfl) cl14 (.cons (svc (d := .agg (w14 0 0 ([] : List T_ptree_Node) ([] : List Int))) rfl hb) .nil) rfl (p_fold_Check _ _ (gd_t hx40 hb)))) <|
   ils_guard rfl rfl (.one rfl) rfl (by decide) (fun hb => (iop_cmpx rfl rfl (lb rfl) (svcI rfl hb) (sv (d := .int _ 8) rfl) rfl hx41)) <|
   ils_cons rfl (iop_andx rfl rfl (lb rfl) (svB rfl) rfl rfl hx42) <|
   ils_cons rfl (mvB rfl rfl rfl rfl) <|
   ils_guard rfl rfl (.one rfl) rfl (by decide) (fun hb => (lra q5 la32 rfl rfl rfl rfl rfl (nle rfl) rfl)) <|
   ils_guard rfl rfl (.one rfl) rfl (by decide) (fun hb => (iop_sub (d' := .agg (w14 0 0 ([] : List T_ptree_Node) ([] : List Int))) (iop_build_struct (cs := q10) rfl rfl (lb rfl) Try.underlying32 ti32 pl32 rfl .nil rfl) (.agg (.k (.k (.cons (.nils _) (.cons (.nils _) .nil))))))) <|
   ils_guard rfl rfl (.one rfl) rfl (by decide) (fun hb => (iop_call (r := .bool _) rfl rfl (lb rfl) cl16 (.cons (svcA (v0 x1.1) rfl hb) (.cons (svc (d := .agg (w14 0 0 ([] : List T_ptree_Node) ([] : List Int))) rfl hb) .nil)) rfl (p_fold_Same _ _ _ (gd_t hx43 hb)))) <|
   ils_guard rfl rfl (.one rfl) rfl (by decide) (fun hb => (iop_not rfl rfl (lb rfl) (svcB rfl hb))) <|
   ils_cons rfl (iop_andx rfl rfl (lb rfl) (svB rfl) rfl rfl hx44) <|
   ils_cons rfl (mvB rfl rfl rfl rfl) <|
   ils_guard rfl rfl (.one rfl) rfl (by decide) (fun hb => (lra q5 la32 rfl rfl rfl rfl rfl (nle rfl) rfl)) <|
   ils_guard rfl rfl (.one rfl) rfl (by decide) (fun hb => (lra q5 la32 rfl rfl rfl rfl rfl (nle rfl) rfl)) <|
   ils_guard rfl rfl (.one rfl) rfl (by decide) (fun hb => (iop_call (r := .bool _) rfl rfl (lb rfl) cl16 (.cons (svcA (v0 x1.1) rfl hb) (.cons (svcA (v0 x1.1) rfl hb) .nil)) rfl (p_fold_Same _ _ _ (gd_t hx45 hb)))) <|
   ils_cons rfl (iop_andx rfl rfl (lb rfl) (svB rfl) rfl rfl hx46) <|
   ils_cons rfl (mvB rfl rfl rfl rfl) <|
   ils_cons rfl (iop_pickc rfl rfl (lb rfl) (svB rfl) rfl rfl hx47) <|
   ils_cons rfl (mvB rfl rfl rfl rfl) <|
   ils_cons rfl (iop_pickc rfl rfl (lb rfl) (svB rfl) rfl rfl hx48) <|
   ils_cons rfl (mvB rfl rfl rfl rfl) <|
   ils_cons rfl (iop_pickc rfl rfl (lb rfl) (svB rfl) rfl rfl hx49) <|
   ils_cons rfl (asB rfl rfl rfl rfl) <|
   ils_end ?_)
  refine iwp_ret ?_
  obtain rfl := Option.some.inj h
  refine ⟨.inr rfl, (.cons (sv rfl) .nil)⟩

theorem p_sennitlaw34_own (a0 : T_fold_State) (r : T_fold_State) (h : sennitlaw34_own a0 = some r) : PureAt Try.prog 9 [.agg (v0 a0)] (.agg (v0 r)) := by
 refine pure_of_iwpF (rs := [.agg (v0 r)]) Try.func9 rfl Try.ntmps9 (nle rfl) rfl fun O hO => ?_
 show IWP _ _ _ _ ⟨[(0, .agg (v0 a0))], []⟩ _
 unfold sennitlaw34_own at h
 refine iwp_reg (ils_cons rfl (iop_box' (cs := q5) 0 rfl rfl (lb rfl) rfl (svA q5 rfl) rfl rfl) <|
  ils_cons rfl (iop_allocS (cs := q10) (cs' := [.int .i64 0, .int .i64 0, .nils, .nils]) 1 rfl rfl (lb rfl) rfl ti32 rfl rfl (.all _)) <|
  ils_end ?_)
 refine iwp_reg (ils_cons rfl (faR 0 rfl rfl rfl Try.underlying25 rfl ti3 (lb rfl) rfl rfl) <|
  ils_cons rfl (iop_load_rs (d := .int _ _) rfl rfl (lb rfl) Try.underlying3 ag3 ti3 (by decide) (svR rfl) rfl (nle rfl) rfl) <|
  ils_cons rfl (faR 1 rfl rfl rfl Try.underlying25 rfl ti3 (lb rfl) rfl rfl) <|
  ils_cons rfl (iop_load_rs (d := .int _ _) rfl rfl (lb rfl) Try.underlying3 ag3 ti3 (by decide) (svR rfl) rfl (nle rfl) rfl) <|
  ils_cons rfl (faR 3 rfl rfl rfl Try.underlying25 rfl ti23 (lb rfl) rfl rfl) <|
  ils_cons rfl (lrL la23 rfl rfl rfl rfl rfl (nle rfl) rfl) <|
  ils_cons rfl (iop_build_struct (cs := q9) rfl rfl (lb rfl) Try.underlying32 ti32 pl32 rfl (.cons (svI rfl) (.cons (svI rfl) (.cons (svL rfl) .nil))) rfl) <|
  ils_cons rfl (iop_allocS (cs := q10) (cs' := [.int .i64 0, .int .i64 0, .nils, .nils]) 2 rfl rfl (lb rfl) rfl ti32 rfl rfl (.all _)) <|
  ils_cons rfl (stA q9 q9 ti32 rfl rfl rfl rfl rfl rfl rfl rfl (nle rfl) rfl) <|
  ils_end ?_)
 refine iwp_seq ?_
 refine iwp_reg (ils_cons rfl (iop_assign rfl rfl (lb rfl) (sv (d := .int _ 0) rfl)) <|
  ils_end ?_)
 refine iwp_block ?_
 refine iwp_loopP (α := Nat × Int × (List T_ptree_Node)) (fun z => ⟨[(1, .ref 0 0), (2, .ref 1 0), (3, .ref 2 0), (4, .int .i64 z.2.1)], [(0, .blk 25 (v0 a0)), (1, .blk 32 [.int .i64 0, .int .i64 0, .nils, .nils]), (2, .blk 32 [.int .i64 a0.Room, .int .i64 a0.Keep, .gsl 24 E_ptree_Node.sz (z.2.2.map E_ptree_Node.d), .slice false (a0.Ended.map (eInt .i64).d)]), (24, .tail 56 E_ptree_Node.sz z.2.2.length)]⟩) (fun z => sennitlaw34_own_L0 a0 z.1 z.2.1 z.2.2 = some r) (fun z => z.1) (fuel, 0, ([] : (List T_ptree_Node))) (fun i => if i = 24 then 77 else i) ⟨(.sames rfl rfl), (.cons (.blk rfl rfl rfl) (.cons (.blk rfl rfl rfl) (.cons (.sub rfl (.same (.same (.nilg (.same .nil)))) rfl) (.cons (.nils rfl) .nil)))), nd_of [0, 1, 2, 77] rfl (by decide), (fun i hi => by first | rfl | (show (if _ then _ else _) = _; (repeat' split) <;> omega))⟩ ?_ ?_
 ·exact h
 ·
  rintro ⟨n0, v6, v7⟩ h
  cases n0 with
  | zero => exact absurd h (by unfold sennitlaw34_own_L0; exact nofun)
  | succ n0 =>
   unfold sennitlaw34_own_L0 at h
   refine iwp_seq ?_
   obtain ⟨x13, hx13, h⟩ := bnd_e h
   refine iwp_reg (ils_cons rfl (mvI rfl rfl rfl rfl) <|
    ils_cons rfl (faR 2 rfl rfl rfl Try.underlying25 rfl ti22 (lb rfl) rfl rfl) <|
    ils_cons rfl (lrL la22 rfl rfl rfl rfl rfl (nle rfl) rfl) <|
    ils_cons rfl (iop_lenT E_ptree_Node (l := a0.Nodes) rfl rfl (lb rfl) Try.underlying22 (svL rfl)) <|
    ils_cons rfl (iop_cmpx rfl rfl (lb rfl) (svI rfl) (svI rfl) rfl hx13) <|
    ils_end ?_)
   refine iwp_cond (b := _) rfl (fun hc14 => ?_) (fun hc14 => ?_)
   ·
    replace h := bif_t h hc14
    refine iwp_skip ?_
    refine thenQ_n ?_
    refine iwp_seq ?_
    refine iwp_block ?_
    obtain ⟨x15, hx15, h⟩ := bno_e h
    obtain ⟨x16, hx16, h⟩ := bno_e h
    refine iwp_draw rfl [⟨[3], [], [(19, .ref 2 2)], []⟩,
     ⟨[19], [2], [(20, .gsl 24 E_ptree_Node.sz (v7.map E_ptree_Node.d))], []⟩,
     ⟨[1], [], [(21, .ref 0 2)], []⟩,
     ⟨[21], [0], [(22, .slice false (a0.Nodes.map E_ptree_Node.d))], []⟩,
     ⟨[4], [], [(23, .int .i64 v6)], []⟩,
     ⟨[22, 23], [], [(24, .fptr (v3 x15))], []⟩,
     ⟨[24], [], [(25, .agg (v3 x15))], []⟩,
     ⟨[25], [25], [(26, .gsl 25 E_ptree_Node.sz (([x15] : (List T_ptree_Node)).map E_ptree_Node.d))], [(25, .tail 56 E_ptree_Node.sz ([x15] : (List T_ptree_Node)).length)]⟩,
     ⟨[20, 26], [24, 26], [(27, .gsl 26 E_ptree_Node.sz (x16.map E_ptree_Node.d))], [(26, .tail 56 E_ptree_Node.sz x16.length), (24, .none)]⟩,
     ⟨[3], [], [(28, .ref 2 2)], []⟩,
     ⟨[27, 28], [2], [], [(2, .blk 32 [.int .i64 a0.Room, .int .i64 a0.Keep, .gsl 26 E_ptree_Node.sz (x16.map E_ptree_Node.d), .slice false (a0.Ended.map (eInt .i64).d)])]⟩] rfl ?_ (by kernel_rfl) ?_
    ·refine .cons (lop rfl rfl fun S hA => (iop_fieldAddr_ref rfl rfl (lb rfl) Try.underlying32 rfl ti30 (by decide) (svaR hA rfl rfl) (off' := 2) rfl)) ?_
     refine .cons (lop rfl rfl fun S hA => (iop_load_rs (d := .gsl _ _ _) rfl rfl (lb rfl) Try.underlying30 ag30 ti30 (by decide) (svaR hA rfl rfl) (agi hA rfl rfl) (nle rfl) rfl)) ?_
     refine .cons (lop rfl rfl fun S hA => (iop_fieldAddr_ref rfl rfl (lb rfl) Try.underlying25 rfl ti22 (by decide) (svaR hA rfl rfl) (off' := 2) rfl)) ?_
     refine .cons (lop rfl rfl fun S hA => (iop_load_rs (d := .slice _ _) rfl rfl (lb rfl) Try.underlying22 ag22 ti22 (by decide) (svaR hA rfl rfl) (agi hA rfl rfl) (nle rfl) rfl)) ?_
     refine .cons (lop rfl rfl fun S hA => (iop_move rfl rfl (lb rfl) (svaI hA rfl rfl))) ?_
     refine .cons (lop rfl rfl fun S hA => (iop_idxT E_ptree_Node (cs := q8) rfl rfl (lb rfl) Try.underlying22 ti63 (svaL hA rfl rfl) (svaI hA rfl rfl) hx15 rfl rfl)) ?_
     refine .cons (lop rfl rfl fun S hA => (iop_load_fa (cs := q8) rfl rfl (lb rfl) Try.underlying63 ag63 ti63 (by decide) (sv (d := .fptr q8) (agr hA rfl rfl)) (nle rfl) rfl)) ?_
     refine .cons (lop rfl rfl fun S hA => (iop_bsT E_ptree_Node ([x15] : (List T_ptree_Node)) 25 rfl rfl (lb rfl) Try.underlying30 ti56 (agi hA rfl rfl) (.cons (svaA q8 hA rfl rfl) .nil) rfl rfl (by decide))) ?_
     refine .cons (lop rfl rfl fun S hA => (iop_appT E_ptree_Node 26 rfl rfl (lb rfl) Try.underlying30 ti56 rfl (agr hA rfl rfl) (agi hA rfl rfl) (agi hA rfl rfl) (svg (agr hA rfl rfl)) hx16)) ?_
     refine .cons (lop rfl rfl fun S hA => (iop_fieldAddr_ref rfl rfl (lb rfl) Try.underlying32 rfl ti30 (by decide) (svaR hA rfl rfl) (off' := 2) rfl)) ?_
     refine .cons (lop rfl rfl fun S hA => (iop_store (ds' := q7) rfl rfl ti30 (svaR hA rfl rfl) (agi hA rfl rfl) (sv (d := .gsl _ _ _) (agr hA rfl rfl)) rfl rfl rfl (nle rfl) rfl)) ?_
     exact .nil
    refine blockQ_n ?_
    refine thenQ_n ?_
    obtain ⟨x17, hx17, h⟩ := bnd_e h
    refine iwp_region (ils_cons rfl (mvI rfl rfl rfl rfl) <|
     ils_cons rfl (iop_intx rfl rfl (lb rfl) (svI rfl) (sv (d := .int _ 1) rfl) rfl hx17) <|
     ils_cons rfl (asI rfl rfl rfl rfl) <|
     ils_nil ?_)
    refine thenQ_n ⟨(n0, x17, x16), (fun i => if i = 24 then 26 else i), ⟨(.sames rfl rfl), (.cons (.blk rfl rfl rfl) (.cons (.blk rfl rfl rfl) (.cons (.blk rfl rfl rfl) (.cons (.tail rfl) .nil)))), nd_of [0, 1, 2, 26] rfl (by decide), (fun i hi => by first | rfl | (show (if _ then _ else _) = _; (repeat' split) <;> omega))⟩, ?_, ?_⟩
    exact h
    exact Nat.lt_succ_self _
   ·
    replace h := bif_f h hc14
    refine iwp_exit ?_
    refine thenQ_e ?_
    refine thenQ_e ?_
    refine blockQ_e ?_
    refine thenQ_n ?_
    refine iwp_reg (ils_cons rfl (lra q7 la32 rfl rfl rfl rfl rfl (nle rfl) rfl) <|
     ils_cons rfl (stA q7 q7 ti32 rfl rfl rfl rfl rfl rfl rfl rfl (nle rfl) rfl) <|
     ils_end ?_)
    refine iwp_ret ?_
    obtain rfl := Option.some.inj h
    refine ⟨.inr rfl, _, (.cons (rva la32 rfl rfl (nle rfl) rfl) .nil), (.cons (.agg (.k (.k (.cons (.gsl _ _ _) (.all _))))) .nil)⟩

theorem p_sennitref34_tree (a0 : T_fold_State) (r : T_sennitref19_Tree) (h : sennitref34_tree a0 = some r) : PureAt Try.prog 32 [.agg (v0 a0)] (.agg (v1 r)) := by
 refine pure_of_iwp (rs := [.agg (v1 r)]) Try.func32 rfl Try.ntmps32 (nle rfl) rfl fun O hO => ?_
 show IWP _ _ _ _ ⟨[(0, .agg (v0 a0))], []⟩ _
 unfold sennitref34_tree at h
 refine iwp_reg (ils_cons rfl (iop_box' (cs := q5) 0 rfl rfl (lb rfl) rfl (svA q5 rfl) rfl rfl) <|
  ils_cons rfl (iop_allocS (cs := q10) (cs' := (w14 0 0 ([] : List T_ptree_Node) ([] : List Int))) 1 rfl rfl (lb rfl) rfl ti71 rfl rfl (.k (.k (.cons (.nils _) (.cons (.nils _) .nil))))) <|
  ils_end ?_)
 refine iwp_reg (ils_cons rfl (faR 0 rfl rfl rfl Try.underlying25 rfl ti3 (lb rfl) rfl rfl) <|
  ils_cons rfl (iop_load_rs (d := .int _ _) rfl rfl (lb rfl) Try.underlying3 ag3 ti3 (by decide) (svR rfl) rfl (nle rfl) rfl) <|
  ils_cons rfl (faR 1 rfl rfl rfl Try.underlying25 rfl ti3 (lb rfl) rfl rfl) <|
  ils_cons rfl (iop_load_rs (d := .int _ _) rfl rfl (lb rfl) Try.underlying3 ag3 ti3 (by decide) (svR rfl) rfl (nle rfl) rfl) <|
  ils_cons rfl (faR 2 rfl rfl rfl Try.underlying25 rfl ti22 (lb rfl) rfl rfl) <|
  ils_cons rfl (lrL la22 rfl rfl rfl rfl rfl (nle rfl) rfl) <|
  ils_cons rfl (faR 3 rfl rfl rfl Try.underlying25 rfl ti23 (lb rfl) rfl rfl) <|
  ils_cons rfl (lrL la23 rfl rfl rfl rfl rfl (nle rfl) rfl) <|
  ils_cons rfl (iop_build_struct (cs := q5) rfl rfl (lb rfl) Try.underlying71 ti71 pl71 rfl (.cons (svI rfl) (.cons (svI rfl) (.cons (svL rfl) (.cons (svL rfl) .nil)))) rfl) <|
  ils_cons rfl (stA q5 q5 ti71 rfl rfl rfl rfl rfl rfl rfl rfl (nle rfl) rfl) <|
  ils_end ?_)
 refine iwp_ret ?_
 obtain rfl := Option.some.inj h
 refine ⟨.inr rfl, (.cons (rva la71 rfl rfl (nle rfl) rfl) .nil)⟩

theorem p_sennitref34_numbers (a0 : T_fold_State) (r : Bool) (h : sennitref34_numbers a0 = some r) : PureAt Try.prog 44 [.agg (v0 a0)] (.bool r) := by
 refine pure_of_iwp (rs := [.bool r]) Try.func44 rfl Try.ntmps44 (nle rfl) rfl fun O hO => ?_
 show IWP _ _ _ _ ⟨[(0, .agg (v0 a0))], []⟩ _
 unfold sennitref34_numbers at h
 refine iwp_reg (ils_cons rfl (iop_box' (cs := q5) 0 rfl rfl (lb rfl) rfl (svA q5 rfl) rfl rfl) <|
  ils_cons rfl (iop_assign rfl rfl (lb rfl) (sv (d := .bool false) rfl)) <|
  ils_end ?_)
 refine iwp_seq ?_
 obtain ⟨x1, hx1, h⟩ := bnd_e h
 obtain ⟨x2, hx2, h⟩ := bnd_e h
 obtain ⟨x3, hx3, h⟩ := bnd_e h
 obtain ⟨x4, hx4, h⟩ := bnd_e h
 obtain ⟨x5, hx5, h⟩ := bnd_e h
 obtain ⟨x6, hx6, h⟩ := bnd_e h
 obtain ⟨x7, hx7, h⟩ := bnd_e h
 refine iwp_reg (ils_cons rfl (faR 0 rfl rfl rfl Try.underlying25 rfl ti3 (lb rfl) rfl rfl) <|
  ils_cons rfl (iop_load_rs (d := .int _ _) rfl rfl (lb rfl) Try.underlying3 ag3 ti3 (by decide) (svR rfl) rfl (nle rfl) rfl) <|
  ils_cons rfl (iop_cmpx rfl rfl (lb rfl) (svI rfl) (sv (d := .int _ 1) rfl) rfl hx1) <|
  ils_cons rfl (mvB rfl rfl rfl rfl) <|
  ils_guard rfl rfl (.one rfl) rfl (by decide) (fun hb => (faR 0 rfl rfl rfl Try.underlying25 rfl ti3 (lb rfl) rfl rfl)) <|
  ils_guard rfl rfl (.one rfl) rfl (by decide) (fun hb => (iop_load_rs (d := .int _ _) rfl rfl (lb rfl) Try.underlying3 ag3 ti3 (by decide) (svcR rfl hb) rfl (nle rfl) rfl)) <|
  ils_guard rfl rfl (.one rfl) rfl (by decide) (fun hb => (iop_cmpx rfl rfl (lb rfl) (svcI rfl hb) (sv (d := .int _ 24) rfl) rfl hx2)) <|
  ils_cons rfl (iop_orx rfl rfl (lb rfl) (svB rfl) rfl rfl hx3) <|
  ils_cons rfl (mvB rfl rfl rfl rfl) <|
  ils_guard rfl rfl (.one rfl) rfl (by decide) (fun hb => (faR 1 rfl rfl rfl Try.underlying25 rfl ti3 (lb rfl) rfl rfl)) <|
  ils_guard rfl rfl (.one rfl) rfl (by decide) (fun hb => (iop_load_rs (d := .int _ _) rfl rfl (lb rfl) Try.underlying3 ag3 ti3 (by decide) (svcR rfl hb) rfl (nle rfl) rfl)) <|
  ils_guard rfl rfl (.one rfl) rfl (by decide) (fun hb => (iop_cmpx rfl rfl (lb rfl) (svcI rfl hb) (sv (d := .int _ 0) rfl) rfl hx4)) <|
  ils_cons rfl (iop_orx rfl rfl (lb rfl) (svB rfl) rfl rfl hx5) <|
  ils_cons rfl (mvB rfl rfl rfl rfl) <|
  ils_guard rfl rfl (.one rfl) rfl (by decide) (fun hb => (faR 1 rfl rfl rfl Try.underlying25 rfl ti3 (lb rfl) rfl rfl)) <|
  ils_guard rfl rfl (.one rfl) rfl (by decide) (fun hb => (iop_load_rs (d := .int _ _) rfl rfl (lb rfl) Try.underlying3 ag3 ti3 (by decide) (svcR rfl hb) rfl (nle rfl) rfl)) <|
  ils_guard rfl rfl (.one rfl) rfl (by decide) (fun hb => (faR 0 rfl rfl rfl Try.underlying25 rfl ti3 (lb rfl) rfl rfl)) <|
  ils_guard rfl rfl (.one rfl) rfl (by decide) (fun hb => (iop_load_rs (d := .int _ _) rfl rfl (lb rfl) Try.underlying3 ag3 ti3 (by decide) (svcR rfl hb) rfl (nle rfl) rfl)) <|
  ils_guard rfl rfl (.one rfl) rfl (by decide) (fun hb => (iop_cmpx rfl rfl (lb rfl) (svcI rfl hb) (svcI rfl hb) rfl hx6)) <|
  ils_cons rfl (iop_orx rfl rfl (lb rfl) (svB rfl) rfl rfl hx7) <|
  ils_end ?_)
 refine iwp_cond (b := _) rfl (fun hc8 => ?_) (fun hc8 => ?_)
 ·
  replace h := bif_t h hc8
  refine iwp_reg (ils_cons rfl (iop_assign rfl rfl (lb rfl) (sv (d := .bool false) rfl)) <|
   ils_end ?_)
  refine iwp_ret ?_
  refine thenQ_r ?_
  obtain rfl := Option.some.inj h
  refine ⟨.inr rfl, (.cons (sv rfl) .nil)⟩
 ·
  replace h := bif_f h hc8
  refine iwp_skip ?_
  refine thenQ_n ?_
  refine iwp_seq ?_
  refine iwp_reg (ils_cons rfl (iop_assign rfl rfl (lb rfl) (sv (d := .int _ 0) rfl)) <|
   ils_end ?_)
  refine iwp_block ?_
  refine iwp_loopP (α := Nat × Int) (fun z => ⟨[(1, .ref 0 0), (3, .int .i64 z.2)], [(0, .blk 25 (v0 a0))]⟩) (fun z => sennitref34_numbers_L0 a0 z.1 z.2 = some r) (fun z => z.1) (fuel, 0) (fun i => i) ⟨(.sames rfl rfl), (.cons (.blk rfl rfl rfl) .nil), nd_of [0] rfl (by decide), fun _ _ => rfl⟩ ?_ ?_
  ·exact h
  ·
   rintro ⟨n0, v21⟩ h
   cases n0 with
   | zero => exact absurd h (by unfold sennitref34_numbers_L0; exact nofun)
   | succ n0 =>
    unfold sennitref34_numbers_L0 at h
    refine iwp_seq ?_
    obtain ⟨x34, hx34, h⟩ := bnd_e h
    refine iwp_reg (ils_cons rfl (mvI rfl rfl rfl rfl) <|
     ils_cons rfl (faR 2 rfl rfl rfl Try.underlying25 rfl ti22 (lb rfl) rfl rfl) <|
     ils_cons rfl (lrL la22 rfl rfl rfl rfl rfl (nle rfl) rfl) <|
     ils_cons rfl (iop_lenT E_ptree_Node (l := a0.Nodes) rfl rfl (lb rfl) Try.underlying22 (svL rfl)) <|
     ils_cons rfl (iop_cmpx rfl rfl (lb rfl) (svI rfl) (svI rfl) rfl hx34) <|
     ils_end ?_)
    refine iwp_cond (b := _) rfl (fun hc35 => ?_) (fun hc35 => ?_)
    ·
     replace h := bif_t h hc35
     refine iwp_skip ?_
     refine thenQ_n ?_
     refine iwp_seq ?_
     refine iwp_block ?_
     obtain ⟨x36, hx36, h⟩ := bno_e h
     refine iwp_reg (ils_cons rfl (faR 2 rfl rfl rfl Try.underlying25 rfl ti22 (lb rfl) rfl rfl) <|
      ils_cons rfl (lrL la22 rfl rfl rfl rfl rfl (nle rfl) rfl) <|
      ils_cons rfl (mvI rfl rfl rfl rfl) <|
      ils_cons rfl (iop_idxT E_ptree_Node (cs := q8) rfl rfl (lb rfl) Try.underlying22 ti63 (svL rfl) (svI rfl) hx36 rfl rfl) <|
      ils_cons rfl (iop_load_fa (cs := q8) rfl rfl (lb rfl) Try.underlying63 ag63 ti63 (by decide) (sv (d := .fptr q8) rfl) (nle rfl) rfl) <|
      ils_cons rfl (iop_allocS (cs := q8) (cs' := (w16 0 0 0 false)) 1 rfl rfl (lb rfl) rfl ti63 rfl rfl (.all _)) <|
      ils_cons rfl (stA q8 q8 ti63 rfl rfl rfl rfl rfl rfl rfl rfl (nle rfl) rfl) <|
      ils_end ?_)
     obtain ⟨x37, hx37, h⟩ := bnd_e h
     obtain ⟨x38, hx38, h⟩ := bnd_e h
     obtain ⟨x39, hx39, h⟩ := bnd_e h
     obtain ⟨x40, hx40, h⟩ := bnd_e h
     obtain ⟨x41, hx41, h⟩ := bnd_e h
     obtain ⟨x42, hx42, h⟩ := bnd_e h
     obtain ⟨x43, hx43, h⟩ := bnd_e h
     refine iwp_reg (ils_cons rfl (faR 0 rfl rfl rfl Try.underlying63 rfl ti3 (lb rfl) rfl rfl) <|
      ils_cons rfl (iop_load_rs (d := .int _ _) rfl rfl (lb rfl) Try.underlying3 ag3 ti3 (by decide) (svR rfl) rfl (nle rfl) rfl) <|
      ils_cons rfl (iop_cmpx rfl rfl (lb rfl) (svI rfl) (sv (d := .int _ 1) rfl) rfl hx37) <|
      ils_cons rfl (mvB rfl rfl rfl rfl) <|
      ils_guard rfl rfl (.one rfl) rfl (by decide) (fun hb => (faR 0 rfl rfl rfl Try.underlying63 rfl ti3 (lb rfl) rfl rfl)) <|
      ils_guard rfl rfl (.one rfl) rfl (by decide) (fun hb => (iop_load_rs (d := .int _ _) rfl rfl (lb rfl) Try.underlying3 ag3 ti3 (by decide) (svcR rfl hb) rfl (nle rfl) rfl)) <|
      ils_guard rfl rfl (.one rfl) rfl (by decide) (fun hb => (iop_cmpx rfl rfl (lb rfl) (svcI rfl hb) (sv (d := .int _ 1048576) rfl) rfl hx38)) <|
      ils_cons rfl (iop_orx rfl rfl (lb rfl) (svB rfl) rfl rfl hx39) <|
      ils_cons rfl (mvB rfl rfl rfl rfl) <|
      ils_guard rfl rfl (.one rfl) rfl (by decide) (fun hb => (faR 2 rfl rfl rfl Try.underlying63 rfl ti3 (lb rfl) rfl rfl)) <|
      ils_guard rfl rfl (.one rfl) rfl (by decide) (fun hb => (iop_load_rs (d := .int _ _) rfl rfl (lb rfl) Try.underlying3 ag3 ti3 (by decide) (svcR rfl hb) rfl (nle rfl) rfl)) <|
      ils_guard rfl rfl (.one rfl) rfl (by decide) (fun hb => (iop_cmpx rfl rfl (lb rfl) (svcI rfl hb) (sv (d := .int _ 1) rfl) rfl hx40)) <|
      ils_cons rfl (iop_orx rfl rfl (lb rfl) (svB rfl) rfl rfl hx41) <|
      ils_cons rfl (mvB rfl rfl rfl rfl) <|
      ils_guard rfl rfl (.one rfl) rfl (by decide) (fun hb => (faR 2 rfl rfl rfl Try.underlying63 rfl ti3 (lb rfl) rfl rfl)) <|
      ils_guard rfl rfl (.one rfl) rfl (by decide) (fun hb => (iop_load_rs (d := .int _ _) rfl rfl (lb rfl) Try.underlying3 ag3 ti3 (by decide) (svcR rfl hb) rfl (nle rfl) rfl)) <|
      ils_guard rfl rfl (.one rfl) rfl (by decide) (fun hb => (iop_cmpx rfl rfl (lb rfl) (svcI rfl hb) (sv (d := .int _ 256) rfl) rfl hx42)) <|
      ils_cons rfl (iop_orx rfl rfl (lb rfl) (svB rfl) rfl rfl hx43) <|
      ils_end ?_)
     refine iwp_cond (b := _) rfl (fun hc44 => ?_) (fun hc44 => ?_)
     ·
      replace h := bif_t h hc44
      refine iwp_reg (ils_cons rfl (iop_assign rfl rfl (lb rfl) (sv (d := .bool false) rfl)) <|
       ils_end ?_)
      refine iwp_ret ?_
      refine blockQ_r ?_
      refine thenQ_r ?_
      refine thenQ_r ?_
      refine blockQ_r ?_
      refine thenQ_r ?_
      obtain rfl := Option.some.inj h
      refine ⟨.inr rfl, (.cons (sv rfl) .nil)⟩
     ·
      replace h := bif_f h hc44
      refine iwp_skip ?_
      refine blockQ_n ?_
      refine thenQ_n ?_
      obtain ⟨x45, hx45, h⟩ := bnd_e h
      refine iwp_region (ils_cons rfl (mvI rfl rfl rfl rfl) <|
       ils_cons rfl (iop_intx rfl rfl (lb rfl) (svI rfl) (sv (d := .int _ 1) rfl) rfl hx45) <|
       ils_cons rfl (asI rfl rfl rfl rfl) <|
       ils_nil ?_)
      refine thenQ_n ⟨(n0, x45), (fun i => i), ⟨(.sames rfl rfl), (.cons (.blk rfl rfl rfl) .nil), nd_of [0] rfl (by decide), fun _ _ => rfl⟩, ?_, ?_⟩
      exact h
      exact Nat.lt_succ_self _
    ·
     replace h := bif_f h hc35
     refine iwp_exit ?_
     refine thenQ_e ?_
     refine thenQ_e ?_
     refine blockQ_e ?_
     refine thenQ_n ?_
     refine iwp_reg (ils_cons rfl (iop_assign rfl rfl (lb rfl) (sv (d := .bool true) rfl)) <|
      ils_end ?_)
     refine iwp_ret ?_
     obtain rfl := Option.some.inj h
     refine ⟨.inr rfl, (.cons (sv rfl) .nil)⟩

theorem p_sennitref19_Tree_Place (a0 : T_sennitref19_Tree) (a1 : Int) (r : Int) (h : sennitref19_Tree_Place a0 a1 = some r) : PureAt Try.prog 45 [.agg (v1 a0), .int .i64 a1] (.int .i64 r) := by
 refine pure_of_iwp (rs := [.int .i64 r]) Try.func45 rfl Try.ntmps45 (nle rfl) rfl fun O hO => ?_
 show IWP _ _ _ _ ⟨[(0, .agg (v1 a0)), (1, .int .i64 a1)], []⟩ _
 unfold sennitref19_Tree_Place at h
 refine iwp_reg (ils_cons rfl (iop_box' (cs := q5) 0 rfl rfl (lb rfl) rfl (svA q5 rfl) rfl rfl) <|
  ils_cons rfl (iop_assign rfl rfl (lb rfl) (sv (d := .int _ 0) rfl)) <|
  ils_end ?_)
 refine iwp_seq ?_
 refine iwp_reg (ils_cons rfl (iop_assign rfl rfl (lb rfl) (sv (d := .int _ 0) rfl)) <|
  ils_end ?_)
 refine iwp_block ?_
 refine iwp_loopP (α := Nat × Int) (fun z => ⟨[(1, .int .i64 a1), (2, .ref 0 0), (5, .int .i64 z.2)], [(0, .blk 71 (v1 a0))]⟩) (fun z => sennitref19_Tree_Place_L0 a0 a1 z.1 z.2 = some r) (fun z => z.1) (fuel, 0) (fun i => i) ⟨(.sames rfl rfl), (.cons (.blk rfl rfl rfl) .nil), nd_of [0] rfl (by decide), fun _ _ => rfl⟩ ?_ ?_
 ·exact h
 ·
  rintro ⟨n0, v7⟩ h
  cases n0 with
  | zero => exact absurd h (by unfold sennitref19_Tree_Place_L0; exact nofun)
  | succ n0 =>
   unfold sennitref19_Tree_Place_L0 at h
   refine iwp_seq ?_
   obtain ⟨x14, hx14, h⟩ := bnd_e h
   refine iwp_reg (ils_cons rfl (mvI rfl rfl rfl rfl) <|
    ils_cons rfl (faR 2 rfl rfl rfl Try.underlying71 rfl ti22 (lb rfl) rfl rfl) <|
    ils_cons rfl (lrL la22 rfl rfl rfl rfl rfl (nle rfl) rfl) <|
    ils_cons rfl (iop_lenT E_ptree_Node (l := a0.L) rfl rfl (lb rfl) Try.underlying22 (svL rfl)) <|
    ils_cons rfl (iop_cmpx rfl rfl (lb rfl) (svI rfl) (svI rfl) rfl hx14) <|
    ils_end ?_)
   refine iwp_cond (b := _) rfl (fun hc15 => ?_) (fun hc15 => ?_)
   ·
    replace h := bif_t h hc15
    refine iwp_skip ?_
    refine thenQ_n ?_
    refine iwp_seq ?_
    refine iwp_block ?_
    obtain ⟨x16, hx16, h⟩ := bno_e h
    obtain ⟨x17, hx17, h⟩ := bnd_e h
    refine iwp_reg (ils_cons rfl (faR 2 rfl rfl rfl Try.underlying71 rfl ti22 (lb rfl) rfl rfl) <|
     ils_cons rfl (lrL la22 rfl rfl rfl rfl rfl (nle rfl) rfl) <|
     ils_cons rfl (mvI rfl rfl rfl rfl) <|
     ils_cons rfl (iop_idxT E_ptree_Node (cs := q8) rfl rfl (lb rfl) Try.underlying22 ti63 (svL rfl) (svI rfl) hx16 rfl rfl) <|
     ils_cons rfl (iop_fieldAddr_fptr (cs' := [.int _ _]) rfl rfl (lb rfl) Try.underlying63 rfl ti3 (by decide) (sv (d := .fptr q8) rfl) rfl) <|
     ils_cons rfl (iop_load_fs rfl rfl (lb rfl) Try.underlying3 ag3 ti3 (by decide) (sv (d := .fptr [.int _ _]) rfl) (nle rfl)) <|
     ils_cons rfl (mvI rfl rfl rfl rfl) <|
     ils_cons rfl (iop_cmpx rfl rfl (lb rfl) (svI rfl) (svI rfl) rfl hx17) <|
     ils_end ?_)
    refine iwp_cond (b := _) rfl (fun hc18 => ?_) (fun hc18 => ?_)
    ·
     replace h := bif_t h hc18
     refine iwp_reg (ils_cons rfl (mvI rfl rfl rfl rfl) <|
      ils_cons rfl (asI rfl rfl rfl rfl) <|
      ils_end ?_)
     refine iwp_ret ?_
     refine blockQ_r ?_
     refine thenQ_r ?_
     refine thenQ_r ?_
     refine blockQ_r ?_
     refine thenQ_r ?_
     obtain rfl := Option.some.inj h
     refine ⟨.inr rfl, (.cons (sv rfl) .nil)⟩
    ·
     replace h := bif_f h hc18
     refine iwp_skip ?_
     refine blockQ_n ?_
     refine thenQ_n ?_
     obtain ⟨x19, hx19, h⟩ := bnd_e h
     refine iwp_region (ils_cons rfl (mvI rfl rfl rfl rfl) <|
      ils_cons rfl (iop_intx rfl rfl (lb rfl) (svI rfl) (sv (d := .int _ 1) rfl) rfl hx19) <|
      ils_cons rfl (asI rfl rfl rfl rfl) <|
      ils_nil ?_)
     refine thenQ_n ⟨(n0, x19), (fun i => i), ⟨(.sames rfl rfl), (.cons (.blk rfl rfl rfl) .nil), nd_of [0] rfl (by decide), fun _ _ => rfl⟩, ?_, ?_⟩
     exact h
     exact Nat.lt_succ_self _
   ·
    replace h := bif_f h hc15
    refine iwp_exit ?_
    refine thenQ_e ?_
    refine thenQ_e ?_
    refine blockQ_e ?_
    refine thenQ_n ?_
    refine iwp_reg (ils_cons rfl (iop_assign rfl rfl (lb rfl) (sv (d := .int _ (-1)) rfl)) <|
     ils_end ?_)
    refine iwp_ret ?_
    obtain rfl := Option.some.inj h
    refine ⟨.inr rfl, (.cons (sv rfl) .nil)⟩

theorem p_sennitref19_Tree_Path (a0 : T_sennitref19_Tree) (a1 : Int) (r : (List Int)) (h : sennitref19_Tree_Path a0 a1 = some r) : PureAt Try.prog 47 [.agg (v1 a0), .int .i64 a1] (.slice false (r.map (eInt .i64).d)) := by
 refine pure_of_iwp (rs := [.slice false (r.map (eInt .i64).d)]) Try.func47 rfl Try.ntmps47 (nle rfl) rfl fun O hO => ?_
 show IWP _ _ _ _ ⟨[(0, .agg (v1 a0)), (1, .int .i64 a1)], []⟩ _
 unfold sennitref19_Tree_Path at h
 refine iwp_reg (ils_cons rfl (iop_box' (cs := q5) 0 rfl rfl (lb rfl) rfl (svA q5 rfl) rfl rfl) <|
  ils_cons rfl (iop_assign rfl rfl (lb rfl) (sv (d := .nils) rfl)) <|
  ils_end ?_)
 refine iwp_reg (ils_cons rfl (iop_assign rfl rfl (lb rfl) (sv (d := .nils) rfl)) <|
  ils_end ?_)
 obtain ⟨x1, hx1, h⟩ := bno_e h
 refine iwp_reg (ils_cons rfl (lra q5 la71 rfl rfl rfl rfl rfl (nle rfl) rfl) <|
  ils_cons rfl (mvI rfl rfl rfl rfl) <|
  ils_cons rfl (iop_call (r := .int _ _) rfl rfl (lb rfl) cl45 (.cons (svA q5 rfl) (.cons (svI rfl) .nil)) rfl (p_sennitref19_Tree_Place _ _ _ hx1)) <|
  ils_cons rfl (asI rfl rfl rfl rfl) <|
  ils_end ?_)
 refine iwp_seq ?_
 refine iwp_reg (ils_cons rfl (iop_assign rfl rfl (lb rfl) (sv (d := .int _ 0) rfl)) <|
  ils_end ?_)
 refine iwp_block ?_
 refine iwp_loopP (α := Nat × (List Int) × Int × Int) (fun z => ⟨[(2, .ref 0 0), (5, .gsl 22 (eInt .i64).sz (z.2.1.map (eInt .i64).d)), (6, .int .i64 z.2.2.1), (7, .int .i64 z.2.2.2)], [(0, .blk 71 (v1 a0)), (22, .tail 3 (eInt .i64).sz z.2.1.length)]⟩) (fun z => sennitref19_Tree_Path_L0 a0 z.1 z.2.1 z.2.2.1 z.2.2.2 = some r) (fun z => z.1) (fuel, ([] : (List Int)), x1, 0) (fun i => if i = 22 then 73 else i) ⟨(.s rfl rfl (.cons (.nils rfl) (.sames rfl rfl))), (.cons (.blk rfl rfl rfl) (.cons (.nils rfl) .nil)), nd_of [0, 73] rfl (by decide), (fun i hi => by first | rfl | (show (if _ then _ else _) = _; (repeat' split) <;> omega))⟩ ?_ ?_
 ·exact h
 ·
  rintro ⟨n0, v16, v17, v18⟩ h
  cases n0 with
  | zero => exact absurd h (by unfold sennitref19_Tree_Path_L0; exact nofun)
  | succ n0 =>
   unfold sennitref19_Tree_Path_L0 at h
   refine iwp_seq ?_
   obtain ⟨x33, hx33, h⟩ := bnd_e h
   obtain ⟨x34, hx34, h⟩ := bnd_e h
   obtain ⟨x35, hx35, h⟩ := bnd_e h
   refine iwp_reg (ils_cons rfl (mvI rfl rfl rfl rfl) <|
    ils_cons rfl (faR 2 rfl rfl rfl Try.underlying71 rfl ti22 (lb rfl) rfl rfl) <|
    ils_cons rfl (lrL la22 rfl rfl rfl rfl rfl (nle rfl) rfl) <|
    ils_cons rfl (iop_lenT E_ptree_Node (l := a0.L) rfl rfl (lb rfl) Try.underlying22 (svL rfl)) <|
    ils_cons rfl (iop_cmpx rfl rfl (lb rfl) (svI rfl) (svI rfl) rfl hx33) <|
    ils_cons rfl (mvB rfl rfl rfl rfl) <|
    ils_guard rfl rfl (.one rfl) rfl (by decide) (fun hb => (mvI rfl rfl rfl rfl)) <|
    ils_guard rfl rfl (.one rfl) rfl (by decide) (fun hb => (iop_cmpx rfl rfl (lb rfl) (svcI rfl hb) (sv (d := .int _ 0) rfl) rfl hx34)) <|
    ils_cons rfl (iop_andx rfl rfl (lb rfl) (svB rfl) rfl rfl hx35) <|
    ils_end ?_)
   refine iwp_cond (b := _) rfl (fun hc36 => ?_) (fun hc36 => ?_)
   ·
    replace h := bif_t h hc36
    refine iwp_skip ?_
    refine thenQ_n ?_
    refine iwp_seq ?_
    refine iwp_block ?_
    obtain ⟨x37, hx37, h⟩ := bno_e h
    refine iwp_reg (ils_cons rfl (faR 2 rfl rfl rfl Try.underlying71 rfl ti22 (lb rfl) rfl rfl) <|
     ils_cons rfl (lrL la22 rfl rfl rfl rfl rfl (nle rfl) rfl) <|
     ils_cons rfl (mvI rfl rfl rfl rfl) <|
     ils_cons rfl (iop_idxT E_ptree_Node (cs := q8) rfl rfl (lb rfl) Try.underlying22 ti63 (svL rfl) (svI rfl) hx37 rfl rfl) <|
     ils_cons rfl (iop_fieldAddr_fptr (cs' := [.int _ _]) rfl rfl (lb rfl) Try.underlying63 rfl ti3 (by decide) (sv (d := .fptr q8) rfl) rfl) <|
     ils_cons rfl (iop_load_fs rfl rfl (lb rfl) Try.underlying3 ag3 ti3 (by decide) (sv (d := .fptr [.int _ _]) rfl) (nle rfl)) <|
     ils_cons rfl (asI rfl rfl rfl rfl) <|
     ils_end ?_)
    refine iwp_join (α := (List Int)) (fun z => ⟨[(2, .ref 0 0), (5, .gsl 24 (eInt .i64).sz (z.map (eInt .i64).d)), (7, .int .i64 v18), (8, .int .i64 x37.Parent)], [(0, .blk 71 (v1 a0)), (24, .tail 3 (eInt .i64).sz z.length)]⟩) (fun z => sennitref19_Tree_Path_J1 a0 v18 (sennitref19_Tree_Path_L0 a0 n0) x37 z = some r) ?_ ?_
    ·
     obtain ⟨x44, hx44, h⟩ := bnd_e h
     refine iwp_reg (ils_cons rfl (mvI rfl rfl rfl rfl) <|
      ils_cons rfl (iop_cmpx rfl rfl (lb rfl) (svI rfl) (sv (d := .int _ 0) rfl) rfl hx44) <|
      ils_end ?_)
     refine iwp_cond (b := _) rfl (fun hc45 => ?_) (fun hc45 => ?_)
     ·
      replace h := bif_t h hc45
      obtain ⟨x46, hx46, h⟩ := bno_e h
      refine iwp_region (ils_cons rfl (iop_move rfl rfl (lb rfl) (sv (d := .gsl _ _ _) rfl)) <|
       ils_cons rfl (mvI rfl rfl rfl rfl) <|
       ils_cons rfl (iop_bsT (eInt .i64) ([x37.Parent] : (List Int)) 23 rfl rfl (lb rfl) Try.underlying23 ti3 rfl (.cons (svI rfl) .nil) rfl rfl (by decide)) <|
       ils_cons rfl (iop_appT (eInt .i64) 24 rfl rfl (lb rfl) Try.underlying23 ti3 rfl rfl rfl rfl (svg rfl) hx46) <|
       ils_cons rfl (iop_assign rfl rfl (lb rfl) (sv (d := .gsl _ _ _) rfl)) <|
       ils_nil ?_)
      refine thenQ_n ⟨x46, (fun i => i), ⟨(.sames rfl rfl), (.cons (.blk rfl rfl rfl) (.cons (.tail rfl) .nil)), nd_of [0, 24] rfl (by decide), fun _ _ => rfl⟩, ?_⟩
      exact h
     ·
      replace h := bif_f h hc45
      refine iwp_skip ?_
      refine thenQ_n ⟨v16, (fun i => if i = 24 then 22 else i), ⟨(.sames rfl rfl), (.cons (.blk rfl rfl rfl) (.cons (.tail rfl) .nil)), nd_of [0, 22] rfl (by decide), (fun i hi => by first | rfl | (show (if _ then _ else _) = _; (repeat' split) <;> omega))⟩, ?_⟩
      exact h
    ·
     rintro v41 h
     unfold sennitref19_Tree_Path_J1 at h
     obtain ⟨x42, hx42, h⟩ := bno_e h
     refine iwp_region (ils_cons rfl (lra q5 la71 rfl rfl rfl rfl rfl (nle rfl) rfl) <|
      ils_cons rfl (mvI rfl rfl rfl rfl) <|
      ils_cons rfl (iop_call (r := .int _ _) rfl rfl (lb rfl) cl45 (.cons (svA q5 rfl) (.cons (svI rfl) .nil)) rfl (p_sennitref19_Tree_Place _ _ _ hx42)) <|
      ils_cons rfl (asI rfl rfl rfl rfl) <|
      ils_nil ?_)
     refine blockQ_n ?_
     refine thenQ_n ?_
     obtain ⟨x43, hx43, h⟩ := bnd_e h
     refine iwp_region (ils_cons rfl (mvI rfl rfl rfl rfl) <|
      ils_cons rfl (iop_intx rfl rfl (lb rfl) (svI rfl) (sv (d := .int _ 1) rfl) rfl hx43) <|
      ils_cons rfl (asI rfl rfl rfl rfl) <|
      ils_nil ?_)
     refine thenQ_n ⟨(n0, v41, x42, x43), (fun i => if i = 22 then 24 else i), ⟨(.sames rfl rfl), (.cons (.blk rfl rfl rfl) (.cons (.tail rfl) .nil)), nd_of [0, 24] rfl (by decide), (fun i hi => by first | rfl | (show (if _ then _ else _) = _; (repeat' split) <;> omega))⟩, ?_, ?_⟩
     exact h
     exact Nat.lt_succ_self _
   ·
    replace h := bif_f h hc36
    refine iwp_exit ?_
    refine thenQ_e ?_
    refine thenQ_e ?_
    refine blockQ_e ?_
    refine thenQ_n ?_
    refine iwp_reg (ils_cons rfl (iop_move rfl rfl (lb rfl) (sv (d := .gsl _ _ _) rfl)) <|
     ils_cons rfl (iop_assign rfl rfl (lb rfl) (sv (d := .gsl _ _ _) rfl)) <|
     ils_end ?_)
    refine iwp_ret ?_
    obtain rfl := Option.some.inj h
    refine ⟨.inr rfl, (.cons (svg_of rfl rfl) .nil)⟩

theorem p_sennitref19_In (a0 : (List Int)) (a1 : Int) (r : Bool) (h : sennitref19_In a0 a1 = some r) : PureAt Try.prog 46 [.slice false (a0.map (eInt .i64).d), .int .i64 a1] (.bool r) := by
 refine pure_of_iwp (rs := [.bool r]) Try.func46 rfl Try.ntmps46 (nle rfl) rfl fun O hO => ?_
 show IWP _ _ _ _ ⟨[(0, .slice false (a0.map (eInt .i64).d)), (1, .int .i64 a1)], []⟩ _
 unfold sennitref19_In at h
 refine iwp_reg (ils_cons rfl (iop_assign rfl rfl (lb rfl) (sv (d := .bool false) rfl)) <|
  ils_end ?_)
 refine iwp_seq ?_
 refine iwp_reg (ils_cons rfl (iop_assign rfl rfl (lb rfl) (sv (d := .int _ 0) rfl)) <|
  ils_end ?_)
 refine iwp_block ?_
 refine iwp_loopP (α := Nat × Int) (fun z => ⟨[(0, .slice false (a0.map (eInt .i64).d)), (1, .int .i64 a1), (5, .int .i64 z.2)], []⟩) (fun z => sennitref19_In_L0 a0 a1 z.1 z.2 = some r) (fun z => z.1) (fuel, 0) (fun i => i) ⟨(.sames rfl rfl), .nil, nd_of [] rfl (by decide), fun _ _ => rfl⟩ ?_ ?_
 ·exact h
 ·
  rintro ⟨n0, v7⟩ h
  cases n0 with
  | zero => exact absurd h (by unfold sennitref19_In_L0; exact nofun)
  | succ n0 =>
   unfold sennitref19_In_L0 at h
   refine iwp_seq ?_
   obtain ⟨x14, hx14, h⟩ := bnd_e h
   refine iwp_reg (ils_cons rfl (mvI rfl rfl rfl rfl) <|
    ils_cons rfl (mvL rfl rfl rfl rfl) <|
    ils_cons rfl (iop_lenT (eInt .i64) (l := a0) rfl rfl (lb rfl) Try.underlying23 (svL rfl)) <|
    ils_cons rfl (iop_cmpx rfl rfl (lb rfl) (svI rfl) (svI rfl) rfl hx14) <|
    ils_end ?_)
   refine iwp_cond (b := _) rfl (fun hc15 => ?_) (fun hc15 => ?_)
   ·
    replace h := bif_t h hc15
    refine iwp_skip ?_
    refine thenQ_n ?_
    refine iwp_seq ?_
    refine iwp_block ?_
    obtain ⟨x16, hx16, h⟩ := bno_e h
    obtain ⟨x17, hx17, h⟩ := bnd_e h
    refine iwp_reg (ils_cons rfl (mvL rfl rfl rfl rfl) <|
     ils_cons rfl (mvI rfl rfl rfl rfl) <|
     ils_cons rfl (iop_idxT (eInt .i64) (cs := [.int _ _]) rfl rfl (lb rfl) Try.underlying23 ti3 (svL rfl) (svI rfl) hx16 rfl rfl) <|
     ils_cons rfl (iop_load_fs rfl rfl (lb rfl) Try.underlying3 ag3 ti3 (by decide) (sv (d := .fptr [.int _ _]) rfl) (nle rfl)) <|
     ils_cons rfl (mvI rfl rfl rfl rfl) <|
     ils_cons rfl (iop_cmpx rfl rfl (lb rfl) (svI rfl) (svI rfl) rfl hx17) <|
     ils_end ?_)
    refine iwp_cond (b := _) rfl (fun hc18 => ?_) (fun hc18 => ?_)
    ·
     replace h := bif_t h hc18
     refine iwp_reg (ils_cons rfl (iop_assign rfl rfl (lb rfl) (sv (d := .bool true) rfl)) <|
      ils_end ?_)
     refine iwp_ret ?_
     refine blockQ_r ?_
     refine thenQ_r ?_
     refine thenQ_r ?_
     refine blockQ_r ?_
     refine thenQ_r ?_
     obtain rfl := Option.some.inj h
     refine ⟨.inr rfl, (.cons (sv rfl) .nil)⟩
    ·
     replace h := bif_f h hc18
     refine iwp_skip ?_
     refine blockQ_n ?_
     refine thenQ_n ?_
     obtain ⟨x19, hx19, h⟩ := bnd_e h
     refine iwp_region (ils_cons rfl (mvI rfl rfl rfl rfl) <|
      ils_cons rfl (iop_intx rfl rfl (lb rfl) (svI rfl) (sv (d := .int _ 1) rfl) rfl hx19) <|
      ils_cons rfl (asI rfl rfl rfl rfl) <|
      ils_nil ?_)
     refine thenQ_n ⟨(n0, x19), (fun i => i), ⟨(.sames rfl rfl), .nil, nd_of [] rfl (by decide), fun _ _ => rfl⟩, ?_, ?_⟩
     exact h
     exact Nat.lt_succ_self _
   ·
    replace h := bif_f h hc15
    refine iwp_exit ?_
    refine thenQ_e ?_
    refine thenQ_e ?_
    refine blockQ_e ?_
    refine thenQ_n ?_
    refine iwp_reg (ils_cons rfl (iop_assign rfl rfl (lb rfl) (sv (d := .bool false) rfl)) <|
     ils_end ?_)
    refine iwp_ret ?_
    obtain rfl := Option.some.inj h
    refine ⟨.inr rfl, (.cons (sv rfl) .nil)⟩

theorem p_sennitref34_closed (a0 : T_fold_State) (r : Bool) (h : sennitref34_closed a0 = some r) : PureAt Try.prog 48 [.agg (v0 a0)] (.bool r) := by
 refine pure_of_iwp (rs := [.bool r]) Try.func48 rfl Try.ntmps48 (nle rfl) rfl fun O hO => ?_
 show IWP _ _ _ _ ⟨[(0, .agg (v0 a0))], []⟩ _
 unfold sennitref34_closed at h
 refine iwp_reg (ils_cons rfl (iop_box' (cs := q5) 0 rfl rfl (lb rfl) rfl (svA q5 rfl) rfl rfl) <|
  ils_cons rfl (iop_assign rfl rfl (lb rfl) (sv (d := .bool false) rfl)) <|
  ils_end ?_)
 refine iwp_reg (ils_cons rfl (iop_assign rfl rfl (lb rfl) (sv (d := .int _ 0) rfl)) <|
  ils_end ?_)
 refine iwp_seq ?_
 refine iwp_reg (ils_cons rfl (iop_assign rfl rfl (lb rfl) (sv (d := .int _ 0) rfl)) <|
  ils_end ?_)
 refine iwp_block ?_
 refine iwp_loopP (α := Nat × Int × Int) (fun z => ⟨[(1, .ref 0 0), (3, .int .i64 z.2.1), (4, .int .i64 z.2.2)], [(0, .blk 25 (v0 a0))]⟩) (fun z => sennitref34_closed_L0 a0 z.1 z.2.1 z.2.2 = some r) (fun z => z.1) (fuel, 0, 0) (fun i => i) ⟨(.sames rfl rfl), (.cons (.blk rfl rfl rfl) .nil), nd_of [0] rfl (by decide), fun _ _ => rfl⟩ ?_ ?_
 ·exact h
 ·
  rintro ⟨n0, v16, v17⟩ h
  cases n0 with
  | zero => exact absurd h (by unfold sennitref34_closed_L0; exact nofun)
  | succ n0 =>
   unfold sennitref34_closed_L0 at h
   refine iwp_seq ?_
   obtain ⟨x33, hx33, h⟩ := bnd_e h
   refine iwp_reg (ils_cons rfl (mvI rfl rfl rfl rfl) <|
    ils_cons rfl (faR 2 rfl rfl rfl Try.underlying25 rfl ti22 (lb rfl) rfl rfl) <|
    ils_cons rfl (lrL la22 rfl rfl rfl rfl rfl (nle rfl) rfl) <|
    ils_cons rfl (iop_lenT E_ptree_Node (l := a0.Nodes) rfl rfl (lb rfl) Try.underlying22 (svL rfl)) <|
    ils_cons rfl (iop_cmpx rfl rfl (lb rfl) (svI rfl) (svI rfl) rfl hx33) <|
    ils_end ?_)
   refine iwp_cond (b := _) rfl (fun hc34 => ?_) (fun hc34 => ?_)
   ·
    replace h := bif_t h hc34
    refine iwp_skip ?_
    refine thenQ_n ?_
    refine iwp_seq ?_
    refine iwp_block ?_
    refine iwp_join (α := Int) (fun z => ⟨[(1, .ref 0 0), (3, .int .i64 z), (4, .int .i64 v17)], [(0, .blk 25 (v0 a0))]⟩) (fun z => sennitref34_closed_J1 a0 v17 (sennitref34_closed_L0 a0 n0) z = some r) ?_ ?_
    ·
     obtain ⟨x45, hx45, h⟩ := bno_e h
     refine iwp_reg (ils_cons rfl (faR 2 rfl rfl rfl Try.underlying25 rfl ti22 (lb rfl) rfl rfl) <|
      ils_cons rfl (lrL la22 rfl rfl rfl rfl rfl (nle rfl) rfl) <|
      ils_cons rfl (mvI rfl rfl rfl rfl) <|
      ils_cons rfl (iop_idxT E_ptree_Node (cs := q8) rfl rfl (lb rfl) Try.underlying22 ti63 (svL rfl) (svI rfl) hx45 rfl rfl) <|
      ils_cons rfl (iop_fieldAddr_fptr (cs' := [.bool _]) rfl rfl (lb rfl) Try.underlying63 rfl ti4 (by decide) (sv (d := .fptr q8) rfl) rfl) <|
      ils_cons rfl (iop_load_fs rfl rfl (lb rfl) Try.underlying4 ag4 ti4 (by decide) (sv (d := .fptr [.bool _]) rfl) (nle rfl)) <|
      ils_end ?_)
     refine iwp_cond (b := _) rfl (fun hc46 => ?_) (fun hc46 => ?_)
     ·
      replace h := bif_t h hc46
      obtain ⟨x47, hx47, h⟩ := bnd_e h
      refine iwp_region (ils_cons rfl (mvI rfl rfl rfl rfl) <|
       ils_cons rfl (iop_intx rfl rfl (lb rfl) (svI rfl) (sv (d := .int _ 1) rfl) rfl hx47) <|
       ils_cons rfl (asI rfl rfl rfl rfl) <|
       ils_nil ?_)
      refine thenQ_n ⟨x47, (fun i => i), ⟨(.sames rfl rfl), (.cons (.blk rfl rfl rfl) .nil), nd_of [0] rfl (by decide), fun _ _ => rfl⟩, ?_⟩
      exact h
     ·
      replace h := bif_f h hc46
      refine iwp_skip ?_
      refine thenQ_n ⟨v16, (fun i => i), ⟨(.sames rfl rfl), (.cons (.blk rfl rfl rfl) .nil), nd_of [0] rfl (by decide), fun _ _ => rfl⟩, ?_⟩
      exact h
    ·
     rintro v38 h
     unfold sennitref34_closed_J1 at h
     obtain ⟨x39, hx39, h⟩ := bno_e h
     obtain ⟨x40, hx40, h⟩ := bno_e h
     obtain ⟨x41, hx41, h⟩ := bno_e h
     obtain ⟨x42, hx42, h⟩ := bnd_e h
     refine iwp_drw rfl [⟨[1], [], [(20, .ref 0 2)], []⟩,
      ⟨[20], [0], [(21, .slice false (a0.Nodes.map E_ptree_Node.d))], []⟩,
      ⟨[4], [], [(22, .int .i64 v17)], []⟩,
      ⟨[21, 22], [], [(23, .fptr (v3 x39))], []⟩,
      ⟨[23], [], [(24, .fptr [.bool x39.Closed])], []⟩,
      ⟨[24], [], [(25, .bool x39.Closed)], []⟩,
      ⟨[1], [], [(26, .ref 0 3)], []⟩,
      ⟨[26], [0], [(27, .slice false (a0.Ended.map (eInt .i64).d))], []⟩,
      ⟨[1], [], [(28, .ref 0 2)], []⟩,
      ⟨[28], [0], [(29, .slice false (a0.Nodes.map E_ptree_Node.d))], []⟩,
      ⟨[4], [], [(30, .int .i64 v17)], []⟩,
      ⟨[29, 30], [], [(31, .fptr (v3 x40))], []⟩,
      ⟨[31], [], [(32, .fptr [.int .i64 x40.ID])], []⟩,
      ⟨[32], [], [(33, .int .i64 x40.ID)], []⟩,
      ⟨[27, 33], [], [(34, .bool x41)], []⟩,
      ⟨[25, 34], [], [(35, .bool x42)], []⟩] rfl ?_ (by kernel_rfl) ?_
     ·refine .cons (lop rfl rfl fun S hA => (iop_fieldAddr_ref rfl rfl (lb rfl) Try.underlying25 rfl ti22 (by decide) (svaR hA rfl rfl) (off' := 2) rfl)) ?_
      refine .cons (lop rfl rfl fun S hA => (iop_load_rs (d := .slice _ _) rfl rfl (lb rfl) Try.underlying22 ag22 ti22 (by decide) (svaR hA rfl rfl) (agi hA rfl rfl) (nle rfl) rfl)) ?_
      refine .cons (lop rfl rfl fun S hA => (iop_move rfl rfl (lb rfl) (svaI hA rfl rfl))) ?_
      refine .cons (lop rfl rfl fun S hA => (iop_idxT E_ptree_Node (cs := q8) rfl rfl (lb rfl) Try.underlying22 ti63 (svaL hA rfl rfl) (svaI hA rfl rfl) hx39 rfl rfl)) ?_
      refine .cons (lop rfl rfl fun S hA => (iop_fieldAddr_fptr (cs' := [.bool _]) rfl rfl (lb rfl) Try.underlying63 rfl ti4 (by decide) (sv (d := .fptr q8) (agr hA rfl rfl)) rfl)) ?_
      refine .cons (lop rfl rfl fun S hA => (iop_load_fs rfl rfl (lb rfl) Try.underlying4 ag4 ti4 (by decide) (sv (d := .fptr [.bool _]) (agr hA rfl rfl)) (nle rfl))) ?_
      refine .cons (lop rfl rfl fun S hA => (iop_fieldAddr_ref rfl rfl (lb rfl) Try.underlying25 rfl ti23 (by decide) (svaR hA rfl rfl) (off' := 3) rfl)) ?_
      refine .cons (lop rfl rfl fun S hA => (iop_load_rs (d := .slice _ _) rfl rfl (lb rfl) Try.underlying23 ag23 ti23 (by decide) (svaR hA rfl rfl) (agi hA rfl rfl) (nle rfl) rfl)) ?_
      refine .cons (lop rfl rfl fun S hA => (iop_fieldAddr_ref rfl rfl (lb rfl) Try.underlying25 rfl ti22 (by decide) (svaR hA rfl rfl) (off' := 2) rfl)) ?_
      refine .cons (lop rfl rfl fun S hA => (iop_load_rs (d := .slice _ _) rfl rfl (lb rfl) Try.underlying22 ag22 ti22 (by decide) (svaR hA rfl rfl) (agi hA rfl rfl) (nle rfl) rfl)) ?_
      refine .cons (lop rfl rfl fun S hA => (iop_move rfl rfl (lb rfl) (svaI hA rfl rfl))) ?_
      refine .cons (lop rfl rfl fun S hA => (iop_idxT E_ptree_Node (cs := q8) rfl rfl (lb rfl) Try.underlying22 ti63 (svaL hA rfl rfl) (svaI hA rfl rfl) hx40 rfl rfl)) ?_
      refine .cons (lop rfl rfl fun S hA => (iop_fieldAddr_fptr (cs' := [.int _ _]) rfl rfl (lb rfl) Try.underlying63 rfl ti3 (by decide) (sv (d := .fptr q8) (agr hA rfl rfl)) rfl)) ?_
      refine .cons (lop rfl rfl fun S hA => (iop_load_fs rfl rfl (lb rfl) Try.underlying3 ag3 ti3 (by decide) (sv (d := .fptr [.int _ _]) (agr hA rfl rfl)) (nle rfl))) ?_
      refine .cons (lop rfl rfl fun S hA => (iop_call (r := .bool _) rfl rfl (lb rfl) cl46 (.cons (svaL hA rfl rfl) (.cons (svaI hA rfl rfl) .nil)) rfl (p_sennitref19_In _ _ _ hx41))) ?_
      refine .cons (lop rfl rfl fun S hA => (iop_nebx rfl rfl (lb rfl) Try.underlying4 (svaB hA rfl rfl) (svaB hA rfl rfl) hx42)) ?_
      exact .nil
     refine iwp_cond (b := _) rfl (fun hc43 => ?_) (fun hc43 => ?_)
     ·
      replace h := bif_t h hc43
      refine iwp_reg (ils_cons rfl (iop_assign rfl rfl (lb rfl) (sv (d := .bool false) rfl)) <|
       ils_end ?_)
      refine iwp_ret ?_
      refine blockQ_r ?_
      refine thenQ_r ?_
      refine thenQ_r ?_
      refine blockQ_r ?_
      refine thenQ_r ?_
      obtain rfl := Option.some.inj h
      refine ⟨.inr rfl, (.cons (sv rfl) .nil)⟩
     ·
      replace h := bif_f h hc43
      refine iwp_skip ?_
      refine blockQ_n ?_
      refine thenQ_n ?_
      obtain ⟨x44, hx44, h⟩ := bnd_e h
      refine iwp_region (ils_cons rfl (mvI rfl rfl rfl rfl) <|
       ils_cons rfl (iop_intx rfl rfl (lb rfl) (svI rfl) (sv (d := .int _ 1) rfl) rfl hx44) <|
       ils_cons rfl (asI rfl rfl rfl rfl) <|
       ils_nil ?_)
      refine thenQ_n ⟨(n0, v38, x44), (fun i => i), ⟨(.sames rfl rfl), (.cons (.blk rfl rfl rfl) .nil), nd_of [0] rfl (by decide), fun _ _ => rfl⟩, ?_, ?_⟩
      exact h
      exact Nat.lt_succ_self _
   ·
    replace h := bif_f h hc34
    refine iwp_exit ?_
    refine thenQ_e ?_
    refine thenQ_e ?_
    refine blockQ_e ?_
    refine thenQ_n ?_
    obtain ⟨x48, hx48, h⟩ := bnd_e h
    refine iwp_reg (ils_cons rfl (mvI rfl rfl rfl rfl) <|
     ils_cons rfl (faR 3 rfl rfl rfl Try.underlying25 rfl ti23 (lb rfl) rfl rfl) <|
     ils_cons rfl (lrL la23 rfl rfl rfl rfl rfl (nle rfl) rfl) <|
     ils_cons rfl (iop_lenT (eInt .i64) (l := a0.Ended) rfl rfl (lb rfl) Try.underlying23 (svL rfl)) <|
     ils_cons rfl (iop_cmpx rfl rfl (lb rfl) (svI rfl) (svI rfl) rfl hx48) <|
     ils_cons rfl (asB rfl rfl rfl rfl) <|
     ils_end ?_)
    refine iwp_ret ?_
    obtain rfl := Option.some.inj h
    refine ⟨.inr rfl, (.cons (sv rfl) .nil)⟩

theorem p_sennitref34_Check (a0 : T_fold_State) (r : Int) (h : sennitref34_Check a0 = some r) : PureAt Try.prog 15 [.agg (v0 a0)] (.int .i64 r) := by
 refine pure_of_iwp (rs := [.int .i64 r]) Try.func15 rfl Try.ntmps15 (nle rfl) rfl fun O hO => ?_
 show IWP _ _ _ _ ⟨[(0, .agg (v0 a0))], []⟩ _
 unfold sennitref34_Check at h
 refine iwp_reg (ils_cons rfl (iop_box' (cs := q5) 0 rfl rfl (lb rfl) rfl (svA q5 rfl) rfl rfl) <|
  ils_cons rfl (iop_assign rfl rfl (lb rfl) (sv (d := .int _ 0) rfl)) <|
  ils_end ?_)
 obtain ⟨x1, hx1, h⟩ := bno_e h
 refine iwp_reg (ils_cons rfl (lra q5 la25 rfl rfl rfl rfl rfl (nle rfl) rfl) <|
  ils_cons rfl (iop_call (r := .agg q5) rfl rfl (lb rfl) cl32 (.cons (svA q5 rfl) .nil) rfl (p_sennitref34_tree _ _ hx1)) <|
  ils_cons rfl (iop_allocS (cs := q10) (cs' := (w14 0 0 ([] : List T_ptree_Node) ([] : List Int))) 1 rfl rfl (lb rfl) rfl ti71 rfl rfl (.k (.k (.cons (.nils _) (.cons (.nils _) .nil))))) <|
  ils_cons rfl (stA q5 q5 ti71 rfl rfl rfl rfl rfl rfl rfl rfl (nle rfl) rfl) <|
  ils_end ?_)
 refine iwp_seq ?_
 refine iwp_block ?_
 obtain ⟨x2, hx2, h⟩ := bno_e h
 refine iwp_reg (ils_cons rfl (lra q5 la25 rfl rfl rfl rfl rfl (nle rfl) rfl) <|
  ils_cons rfl (iop_call (r := .bool _) rfl rfl (lb rfl) cl44 (.cons (svA q5 rfl) .nil) rfl (p_sennitref34_numbers _ _ hx2)) <|
  ils_cons rfl (iop_not rfl rfl (lb rfl) (svB rfl)) <|
  ils_cons rfl (asB rfl rfl rfl rfl) <|
  ils_end ?_)
 refine iwp_cond (b := _) rfl (fun hc3 => ?_) (fun hc3 => ?_)
 ·
  replace h := bif_t h hc3
  refine iwp_reg (ils_cons rfl (iop_assign rfl rfl (lb rfl) (sv (d := .int _ 8) rfl)) <|
   ils_end ?_)
  refine iwp_ret ?_
  refine blockQ_r ?_
  refine thenQ_r ?_
  obtain rfl := Option.some.inj h
  refine ⟨.inr rfl, (.cons (sv rfl) .nil)⟩
 ·
  replace h := bif_f h hc3
  obtain ⟨x4, hx4, h⟩ := bnd_e h
  obtain ⟨x5, hx5, h⟩ := bnd_e h
  obtain ⟨x6, hx6, h⟩ := bnd_e h
  refine iwp_reg (ils_cons rfl (faR 2 rfl rfl rfl Try.underlying25 rfl ti22 (lb rfl) rfl rfl) <|
   ils_cons rfl (lrL la22 rfl rfl rfl rfl rfl (nle rfl) rfl) <|
   ils_cons rfl (iop_lenT E_ptree_Node (l := a0.Nodes) rfl rfl (lb rfl) Try.underlying22 (svL rfl)) <|
   ils_cons rfl (faR 0 rfl rfl rfl Try.underlying25 rfl ti3 (lb rfl) rfl rfl) <|
   ils_cons rfl (iop_load_rs (d := .int _ _) rfl rfl (lb rfl) Try.underlying3 ag3 ti3 (by decide) (svR rfl) rfl (nle rfl) rfl) <|
   ils_cons rfl (iop_cmpx rfl rfl (lb rfl) (svI rfl) (svI rfl) rfl hx4) <|
   ils_cons rfl (mvB rfl rfl rfl rfl) <|
   ils_guard rfl rfl (.one rfl) rfl (by decide) (fun hb => (faR 3 rfl rfl rfl Try.underlying25 rfl ti23 (lb rfl) rfl rfl)) <|
   ils_guard rfl rfl (.one rfl) rfl (by decide) (fun hb => (iop_load_rs (d := .slice _ _) rfl rfl (lb rfl) Try.underlying23 ag23 ti23 (by decide) (svcR rfl hb) rfl (nle rfl) rfl)) <|
   ils_guard rfl rfl (.one rfl) rfl (by decide) (fun hb => (iop_lenT (eInt .i64) (l := a0.Ended) rfl rfl (lb rfl) Try.underlying23 (svcL rfl hb))) <|
   ils_guard rfl rfl (.one rfl) rfl (by decide) (fun hb => (faR 1 rfl rfl rfl Try.underlying25 rfl ti3 (lb rfl) rfl rfl)) <|
   ils_guard rfl rfl (.one rfl) rfl (by decide) (fun hb => (iop_load_rs (d := .int _ _) rfl rfl (lb rfl) Try.underlying3 ag3 ti3 (by decide) (svcR rfl hb) rfl (nle rfl) rfl)) <|
   ils_guard rfl rfl (.one rfl) rfl (by decide) (fun hb => (iop_cmpx rfl rfl (lb rfl) (svcI rfl hb) (svcI rfl hb) rfl hx5)) <|
   ils_cons rfl (iop_orx rfl rfl (lb rfl) (svB rfl) rfl rfl hx6) <|
   ils_cons rfl (asB rfl rfl rfl rfl) <|
   ils_end ?_)
  refine iwp_cond (b := _) rfl (fun hc7 => ?_) (fun hc7 => ?_)
  ·
   replace h := bif_t h hc7
   refine iwp_reg (ils_cons rfl (iop_assign rfl rfl (lb rfl) (sv (d := .int _ 7) rfl)) <|
    ils_end ?_)
   refine iwp_ret ?_
   refine blockQ_r ?_
   refine thenQ_r ?_
   obtain rfl := Option.some.inj h
   refine ⟨.inr rfl, (.cons (sv rfl) .nil)⟩
  ·
   replace h := bif_f h hc7
   refine iwp_skip ?_
   refine blockQ_n ?_
   refine thenQ_n ?_
   refine iwp_seq ?_
   refine iwp_reg (ils_cons rfl (iop_assign rfl rfl (lb rfl) (sv (d := .int _ 1) rfl)) <|
    ils_end ?_)
   refine iwp_block ?_
   refine iwp_loopP (α := Nat × Int) (fun z => ⟨[(1, .ref 0 0), (3, .ref 1 0), (4, .int .i64 z.2)], [(0, .blk 25 (v0 a0)), (1, .blk 71 (v1 x1))]⟩) (fun z => sennitref34_Check_L0 a0 x1 z.1 z.2 = some r) (fun z => z.1) (fuel, 1) (fun i => i) ⟨(.sames rfl rfl), (.cons (.blk rfl rfl rfl) (.cons (.blk rfl rfl rfl) .nil)), nd_of [0, 1] rfl (by decide), fun _ _ => rfl⟩ ?_ ?_
   ·exact h
   ·
    rintro ⟨n0, v16⟩ h
    cases n0 with
    | zero => exact absurd h (by unfold sennitref34_Check_L0; exact nofun)
    | succ n0 =>
     unfold sennitref34_Check_L0 at h
     refine iwp_seq ?_
     obtain ⟨x25, hx25, h⟩ := bnd_e h
     refine iwp_reg (ils_cons rfl (mvI rfl rfl rfl rfl) <|
      ils_cons rfl (faR 2 rfl rfl rfl Try.underlying25 rfl ti22 (lb rfl) rfl rfl) <|
      ils_cons rfl (lrL la22 rfl rfl rfl rfl rfl (nle rfl) rfl) <|
      ils_cons rfl (iop_lenT E_ptree_Node (l := a0.Nodes) rfl rfl (lb rfl) Try.underlying22 (svL rfl)) <|
      ils_cons rfl (iop_cmpx rfl rfl (lb rfl) (svI rfl) (svI rfl) rfl hx25) <|
      ils_end ?_)
     refine iwp_cond (b := _) rfl (fun hc26 => ?_) (fun hc26 => ?_)
     ·
      replace h := bif_t h hc26
      refine iwp_skip ?_
      refine thenQ_n ?_
      refine iwp_seq ?_
      refine iwp_block ?_
      obtain ⟨x27, hx27, h⟩ := bnd_e h
      obtain ⟨x28, hx28, h⟩ := bno_e h
      obtain ⟨x29, hx29, h⟩ := bno_e h
      obtain ⟨x30, hx30, h⟩ := bnd_e h
      refine iwp_drw rfl [⟨[1], [], [(35, .ref 0 2)], []⟩,
       ⟨[35], [0], [(36, .slice false (a0.Nodes.map E_ptree_Node.d))], []⟩,
       ⟨[4], [], [(37, .int .i64 v16)], []⟩,
       ⟨[37], [], [(38, .int .i64 x27)], []⟩,
       ⟨[36, 38], [], [(39, .fptr (v3 x28))], []⟩,
       ⟨[39], [], [(40, .fptr [.int .i64 x28.ID])], []⟩,
       ⟨[40], [], [(41, .int .i64 x28.ID)], []⟩,
       ⟨[1], [], [(42, .ref 0 2)], []⟩,
       ⟨[42], [0], [(43, .slice false (a0.Nodes.map E_ptree_Node.d))], []⟩,
       ⟨[4], [], [(44, .int .i64 v16)], []⟩,
       ⟨[43, 44], [], [(45, .fptr (v3 x29))], []⟩,
       ⟨[45], [], [(46, .fptr [.int .i64 x29.ID])], []⟩,
       ⟨[46], [], [(47, .int .i64 x29.ID)], []⟩,
       ⟨[41, 47], [], [(48, .bool x30)], []⟩] rfl ?_ (by kernel_rfl) ?_
      ·refine .cons (lop rfl rfl fun S hA => (iop_fieldAddr_ref rfl rfl (lb rfl) Try.underlying25 rfl ti22 (by decide) (svaR hA rfl rfl) (off' := 2) rfl)) ?_
       refine .cons (lop rfl rfl fun S hA => (iop_load_rs (d := .slice _ _) rfl rfl (lb rfl) Try.underlying22 ag22 ti22 (by decide) (svaR hA rfl rfl) (agi hA rfl rfl) (nle rfl) rfl)) ?_
       refine .cons (lop rfl rfl fun S hA => (iop_move rfl rfl (lb rfl) (svaI hA rfl rfl))) ?_
       refine .cons (lop rfl rfl fun S hA => (iop_intx rfl rfl (lb rfl) (svaI hA rfl rfl) (sv (d := .int _ 1) rfl) rfl hx27)) ?_
       refine .cons (lop rfl rfl fun S hA => (iop_idxT E_ptree_Node (cs := q8) rfl rfl (lb rfl) Try.underlying22 ti63 (svaL hA rfl rfl) (svaI hA rfl rfl) hx28 rfl rfl)) ?_
       refine .cons (lop rfl rfl fun S hA => (iop_fieldAddr_fptr (cs' := [.int _ _]) rfl rfl (lb rfl) Try.underlying63 rfl ti3 (by decide) (sv (d := .fptr q8) (agr hA rfl rfl)) rfl)) ?_
       refine .cons (lop rfl rfl fun S hA => (iop_load_fs rfl rfl (lb rfl) Try.underlying3 ag3 ti3 (by decide) (sv (d := .fptr [.int _ _]) (agr hA rfl rfl)) (nle rfl))) ?_
       refine .cons (lop rfl rfl fun S hA => (iop_fieldAddr_ref rfl rfl (lb rfl) Try.underlying25 rfl ti22 (by decide) (svaR hA rfl rfl) (off' := 2) rfl)) ?_
       refine .cons (lop rfl rfl fun S hA => (iop_load_rs (d := .slice _ _) rfl rfl (lb rfl) Try.underlying22 ag22 ti22 (by decide) (svaR hA rfl rfl) (agi hA rfl rfl) (nle rfl) rfl)) ?_
       refine .cons (lop rfl rfl fun S hA => (iop_move rfl rfl (lb rfl) (svaI hA rfl rfl))) ?_
       refine .cons (lop rfl rfl fun S hA => (iop_idxT E_ptree_Node (cs := q8) rfl rfl (lb rfl) Try.underlying22 ti63 (svaL hA rfl rfl) (svaI hA rfl rfl) hx29 rfl rfl)) ?_
       refine .cons (lop rfl rfl fun S hA => (iop_fieldAddr_fptr (cs' := [.int _ _]) rfl rfl (lb rfl) Try.underlying63 rfl ti3 (by decide) (sv (d := .fptr q8) (agr hA rfl rfl)) rfl)) ?_
       refine .cons (lop rfl rfl fun S hA => (iop_load_fs rfl rfl (lb rfl) Try.underlying3 ag3 ti3 (by decide) (sv (d := .fptr [.int _ _]) (agr hA rfl rfl)) (nle rfl))) ?_
       refine .cons (lop rfl rfl fun S hA => (iop_cmpx rfl rfl (lb rfl) (svaI hA rfl rfl) (svaI hA rfl rfl) rfl hx30)) ?_
       exact .nil
      refine iwp_cond (b := _) rfl (fun hc31 => ?_) (fun hc31 => ?_)
      ·
       replace h := bif_t h hc31
       refine iwp_reg (ils_cons rfl (iop_assign rfl rfl (lb rfl) (sv (d := .int _ 10) rfl)) <|
        ils_end ?_)
       refine iwp_ret ?_
       refine blockQ_r ?_
       refine thenQ_r ?_
       refine thenQ_r ?_
       refine blockQ_r ?_
       refine thenQ_r ?_
       obtain rfl := Option.some.inj h
       refine ⟨.inr rfl, (.cons (sv rfl) .nil)⟩
      ·
       replace h := bif_f h hc31
       refine iwp_skip ?_
       refine blockQ_n ?_
       refine thenQ_n ?_
       obtain ⟨x32, hx32, h⟩ := bnd_e h
       refine iwp_region (ils_cons rfl (mvI rfl rfl rfl rfl) <|
        ils_cons rfl (iop_intx rfl rfl (lb rfl) (svI rfl) (sv (d := .int _ 1) rfl) rfl hx32) <|
        ils_cons rfl (asI rfl rfl rfl rfl) <|
        ils_nil ?_)
       refine thenQ_n ⟨(n0, x32), (fun i => i), ⟨(.sames rfl rfl), (.cons (.blk rfl rfl rfl) (.cons (.blk rfl rfl rfl) .nil)), nd_of [0, 1] rfl (by decide), fun _ _ => rfl⟩, ?_, ?_⟩
       exact h
       exact Nat.lt_succ_self _
     ·
      replace h := bif_f h hc26
      refine iwp_exit ?_
      refine thenQ_e ?_
      refine thenQ_e ?_
      refine blockQ_e ?_
      refine thenQ_n ?_
      refine iwp_seq ?_
      refine iwp_reg (ils_cons rfl (iop_assign rfl rfl (lb rfl) (sv (d := .int _ 0) rfl)) <|
       ils_end ?_)
      refine iwp_block ?_
      refine iwp_loopP (α := Nat × Int) (fun z => ⟨[(1, .ref 0 0), (3, .ref 1 0), (5, .int .i64 z.2)], [(0, .blk 25 (v0 a0)), (1, .blk 71 (v1 x1))]⟩) (fun z => sennitref34_Check_L1 a0 x1 z.1 z.2 = some r) (fun z => z.1) (fuel, 0) (fun i => i) ⟨(.sames rfl rfl), (.cons (.blk rfl rfl rfl) (.cons (.blk rfl rfl rfl) .nil)), nd_of [0, 1] rfl (by decide), fun _ _ => rfl⟩ ?_ ?_
      ·exact h
      ·
       rintro ⟨n1, v43⟩ h
       cases n1 with
       | zero => exact absurd h (by unfold sennitref34_Check_L1; exact nofun)
       | succ n1 =>
        unfold sennitref34_Check_L1 at h
        refine iwp_seq ?_
        obtain ⟨x54, hx54, h⟩ := bnd_e h
        refine iwp_reg (ils_cons rfl (mvI rfl rfl rfl rfl) <|
         ils_cons rfl (faR 2 rfl rfl rfl Try.underlying25 rfl ti22 (lb rfl) rfl rfl) <|
         ils_cons rfl (lrL la22 rfl rfl rfl rfl rfl (nle rfl) rfl) <|
         ils_cons rfl (iop_lenT E_ptree_Node (l := a0.Nodes) rfl rfl (lb rfl) Try.underlying22 (svL rfl)) <|
         ils_cons rfl (iop_cmpx rfl rfl (lb rfl) (svI rfl) (svI rfl) rfl hx54) <|
         ils_end ?_)
        refine iwp_cond (b := _) rfl (fun hc55 => ?_) (fun hc55 => ?_)
        ·
         replace h := bif_t h hc55
         refine iwp_skip ?_
         refine thenQ_n ?_
         refine iwp_seq ?_
         refine iwp_block ?_
         obtain ⟨x56, hx56, h⟩ := bno_e h
         obtain ⟨x57, hx57, h⟩ := bnd_e h
         obtain ⟨x58, hx58, h⟩ := bno_e h
         obtain ⟨x59, hx59, h⟩ := bno_e h
         obtain ⟨x60, hx60, h⟩ := bnd_e h
         obtain ⟨x61, hx61, h⟩ := bnd_e h
         refine iwp_drw rfl [⟨[1], [], [(56, .ref 0 2)], []⟩,
          ⟨[56], [0], [(57, .slice false (a0.Nodes.map E_ptree_Node.d))], []⟩,
          ⟨[5], [], [(58, .int .i64 v43)], []⟩,
          ⟨[57, 58], [], [(59, .fptr (v3 x56))], []⟩,
          ⟨[59], [], [(60, .fptr [.int .i64 x56.Parent])], []⟩,
          ⟨[60], [], [(61, .int .i64 x56.Parent)], []⟩,
          ⟨[61], [], [(62, .bool x57)], []⟩,
          ⟨[62], [], [(63, .bool x57)], []⟩,
          ⟨[3, 63], [1], [(64, .cnd (x57 == true) (.agg (v1 x1)))], []⟩,
          ⟨[1, 63], [], [(65, .cnd (x57 == true) (.ref 0 2))], []⟩,
          ⟨[63, 65], [0], [(66, .cnd (x57 == true) (.slice false (a0.Nodes.map E_ptree_Node.d)))], []⟩,
          ⟨[5, 63], [], [(67, .cnd (x57 == true) (.int .i64 v43))], []⟩,
          ⟨[63, 66, 67], [], [(68, .cnd (x57 == true) (.fptr (v3 x58)))], []⟩,
          ⟨[63, 68], [], [(69, .cnd (x57 == true) (.fptr [.int .i64 x58.Parent]))], []⟩,
          ⟨[63, 69], [], [(70, .cnd (x57 == true) (.int .i64 x58.Parent))], []⟩,
          ⟨[63, 64, 70], [], [(71, .cnd (x57 == true) (.int .i64 x59))], []⟩,
          ⟨[63, 71], [], [(72, .cnd (x57 == true) (.bool x60))], []⟩,
          ⟨[63, 72], [], [(73, .bool x61)], []⟩] rfl ?_ (by kernel_rfl) ?_
         ·refine .cons (lop rfl rfl fun S hA => (iop_fieldAddr_ref rfl rfl (lb rfl) Try.underlying25 rfl ti22 (by decide) (svaR hA rfl rfl) (off' := 2) rfl)) ?_
          refine .cons (lop rfl rfl fun S hA => (iop_load_rs (d := .slice _ _) rfl rfl (lb rfl) Try.underlying22 ag22 ti22 (by decide) (svaR hA rfl rfl) (agi hA rfl rfl) (nle rfl) rfl)) ?_
          refine .cons (lop rfl rfl fun S hA => (iop_move rfl rfl (lb rfl) (svaI hA rfl rfl))) ?_
          refine .cons (lop rfl rfl fun S hA => (iop_idxT E_ptree_Node (cs := q8) rfl rfl (lb rfl) Try.underlying22 ti63 (svaL hA rfl rfl) (svaI hA rfl rfl) hx56 rfl rfl)) ?_
          refine .cons (lop rfl rfl fun S hA => (iop_fieldAddr_fptr (cs' := [.int _ _]) rfl rfl (lb rfl) Try.underlying63 rfl ti3 (by decide) (sv (d := .fptr q8) (agr hA rfl rfl)) rfl)) ?_
          refine .cons (lop rfl rfl fun S hA => (iop_load_fs rfl rfl (lb rfl) Try.underlying3 ag3 ti3 (by decide) (sv (d := .fptr [.int _ _]) (agr hA rfl rfl)) (nle rfl))) ?_
          refine .cons (lop rfl rfl fun S hA => (iop_cmpx rfl rfl (lb rfl) (svaI hA rfl rfl) (sv (d := .int _ 0) rfl) rfl hx57)) ?_
          refine .cons (lop rfl rfl fun S hA => (iop_move rfl rfl (lb rfl) (svaB hA rfl rfl))) ?_
          refine .cons (lopg rfl rfl rfl rfl (by decide) (fun S hA => grd1 hA rfl rfl) (fun S hA hb => (iop_load_ra (cs := q5) rfl rfl (lb rfl) Try.underlying71 ag71 ti71 (by decide) (svaR hA rfl rfl) (agi hA rfl rfl) (nle rfl) rfl))) ?_
          refine .cons (lopg rfl rfl rfl rfl (by decide) (fun S hA => grd1 hA rfl rfl) (fun S hA hb => (iop_fieldAddr_ref rfl rfl (lb rfl) Try.underlying25 rfl ti22 (by decide) (svaR hA rfl rfl) (off' := 2) rfl))) ?_
          refine .cons (lopg rfl rfl rfl rfl (by decide) (fun S hA => grd1 hA rfl rfl) (fun S hA hb => (iop_load_rs (d := .slice _ _) rfl rfl (lb rfl) Try.underlying22 ag22 ti22 (by decide) (svc (d := .ref _ _) (agr hA rfl rfl) hb) (agi hA rfl rfl) (nle rfl) rfl))) ?_
          refine .cons (lopg rfl rfl rfl rfl (by decide) (fun S hA => grd1 hA rfl rfl) (fun S hA hb => (iop_move rfl rfl (lb rfl) (svaI hA rfl rfl)))) ?_
          refine .cons (lopg rfl rfl rfl rfl (by decide) (fun S hA => grd1 hA rfl rfl) (fun S hA hb => (iop_idxT E_ptree_Node (cs := q8) rfl rfl (lb rfl) Try.underlying22 ti63 (svc (d := .slice _ _) (agr hA rfl rfl) hb) (svc (d := .int _ _) (agr hA rfl rfl) hb) (gd_t hx58 hb) rfl rfl))) ?_
          refine .cons (lopg rfl rfl rfl rfl (by decide) (fun S hA => grd1 hA rfl rfl) (fun S hA hb => (iop_fieldAddr_fptr (cs' := [.int _ _]) rfl rfl (lb rfl) Try.underlying63 rfl ti3 (by decide) (svc (d := .fptr q8) (agr hA rfl rfl) hb) rfl))) ?_
          refine .cons (lopg rfl rfl rfl rfl (by decide) (fun S hA => grd1 hA rfl rfl) (fun S hA hb => (iop_load_fs rfl rfl (lb rfl) Try.underlying3 ag3 ti3 (by decide) (svc (d := .fptr [.int _ _]) (agr hA rfl rfl) hb) (nle rfl)))) ?_
          refine .cons (lopg rfl rfl rfl rfl (by decide) (fun S hA => grd1 hA rfl rfl) (fun S hA hb => (iop_call (r := .int _ _) rfl rfl (lb rfl) cl45 (.cons (svc (d := .agg (v1 x1)) (agr hA rfl rfl) hb) (.cons (svc (d := .int _ _) (agr hA rfl rfl) hb) .nil)) rfl (p_sennitref19_Tree_Place _ _ _ (gd_t hx59 hb))))) ?_
          refine .cons (lopg rfl rfl rfl rfl (by decide) (fun S hA => grd1 hA rfl rfl) (fun S hA hb => (iop_cmpx rfl rfl (lb rfl) (svc (d := .int _ _) (agr hA rfl rfl) hb) (sv (d := .int _ 0) rfl) rfl hx60))) ?_
          refine .cons (lop rfl rfl fun S hA => (iop_andx rfl rfl (lb rfl) (svaB hA rfl rfl) (agr hA rfl rfl) rfl hx61)) ?_
          exact .nil
         refine iwp_cond (b := _) rfl (fun hc62 => ?_) (fun hc62 => ?_)
         ·
          replace h := bif_t h hc62
          refine iwp_reg (ils_cons rfl (iop_assign rfl rfl (lb rfl) (sv (d := .int _ 6) rfl)) <|
           ils_end ?_)
          refine iwp_ret ?_
          refine blockQ_r ?_
          refine thenQ_r ?_
          refine thenQ_r ?_
          refine blockQ_r ?_
          refine thenQ_r ?_
          obtain rfl := Option.some.inj h
          refine ⟨.inr rfl, (.cons (sv rfl) .nil)⟩
         ·
          replace h := bif_f h hc62
          refine iwp_skip ?_
          refine blockQ_n ?_
          refine thenQ_n ?_
          obtain ⟨x63, hx63, h⟩ := bnd_e h
          refine iwp_region (ils_cons rfl (mvI rfl rfl rfl rfl) <|
           ils_cons rfl (iop_intx rfl rfl (lb rfl) (svI rfl) (sv (d := .int _ 1) rfl) rfl hx63) <|
           ils_cons rfl (asI rfl rfl rfl rfl) <|
           ils_nil ?_)
          refine thenQ_n ⟨(n1, x63), (fun i => i), ⟨(.sames rfl rfl), (.cons (.blk rfl rfl rfl) (.cons (.blk rfl rfl rfl) .nil)), nd_of [0, 1] rfl (by decide), fun _ _ => rfl⟩, ?_, ?_⟩
          exact h
          exact Nat.lt_succ_self _
        ·
         replace h := bif_f h hc55
         refine iwp_exit ?_
         refine thenQ_e ?_
         refine thenQ_e ?_
         refine blockQ_e ?_
         refine thenQ_n ?_
         refine iwp_seq ?_
         refine iwp_reg (ils_cons rfl (iop_assign rfl rfl (lb rfl) (sv (d := .int _ 0) rfl)) <|
          ils_end ?_)
         refine iwp_block ?_
         refine iwp_loopP (α := Nat × Int) (fun z => ⟨[(1, .ref 0 0), (3, .ref 1 0), (6, .int .i64 z.2)], [(0, .blk 25 (v0 a0)), (1, .blk 71 (v1 x1))]⟩) (fun z => sennitref34_Check_L2 a0 x1 z.1 z.2 = some r) (fun z => z.1) (fuel, 0) (fun i => i) ⟨(.sames rfl rfl), (.cons (.blk rfl rfl rfl) (.cons (.blk rfl rfl rfl) .nil)), nd_of [0, 1] rfl (by decide), fun _ _ => rfl⟩ ?_ ?_
         ·exact h
         ·
          rintro ⟨n2, v72⟩ h
          cases n2 with
          | zero => exact absurd h (by unfold sennitref34_Check_L2; exact nofun)
          | succ n2 =>
           unfold sennitref34_Check_L2 at h
           refine iwp_seq ?_
           obtain ⟨x81, hx81, h⟩ := bnd_e h
           refine iwp_reg (ils_cons rfl (mvI rfl rfl rfl rfl) <|
            ils_cons rfl (faR 2 rfl rfl rfl Try.underlying25 rfl ti22 (lb rfl) rfl rfl) <|
            ils_cons rfl (lrL la22 rfl rfl rfl rfl rfl (nle rfl) rfl) <|
            ils_cons rfl (iop_lenT E_ptree_Node (l := a0.Nodes) rfl rfl (lb rfl) Try.underlying22 (svL rfl)) <|
            ils_cons rfl (iop_cmpx rfl rfl (lb rfl) (svI rfl) (svI rfl) rfl hx81) <|
            ils_end ?_)
           refine iwp_cond (b := _) rfl (fun hc82 => ?_) (fun hc82 => ?_)
           ·
            replace h := bif_t h hc82
            refine iwp_skip ?_
            refine thenQ_n ?_
            refine iwp_seq ?_
            refine iwp_block ?_
            obtain ⟨x83, hx83, h⟩ := bno_e h
            obtain ⟨x84, hx84, h⟩ := bno_e h
            obtain ⟨x85, hx85, h⟩ := bno_e h
            obtain ⟨x86, hx86, h⟩ := bno_e h
            refine iwp_drw rfl [⟨[3], [1], [(81, .agg (v1 x1))], []⟩,
             ⟨[1], [], [(82, .ref 0 2)], []⟩,
             ⟨[82], [0], [(83, .slice false (a0.Nodes.map E_ptree_Node.d))], []⟩,
             ⟨[6], [], [(84, .int .i64 v72)], []⟩,
             ⟨[83, 84], [], [(85, .fptr (v3 x83))], []⟩,
             ⟨[85], [], [(86, .fptr [.int .i64 x83.ID])], []⟩,
             ⟨[86], [], [(87, .int .i64 x83.ID)], []⟩,
             ⟨[81, 87], [], [(88, .slice false (x84.map (eInt .i64).d))], []⟩,
             ⟨[1], [], [(89, .ref 0 2)], []⟩,
             ⟨[89], [0], [(90, .slice false (a0.Nodes.map E_ptree_Node.d))], []⟩,
             ⟨[6], [], [(91, .int .i64 v72)], []⟩,
             ⟨[90, 91], [], [(92, .fptr (v3 x85))], []⟩,
             ⟨[92], [], [(93, .fptr [.int .i64 x85.ID])], []⟩,
             ⟨[93], [], [(94, .int .i64 x85.ID)], []⟩,
             ⟨[88, 94], [], [(95, .bool x86)], []⟩] rfl ?_ (by kernel_rfl) ?_
            ·refine .cons (lop rfl rfl fun S hA => (iop_load_ra (cs := q5) rfl rfl (lb rfl) Try.underlying71 ag71 ti71 (by decide) (svaR hA rfl rfl) (agi hA rfl rfl) (nle rfl) rfl)) ?_
             refine .cons (lop rfl rfl fun S hA => (iop_fieldAddr_ref rfl rfl (lb rfl) Try.underlying25 rfl ti22 (by decide) (svaR hA rfl rfl) (off' := 2) rfl)) ?_
             refine .cons (lop rfl rfl fun S hA => (iop_load_rs (d := .slice _ _) rfl rfl (lb rfl) Try.underlying22 ag22 ti22 (by decide) (svaR hA rfl rfl) (agi hA rfl rfl) (nle rfl) rfl)) ?_
             refine .cons (lop rfl rfl fun S hA => (iop_move rfl rfl (lb rfl) (svaI hA rfl rfl))) ?_
             refine .cons (lop rfl rfl fun S hA => (iop_idxT E_ptree_Node (cs := q8) rfl rfl (lb rfl) Try.underlying22 ti63 (svaL hA rfl rfl) (svaI hA rfl rfl) hx83 rfl rfl)) ?_
             refine .cons (lop rfl rfl fun S hA => (iop_fieldAddr_fptr (cs' := [.int _ _]) rfl rfl (lb rfl) Try.underlying63 rfl ti3 (by decide) (sv (d := .fptr q8) (agr hA rfl rfl)) rfl)) ?_
             refine .cons (lop rfl rfl fun S hA => (iop_load_fs rfl rfl (lb rfl) Try.underlying3 ag3 ti3 (by decide) (sv (d := .fptr [.int _ _]) (agr hA rfl rfl)) (nle rfl))) ?_
             refine .cons (lop rfl rfl fun S hA => (iop_call (r := .slice _ _) rfl rfl (lb rfl) cl47 (.cons (svaA q5 hA rfl rfl) (.cons (svaI hA rfl rfl) .nil)) rfl (p_sennitref19_Tree_Path _ _ _ hx84))) ?_
             refine .cons (lop rfl rfl fun S hA => (iop_fieldAddr_ref rfl rfl (lb rfl) Try.underlying25 rfl ti22 (by decide) (svaR hA rfl rfl) (off' := 2) rfl)) ?_
             refine .cons (lop rfl rfl fun S hA => (iop_load_rs (d := .slice _ _) rfl rfl (lb rfl) Try.underlying22 ag22 ti22 (by decide) (svaR hA rfl rfl) (agi hA rfl rfl) (nle rfl) rfl)) ?_
             refine .cons (lop rfl rfl fun S hA => (iop_move rfl rfl (lb rfl) (svaI hA rfl rfl))) ?_
             refine .cons (lop rfl rfl fun S hA => (iop_idxT E_ptree_Node (cs := q8) rfl rfl (lb rfl) Try.underlying22 ti63 (svaL hA rfl rfl) (svaI hA rfl rfl) hx85 rfl rfl)) ?_
             refine .cons (lop rfl rfl fun S hA => (iop_fieldAddr_fptr (cs' := [.int _ _]) rfl rfl (lb rfl) Try.underlying63 rfl ti3 (by decide) (sv (d := .fptr q8) (agr hA rfl rfl)) rfl)) ?_
             refine .cons (lop rfl rfl fun S hA => (iop_load_fs rfl rfl (lb rfl) Try.underlying3 ag3 ti3 (by decide) (sv (d := .fptr [.int _ _]) (agr hA rfl rfl)) (nle rfl))) ?_
             refine .cons (lop rfl rfl fun S hA => (iop_call (r := .bool _) rfl rfl (lb rfl) cl46 (.cons (svaL hA rfl rfl) (.cons (svaI hA rfl rfl) .nil)) rfl (p_sennitref19_In _ _ _ hx86))) ?_
             exact .nil
            refine iwp_cond (b := _) rfl (fun hc87 => ?_) (fun hc87 => ?_)
            ·
             replace h := bif_t h hc87
             refine iwp_reg (ils_cons rfl (iop_assign rfl rfl (lb rfl) (sv (d := .int _ 4) rfl)) <|
              ils_end ?_)
             refine iwp_ret ?_
             refine blockQ_r ?_
             refine thenQ_r ?_
             refine thenQ_r ?_
             refine blockQ_r ?_
             refine thenQ_r ?_
             obtain rfl := Option.some.inj h
             refine ⟨.inr rfl, (.cons (sv rfl) .nil)⟩
            ·
             replace h := bif_f h hc87
             refine iwp_skip ?_
             refine blockQ_n ?_
             refine thenQ_n ?_
             obtain ⟨x88, hx88, h⟩ := bnd_e h
             refine iwp_region (ils_cons rfl (mvI rfl rfl rfl rfl) <|
              ils_cons rfl (iop_intx rfl rfl (lb rfl) (svI rfl) (sv (d := .int _ 1) rfl) rfl hx88) <|
              ils_cons rfl (asI rfl rfl rfl rfl) <|
              ils_nil ?_)
             refine thenQ_n ⟨(n2, x88), (fun i => i), ⟨(.sames rfl rfl), (.cons (.blk rfl rfl rfl) (.cons (.blk rfl rfl rfl) .nil)), nd_of [0, 1] rfl (by decide), fun _ _ => rfl⟩, ?_, ?_⟩
             exact h
             exact Nat.lt_succ_self _
           ·
            replace h := bif_f h hc82
            refine iwp_exit ?_
            refine thenQ_e ?_
            refine thenQ_e ?_
            refine blockQ_e ?_
            refine thenQ_n ?_
            refine iwp_seq ?_
            obtain ⟨x89, hx89, h⟩ := bno_e h
            refine iwp_reg (ils_cons rfl (lra q5 la25 rfl rfl rfl rfl rfl (nle rfl) rfl) <|
             ils_cons rfl (iop_call (r := .bool _) rfl rfl (lb rfl) cl48 (.cons (svA q5 rfl) .nil) rfl (p_sennitref34_closed _ _ hx89)) <|
             ils_cons rfl (iop_not rfl rfl (lb rfl) (svB rfl)) <|
             ils_end ?_)
            refine iwp_cond (b := _) rfl (fun hc90 => ?_) (fun hc90 => ?_)
            ·
             replace h := bif_t h hc90
             refine iwp_reg (ils_cons rfl (iop_assign rfl rfl (lb rfl) (sv (d := .int _ 9) rfl)) <|
              ils_end ?_)
             refine iwp_ret ?_
             refine thenQ_r ?_
             obtain rfl := Option.some.inj h
             refine ⟨.inr rfl, (.cons (sv rfl) .nil)⟩
            ·
             replace h := bif_f h hc90
             refine iwp_skip ?_
             refine thenQ_n ?_
             refine iwp_reg (ils_cons rfl (iop_assign rfl rfl (lb rfl) (sv (d := .int _ 0) rfl)) <|
              ils_end ?_)
             refine iwp_ret ?_
             obtain rfl := Option.some.inj h
             refine ⟨.inr rfl, (.cons (sv rfl) .nil)⟩

theorem p_sennitref34_there (a0 : T_fold_State) (a1 : Int) (r : Bool) (h : sennitref34_there a0 a1 = some r) : PureAt Try.prog 53 [.agg (v0 a0), .int .i64 a1] (.bool r) := by
 refine pure_of_iwp (rs := [.bool r]) Try.func53 rfl Try.ntmps53 (nle rfl) rfl fun O hO => ?_
 show IWP _ _ _ _ ⟨[(0, .agg (v0 a0)), (1, .int .i64 a1)], []⟩ _
 unfold sennitref34_there at h
 refine iwp_reg (ils_cons rfl (iop_box' (cs := q5) 0 rfl rfl (lb rfl) rfl (svA q5 rfl) rfl rfl) <|
  ils_cons rfl (iop_assign rfl rfl (lb rfl) (sv (d := .bool false) rfl)) <|
  ils_end ?_)
 obtain ⟨x1, hx1, h⟩ := bno_e h
 obtain ⟨x2, hx2, h⟩ := bnd_e h
 obtain ⟨x3, hx3, h⟩ := bno_e h
 obtain ⟨x4, hx4, h⟩ := bno_e h
 obtain ⟨x5, hx5, h⟩ := bnd_e h
 obtain ⟨x6, hx6, h⟩ := bnd_e h
 refine iwp_reg (ils_cons rfl (lra q5 la25 rfl rfl rfl rfl rfl (nle rfl) rfl) <|
  ils_cons rfl (iop_call (r := .int _ _) rfl rfl (lb rfl) cl15 (.cons (svA q5 rfl) .nil) rfl (p_sennitref34_Check _ _ hx1)) <|
  ils_cons rfl (iop_cmpx rfl rfl (lb rfl) (svI rfl) (sv (d := .int _ 0) rfl) rfl hx2) <|
  ils_cons rfl (mvB rfl rfl rfl rfl) <|
  ils_guard rfl rfl (.one rfl) rfl (by decide) (fun hb => (lra q5 la25 rfl rfl rfl rfl rfl (nle rfl) rfl)) <|
  ils_guard rfl rfl (.one rfl) rfl (by decide) (fun hb => (iop_call (r := .agg q5) rfl rfl (lb rfl) cl32 (.cons (svcA (v0 a0) rfl hb) .nil) rfl (p_sennitref34_tree _ _ (gd_t hx3 hb)))) <|
  ils_guard rfl rfl (.one rfl) rfl (by decide) (fun hb => (mvI rfl rfl rfl rfl)) <|
  ils_guard rfl rfl (.one rfl) rfl (by decide) (fun hb => (iop_call (r := .int _ _) rfl rfl (lb rfl) cl45 (.cons (svcA (v1 x3) rfl hb) (.cons (svcI rfl hb) .nil)) rfl (p_sennitref19_Tree_Place _ _ _ (gd_t hx4 hb)))) <|
  ils_guard rfl rfl (.one rfl) rfl (by decide) (fun hb => (iop_cmpx rfl rfl (lb rfl) (svcI rfl hb) (sv (d := .int _ 0) rfl) rfl hx5)) <|
  ils_cons rfl (iop_andx rfl rfl (lb rfl) (svB rfl) rfl rfl hx6) <|
  ils_cons rfl (asB rfl rfl rfl rfl) <|
  ils_end ?_)
 refine iwp_ret ?_
 obtain rfl := Option.some.inj h
 refine ⟨.inr rfl, (.cons (sv rfl) .nil)⟩

theorem p_sennitref34_Depth (a0 : T_fold_State) (a1 : Int) (r : Int) (h : sennitref34_Depth a0 a1 = some r) : PureAt Try.prog 18 [.agg (v0 a0), .int .i64 a1] (.int .i64 r) := by
 refine pure_of_iwp (rs := [.int .i64 r]) Try.func18 rfl Try.ntmps18 (nle rfl) rfl fun O hO => ?_
 show IWP _ _ _ _ ⟨[(0, .agg (v0 a0)), (1, .int .i64 a1)], []⟩ _
 unfold sennitref34_Depth at h
 refine iwp_reg (ils_cons rfl (iop_box' (cs := q5) 0 rfl rfl (lb rfl) rfl (svA q5 rfl) rfl rfl) <|
  ils_cons rfl (iop_assign rfl rfl (lb rfl) (sv (d := .int _ 0) rfl)) <|
  ils_end ?_)
 refine iwp_seq ?_
 obtain ⟨x1, hx1, h⟩ := bno_e h
 refine iwp_reg (ils_cons rfl (lra q5 la25 rfl rfl rfl rfl rfl (nle rfl) rfl) <|
  ils_cons rfl (mvI rfl rfl rfl rfl) <|
  ils_cons rfl (iop_call (r := .bool _) rfl rfl (lb rfl) cl53 (.cons (svA q5 rfl) (.cons (svI rfl) .nil)) rfl (p_sennitref34_there _ _ _ hx1)) <|
  ils_cons rfl (iop_not rfl rfl (lb rfl) (svB rfl)) <|
  ils_end ?_)
 refine iwp_cond (b := _) rfl (fun hc2 => ?_) (fun hc2 => ?_)
 ·
  replace h := bif_t h hc2
  refine iwp_reg (ils_cons rfl (iop_assign rfl rfl (lb rfl) (sv (d := .int _ 0) rfl)) <|
   ils_end ?_)
  refine iwp_ret ?_
  refine thenQ_r ?_
  obtain rfl := Option.some.inj h
  refine ⟨.inr rfl, (.cons (sv rfl) .nil)⟩
 ·
  replace h := bif_f h hc2
  refine iwp_skip ?_
  refine thenQ_n ?_
  obtain ⟨x3, hx3, h⟩ := bno_e h
  obtain ⟨x4, hx4, h⟩ := bno_e h
  obtain ⟨x5, hx5, h⟩ := bnd_e h
  refine iwp_reg (ils_cons rfl (lra q5 la25 rfl rfl rfl rfl rfl (nle rfl) rfl) <|
   ils_cons rfl (iop_call (r := .agg q5) rfl rfl (lb rfl) cl32 (.cons (svA q5 rfl) .nil) rfl (p_sennitref34_tree _ _ hx3)) <|
   ils_cons rfl (mvI rfl rfl rfl rfl) <|
   ils_cons rfl (iop_call (r := .slice _ _) rfl rfl (lb rfl) cl47 (.cons (svA q5 rfl) (.cons (svI rfl) .nil)) rfl (p_sennitref19_Tree_Path _ _ _ hx4)) <|
   ils_cons rfl (iop_lenT (eInt .i64) (l := x4) rfl rfl (lb rfl) Try.underlying23 (svL rfl)) <|
   ils_cons rfl (iop_intx rfl rfl (lb rfl) (svI rfl) (sv (d := .int _ 1) rfl) rfl hx5) <|
   ils_cons rfl (asI rfl rfl rfl rfl) <|
   ils_end ?_)
  refine iwp_ret ?_
  obtain rfl := Option.some.inj h
  refine ⟨.inr rfl, (.cons (sv rfl) .nil)⟩

theorem p_sennitref34_line (a0 : T_fold_State) (a1 : Int) (r : (List Int)) (h : sennitref34_line a0 a1 = some r) : PureAt Try.prog 55 [.agg (v0 a0), .int .i64 a1] (.slice false (r.map (eInt .i64).d)) := by
 refine pure_of_iwp (rs := [.slice false (r.map (eInt .i64).d)]) Try.func55 rfl Try.ntmps55 (nle rfl) rfl fun O hO => ?_
 show IWP _ _ _ _ ⟨[(0, .agg (v0 a0)), (1, .int .i64 a1)], []⟩ _
 unfold sennitref34_line at h
 refine iwp_reg (ils_cons rfl (iop_box' (cs := q5) 0 rfl rfl (lb rfl) rfl (svA q5 rfl) rfl rfl) <|
  ils_cons rfl (iop_assign rfl rfl (lb rfl) (sv (d := .nils) rfl)) <|
  ils_end ?_)
 obtain ⟨x1, hx1, h⟩ := bno_e h
 obtain ⟨x2, hx2, h⟩ := bno_e h
 obtain ⟨x3, hx3, h⟩ := bno_e h
 refine iwp_reg (ils_cons rfl (mvI rfl rfl rfl rfl) <|
  ils_cons rfl (iop_bsT (eInt .i64) ([a1] : (List Int)) 1 rfl rfl (lb rfl) Try.underlying23 ti3 rfl (.cons (svI rfl) .nil) rfl rfl (by decide)) <|
  ils_cons rfl (lra q5 la25 rfl rfl rfl rfl rfl (nle rfl) rfl) <|
  ils_cons rfl (iop_call (r := .agg q5) rfl rfl (lb rfl) cl32 (.cons (svA q5 rfl) .nil) rfl (p_sennitref34_tree _ _ hx1)) <|
  ils_cons rfl (mvI rfl rfl rfl rfl) <|
  ils_cons rfl (iop_call (r := .slice _ _) rfl rfl (lb rfl) cl47 (.cons (svA q5 rfl) (.cons (svI rfl) .nil)) rfl (p_sennitref19_Tree_Path _ _ _ hx2)) <|
  ils_cons rfl (iop_appT (eInt .i64) 2 rfl rfl (lb rfl) Try.underlying23 ti3 rfl rfl rfl rfl (svL rfl) hx3) <|
  ils_cons rfl (iop_assign rfl rfl (lb rfl) (sv (d := .gsl _ _ _) rfl)) <|
  ils_end ?_)
 refine iwp_ret ?_
 obtain rfl := Option.some.inj h
 refine ⟨.inr rfl, (.cons (svg_of rfl rfl) .nil)⟩

theorem p_sennitref34_Meet (a0 : T_fold_State) (a1 : Int) (a2 : Int) (r : Int) (h : sennitref34_Meet a0 a1 a2 = some r) : PureAt Try.prog 20 [.agg (v0 a0), .int .i64 a1, .int .i64 a2] (.int .i64 r) := by
 refine pure_of_iwp (rs := [.int .i64 r]) Try.func20 rfl Try.ntmps20 (nle rfl) rfl fun O hO => ?_
 show IWP _ _ _ _ ⟨[(0, .agg (v0 a0)), (1, .int .i64 a1), (2, .int .i64 a2)], []⟩ _
 unfold sennitref34_Meet at h
 refine iwp_reg (ils_cons rfl (iop_box' (cs := q5) 0 rfl rfl (lb rfl) rfl (svA q5 rfl) rfl rfl) <|
  ils_cons rfl (iop_assign rfl rfl (lb rfl) (sv (d := .int _ 0) rfl)) <|
  ils_end ?_)
 refine iwp_seq ?_
 obtain ⟨x1, hx1, h⟩ := bno_e h
 obtain ⟨x2, hx2, h⟩ := bno_e h
 obtain ⟨x3, hx3, h⟩ := bnd_e h
 refine iwp_reg (ils_cons rfl (lra q5 la25 rfl rfl rfl rfl rfl (nle rfl) rfl) <|
  ils_cons rfl (mvI rfl rfl rfl rfl) <|
  ils_cons rfl (iop_call (r := .bool _) rfl rfl (lb rfl) cl53 (.cons (svA q5 rfl) (.cons (svI rfl) .nil)) rfl (p_sennitref34_there _ _ _ hx1)) <|
  ils_cons rfl (iop_not rfl rfl (lb rfl) (svB rfl)) <|
  ils_cons rfl (mvB rfl rfl rfl rfl) <|
  ils_guard rfl rfl (.one rfl) rfl (by decide) (fun hb => (lra q5 la25 rfl rfl rfl rfl rfl (nle rfl) rfl)) <|
  ils_guard rfl rfl (.one rfl) rfl (by decide) (fun hb => (mvI rfl rfl rfl rfl)) <|
  ils_guard rfl rfl (.one rfl) rfl (by decide) (fun hb => (iop_call (r := .bool _) rfl rfl (lb rfl) cl53 (.cons (svcA (v0 a0) rfl hb) (.cons (svcI rfl hb) .nil)) rfl (p_sennitref34_there _ _ _ (gd_t hx2 hb)))) <|
  ils_guard rfl rfl (.one rfl) rfl (by decide) (fun hb => (iop_not rfl rfl (lb rfl) (svcB rfl hb))) <|
  ils_cons rfl (iop_orx rfl rfl (lb rfl) (svB rfl) rfl rfl hx3) <|
  ils_end ?_)
 refine iwp_cond (b := _) rfl (fun hc4 => ?_) (fun hc4 => ?_)
 ·
  replace h := bif_t h hc4
  refine iwp_reg (ils_cons rfl (iop_assign rfl rfl (lb rfl) (sv (d := .int _ 0) rfl)) <|
   ils_end ?_)
  refine iwp_ret ?_
  refine thenQ_r ?_
  obtain rfl := Option.some.inj h
  refine ⟨.inr rfl, (.cons (sv rfl) .nil)⟩
 ·
  replace h := bif_f h hc4
  refine iwp_skip ?_
  refine thenQ_n ?_
  obtain ⟨x5, hx5, h⟩ := bno_e h
  obtain ⟨x6, hx6, h⟩ := bno_e h
  refine iwp_drw rfl [⟨[3], [0], [(20, .agg (v0 a0))], []⟩,
   ⟨[1], [], [(21, .int .i64 a1)], []⟩,
   ⟨[20, 21], [], [(22, .slice false (x5.map (eInt .i64).d))], []⟩,
   ⟨[3], [0], [(23, .agg (v0 a0))], []⟩,
   ⟨[2], [], [(24, .int .i64 a2)], []⟩,
   ⟨[23, 24], [], [(25, .slice false (x6.map (eInt .i64).d))], []⟩,
   ⟨[22], [], [(7, .slice false (x5.map (eInt .i64).d))], []⟩,
   ⟨[25], [], [(8, .slice false (x6.map (eInt .i64).d))], []⟩] rfl ?_ (by kernel_rfl) ?_
  ·refine .cons (lop rfl rfl fun S hA => (iop_load_ra (cs := q5) rfl rfl (lb rfl) Try.underlying25 ag25 ti25 (by decide) (svaR hA rfl rfl) (agi hA rfl rfl) (nle rfl) rfl)) ?_
   refine .cons (lop rfl rfl fun S hA => (iop_move rfl rfl (lb rfl) (svaI hA rfl rfl))) ?_
   refine .cons (lop rfl rfl fun S hA => (iop_call (r := .slice _ _) rfl rfl (lb rfl) cl55 (.cons (svaA q5 hA rfl rfl) (.cons (svaI hA rfl rfl) .nil)) rfl (p_sennitref34_line _ _ _ hx5))) ?_
   refine .cons (lop rfl rfl fun S hA => (iop_load_ra (cs := q5) rfl rfl (lb rfl) Try.underlying25 ag25 ti25 (by decide) (svaR hA rfl rfl) (agi hA rfl rfl) (nle rfl) rfl)) ?_
   refine .cons (lop rfl rfl fun S hA => (iop_move rfl rfl (lb rfl) (svaI hA rfl rfl))) ?_
   refine .cons (lop rfl rfl fun S hA => (iop_call (r := .slice _ _) rfl rfl (lb rfl) cl55 (.cons (svaA q5 hA rfl rfl) (.cons (svaI hA rfl rfl) .nil)) rfl (p_sennitref34_line _ _ _ hx6))) ?_
   refine .cons (lop rfl rfl fun S hA => (iop_assign rfl rfl (lb rfl) (svaL hA rfl rfl))) ?_
   refine .cons (lop rfl rfl fun S hA => (iop_assign rfl rfl (lb rfl) (svaL hA rfl rfl))) ?_
   exact .nil
  refine iwp_seq ?_
  refine iwp_reg (ils_cons rfl (iop_assign rfl rfl (lb rfl) (sv (d := .int _ 0) rfl)) <|
   ils_end ?_)
  refine iwp_block ?_
  refine iwp_loopP (α := Nat × Int) (fun z => ⟨[(7, .slice false (x5.map (eInt .i64).d)), (8, .slice false (x6.map (eInt .i64).d)), (9, .int .i64 z.2)], []⟩) (fun z => sennitref34_Meet_L0 x5 x6 z.1 z.2 = some r) (fun z => z.1) (fuel, 0) (fun i => i) ⟨(.sames rfl rfl), .nil, nd_of [] rfl (by decide), fun _ _ => rfl⟩ ?_ ?_
  ·exact h
  ·
   rintro ⟨n0, v14⟩ h
   cases n0 with
   | zero => exact absurd h (by unfold sennitref34_Meet_L0; exact nofun)
   | succ n0 =>
    unfold sennitref34_Meet_L0 at h
    refine iwp_seq ?_
    obtain ⟨x22, hx22, h⟩ := bnd_e h
    refine iwp_reg (ils_cons rfl (mvI rfl rfl rfl rfl) <|
     ils_cons rfl (mvL rfl rfl rfl rfl) <|
     ils_cons rfl (iop_lenT (eInt .i64) (l := x5) rfl rfl (lb rfl) Try.underlying23 (svL rfl)) <|
     ils_cons rfl (iop_cmpx rfl rfl (lb rfl) (svI rfl) (svI rfl) rfl hx22) <|
     ils_end ?_)
    refine iwp_cond (b := _) rfl (fun hc23 => ?_) (fun hc23 => ?_)
    ·
     replace h := bif_t h hc23
     refine iwp_skip ?_
     refine thenQ_n ?_
     refine iwp_seq ?_
     refine iwp_block ?_
     obtain ⟨x24, hx24, h⟩ := bno_e h
     obtain ⟨x25, hx25, h⟩ := bno_e h
     refine iwp_reg (ils_cons rfl (mvL rfl rfl rfl rfl) <|
      ils_cons rfl (mvL rfl rfl rfl rfl) <|
      ils_cons rfl (mvI rfl rfl rfl rfl) <|
      ils_cons rfl (iop_idxT (eInt .i64) (cs := [.int _ _]) rfl rfl (lb rfl) Try.underlying23 ti3 (svL rfl) (svI rfl) hx24 rfl rfl) <|
      ils_cons rfl (iop_load_fs rfl rfl (lb rfl) Try.underlying3 ag3 ti3 (by decide) (sv (d := .fptr [.int _ _]) rfl) (nle rfl)) <|
      ils_cons rfl (iop_call (r := .bool _) rfl rfl (lb rfl) cl46 (.cons (svL rfl) (.cons (svI rfl) .nil)) rfl (p_sennitref19_In _ _ _ hx25)) <|
      ils_end ?_)
     refine iwp_cond (b := _) rfl (fun hc26 => ?_) (fun hc26 => ?_)
     ·
      replace h := bif_t h hc26
      obtain ⟨x27, hx27, h⟩ := bno_e h
      refine iwp_reg (ils_cons rfl (mvL rfl rfl rfl rfl) <|
       ils_cons rfl (mvI rfl rfl rfl rfl) <|
       ils_cons rfl (iop_idxT (eInt .i64) (cs := [.int _ _]) rfl rfl (lb rfl) Try.underlying23 ti3 (svL rfl) (svI rfl) hx27 rfl rfl) <|
       ils_cons rfl (iop_load_fs rfl rfl (lb rfl) Try.underlying3 ag3 ti3 (by decide) (sv (d := .fptr [.int _ _]) rfl) (nle rfl)) <|
       ils_cons rfl (asI rfl rfl rfl rfl) <|
       ils_end ?_)
      refine iwp_ret ?_
      refine blockQ_r ?_
      refine thenQ_r ?_
      refine thenQ_r ?_
      refine blockQ_r ?_
      refine thenQ_r ?_
      obtain rfl := Option.some.inj h
      refine ⟨.inr rfl, (.cons (sv rfl) .nil)⟩
     ·
      replace h := bif_f h hc26
      refine iwp_skip ?_
      refine blockQ_n ?_
      refine thenQ_n ?_
      obtain ⟨x28, hx28, h⟩ := bnd_e h
      refine iwp_region (ils_cons rfl (mvI rfl rfl rfl rfl) <|
       ils_cons rfl (iop_intx rfl rfl (lb rfl) (svI rfl) (sv (d := .int _ 1) rfl) rfl hx28) <|
       ils_cons rfl (asI rfl rfl rfl rfl) <|
       ils_nil ?_)
      refine thenQ_n ⟨(n0, x28), (fun i => i), ⟨(.sames rfl rfl), .nil, nd_of [] rfl (by decide), fun _ _ => rfl⟩, ?_, ?_⟩
      exact h
      exact Nat.lt_succ_self _
    ·
     replace h := bif_f h hc23
     refine iwp_exit ?_
     refine thenQ_e ?_
     refine thenQ_e ?_
     refine blockQ_e ?_
     refine thenQ_n ?_
     refine iwp_reg (ils_cons rfl (iop_assign rfl rfl (lb rfl) (sv (d := .int _ 0) rfl)) <|
      ils_end ?_)
     refine iwp_ret ?_
     obtain rfl := Option.some.inj h
     refine ⟨.inr rfl, (.cons (sv rfl) .nil)⟩

theorem p_sennitref34_Below (a0 : T_fold_State) (a1 : Int) (r : (List Int)) (h : sennitref34_Below a0 a1 = some r) : PureAt Try.prog 23 [.agg (v0 a0), .int .i64 a1] (.slice false (r.map (eInt .i64).d)) := by
 refine pure_of_iwp (rs := [.slice false (r.map (eInt .i64).d)]) Try.func23 rfl Try.ntmps23 (nle rfl) rfl fun O hO => ?_
 show IWP _ _ _ _ ⟨[(0, .agg (v0 a0)), (1, .int .i64 a1)], []⟩ _
 unfold sennitref34_Below at h
 refine iwp_reg (ils_cons rfl (iop_box' (cs := q5) 0 rfl rfl (lb rfl) rfl (svA q5 rfl) rfl rfl) <|
  ils_cons rfl (iop_assign rfl rfl (lb rfl) (sv (d := .nils) rfl)) <|
  ils_end ?_)
 refine iwp_seq ?_
 obtain ⟨x1, hx1, h⟩ := bnd_e h
 obtain ⟨x2, hx2, h⟩ := bno_e h
 obtain ⟨x3, hx3, h⟩ := bnd_e h
 obtain ⟨x4, hx4, h⟩ := bno_e h
 obtain ⟨x5, hx5, h⟩ := bnd_e h
 obtain ⟨x6, hx6, h⟩ := bnd_e h
 refine iwp_reg (ils_cons rfl (mvI rfl rfl rfl rfl) <|
  ils_cons rfl (iop_cmpx rfl rfl (lb rfl) (svI rfl) (sv (d := .int _ 0) rfl) rfl hx1) <|
  ils_cons rfl (mvB rfl rfl rfl rfl) <|
  ils_guard rfl rfl (.one rfl) rfl (by decide) (fun hb => (lra q5 la25 rfl rfl rfl rfl rfl (nle rfl) rfl)) <|
  ils_guard rfl rfl (.one rfl) rfl (by decide) (fun hb => (mvI rfl rfl rfl rfl)) <|
  ils_guard rfl rfl (.one rfl) rfl (by decide) (fun hb => (iop_call (r := .bool _) rfl rfl (lb rfl) cl53 (.cons (svcA (v0 a0) rfl hb) (.cons (svcI rfl hb) .nil)) rfl (p_sennitref34_there _ _ _ (gd_t hx2 hb)))) <|
  ils_guard rfl rfl (.one rfl) rfl (by decide) (fun hb => (iop_not rfl rfl (lb rfl) (svcB rfl hb))) <|
  ils_cons rfl (iop_andx rfl rfl (lb rfl) (svB rfl) rfl rfl hx3) <|
  ils_cons rfl (mvB rfl rfl rfl rfl) <|
  ils_guard rfl rfl (.one rfl) rfl (by decide) (fun hb => (lra q5 la25 rfl rfl rfl rfl rfl (nle rfl) rfl)) <|
  ils_guard rfl rfl (.one rfl) rfl (by decide) (fun hb => (iop_call (r := .int _ _) rfl rfl (lb rfl) cl15 (.cons (svcA (v0 a0) rfl hb) .nil) rfl (p_sennitref34_Check _ _ (gd_t hx4 hb)))) <|
  ils_guard rfl rfl (.one rfl) rfl (by decide) (fun hb => (iop_cmpx rfl rfl (lb rfl) (svcI rfl hb) (sv (d := .int _ 0) rfl) rfl hx5)) <|
  ils_cons rfl (iop_orx rfl rfl (lb rfl) (svB rfl) rfl rfl hx6) <|
  ils_end ?_)
 refine iwp_cond (b := _) rfl (fun hc7 => ?_) (fun hc7 => ?_)
 ·
  replace h := bif_t h hc7
  refine iwp_reg (ils_cons rfl (iop_assign rfl rfl (lb rfl) (sv (d := .nils) rfl)) <|
   ils_end ?_)
  refine iwp_ret ?_
  refine thenQ_r ?_
  obtain rfl := Option.some.inj h
  refine ⟨.inr rfl, (.cons (svn_of rfl rfl) .nil)⟩
 ·
  replace h := bif_f h hc7
  refine iwp_skip ?_
  refine thenQ_n ?_
  refine iwp_reg (ils_cons rfl (iop_assign rfl rfl (lb rfl) (sv (d := .nils) rfl)) <|
   ils_end ?_)
  refine iwp_seq ?_
  refine iwp_reg (ils_cons rfl (iop_assign rfl rfl (lb rfl) (sv (d := .int _ 0) rfl)) <|
   ils_end ?_)
  refine iwp_block ?_
  refine iwp_loopP (α := Nat × (List Int) × Int) (fun z => ⟨[(1, .int .i64 a1), (2, .ref 0 0), (5, .gsl 22 (eInt .i64).sz (z.2.1.map (eInt .i64).d)), (6, .int .i64 z.2.2)], [(0, .blk 25 (v0 a0)), (22, .tail 3 (eInt .i64).sz z.2.1.length)]⟩) (fun z => sennitref34_Below_L0 a0 a1 z.1 z.2.1 z.2.2 = some r) (fun z => z.1) (fuel, ([] : (List Int)), 0) (fun i => if i = 22 then 73 else i) ⟨(.s rfl rfl (.s rfl rfl (.cons (.nils rfl) (.sames rfl rfl)))), (.cons (.blk rfl rfl rfl) (.cons (.nils rfl) .nil)), nd_of [0, 73] rfl (by decide), (fun i hi => by first | rfl | (show (if _ then _ else _) = _; (repeat' split) <;> omega))⟩ ?_ ?_
  ·exact h
  ·
   rintro ⟨n0, v20, v21⟩ h
   cases n0 with
   | zero => exact absurd h (by unfold sennitref34_Below_L0; exact nofun)
   | succ n0 =>
    unfold sennitref34_Below_L0 at h
    refine iwp_seq ?_
    obtain ⟨x34, hx34, h⟩ := bnd_e h
    refine iwp_reg (ils_cons rfl (mvI rfl rfl rfl rfl) <|
     ils_cons rfl (faR 2 rfl rfl rfl Try.underlying25 rfl ti22 (lb rfl) rfl rfl) <|
     ils_cons rfl (lrL la22 rfl rfl rfl rfl rfl (nle rfl) rfl) <|
     ils_cons rfl (iop_lenT E_ptree_Node (l := a0.Nodes) rfl rfl (lb rfl) Try.underlying22 (svL rfl)) <|
     ils_cons rfl (iop_cmpx rfl rfl (lb rfl) (svI rfl) (svI rfl) rfl hx34) <|
     ils_end ?_)
    refine iwp_cond (b := _) rfl (fun hc35 => ?_) (fun hc35 => ?_)
    ·
     replace h := bif_t h hc35
     refine iwp_skip ?_
     refine thenQ_n ?_
     refine iwp_seq ?_
     refine iwp_block ?_
     obtain ⟨x36, hx36, h⟩ := bno_e h
     refine iwp_reg (ils_cons rfl (faR 2 rfl rfl rfl Try.underlying25 rfl ti22 (lb rfl) rfl rfl) <|
      ils_cons rfl (lrL la22 rfl rfl rfl rfl rfl (nle rfl) rfl) <|
      ils_cons rfl (mvI rfl rfl rfl rfl) <|
      ils_cons rfl (iop_idxT E_ptree_Node (cs := q8) rfl rfl (lb rfl) Try.underlying22 ti63 (svL rfl) (svI rfl) hx36 rfl rfl) <|
      ils_cons rfl (iop_fieldAddr_fptr (cs' := [.int _ _]) rfl rfl (lb rfl) Try.underlying63 rfl ti3 (by decide) (sv (d := .fptr q8) rfl) rfl) <|
      ils_cons rfl (iop_load_fs rfl rfl (lb rfl) Try.underlying3 ag3 ti3 (by decide) (sv (d := .fptr [.int _ _]) rfl) (nle rfl)) <|
      ils_cons rfl (asI rfl rfl rfl rfl) <|
      ils_end ?_)
     obtain ⟨x37, hx37, h⟩ := bnd_e h
     obtain ⟨x38, hx38, h⟩ := bno_e h
     obtain ⟨x39, hx39, h⟩ := bno_e h
     obtain ⟨x40, hx40, h⟩ := bno_e h
     obtain ⟨x41, hx41, h⟩ := bnd_e h
     refine iwp_reg (ils_cons rfl (mvI rfl rfl rfl rfl) <|
      ils_cons rfl (iop_cmpx rfl rfl (lb rfl) (svI rfl) (sv (d := .int _ 0) rfl) rfl hx37) <|
      ils_cons rfl (mvB rfl rfl rfl rfl) <|
      ils_guard rfl rfl (.one rfl) rfl (by decide) (fun hb => (lra q5 la25 rfl rfl rfl rfl rfl (nle rfl) rfl)) <|
      ils_guard rfl rfl (.one rfl) rfl (by decide) (fun hb => (iop_call (r := .agg q5) rfl rfl (lb rfl) cl32 (.cons (svcA (v0 a0) rfl hb) .nil) rfl (p_sennitref34_tree _ _ (gd_t hx38 hb)))) <|
      ils_guard rfl rfl (.one rfl) rfl (by decide) (fun hb => (mvI rfl rfl rfl rfl)) <|
      ils_guard rfl rfl (.one rfl) rfl (by decide) (fun hb => (iop_call (r := .slice _ _) rfl rfl (lb rfl) cl47 (.cons (svcA (v1 x38) rfl hb) (.cons (svcI rfl hb) .nil)) rfl (p_sennitref19_Tree_Path _ _ _ (gd_t hx39 hb)))) <|
      ils_guard rfl rfl (.one rfl) rfl (by decide) (fun hb => (mvI rfl rfl rfl rfl)) <|
      ils_guard rfl rfl (.one rfl) rfl (by decide) (fun hb => (iop_call (r := .bool _) rfl rfl (lb rfl) cl46 (.cons (svcL rfl hb) (.cons (svcI rfl hb) .nil)) rfl (p_sennitref19_In _ _ _ (gd_t hx40 hb)))) <|
      ils_cons rfl (iop_orx rfl rfl (lb rfl) (svB rfl) rfl rfl hx41) <|
      ils_end ?_)
     refine iwp_cond (b := _) rfl (fun hc42 => ?_) (fun hc42 => ?_)
     ·
      replace h := bif_t h hc42
      obtain ⟨x43, hx43, h⟩ := bno_e h
      refine iwp_region (ils_cons rfl (iop_move rfl rfl (lb rfl) (sv (d := .gsl _ _ _) rfl)) <|
       ils_cons rfl (mvI rfl rfl rfl rfl) <|
       ils_cons rfl (iop_bsT (eInt .i64) ([x36.ID] : (List Int)) 23 rfl rfl (lb rfl) Try.underlying23 ti3 rfl (.cons (svI rfl) .nil) rfl rfl (by decide)) <|
       ils_cons rfl (iop_appT (eInt .i64) 24 rfl rfl (lb rfl) Try.underlying23 ti3 rfl rfl rfl rfl (svg rfl) hx43) <|
       ils_cons rfl (iop_assign rfl rfl (lb rfl) (sv (d := .gsl _ _ _) rfl)) <|
       ils_nil ?_)
      refine blockQ_n ?_
      refine thenQ_n ?_
      obtain ⟨x44, hx44, h⟩ := bnd_e h
      refine iwp_region (ils_cons rfl (mvI rfl rfl rfl rfl) <|
       ils_cons rfl (iop_intx rfl rfl (lb rfl) (svI rfl) (sv (d := .int _ 1) rfl) rfl hx44) <|
       ils_cons rfl (asI rfl rfl rfl rfl) <|
       ils_nil ?_)
      refine thenQ_n ⟨(n0, x43, x44), (fun i => if i = 22 then 24 else i), ⟨(.sames rfl rfl), (.cons (.blk rfl rfl rfl) (.cons (.tail rfl) .nil)), nd_of [0, 24] rfl (by decide), (fun i hi => by first | rfl | (show (if _ then _ else _) = _; (repeat' split) <;> omega))⟩, ?_, ?_⟩
      exact h
      exact Nat.lt_succ_self _
     ·
      replace h := bif_f h hc42
      refine iwp_skip ?_
      refine blockQ_n ?_
      refine thenQ_n ?_
      obtain ⟨x45, hx45, h⟩ := bnd_e h
      refine iwp_region (ils_cons rfl (mvI rfl rfl rfl rfl) <|
       ils_cons rfl (iop_intx rfl rfl (lb rfl) (svI rfl) (sv (d := .int _ 1) rfl) rfl hx45) <|
       ils_cons rfl (asI rfl rfl rfl rfl) <|
       ils_nil ?_)
      refine thenQ_n ⟨(n0, v20, x45), (fun i => i), ⟨(.sames rfl rfl), (.cons (.blk rfl rfl rfl) (.cons (.tail rfl) .nil)), nd_of [0, 22] rfl (by decide), fun _ _ => rfl⟩, ?_, ?_⟩
      exact h
      exact Nat.lt_succ_self _
    ·
     replace h := bif_f h hc35
     refine iwp_exit ?_
     refine thenQ_e ?_
     refine thenQ_e ?_
     refine blockQ_e ?_
     refine thenQ_n ?_
     refine iwp_reg (ils_cons rfl (iop_move rfl rfl (lb rfl) (sv (d := .gsl _ _ _) rfl)) <|
      ils_cons rfl (iop_assign rfl rfl (lb rfl) (sv (d := .gsl _ _ _) rfl)) <|
      ils_end ?_)
     refine iwp_ret ?_
     obtain rfl := Option.some.inj h
     refine ⟨.inr rfl, (.cons (svg_of rfl rfl) .nil)⟩

theorem p_sennitref34_Sum (a0 : T_fold_State) (a1 : Int) (r : Int) (h : sennitref34_Sum a0 a1 = some r) : PureAt Try.prog 25 [.agg (v0 a0), .int .i64 a1] (.int .i64 r) := by
 refine pure_of_iwp (rs := [.int .i64 r]) Try.func25 rfl Try.ntmps25 (nle rfl) rfl fun O hO => ?_
 show IWP _ _ _ _ ⟨[(0, .agg (v0 a0)), (1, .int .i64 a1)], []⟩ _
 unfold sennitref34_Sum at h
 refine iwp_reg (ils_cons rfl (iop_box' (cs := q5) 0 rfl rfl (lb rfl) rfl (svA q5 rfl) rfl rfl) <|
  ils_cons rfl (iop_assign rfl rfl (lb rfl) (sv (d := .int _ 0) rfl)) <|
  ils_end ?_)
 refine iwp_seq ?_
 obtain ⟨x1, hx1, h⟩ := bnd_e h
 obtain ⟨x2, hx2, h⟩ := bno_e h
 obtain ⟨x3, hx3, h⟩ := bnd_e h
 obtain ⟨x4, hx4, h⟩ := bno_e h
 obtain ⟨x5, hx5, h⟩ := bnd_e h
 obtain ⟨x6, hx6, h⟩ := bnd_e h
 refine iwp_reg (ils_cons rfl (mvI rfl rfl rfl rfl) <|
  ils_cons rfl (iop_cmpx rfl rfl (lb rfl) (svI rfl) (sv (d := .int _ 0) rfl) rfl hx1) <|
  ils_cons rfl (mvB rfl rfl rfl rfl) <|
  ils_guard rfl rfl (.one rfl) rfl (by decide) (fun hb => (lra q5 la25 rfl rfl rfl rfl rfl (nle rfl) rfl)) <|
  ils_guard rfl rfl (.one rfl) rfl (by decide) (fun hb => (mvI rfl rfl rfl rfl)) <|
  ils_guard rfl rfl (.one rfl) rfl (by decide) (fun hb => (iop_call (r := .bool _) rfl rfl (lb rfl) cl53 (.cons (svcA (v0 a0) rfl hb) (.cons (svcI rfl hb) .nil)) rfl (p_sennitref34_there _ _ _ (gd_t hx2 hb)))) <|
  ils_guard rfl rfl (.one rfl) rfl (by decide) (fun hb => (iop_not rfl rfl (lb rfl) (svcB rfl hb))) <|
  ils_cons rfl (iop_andx rfl rfl (lb rfl) (svB rfl) rfl rfl hx3) <|
  ils_cons rfl (mvB rfl rfl rfl rfl) <|
  ils_guard rfl rfl (.one rfl) rfl (by decide) (fun hb => (lra q5 la25 rfl rfl rfl rfl rfl (nle rfl) rfl)) <|
  ils_guard rfl rfl (.one rfl) rfl (by decide) (fun hb => (iop_call (r := .int _ _) rfl rfl (lb rfl) cl15 (.cons (svcA (v0 a0) rfl hb) .nil) rfl (p_sennitref34_Check _ _ (gd_t hx4 hb)))) <|
  ils_guard rfl rfl (.one rfl) rfl (by decide) (fun hb => (iop_cmpx rfl rfl (lb rfl) (svcI rfl hb) (sv (d := .int _ 0) rfl) rfl hx5)) <|
  ils_cons rfl (iop_orx rfl rfl (lb rfl) (svB rfl) rfl rfl hx6) <|
  ils_end ?_)
 refine iwp_cond (b := _) rfl (fun hc7 => ?_) (fun hc7 => ?_)
 ·
  replace h := bif_t h hc7
  refine iwp_reg (ils_cons rfl (iop_assign rfl rfl (lb rfl) (sv (d := .int _ 0) rfl)) <|
   ils_end ?_)
  refine iwp_ret ?_
  refine thenQ_r ?_
  obtain rfl := Option.some.inj h
  refine ⟨.inr rfl, (.cons (sv rfl) .nil)⟩
 ·
  replace h := bif_f h hc7
  refine iwp_skip ?_
  refine thenQ_n ?_
  refine iwp_reg (ils_cons rfl (iop_assign rfl rfl (lb rfl) (sv (d := .int _ 0) rfl)) <|
   ils_end ?_)
  refine iwp_seq ?_
  refine iwp_reg (ils_cons rfl (iop_assign rfl rfl (lb rfl) (sv (d := .int _ 0) rfl)) <|
   ils_end ?_)
  refine iwp_block ?_
  refine iwp_loopP (α := Nat × Int × Int) (fun z => ⟨[(1, .int .i64 a1), (2, .ref 0 0), (5, .int .i64 z.2.1), (6, .int .i64 z.2.2)], [(0, .blk 25 (v0 a0))]⟩) (fun z => sennitref34_Sum_L0 a0 a1 z.1 z.2.1 z.2.2 = some r) (fun z => z.1) (fuel, 0, 0) (fun i => i) ⟨(.sames rfl rfl), (.cons (.blk rfl rfl rfl) .nil), nd_of [0] rfl (by decide), fun _ _ => rfl⟩ ?_ ?_
  ·exact h
  ·
   rintro ⟨n0, v17, v18⟩ h
   cases n0 with
   | zero => exact absurd h (by unfold sennitref34_Sum_L0; exact nofun)
   | succ n0 =>
    unfold sennitref34_Sum_L0 at h
    refine iwp_seq ?_
    obtain ⟨x28, hx28, h⟩ := bnd_e h
    refine iwp_reg (ils_cons rfl (mvI rfl rfl rfl rfl) <|
     ils_cons rfl (faR 2 rfl rfl rfl Try.underlying25 rfl ti22 (lb rfl) rfl rfl) <|
     ils_cons rfl (lrL la22 rfl rfl rfl rfl rfl (nle rfl) rfl) <|
     ils_cons rfl (iop_lenT E_ptree_Node (l := a0.Nodes) rfl rfl (lb rfl) Try.underlying22 (svL rfl)) <|
     ils_cons rfl (iop_cmpx rfl rfl (lb rfl) (svI rfl) (svI rfl) rfl hx28) <|
     ils_end ?_)
    refine iwp_cond (b := _) rfl (fun hc29 => ?_) (fun hc29 => ?_)
    ·
     replace h := bif_t h hc29
     refine iwp_skip ?_
     refine thenQ_n ?_
     refine iwp_seq ?_
     refine iwp_block ?_
     obtain ⟨x30, hx30, h⟩ := bno_e h
     obtain ⟨x31, hx31, h⟩ := bnd_e h
     refine iwp_reg (ils_cons rfl (faR 2 rfl rfl rfl Try.underlying25 rfl ti22 (lb rfl) rfl rfl) <|
      ils_cons rfl (lrL la22 rfl rfl rfl rfl rfl (nle rfl) rfl) <|
      ils_cons rfl (mvI rfl rfl rfl rfl) <|
      ils_cons rfl (iop_idxT E_ptree_Node (cs := q8) rfl rfl (lb rfl) Try.underlying22 ti63 (svL rfl) (svI rfl) hx30 rfl rfl) <|
      ils_cons rfl (iop_fieldAddr_fptr (cs' := [.int _ _]) rfl rfl (lb rfl) Try.underlying63 rfl ti3 (by decide) (sv (d := .fptr q8) rfl) rfl) <|
      ils_cons rfl (iop_load_fs rfl rfl (lb rfl) Try.underlying3 ag3 ti3 (by decide) (sv (d := .fptr [.int _ _]) rfl) (nle rfl)) <|
      ils_cons rfl (mvI rfl rfl rfl rfl) <|
      ils_cons rfl (iop_cmpx rfl rfl (lb rfl) (svI rfl) (svI rfl) rfl hx31) <|
      ils_end ?_)
     refine iwp_cond (b := _) rfl (fun hc32 => ?_) (fun hc32 => ?_)
     ·
      replace h := bif_t h hc32
      obtain ⟨x33, hx33, h⟩ := bno_e h
      obtain ⟨x34, hx34, h⟩ := bnd_e h
      refine iwp_region (ils_cons rfl (mvI rfl rfl rfl rfl) <|
       ils_cons rfl (faR 2 rfl rfl rfl Try.underlying25 rfl ti22 (lb rfl) rfl rfl) <|
       ils_cons rfl (lrL la22 rfl rfl rfl rfl rfl (nle rfl) rfl) <|
       ils_cons rfl (mvI rfl rfl rfl rfl) <|
       ils_cons rfl (iop_idxT E_ptree_Node (cs := q8) rfl rfl (lb rfl) Try.underlying22 ti63 (svL rfl) (svI rfl) hx33 rfl rfl) <|
       ils_cons rfl (iop_fieldAddr_fptr (cs' := [.int _ _]) rfl rfl (lb rfl) Try.underlying63 rfl ti3 (by decide) (sv (d := .fptr q8) rfl) rfl) <|
       ils_cons rfl (iop_load_fs rfl rfl (lb rfl) Try.underlying3 ag3 ti3 (by decide) (sv (d := .fptr [.int _ _]) rfl) (nle rfl)) <|
       ils_cons rfl (iop_intx rfl rfl (lb rfl) (svI rfl) (svI rfl) rfl hx34) <|
       ils_cons rfl (asI rfl rfl rfl rfl) <|
       ils_nil ?_)
      refine blockQ_n ?_
      refine thenQ_n ?_
      obtain ⟨x35, hx35, h⟩ := bnd_e h
      refine iwp_region (ils_cons rfl (mvI rfl rfl rfl rfl) <|
       ils_cons rfl (iop_intx rfl rfl (lb rfl) (svI rfl) (sv (d := .int _ 1) rfl) rfl hx35) <|
       ils_cons rfl (asI rfl rfl rfl rfl) <|
       ils_nil ?_)
      refine thenQ_n ⟨(n0, x34, x35), (fun i => i), ⟨(.sames rfl rfl), (.cons (.blk rfl rfl rfl) .nil), nd_of [0] rfl (by decide), fun _ _ => rfl⟩, ?_, ?_⟩
      exact h
      exact Nat.lt_succ_self _
     ·
      replace h := bif_f h hc32
      refine iwp_skip ?_
      refine blockQ_n ?_
      refine thenQ_n ?_
      obtain ⟨x36, hx36, h⟩ := bnd_e h
      refine iwp_region (ils_cons rfl (mvI rfl rfl rfl rfl) <|
       ils_cons rfl (iop_intx rfl rfl (lb rfl) (svI rfl) (sv (d := .int _ 1) rfl) rfl hx36) <|
       ils_cons rfl (asI rfl rfl rfl rfl) <|
       ils_nil ?_)
      refine thenQ_n ⟨(n0, v17, x36), (fun i => i), ⟨(.sames rfl rfl), (.cons (.blk rfl rfl rfl) .nil), nd_of [0] rfl (by decide), fun _ _ => rfl⟩, ?_, ?_⟩
      exact h
      exact Nat.lt_succ_self _
    ·
     replace h := bif_f h hc29
     refine iwp_exit ?_
     refine thenQ_e ?_
     refine thenQ_e ?_
     refine blockQ_e ?_
     refine thenQ_n ?_
     refine iwp_reg (ils_cons rfl (mvI rfl rfl rfl rfl) <|
      ils_cons rfl (asI rfl rfl rfl rfl) <|
      ils_end ?_)
     refine iwp_ret ?_
     obtain rfl := Option.some.inj h
     refine ⟨.inr rfl, (.cons (sv rfl) .nil)⟩

theorem p_sennitlaw34_FoldTells (a0 : T_fold_State) (a1 : Int) (a2 : Int) (r : Bool) (h : sennitlaw34_FoldTells a0 a1 a2 = some r) : PureAt Try.prog 4 [.agg (v0 a0), .int .i64 a1, .int .i64 a2] (.bool r) := by
 refine pure_of_iwp (rs := [.bool r]) Try.func4 rfl Try.ntmps4 (nle rfl) rfl fun O hO => ?_
 show IWP _ _ _ _ ⟨[(0, .agg (v0 a0)), (1, .int .i64 a1), (2, .int .i64 a2)], []⟩ _
 unfold sennitlaw34_FoldTells at h
 refine iwp_reg (ils_cons rfl (iop_box' (cs := q5) 0 rfl rfl (lb rfl) rfl (svA q5 rfl) rfl rfl) <|
  ils_cons rfl (iop_assign rfl rfl (lb rfl) (sv (d := .bool false) rfl)) <|
  ils_end ?_)
 refine iwp_seq ?_
 obtain ⟨x1, hx1, h⟩ := bno_e h
 refine iwp_reg (ils_cons rfl (lra q5 la25 rfl rfl rfl rfl rfl (nle rfl) rfl) <|
  ils_cons rfl (iop_call (r := .bool _) rfl rfl (lb rfl) cl7 (.cons (svA q5 rfl) .nil) rfl (p_sennitlaw34_few _ _ hx1)) <|
  ils_cons rfl (iop_not rfl rfl (lb rfl) (svB rfl)) <|
  ils_end ?_)
 refine iwp_cond (b := _) rfl (fun hc2 => ?_) (fun hc2 => ?_)
 ·
  replace h := bif_t h hc2
  obtain ⟨x3, hx3, h⟩ := bno_e h
  refine iwp_reg (ils_cons rfl (iop_call (r := .bool _) rfl rfl (lb rfl) cl8 .nil rfl (p_sennitlaw34_awake  _ hx3)) <|
   ils_cons rfl (asB rfl rfl rfl rfl) <|
   ils_end ?_)
  refine iwp_ret ?_
  refine thenQ_r ?_
  obtain rfl := Option.some.inj h
  refine ⟨.inr rfl, (.cons (sv rfl) .nil)⟩
 ·
  replace h := bif_f h hc2
  refine iwp_skip ?_
  refine thenQ_n ?_
  obtain ⟨x4, hx4, h⟩ := bno_e h
  refine iwp_reg (ils_cons rfl (lra q5 la25 rfl rfl rfl rfl rfl (nle rfl) rfl) <|
   ils_cons rfl (iop_call (r := .agg q5) rfl rfl (lb rfl) cl9 (.cons (svA q5 rfl) .nil) rfl (p_sennitlaw34_own _ _ hx4)) <|
   ils_cons rfl (iop_allocS (cs := q10) (cs' := (w14 0 0 ([] : List T_ptree_Node) ([] : List Int))) 1 rfl rfl (lb rfl) rfl ti32 rfl rfl (.k (.k (.cons (.nils _) (.cons (.nils _) .nil))))) <|
   ils_cons rfl (stA q5 q5 ti32 rfl rfl rfl rfl rfl rfl rfl rfl (nle rfl) rfl) <|
   ils_end ?_)
  obtain ⟨x5, hx5, h⟩ := bno_e h
  obtain ⟨x6, hx6, h⟩ := bno_e h
  obtain ⟨x7, hx7, h⟩ := bnd_e h
  obtain ⟨x8, hx8, h⟩ := bno_e h
  obtain ⟨x9, hx9, h⟩ := bno_e h
  obtain ⟨x10, hx10, h⟩ := bnd_e h
  obtain ⟨x11, hx11, h⟩ := bnd_e h
  obtain ⟨x12, hx12, h⟩ := bno_e h
  obtain ⟨x13, hx13, h⟩ := bno_e h
  obtain ⟨x14, hx14, h⟩ := bno_e h
  obtain ⟨x15, hx15, h⟩ := bnd_e h
  obtain ⟨x16, hx16, h⟩ := bno_e h
  obtain ⟨x17, hx17, h⟩ := bno_e h
  obtain ⟨x18, hx18, h⟩ := bnd_e h
  obtain ⟨x19, hx19, h⟩ := bnd_e h
  obtain ⟨x20, hx20, h⟩ := bno_e h
  obtain ⟨x21, hx21, h⟩ := bnd_e h
  refine iwp_drw rfl [⟨[7], [1], [(14, .agg (v0 x4))], []⟩,
   ⟨[1], [], [(15, .int .i64 a1)], []⟩,
   ⟨[14, 15], [], [(16, .int .i64 x5)], []⟩,
   ⟨[3], [0], [(17, .agg (v0 a0))], []⟩,
   ⟨[1], [], [(18, .int .i64 a1)], []⟩,
   ⟨[17, 18], [], [(19, .int .i64 x6)], []⟩,
   ⟨[16, 19], [], [(20, .bool x7)], []⟩,
   ⟨[20], [], [(21, .bool x7)], []⟩,
   ⟨[7, 21], [1], [(22, .cnd (x7 == true) (.agg (v0 x4)))], []⟩,
   ⟨[1, 21], [], [(23, .cnd (x7 == true) (.int .i64 a1))], []⟩,
   ⟨[2, 21], [], [(24, .cnd (x7 == true) (.int .i64 a2))], []⟩,
   ⟨[21, 22, 23, 24], [], [(25, .cnd (x7 == true) (.int .i64 x8))], []⟩,
   ⟨[3, 21], [0], [(26, .cnd (x7 == true) (.agg (v0 a0)))], []⟩,
   ⟨[1, 21], [], [(27, .cnd (x7 == true) (.int .i64 a1))], []⟩,
   ⟨[2, 21], [], [(28, .cnd (x7 == true) (.int .i64 a2))], []⟩,
   ⟨[21, 26, 27, 28], [], [(29, .cnd (x7 == true) (.int .i64 x9))], []⟩,
   ⟨[21, 25, 29], [], [(30, .cnd (x7 == true) (.bool x10))], []⟩,
   ⟨[21, 30], [], [(31, .bool x11)], []⟩,
   ⟨[31], [], [(32, .bool x11)], []⟩,
   ⟨[7, 32], [1], [(33, .cnd (x11 == true) (.agg (v0 x4)))], []⟩,
   ⟨[1, 32], [], [(34, .cnd (x11 == true) (.int .i64 a1))], []⟩,
   ⟨[32, 33, 34], [], [(35, .cnd (x11 == true) (.slice false (x12.map (eInt .i64).d)))], []⟩,
   ⟨[3, 32], [0], [(36, .cnd (x11 == true) (.agg (v0 a0)))], []⟩,
   ⟨[1, 32], [], [(37, .cnd (x11 == true) (.int .i64 a1))], []⟩,
   ⟨[32, 36, 37], [], [(38, .cnd (x11 == true) (.slice false (x13.map (eInt .i64).d)))], []⟩,
   ⟨[32, 35, 38], [], [(39, .cnd (x11 == true) (.bool x14))], []⟩,
   ⟨[32, 39], [], [(40, .bool x15)], []⟩,
   ⟨[40], [], [(41, .bool x15)], []⟩,
   ⟨[7, 41], [1], [(42, .cnd (x15 == true) (.agg (v0 x4)))], []⟩,
   ⟨[1, 41], [], [(43, .cnd (x15 == true) (.int .i64 a1))], []⟩,
   ⟨[41, 42, 43], [], [(44, .cnd (x15 == true) (.int .i64 x16))], []⟩,
   ⟨[3, 41], [0], [(45, .cnd (x15 == true) (.agg (v0 a0)))], []⟩,
   ⟨[1, 41], [], [(46, .cnd (x15 == true) (.int .i64 a1))], []⟩,
   ⟨[41, 45, 46], [], [(47, .cnd (x15 == true) (.int .i64 x17))], []⟩,
   ⟨[41, 44, 47], [], [(48, .cnd (x15 == true) (.bool x18))], []⟩,
   ⟨[41, 48], [], [(49, .bool x19)], []⟩,
   ⟨[49], [], [(50, .bool x19)], []⟩,
   ⟨[50], [], [(51, .cnd (x19 == true) (.bool x20))], []⟩,
   ⟨[50, 51], [], [(52, .bool x21)], []⟩,
   ⟨[52], [], [(6, .bool x21)], []⟩] rfl ?_ (by kernel_rfl) ?_
  ·refine .cons (lop rfl rfl fun S hA => (iop_load_ra (cs := q5) rfl rfl (lb rfl) Try.underlying32 ag32 ti32 (by decide) (svaR hA rfl rfl) (agi hA rfl rfl) (nle rfl) rfl)) ?_
   refine .cons (lop rfl rfl fun S hA => (iop_move rfl rfl (lb rfl) (svaI hA rfl rfl))) ?_
   refine .cons (lop rfl rfl fun S hA => (iop_call (r := .int _ _) rfl rfl (lb rfl) cl17 (.cons (svaA q5 hA rfl rfl) (.cons (svaI hA rfl rfl) .nil)) rfl (p_fold_Depth _ _ _ hx5))) ?_
   refine .cons (lop rfl rfl fun S hA => (iop_load_ra (cs := q5) rfl rfl (lb rfl) Try.underlying25 ag25 ti25 (by decide) (svaR hA rfl rfl) (agi hA rfl rfl) (nle rfl) rfl)) ?_
   refine .cons (lop rfl rfl fun S hA => (iop_move rfl rfl (lb rfl) (svaI hA rfl rfl))) ?_
   refine .cons (lop rfl rfl fun S hA => (iop_call (r := .int _ _) rfl rfl (lb rfl) cl18 (.cons (svaA q5 hA rfl rfl) (.cons (svaI hA rfl rfl) .nil)) rfl (p_sennitref34_Depth _ _ _ hx6))) ?_
   refine .cons (lop rfl rfl fun S hA => (iop_cmpx rfl rfl (lb rfl) (svaI hA rfl rfl) (svaI hA rfl rfl) rfl hx7)) ?_
   refine .cons (lop rfl rfl fun S hA => (iop_move rfl rfl (lb rfl) (svaB hA rfl rfl))) ?_
   refine .cons (lopg rfl rfl rfl rfl (by decide) (fun S hA => grd1 hA rfl rfl) (fun S hA hb => (iop_load_ra (cs := q5) rfl rfl (lb rfl) Try.underlying32 ag32 ti32 (by decide) (svaR hA rfl rfl) (agi hA rfl rfl) (nle rfl) rfl))) ?_
   refine .cons (lopg rfl rfl rfl rfl (by decide) (fun S hA => grd1 hA rfl rfl) (fun S hA hb => (iop_move rfl rfl (lb rfl) (svaI hA rfl rfl)))) ?_
   refine .cons (lopg rfl rfl rfl rfl (by decide) (fun S hA => grd1 hA rfl rfl) (fun S hA hb => (iop_move rfl rfl (lb rfl) (svaI hA rfl rfl)))) ?_
   refine .cons (lopg rfl rfl rfl rfl (by decide) (fun S hA => grd1 hA rfl rfl) (fun S hA hb => (iop_call (r := .int _ _) rfl rfl (lb rfl) cl19 (.cons (svc (d := .agg (v0 x4)) (agr hA rfl rfl) hb) (.cons (svc (d := .int _ _) (agr hA rfl rfl) hb) (.cons (svc (d := .int _ _) (agr hA rfl rfl) hb) .nil))) rfl (p_fold_Meet _ _ _ _ (gd_t hx8 hb))))) ?_
   refine .cons (lopg rfl rfl rfl rfl (by decide) (fun S hA => grd1 hA rfl rfl) (fun S hA hb => (iop_load_ra (cs := q5) rfl rfl (lb rfl) Try.underlying25 ag25 ti25 (by decide) (svaR hA rfl rfl) (agi hA rfl rfl) (nle rfl) rfl))) ?_
   refine .cons (lopg rfl rfl rfl rfl (by decide) (fun S hA => grd1 hA rfl rfl) (fun S hA hb => (iop_move rfl rfl (lb rfl) (svaI hA rfl rfl)))) ?_
   refine .cons (lopg rfl rfl rfl rfl (by decide) (fun S hA => grd1 hA rfl rfl) (fun S hA hb => (iop_move rfl rfl (lb rfl) (svaI hA rfl rfl)))) ?_
   refine .cons (lopg rfl rfl rfl rfl (by decide) (fun S hA => grd1 hA rfl rfl) (fun S hA hb => (iop_call (r := .int _ _) rfl rfl (lb rfl) cl20 (.cons (svc (d := .agg (v0 a0)) (agr hA rfl rfl) hb) (.cons (svc (d := .int _ _) (agr hA rfl rfl) hb) (.cons (svc (d := .int _ _) (agr hA rfl rfl) hb) .nil))) rfl (p_sennitref34_Meet _ _ _ _ (gd_t hx9 hb))))) ?_
   refine .cons (lopg rfl rfl rfl rfl (by decide) (fun S hA => grd1 hA rfl rfl) (fun S hA hb => (iop_cmpx rfl rfl (lb rfl) (svc (d := .int _ _) (agr hA rfl rfl) hb) (svc (d := .int _ _) (agr hA rfl rfl) hb) rfl hx10))) ?_
   refine .cons (lop rfl rfl fun S hA => (iop_andx rfl rfl (lb rfl) (svaB hA rfl rfl) (agr hA rfl rfl) rfl hx11)) ?_
   refine .cons (lop rfl rfl fun S hA => (iop_move rfl rfl (lb rfl) (svaB hA rfl rfl))) ?_
   refine .cons (lopg rfl rfl rfl rfl (by decide) (fun S hA => grd1 hA rfl rfl) (fun S hA hb => (iop_load_ra (cs := q5) rfl rfl (lb rfl) Try.underlying32 ag32 ti32 (by decide) (svaR hA rfl rfl) (agi hA rfl rfl) (nle rfl) rfl))) ?_
   refine .cons (lopg rfl rfl rfl rfl (by decide) (fun S hA => grd1 hA rfl rfl) (fun S hA hb => (iop_move rfl rfl (lb rfl) (svaI hA rfl rfl)))) ?_
   refine .cons (lopg rfl rfl rfl rfl (by decide) (fun S hA => grd1 hA rfl rfl) (fun S hA hb => (iop_call (r := .slice _ _) rfl rfl (lb rfl) cl22 (.cons (svc (d := .agg (v0 x4)) (agr hA rfl rfl) hb) (.cons (svc (d := .int _ _) (agr hA rfl rfl) hb) .nil)) rfl (p_fold_Below _ _ _ (gd_t hx12 hb))))) ?_
   refine .cons (lopg rfl rfl rfl rfl (by decide) (fun S hA => grd1 hA rfl rfl) (fun S hA hb => (iop_load_ra (cs := q5) rfl rfl (lb rfl) Try.underlying25 ag25 ti25 (by decide) (svaR hA rfl rfl) (agi hA rfl rfl) (nle rfl) rfl))) ?_
   refine .cons (lopg rfl rfl rfl rfl (by decide) (fun S hA => grd1 hA rfl rfl) (fun S hA hb => (iop_move rfl rfl (lb rfl) (svaI hA rfl rfl)))) ?_
   refine .cons (lopg rfl rfl rfl rfl (by decide) (fun S hA => grd1 hA rfl rfl) (fun S hA hb => (iop_call (r := .slice _ _) rfl rfl (lb rfl) cl23 (.cons (svc (d := .agg (v0 a0)) (agr hA rfl rfl) hb) (.cons (svc (d := .int _ _) (agr hA rfl rfl) hb) .nil)) rfl (p_sennitref34_Below _ _ _ (gd_t hx13 hb))))) ?_
   refine .cons (lopg rfl rfl rfl rfl (by decide) (fun S hA => grd1 hA rfl rfl) (fun S hA hb => (iop_call (r := .bool _) rfl rfl (lb rfl) cl21 (.cons (svc (d := .slice _ _) (agr hA rfl rfl) hb) (.cons (svc (d := .slice _ _) (agr hA rfl rfl) hb) .nil)) rfl (p_sennitref02_SameInts _ _ _ (gd_t hx14 hb))))) ?_
   refine .cons (lop rfl rfl fun S hA => (iop_andx rfl rfl (lb rfl) (svaB hA rfl rfl) (agr hA rfl rfl) rfl hx15)) ?_
   refine .cons (lop rfl rfl fun S hA => (iop_move rfl rfl (lb rfl) (svaB hA rfl rfl))) ?_
   refine .cons (lopg rfl rfl rfl rfl (by decide) (fun S hA => grd1 hA rfl rfl) (fun S hA hb => (iop_load_ra (cs := q5) rfl rfl (lb rfl) Try.underlying32 ag32 ti32 (by decide) (svaR hA rfl rfl) (agi hA rfl rfl) (nle rfl) rfl))) ?_
   refine .cons (lopg rfl rfl rfl rfl (by decide) (fun S hA => grd1 hA rfl rfl) (fun S hA hb => (iop_move rfl rfl (lb rfl) (svaI hA rfl rfl)))) ?_
   refine .cons (lopg rfl rfl rfl rfl (by decide) (fun S hA => grd1 hA rfl rfl) (fun S hA hb => (iop_call (r := .int _ _) rfl rfl (lb rfl) cl24 (.cons (svc (d := .agg (v0 x4)) (agr hA rfl rfl) hb) (.cons (svc (d := .int _ _) (agr hA rfl rfl) hb) .nil)) rfl (p_fold_Sum _ _ _ (gd_t hx16 hb))))) ?_
   refine .cons (lopg rfl rfl rfl rfl (by decide) (fun S hA => grd1 hA rfl rfl) (fun S hA hb => (iop_load_ra (cs := q5) rfl rfl (lb rfl) Try.underlying25 ag25 ti25 (by decide) (svaR hA rfl rfl) (agi hA rfl rfl) (nle rfl) rfl))) ?_
   refine .cons (lopg rfl rfl rfl rfl (by decide) (fun S hA => grd1 hA rfl rfl) (fun S hA hb => (iop_move rfl rfl (lb rfl) (svaI hA rfl rfl)))) ?_
   refine .cons (lopg rfl rfl rfl rfl (by decide) (fun S hA => grd1 hA rfl rfl) (fun S hA hb => (iop_call (r := .int _ _) rfl rfl (lb rfl) cl25 (.cons (svc (d := .agg (v0 a0)) (agr hA rfl rfl) hb) (.cons (svc (d := .int _ _) (agr hA rfl rfl) hb) .nil)) rfl (p_sennitref34_Sum _ _ _ (gd_t hx17 hb))))) ?_
   refine .cons (lopg rfl rfl rfl rfl (by decide) (fun S hA => grd1 hA rfl rfl) (fun S hA hb => (iop_cmpx rfl rfl (lb rfl) (svc (d := .int _ _) (agr hA rfl rfl) hb) (svc (d := .int _ _) (agr hA rfl rfl) hb) rfl hx18))) ?_
   refine .cons (lop rfl rfl fun S hA => (iop_andx rfl rfl (lb rfl) (svaB hA rfl rfl) (agr hA rfl rfl) rfl hx19)) ?_
   refine .cons (lop rfl rfl fun S hA => (iop_move rfl rfl (lb rfl) (svaB hA rfl rfl))) ?_
   refine .cons (lopg rfl rfl rfl rfl (by decide) (fun S hA => grd1 hA rfl rfl) (fun S hA hb => (iop_call (r := .bool _) rfl rfl (lb rfl) cl8 .nil rfl (p_sennitlaw34_awake  _ (gd_t hx20 hb))))) ?_
   refine .cons (lop rfl rfl fun S hA => (iop_andx rfl rfl (lb rfl) (svaB hA rfl rfl) (agr hA rfl rfl) rfl hx21)) ?_
   refine .cons (lop rfl rfl fun S hA => (iop_assign rfl rfl (lb rfl) (svaB hA rfl rfl))) ?_
   exact .nil
  refine iwp_ret ?_
  obtain rfl := Option.some.inj h
  refine ⟨.inr rfl, (.cons (sv rfl) .nil)⟩
end Go.Proofs.Ythjfhdlaockolaa
