/-
  A part of the proof: rules and plain facts. No condition.
-/
import Derived.Test.YtkkpkabamlabdaaProg
import Derived.KernelRfl
import Derived.Test.YtkkpkabamlabdaaIlA28aD
import Derived.Test.YtkkpkabamlabdaaIlA28aC1
set_option linter.all false
set_option linter.unusedSimpArgs false
set_option linter.unusedVariables false
set_option maxRecDepth 8000
set_option maxHeartbeats 2000000
open Go Go.IL Go.Fn Go.Proofs
namespace Go.Proofs.Ytkkpkabamlabdaa
theorem ti23 : TI Try.prog 23 (some (.agg #[.bool false, .bool false, .int .i64 0, .int .i64 0])) 4 24 := by unfold TI; kernel_rfl
theorem ti24 : TI Try.prog 24 (some (.agg #[.bool false, .bool false, .int .i64 0, .int .i64 0, .bool false, .bool false, .int .i64 0, .int .i64 0, .bool false, .bool false, .int .i64 0, .int .i64 0, .bool false, .bool false, .int .i64 0, .int .i64 0])) 16 96 := by unfold TI; kernel_rfl
theorem ti27 : TI Try.prog 27 (some (.agg #[.bool false, .bool false, .int .i64 0, .int .i64 0, .bool false, .bool false, .int .i64 0, .int .i64 0, .bool false, .bool false, .int .i64 0, .int .i64 0, .bool false, .bool false, .int .i64 0, .int .i64 0, .int .i64 0, .slice none 0 0])) 18 128 := by unfold TI; kernel_rfl
theorem ti87 : TI Try.prog 87 (some (.agg #[.int .i64 0, .int .i64 0])) 2 16 := by unfold TI; kernel_rfl
theorem ag23 : aggOf Try.prog 23 = true := by kernel_rfl
theorem ag24 : aggOf Try.prog 24 = true := by kernel_rfl
theorem ag27 : aggOf Try.prog 27 = true := by kernel_rfl
theorem ag87 : aggOf Try.prog 87 = true := by kernel_rfl
theorem ex55 : ExternAt Try.prog 55 Extern.MathFloatBits.float64bits := ⟨Try.f55, Try.func55, by kernel_rfl, by kernel_rfl, by kernel_rfl, by kernel_rfl⟩
theorem ex76 : ExternAt Try.prog 76 Extern.MathFloatBits.float64frombits := ⟨Try.f76, Try.func76, by kernel_rfl, by kernel_rfl, by kernel_rfl, by kernel_rfl⟩
theorem pl27 : ∀ w, (Array.mapM (m := Sem) (fun (f : Field) => Functor.map (Prod.mk f.offset) (sizeOf f.type)) (fieldsOf Try.prog 27)).run Try.prog w = .ok #[(0, 16), (16, 1), (17, 1)] w := fun w => by kernel_rfl
theorem pl87 : ∀ w, (Array.mapM (m := Sem) (fun (f : Field) => Functor.map (Prod.mk f.offset) (sizeOf f.type)) (fieldsOf Try.prog 87)).run Try.prog w = .ok #[(0, 1), (1, 1)] w := fun w => by kernel_rfl
theorem st24 : Try.prog.stoodInHeld 24 = false ∧ Try.prog.eqGuardType Try.prog.depth 24 = false := ⟨by kernel_rfl, by kernel_rfl⟩
theorem st32 : Try.prog.stoodInHeld 32 = false ∧ Try.prog.eqGuardType Try.prog.depth 32 = false := ⟨by kernel_rfl, by kernel_rfl⟩
theorem st86 : Try.prog.stoodInHeld 86 = false ∧ Try.prog.eqGuardType Try.prog.depth 86 = false := ⟨by kernel_rfl, by kernel_rfl⟩
theorem st87 : Try.prog.stoodInHeld 87 = false ∧ Try.prog.eqGuardType Try.prog.depth 87 = false := ⟨by kernel_rfl, by kernel_rfl⟩
theorem cl10 : Callable Try.prog 10 := ⟨Try.f10, Try.func10, rfl, rfl⟩
theorem cl12 : Callable Try.prog 12 := ⟨Try.f12, Try.func12, rfl, rfl⟩
theorem cl14 : Callable Try.prog 14 := ⟨Try.f14, Try.func14, rfl, rfl⟩
theorem cl16 : Callable Try.prog 16 := ⟨Try.f16, Try.func16, rfl, rfl⟩
theorem cl20 : Callable Try.prog 20 := ⟨Try.f20, Try.func20, rfl, rfl⟩
theorem cl21 : Callable Try.prog 21 := ⟨Try.f21, Try.func21, rfl, rfl⟩
theorem cl23 : Callable Try.prog 23 := ⟨Try.f23, Try.func23, rfl, rfl⟩
theorem cl26 : Callable Try.prog 26 := ⟨Try.f26, Try.func26, rfl, rfl⟩
theorem cl29 : Callable Try.prog 29 := ⟨Try.f29, Try.func29, rfl, rfl⟩
theorem cl31 : Callable Try.prog 31 := ⟨Try.f31, Try.func31, rfl, rfl⟩
theorem cl32 : Callable Try.prog 32 := ⟨Try.f32, Try.func32, rfl, rfl⟩
theorem cl33 : Callable Try.prog 33 := ⟨Try.f33, Try.func33, rfl, rfl⟩
theorem cl34 : Callable Try.prog 34 := ⟨Try.f34, Try.func34, rfl, rfl⟩
theorem cl35 : Callable Try.prog 35 := ⟨Try.f35, Try.func35, rfl, rfl⟩
theorem cl39 : Callable Try.prog 39 := ⟨Try.f39, Try.func39, rfl, rfl⟩
theorem cl42 : Callable Try.prog 42 := ⟨Try.f42, Try.func42, rfl, rfl⟩
theorem cl44 : Callable Try.prog 44 := ⟨Try.f44, Try.func44, rfl, rfl⟩
theorem cl45 : Callable Try.prog 45 := ⟨Try.f45, Try.func45, rfl, rfl⟩
theorem cl50 : Callable Try.prog 50 := ⟨Try.f50, Try.func50, rfl, rfl⟩
theorem cl51 : Callable Try.prog 51 := ⟨Try.f51, Try.func51, rfl, rfl⟩
theorem cl53 : Callable Try.prog 53 := ⟨Try.f53, Try.func53, rfl, rfl⟩
theorem cl54 : Callable Try.prog 54 := ⟨Try.f54, Try.func54, rfl, rfl⟩
theorem cl59 : Callable Try.prog 59 := ⟨Try.f59, Try.func59, rfl, rfl⟩
theorem cl60 : Callable Try.prog 60 := ⟨Try.f60, Try.func60, rfl, rfl⟩
theorem cl62 : Callable Try.prog 62 := ⟨Try.f62, Try.func62, rfl, rfl⟩
theorem cl63 : Callable Try.prog 63 := ⟨Try.f63, Try.func63, rfl, rfl⟩
theorem cl72 : Callable Try.prog 72 := ⟨Try.f72, Try.func72, rfl, rfl⟩
theorem cl73 : Callable Try.prog 73 := ⟨Try.f73, Try.func73, rfl, rfl⟩
def la23 := LA.mk Try.underlying23 ag23 ti23 (by decide)
def la24 := LA.mk Try.underlying24 ag24 ti24 (by decide)
def la27 := LA.mk Try.underlying27 ag27 ti27 (by decide)
def la86 := LA.mk Try.underlying86 ag86 ti86 (by decide)


theorem p_slices_IndexFunc_paths_Bind_paths_Bind_Fall_1 (a0 : (List T_paths_Bind)) (a1 : Int) (r : Int) (h : slices_IndexFunc_paths_Bind_paths_Bind_Fall_1 a0 a1 = some r) : PureAt Try.prog 65 [.slice false (a0.map E_paths_Bind.d), .fn 45 [.fptr [.int .i64 a1]]] (.int .i64 r) := by
 refine pure_of_iwp (rs := [.int .i64 r]) Try.func65 rfl Try.ntmps65 (nle rfl) rfl fun O hO => ?_
 show IWP _ _ _ _ ⟨[(0, .slice false (a0.map E_paths_Bind.d)), (1, .fn 45 [.fptr [.int .i64 a1]])], []⟩ _
 unfold slices_IndexFunc_paths_Bind_paths_Bind_Fall_1 at h
 refine iwp_reg (ils_cons rfl (iop_assign rfl rfl (lb rfl) (sv (d := .int _ 0) rfl)) <|
  ils_end ?_)
 refine iwp_seq ?_
 refine iwp_reg (ils_cons rfl (mvL rfl rfl rfl rfl) <|
  ils_cons rfl (iop_lenT E_paths_Bind (l := a0) rfl rfl (lb rfl) Try.underlying33 (svL rfl)) <|
  ils_cons rfl (iop_move rfl rfl (lb rfl) (sv (d := .int _ 0) rfl)) <|
  ils_end ?_)
 refine iwp_block ?_
 refine iwp_loopP (α := Nat × Int) (fun z => ⟨[(0, .slice false (a0.map E_paths_Bind.d)), (1, .fn 45 [.fptr [.int .i64 a1]]), (7, .int .i64 (a0.length : Int)), (8, .int .i64 z.2)], []⟩) (fun z => slices_IndexFunc_paths_Bind_paths_Bind_Fall_1_L0 a0 a1 z.1 z.2 = some r) (fun z => z.1) (fuel, 0) (fun i => i) ⟨(.sames rfl rfl), .nil, nd_of [] rfl (by decide), fun _ _ => rfl⟩ ?_ ?_
 ·exact h
 ·
  rintro ⟨n0, v7⟩ h
  cases n0 with
  | zero => exact absurd h (by unfold slices_IndexFunc_paths_Bind_paths_Bind_Fall_1_L0; exact nofun)
  | succ n0 =>
   unfold slices_IndexFunc_paths_Bind_paths_Bind_Fall_1_L0 at h
   obtain ⟨x14, hx14, h⟩ := bnd_e h
   refine iwp_reg (ils_cons rfl (iop_cmpx rfl rfl (lb rfl) (svI rfl) (svI rfl) rfl hx14) <|
    ils_end ?_)
   refine iwp_seq ?_
   refine iwp_cond (b := _) rfl (fun hc15 => ?_) (fun hc15 => ?_)
   ·
    replace h := bif_t h hc15
    refine iwp_skip ?_
    refine thenQ_n ?_
    refine iwp_seq ?_
    refine iwp_block ?_
    refine iwp_reg (ils_cons rfl (mvI rfl rfl rfl rfl) <|
     ils_cons rfl (asI rfl rfl rfl rfl) <|
     ils_end ?_)
    obtain ⟨x16, hx16, h⟩ := bno_e h
    obtain ⟨x17, hx17, h⟩ := bno_e h
    refine iwp_reg (ils_cons rfl (iop_move rfl rfl (lb rfl) (sv (d := .fn 45 [.fptr [.int _ _]]) rfl)) <|
     ils_cons rfl (mvL rfl rfl rfl rfl) <|
     ils_cons rfl (mvI rfl rfl rfl rfl) <|
     ils_cons rfl (iop_idxT E_paths_Bind (cs := q8) rfl rfl (lb rfl) Try.underlying33 ti86 (svL rfl) (svI rfl) hx16 rfl rfl) <|
     ils_cons rfl (iop_load_fa (cs := q8) rfl rfl (lb rfl) Try.underlying86 ag86 ti86 (by decide) (sv (d := .fptr q8) rfl) (nle rfl) rfl) <|
     ils_cons rfl (iop_callv (r := .bool _) rfl rfl (lb rfl) cl45 (sv (d := .fn 45 [.fptr [.int _ _]]) rfl) (.cons (svA q8 rfl) .nil) rfl (p_paths_Fall_1 _ _ _ hx17)) <|
     ils_end ?_)
    refine iwp_cond (b := _) rfl (fun hc18 => ?_) (fun hc18 => ?_)
    ·
     replace h := bif_t h hc18
     refine iwp_reg (ils_cons rfl (mvI rfl rfl rfl rfl) <|
      ils_cons rfl (asI rfl rfl rfl rfl) <|
      ils_end ?_)
     refine iwp_ret ?_
     refine blockQ_r ?_
     refine thenQ_r ?_
     refine thenQ_r ?_
     refine blockQ_r ?_
     refine thenQ_r ?_
     obtain rfl := Option.some.inj h
     refine ⟨.inr rfl, (.cons (sv rfl) .nil)⟩
    ·
     replace h := bif_f h hc18
     refine iwp_skip ?_
     refine blockQ_n ?_
     refine thenQ_n ?_
     obtain ⟨x19, hx19, h⟩ := bnd_e h
     refine iwp_region (ils_cons rfl (iop_intx rfl rfl (lb rfl) (svI rfl) (sv (d := .int _ 1) rfl) rfl hx19) <|
      ils_cons rfl (mvI rfl rfl rfl rfl) <|
      ils_nil ?_)
     refine thenQ_n ⟨(n0, x19), (fun i => i), ⟨(.sames rfl rfl), .nil, nd_of [] rfl (by decide), fun _ _ => rfl⟩, ?_, ?_⟩
     exact h
     exact Nat.lt_succ_self _
   ·
    replace h := bif_f h hc15
    refine iwp_exit ?_
    refine thenQ_e ?_
    refine thenQ_e ?_
    refine blockQ_e ?_
    refine thenQ_n ?_
    refine iwp_reg (ils_cons rfl (iop_assign rfl rfl (lb rfl) (sv (d := .int _ (-1)) rfl)) <|
     ils_end ?_)
    refine iwp_ret ?_
    obtain rfl := Option.some.inj h
    refine ⟨.inr rfl, (.cons (sv rfl) .nil)⟩

theorem p_slices_DeleteFunc_paths_Bind_paths_Bind_h_Fall_1 (a0 : (List T_paths_Bind)) (a1 : Int) (r : (List T_paths_Bind)) (h : slices_DeleteFunc_paths_Bind_paths_Bind_h_Fall_1 a0 a1 = some r) : FnH Try.prog 44 [.osl 1000 E_paths_Bind.sz a0.length, .fn 45 [.ref 1001 0]] [(1000, .blk 86 (D.flat (a0.map E_paths_Bind.d))), (1001, .blk 3 [.int .i64 a1])] (.osl 0 E_paths_Bind.sz r.length) [(1001, .blk 3 [.int .i64 a1]), (0, .blk 86 (D.flat (r.map E_paths_Bind.d)))] := by
 refine fnh_of_iwp (rs := [.osl 0 E_paths_Bind.sz r.length]) Try.func44 rfl Try.ntmps44 (nle rfl) fun O hO => ?_
 show IWP _ _ _ _ ⟨[(0, .osl 1000 E_paths_Bind.sz a0.length), (1, .fn 45 [.ref 1001 0])], [(1000, .blk 86 (D.flat (a0.map E_paths_Bind.d))), (1001, .blk 3 [.int .i64 a1])]⟩ _
 unfold slices_DeleteFunc_paths_Bind_paths_Bind_h_Fall_1 at h
 refine iwp_reg (ils_cons rfl (iop_assign rfl rfl (lb rfl) (sv (d := .nils) rfl)) <|
  ils_end ?_)
 obtain ⟨x1, hx1, h⟩ := bno_e h
 refine iwp_reg (ils_cons rfl (iop_move rfl rfl (lb rfl) (sv (d := .osl _ _ _) rfl)) <|
  ils_cons rfl (iop_move rfl rfl (lb rfl) (sv (d := .fn 45 [.ref _ _]) rfl)) <|
  ils_cons rfl (iop_callp (r := .int .i64 x1) rfl rfl (lb rfl) cl65 (.cons (sv (d := .osl _ _ _) rfl) (.cons (sv (d := .fn 45 [.ref _ _]) rfl) .nil)) (.cons (FDT E_paths_Bind rfl rfl) (.cons (.fn (.cons (.ref rfl rfl (fdl_refl _) rfl) .nil)) .nil)) rfl rfl (p_slices_IndexFunc_paths_Bind_paths_Bind_Fall_1 _ _ _ hx1)) <|
  ils_cons rfl (asI rfl rfl rfl rfl) <|
  ils_end ?_)
 refine iwp_seq ?_
 obtain ⟨x2, hx2, h⟩ := bnd_e h
 refine iwp_reg (ils_cons rfl (mvI rfl rfl rfl rfl) <|
  ils_cons rfl (iop_cmpx rfl rfl (lb rfl) (svI rfl) (sv (d := .int _ (-1)) rfl) rfl hx2) <|
  ils_end ?_)
 refine iwp_cond (b := _) rfl (fun hc3 => ?_) (fun hc3 => ?_)
 ·
  replace h := bif_t h hc3
  refine iwp_reg (ils_cons rfl (iop_move rfl rfl (lb rfl) (sv (d := .osl _ _ _) rfl)) <|
   ils_cons rfl (iop_assign rfl rfl (lb rfl) (sv (d := .osl _ _ _) rfl)) <|
   ils_end ?_)
  refine iwp_ret ?_
  refine thenQ_r ?_
  obtain rfl := Option.some.inj h
  refine ⟨.inr rfl, (fun i => if i = 0 then 1000 else i), ⟨.nil, (.cons (.blk rfl rfl rfl) (.cons (EntW.lst rfl) .nil)), nd_of [1001, 1000] rfl (by decide), (fun i hi => by first | rfl | (show (if _ then _ else _) = _; (repeat' split) <;> omega))⟩, (.cons (sv rfl) .nil), rfl⟩
 ·
  replace h := bif_f h hc3
  refine iwp_skip ?_
  refine thenQ_n ?_
  refine iwp_seq ?_
  obtain ⟨x4, hx4, h⟩ := bnd_e h
  refine iwp_reg (ils_cons rfl (mvI rfl rfl rfl rfl) <|
   ils_cons rfl (iop_intx rfl rfl (lb rfl) (svI rfl) (sv (d := .int _ 1) rfl) rfl hx4) <|
   ils_cons rfl (asI rfl rfl rfl rfl) <|
   ils_end ?_)
  refine iwp_block ?_
  refine iwp_loopP (α := Nat × (List T_paths_Bind) × Int × Int) (fun z => ⟨[(0, .osl 1000 E_paths_Bind.sz z.2.1.length), (1, .fn 45 [.ref 1001 0]), (5, .int .i64 z.2.2.1), (6, .int .i64 z.2.2.2)], [(1000, .blk 86 (D.flat (z.2.1.map E_paths_Bind.d))), (1001, .blk 3 [.int .i64 a1])]⟩) (fun z => slices_DeleteFunc_paths_Bind_paths_Bind_h_Fall_1_L0 a1 z.1 z.2.1 z.2.2.1 z.2.2.2 = some r) (fun z => z.1) (fuel, a0, x1, x4) (fun i => i) ⟨(.sames rfl rfl), (.cons (EntW.lst rfl) (.cons (.blk rfl rfl rfl) .nil)), nd_of [1000, 1001] rfl (by decide), fun _ _ => rfl⟩ ?_ ?_
  ·exact h
  ·
   rintro ⟨n0, v17, v18, v19⟩ h
   cases n0 with
   | zero => exact absurd h (by unfold slices_DeleteFunc_paths_Bind_paths_Bind_h_Fall_1_L0; exact nofun)
   | succ n0 =>
    unfold slices_DeleteFunc_paths_Bind_paths_Bind_h_Fall_1_L0 at h
    refine iwp_seq ?_
    obtain ⟨x32, hx32, h⟩ := bnd_e h
    refine iwp_reg (ils_cons rfl (mvI rfl rfl rfl rfl) <|
     ils_cons rfl (iop_move rfl rfl (lb rfl) (sv (d := .osl _ _ _) rfl)) <|
     ils_cons rfl (iop_lenO rfl rfl (lb rfl) Try.underlying33 (sv (d := .osl _ _ _) rfl)) <|
     ils_cons rfl (iop_cmpx rfl rfl (lb rfl) (svI rfl) (svI rfl) rfl hx32) <|
     ils_end ?_)
    refine iwp_cond (b := _) rfl (fun hc33 => ?_) (fun hc33 => ?_)
    ·
     replace h := bif_t h hc33
     refine iwp_skip ?_
     refine thenQ_n ?_
     refine iwp_seq ?_
     refine iwp_block ?_
     obtain ⟨x34, hx34, h⟩ := bno_e h
     obtain ⟨x35, hx35, h⟩ := bno_e h
     refine iwp_reg (ils_cons rfl (iop_move rfl rfl (lb rfl) (sv (d := .osl _ _ _) rfl)) <|
      ils_cons rfl (mvI rfl rfl rfl rfl) <|
      ils_cons rfl (iop_idxO E_paths_Bind.toEnc0 rfl rfl (lb rfl) Try.underlying33 ti86 (sv (d := .osl _ _ _) rfl) rfl (svI rfl) hx34) <|
      ils_cons rfl (iop_loadEa E_paths_Bind.toEnc0 (cs := q8) rfl rfl (lb rfl) Try.underlying86 ag86 ti86 (by decide) (svR rfl) rfl hx35 (nle rfl) rfl) <|
      ils_cons rfl (iop_allocS (cs := q8) (cs' := [.int .i64 0, .int .i64 0]) 0 rfl rfl (lb rfl) rfl ti86 rfl rfl (.all _)) <|
      ils_cons rfl (stA q8 q8 ti86 rfl rfl rfl rfl rfl rfl rfl rfl (nle rfl) rfl) <|
      ils_end ?_)
     obtain ⟨x36, hx36, h⟩ := bno_e h
     refine iwp_reg (ils_cons rfl (iop_move rfl rfl (lb rfl) (sv (d := .fn 45 [.ref _ _]) rfl)) <|
      ils_cons rfl (lra q8 la86 rfl rfl rfl rfl rfl (nle rfl) rfl) <|
      ils_cons rfl (iop_callvp (r := .bool x36) rfl rfl (lb rfl) cl45 (sv (d := .fn 45 [.ref _ _]) rfl) (.cons (svA q8 rfl) .nil) (.k (.cons (.ref rfl rfl (fdl_refl _) rfl) .nil)) rfl rfl (p_paths_Fall_1 _ _ _ hx36)) <|
      ils_cons rfl (iop_not rfl rfl (lb rfl) (svB rfl)) <|
      ils_end ?_)
     refine iwp_cond (b := _) rfl (fun hc37 => ?_) (fun hc37 => ?_)
     ·
      replace h := bif_t h hc37
      obtain ⟨x38, hx38, h⟩ := bno_e h
      obtain ⟨x39, hx39, h⟩ := bno_e h
      obtain ⟨x40, hx40, h⟩ := bnd_e h
      refine iwp_reg (ils_cons rfl (iop_move rfl rfl (lb rfl) (sv (d := .osl _ _ _) rfl)) <|
       ils_cons rfl (mvI rfl rfl rfl rfl) <|
       ils_cons rfl (lra q8 la86 rfl rfl rfl rfl rfl (nle rfl) rfl) <|
       ils_cons rfl (iop_idxO E_paths_Bind.toEnc0 rfl rfl (lb rfl) Try.underlying33 ti86 (sv (d := .osl _ _ _) rfl) rfl (svI rfl) hx38) <|
       ils_cons rfl (iop_storeE E_paths_Bind.toEnc0 (a' := x35) rfl rfl ti86 (svR rfl) rfl (svA q8 rfl) rfl rfl rfl hx39 (nle rfl) rfl hx40) <|
       ils_end ?_)
      obtain ⟨x41, hx41, h⟩ := bnd_e h
      refine iwp_region (ils_cons rfl (mvI rfl rfl rfl rfl) <|
       ils_cons rfl (iop_intx rfl rfl (lb rfl) (svI rfl) (sv (d := .int _ 1) rfl) rfl hx41) <|
       ils_cons rfl (asI rfl rfl rfl rfl) <|
       ils_nil ?_)
      refine blockQ_n ?_
      refine thenQ_n ?_
      obtain ⟨x42, hx42, h⟩ := bnd_e h
      refine iwp_region (ils_cons rfl (mvI rfl rfl rfl rfl) <|
       ils_cons rfl (iop_intx rfl rfl (lb rfl) (svI rfl) (sv (d := .int _ 1) rfl) rfl hx42) <|
       ils_cons rfl (asI rfl rfl rfl rfl) <|
       ils_nil ?_)
      refine thenQ_n ⟨(n0, x40, x41, x42), (fun i => i), ⟨(.cons (.same (congrArg (D.osl _ _) (len_set hx40 rfl).symm) rfl) (.sames rfl rfl)), (.cons (EntW.lst rfl) (.cons (.blk rfl rfl rfl) .nil)), nd_of [1000, 1001] rfl (by decide), fun _ _ => rfl⟩, ?_, ?_⟩
      exact h
      exact Nat.lt_succ_self _
     ·
      replace h := bif_f h hc37
      refine iwp_skip ?_
      refine blockQ_n ?_
      refine thenQ_n ?_
      obtain ⟨x43, hx43, h⟩ := bnd_e h
      refine iwp_region (ils_cons rfl (mvI rfl rfl rfl rfl) <|
       ils_cons rfl (iop_intx rfl rfl (lb rfl) (svI rfl) (sv (d := .int _ 1) rfl) rfl hx43) <|
       ils_cons rfl (asI rfl rfl rfl rfl) <|
       ils_nil ?_)
      refine thenQ_n ⟨(n0, v17, v18, x43), (fun i => i), ⟨(.sames rfl rfl), (.cons (EntW.lst rfl) (.cons (.blk rfl rfl rfl) .nil)), nd_of [1000, 1001] rfl (by decide), fun _ _ => rfl⟩, ?_, ?_⟩
      exact h
      exact Nat.lt_succ_self _
    ·
     replace h := bif_f h hc33
     refine iwp_exit ?_
     refine thenQ_e ?_
     refine thenQ_e ?_
     refine blockQ_e ?_
     refine thenQ_n ?_
     obtain ⟨x44, hx44, h⟩ := bno_e h
     refine iwp_reg (ils_cons rfl (iop_move rfl rfl (lb rfl) (sv (d := .osl _ _ _) rfl)) <|
      ils_cons rfl (mvI rfl rfl rfl rfl) <|
      ils_clrtail E_paths_Bind.toEnc0 rfl rfl rfl rfl (by decide) rfl rfl Try.underlying33 ti86 rfl rfl rfl rfl rfl (fun S1 h9 => sv ((h9 37 (by decide)).trans rfl)) hx44 <|
      ils_end ?_)
     obtain ⟨x45, hx45, h⟩ := bno_e h
     refine iwp_reg (ils_cons rfl (iop_move rfl rfl (lb rfl) (sv (d := .osl _ _ _) rfl)) <|
      ils_cons rfl (mvI rfl rfl rfl rfl) <|
      ils_cons rfl (iop_truncO E_paths_Bind.toEnc0 rfl rfl (lb rfl) Try.underlying33 ti86 (sv (d := .osl _ _ _) rfl) rfl (Nat.le_trans (cut_le hx44) (Nat.le_of_eq rfl)) (svI rfl) hx45) <|
      ils_cons rfl (iop_assign rfl rfl (lb rfl) (sv (d := .osl _ _ _) rfl)) <|
      ils_end ?_)
     refine iwp_ret ?_
     obtain rfl := Option.some.inj h
     refine ⟨.inr rfl, (fun i => if i = 0 then 1000 else i), ⟨.nil, (.cons (.blk rfl rfl rfl) (.cons (EntW.lst rfl) .nil)), nd_of [1001, 1000] rfl (by decide), (fun i hi => by first | rfl | (show (if _ then _ else _) = _; (repeat' split) <;> omega))⟩, (.cons (sv rfl) .nil), rfl⟩

theorem p_paths_Fall (a0 : T_paths_State) (a1 : Int) (r : (T_paths_State × (List Int) × Bool)) (h : paths_Fall a0 a1 = some r) : PureAt Try.prog 12 [.agg (v0 a0), .int .i64 a1] (retD [.agg (v0 r.1), .slice false (r.2.1.map (eInt .i64).d), .bool r.2.2]) := by
 refine pure_of_iwpF (rs := [.agg (v0 r.1), .slice false (r.2.1.map (eInt .i64).d), .bool r.2.2]) Try.func12 rfl Try.ntmps12 (nle rfl) rfl fun O hO => ?_
 show IWP _ _ _ _ ⟨[(0, .agg (v0 a0)), (1, .int .i64 a1)], []⟩ _
 unfold paths_Fall at h
 refine iwp_reg (ils_cons rfl (iop_box' (cs := q3) 0 rfl rfl (lb rfl) rfl (svA q3 rfl) rfl rfl) <|
  ils_cons rfl (iop_box' (cs := [.int _ _]) 1 rfl rfl (lb rfl) rfl (svI rfl) rfl rfl) <|
  ils_cons rfl (iop_allocS (cs := q5) (cs' := (w13 false false 0 0 false false 0 0 false false 0 0 false false 0 0 0 ([] : List T_paths_Bind))) 2 rfl rfl (lb rfl) rfl ti35 rfl rfl (.k4 (.k (.k4 (.k (.k4 (.k (.k (.k (.cons (.nils _) .nil)))))))))) <|
  ils_cons rfl (iop_assign rfl rfl (lb rfl) (sv (d := .nils) rfl)) <|
  ils_cons rfl (iop_assign rfl rfl (lb rfl) (sv (d := .bool false) rfl)) <|
  ils_end ?_)
 obtain ⟨x1, hx1, h⟩ := bno_e h
 refine iwp_reg (ils_cons rfl (lra q3 la35 rfl rfl rfl rfl rfl (nle rfl) rfl) <|
  ils_cons rfl (iop_callh2 (r' := .agg (w14 x1.1 x1.2.1 x1.2.2.1 x1.2.2.2.1 x1.2.2.2.2.1 x1.2.2.2.2.2.1 x1.2.2.2.2.2.2.1 x1.2.2.2.2.2.2.2.1 x1.2.2.2.2.2.2.2.2.1 x1.2.2.2.2.2.2.2.2.2.1 x1.2.2.2.2.2.2.2.2.2.2.1 x1.2.2.2.2.2.2.2.2.2.2.2.1 x1.2.2.2.2.2.2.2.2.2.2.2.2.1 x1.2.2.2.2.2.2.2.2.2.2.2.2.2.1 x1.2.2.2.2.2.2.2.2.2.2.2.2.2.2.1 x1.2.2.2.2.2.2.2.2.2.2.2.2.2.2.2.1 x1.2.2.2.2.2.2.2.2.2.2.2.2.2.2.2.2.1 (.osl 3 E_paths_Bind.sz x1.2.2.2.2.2.2.2.2.2.2.2.2.2.2.2.2.2.length))) (H1' := [(3, .blk 86 (D.flat (x1.2.2.2.2.2.2.2.2.2.2.2.2.2.2.2.2.2.map E_paths_Bind.d)))]) 3 [] rfl rfl (lb rfl) cl40 (.cons (svA q3 rfl) .nil) rfl rfl ⟨rfl, rfl, by decide, rfl, List.forall_mem_nil _⟩ (p_paths_State_own_h _ _ hx1) rfl rfl (List.forall_mem_cons.2 ⟨⟨rfl, (handLr E_paths_Bind)⟩, List.forall_mem_nil _⟩) (by simp only [List.map_cons, List.map_nil, Ent.ren, renL_flat, renL_ref]; rfl)) <|
  ils_cons rfl (iop_allocS (cs := q5) (cs' := (w13 false false 0 0 false false 0 0 false false 0 0 false false 0 0 0 ([] : List T_paths_Bind))) 4 rfl rfl (lb rfl) rfl ti35 rfl rfl (.k4 (.k (.k4 (.k (.k4 (.k (.k (.k (.cons (.nils _) .nil)))))))))) <|
  ils_cons rfl (stA q4 q4 ti35 rfl rfl rfl rfl rfl rfl rfl rfl (nle rfl) rfl) <|
  ils_end ?_)
 refine iwp_seq ?_
 obtain ⟨x2, hx2, h⟩ := bno_e h
 obtain ⟨x3, hx3, h⟩ := bno_e h
 obtain ⟨x4, hx4, h⟩ := bnd_e h
 obtain ⟨x5, hx5, h⟩ := bnd_e h
 refine iwp_reg (ils_cons rfl (lra q3 la35 rfl rfl rfl rfl rfl (nle rfl) rfl) <|
  ils_cons rfl (iop_load_rs (d := .int _ _) rfl rfl (lb rfl) Try.underlying3 ag3 ti3 (by decide) (svR rfl) rfl (nle rfl) rfl) <|
  ils_cons rfl (iop_call (r := .bool _) rfl rfl (lb rfl) cl43 (.cons (svA q3 rfl) (.cons (svI rfl) .nil)) rfl (p_paths_State_up _ _ _ hx2)) <|
  ils_cons rfl (iop_not rfl rfl (lb rfl) (svB rfl)) <|
  ils_cons rfl (mvB rfl rfl rfl rfl) <|
  ils_guard rfl rfl (.one rfl) rfl (by decide) (fun hb => (lra q3 la35 rfl rfl rfl rfl rfl (nle rfl) rfl)) <|
  ils_guard rfl rfl (.one rfl) rfl (by decide) (fun hb => (iop_call (r := .int _ _) rfl rfl (lb rfl) cl28 (.cons (svcA (v0 a0) rfl hb) .nil) rfl (p_paths_Check _ _ (gd_t hx3 hb)))) <|
  ils_guard rfl rfl (.one rfl) rfl (by decide) (fun hb => (iop_cmpx rfl rfl (lb rfl) (svcI rfl hb) (sv (d := .int _ 0) rfl) rfl hx4)) <|
  ils_cons rfl (iop_orx rfl rfl (lb rfl) (svB rfl) rfl rfl hx5) <|
  ils_end ?_)
 refine iwp_cond (b := _) rfl (fun hc6 => ?_) (fun hc6 => ?_)
 ·
  replace h := bif_t h hc6
  refine iwp_reg (ils_cons rfl (lra q4 la35 rfl rfl rfl rfl rfl (nle rfl) rfl) <|
   ils_cons rfl (stA q4 q4 ti35 rfl rfl rfl rfl rfl rfl rfl rfl (nle rfl) rfl) <|
   ils_cons rfl (iop_assign rfl rfl (lb rfl) (sv (d := .nils) rfl)) <|
   ils_cons rfl (iop_assign rfl rfl (lb rfl) (sv (d := .bool false) rfl)) <|
   ils_end ?_)
  refine iwp_ret ?_
  refine thenQ_r ?_
  obtain rfl := Option.some.inj h
  refine ⟨.inr rfl, _, (.cons (rva la35 rfl rfl (nle rfl) rfl) (.cons (sv rfl) (.cons (sv rfl) .nil))), (.cons (.agg (.k4 (.k (.k4 (.k (.k4 (.k (.k (.k (.cons (FDT E_paths_Bind rfl rfl) .nil)))))))))) (.cons (.nils _) (.all _)))⟩
 ·
  replace h := bif_f h hc6
  refine iwp_skip ?_
  refine thenQ_n ?_
  obtain ⟨hk7, h⟩ := chk_e h
  obtain ⟨x8, hx8, h⟩ := bnd_e h
  obtain ⟨x9, hx9, h⟩ := bnd_e h
  obtain ⟨x10, hx10, h⟩ := bnd_e h
  obtain ⟨x11, hx11, h⟩ := bnd_e h
  obtain ⟨hk12, h⟩ := chk_e h
  obtain ⟨x13, hx13, h⟩ := bnd_e h
  obtain ⟨x14, hx14, h⟩ := bnd_e h
  obtain ⟨x15, hx15, h⟩ := bnd_e h
  obtain ⟨x16, hx16, h⟩ := bnd_e h
  refine iwp_drw rfl [⟨[3], [1], [(23, .int .i64 a1)], []⟩,
   ⟨[3], [1], [(24, .int .i64 a1)], []⟩,
   ⟨[7], [], [(25, .ref 4 0)], []⟩,
   ⟨[23, 25], [], [(26, .ref 4 (0 + (a1 : Int).toNat * 4 + 0))], []⟩,
   ⟨[26], [], [(27, .ref 4 (0 + (a1 : Int).toNat * 4 + 0))], []⟩,
   ⟨[27], [4], [], [(4, .blk 35 (w14 x8.Up x8.Dead x8.Bytes x8.Ticks x9.Up x9.Dead x9.Bytes x9.Ticks x10.Up x10.Dead x10.Bytes x10.Ticks x11.Up x11.Dead x11.Bytes x11.Ticks x1.2.2.2.2.2.2.2.2.2.2.2.2.2.2.2.2.1 (.osl 3 E_paths_Bind.sz x1.2.2.2.2.2.2.2.2.2.2.2.2.2.2.2.2.2.length)))]⟩,
   ⟨[7], [], [(28, .ref 4 0)], []⟩,
   ⟨[24, 28], [], [(29, .ref 4 (0 + (a1 : Int).toNat * 4 + 0))], []⟩,
   ⟨[29], [], [(30, .ref 4 (0 + (a1 : Int).toNat * 4 + 1))], []⟩,
   ⟨[30], [4], [], [(4, .blk 35 (w14 x13.Up x13.Dead x13.Bytes x13.Ticks x14.Up x14.Dead x14.Bytes x14.Ticks x15.Up x15.Dead x15.Bytes x15.Ticks x16.Up x16.Dead x16.Bytes x16.Ticks x1.2.2.2.2.2.2.2.2.2.2.2.2.2.2.2.2.1 (.osl 3 E_paths_Bind.sz x1.2.2.2.2.2.2.2.2.2.2.2.2.2.2.2.2.2.length)))]⟩] rfl ?_ (by kernel_rfl) ?_
  ·refine .cons (lop rfl rfl fun S hA => (iop_load_rs (d := .int _ _) rfl rfl (lb rfl) Try.underlying3 ag3 ti3 (by decide) (svaR hA rfl rfl) (agi hA rfl rfl) (nle rfl) rfl)) ?_
   refine .cons (lop rfl rfl fun S hA => (iop_load_rs (d := .int _ _) rfl rfl (lb rfl) Try.underlying3 ag3 ti3 (by decide) (svaR hA rfl rfl) (agi hA rfl rfl) (nle rfl) rfl)) ?_
   refine .cons (lop rfl rfl fun S hA => (iop_fieldAddr_ref rfl rfl (lb rfl) Try.underlying35 rfl ti32 (by decide) (svaR hA rfl rfl) (off' := 0) rfl)) ?_
   refine .cons (lop rfl rfl fun S hA => (iop_index_sel rfl rfl (lb rfl) Try.underlying32 ti31 (svaR hA rfl rfl) (svaI hA rfl rfl) hk7)) ?_
   refine .cons (lop rfl rfl fun S hA => (iop_field_sel rfl rfl (lb rfl) Try.underlying31 rfl ti4 (by decide) (svaR hA rfl rfl) (k' := 0) rfl)) ?_
   refine .cons (lop rfl rfl fun S hA => (iop_store_sel (b := 0) (k := 0) (sz := 4) (cs' := (w14 x8.Up x8.Dead x8.Bytes x8.Ticks x9.Up x9.Dead x9.Bytes x9.Ticks x10.Up x10.Dead x10.Bytes x10.Ticks x11.Up x11.Dead x11.Bytes x11.Ticks x1.2.2.2.2.2.2.2.2.2.2.2.2.2.2.2.2.1 (.osl 3 E_paths_Bind.sz x1.2.2.2.2.2.2.2.2.2.2.2.2.2.2.2.2.2.length))) rfl rfl ti4 (svaR hA rfl rfl) (agi hA rfl rfl) (sv (d := .bool false) rfl) rfl rfl rfl hk7 rfl ⟨⟨⟨⟨trivial, fun h => by rw [← hx8, ← hx9, ← hx10, ← hx11, h]; rfl⟩, fun h => by rw [← hx8, ← hx9, ← hx10, ← hx11, h]; rfl⟩, fun h => by rw [← hx8, ← hx9, ← hx10, ← hx11, h]; rfl⟩, fun h => by rw [← hx8, ← hx9, ← hx10, ← hx11, h]; rfl⟩)) ?_
   refine .cons (lop rfl rfl fun S hA => (iop_fieldAddr_ref rfl rfl (lb rfl) Try.underlying35 rfl ti32 (by decide) (svaR hA rfl rfl) (off' := 0) rfl)) ?_
   refine .cons (lop rfl rfl fun S hA => (iop_index_sel rfl rfl (lb rfl) Try.underlying32 ti31 (svaR hA rfl rfl) (svaI hA rfl rfl) hk12)) ?_
   refine .cons (lop rfl rfl fun S hA => (iop_field_sel rfl rfl (lb rfl) Try.underlying31 rfl ti4 (by decide) (svaR hA rfl rfl) (k' := 1) rfl)) ?_
   refine .cons (lop rfl rfl fun S hA => (iop_store_sel (b := 0) (k := 1) (sz := 4) (cs' := (w14 x13.Up x13.Dead x13.Bytes x13.Ticks x14.Up x14.Dead x14.Bytes x14.Ticks x15.Up x15.Dead x15.Bytes x15.Ticks x16.Up x16.Dead x16.Bytes x16.Ticks x1.2.2.2.2.2.2.2.2.2.2.2.2.2.2.2.2.1 (.osl 3 E_paths_Bind.sz x1.2.2.2.2.2.2.2.2.2.2.2.2.2.2.2.2.2.length))) rfl rfl ti4 (svaR hA rfl rfl) (agi hA rfl rfl) (sv (d := .bool true) rfl) rfl rfl rfl hk12 rfl ⟨⟨⟨⟨trivial, fun h => by rw [← hx13, ← hx14, ← hx15, ← hx16, h]; rfl⟩, fun h => by rw [← hx13, ← hx14, ← hx15, ← hx16, h]; rfl⟩, fun h => by rw [← hx13, ← hx14, ← hx15, ← hx16, h]; rfl⟩, fun h => by rw [← hx13, ← hx14, ← hx15, ← hx16, h]; rfl⟩)) ?_
   exact .nil
  refine iwp_reg (ils_cons rfl (iop_assign rfl rfl (lb rfl) (sv (d := .nils) rfl)) <|
   ils_end ?_)
  refine iwp_seq ?_
  refine iwp_reg (ils_cons rfl (faR 17 rfl rfl rfl Try.underlying35 rfl ti33 (lb rfl) rfl rfl) <|
   ils_cons rfl (lrL la33 rfl rfl rfl rfl rfl (nle rfl) rfl) <|
   ils_cons rfl (iop_lenT E_paths_Bind (l := a0.Binds) rfl rfl (lb rfl) Try.underlying33 (svL rfl)) <|
   ils_cons rfl (iop_move rfl rfl (lb rfl) (sv (d := .int _ 0) rfl)) <|
   ils_end ?_)
  refine iwp_block ?_
  refine iwp_loopP (α := Nat × (List Int) × Int) (fun z => ⟨[(3, .ref 1 0), (4, .ref 2 0), (7, .ref 4 0), (8, .gsl 26 (eInt .i64).sz (z.2.1.map (eInt .i64).d)), (32, .slice false (a0.Binds.map E_paths_Bind.d)), (33, .int .i64 (a0.Binds.length : Int)), (34, .int .i64 z.2.2)], [(1, .blk 3 [.int .i64 a1]), (2, .blk 35 (w13 false false 0 0 false false 0 0 false false 0 0 false false 0 0 0 ([] : List T_paths_Bind))), (4, .blk 35 (w14 x13.Up x13.Dead x13.Bytes x13.Ticks x14.Up x14.Dead x14.Bytes x14.Ticks x15.Up x15.Dead x15.Bytes x15.Ticks x16.Up x16.Dead x16.Bytes x16.Ticks x1.2.2.2.2.2.2.2.2.2.2.2.2.2.2.2.2.1 (.osl 3 E_paths_Bind.sz x1.2.2.2.2.2.2.2.2.2.2.2.2.2.2.2.2.2.length))), (26, .tail 3 (eInt .i64).sz z.2.1.length), (3, .blk 86 (D.flat (x1.2.2.2.2.2.2.2.2.2.2.2.2.2.2.2.2.2.map E_paths_Bind.d)))]⟩) (fun z => paths_Fall_L0 a0 a1 x1 x13 x14 x15 x16 z.1 z.2.1 z.2.2 = some r) (fun z => z.1) (fuel, ([] : (List Int)), 0) (fun i => if i = 26 then 81 else i) ⟨(.s rfl rfl (.s rfl rfl (.s rfl rfl (.cons (.nils rfl) (.sames rfl rfl))))), (.cons (.blk rfl rfl rfl) (.cons (.blk rfl rfl rfl) (.cons (.blk rfl rfl rfl) (.cons (.nils rfl) (.cons (EntW.lst rfl) .nil))))), nd_of [1, 2, 4, 81, 3] rfl (by decide), (fun i hi => by first | rfl | (show (if _ then _ else _) = _; (repeat' split) <;> omega))⟩ ?_ ?_
  ·exact h
  ·
   rintro ⟨n0, v25, v26⟩ h
   cases n0 with
   | zero => exact absurd h (by unfold paths_Fall_L0; exact nofun)
   | succ n0 =>
    unfold paths_Fall_L0 at h
    obtain ⟨x35, hx35, h⟩ := bnd_e h
    refine iwp_reg (ils_cons rfl (iop_cmpx rfl rfl (lb rfl) (svI rfl) (svI rfl) rfl hx35) <|
     ils_end ?_)
    refine iwp_seq ?_
    refine iwp_cond (b := _) rfl (fun hc36 => ?_) (fun hc36 => ?_)
    ·
     replace h := bif_t h hc36
     refine iwp_skip ?_
     refine thenQ_n ?_
     refine iwp_seq ?_
     refine iwp_block ?_
     obtain ⟨x37, hx37, h⟩ := bno_e h
     refine iwp_reg (ils_cons rfl (iop_idxT E_paths_Bind (cs := q8) rfl rfl (lb rfl) Try.underlying33 ti86 (svL rfl) (svI rfl) hx37 rfl rfl) <|
      ils_cons rfl (iop_load_fa (cs := q8) rfl rfl (lb rfl) Try.underlying86 ag86 ti86 (by decide) (sv (d := .fptr q8) rfl) (nle rfl) rfl) <|
      ils_cons rfl (iop_allocS (cs := q8) (cs' := [.int .i64 0, .int .i64 0]) 27 rfl rfl (lb rfl) rfl ti86 rfl rfl (.all _)) <|
      ils_cons rfl (stA q8 q8 ti86 rfl rfl rfl rfl rfl rfl rfl rfl (nle rfl) rfl) <|
      ils_end ?_)
     obtain ⟨x38, hx38, h⟩ := bnd_e h
     refine iwp_reg (ils_cons rfl (faR 1 rfl rfl rfl Try.underlying86 rfl ti3 (lb rfl) rfl rfl) <|
      ils_cons rfl (iop_load_rs (d := .int _ _) rfl rfl (lb rfl) Try.underlying3 ag3 ti3 (by decide) (svR rfl) rfl (nle rfl) rfl) <|
      ils_cons rfl (iop_load_rs (d := .int _ _) rfl rfl (lb rfl) Try.underlying3 ag3 ti3 (by decide) (svR rfl) rfl (nle rfl) rfl) <|
      ils_cons rfl (iop_cmpx rfl rfl (lb rfl) (svI rfl) (svI rfl) rfl hx38) <|
      ils_end ?_)
     refine iwp_cond (b := _) rfl (fun hc39 => ?_) (fun hc39 => ?_)
     ·
      replace h := bif_t h hc39
      obtain ⟨x40, hx40, h⟩ := bno_e h
      refine iwp_region (ils_cons rfl (iop_move rfl rfl (lb rfl) (sv (d := .gsl _ _ _) rfl)) <|
       ils_cons rfl (faR 0 rfl rfl rfl Try.underlying86 rfl ti3 (lb rfl) rfl rfl) <|
       ils_cons rfl (iop_load_rs (d := .int _ _) rfl rfl (lb rfl) Try.underlying3 ag3 ti3 (by decide) (svR rfl) rfl (nle rfl) rfl) <|
       ils_cons rfl (iop_bsT (eInt .i64) ([x37.Stream] : (List Int)) 28 rfl rfl (lb rfl) Try.underlying41 ti3 rfl (.cons (svI rfl) .nil) rfl rfl (by decide)) <|
       ils_cons rfl (iop_appT (eInt .i64) 29 rfl rfl (lb rfl) Try.underlying41 ti3 rfl rfl rfl rfl (svg rfl) hx40) <|
       ils_cons rfl (iop_assign rfl rfl (lb rfl) (sv (d := .gsl _ _ _) rfl)) <|
       ils_nil ?_)
      refine blockQ_n ?_
      refine thenQ_n ?_
      obtain ⟨x41, hx41, h⟩ := bnd_e h
      refine iwp_region (ils_cons rfl (iop_intx rfl rfl (lb rfl) (svI rfl) (sv (d := .int _ 1) rfl) rfl hx41) <|
       ils_cons rfl (mvI rfl rfl rfl rfl) <|
       ils_nil ?_)
      refine thenQ_n ⟨(n0, x40, x41), (fun i => if i = 26 then 29 else i), ⟨(.sames rfl rfl), (.cons (.blk rfl rfl rfl) (.cons (.blk rfl rfl rfl) (.cons (.blk rfl rfl rfl) (.cons (.tail rfl) (.cons (EntW.lst rfl) .nil))))), nd_of [1, 2, 4, 29, 3] rfl (by decide), (fun i hi => by first | rfl | (show (if _ then _ else _) = _; (repeat' split) <;> omega))⟩, ?_, ?_⟩
      exact h
      exact Nat.lt_succ_self _
     ·
      replace h := bif_f h hc39
      refine iwp_skip ?_
      refine blockQ_n ?_
      refine thenQ_n ?_
      obtain ⟨x42, hx42, h⟩ := bnd_e h
      refine iwp_region (ils_cons rfl (iop_intx rfl rfl (lb rfl) (svI rfl) (sv (d := .int _ 1) rfl) rfl hx42) <|
       ils_cons rfl (mvI rfl rfl rfl rfl) <|
       ils_nil ?_)
      refine thenQ_n ⟨(n0, v25, x42), (fun i => i), ⟨(.sames rfl rfl), (.cons (.blk rfl rfl rfl) (.cons (.blk rfl rfl rfl) (.cons (.blk rfl rfl rfl) (.cons (.tail rfl) (.cons (EntW.lst rfl) .nil))))), nd_of [1, 2, 4, 26, 3] rfl (by decide), fun _ _ => rfl⟩, ?_, ?_⟩
      exact h
      exact Nat.lt_succ_self _
    ·
     replace h := bif_f h hc36
     refine iwp_exit ?_
     refine thenQ_e ?_
     refine thenQ_e ?_
     refine blockQ_e ?_
     refine thenQ_n ?_
     obtain ⟨x43, hx43, h⟩ := bno_e h
     refine iwp_reg (ils_cons rfl (faR 17 rfl rfl rfl Try.underlying35 rfl ti33 (lb rfl) rfl rfl) <|
      ils_cons rfl (iop_load_rs (d := .osl _ _ _) rfl rfl (lb rfl) Try.underlying33 ag33 ti33 (by decide) (svR rfl) rfl (nle rfl) rfl) <|
      ils_cons rfl (iop_makeFunc rfl rfl (lb rfl) (.cons (svR rfl) .nil)) <|
      ils_cons rfl (iop_callh2 (r' := .osl 27 E_paths_Bind.sz x43.length) (H1' := [(1, .blk 3 [.int .i64 a1]), (27, .blk 86 (D.flat (x43.map E_paths_Bind.d)))]) 27 [3, 1] rfl rfl (lb rfl) cl44 (.cons (sv (d := .osl _ _ _) rfl) (.cons (sv (d := .fn 45 [.ref _ _]) rfl) .nil)) rfl rfl ⟨rfl, rfl, by decide, rfl, List.forall_mem_cons.2 ⟨⟨rfl, rfl, (handL E_paths_Bind rfl), (handLr E_paths_Bind)⟩, List.forall_mem_cons.2 ⟨⟨rfl, rfl, rfl, rfl⟩, List.forall_mem_nil _⟩⟩⟩ (p_slices_DeleteFunc_paths_Bind_paths_Bind_h_Fall_1 _ _ _ hx43) rfl rfl (List.forall_mem_cons.2 ⟨⟨rfl, rfl⟩, List.forall_mem_cons.2 ⟨⟨rfl, (handLr E_paths_Bind)⟩, List.forall_mem_nil _⟩⟩) (by simp only [List.map_cons, List.map_nil, Ent.ren, renL_flat, renL_ref]; rfl)) <|
      ils_cons rfl (faR 17 rfl rfl rfl Try.underlying35 rfl ti33 (lb rfl) rfl rfl) <|
      ils_cons rfl (iop_store (ds' := q4) rfl rfl ti33 (svR rfl) rfl (sv (d := .osl _ _ _) rfl) rfl rfl rfl (nle rfl) rfl) <|
      ils_end ?_)
     refine iwp_join (α := Int) (fun z => ⟨[(4, .ref 2 0), (7, .ref 4 0), (8, .gsl 26 (eInt .i64).sz (v25.map (eInt .i64).d))], [(2, .blk 35 (w13 false false 0 0 false false 0 0 false false 0 0 false false 0 0 0 ([] : List T_paths_Bind))), (4, .blk 35 (w14 x13.Up x13.Dead x13.Bytes x13.Ticks x14.Up x14.Dead x14.Bytes x14.Ticks x15.Up x15.Dead x15.Bytes x15.Ticks x16.Up x16.Dead x16.Bytes x16.Ticks z (.osl 27 E_paths_Bind.sz x43.length))), (26, .tail 3 (eInt .i64).sz v25.length), (27, .blk 86 (D.flat (x43.map E_paths_Bind.d)))]⟩) (fun z => paths_Fall_J1 x13 x14 x15 x16 v25 x43 z = some r) ?_ ?_
     ·
      obtain ⟨x47, hx47, h⟩ := bnd_e h
      refine iwp_reg (ils_cons rfl (faR 16 rfl rfl rfl Try.underlying35 rfl ti3 (lb rfl) rfl rfl) <|
       ils_cons rfl (iop_load_rs (d := .int _ _) rfl rfl (lb rfl) Try.underlying3 ag3 ti3 (by decide) (svR rfl) rfl (nle rfl) rfl) <|
       ils_cons rfl (iop_load_rs (d := .int _ _) rfl rfl (lb rfl) Try.underlying3 ag3 ti3 (by decide) (svR rfl) rfl (nle rfl) rfl) <|
       ils_cons rfl (iop_cmpx rfl rfl (lb rfl) (svI rfl) (svI rfl) rfl hx47) <|
       ils_end ?_)
      refine iwp_cond (b := _) rfl (fun hc48 => ?_) (fun hc48 => ?_)
      ·
       replace h := bif_t h hc48
       refine iwp_region (ils_cons rfl (faR 16 rfl rfl rfl Try.underlying35 rfl ti3 (lb rfl) rfl rfl) <|
        ils_cons rfl (iop_store (ds' := q4) rfl rfl ti3 (svR rfl) rfl (sv (d := .int _ (-1)) rfl) rfl rfl rfl (nle rfl) rfl) <|
        ils_nil ?_)
       refine thenQ_n ⟨(-1), (fun i => i), ⟨(.sames rfl rfl), (.cons (.blk rfl rfl rfl) (.cons (.blk rfl rfl rfl) (.cons (.tail rfl) (.cons (EntW.lst rfl) .nil)))), nd_of [2, 4, 26, 27] rfl (by decide), fun _ _ => rfl⟩, ?_⟩
       exact h
      ·
       replace h := bif_f h hc48
       refine iwp_skip ?_
       refine thenQ_n ⟨x1.2.2.2.2.2.2.2.2.2.2.2.2.2.2.2.2.1, (fun i => i), ⟨(.sames rfl rfl), (.cons (.blk rfl rfl rfl) (.cons (.blk rfl rfl rfl) (.cons (.tail rfl) (.cons (EntW.lst rfl) .nil)))), nd_of [2, 4, 26, 27] rfl (by decide), fun _ _ => rfl⟩, ?_⟩
       exact h
     ·
      rintro v46 h
      unfold paths_Fall_J1 at h
      refine iwp_reg (ils_cons rfl (lra q4 la35 rfl rfl rfl rfl rfl (nle rfl) rfl) <|
       ils_cons rfl (iop_move rfl rfl (lb rfl) (sv (d := .gsl _ _ _) rfl)) <|
       ils_cons rfl (stA q4 q4 ti35 rfl rfl rfl rfl rfl rfl rfl rfl (nle rfl) rfl) <|
       ils_cons rfl (iop_assign rfl rfl (lb rfl) (sv (d := .gsl _ _ _) rfl)) <|
       ils_cons rfl (iop_assign rfl rfl (lb rfl) (sv (d := .bool true) rfl)) <|
       ils_end ?_)
      refine iwp_ret ?_
      obtain rfl := Option.some.inj h
      refine ⟨.inr rfl, _, (.cons (rva la35 rfl rfl (nle rfl) rfl) (.cons (sv rfl) (.cons (sv rfl) .nil))), (.cons (.agg (.k4 (.k (.k4 (.k (.k4 (.k (.k (.k (.cons (FDT E_paths_Bind rfl rfl) .nil)))))))))) (.cons (.gsl _ _ _) (.all _)))⟩

theorem p_paths_Free_1 (a0 : T_paths_Bind) (a1 : Int) (r : Bool) (h : paths_Free_1 a0 a1 = some r) : PureAt Try.prog 51 [.agg [.int .i64 a0.Stream, .int .i64 a0.Path], .fptr [.int .i64 a1]] (.bool r) := by
 refine pure_of_iwp (rs := [.bool r]) Try.func51 rfl Try.ntmps51 (nle rfl) rfl fun O hO => ?_
 show IWP _ _ _ _ ⟨[(0, .agg [.int .i64 a0.Stream, .int .i64 a0.Path]), (1, .fptr [.int .i64 a1])], []⟩ _
 unfold paths_Free_1 at h
 refine iwp_reg (ils_cons rfl (iop_box' (cs := q8) 0 rfl rfl (lb rfl) rfl (svA q8 rfl) rfl rfl) <|
  ils_cons rfl (iop_assign rfl rfl (lb rfl) (sv (d := .bool false) rfl)) <|
  ils_end ?_)
 obtain ⟨x1, hx1, h⟩ := bnd_e h
 refine iwp_reg (ils_cons rfl (faR 0 rfl rfl rfl Try.underlying86 rfl ti3 (lb rfl) rfl rfl) <|
  ils_cons rfl (iop_load_rs (d := .int _ _) rfl rfl (lb rfl) Try.underlying3 ag3 ti3 (by decide) (svR rfl) rfl (nle rfl) rfl) <|
  ils_cons rfl (iop_load_fs rfl rfl (lb rfl) Try.underlying3 ag3 ti3 (by decide) (sv (d := .fptr [.int _ _]) rfl) (nle rfl)) <|
  ils_cons rfl (iop_cmpx rfl rfl (lb rfl) (svI rfl) (svI rfl) rfl hx1) <|
  ils_cons rfl (asB rfl rfl rfl rfl) <|
  ils_end ?_)
 refine iwp_ret ?_
 obtain rfl := Option.some.inj h
 refine ⟨.inr rfl, (.cons (sv rfl) .nil)⟩

theorem p_slices_IndexFunc_paths_Bind_paths_Bind_Free_1 (a0 : (List T_paths_Bind)) (a1 : Int) (r : Int) (h : slices_IndexFunc_paths_Bind_paths_Bind_Free_1 a0 a1 = some r) : PureAt Try.prog 65 [.slice false (a0.map E_paths_Bind.d), .fn 51 [.fptr [.int .i64 a1]]] (.int .i64 r) := by
 refine pure_of_iwp (rs := [.int .i64 r]) Try.func65 rfl Try.ntmps65 (nle rfl) rfl fun O hO => ?_
 show IWP _ _ _ _ ⟨[(0, .slice false (a0.map E_paths_Bind.d)), (1, .fn 51 [.fptr [.int .i64 a1]])], []⟩ _
 unfold slices_IndexFunc_paths_Bind_paths_Bind_Free_1 at h
 refine iwp_reg (ils_cons rfl (iop_assign rfl rfl (lb rfl) (sv (d := .int _ 0) rfl)) <|
  ils_end ?_)
 refine iwp_seq ?_
 refine iwp_reg (ils_cons rfl (mvL rfl rfl rfl rfl) <|
  ils_cons rfl (iop_lenT E_paths_Bind (l := a0) rfl rfl (lb rfl) Try.underlying33 (svL rfl)) <|
  ils_cons rfl (iop_move rfl rfl (lb rfl) (sv (d := .int _ 0) rfl)) <|
  ils_end ?_)
 refine iwp_block ?_
 refine iwp_loopP (α := Nat × Int) (fun z => ⟨[(0, .slice false (a0.map E_paths_Bind.d)), (1, .fn 51 [.fptr [.int .i64 a1]]), (7, .int .i64 (a0.length : Int)), (8, .int .i64 z.2)], []⟩) (fun z => slices_IndexFunc_paths_Bind_paths_Bind_Free_1_L0 a0 a1 z.1 z.2 = some r) (fun z => z.1) (fuel, 0) (fun i => i) ⟨(.sames rfl rfl), .nil, nd_of [] rfl (by decide), fun _ _ => rfl⟩ ?_ ?_
 ·exact h
 ·
  rintro ⟨n0, v7⟩ h
  cases n0 with
  | zero => exact absurd h (by unfold slices_IndexFunc_paths_Bind_paths_Bind_Free_1_L0; exact nofun)
  | succ n0 =>
   unfold slices_IndexFunc_paths_Bind_paths_Bind_Free_1_L0 at h
   obtain ⟨x14, hx14, h⟩ := bnd_e h
   refine iwp_reg (ils_cons rfl (iop_cmpx rfl rfl (lb rfl) (svI rfl) (svI rfl) rfl hx14) <|
    ils_end ?_)
   refine iwp_seq ?_
   refine iwp_cond (b := _) rfl (fun hc15 => ?_) (fun hc15 => ?_)
   ·
    replace h := bif_t h hc15
    refine iwp_skip ?_
    refine thenQ_n ?_
    refine iwp_seq ?_
    refine iwp_block ?_
    refine iwp_reg (ils_cons rfl (mvI rfl rfl rfl rfl) <|
     ils_cons rfl (asI rfl rfl rfl rfl) <|
     ils_end ?_)
    obtain ⟨x16, hx16, h⟩ := bno_e h
    obtain ⟨x17, hx17, h⟩ := bno_e h
    refine iwp_reg (ils_cons rfl (iop_move rfl rfl (lb rfl) (sv (d := .fn 51 [.fptr [.int _ _]]) rfl)) <|
     ils_cons rfl (mvL rfl rfl rfl rfl) <|
     ils_cons rfl (mvI rfl rfl rfl rfl) <|
     ils_cons rfl (iop_idxT E_paths_Bind (cs := q8) rfl rfl (lb rfl) Try.underlying33 ti86 (svL rfl) (svI rfl) hx16 rfl rfl) <|
     ils_cons rfl (iop_load_fa (cs := q8) rfl rfl (lb rfl) Try.underlying86 ag86 ti86 (by decide) (sv (d := .fptr q8) rfl) (nle rfl) rfl) <|
     ils_cons rfl (iop_callv (r := .bool _) rfl rfl (lb rfl) cl51 (sv (d := .fn 51 [.fptr [.int _ _]]) rfl) (.cons (svA q8 rfl) .nil) rfl (p_paths_Free_1 _ _ _ hx17)) <|
     ils_end ?_)
    refine iwp_cond (b := _) rfl (fun hc18 => ?_) (fun hc18 => ?_)
    ·
     replace h := bif_t h hc18
     refine iwp_reg (ils_cons rfl (mvI rfl rfl rfl rfl) <|
      ils_cons rfl (asI rfl rfl rfl rfl) <|
      ils_end ?_)
     refine iwp_ret ?_
     refine blockQ_r ?_
     refine thenQ_r ?_
     refine thenQ_r ?_
     refine blockQ_r ?_
     refine thenQ_r ?_
     obtain rfl := Option.some.inj h
     refine ⟨.inr rfl, (.cons (sv rfl) .nil)⟩
    ·
     replace h := bif_f h hc18
     refine iwp_skip ?_
     refine blockQ_n ?_
     refine thenQ_n ?_
     obtain ⟨x19, hx19, h⟩ := bnd_e h
     refine iwp_region (ils_cons rfl (iop_intx rfl rfl (lb rfl) (svI rfl) (sv (d := .int _ 1) rfl) rfl hx19) <|
      ils_cons rfl (mvI rfl rfl rfl rfl) <|
      ils_nil ?_)
     refine thenQ_n ⟨(n0, x19), (fun i => i), ⟨(.sames rfl rfl), .nil, nd_of [] rfl (by decide), fun _ _ => rfl⟩, ?_, ?_⟩
     exact h
     exact Nat.lt_succ_self _
   ·
    replace h := bif_f h hc15
    refine iwp_exit ?_
    refine thenQ_e ?_
    refine thenQ_e ?_
    refine blockQ_e ?_
    refine thenQ_n ?_
    refine iwp_reg (ils_cons rfl (iop_assign rfl rfl (lb rfl) (sv (d := .int _ (-1)) rfl)) <|
     ils_end ?_)
    refine iwp_ret ?_
    obtain rfl := Option.some.inj h
    refine ⟨.inr rfl, (.cons (sv rfl) .nil)⟩

theorem p_slices_DeleteFunc_paths_Bind_paths_Bind_h_Free_1 (a0 : (List T_paths_Bind)) (a1 : Int) (r : (List T_paths_Bind)) (h : slices_DeleteFunc_paths_Bind_paths_Bind_h_Free_1 a0 a1 = some r) : FnH Try.prog 44 [.osl 1000 E_paths_Bind.sz a0.length, .fn 51 [.ref 1001 0]] [(1000, .blk 86 (D.flat (a0.map E_paths_Bind.d))), (1001, .blk 3 [.int .i64 a1])] (.osl 0 E_paths_Bind.sz r.length) [(1001, .blk 3 [.int .i64 a1]), (0, .blk 86 (D.flat (r.map E_paths_Bind.d)))] := by
 refine fnh_of_iwp (rs := [.osl 0 E_paths_Bind.sz r.length]) Try.func44 rfl Try.ntmps44 (nle rfl) fun O hO => ?_
 show IWP _ _ _ _ ⟨[(0, .osl 1000 E_paths_Bind.sz a0.length), (1, .fn 51 [.ref 1001 0])], [(1000, .blk 86 (D.flat (a0.map E_paths_Bind.d))), (1001, .blk 3 [.int .i64 a1])]⟩ _
 unfold slices_DeleteFunc_paths_Bind_paths_Bind_h_Free_1 at h
 refine iwp_reg (ils_cons rfl (iop_assign rfl rfl (lb rfl) (sv (d := .nils) rfl)) <|
  ils_end ?_)
 obtain ⟨x1, hx1, h⟩ := bno_e h
 refine iwp_reg (ils_cons rfl (iop_move rfl rfl (lb rfl) (sv (d := .osl _ _ _) rfl)) <|
  ils_cons rfl (iop_move rfl rfl (lb rfl) (sv (d := .fn 51 [.ref _ _]) rfl)) <|
  ils_cons rfl (iop_callp (r := .int .i64 x1) rfl rfl (lb rfl) cl65 (.cons (sv (d := .osl _ _ _) rfl) (.cons (sv (d := .fn 51 [.ref _ _]) rfl) .nil)) (.cons (FDT E_paths_Bind rfl rfl) (.cons (.fn (.cons (.ref rfl rfl (fdl_refl _) rfl) .nil)) .nil)) rfl rfl (p_slices_IndexFunc_paths_Bind_paths_Bind_Free_1 _ _ _ hx1)) <|
  ils_cons rfl (asI rfl rfl rfl rfl) <|
  ils_end ?_)
 refine iwp_seq ?_
 obtain ⟨x2, hx2, h⟩ := bnd_e h
 refine iwp_reg (ils_cons rfl (mvI rfl rfl rfl rfl) <|
  ils_cons rfl (iop_cmpx rfl rfl (lb rfl) (svI rfl) (sv (d := .int _ (-1)) rfl) rfl hx2) <|
  ils_end ?_)
 refine iwp_cond (b := _) rfl (fun hc3 => ?_) (fun hc3 => ?_)
 ·
  replace h := bif_t h hc3
  refine iwp_reg (ils_cons rfl (iop_move rfl rfl (lb rfl) (sv (d := .osl _ _ _) rfl)) <|
   ils_cons rfl (iop_assign rfl rfl (lb rfl) (sv (d := .osl _ _ _) rfl)) <|
   ils_end ?_)
  refine iwp_ret ?_
  refine thenQ_r ?_
  obtain rfl := Option.some.inj h
  refine ⟨.inr rfl, (fun i => if i = 0 then 1000 else i), ⟨.nil, (.cons (.blk rfl rfl rfl) (.cons (EntW.lst rfl) .nil)), nd_of [1001, 1000] rfl (by decide), (fun i hi => by first | rfl | (show (if _ then _ else _) = _; (repeat' split) <;> omega))⟩, (.cons (sv rfl) .nil), rfl⟩
 ·
  replace h := bif_f h hc3
  refine iwp_skip ?_
  refine thenQ_n ?_
  refine iwp_seq ?_
  obtain ⟨x4, hx4, h⟩ := bnd_e h
  refine iwp_reg (ils_cons rfl (mvI rfl rfl rfl rfl) <|
   ils_cons rfl (iop_intx rfl rfl (lb rfl) (svI rfl) (sv (d := .int _ 1) rfl) rfl hx4) <|
   ils_cons rfl (asI rfl rfl rfl rfl) <|
   ils_end ?_)
  refine iwp_block ?_
  refine iwp_loopP (α := Nat × (List T_paths_Bind) × Int × Int) (fun z => ⟨[(0, .osl 1000 E_paths_Bind.sz z.2.1.length), (1, .fn 51 [.ref 1001 0]), (5, .int .i64 z.2.2.1), (6, .int .i64 z.2.2.2)], [(1000, .blk 86 (D.flat (z.2.1.map E_paths_Bind.d))), (1001, .blk 3 [.int .i64 a1])]⟩) (fun z => slices_DeleteFunc_paths_Bind_paths_Bind_h_Free_1_L0 a1 z.1 z.2.1 z.2.2.1 z.2.2.2 = some r) (fun z => z.1) (fuel, a0, x1, x4) (fun i => i) ⟨(.sames rfl rfl), (.cons (EntW.lst rfl) (.cons (.blk rfl rfl rfl) .nil)), nd_of [1000, 1001] rfl (by decide), fun _ _ => rfl⟩ ?_ ?_
  ·exact h
  ·
   rintro ⟨n0, v17, v18, v19⟩ h
   cases n0 with
   | zero => exact absurd h (by unfold slices_DeleteFunc_paths_Bind_paths_Bind_h_Free_1_L0; exact nofun)
   | succ n0 =>
    unfold slices_DeleteFunc_paths_Bind_paths_Bind_h_Free_1_L0 at h
    refine iwp_seq ?_
    obtain ⟨x32, hx32, h⟩ := bnd_e h
    refine iwp_reg (ils_cons rfl (mvI rfl rfl rfl rfl) <|
     ils_cons rfl (iop_move rfl rfl (lb rfl) (sv (d := .osl _ _ _) rfl)) <|
     ils_cons rfl (iop_lenO rfl rfl (lb rfl) Try.underlying33 (sv (d := .osl _ _ _) rfl)) <|
     ils_cons rfl (iop_cmpx rfl rfl (lb rfl) (svI rfl) (svI rfl) rfl hx32) <|
     ils_end ?_)
    refine iwp_cond (b := _) rfl (fun hc33 => ?_) (fun hc33 => ?_)
    ·
     replace h := bif_t h hc33
     refine iwp_skip ?_
     refine thenQ_n ?_
     refine iwp_seq ?_
     refine iwp_block ?_
     obtain ⟨x34, hx34, h⟩ := bno_e h
     obtain ⟨x35, hx35, h⟩ := bno_e h
     refine iwp_reg (ils_cons rfl (iop_move rfl rfl (lb rfl) (sv (d := .osl _ _ _) rfl)) <|
      ils_cons rfl (mvI rfl rfl rfl rfl) <|
      ils_cons rfl (iop_idxO E_paths_Bind.toEnc0 rfl rfl (lb rfl) Try.underlying33 ti86 (sv (d := .osl _ _ _) rfl) rfl (svI rfl) hx34) <|
      ils_cons rfl (iop_loadEa E_paths_Bind.toEnc0 (cs := q8) rfl rfl (lb rfl) Try.underlying86 ag86 ti86 (by decide) (svR rfl) rfl hx35 (nle rfl) rfl) <|
      ils_cons rfl (iop_allocS (cs := q8) (cs' := [.int .i64 0, .int .i64 0]) 0 rfl rfl (lb rfl) rfl ti86 rfl rfl (.all _)) <|
      ils_cons rfl (stA q8 q8 ti86 rfl rfl rfl rfl rfl rfl rfl rfl (nle rfl) rfl) <|
      ils_end ?_)
     obtain ⟨x36, hx36, h⟩ := bno_e h
     refine iwp_reg (ils_cons rfl (iop_move rfl rfl (lb rfl) (sv (d := .fn 51 [.ref _ _]) rfl)) <|
      ils_cons rfl (lra q8 la86 rfl rfl rfl rfl rfl (nle rfl) rfl) <|
      ils_cons rfl (iop_callvp (r := .bool x36) rfl rfl (lb rfl) cl51 (sv (d := .fn 51 [.ref _ _]) rfl) (.cons (svA q8 rfl) .nil) (.k (.cons (.ref rfl rfl (fdl_refl _) rfl) .nil)) rfl rfl (p_paths_Free_1 _ _ _ hx36)) <|
      ils_cons rfl (iop_not rfl rfl (lb rfl) (svB rfl)) <|
      ils_end ?_)
     refine iwp_cond (b := _) rfl (fun hc37 => ?_) (fun hc37 => ?_)
     ·
      replace h := bif_t h hc37
      obtain ⟨x38, hx38, h⟩ := bno_e h
      obtain ⟨x39, hx39, h⟩ := bno_e h
      obtain ⟨x40, hx40, h⟩ := bnd_e h
      refine iwp_reg (ils_cons rfl (iop_move rfl rfl (lb rfl) (sv (d := .osl _ _ _) rfl)) <|
       ils_cons rfl (mvI rfl rfl rfl rfl) <|
       ils_cons rfl (lra q8 la86 rfl rfl rfl rfl rfl (nle rfl) rfl) <|
       ils_cons rfl (iop_idxO E_paths_Bind.toEnc0 rfl rfl (lb rfl) Try.underlying33 ti86 (sv (d := .osl _ _ _) rfl) rfl (svI rfl) hx38) <|
       ils_cons rfl (iop_storeE E_paths_Bind.toEnc0 (a' := x35) rfl rfl ti86 (svR rfl) rfl (svA q8 rfl) rfl rfl rfl hx39 (nle rfl) rfl hx40) <|
       ils_end ?_)
      obtain ⟨x41, hx41, h⟩ := bnd_e h
      refine iwp_region (ils_cons rfl (mvI rfl rfl rfl rfl) <|
       ils_cons rfl (iop_intx rfl rfl (lb rfl) (svI rfl) (sv (d := .int _ 1) rfl) rfl hx41) <|
       ils_cons rfl (asI rfl rfl rfl rfl) <|
       ils_nil ?_)
      refine blockQ_n ?_
      refine thenQ_n ?_
      obtain ⟨x42, hx42, h⟩ := bnd_e h
      refine iwp_region (ils_cons rfl (mvI rfl rfl rfl rfl) <|
       ils_cons rfl (iop_intx rfl rfl (lb rfl) (svI rfl) (sv (d := .int _ 1) rfl) rfl hx42) <|
       ils_cons rfl (asI rfl rfl rfl rfl) <|
       ils_nil ?_)
      refine thenQ_n ⟨(n0, x40, x41, x42), (fun i => i), ⟨(.cons (.same (congrArg (D.osl _ _) (len_set hx40 rfl).symm) rfl) (.sames rfl rfl)), (.cons (EntW.lst rfl) (.cons (.blk rfl rfl rfl) .nil)), nd_of [1000, 1001] rfl (by decide), fun _ _ => rfl⟩, ?_, ?_⟩
      exact h
      exact Nat.lt_succ_self _
     ·
      replace h := bif_f h hc37
      refine iwp_skip ?_
      refine blockQ_n ?_
      refine thenQ_n ?_
      obtain ⟨x43, hx43, h⟩ := bnd_e h
      refine iwp_region (ils_cons rfl (mvI rfl rfl rfl rfl) <|
       ils_cons rfl (iop_intx rfl rfl (lb rfl) (svI rfl) (sv (d := .int _ 1) rfl) rfl hx43) <|
       ils_cons rfl (asI rfl rfl rfl rfl) <|
       ils_nil ?_)
      refine thenQ_n ⟨(n0, v17, v18, x43), (fun i => i), ⟨(.sames rfl rfl), (.cons (EntW.lst rfl) (.cons (.blk rfl rfl rfl) .nil)), nd_of [1000, 1001] rfl (by decide), fun _ _ => rfl⟩, ?_, ?_⟩
      exact h
      exact Nat.lt_succ_self _
    ·
     replace h := bif_f h hc33
     refine iwp_exit ?_
     refine thenQ_e ?_
     refine thenQ_e ?_
     refine blockQ_e ?_
     refine thenQ_n ?_
     obtain ⟨x44, hx44, h⟩ := bno_e h
     refine iwp_reg (ils_cons rfl (iop_move rfl rfl (lb rfl) (sv (d := .osl _ _ _) rfl)) <|
      ils_cons rfl (mvI rfl rfl rfl rfl) <|
      ils_clrtail E_paths_Bind.toEnc0 rfl rfl rfl rfl (by decide) rfl rfl Try.underlying33 ti86 rfl rfl rfl rfl rfl (fun S1 h9 => sv ((h9 37 (by decide)).trans rfl)) hx44 <|
      ils_end ?_)
     obtain ⟨x45, hx45, h⟩ := bno_e h
     refine iwp_reg (ils_cons rfl (iop_move rfl rfl (lb rfl) (sv (d := .osl _ _ _) rfl)) <|
      ils_cons rfl (mvI rfl rfl rfl rfl) <|
      ils_cons rfl (iop_truncO E_paths_Bind.toEnc0 rfl rfl (lb rfl) Try.underlying33 ti86 (sv (d := .osl _ _ _) rfl) rfl (Nat.le_trans (cut_le hx44) (Nat.le_of_eq rfl)) (svI rfl) hx45) <|
      ils_cons rfl (iop_assign rfl rfl (lb rfl) (sv (d := .osl _ _ _) rfl)) <|
      ils_end ?_)
     refine iwp_ret ?_
     obtain rfl := Option.some.inj h
     refine ⟨.inr rfl, (fun i => if i = 0 then 1000 else i), ⟨.nil, (.cons (.blk rfl rfl rfl) (.cons (EntW.lst rfl) .nil)), nd_of [1001, 1000] rfl (by decide), (fun i hi => by first | rfl | (show (if _ then _ else _) = _; (repeat' split) <;> omega))⟩, (.cons (sv rfl) .nil), rfl⟩

theorem p_paths_Free (a0 : T_paths_State) (a1 : Int) (r : T_paths_State) (h : paths_Free a0 a1 = some r) : PureAt Try.prog 23 [.agg (v0 a0), .int .i64 a1] (.agg (v0 r)) := by
 refine pure_of_iwpF (rs := [.agg (v0 r)]) Try.func23 rfl Try.ntmps23 (nle rfl) rfl fun O hO => ?_
 show IWP _ _ _ _ ⟨[(0, .agg (v0 a0)), (1, .int .i64 a1)], []⟩ _
 unfold paths_Free at h
 refine iwp_reg (ils_cons rfl (iop_box' (cs := q3) 0 rfl rfl (lb rfl) rfl (svA q3 rfl) rfl rfl) <|
  ils_cons rfl (iop_box' (cs := [.int _ _]) 1 rfl rfl (lb rfl) rfl (svI rfl) rfl rfl) <|
  ils_cons rfl (iop_allocS (cs := q5) (cs' := (w13 false false 0 0 false false 0 0 false false 0 0 false false 0 0 0 ([] : List T_paths_Bind))) 2 rfl rfl (lb rfl) rfl ti35 rfl rfl (.k4 (.k (.k4 (.k (.k4 (.k (.k (.k (.cons (.nils _) .nil)))))))))) <|
  ils_end ?_)
 obtain ⟨x1, hx1, h⟩ := bno_e h
 refine iwp_reg (ils_cons rfl (lra q3 la35 rfl rfl rfl rfl rfl (nle rfl) rfl) <|
  ils_cons rfl (iop_callh2 (r' := .agg (w14 x1.1 x1.2.1 x1.2.2.1 x1.2.2.2.1 x1.2.2.2.2.1 x1.2.2.2.2.2.1 x1.2.2.2.2.2.2.1 x1.2.2.2.2.2.2.2.1 x1.2.2.2.2.2.2.2.2.1 x1.2.2.2.2.2.2.2.2.2.1 x1.2.2.2.2.2.2.2.2.2.2.1 x1.2.2.2.2.2.2.2.2.2.2.2.1 x1.2.2.2.2.2.2.2.2.2.2.2.2.1 x1.2.2.2.2.2.2.2.2.2.2.2.2.2.1 x1.2.2.2.2.2.2.2.2.2.2.2.2.2.2.1 x1.2.2.2.2.2.2.2.2.2.2.2.2.2.2.2.1 x1.2.2.2.2.2.2.2.2.2.2.2.2.2.2.2.2.1 (.osl 3 E_paths_Bind.sz x1.2.2.2.2.2.2.2.2.2.2.2.2.2.2.2.2.2.length))) (H1' := [(3, .blk 86 (D.flat (x1.2.2.2.2.2.2.2.2.2.2.2.2.2.2.2.2.2.map E_paths_Bind.d)))]) 3 [] rfl rfl (lb rfl) cl40 (.cons (svA q3 rfl) .nil) rfl rfl ⟨rfl, rfl, by decide, rfl, List.forall_mem_nil _⟩ (p_paths_State_own_h _ _ hx1) rfl rfl (List.forall_mem_cons.2 ⟨⟨rfl, (handLr E_paths_Bind)⟩, List.forall_mem_nil _⟩) (by simp only [List.map_cons, List.map_nil, Ent.ren, renL_flat, renL_ref]; rfl)) <|
  ils_cons rfl (iop_allocS (cs := q5) (cs' := (w13 false false 0 0 false false 0 0 false false 0 0 false false 0 0 0 ([] : List T_paths_Bind))) 4 rfl rfl (lb rfl) rfl ti35 rfl rfl (.k4 (.k (.k4 (.k (.k4 (.k (.k (.k (.cons (.nils _) .nil)))))))))) <|
  ils_cons rfl (stA q4 q4 ti35 rfl rfl rfl rfl rfl rfl rfl rfl (nle rfl) rfl) <|
  ils_end ?_)
 refine iwp_seq ?_
 obtain ⟨x2, hx2, h⟩ := bno_e h
 obtain ⟨x3, hx3, h⟩ := bnd_e h
 refine iwp_reg (ils_cons rfl (lra q3 la35 rfl rfl rfl rfl rfl (nle rfl) rfl) <|
  ils_cons rfl (iop_call (r := .int _ _) rfl rfl (lb rfl) cl28 (.cons (svA q3 rfl) .nil) rfl (p_paths_Check _ _ hx2)) <|
  ils_cons rfl (iop_cmpx rfl rfl (lb rfl) (svI rfl) (sv (d := .int _ 0) rfl) rfl hx3) <|
  ils_end ?_)
 refine iwp_cond (b := _) rfl (fun hc4 => ?_) (fun hc4 => ?_)
 ·
  replace h := bif_t h hc4
  obtain ⟨x5, hx5, h⟩ := bno_e h
  refine iwp_region (ils_cons rfl (faR 17 rfl rfl rfl Try.underlying35 rfl ti33 (lb rfl) rfl rfl) <|
   ils_cons rfl (iop_load_rs (d := .osl _ _ _) rfl rfl (lb rfl) Try.underlying33 ag33 ti33 (by decide) (svR rfl) rfl (nle rfl) rfl) <|
   ils_cons rfl (iop_makeFunc rfl rfl (lb rfl) (.cons (svR rfl) .nil)) <|
   ils_cons rfl (iop_callh2 (r' := .osl 5 E_paths_Bind.sz x5.length) (H1' := [(1, .blk 3 [.int .i64 a1]), (5, .blk 86 (D.flat (x5.map E_paths_Bind.d)))]) 5 [3, 1] rfl rfl (lb rfl) cl44 (.cons (sv (d := .osl _ _ _) rfl) (.cons (sv (d := .fn 51 [.ref _ _]) rfl) .nil)) rfl rfl ⟨rfl, rfl, by decide, rfl, List.forall_mem_cons.2 ⟨⟨rfl, rfl, (handL E_paths_Bind rfl), (handLr E_paths_Bind)⟩, List.forall_mem_cons.2 ⟨⟨rfl, rfl, rfl, rfl⟩, List.forall_mem_nil _⟩⟩⟩ (p_slices_DeleteFunc_paths_Bind_paths_Bind_h_Free_1 _ _ _ hx5) rfl rfl (List.forall_mem_cons.2 ⟨⟨rfl, rfl⟩, List.forall_mem_cons.2 ⟨⟨rfl, (handLr E_paths_Bind)⟩, List.forall_mem_nil _⟩⟩) (by simp only [List.map_cons, List.map_nil, Ent.ren, renL_flat, renL_ref]; rfl)) <|
   ils_cons rfl (faR 17 rfl rfl rfl Try.underlying35 rfl ti33 (lb rfl) rfl rfl) <|
   ils_cons rfl (iop_store (ds' := q4) rfl rfl ti33 (svR rfl) rfl (sv (d := .osl _ _ _) rfl) rfl rfl rfl (nle rfl) rfl) <|
   ils_nil ?_)
  refine thenQ_n ?_
  refine iwp_reg (ils_cons rfl (lra q4 la35 rfl rfl rfl rfl rfl (nle rfl) rfl) <|
   ils_cons rfl (stA q4 q4 ti35 rfl rfl rfl rfl rfl rfl rfl rfl (nle rfl) rfl) <|
   ils_end ?_)
  refine iwp_ret ?_
  obtain rfl := Option.some.inj h
  refine ⟨.inr rfl, _, (.cons (rva la35 rfl rfl (nle rfl) rfl) .nil), (.cons (.agg (.k4 (.k (.k4 (.k (.k4 (.k (.k (.k (.cons (FDT E_paths_Bind rfl rfl) .nil)))))))))) .nil)⟩
 ·
  replace h := bif_f h hc4
  refine iwp_skip ?_
  refine thenQ_n ?_
  refine iwp_reg (ils_cons rfl (lra q4 la35 rfl rfl rfl rfl rfl (nle rfl) rfl) <|
   ils_cons rfl (stA q4 q4 ti35 rfl rfl rfl rfl rfl rfl rfl rfl (nle rfl) rfl) <|
   ils_end ?_)
  refine iwp_ret ?_
  obtain rfl := Option.some.inj h
  refine ⟨.inr rfl, _, (.cons (rva la35 rfl rfl (nle rfl) rfl) .nil), (.cons (.agg (.k4 (.k (.k4 (.k (.k4 (.k (.k (.k (.cons (FDT E_paths_Bind rfl rfl) .nil)))))))))) .nil)⟩

theorem p_sennitref28_SameInts (a0 : (List Int)) (a1 : (List Int)) (r : Bool) (h : sennitref28_SameInts a0 a1 = some r) : PureAt Try.prog 20 [.slice false (a0.map (eInt .i64).d), .slice false (a1.map (eInt .i64).d)] (.bool r) := by
 refine pure_of_iwp (rs := [.bool r]) Try.func20 rfl Try.ntmps20 (nle rfl) rfl fun O hO => ?_
 show IWP _ _ _ _ ⟨[(0, .slice false (a0.map (eInt .i64).d)), (1, .slice false (a1.map (eInt .i64).d))], []⟩ _
 unfold sennitref28_SameInts at h
 refine iwp_reg (ils_cons rfl (iop_assign rfl rfl (lb rfl) (sv (d := .bool false) rfl)) <|
  ils_end ?_)
 refine iwp_seq ?_
 obtain ⟨x1, hx1, h⟩ := bnd_e h
 refine iwp_reg (ils_cons rfl (mvL rfl rfl rfl rfl) <|
  ils_cons rfl (iop_lenT (eInt .i64) (l := a0) rfl rfl (lb rfl) Try.underlying41 (svL rfl)) <|
  ils_cons rfl (mvL rfl rfl rfl rfl) <|
  ils_cons rfl (iop_lenT (eInt .i64) (l := a1) rfl rfl (lb rfl) Try.underlying41 (svL rfl)) <|
  ils_cons rfl (iop_cmpx rfl rfl (lb rfl) (svI rfl) (svI rfl) rfl hx1) <|
  ils_end ?_)
 refine iwp_cond (b := _) rfl (fun hc2 => ?_) (fun hc2 => ?_)
 ·
  replace h := bif_t h hc2
  refine iwp_reg (ils_cons rfl (iop_assign rfl rfl (lb rfl) (sv (d := .bool false) rfl)) <|
   ils_end ?_)
  refine iwp_ret ?_
  refine thenQ_r ?_
  obtain rfl := Option.some.inj h
  refine ⟨.inr rfl, (.cons (sv rfl) .nil)⟩
 ·
  replace h := bif_f h hc2
  refine iwp_skip ?_
  refine thenQ_n ?_
  refine iwp_seq ?_
  refine iwp_reg (ils_cons rfl (iop_assign rfl rfl (lb rfl) (sv (d := .int _ 0) rfl)) <|
   ils_end ?_)
  refine iwp_block ?_
  refine iwp_loopP (α := Nat × Int) (fun z => ⟨[(0, .slice false (a0.map (eInt .i64).d)), (1, .slice false (a1.map (eInt .i64).d)), (5, .int .i64 z.2)], []⟩) (fun z => sennitref28_SameInts_L0 a0 a1 z.1 z.2 = some r) (fun z => z.1) (fuel, 0) (fun i => i) ⟨(.sames rfl rfl), .nil, nd_of [] rfl (by decide), fun _ _ => rfl⟩ ?_ ?_
  ·exact h
  ·
   rintro ⟨n0, v10⟩ h
   cases n0 with
   | zero => exact absurd h (by unfold sennitref28_SameInts_L0; exact nofun)
   | succ n0 =>
    unfold sennitref28_SameInts_L0 at h
    refine iwp_seq ?_
    obtain ⟨x18, hx18, h⟩ := bnd_e h
    refine iwp_reg (ils_cons rfl (mvI rfl rfl rfl rfl) <|
     ils_cons rfl (mvL rfl rfl rfl rfl) <|
     ils_cons rfl (iop_lenT (eInt .i64) (l := a0) rfl rfl (lb rfl) Try.underlying41 (svL rfl)) <|
     ils_cons rfl (iop_cmpx rfl rfl (lb rfl) (svI rfl) (svI rfl) rfl hx18) <|
     ils_end ?_)
    refine iwp_cond (b := _) rfl (fun hc19 => ?_) (fun hc19 => ?_)
    ·
     replace h := bif_t h hc19
     refine iwp_skip ?_
     refine thenQ_n ?_
     refine iwp_seq ?_
     refine iwp_block ?_
     obtain ⟨x20, hx20, h⟩ := bno_e h
     obtain ⟨x21, hx21, h⟩ := bno_e h
     obtain ⟨x22, hx22, h⟩ := bnd_e h
     refine iwp_drw rfl [⟨[0], [], [(17, .slice false (a0.map (eInt .i64).d))], []⟩,
      ⟨[5], [], [(18, .int .i64 v10)], []⟩,
      ⟨[17, 18], [], [(19, .fptr [.int .i64 x20])], []⟩,
      ⟨[19], [], [(20, .int .i64 x20)], []⟩,
      ⟨[1], [], [(21, .slice false (a1.map (eInt .i64).d))], []⟩,
      ⟨[5], [], [(22, .int .i64 v10)], []⟩,
      ⟨[21, 22], [], [(23, .fptr [.int .i64 x21])], []⟩,
      ⟨[23], [], [(24, .int .i64 x21)], []⟩,
      ⟨[20, 24], [], [(25, .bool x22)], []⟩] rfl ?_ (by kernel_rfl) ?_
     ·refine .cons (lop rfl rfl fun S hA => (iop_move rfl rfl (lb rfl) (svaL hA rfl rfl))) ?_
      refine .cons (lop rfl rfl fun S hA => (iop_move rfl rfl (lb rfl) (svaI hA rfl rfl))) ?_
      refine .cons (lop rfl rfl fun S hA => (iop_idxT (eInt .i64) (cs := [.int _ _]) rfl rfl (lb rfl) Try.underlying41 ti3 (svaL hA rfl rfl) (svaI hA rfl rfl) hx20 rfl rfl)) ?_
      refine .cons (lop rfl rfl fun S hA => (iop_load_fs rfl rfl (lb rfl) Try.underlying3 ag3 ti3 (by decide) (sv (d := .fptr [.int _ _]) (agr hA rfl rfl)) (nle rfl))) ?_
      refine .cons (lop rfl rfl fun S hA => (iop_move rfl rfl (lb rfl) (svaL hA rfl rfl))) ?_
      refine .cons (lop rfl rfl fun S hA => (iop_move rfl rfl (lb rfl) (svaI hA rfl rfl))) ?_
      refine .cons (lop rfl rfl fun S hA => (iop_idxT (eInt .i64) (cs := [.int _ _]) rfl rfl (lb rfl) Try.underlying41 ti3 (svaL hA rfl rfl) (svaI hA rfl rfl) hx21 rfl rfl)) ?_
      refine .cons (lop rfl rfl fun S hA => (iop_load_fs rfl rfl (lb rfl) Try.underlying3 ag3 ti3 (by decide) (sv (d := .fptr [.int _ _]) (agr hA rfl rfl)) (nle rfl))) ?_
      refine .cons (lop rfl rfl fun S hA => (iop_cmpx rfl rfl (lb rfl) (svaI hA rfl rfl) (svaI hA rfl rfl) rfl hx22)) ?_
      exact .nil
     refine iwp_cond (b := _) rfl (fun hc23 => ?_) (fun hc23 => ?_)
     ·
      replace h := bif_t h hc23
      refine iwp_reg (ils_cons rfl (iop_assign rfl rfl (lb rfl) (sv (d := .bool false) rfl)) <|
       ils_end ?_)
      refine iwp_ret ?_
      refine blockQ_r ?_
      refine thenQ_r ?_
      refine thenQ_r ?_
      refine blockQ_r ?_
      refine thenQ_r ?_
      obtain rfl := Option.some.inj h
      refine ⟨.inr rfl, (.cons (sv rfl) .nil)⟩
     ·
      replace h := bif_f h hc23
      refine iwp_skip ?_
      refine blockQ_n ?_
      refine thenQ_n ?_
      obtain ⟨x24, hx24, h⟩ := bnd_e h
      refine iwp_region (ils_cons rfl (mvI rfl rfl rfl rfl) <|
       ils_cons rfl (iop_intx rfl rfl (lb rfl) (svI rfl) (sv (d := .int _ 1) rfl) rfl hx24) <|
       ils_cons rfl (asI rfl rfl rfl rfl) <|
       ils_nil ?_)
      refine thenQ_n ⟨(n0, x24), (fun i => i), ⟨(.sames rfl rfl), .nil, nd_of [] rfl (by decide), fun _ _ => rfl⟩, ?_, ?_⟩
      exact h
      exact Nat.lt_succ_self _
    ·
     replace h := bif_f h hc19
     refine iwp_exit ?_
     refine thenQ_e ?_
     refine thenQ_e ?_
     refine blockQ_e ?_
     refine thenQ_n ?_
     refine iwp_reg (ils_cons rfl (iop_assign rfl rfl (lb rfl) (sv (d := .bool true) rfl)) <|
      ils_end ?_)
     refine iwp_ret ?_
     obtain rfl := Option.some.inj h
     refine ⟨.inr rfl, (.cons (sv rfl) .nil)⟩

theorem p_paths_Best (a0 : T_paths_State) (r : Int) (h : paths_Best a0 = some r) : PureAt Try.prog 32 [.agg (v0 a0)] (.int .i64 r) := by
 refine pure_of_iwp (rs := [.int .i64 r]) Try.func32 rfl Try.ntmps32 (nle rfl) rfl fun O hO => ?_
 show IWP _ _ _ _ ⟨[(0, .agg (v0 a0))], []⟩ _
 unfold paths_Best at h
 refine iwp_reg (ils_cons rfl (iop_box' (cs := q3) 0 rfl rfl (lb rfl) rfl (svA q3 rfl) rfl rfl) <|
  ils_cons rfl (iop_assign rfl rfl (lb rfl) (sv (d := .int _ 0) rfl)) <|
  ils_end ?_)
 refine iwp_seq ?_
 obtain ⟨x1, hx1, h⟩ := bno_e h
 obtain ⟨x2, hx2, h⟩ := bnd_e h
 refine iwp_reg (ils_cons rfl (lra q3 la35 rfl rfl rfl rfl rfl (nle rfl) rfl) <|
  ils_cons rfl (iop_call (r := .int _ _) rfl rfl (lb rfl) cl28 (.cons (svA q3 rfl) .nil) rfl (p_paths_Check _ _ hx1)) <|
  ils_cons rfl (iop_cmpx rfl rfl (lb rfl) (svI rfl) (sv (d := .int _ 0) rfl) rfl hx2) <|
  ils_end ?_)
 refine iwp_cond (b := _) rfl (fun hc3 => ?_) (fun hc3 => ?_)
 ·
  replace h := bif_t h hc3
  refine iwp_reg (ils_cons rfl (iop_assign rfl rfl (lb rfl) (sv (d := .int _ (-1)) rfl)) <|
   ils_end ?_)
  refine iwp_ret ?_
  refine thenQ_r ?_
  obtain rfl := Option.some.inj h
  refine ⟨.inr rfl, (.cons (sv rfl) .nil)⟩
 ·
  replace h := bif_f h hc3
  refine iwp_skip ?_
  refine thenQ_n ?_
  obtain ⟨x4, hx4, h⟩ := bno_e h
  refine iwp_reg (ils_cons rfl (lra q3 la35 rfl rfl rfl rfl rfl (nle rfl) rfl) <|
   ils_cons rfl (iop_call (r := .int _ _) rfl rfl (lb rfl) cl48 (.cons (svA q3 rfl) .nil) rfl (p_paths_State_best _ _ hx4)) <|
   ils_cons rfl (asI rfl rfl rfl rfl) <|
   ils_end ?_)
  refine iwp_ret ?_
  obtain rfl := Option.some.inj h
  refine ⟨.inr rfl, (.cons (sv rfl) .nil)⟩

theorem p_math_Abs (a0 : Nat) (r : Nat) (h : math_Abs a0 = some r) : PureAt Try.prog 73 [.float .f64 a0] (.float .f64 r) := by
 refine pure_of_iwp (rs := [.float .f64 r]) Try.func73 rfl Try.ntmps73 (nle rfl) rfl fun O hO => ?_
 show IWP _ _ _ _ ⟨[(0, .float .f64 a0)], []⟩ _
 unfold math_Abs at h
 refine iwp_reg (ils_cons rfl (iop_assign rfl rfl (lb rfl) (sv (d := .float _ _) rfl)) <|
  ils_end ?_)
 obtain ⟨x1, hx1, h⟩ := bno_e h
 obtain ⟨x2, hx2, h⟩ := bnd_e h
 obtain ⟨x3, hx3, h⟩ := bnd_e h
 refine iwp_reg (ils_cons rfl (iop_move rfl rfl (lb rfl) (sv (d := .float _ _) rfl)) <|
  ils_cons rfl (iop_fbits rfl rfl (lb rfl) ex55 (sv (d := .float _ _) rfl) hx1) <|
  ils_cons rfl (iop_intx rfl rfl (lb rfl) (svI rfl) (sv (d := .int _ 9223372036854775808) rfl) rfl hx2) <|
  ils_cons rfl (iop_ffrom rfl rfl (lb rfl) ex76 (svI rfl) hx3) <|
  ils_cons rfl (iop_assign rfl rfl (lb rfl) (sv (d := .float _ _) rfl)) <|
  ils_end ?_)
 refine iwp_ret ?_
 obtain rfl := Option.some.inj h
 refine ⟨.inr rfl, (.cons (sv rfl) .nil)⟩

theorem p_math_IsInf (a0 : Nat) (a1 : Int) (r : Bool) (h : math_IsInf a0 a1 = some r) : PureAt Try.prog 62 [.float .f64 a0, .int .i64 a1] (.bool r) := by
 refine pure_of_iwp (rs := [.bool r]) Try.func62 rfl Try.ntmps62 (nle rfl) rfl fun O hO => ?_
 show IWP _ _ _ _ ⟨[(0, .float .f64 a0), (1, .int .i64 a1)], []⟩ _
 unfold math_IsInf at h
 refine iwp_reg (ils_cons rfl (iop_assign rfl rfl (lb rfl) (sv (d := .bool false) rfl)) <|
  ils_end ?_)
 refine iwp_seq ?_
 obtain ⟨x1, hx1, h⟩ := bnd_e h
 refine iwp_reg (ils_cons rfl (mvI rfl rfl rfl rfl) <|
  ils_cons rfl (iop_cmpx rfl rfl (lb rfl) (svI rfl) (sv (d := .int _ 0) rfl) rfl hx1) <|
  ils_end ?_)
 refine iwp_cond (b := _) rfl (fun hc2 => ?_) (fun hc2 => ?_)
 ·
  replace h := bif_t h hc2
  obtain ⟨x3, hx3, h⟩ := bno_e h
  refine iwp_region (ils_cons rfl (iop_move rfl rfl (lb rfl) (sv (d := .float _ _) rfl)) <|
   ils_cons rfl (iop_call (r := .float _ _) rfl rfl (lb rfl) cl73 (.cons (sv (d := .float _ _) rfl) .nil) rfl (p_math_Abs _ _ hx3)) <|
   ils_cons rfl (iop_assign rfl rfl (lb rfl) (sv (d := .float _ _) rfl)) <|
   ils_nil ?_)
  refine thenQ_n ?_
  obtain ⟨x4, hx4, h⟩ := bnd_e h
  refine iwp_reg (ils_cons rfl (iop_move rfl rfl (lb rfl) (sv (d := .float _ _) rfl)) <|
   ils_cons rfl (iop_fcmpx rfl rfl (lb rfl) (sv (d := .float _ _) rfl) (sv (d := .float _ _) rfl) rfl hx4) <|
   ils_cons rfl (asB rfl rfl rfl rfl) <|
   ils_end ?_)
  refine iwp_ret ?_
  obtain rfl := Option.some.inj h
  refine ⟨.inr rfl, (.cons (sv rfl) .nil)⟩
 ·
  replace h := bif_f h hc2
  obtain ⟨x5, hx5, h⟩ := bnd_e h
  refine iwp_reg (ils_cons rfl (mvI rfl rfl rfl rfl) <|
   ils_cons rfl (iop_cmpx rfl rfl (lb rfl) (svI rfl) (sv (d := .int _ 0) rfl) rfl hx5) <|
   ils_end ?_)
  refine iwp_cond (b := _) rfl (fun hc6 => ?_) (fun hc6 => ?_)
  ·
   replace h := bif_t h hc6
   obtain ⟨x7, hx7, h⟩ := bnd_e h
   refine iwp_region (ils_cons rfl (iop_move rfl rfl (lb rfl) (sv (d := .float _ _) rfl)) <|
    ils_cons rfl (iop_fneg rfl rfl (lb rfl) (sv (d := .float _ _) rfl) hx7) <|
    ils_cons rfl (iop_assign rfl rfl (lb rfl) (sv (d := .float _ _) rfl)) <|
    ils_nil ?_)
   refine thenQ_n ?_
   obtain ⟨x8, hx8, h⟩ := bnd_e h
   refine iwp_reg (ils_cons rfl (iop_move rfl rfl (lb rfl) (sv (d := .float _ _) rfl)) <|
    ils_cons rfl (iop_fcmpx rfl rfl (lb rfl) (sv (d := .float _ _) rfl) (sv (d := .float _ _) rfl) rfl hx8) <|
    ils_cons rfl (asB rfl rfl rfl rfl) <|
    ils_end ?_)
   refine iwp_ret ?_
   obtain rfl := Option.some.inj h
   refine ⟨.inr rfl, (.cons (sv rfl) .nil)⟩
  ·
   replace h := bif_f h hc6
   refine iwp_skip ?_
   refine thenQ_n ?_
   obtain ⟨x9, hx9, h⟩ := bnd_e h
   refine iwp_reg (ils_cons rfl (iop_move rfl rfl (lb rfl) (sv (d := .float _ _) rfl)) <|
    ils_cons rfl (iop_fcmpx rfl rfl (lb rfl) (sv (d := .float _ _) rfl) (sv (d := .float _ _) rfl) rfl hx9) <|
    ils_cons rfl (asB rfl rfl rfl rfl) <|
    ils_end ?_)
   refine iwp_ret ?_
   obtain rfl := Option.some.inj h
   refine ⟨.inr rfl, (.cons (sv rfl) .nil)⟩

theorem p_math_Signbit (a0 : Nat) (r : Bool) (h : math_Signbit a0 = some r) : PureAt Try.prog 63 [.float .f64 a0] (.bool r) := by
 refine pure_of_iwp (rs := [.bool r]) Try.func63 rfl Try.ntmps63 (nle rfl) rfl fun O hO => ?_
 show IWP _ _ _ _ ⟨[(0, .float .f64 a0)], []⟩ _
 unfold math_Signbit at h
 refine iwp_reg (ils_cons rfl (iop_assign rfl rfl (lb rfl) (sv (d := .bool false) rfl)) <|
  ils_end ?_)
 obtain ⟨x1, hx1, h⟩ := bno_e h
 obtain ⟨x2, hx2, h⟩ := bnd_e h
 obtain ⟨x3, hx3, h⟩ := bnd_e h
 refine iwp_reg (ils_cons rfl (iop_move rfl rfl (lb rfl) (sv (d := .float _ _) rfl)) <|
  ils_cons rfl (iop_fbits rfl rfl (lb rfl) ex55 (sv (d := .float _ _) rfl) hx1) <|
  ils_cons rfl (iop_int_conv rfl rfl (lb rfl) ⟨_, Try.underlying63⟩ Try.underlying2 (svI rfl) hx2) <|
  ils_cons rfl (iop_cmpx rfl rfl (lb rfl) (svI rfl) (sv (d := .int _ 0) rfl) rfl hx3) <|
  ils_cons rfl (asB rfl rfl rfl rfl) <|
  ils_end ?_)
 refine iwp_ret ?_
 obtain rfl := Option.some.inj h
 refine ⟨.inr rfl, (.cons (sv rfl) .nil)⟩

theorem p_gauge_Kind (a0 : Nat) (r : Int) (h : gauge_Kind a0 = some r) : PureAt Try.prog 39 [.float .f64 a0] (.int .i64 r) := by
 refine pure_of_iwp (rs := [.int .i64 r]) Try.func39 rfl Try.ntmps39 (nle rfl) rfl fun O hO => ?_
 show IWP _ _ _ _ ⟨[(0, .float .f64 a0)], []⟩ _
 unfold gauge_Kind at h
 refine iwp_reg (ils_cons rfl (iop_assign rfl rfl (lb rfl) (sv (d := .int _ 0) rfl)) <|
  ils_end ?_)
 refine iwp_reg (ils_cons rfl (iop_assign rfl rfl (lb rfl) (sv (d := .int _ 4) rfl)) <|
  ils_end ?_)
 refine iwp_join (α := Int) (fun z => ⟨[(0, .float .f64 a0), (3, .int .i64 z)], []⟩) (fun z => gauge_Kind_J0 a0 z = some r) ?_ ?_
 ·
  refine iwp_block ?_
  refine iwp_seq ?_
  refine iwp_block ?_
  refine iwp_seq ?_
  refine iwp_block ?_
  refine iwp_seq ?_
  refine iwp_block ?_
  refine iwp_seq ?_
  refine iwp_block ?_
  refine iwp_seq ?_
  refine iwp_seq ?_
  obtain ⟨x11, hx11, h⟩ := bno_e h
  refine iwp_reg (ils_cons rfl (iop_move rfl rfl (lb rfl) (sv (d := .float _ _) rfl)) <|
   ils_cons rfl (iop_call (r := .bool _) rfl rfl (lb rfl) cl61 (.cons (sv (d := .float _ _) rfl) .nil) rfl (p_math_IsNaN _ _ hx11)) <|
   ils_cons rfl (asB rfl rfl rfl rfl) <|
   ils_end ?_)
  refine iwp_cond (b := _) rfl (fun hc12 => ?_) (fun hc12 => ?_)
  ·
   replace h := bif_t h hc12
   refine iwp_exit ?_
   refine thenQ_e ?_
   refine thenQ_e ?_
   refine blockQ_e ?_
   refine thenQ_n ?_
   refine iwp_seq ?_
   refine iwp_reg (ils_cons rfl (iop_assign rfl rfl (lb rfl) (sv (d := .int _ 0) rfl)) <|
    ils_end ?_)
   refine iwp_ret ?_
   refine thenQ_r ?_
   refine blockQ_r ?_
   refine thenQ_r ?_
   refine blockQ_r ?_
   refine thenQ_r ?_
   refine blockQ_r ?_
   refine thenQ_r ?_
   refine blockQ_r ?_
   refine thenQ_r ?_
   obtain rfl := Option.some.inj h
   refine ⟨.inr rfl, (.cons (sv rfl) .nil)⟩
  ·
   replace h := bif_f h hc12
   refine iwp_skip ?_
   refine thenQ_n ?_
   refine iwp_seq ?_
   obtain ⟨x13, hx13, h⟩ := bno_e h
   refine iwp_reg (ils_cons rfl (iop_move rfl rfl (lb rfl) (sv (d := .float _ _) rfl)) <|
    ils_cons rfl (iop_call (r := .bool _) rfl rfl (lb rfl) cl62 (.cons (sv (d := .float _ _) rfl) (.cons (sv (d := .int _ 0) rfl) .nil)) rfl (p_math_IsInf _ _ _ hx13)) <|
    ils_cons rfl (asB rfl rfl rfl rfl) <|
    ils_end ?_)
   refine iwp_cond (b := _) rfl (fun hc14 => ?_) (fun hc14 => ?_)
   ·
    replace h := bif_t h hc14
    refine iwp_exit ?_
    refine thenQ_e ?_
    refine thenQ_e ?_
    refine blockQ_x rfl ?_
    refine thenQ_e ?_
    refine blockQ_e ?_
    refine thenQ_n ?_
    refine iwp_reg (ils_cons rfl (iop_assign rfl rfl (lb rfl) (sv (d := .int _ 6) rfl)) <|
     ils_end ?_)
    refine iwp_exit ?_
    refine blockQ_x rfl ?_
    refine thenQ_e ?_
    refine blockQ_x rfl ?_
    refine thenQ_e ?_
    refine blockQ_e ?_
    refine thenQ_n ⟨6, (fun i => i), ⟨(.sames rfl rfl), .nil, nd_of [] rfl (by decide), fun _ _ => rfl⟩, ?_⟩
    exact h
   ·
    replace h := bif_f h hc14
    refine iwp_skip ?_
    refine thenQ_n ?_
    obtain ⟨x15, hx15, h⟩ := bnd_e h
    refine iwp_reg (ils_cons rfl (iop_move rfl rfl (lb rfl) (sv (d := .float _ _) rfl)) <|
     ils_cons rfl (iop_fcmpx rfl rfl (lb rfl) (sv (d := .float _ _) rfl) (sv (d := .float _ _) rfl) rfl hx15) <|
     ils_cons rfl (asB rfl rfl rfl rfl) <|
     ils_end ?_)
    refine iwp_cond (b := _) rfl (fun hc16 => ?_) (fun hc16 => ?_)
    ·
     replace h := bif_t h hc16
     refine iwp_exit ?_
     refine thenQ_e ?_
     refine blockQ_x rfl ?_
     refine thenQ_e ?_
     refine blockQ_x rfl ?_
     refine thenQ_e ?_
     refine blockQ_e ?_
     refine thenQ_n ?_
     refine iwp_region (ils_cons rfl (iop_assign rfl rfl (lb rfl) (sv (d := .int _ 5) rfl)) <|
      ils_nil ?_)
     refine blockQ_n ?_
     refine thenQ_n ?_
     refine iwp_exit ?_
     refine blockQ_e ?_
     refine thenQ_n ⟨5, (fun i => i), ⟨(.sames rfl rfl), .nil, nd_of [] rfl (by decide), fun _ _ => rfl⟩, ?_⟩
     exact h
    ·
     replace h := bif_f h hc16
     refine iwp_skip ?_
     refine thenQ_n ?_
     refine iwp_exit ?_
     refine blockQ_x rfl ?_
     refine thenQ_e ?_
     refine blockQ_x rfl ?_
     refine thenQ_e ?_
     refine blockQ_x rfl ?_
     refine thenQ_e ?_
     refine blockQ_e ?_
     refine thenQ_n ?_
     refine iwp_exit ?_
     refine blockQ_e ?_
     refine thenQ_n ⟨4, (fun i => i), ⟨(.sames rfl rfl), .nil, nd_of [] rfl (by decide), fun _ _ => rfl⟩, ?_⟩
     exact h
 ·
  rintro v7 h
  unfold gauge_Kind_J0 at h
  refine iwp_seq ?_
  obtain ⟨x8, hx8, h⟩ := bno_e h
  refine iwp_reg (ils_cons rfl (iop_move rfl rfl (lb rfl) (sv (d := .float _ _) rfl)) <|
   ils_cons rfl (iop_call (r := .bool _) rfl rfl (lb rfl) cl63 (.cons (sv (d := .float _ _) rfl) .nil) rfl (p_math_Signbit _ _ hx8)) <|
   ils_cons rfl (iop_not rfl rfl (lb rfl) (svB rfl)) <|
   ils_end ?_)
  refine iwp_cond (b := _) rfl (fun hc9 => ?_) (fun hc9 => ?_)
  ·
   replace h := bif_t h hc9
   refine iwp_reg (ils_cons rfl (mvI rfl rfl rfl rfl) <|
    ils_cons rfl (asI rfl rfl rfl rfl) <|
    ils_end ?_)
   refine iwp_ret ?_
   refine thenQ_r ?_
   obtain rfl := Option.some.inj h
   refine ⟨.inr rfl, (.cons (sv rfl) .nil)⟩
  ·
   replace h := bif_f h hc9
   refine iwp_skip ?_
   refine thenQ_n ?_
   obtain ⟨x10, hx10, h⟩ := bnd_e h
   refine iwp_reg (ils_cons rfl (mvI rfl rfl rfl rfl) <|
    ils_cons rfl (iop_intx rfl rfl (lb rfl) (sv (d := .int _ 7) rfl) (svI rfl) rfl hx10) <|
    ils_cons rfl (asI rfl rfl rfl rfl) <|
    ils_end ?_)
   refine iwp_ret ?_
   obtain rfl := Option.some.inj h
   refine ⟨.inr rfl, (.cons (sv rfl) .nil)⟩

theorem p_slices_Equal_paths_Bind_paths_Bind (a0 : (List T_paths_Bind)) (a1 : (List T_paths_Bind)) (r : Bool) (h : slices_Equal_paths_Bind_paths_Bind a0 a1 = some r) : PureAt Try.prog 60 [.slice false (a0.map E_paths_Bind.d), .slice false (a1.map E_paths_Bind.d)] (.bool r) := by
 refine pure_of_iwp (rs := [.bool r]) Try.func60 rfl Try.ntmps60 (nle rfl) rfl fun O hO => ?_
 show IWP _ _ _ _ ⟨[(0, .slice false (a0.map E_paths_Bind.d)), (1, .slice false (a1.map E_paths_Bind.d))], []⟩ _
 unfold slices_Equal_paths_Bind_paths_Bind at h
 refine iwp_reg (ils_cons rfl (iop_assign rfl rfl (lb rfl) (sv (d := .bool false) rfl)) <|
  ils_end ?_)
 refine iwp_seq ?_
 obtain ⟨x1, hx1, h⟩ := bnd_e h
 refine iwp_reg (ils_cons rfl (mvL rfl rfl rfl rfl) <|
  ils_cons rfl (iop_lenT E_paths_Bind (l := a0) rfl rfl (lb rfl) Try.underlying33 (svL rfl)) <|
  ils_cons rfl (mvL rfl rfl rfl rfl) <|
  ils_cons rfl (iop_lenT E_paths_Bind (l := a1) rfl rfl (lb rfl) Try.underlying33 (svL rfl)) <|
  ils_cons rfl (iop_cmpx rfl rfl (lb rfl) (svI rfl) (svI rfl) rfl hx1) <|
  ils_end ?_)
 refine iwp_cond (b := _) rfl (fun hc2 => ?_) (fun hc2 => ?_)
 ·
  replace h := bif_t h hc2
  refine iwp_reg (ils_cons rfl (iop_assign rfl rfl (lb rfl) (sv (d := .bool false) rfl)) <|
   ils_end ?_)
  refine iwp_ret ?_
  refine thenQ_r ?_
  obtain rfl := Option.some.inj h
  refine ⟨.inr rfl, (.cons (sv rfl) .nil)⟩
 ·
  replace h := bif_f h hc2
  refine iwp_skip ?_
  refine thenQ_n ?_
  refine iwp_seq ?_
  refine iwp_reg (ils_cons rfl (mvL rfl rfl rfl rfl) <|
   ils_cons rfl (iop_lenT E_paths_Bind (l := a0) rfl rfl (lb rfl) Try.underlying33 (svL rfl)) <|
   ils_cons rfl (iop_move rfl rfl (lb rfl) (sv (d := .int _ 0) rfl)) <|
   ils_end ?_)
  refine iwp_block ?_
  refine iwp_loopP (α := Nat × Int) (fun z => ⟨[(0, .slice false (a0.map E_paths_Bind.d)), (1, .slice false (a1.map E_paths_Bind.d)), (12, .int .i64 (a0.length : Int)), (13, .int .i64 z.2)], []⟩) (fun z => slices_Equal_paths_Bind_paths_Bind_L0 a0 a1 z.1 z.2 = some r) (fun z => z.1) (fuel, 0) (fun i => i) ⟨(.sames rfl rfl), .nil, nd_of [] rfl (by decide), fun _ _ => rfl⟩ ?_ ?_
  ·exact h
  ·
   rintro ⟨n0, v10⟩ h
   cases n0 with
   | zero => exact absurd h (by unfold slices_Equal_paths_Bind_paths_Bind_L0; exact nofun)
   | succ n0 =>
    unfold slices_Equal_paths_Bind_paths_Bind_L0 at h
    obtain ⟨x18, hx18, h⟩ := bnd_e h
    refine iwp_reg (ils_cons rfl (iop_cmpx rfl rfl (lb rfl) (svI rfl) (svI rfl) rfl hx18) <|
     ils_end ?_)
    refine iwp_seq ?_
    refine iwp_cond (b := _) rfl (fun hc19 => ?_) (fun hc19 => ?_)
    ·
     replace h := bif_t h hc19
     refine iwp_skip ?_
     refine thenQ_n ?_
     refine iwp_seq ?_
     refine iwp_block ?_
     refine iwp_reg (ils_cons rfl (mvI rfl rfl rfl rfl) <|
      ils_cons rfl (asI rfl rfl rfl rfl) <|
      ils_end ?_)
     obtain ⟨x20, hx20, h⟩ := bno_e h
     obtain ⟨x21, hx21, h⟩ := bno_e h
     obtain ⟨x22, hx22, h⟩ := bnd_e h
     refine iwp_drw rfl [⟨[0], [], [(16, .slice false (a0.map E_paths_Bind.d))], []⟩,
      ⟨[5], [], [(17, .int .i64 v10)], []⟩,
      ⟨[16, 17], [], [(18, .fptr [.int .i64 x20.Stream, .int .i64 x20.Path])], []⟩,
      ⟨[18], [], [(19, .agg [.int .i64 x20.Stream, .int .i64 x20.Path])], []⟩,
      ⟨[1], [], [(20, .slice false (a1.map E_paths_Bind.d))], []⟩,
      ⟨[5], [], [(21, .int .i64 v10)], []⟩,
      ⟨[20, 21], [], [(22, .fptr [.int .i64 x21.Stream, .int .i64 x21.Path])], []⟩,
      ⟨[22], [], [(23, .agg [.int .i64 x21.Stream, .int .i64 x21.Path])], []⟩,
      ⟨[19, 23], [], [(24, .bool (!x22))], []⟩] rfl ?_ (by kernel_rfl) ?_
     ·refine .cons (lop rfl rfl fun S hA => (iop_move rfl rfl (lb rfl) (svaL hA rfl rfl))) ?_
      refine .cons (lop rfl rfl fun S hA => (iop_move rfl rfl (lb rfl) (svaI hA rfl rfl))) ?_
      refine .cons (lop rfl rfl fun S hA => (iop_idxT E_paths_Bind (cs := q8) rfl rfl (lb rfl) Try.underlying33 ti86 (svaL hA rfl rfl) (svaI hA rfl rfl) hx20 rfl rfl)) ?_
      refine .cons (lop rfl rfl fun S hA => (iop_load_fa (cs := q8) rfl rfl (lb rfl) Try.underlying86 ag86 ti86 (by decide) (sv (d := .fptr q8) (agr hA rfl rfl)) (nle rfl) rfl)) ?_
      refine .cons (lop rfl rfl fun S hA => (iop_move rfl rfl (lb rfl) (svaL hA rfl rfl))) ?_
      refine .cons (lop rfl rfl fun S hA => (iop_move rfl rfl (lb rfl) (svaI hA rfl rfl))) ?_
      refine .cons (lop rfl rfl fun S hA => (iop_idxT E_paths_Bind (cs := q8) rfl rfl (lb rfl) Try.underlying33 ti86 (svaL hA rfl rfl) (svaI hA rfl rfl) hx21 rfl rfl)) ?_
      refine .cons (lop rfl rfl fun S hA => (iop_load_fa (cs := q8) rfl rfl (lb rfl) Try.underlying86 ag86 ti86 (by decide) (sv (d := .fptr q8) (agr hA rfl rfl)) (nle rfl) rfl)) ?_
      refine .cons (lop rfl rfl fun S hA => (iop_nes rfl rfl (lb rfl) Try.underlying86 st86.1 st86.2 (svaA q8 hA rfl rfl) (svaA q8 hA rfl rfl) (congrArg some hx22))) ?_
      exact .nil
     refine iwp_cond (b := _) rfl (fun hc23 => ?_) (fun hc23 => ?_)
     ·
      replace h := bif_t h hc23
      refine iwp_reg (ils_cons rfl (iop_assign rfl rfl (lb rfl) (sv (d := .bool false) rfl)) <|
       ils_end ?_)
      refine iwp_ret ?_
      refine blockQ_r ?_
      refine thenQ_r ?_
      refine thenQ_r ?_
      refine blockQ_r ?_
      refine thenQ_r ?_
      obtain rfl := Option.some.inj h
      refine ⟨.inr rfl, (.cons (sv rfl) .nil)⟩
     ·
      replace h := bif_f h hc23
      refine iwp_skip ?_
      refine blockQ_n ?_
      refine thenQ_n ?_
      obtain ⟨x24, hx24, h⟩ := bnd_e h
      refine iwp_region (ils_cons rfl (iop_intx rfl rfl (lb rfl) (svI rfl) (sv (d := .int _ 1) rfl) rfl hx24) <|
       ils_cons rfl (mvI rfl rfl rfl rfl) <|
       ils_nil ?_)
      refine thenQ_n ⟨(n0, x24), (fun i => i), ⟨(.sames rfl rfl), .nil, nd_of [] rfl (by decide), fun _ _ => rfl⟩, ?_, ?_⟩
      exact h
      exact Nat.lt_succ_self _
    ·
     replace h := bif_f h hc19
     refine iwp_exit ?_
     refine thenQ_e ?_
     refine thenQ_e ?_
     refine blockQ_e ?_
     refine thenQ_n ?_
     refine iwp_reg (ils_cons rfl (iop_assign rfl rfl (lb rfl) (sv (d := .bool true) rfl)) <|
      ils_end ?_)
     refine iwp_ret ?_
     obtain rfl := Option.some.inj h
     refine ⟨.inr rfl, (.cons (sv rfl) .nil)⟩

theorem p_paths_Same (a0 : T_paths_State) (a1 : T_paths_State) (r : Bool) (h : paths_Same a0 a1 = some r) : PureAt Try.prog 34 [.agg (v0 a0), .agg (v0 a1)] (.bool r) := by
 refine pure_of_iwp (rs := [.bool r]) Try.func34 rfl Try.ntmps34 (nle rfl) rfl fun O hO => ?_
 show IWP _ _ _ _ ⟨[(0, .agg (v0 a0)), (1, .agg (v0 a1))], []⟩ _
 unfold paths_Same at h
 refine iwp_reg (ils_cons rfl (iop_box' (cs := q3) 0 rfl rfl (lb rfl) rfl (svA q3 rfl) rfl rfl) <|
  ils_cons rfl (iop_box' (cs := q3) 1 rfl rfl (lb rfl) rfl (svA q3 rfl) rfl rfl) <|
  ils_cons rfl (iop_assign rfl rfl (lb rfl) (sv (d := .bool false) rfl)) <|
  ils_end ?_)
 obtain ⟨x1, hx1, h⟩ := bnd_e h
 obtain ⟨x2, hx2, h⟩ := bnd_e h
 obtain ⟨x3, hx3, h⟩ := bnd_e h
 obtain ⟨x4, hx4, h⟩ := bno_e h
 obtain ⟨x5, hx5, h⟩ := bnd_e h
 refine iwp_reg (ils_cons rfl (faR 0 rfl rfl rfl Try.underlying35 rfl ti32 (lb rfl) rfl rfl) <|
  ils_cons rfl (lra q6 la32 rfl rfl rfl rfl rfl (nle rfl) rfl) <|
  ils_cons rfl (faR 0 rfl rfl rfl Try.underlying35 rfl ti32 (lb rfl) rfl rfl) <|
  ils_cons rfl (lra q6 la32 rfl rfl rfl rfl rfl (nle rfl) rfl) <|
  ils_cons rfl (iop_eqt rfl rfl (lb rfl) st32.2 (svA q6 rfl) (svA q6 rfl) (Eq.trans (by kernel_rfl) (congrArg some hx1))) <|
  ils_cons rfl (mvB rfl rfl rfl rfl) <|
  ils_guard rfl rfl (.one rfl) rfl (by decide) (fun hb => (faR 16 rfl rfl rfl Try.underlying35 rfl ti3 (lb rfl) rfl rfl)) <|
  ils_guard rfl rfl (.one rfl) rfl (by decide) (fun hb => (iop_load_rs (d := .int _ _) rfl rfl (lb rfl) Try.underlying3 ag3 ti3 (by decide) (svcR rfl hb) rfl (nle rfl) rfl)) <|
  ils_guard rfl rfl (.one rfl) rfl (by decide) (fun hb => (faR 16 rfl rfl rfl Try.underlying35 rfl ti3 (lb rfl) rfl rfl)) <|
  ils_guard rfl rfl (.one rfl) rfl (by decide) (fun hb => (iop_load_rs (d := .int _ _) rfl rfl (lb rfl) Try.underlying3 ag3 ti3 (by decide) (svcR rfl hb) rfl (nle rfl) rfl)) <|
  ils_guard rfl rfl (.one rfl) rfl (by decide) (fun hb => (iop_cmpx rfl rfl (lb rfl) (svcI rfl hb) (svcI rfl hb) rfl hx2)) <|
  ils_cons rfl (iop_andx rfl rfl (lb rfl) (svB rfl) rfl rfl hx3) <|
  ils_cons rfl (mvB rfl rfl rfl rfl) <|
  ils_guard rfl rfl (.one rfl) rfl (by decide) (fun hb => (faR 17 rfl rfl rfl Try.underlying35 rfl ti33 (lb rfl) rfl rfl)) <|
  ils_guard rfl rfl (.one rfl) rfl (by decide) (fun hb => (iop_load_rs (d := .slice _ _) rfl rfl (lb rfl) Try.underlying33 ag33 ti33 (by decide) (svcR rfl hb) rfl (nle rfl) rfl)) <|
  ils_guard rfl rfl (.one rfl) rfl (by decide) (fun hb => (faR 17 rfl rfl rfl Try.underlying35 rfl ti33 (lb rfl) rfl rfl)) <|
  ils_guard rfl rfl (.one rfl) rfl (by decide) (fun hb => (iop_load_rs (d := .slice _ _) rfl rfl (lb rfl) Try.underlying33 ag33 ti33 (by decide) (svcR rfl hb) rfl (nle rfl) rfl)) <|
  ils_guard rfl rfl (.one rfl) rfl (by decide) (fun hb => (iop_call (r := .bool _) rfl rfl (lb rfl) cl60 (.cons (svcL rfl hb) (.cons (svcL rfl hb) .nil)) rfl (p_slices_Equal_paths_Bind_paths_Bind _ _ _ (gd_t hx4 hb)))) <|
  ils_cons rfl (iop_andx rfl rfl (lb rfl) (svB rfl) rfl rfl hx5) <|
  ils_cons rfl (asB rfl rfl rfl rfl) <|
  ils_end ?_)
 refine iwp_ret ?_
 obtain rfl := Option.some.inj h
 refine ⟨.inr rfl, (.cons (sv rfl) .nil)⟩

theorem p_sennitlaw28_awake  (r : Bool) (h : sennitlaw28_awake = some r) : PureAt Try.prog 8 [] (.bool r) := by
 refine pure_of_iwp (rs := [.bool r]) Try.func8 rfl Try.ntmps8 (nle rfl) rfl fun O hO => ?_
 show IWP _ _ _ _ ⟨[], []⟩ _
 unfold sennitlaw28_awake at h
 refine iwp_reg (ils_cons rfl (iop_assign rfl rfl (lb rfl) (sv (d := .bool false) rfl)) <|
  ils_end ?_)
 obtain ⟨x1, hx1, h⟩ := bno_e h
 obtain ⟨x2, hx2, h⟩ := bno_e h
 refine iwp_reg (ils_cons rfl (iop_call (r := .agg q3) rfl rfl (lb rfl) cl35 .nil rfl (p_paths_New  _ hx1)) <|
  ils_cons rfl (iop_call (r := .tuple q12) rfl rfl (lb rfl) cl10 (.cons (svA q3 rfl) (.cons (sv (d := .int _ 1) rfl) .nil)) rfl (p_paths_Rise _ _ _ hx2)) <|
  ils_cons rfl (iop_move rfl rfl (lb rfl) (sv (d := .tuple q12) rfl)) <|
  ils_cons rfl (iop_extract (d := .agg q3) rfl rfl (lb rfl) (sv (d := .tuple q12) rfl) rfl) <|
  ils_cons rfl (iop_extract (d := .bool _) rfl rfl (lb rfl) (sv (d := .tuple q12) rfl) rfl) <|
  ils_cons rfl (iop_allocS (cs := q5) (cs' := (w13 false false 0 0 false false 0 0 false false 0 0 false false 0 0 0 ([] : List T_paths_Bind))) 0 rfl rfl (lb rfl) rfl ti35 rfl rfl (.k4 (.k (.k4 (.k (.k4 (.k (.k (.k (.cons (.nils _) .nil)))))))))) <|
  ils_cons rfl (stA q3 q3 ti35 rfl rfl rfl rfl rfl rfl rfl rfl (nle rfl) rfl) <|
  ils_cons rfl (asB rfl rfl rfl rfl) <|
  ils_end ?_)
 obtain ⟨x3, hx3, h⟩ := bno_e h
 refine iwp_reg (ils_cons rfl (lra q3 la35 rfl rfl rfl rfl rfl (nle rfl) rfl) <|
  ils_cons rfl (iop_call (r := .tuple q12) rfl rfl (lb rfl) cl10 (.cons (svA q3 rfl) (.cons (sv (d := .int _ 2) rfl) .nil)) rfl (p_paths_Rise _ _ _ hx3)) <|
  ils_cons rfl (iop_move rfl rfl (lb rfl) (sv (d := .tuple q12) rfl)) <|
  ils_cons rfl (iop_extract (d := .agg q3) rfl rfl (lb rfl) (sv (d := .tuple q12) rfl) rfl) <|
  ils_cons rfl (iop_extract (d := .bool _) rfl rfl (lb rfl) (sv (d := .tuple q12) rfl) rfl) <|
  ils_cons rfl (stA q3 q3 ti35 rfl rfl rfl rfl rfl rfl rfl rfl (nle rfl) rfl) <|
  ils_cons rfl (asB rfl rfl rfl rfl) <|
  ils_end ?_)
 obtain ⟨x4, hx4, h⟩ := bno_e h
 refine iwp_reg (ils_cons rfl (lra q3 la35 rfl rfl rfl rfl rfl (nle rfl) rfl) <|
  ils_cons rfl (iop_call (r := .tuple q12) rfl rfl (lb rfl) cl10 (.cons (svA q3 rfl) (.cons (sv (d := .int _ 2) rfl) .nil)) rfl (p_paths_Rise _ _ _ hx4)) <|
  ils_cons rfl (iop_move rfl rfl (lb rfl) (sv (d := .tuple q12) rfl)) <|
  ils_cons rfl (iop_extract (d := .agg q3) rfl rfl (lb rfl) (sv (d := .tuple q12) rfl) rfl) <|
  ils_cons rfl (iop_extract (d := .bool _) rfl rfl (lb rfl) (sv (d := .tuple q12) rfl) rfl) <|
  ils_cons rfl (iop_allocS (cs := q5) (cs' := (w13 false false 0 0 false false 0 0 false false 0 0 false false 0 0 0 ([] : List T_paths_Bind))) 1 rfl rfl (lb rfl) rfl ti35 rfl rfl (.k4 (.k (.k4 (.k (.k4 (.k (.k (.k (.cons (.nils _) .nil)))))))))) <|
  ils_cons rfl (stA q3 q3 ti35 rfl rfl rfl rfl rfl rfl rfl rfl (nle rfl) rfl) <|
  ils_cons rfl (asB rfl rfl rfl rfl) <|
  ils_end ?_)
 obtain ⟨x5, hx5, h⟩ := bno_e h
 refine iwp_reg (ils_cons rfl (lra q3 la35 rfl rfl rfl rfl rfl (nle rfl) rfl) <|
  ils_cons rfl (iop_call (r := .agg q3) rfl rfl (lb rfl) cl21 (.cons (svA q3 rfl) (.cons (sv (d := .int _ 2) rfl) (.cons (sv (d := .int _ 100) rfl) (.cons (sv (d := .int _ 5) rfl) .nil)))) rfl (p_paths_Note _ _ _ _ _ hx5)) <|
  ils_cons rfl (stA q3 q3 ti35 rfl rfl rfl rfl rfl rfl rfl rfl (nle rfl) rfl) <|
  ils_end ?_)
 obtain ⟨x6, hx6, h⟩ := bno_e h
 refine iwp_reg (ils_cons rfl (lra q3 la35 rfl rfl rfl rfl rfl (nle rfl) rfl) <|
  ils_cons rfl (iop_call (r := .tuple q11) rfl rfl (lb rfl) cl14 (.cons (svA q3 rfl) (.cons (sv (d := .int _ 7) rfl) .nil)) rfl (p_paths_Choose _ _ _ hx6)) <|
  ils_cons rfl (iop_move rfl rfl (lb rfl) (sv (d := .tuple q11) rfl)) <|
  ils_cons rfl (iop_extract (d := .agg q3) rfl rfl (lb rfl) (sv (d := .tuple q11) rfl) rfl) <|
  ils_cons rfl (iop_extract (d := .int _ _) rfl rfl (lb rfl) (sv (d := .tuple q11) rfl) rfl) <|
  ils_cons rfl (iop_allocS (cs := q5) (cs' := (w13 false false 0 0 false false 0 0 false false 0 0 false false 0 0 0 ([] : List T_paths_Bind))) 2 rfl rfl (lb rfl) rfl ti35 rfl rfl (.k4 (.k (.k4 (.k (.k4 (.k (.k (.k (.cons (.nils _) .nil)))))))))) <|
  ils_cons rfl (stA q3 q3 ti35 rfl rfl rfl rfl rfl rfl rfl rfl (nle rfl) rfl) <|
  ils_cons rfl (asI rfl rfl rfl rfl) <|
  ils_end ?_)
 obtain ⟨x7, hx7, h⟩ := bno_e h
 refine iwp_reg (ils_cons rfl (lra q3 la35 rfl rfl rfl rfl rfl (nle rfl) rfl) <|
  ils_cons rfl (iop_call (r := .tuple q11) rfl rfl (lb rfl) cl16 (.cons (svA q3 rfl) .nil) rfl (p_paths_Pin _ _ hx7)) <|
  ils_cons rfl (iop_move rfl rfl (lb rfl) (sv (d := .tuple q11) rfl)) <|
  ils_cons rfl (iop_extract (d := .agg q3) rfl rfl (lb rfl) (sv (d := .tuple q11) rfl) rfl) <|
  ils_cons rfl (iop_extract (d := .int _ _) rfl rfl (lb rfl) (sv (d := .tuple q11) rfl) rfl) <|
  ils_cons rfl (stA q3 q3 ti35 rfl rfl rfl rfl rfl rfl rfl rfl (nle rfl) rfl) <|
  ils_cons rfl (asI rfl rfl rfl rfl) <|
  ils_end ?_)
 obtain ⟨x8, hx8, h⟩ := bno_e h
 refine iwp_reg (ils_cons rfl (lra q3 la35 rfl rfl rfl rfl rfl (nle rfl) rfl) <|
  ils_cons rfl (iop_call (r := .tuple q10) rfl rfl (lb rfl) cl12 (.cons (svA q3 rfl) (.cons (sv (d := .int _ 2) rfl) .nil)) rfl (p_paths_Fall _ _ _ hx8)) <|
  ils_cons rfl (iop_move rfl rfl (lb rfl) (sv (d := .tuple q10) rfl)) <|
  ils_cons rfl (iop_extract (d := .agg q3) rfl rfl (lb rfl) (sv (d := .tuple q10) rfl) rfl) <|
  ils_cons rfl (iop_extract (d := .slice _ _) rfl rfl (lb rfl) (sv (d := .tuple q10) rfl) rfl) <|
  ils_cons rfl (iop_extract (d := .bool _) rfl rfl (lb rfl) (sv (d := .tuple q10) rfl) rfl) <|
  ils_cons rfl (iop_allocS (cs := q5) (cs' := (w13 false false 0 0 false false 0 0 false false 0 0 false false 0 0 0 ([] : List T_paths_Bind))) 3 rfl rfl (lb rfl) rfl ti35 rfl rfl (.k4 (.k (.k4 (.k (.k4 (.k (.k (.k (.cons (.nils _) .nil)))))))))) <|
  ils_cons rfl (stA q3 q3 ti35 rfl rfl rfl rfl rfl rfl rfl rfl (nle rfl) rfl) <|
  ils_cons rfl (iop_assign rfl rfl (lb rfl) (svL rfl)) <|
  ils_cons rfl (asB rfl rfl rfl rfl) <|
  ils_end ?_)
 obtain ⟨x9, hx9, h⟩ := bno_e h
 refine iwp_reg (ils_cons rfl (lra q3 la35 rfl rfl rfl rfl rfl (nle rfl) rfl) <|
  ils_cons rfl (iop_call (r := .tuple q11) rfl rfl (lb rfl) cl14 (.cons (svA q3 rfl) (.cons (sv (d := .int _ 7) rfl) .nil)) rfl (p_paths_Choose _ _ _ hx9)) <|
  ils_cons rfl (iop_move rfl rfl (lb rfl) (sv (d := .tuple q11) rfl)) <|
  ils_cons rfl (iop_extract (d := .agg q3) rfl rfl (lb rfl) (sv (d := .tuple q11) rfl) rfl) <|
  ils_cons rfl (iop_extract (d := .int _ _) rfl rfl (lb rfl) (sv (d := .tuple q11) rfl) rfl) <|
  ils_cons rfl (iop_allocS (cs := q5) (cs' := (w13 false false 0 0 false false 0 0 false false 0 0 false false 0 0 0 ([] : List T_paths_Bind))) 4 rfl rfl (lb rfl) rfl ti35 rfl rfl (.k4 (.k (.k4 (.k (.k4 (.k (.k (.k (.cons (.nils _) .nil)))))))))) <|
  ils_cons rfl (stA q3 q3 ti35 rfl rfl rfl rfl rfl rfl rfl rfl (nle rfl) rfl) <|
  ils_cons rfl (asI rfl rfl rfl rfl) <|
  ils_end ?_)
 obtain ⟨x10, hx10, h⟩ := bno_e h
 refine iwp_reg (ils_cons rfl (lra q3 la35 rfl rfl rfl rfl rfl (nle rfl) rfl) <|
  ils_cons rfl (iop_call (r := .tuple q11) rfl rfl (lb rfl) cl16 (.cons (svA q3 rfl) .nil) rfl (p_paths_Pin _ _ hx10)) <|
  ils_cons rfl (iop_move rfl rfl (lb rfl) (sv (d := .tuple q11) rfl)) <|
  ils_cons rfl (iop_extract (d := .agg q3) rfl rfl (lb rfl) (sv (d := .tuple q11) rfl) rfl) <|
  ils_cons rfl (iop_extract (d := .int _ _) rfl rfl (lb rfl) (sv (d := .tuple q11) rfl) rfl) <|
  ils_cons rfl (stA q3 q3 ti35 rfl rfl rfl rfl rfl rfl rfl rfl (nle rfl) rfl) <|
  ils_cons rfl (asI rfl rfl rfl rfl) <|
  ils_end ?_)
 obtain ⟨x11, hx11, h⟩ := bno_e h
 refine iwp_reg (ils_cons rfl (lra q3 la35 rfl rfl rfl rfl rfl (nle rfl) rfl) <|
  ils_cons rfl (iop_call (r := .agg q3) rfl rfl (lb rfl) cl23 (.cons (svA q3 rfl) (.cons (sv (d := .int _ 7) rfl) .nil)) rfl (p_paths_Free _ _ _ hx11)) <|
  ils_cons rfl (iop_allocS (cs := q5) (cs' := (w13 false false 0 0 false false 0 0 false false 0 0 false false 0 0 0 ([] : List T_paths_Bind))) 5 rfl rfl (lb rfl) rfl ti35 rfl rfl (.k4 (.k (.k4 (.k (.k4 (.k (.k (.k (.cons (.nils _) .nil)))))))))) <|
  ils_cons rfl (stA q3 q3 ti35 rfl rfl rfl rfl rfl rfl rfl rfl (nle rfl) rfl) <|
  ils_end ?_)
 obtain ⟨x12, hx12, h⟩ := bno_e h
 refine iwp_reg (ils_cons rfl (lra q3 la35 rfl rfl rfl rfl rfl (nle rfl) rfl) <|
  ils_cons rfl (iop_call (r := .slice _ _) rfl rfl (lb rfl) cl25 (.cons (svA q3 rfl) .nil) rfl (p_paths_Rates _ _ hx12)) <|
  ils_cons rfl (iop_assign rfl rfl (lb rfl) (svL rfl)) <|
  ils_end ?_)
 obtain ⟨x13, hx13, h⟩ := bnd_e h
 obtain ⟨x14, hx14, h⟩ := bnd_e h
 obtain ⟨x15, hx15, h⟩ := bnd_e h
 obtain ⟨x16, hx16, h⟩ := bnd_e h
 obtain ⟨x17, hx17, h⟩ := bnd_e h
 obtain ⟨x18, hx18, h⟩ := bnd_e h
 obtain ⟨x19, hx19, h⟩ := bno_e h
 obtain ⟨x20, hx20, h⟩ := bnd_e h
 obtain ⟨x21, hx21, h⟩ := bnd_e h
 obtain ⟨x22, hx22, h⟩ := bnd_e h
 obtain ⟨x23, hx23, h⟩ := bnd_e h
 obtain ⟨x24, hx24, h⟩ := bnd_e h
 obtain ⟨x25, hx25, h⟩ := bnd_e h
 obtain ⟨x26, hx26, h⟩ := bnd_e h
 obtain ⟨x27, hx27, h⟩ := bnd_e h
 obtain ⟨x28, hx28, h⟩ := bnd_e h
 obtain ⟨x29, hx29, h⟩ := bnd_e h
 obtain ⟨x30, hx30, h⟩ := bno_e h
 obtain ⟨x31, hx31, h⟩ := bno_e h
 obtain ⟨x32, hx32, h⟩ := bnd_e h
 obtain ⟨x33, hx33, h⟩ := bno_e h
 obtain ⟨x34, hx34, h⟩ := bnd_e h
 obtain ⟨x35, hx35, h⟩ := bnd_e h
 obtain ⟨x36, hx36, h⟩ := bno_e h
 obtain ⟨x37, hx37, h⟩ := bno_e h
 obtain ⟨x38, hx38, h⟩ := bnd_e h
 obtain ⟨x39, hx39, h⟩ := bnd_e h
 obtain ⟨x40, hx40, h⟩ := bnd_e h
 obtain ⟨x41, hx41, h⟩ := bnd_e h
 obtain ⟨x42, hx42, h⟩ := bno_e h
 obtain ⟨x43, hx43, h⟩ := bno_e h
 obtain ⟨x44, hx44, h⟩ := bnd_e h
 obtain ⟨x45, hx45, h⟩ := bnd_e h
 obtain ⟨x46, hx46, h⟩ := bno_e h
 obtain ⟨x47, hx47, h⟩ := bnd_e h
 obtain ⟨x48, hx48, h⟩ := bnd_e h
 obtain ⟨x49, hx49, h⟩ := bno_e h
 obtain ⟨x50, hx50, h⟩ := bnd_e h
 obtain ⟨x51, hx51, h⟩ := bnd_e h
 obtain ⟨x52, hx52, h⟩ := bno_e h
 obtain ⟨x53, hx53, h⟩ := bnd_e h
 obtain ⟨x54, hx54, h⟩ := bnd_e h
 obtain ⟨x55, hx55, h⟩ := bno_e h
 obtain ⟨x56, hx56, h⟩ := bnd_e h
 obtain ⟨x57, hx57, h⟩ := bno_e h
 obtain ⟨x58, hx58, h⟩ := bnd_e h
 obtain ⟨x59, hx59, h⟩ := bnd_e h
 obtain ⟨x60, hx60, h⟩ := bnd_e h
 obtain ⟨x61, hx61, h⟩ := bnd_e h
 obtain ⟨x62, hx62, h⟩ := bnd_e h
 refine iwp_reg (ils_cons rfl (mvB rfl rfl rfl rfl) <|
  ils_cons rfl (mvB rfl rfl rfl rfl) <|
  ils_guard rfl rfl (.one rfl) rfl (by decide) (fun hb => (mvB rfl rfl rfl rfl)) <|
  ils_cons rfl (iop_andx rfl rfl (lb rfl) (svB rfl) rfl rfl hx13) <|
  ils_cons rfl (mvB rfl rfl rfl rfl) <|
  ils_guard rfl rfl (.one rfl) rfl (by decide) (fun hb => (mvB rfl rfl rfl rfl)) <|
  ils_guard rfl rfl (.one rfl) rfl (by decide) (fun hb => (iop_not rfl rfl (lb rfl) (svcB rfl hb))) <|
  ils_cons rfl (iop_andx rfl rfl (lb rfl) (svB rfl) rfl rfl hx14) <|
  ils_cons rfl (mvB rfl rfl rfl rfl) <|
  ils_guard rfl rfl (.one rfl) rfl (by decide) (fun hb => (mvI rfl rfl rfl rfl)) <|
  ils_guard rfl rfl (.one rfl) rfl (by decide) (fun hb => (iop_cmpx rfl rfl (lb rfl) (svcI rfl hb) (sv (d := .int _ 2) rfl) rfl hx15)) <|
  ils_cons rfl (iop_andx rfl rfl (lb rfl) (svB rfl) rfl rfl hx16) <|
  ils_cons rfl (mvB rfl rfl rfl rfl) <|
  ils_guard rfl rfl (.one rfl) rfl (by decide) (fun hb => (mvI rfl rfl rfl rfl)) <|
  ils_guard rfl rfl (.one rfl) rfl (by decide) (fun hb => (iop_cmpx rfl rfl (lb rfl) (svcI rfl hb) (sv (d := .int _ 2) rfl) rfl hx17)) <|
  ils_cons rfl (iop_andx rfl rfl (lb rfl) (svB rfl) rfl rfl hx18) <|
  ils_cons rfl (mvB rfl rfl rfl rfl) <|
  ils_guard rfl rfl (.one rfl) rfl (by decide) (fun hb => (mvL rfl rfl rfl rfl)) <|
  ils_guard rfl rfl (.one rfl) rfl (by decide) (fun hb => (iop_bsF (eInt .i64) ([7] : (List Int)) rfl rfl (lb rfl) Try.underlying41 ti3 (.cons (sv (d := .int _ 7) rfl) .nil) rfl rfl (by decide))) <|
  ils_guard rfl rfl (.one rfl) rfl (by decide) (fun hb => (iop_call (r := .bool _) rfl rfl (lb rfl) cl20 (.cons (svcL rfl hb) (.cons (svcL rfl hb) .nil)) rfl (p_sennitref28_SameInts _ _ _ (gd_t hx19 hb)))) <|
  ils_cons rfl (iop_andx rfl rfl (lb rfl) (svB rfl) rfl rfl hx20) <|
  ils_cons rfl (mvB rfl rfl rfl rfl) <|
  ils_guard rfl rfl (.one rfl) rfl (by decide) (fun hb => (mvB rfl rfl rfl rfl)) <|
  ils_cons rfl (iop_andx rfl rfl (lb rfl) (svB rfl) rfl rfl hx21) <|
  ils_cons rfl (mvB rfl rfl rfl rfl) <|
  ils_guard rfl rfl (.one rfl) rfl (by decide) (fun hb => (faR 16 rfl rfl rfl Try.underlying35 rfl ti3 (lb rfl) rfl rfl)) <|
  ils_guard rfl rfl (.one rfl) rfl (by decide) (fun hb => (iop_load_rs (d := .int _ _) rfl rfl (lb rfl) Try.underlying3 ag3 ti3 (by decide) (svcR rfl hb) rfl (nle rfl) rfl)) <|
  ils_guard rfl rfl (.one rfl) rfl (by decide) (fun hb => (iop_cmpx rfl rfl (lb rfl) (svcI rfl hb) (sv (d := .int _ (-1)) rfl) rfl hx22)) <|
  ils_cons rfl (iop_andx rfl rfl (lb rfl) (svB rfl) rfl rfl hx23) <|
  ils_cons rfl (mvB rfl rfl rfl rfl) <|
  ils_guard rfl rfl (.one rfl) rfl (by decide) (fun hb => (mvI rfl rfl rfl rfl)) <|
  ils_guard rfl rfl (.one rfl) rfl (by decide) (fun hb => (iop_cmpx rfl rfl (lb rfl) (svcI rfl hb) (sv (d := .int _ 1) rfl) rfl hx24)) <|
  ils_cons rfl (iop_andx rfl rfl (lb rfl) (svB rfl) rfl rfl hx25) <|
  ils_cons rfl (mvB rfl rfl rfl rfl) <|
  ils_guard rfl rfl (.one rfl) rfl (by decide) (fun hb => (mvI rfl rfl rfl rfl)) <|
  ils_guard rfl rfl (.one rfl) rfl (by decide) (fun hb => (iop_cmpx rfl rfl (lb rfl) (svcI rfl hb) (sv (d := .int _ 1) rfl) rfl hx26)) <|
  ils_cons rfl (iop_andx rfl rfl (lb rfl) (svB rfl) rfl rfl hx27) <|
  ils_cons rfl (mvB rfl rfl rfl rfl) <|
  ils_guard rfl rfl (.one rfl) rfl (by decide) (fun hb => (faR 17 rfl rfl rfl Try.underlying35 rfl ti33 (lb rfl) rfl rfl)) <|
  ils_guard rfl rfl (.one rfl) rfl (by decide) (fun hb => (iop_load_rs (d := .slice _ _) rfl rfl (lb rfl) Try.underlying33 ag33 ti33 (by decide) (svcR rfl hb) rfl (nle rfl) rfl)) <|
  ils_guard rfl rfl (.one rfl) rfl (by decide) (fun hb => (iop_lenT E_paths_Bind (l := x11.Binds) rfl rfl (lb rfl) Try.underlying33 (svcL rfl hb))) <|
  ils_guard rfl rfl (.one rfl) rfl (by decide) (fun hb => (iop_cmpx rfl rfl (lb rfl) (svcI rfl hb) (sv (d := .int _ 0) rfl) rfl hx28)) <|
  ils_cons rfl (iop_andx rfl rfl (lb rfl) (svB rfl) rfl rfl hx29) <|
  ils_cons rfl (mvB rfl rfl rfl rfl) <|
  ils_guard rfl rfl (.one rfl) rfl (by decide) (fun hb => (lra q3 la35 rfl rfl rfl rfl rfl (nle rfl) rfl)) <|
  ils_guard rfl rfl (.one rfl) rfl (by decide) (fun hb => (iop_call (r := .slice _ _) rfl rfl (lb rfl) cl30 (.cons (svcA (v0 x10.1) rfl hb) .nil) rfl (p_paths_Alive _ _ (gd_t hx30 hb)))) <|
  ils_guard rfl rfl (.one rfl) rfl (by decide) (fun hb => (iop_bsF (eInt .i64) ([1] : (List Int)) rfl rfl (lb rfl) Try.underlying41 ti3 (.cons (sv (d := .int _ 1) rfl) .nil) rfl rfl (by decide))) <|
  ils_guard rfl rfl (.one rfl) rfl (by decide) (fun hb => (iop_call (r := .bool _) rfl rfl (lb rfl) cl20 (.cons (svcL rfl hb) (.cons (svcL rfl hb) .nil)) rfl (p_sennitref28_SameInts _ _ _ (gd_t hx31 hb)))) <|
  ils_cons rfl (iop_andx rfl rfl (lb rfl) (svB rfl) rfl rfl hx32) <|
  ils_cons rfl (mvB rfl rfl rfl rfl) <|
  ils_guard rfl rfl (.one rfl) rfl (by decide) (fun hb => (lra q3 la35 rfl rfl rfl rfl rfl (nle rfl) rfl)) <|
  ils_guard rfl rfl (.one rfl) rfl (by decide) (fun hb => (iop_call (r := .int _ _) rfl rfl (lb rfl) cl32 (.cons (svcA (v0 x5) rfl hb) .nil) rfl (p_paths_Best _ _ (gd_t hx33 hb)))) <|
  ils_guard rfl rfl (.one rfl) rfl (by decide) (fun hb => (iop_cmpx rfl rfl (lb rfl) (svcI rfl hb) (sv (d := .int _ 2) rfl) rfl hx34)) <|
  ils_cons rfl (iop_andx rfl rfl (lb rfl) (svB rfl) rfl rfl hx35) <|
  ils_cons rfl (mvB rfl rfl rfl rfl) <|
  ils_guard rfl rfl (.one rfl) rfl (by decide) (fun hb => (iop_call (r := .agg q3) rfl rfl (lb rfl) cl35 .nil rfl (p_paths_New  _ (gd_t hx36 hb)))) <|
  ils_guard rfl rfl (.one rfl) rfl (by decide) (fun hb => (iop_call (r := .int _ _) rfl rfl (lb rfl) cl32 (.cons (svcA (v0 x36) rfl hb) .nil) rfl (p_paths_Best _ _ (gd_t hx37 hb)))) <|
  ils_guard rfl rfl (.one rfl) rfl (by decide) (fun hb => (iop_cmpx rfl rfl (lb rfl) (svcI rfl hb) (sv (d := .int _ (-1)) rfl) rfl hx38)) <|
  ils_cons rfl (iop_andx rfl rfl (lb rfl) (svB rfl) rfl rfl hx39) <|
  ils_cons rfl (mvB rfl rfl rfl rfl) <|
  ils_guard rfl rfl (.one rfl) rfl (by decide) (fun hb => (mvL rfl rfl rfl rfl)) <|
  ils_guard rfl rfl (.one rfl) rfl (by decide) (fun hb => (iop_lenT (eFlt .f64) (l := x12) rfl rfl (lb rfl) Try.underlying60 (svcL rfl hb))) <|
  ils_guard rfl rfl (.one rfl) rfl (by decide) (fun hb => (iop_cmpx rfl rfl (lb rfl) (svcI rfl hb) (sv (d := .int _ 4) rfl) rfl hx40)) <|
  ils_cons rfl (iop_andx rfl rfl (lb rfl) (svB rfl) rfl rfl hx41) <|
  ils_cons rfl (mvB rfl rfl rfl rfl) <|
  ils_guard rfl rfl (.one rfl) rfl (by decide) (fun hb => (mvL rfl rfl rfl rfl)) <|
  ils_guard rfl rfl (.one rfl) rfl (by decide) (fun hb => (iop_idxT (eFlt .f64) (cs := [.float _ _]) rfl rfl (lb rfl) Try.underlying60 ti65 (svcL rfl hb) (sv (d := .int _ 0) rfl) (gd_t hx42 hb) rfl rfl)) <|
  ils_guard rfl rfl (.one rfl) rfl (by decide) (fun hb => (iop_load_fs rfl rfl (lb rfl) Try.underlying65 ag65 ti65 (by decide) (svc (d := .fptr [.float _ _]) rfl hb) (nle rfl))) <|
  ils_guard rfl rfl (.one rfl) rfl (by decide) (fun hb => (iop_call (r := .int _ _) rfl rfl (lb rfl) cl39 (.cons (svc (d := .float _ _) rfl hb) .nil) rfl (p_gauge_Kind _ _ (gd_t hx43 hb)))) <|
  ils_guard rfl rfl (.one rfl) rfl (by decide) (fun hb => (iop_cmpx rfl rfl (lb rfl) (svcI rfl hb) (sv (d := .int _ 0) rfl) rfl hx44)) <|
  ils_cons rfl (iop_andx rfl rfl (lb rfl) (svB rfl) rfl rfl hx45) <|
  ils_cons rfl (mvB rfl rfl rfl rfl) <|
  ils_guard rfl rfl (.one rfl) rfl (by decide) (fun hb => (mvL rfl rfl rfl rfl)) <|
  ils_guard rfl rfl (.one rfl) rfl (by decide) (fun hb => (iop_idxT (eFlt .f64) (cs := [.float _ _]) rfl rfl (lb rfl) Try.underlying60 ti65 (svcL rfl hb) (sv (d := .int _ 2) rfl) (gd_t hx46 hb) rfl rfl)) <|
  ils_guard rfl rfl (.one rfl) rfl (by decide) (fun hb => (iop_load_fs rfl rfl (lb rfl) Try.underlying65 ag65 ti65 (by decide) (svc (d := .fptr [.float _ _]) rfl hb) (nle rfl))) <|
  ils_guard rfl rfl (.one rfl) rfl (by decide) (fun hb => (iop_fcmpx rfl rfl (lb rfl) (svc (d := .float _ _) rfl hb) (sv (d := .float _ _) rfl) rfl hx47)) <|
  ils_cons rfl (iop_andx rfl rfl (lb rfl) (svB rfl) rfl rfl hx48) <|
  ils_cons rfl (mvB rfl rfl rfl rfl) <|
  ils_guard rfl rfl (.one rfl) rfl (by decide) (fun hb => (lra q3 la35 rfl rfl rfl rfl rfl (nle rfl) rfl)) <|
  ils_guard rfl rfl (.one rfl) rfl (by decide) (fun hb => (iop_call (r := .int _ _) rfl rfl (lb rfl) cl28 (.cons (svcA (v0 x10.1) rfl hb) .nil) rfl (p_paths_Check _ _ (gd_t hx49 hb)))) <|
  ils_guard rfl rfl (.one rfl) rfl (by decide) (fun hb => (iop_cmpx rfl rfl (lb rfl) (svcI rfl hb) (sv (d := .int _ 0) rfl) rfl hx50)) <|
  ils_cons rfl (iop_andx rfl rfl (lb rfl) (svB rfl) rfl rfl hx51) <|
  ils_cons rfl (mvB rfl rfl rfl rfl) <|
  ils_guard rfl rfl (.one rfl) rfl (by decide) (fun hb => (iop_sub (d' := .agg (w13 false false 0 0 false false 0 0 false false 0 0 false false 0 0 0 ([] : List T_paths_Bind))) (iop_build_struct (cs := q5) rfl rfl (lb rfl) Try.underlying35 ti35 pl35 rfl .nil rfl) (.agg (.k4 (.k (.k4 (.k (.k4 (.k (.k (.k (.cons (.nils _) .nil)))))))))))) <|
  ils_guard rfl rfl (.one rfl) rfl (by decide) (fun hb => (iop_call (r := .int _ _) rfl rfl (lb rfl) cl28 (.cons (svc (d := .agg (w13 false false 0 0 false false 0 0 false false 0 0 false false 0 0 0 ([] : List T_paths_Bind))) rfl hb) .nil) rfl (p_paths_Check _ _ (gd_t hx52 hb)))) <|
  ils_guard rfl rfl (.one rfl) rfl (by decide) (fun hb => (iop_cmpx rfl rfl (lb rfl) (svcI rfl hb) (sv (d := .int _ 9) rfl) rfl hx53)) <|
  ils_cons rfl (iop_andx rfl rfl (lb rfl) (svB rfl) rfl rfl hx54) <|
  ils_cons rfl (mvB rfl rfl rfl rfl) <|
  ils_guard rfl rfl (.one rfl) rfl (by decide) (fun hb => (lra q3 la35 rfl rfl rfl rfl rfl (nle rfl) rfl)) <|
  ils_guard rfl rfl (.one rfl) rfl (by decide) (fun hb => (lra q3 la35 rfl rfl rfl rfl rfl (nle rfl) rfl)) <|
  ils_guard rfl rfl (.one rfl) rfl (by decide) (fun hb => (iop_call (r := .bool _) rfl rfl (lb rfl) cl34 (.cons (svcA (v0 x7.1) rfl hb) (.cons (svcA (v0 x8.1) rfl hb) .nil)) rfl (p_paths_Same _ _ _ (gd_t hx55 hb)))) <|
  ils_guard rfl rfl (.one rfl) rfl (by decide) (fun hb => (iop_not rfl rfl (lb rfl) (svcB rfl hb))) <|
  ils_cons rfl (iop_andx rfl rfl (lb rfl) (svB rfl) rfl rfl hx56) <|
  ils_cons rfl (mvB rfl rfl rfl rfl) <|
  ils_guard rfl rfl (.one rfl) rfl (by decide) (fun hb => (lra q3 la35 rfl rfl rfl rfl rfl (nle rfl) rfl)) <|
  ils_guard rfl rfl (.one rfl) rfl (by decide) (fun hb => (lra q3 la35 rfl rfl rfl rfl rfl (nle rfl) rfl)) <|
  ils_guard rfl rfl (.one rfl) rfl (by decide) (fun hb => (iop_call (r := .bool _) rfl rfl (lb rfl) cl34 (.cons (svcA (v0 x10.1) rfl hb) (.cons (svcA (v0 x10.1) rfl hb) .nil)) rfl (p_paths_Same _ _ _ (gd_t hx57 hb)))) <|
  ils_cons rfl (iop_andx rfl rfl (lb rfl) (svB rfl) rfl rfl hx58) <|
  ils_cons rfl (mvB rfl rfl rfl rfl) <|
  ils_cons rfl (iop_pickc rfl rfl (lb rfl) (svB rfl) rfl rfl hx59) <|
  ils_cons rfl (mvB rfl rfl rfl rfl) <|
  ils_cons rfl (iop_pickc rfl rfl (lb rfl) (svB rfl) rfl rfl hx60) <|
  ils_cons rfl (mvB rfl rfl rfl rfl) <|
  ils_cons rfl (iop_pickc rfl rfl (lb rfl) (svB rfl) rfl rfl hx61) <|
  ils_cons rfl (mvB rfl rfl rfl rfl) <|
  ils_cons rfl (iop_pickc rfl rfl (lb rfl) (svB rfl) rfl rfl hx62) <|
  ils_cons rfl (asB rfl rfl rfl rfl) <|
  ils_end ?_)
 refine iwp_ret ?_
 obtain rfl := Option.some.inj h
 refine ⟨.inr rfl, (.cons (sv rfl) .nil)⟩

theorem p_sennitlaw28_own (a0 : T_paths_State) (r : T_paths_State) (h : sennitlaw28_own a0 = some r) : PureAt Try.prog 9 [.agg (v0 a0)] (.agg (v0 r)) := by
 refine pure_of_iwpF (rs := [.agg (v0 r)]) Try.func9 rfl Try.ntmps9 (nle rfl) rfl fun O hO => ?_
 show IWP _ _ _ _ ⟨[(0, .agg (v0 a0))], []⟩ _
 unfold sennitlaw28_own at h
 refine iwp_reg (ils_cons rfl (iop_box' (cs := q3) 0 rfl rfl (lb rfl) rfl (svA q3 rfl) rfl rfl) <|
  ils_cons rfl (iop_allocS (cs := q5) (cs' := [.bool false, .bool false, .int .i64 0, .int .i64 0, .bool false, .bool false, .int .i64 0, .int .i64 0, .bool false, .bool false, .int .i64 0, .int .i64 0, .bool false, .bool false, .int .i64 0, .int .i64 0, .int .i64 0, .nils]) 1 rfl rfl (lb rfl) rfl ti35 rfl rfl (.all _)) <|
  ils_end ?_)
 refine iwp_reg (ils_cons rfl (faR 16 rfl rfl rfl Try.underlying27 rfl ti3 (lb rfl) rfl rfl) <|
  ils_cons rfl (iop_load_rs (d := .int _ _) rfl rfl (lb rfl) Try.underlying3 ag3 ti3 (by decide) (svR rfl) rfl (nle rfl) rfl) <|
  ils_cons rfl (iop_build_struct (cs := q5) rfl rfl (lb rfl) Try.underlying35 ti35 pl35 rfl (.cons (svI rfl) .nil) rfl) <|
  ils_cons rfl (iop_allocS (cs := q5) (cs' := [.bool false, .bool false, .int .i64 0, .int .i64 0, .bool false, .bool false, .int .i64 0, .int .i64 0, .bool false, .bool false, .int .i64 0, .int .i64 0, .bool false, .bool false, .int .i64 0, .int .i64 0, .int .i64 0, .nils]) 2 rfl rfl (lb rfl) rfl ti35 rfl rfl (.all _)) <|
  ils_cons rfl (stA q5 q5 ti35 rfl rfl rfl rfl rfl rfl rfl rfl (nle rfl) rfl) <|
  ils_end ?_)
 refine iwp_seq ?_
 refine iwp_reg (ils_cons rfl (iop_assign rfl rfl (lb rfl) (sv (d := .int _ 0) rfl)) <|
  ils_end ?_)
 refine iwp_block ?_
 refine iwp_loopP (α := Nat × Int × Bool × Bool × Int × Int × Bool × Bool × Int × Int × Bool × Bool × Int × Int × Bool × Bool × Int × Int) (fun z => ⟨[(1, .ref 0 0), (2, .ref 1 0), (3, .ref 2 0), (4, .int .i64 z.2.1)], [(0, .blk 27 (v0 a0)), (1, .blk 35 [.bool false, .bool false, .int .i64 0, .int .i64 0, .bool false, .bool false, .int .i64 0, .int .i64 0, .bool false, .bool false, .int .i64 0, .int .i64 0, .bool false, .bool false, .int .i64 0, .int .i64 0, .int .i64 0, .nils]), (2, .blk 35 [.bool z.2.2.1, .bool z.2.2.2.1, .int .i64 z.2.2.2.2.1, .int .i64 z.2.2.2.2.2.1, .bool z.2.2.2.2.2.2.1, .bool z.2.2.2.2.2.2.2.1, .int .i64 z.2.2.2.2.2.2.2.2.1, .int .i64 z.2.2.2.2.2.2.2.2.2.1, .bool z.2.2.2.2.2.2.2.2.2.2.1, .bool z.2.2.2.2.2.2.2.2.2.2.2.1, .int .i64 z.2.2.2.2.2.2.2.2.2.2.2.2.1, .int .i64 z.2.2.2.2.2.2.2.2.2.2.2.2.2.1, .bool z.2.2.2.2.2.2.2.2.2.2.2.2.2.2.1, .bool z.2.2.2.2.2.2.2.2.2.2.2.2.2.2.2.1, .int .i64 z.2.2.2.2.2.2.2.2.2.2.2.2.2.2.2.2.1, .int .i64 z.2.2.2.2.2.2.2.2.2.2.2.2.2.2.2.2.2, .int .i64 a0.Pinned, .nils])]⟩) (fun z => sennitlaw28_own_L0 a0 z.1 z.2.1 z.2.2.1 z.2.2.2.1 z.2.2.2.2.1 z.2.2.2.2.2.1 z.2.2.2.2.2.2.1 z.2.2.2.2.2.2.2.1 z.2.2.2.2.2.2.2.2.1 z.2.2.2.2.2.2.2.2.2.1 z.2.2.2.2.2.2.2.2.2.2.1 z.2.2.2.2.2.2.2.2.2.2.2.1 z.2.2.2.2.2.2.2.2.2.2.2.2.1 z.2.2.2.2.2.2.2.2.2.2.2.2.2.1 z.2.2.2.2.2.2.2.2.2.2.2.2.2.2.1 z.2.2.2.2.2.2.2.2.2.2.2.2.2.2.2.1 z.2.2.2.2.2.2.2.2.2.2.2.2.2.2.2.2.1 z.2.2.2.2.2.2.2.2.2.2.2.2.2.2.2.2.2 = some r) (fun z => z.1) (fuel, 0, false, false, 0, 0, false, false, 0, 0, false, false, 0, 0, false, false, 0, 0) (fun i => i) ⟨(.sames rfl rfl), (.cons (.blk rfl rfl rfl) (.cons (.blk rfl rfl rfl) (.cons (.blk rfl rfl rfl) .nil))), nd_of [0, 1, 2] rfl (by decide), fun _ _ => rfl⟩ ?_ ?_
 ·exact h
 ·
  rintro ⟨n0, v4, v5, v6, v7, v8, v19, v20, v21, v22, v23, v24, v25, v26, v27, v28, v29, v30⟩ h
  cases n0 with
  | zero => exact absurd h (by unfold sennitlaw28_own_L0; exact nofun)
  | succ n0 =>
   unfold sennitlaw28_own_L0 at h
   refine iwp_seq ?_
   obtain ⟨x41, hx41, h⟩ := bnd_e h
   refine iwp_reg (ils_cons rfl (mvI rfl rfl rfl rfl) <|
    ils_cons rfl (iop_cmpx rfl rfl (lb rfl) (svI rfl) (sv (d := .int _ 4) rfl) rfl hx41) <|
    ils_end ?_)
   refine iwp_cond (b := _) rfl (fun hc42 => ?_) (fun hc42 => ?_)
   ·
    replace h := bif_t h hc42
    refine iwp_skip ?_
    refine thenQ_n ?_
    refine iwp_seq ?_
    refine iwp_block ?_
    obtain ⟨hk43, h⟩ := chk_e h
    obtain ⟨x44, hx44, h⟩ := bno_e h
    obtain ⟨hk45, h⟩ := chk_e h
    obtain ⟨x46, hx46, h⟩ := bnd_e h
    obtain ⟨x47, hx47, h⟩ := bnd_e h
    obtain ⟨x48, hx48, h⟩ := bnd_e h
    obtain ⟨x49, hx49, h⟩ := bnd_e h
    refine iwp_region (ils_cons rfl (mvI rfl rfl rfl rfl) <|
     ils_cons rfl (mvI rfl rfl rfl rfl) <|
     ils_cons rfl (faR 0 rfl rfl rfl Try.underlying27 rfl ti24 (lb rfl) rfl rfl) <|
     ils_cons rfl (iop_index_sel rfl rfl (lb rfl) Try.underlying24 ti23 (svR rfl) (svI rfl) hk43) <|
     ils_cons rfl (iop_load_sel_a E_paths_Line (b := 0) (k := 0) (sz := 4) (ds := q7) rfl rfl (lb rfl) Try.underlying23 ag23 ti23 (by decide) (svR rfl) rfl hx44 ⟨rfl, ⟨rfl, ⟨rfl, ⟨rfl, trivial⟩⟩⟩⟩ rfl rfl) <|
     ils_cons rfl (faR 0 rfl rfl rfl Try.underlying35 rfl ti32 (lb rfl) rfl rfl) <|
     ils_cons rfl (iop_index_sel rfl rfl (lb rfl) Try.underlying32 ti31 (svR rfl) (svI rfl) hk45) <|
     ils_cons rfl (iop_store_sel (b := 0) (k := 0) (sz := 4) (cs' := [.bool x46.Up, .bool x46.Dead, .int .i64 x46.Bytes, .int .i64 x46.Ticks, .bool x47.Up, .bool x47.Dead, .int .i64 x47.Bytes, .int .i64 x47.Ticks, .bool x48.Up, .bool x48.Dead, .int .i64 x48.Bytes, .int .i64 x48.Ticks, .bool x49.Up, .bool x49.Dead, .int .i64 x49.Bytes, .int .i64 x49.Ticks, .int .i64 a0.Pinned, .nils]) rfl rfl ti31 (svR rfl) rfl (svA q7 rfl) rfl rfl rfl hk45 rfl ⟨⟨⟨⟨trivial, fun h => by rw [← hx46, ← hx47, ← hx48, ← hx49, h]; rfl⟩, fun h => by rw [← hx46, ← hx47, ← hx48, ← hx49, h]; rfl⟩, fun h => by rw [← hx46, ← hx47, ← hx48, ← hx49, h]; rfl⟩, fun h => by rw [← hx46, ← hx47, ← hx48, ← hx49, h]; rfl⟩) <|
     ils_nil ?_)
    refine blockQ_n ?_
    refine thenQ_n ?_
    obtain ⟨x50, hx50, h⟩ := bnd_e h
    refine iwp_region (ils_cons rfl (mvI rfl rfl rfl rfl) <|
     ils_cons rfl (iop_intx rfl rfl (lb rfl) (svI rfl) (sv (d := .int _ 1) rfl) rfl hx50) <|
     ils_cons rfl (asI rfl rfl rfl rfl) <|
     ils_nil ?_)
    refine thenQ_n ⟨(n0, x50, x46.Up, x46.Dead, x46.Bytes, x46.Ticks, x47.Up, x47.Dead, x47.Bytes, x47.Ticks, x48.Up, x48.Dead, x48.Bytes, x48.Ticks, x49.Up, x49.Dead, x49.Bytes, x49.Ticks), (fun i => i), ⟨(.sames rfl rfl), (.cons (.blk rfl rfl rfl) (.cons (.blk rfl rfl rfl) (.cons (.blk rfl rfl rfl) .nil))), nd_of [0, 1, 2] rfl (by decide), fun _ _ => rfl⟩, ?_, ?_⟩
    exact h
    exact Nat.lt_succ_self _
   ·
    replace h := bif_f h hc42
    refine iwp_exit ?_
    refine thenQ_e ?_
    refine thenQ_e ?_
    refine blockQ_e ?_
    refine thenQ_n ?_
    refine iwp_seq ?_
    refine iwp_reg (ils_cons rfl (iop_assign rfl rfl (lb rfl) (sv (d := .int _ 0) rfl)) <|
     ils_end ?_)
    refine iwp_block ?_
    refine iwp_loopP (α := Nat × Int × (List T_paths_Bind)) (fun z => ⟨[(1, .ref 0 0), (2, .ref 1 0), (3, .ref 2 0), (5, .int .i64 z.2.1)], [(0, .blk 27 (v0 a0)), (1, .blk 35 [.bool false, .bool false, .int .i64 0, .int .i64 0, .bool false, .bool false, .int .i64 0, .int .i64 0, .bool false, .bool false, .int .i64 0, .int .i64 0, .bool false, .bool false, .int .i64 0, .int .i64 0, .int .i64 0, .nils]), (2, .blk 35 (w14 v5 v6 v7 v8 v19 v20 v21 v22 v23 v24 v25 v26 v27 v28 v29 v30 a0.Pinned (.osl 24 E_paths_Bind.sz z.2.2.length))), (24, .blk 86 (D.flat (z.2.2.map E_paths_Bind.d)))]⟩) (fun z => sennitlaw28_own_L1 a0 v5 v6 v7 v8 v19 v20 v21 v22 v23 v24 v25 v26 v27 v28 v29 v30 z.1 z.2.1 z.2.2 = some r) (fun z => z.1) (fuel, 0, ([] : (List T_paths_Bind))) (fun i => if i = 24 then 77 else i) ⟨(.sames rfl rfl), (.cons (.blk rfl rfl rfl) (.cons (.blk rfl rfl rfl) (.cons (.sub rfl (.same (.same (.same (.same (.same (.same (.same (.same (.same (.same (.same (.same (.same (.same (.same (.same (.same (.nilo .nil)))))))))))))))))) rfl) (.cons (.nilb rfl) .nil)))), nd_of [0, 1, 2, 77] rfl (by decide), (fun i hi => by first | rfl | (show (if _ then _ else _) = _; (repeat' split) <;> omega))⟩ ?_ ?_
    ·exact h
    ·
     rintro ⟨n1, v56, v57⟩ h
     cases n1 with
     | zero => exact absurd h (by unfold sennitlaw28_own_L1; exact nofun)
     | succ n1 =>
      unfold sennitlaw28_own_L1 at h
      refine iwp_seq ?_
      obtain ⟨x63, hx63, h⟩ := bnd_e h
      refine iwp_reg (ils_cons rfl (mvI rfl rfl rfl rfl) <|
       ils_cons rfl (faR 17 rfl rfl rfl Try.underlying27 rfl ti25 (lb rfl) rfl rfl) <|
       ils_cons rfl (lrL la25 rfl rfl rfl rfl rfl (nle rfl) rfl) <|
       ils_cons rfl (iop_lenT E_paths_Bind (l := a0.Binds) rfl rfl (lb rfl) Try.underlying25 (svL rfl)) <|
       ils_cons rfl (iop_cmpx rfl rfl (lb rfl) (svI rfl) (svI rfl) rfl hx63) <|
       ils_end ?_)
      refine iwp_cond (b := _) rfl (fun hc64 => ?_) (fun hc64 => ?_)
      ·
       replace h := bif_t h hc64
       refine iwp_skip ?_
       refine thenQ_n ?_
       refine iwp_seq ?_
       refine iwp_block ?_
       obtain ⟨x65, hx65, h⟩ := bno_e h
       obtain ⟨x66, hx66, h⟩ := bno_e h
       refine iwp_draw rfl [⟨[3], [], [(27, .ref 2 17)], []⟩,
        ⟨[27], [2], [(28, .osl 24 E_paths_Bind.sz v57.length)], []⟩,
        ⟨[1], [], [(29, .ref 0 17)], []⟩,
        ⟨[29], [0], [(30, .slice false (a0.Binds.map E_paths_Bind.d))], []⟩,
        ⟨[5], [], [(31, .int .i64 v56)], []⟩,
        ⟨[30, 31], [], [(32, .fptr [.int .i64 x65.Stream, .int .i64 x65.Path])], []⟩,
        ⟨[32], [], [(33, .agg [.int .i64 x65.Stream, .int .i64 x65.Path])], []⟩,
        ⟨[33], [25], [(34, .osl 25 E_paths_Bind.sz (([x65] : (List T_paths_Bind)).length))], [(25, .blk 86 (D.flat (([x65] : (List T_paths_Bind)).map E_paths_Bind.d)))]⟩,
        ⟨[28, 34], [24, 25, 26], [(35, .osl 26 E_paths_Bind.sz x66.length)], [(26, .blk 86 (D.flat (x66.map E_paths_Bind.d))), (24, .none)]⟩,
        ⟨[3], [], [(36, .ref 2 17)], []⟩,
        ⟨[35, 36], [2], [], [(2, .blk 35 (w14 v5 v6 v7 v8 v19 v20 v21 v22 v23 v24 v25 v26 v27 v28 v29 v30 a0.Pinned (.osl 26 E_paths_Bind.sz x66.length)))]⟩] rfl ?_ (by kernel_rfl) ?_
       ·refine .cons (lop rfl rfl fun S hA => (iop_fieldAddr_ref rfl rfl (lb rfl) Try.underlying35 rfl ti33 (by decide) (svaR hA rfl rfl) (off' := 17) rfl)) ?_
        refine .cons (lop rfl rfl fun S hA => (iop_load_rs (d := .osl _ _ _) rfl rfl (lb rfl) Try.underlying33 ag33 ti33 (by decide) (svaR hA rfl rfl) (agi hA rfl rfl) (nle rfl) rfl)) ?_
        refine .cons (lop rfl rfl fun S hA => (iop_fieldAddr_ref rfl rfl (lb rfl) Try.underlying27 rfl ti25 (by decide) (svaR hA rfl rfl) (off' := 17) rfl)) ?_
        refine .cons (lop rfl rfl fun S hA => (iop_load_rs (d := .slice _ _) rfl rfl (lb rfl) Try.underlying25 ag25 ti25 (by decide) (svaR hA rfl rfl) (agi hA rfl rfl) (nle rfl) rfl)) ?_
        refine .cons (lop rfl rfl fun S hA => (iop_move rfl rfl (lb rfl) (svaI hA rfl rfl))) ?_
        refine .cons (lop rfl rfl fun S hA => (iop_idxT E_paths_Bind (cs := q8) rfl rfl (lb rfl) Try.underlying25 ti87 (svaL hA rfl rfl) (svaI hA rfl rfl) hx65 rfl rfl)) ?_
        refine .cons (lop rfl rfl fun S hA => (iop_load_fa (cs := q8) rfl rfl (lb rfl) Try.underlying87 ag87 ti87 (by decide) (sv (d := .fptr q8) (agr hA rfl rfl)) (nle rfl) rfl)) ?_
        refine .cons (lop rfl rfl fun S hA => (iop_bsO E_paths_Bind.toEnc0 ([x65] : (List T_paths_Bind)) 25 rfl rfl (lb rfl) Try.underlying33 ti86 (agi hA rfl rfl) (.cons (svaA q8 hA rfl rfl) .nil) rfl rfl (by decide))) ?_
        refine .cons (lop rfl rfl fun S hA => (iop_appO E_paths_Bind.toEnc0 26 rfl rfl (lb rfl) Try.underlying33 ti86 rfl (agr hA rfl rfl) rfl (agi hA rfl rfl) (agi hA rfl rfl) (src_O E_paths_Bind.toEnc0 (agr hA rfl rfl) rfl (agi hA rfl rfl)) hx66)) ?_
        refine .cons (lop rfl rfl fun S hA => (iop_fieldAddr_ref rfl rfl (lb rfl) Try.underlying35 rfl ti33 (by decide) (svaR hA rfl rfl) (off' := 17) rfl)) ?_
        refine .cons (lop rfl rfl fun S hA => (iop_store (ds' := q4) rfl rfl ti33 (svaR hA rfl rfl) (agi hA rfl rfl) (sv (d := .osl _ _ _) (agr hA rfl rfl)) rfl rfl rfl (nle rfl) rfl)) ?_
        exact .nil
       refine blockQ_n ?_
       refine thenQ_n ?_
       obtain ⟨x67, hx67, h⟩ := bnd_e h
       refine iwp_region (ils_cons rfl (mvI rfl rfl rfl rfl) <|
        ils_cons rfl (iop_intx rfl rfl (lb rfl) (svI rfl) (sv (d := .int _ 1) rfl) rfl hx67) <|
        ils_cons rfl (asI rfl rfl rfl rfl) <|
        ils_nil ?_)
       refine thenQ_n ⟨(n1, x67, x66), (fun i => if i = 24 then 26 else i), ⟨(.sames rfl rfl), (.cons (.blk rfl rfl rfl) (.cons (.blk rfl rfl rfl) (.cons (.blk rfl rfl rfl) (.cons (EntW.lst rfl) .nil)))), nd_of [0, 1, 2, 26] rfl (by decide), (fun i hi => by first | rfl | (show (if _ then _ else _) = _; (repeat' split) <;> omega))⟩, ?_, ?_⟩
       exact h
       exact Nat.lt_succ_self _
      ·
       replace h := bif_f h hc64
       refine iwp_exit ?_
       refine thenQ_e ?_
       refine thenQ_e ?_
       refine blockQ_e ?_
       refine thenQ_n ?_
       refine iwp_reg (ils_cons rfl (lra q4 la35 rfl rfl rfl rfl rfl (nle rfl) rfl) <|
        ils_cons rfl (stA q4 q4 ti35 rfl rfl rfl rfl rfl rfl rfl rfl (nle rfl) rfl) <|
        ils_end ?_)
       refine iwp_ret ?_
       obtain rfl := Option.some.inj h
       refine ⟨.inr rfl, _, (.cons (rva la35 rfl rfl (nle rfl) rfl) .nil), (.cons (.agg (.k4 (.k (.k4 (.k (.k4 (.k (.k (.k (.cons (FDT E_paths_Bind rfl rfl) .nil)))))))))) .nil)⟩

theorem p_sennitref28_in (a0 : Int) (a1 : Int) (a2 : Int) (r : Bool) (h : sennitref28_in a0 a1 a2 = some r) : PureAt Try.prog 42 [.int .i64 a0, .int .i64 a1, .int .i64 a2] (.bool r) := by
 refine pure_of_iwp (rs := [.bool r]) Try.func42 rfl Try.ntmps42 (nle rfl) rfl fun O hO => ?_
 show IWP _ _ _ _ ⟨[(0, .int .i64 a0), (1, .int .i64 a1), (2, .int .i64 a2)], []⟩ _
 unfold sennitref28_in at h
 refine iwp_reg (ils_cons rfl (iop_assign rfl rfl (lb rfl) (sv (d := .bool false) rfl)) <|
  ils_end ?_)
 obtain ⟨x1, hx1, h⟩ := bnd_e h
 obtain ⟨x2, hx2, h⟩ := bnd_e h
 obtain ⟨x3, hx3, h⟩ := bnd_e h
 refine iwp_reg (ils_cons rfl (mvI rfl rfl rfl rfl) <|
  ils_cons rfl (mvI rfl rfl rfl rfl) <|
  ils_cons rfl (iop_cmpx rfl rfl (lb rfl) (svI rfl) (svI rfl) rfl hx1) <|
  ils_cons rfl (mvB rfl rfl rfl rfl) <|
  ils_guard rfl rfl (.one rfl) rfl (by decide) (fun hb => (mvI rfl rfl rfl rfl)) <|
  ils_guard rfl rfl (.one rfl) rfl (by decide) (fun hb => (mvI rfl rfl rfl rfl)) <|
  ils_guard rfl rfl (.one rfl) rfl (by decide) (fun hb => (iop_cmpx rfl rfl (lb rfl) (svcI rfl hb) (svcI rfl hb) rfl hx2)) <|
  ils_cons rfl (iop_andx rfl rfl (lb rfl) (svB rfl) rfl rfl hx3) <|
  ils_cons rfl (asB rfl rfl rfl rfl) <|
  ils_end ?_)
 refine iwp_ret ?_
 obtain rfl := Option.some.inj h
 refine ⟨.inr rfl, (.cons (sv rfl) .nil)⟩

theorem p_sennitref28_Check (a0 : T_paths_State) (r : Int) (h : sennitref28_Check a0 = some r) : PureAt Try.prog 29 [.agg (v0 a0)] (.int .i64 r) := by
 refine pure_of_iwp (rs := [.int .i64 r]) Try.func29 rfl Try.ntmps29 (nle rfl) rfl fun O hO => ?_
 show IWP _ _ _ _ ⟨[(0, .agg (v0 a0))], []⟩ _
 unfold sennitref28_Check at h
 refine iwp_reg (ils_cons rfl (iop_box' (cs := q3) 0 rfl rfl (lb rfl) rfl (svA q3 rfl) rfl rfl) <|
  ils_cons rfl (iop_assign rfl rfl (lb rfl) (sv (d := .int _ 0) rfl)) <|
  ils_end ?_)
 refine iwp_seq ?_
 refine iwp_reg (ils_cons rfl (iop_assign rfl rfl (lb rfl) (sv (d := .int _ 0) rfl)) <|
  ils_end ?_)
 refine iwp_block ?_
 refine iwp_loopP (α := Nat × Int) (fun z => ⟨[(1, .ref 0 0), (3, .int .i64 z.2)], [(0, .blk 27 (v0 a0))]⟩) (fun z => sennitref28_Check_L0 a0 z.1 z.2 = some r) (fun z => z.1) (fuel, 0) (fun i => i) ⟨(.sames rfl rfl), (.cons (.blk rfl rfl rfl) .nil), nd_of [0] rfl (by decide), fun _ _ => rfl⟩ ?_ ?_
 ·exact h
 ·
  rintro ⟨n0, v6⟩ h
  cases n0 with
  | zero => exact absurd h (by unfold sennitref28_Check_L0; exact nofun)
  | succ n0 =>
   unfold sennitref28_Check_L0 at h
   refine iwp_seq ?_
   obtain ⟨x16, hx16, h⟩ := bnd_e h
   refine iwp_reg (ils_cons rfl (mvI rfl rfl rfl rfl) <|
    ils_cons rfl (iop_cmpx rfl rfl (lb rfl) (svI rfl) (sv (d := .int _ 4) rfl) rfl hx16) <|
    ils_end ?_)
   refine iwp_cond (b := _) rfl (fun hc17 => ?_) (fun hc17 => ?_)
   ·
    replace h := bif_t h hc17
    refine iwp_skip ?_
    refine thenQ_n ?_
    refine iwp_seq ?_
    refine iwp_block ?_
    obtain ⟨hk18, h⟩ := chk_e h
    obtain ⟨x19, hx19, h⟩ := bno_e h
    obtain ⟨hk20, h⟩ := chk_e h
    obtain ⟨x21, hx21, h⟩ := bno_e h
    obtain ⟨x22, hx22, h⟩ := bnd_e h
    refine iwp_reg (ils_cons rfl (mvI rfl rfl rfl rfl) <|
     ils_cons rfl (faR 0 rfl rfl rfl Try.underlying27 rfl ti24 (lb rfl) rfl rfl) <|
     ils_cons rfl (iop_index_sel rfl rfl (lb rfl) Try.underlying24 ti23 (svR rfl) (svI rfl) hk18) <|
     ils_cons rfl (iop_field_sel rfl rfl (lb rfl) Try.underlying23 rfl ti4 (by decide) (svR rfl) (k' := 0) rfl) <|
     ils_cons rfl (iop_load_sel_s eBool (b := 0) (k := 0) (sz := 4) (d := .bool _) rfl rfl (lb rfl) Try.underlying4 ag4 ti4 (svR rfl) rfl hx19 ⟨rfl, ⟨rfl, ⟨rfl, ⟨rfl, trivial⟩⟩⟩⟩ rfl) <|
     ils_cons rfl (mvB rfl rfl rfl rfl) <|
     ils_guard rfl rfl (.one rfl) rfl (by decide) (fun hb => (mvI rfl rfl rfl rfl)) <|
     ils_guard rfl rfl (.one rfl) rfl (by decide) (fun hb => (faR 0 rfl rfl rfl Try.underlying27 rfl ti24 (lb rfl) rfl rfl)) <|
     ils_guard rfl rfl (.one rfl) rfl (by decide) (fun hb => (iop_index_sel rfl rfl (lb rfl) Try.underlying24 ti23 (svcR rfl hb) (svcI rfl hb) (hk20 hb))) <|
     ils_guard rfl rfl (.one rfl) rfl (by decide) (fun hb => (iop_field_sel rfl rfl (lb rfl) Try.underlying23 rfl ti4 (by decide) (svcR rfl hb) (k' := 1) rfl)) <|
     ils_guard rfl rfl (.one rfl) rfl (by decide) (fun hb => (iop_load_sel_s eBool (b := 0) (k := 1) (sz := 4) (d := .bool _) rfl rfl (lb rfl) Try.underlying4 ag4 ti4 (svcR rfl hb) rfl (gd_t hx21 hb) ⟨rfl, ⟨rfl, ⟨rfl, ⟨rfl, trivial⟩⟩⟩⟩ rfl)) <|
     ils_cons rfl (iop_andx rfl rfl (lb rfl) (svB rfl) rfl rfl hx22) <|
     ils_end ?_)
    refine iwp_cond (b := _) rfl (fun hc23 => ?_) (fun hc23 => ?_)
    ·
     replace h := bif_t h hc23
     refine iwp_reg (ils_cons rfl (iop_assign rfl rfl (lb rfl) (sv (d := .int _ 4) rfl)) <|
      ils_end ?_)
     refine iwp_ret ?_
     refine blockQ_r ?_
     refine thenQ_r ?_
     refine thenQ_r ?_
     refine blockQ_r ?_
     refine thenQ_r ?_
     obtain rfl := Option.some.inj h
     refine ⟨.inr rfl, (.cons (sv rfl) .nil)⟩
    ·
     replace h := bif_f h hc23
     refine iwp_skip ?_
     refine blockQ_n ?_
     refine thenQ_n ?_
     obtain ⟨x24, hx24, h⟩ := bnd_e h
     refine iwp_region (ils_cons rfl (mvI rfl rfl rfl rfl) <|
      ils_cons rfl (iop_intx rfl rfl (lb rfl) (svI rfl) (sv (d := .int _ 1) rfl) rfl hx24) <|
      ils_cons rfl (asI rfl rfl rfl rfl) <|
      ils_nil ?_)
     refine thenQ_n ⟨(n0, x24), (fun i => i), ⟨(.sames rfl rfl), (.cons (.blk rfl rfl rfl) .nil), nd_of [0] rfl (by decide), fun _ _ => rfl⟩, ?_, ?_⟩
     exact h
     exact Nat.lt_succ_self _
   ·
    replace h := bif_f h hc17
    refine iwp_exit ?_
    refine thenQ_e ?_
    refine thenQ_e ?_
    refine blockQ_e ?_
    refine thenQ_n ?_
    refine iwp_seq ?_
    refine iwp_reg (ils_cons rfl (iop_assign rfl rfl (lb rfl) (sv (d := .int _ 0) rfl)) <|
     ils_end ?_)
    refine iwp_block ?_
    refine iwp_loopP (α := Nat × Int) (fun z => ⟨[(1, .ref 0 0), (4, .int .i64 z.2)], [(0, .blk 27 (v0 a0))]⟩) (fun z => sennitref28_Check_L1 a0 z.1 z.2 = some r) (fun z => z.1) (fuel, 0) (fun i => i) ⟨(.sames rfl rfl), (.cons (.blk rfl rfl rfl) .nil), nd_of [0] rfl (by decide), fun _ _ => rfl⟩ ?_ ?_
    ·exact h
    ·
     rintro ⟨n1, v32⟩ h
     cases n1 with
     | zero => exact absurd h (by unfold sennitref28_Check_L1; exact nofun)
     | succ n1 =>
      unfold sennitref28_Check_L1 at h
      refine iwp_seq ?_
      obtain ⟨x44, hx44, h⟩ := bnd_e h
      refine iwp_reg (ils_cons rfl (mvI rfl rfl rfl rfl) <|
       ils_cons rfl (iop_cmpx rfl rfl (lb rfl) (svI rfl) (sv (d := .int _ 4) rfl) rfl hx44) <|
       ils_end ?_)
      refine iwp_cond (b := _) rfl (fun hc45 => ?_) (fun hc45 => ?_)
      ·
       replace h := bif_t h hc45
       refine iwp_skip ?_
       refine thenQ_n ?_
       refine iwp_seq ?_
       refine iwp_block ?_
       obtain ⟨hk46, h⟩ := chk_e h
       obtain ⟨x47, hx47, h⟩ := bno_e h
       obtain ⟨x48, hx48, h⟩ := bno_e h
       obtain ⟨hk49, h⟩ := chk_e h
       obtain ⟨x50, hx50, h⟩ := bno_e h
       obtain ⟨x51, hx51, h⟩ := bno_e h
       obtain ⟨x52, hx52, h⟩ := bnd_e h
       refine iwp_reg (ils_cons rfl (mvI rfl rfl rfl rfl) <|
        ils_cons rfl (faR 0 rfl rfl rfl Try.underlying27 rfl ti24 (lb rfl) rfl rfl) <|
        ils_cons rfl (iop_index_sel rfl rfl (lb rfl) Try.underlying24 ti23 (svR rfl) (svI rfl) hk46) <|
        ils_cons rfl (iop_field_sel rfl rfl (lb rfl) Try.underlying23 rfl ti3 (by decide) (svR rfl) (k' := 2) rfl) <|
        ils_cons rfl (iop_load_sel_s (eInt .i64) (b := 0) (k := 2) (sz := 4) (d := .int _ _) rfl rfl (lb rfl) Try.underlying3 ag3 ti3 (svR rfl) rfl hx47 ⟨rfl, ⟨rfl, ⟨rfl, ⟨rfl, trivial⟩⟩⟩⟩ rfl) <|
        ils_cons rfl (iop_call (r := .bool _) rfl rfl (lb rfl) cl42 (.cons (svI rfl) (.cons (sv (d := .int _ 0) rfl) (.cons (sv (d := .int _ 1099511627776) rfl) .nil))) rfl (p_sennitref28_in _ _ _ _ hx48)) <|
        ils_cons rfl (iop_not rfl rfl (lb rfl) (svB rfl)) <|
        ils_cons rfl (mvB rfl rfl rfl rfl) <|
        ils_guard rfl rfl (.one rfl) rfl (by decide) (fun hb => (mvI rfl rfl rfl rfl)) <|
        ils_guard rfl rfl (.one rfl) rfl (by decide) (fun hb => (faR 0 rfl rfl rfl Try.underlying27 rfl ti24 (lb rfl) rfl rfl)) <|
        ils_guard rfl rfl (.one rfl) rfl (by decide) (fun hb => (iop_index_sel rfl rfl (lb rfl) Try.underlying24 ti23 (svcR rfl hb) (svcI rfl hb) (hk49 hb))) <|
        ils_guard rfl rfl (.one rfl) rfl (by decide) (fun hb => (iop_field_sel rfl rfl (lb rfl) Try.underlying23 rfl ti3 (by decide) (svcR rfl hb) (k' := 3) rfl)) <|
        ils_guard rfl rfl (.one rfl) rfl (by decide) (fun hb => (iop_load_sel_s (eInt .i64) (b := 0) (k := 3) (sz := 4) (d := .int _ _) rfl rfl (lb rfl) Try.underlying3 ag3 ti3 (svcR rfl hb) rfl (gd_t hx50 hb) ⟨rfl, ⟨rfl, ⟨rfl, ⟨rfl, trivial⟩⟩⟩⟩ rfl)) <|
        ils_guard rfl rfl (.one rfl) rfl (by decide) (fun hb => (iop_call (r := .bool _) rfl rfl (lb rfl) cl42 (.cons (svcI rfl hb) (.cons (sv (d := .int _ 0) rfl) (.cons (sv (d := .int _ 1099511627776) rfl) .nil))) rfl (p_sennitref28_in _ _ _ _ (gd_t hx51 hb)))) <|
        ils_guard rfl rfl (.one rfl) rfl (by decide) (fun hb => (iop_not rfl rfl (lb rfl) (svcB rfl hb))) <|
        ils_cons rfl (iop_orx rfl rfl (lb rfl) (svB rfl) rfl rfl hx52) <|
        ils_end ?_)
       refine iwp_cond (b := _) rfl (fun hc53 => ?_) (fun hc53 => ?_)
       ·
        replace h := bif_t h hc53
        refine iwp_reg (ils_cons rfl (iop_assign rfl rfl (lb rfl) (sv (d := .int _ 8) rfl)) <|
         ils_end ?_)
        refine iwp_ret ?_
        refine blockQ_r ?_
        refine thenQ_r ?_
        refine thenQ_r ?_
        refine blockQ_r ?_
        refine thenQ_r ?_
        obtain rfl := Option.some.inj h
        refine ⟨.inr rfl, (.cons (sv rfl) .nil)⟩
       ·
        replace h := bif_f h hc53
        refine iwp_skip ?_
        refine blockQ_n ?_
        refine thenQ_n ?_
        obtain ⟨x54, hx54, h⟩ := bnd_e h
        refine iwp_region (ils_cons rfl (mvI rfl rfl rfl rfl) <|
         ils_cons rfl (iop_intx rfl rfl (lb rfl) (svI rfl) (sv (d := .int _ 1) rfl) rfl hx54) <|
         ils_cons rfl (asI rfl rfl rfl rfl) <|
         ils_nil ?_)
        refine thenQ_n ⟨(n1, x54), (fun i => i), ⟨(.sames rfl rfl), (.cons (.blk rfl rfl rfl) .nil), nd_of [0] rfl (by decide), fun _ _ => rfl⟩, ?_, ?_⟩
        exact h
        exact Nat.lt_succ_self _
      ·
       replace h := bif_f h hc45
       refine iwp_exit ?_
       refine thenQ_e ?_
       refine thenQ_e ?_
       refine blockQ_e ?_
       refine thenQ_n ?_
       refine iwp_seq ?_
       obtain ⟨x55, hx55, h⟩ := bno_e h
       obtain ⟨x56, hx56, h⟩ := bnd_e h
       obtain ⟨x57, hx57, h⟩ := bnd_e h
       refine iwp_reg (ils_cons rfl (faR 16 rfl rfl rfl Try.underlying27 rfl ti3 (lb rfl) rfl rfl) <|
        ils_cons rfl (iop_load_rs (d := .int _ _) rfl rfl (lb rfl) Try.underlying3 ag3 ti3 (by decide) (svR rfl) rfl (nle rfl) rfl) <|
        ils_cons rfl (iop_call (r := .bool _) rfl rfl (lb rfl) cl42 (.cons (svI rfl) (.cons (sv (d := .int _ (-1)) rfl) (.cons (sv (d := .int _ 3) rfl) .nil))) rfl (p_sennitref28_in _ _ _ _ hx55)) <|
        ils_cons rfl (iop_not rfl rfl (lb rfl) (svB rfl)) <|
        ils_cons rfl (mvB rfl rfl rfl rfl) <|
        ils_guard rfl rfl (.one rfl) rfl (by decide) (fun hb => (faR 17 rfl rfl rfl Try.underlying27 rfl ti25 (lb rfl) rfl rfl)) <|
        ils_guard rfl rfl (.one rfl) rfl (by decide) (fun hb => (iop_load_rs (d := .slice _ _) rfl rfl (lb rfl) Try.underlying25 ag25 ti25 (by decide) (svcR rfl hb) rfl (nle rfl) rfl)) <|
        ils_guard rfl rfl (.one rfl) rfl (by decide) (fun hb => (iop_lenT E_paths_Bind (l := a0.Binds) rfl rfl (lb rfl) Try.underlying25 (svcL rfl hb))) <|
        ils_guard rfl rfl (.one rfl) rfl (by decide) (fun hb => (iop_cmpx rfl rfl (lb rfl) (svcI rfl hb) (sv (d := .int _ 32) rfl) rfl hx56)) <|
        ils_cons rfl (iop_orx rfl rfl (lb rfl) (svB rfl) rfl rfl hx57) <|
        ils_end ?_)
       refine iwp_cond (b := _) rfl (fun hc58 => ?_) (fun hc58 => ?_)
       ·
        replace h := bif_t h hc58
        refine iwp_reg (ils_cons rfl (iop_assign rfl rfl (lb rfl) (sv (d := .int _ 8) rfl)) <|
         ils_end ?_)
        refine iwp_ret ?_
        refine thenQ_r ?_
        obtain rfl := Option.some.inj h
        refine ⟨.inr rfl, (.cons (sv rfl) .nil)⟩
       ·
        replace h := bif_f h hc58
        refine iwp_skip ?_
        refine thenQ_n ?_
        obtain ⟨x59, hx59, h⟩ := bnd_e h
        obtain ⟨hk60, h⟩ := chk_e h
        obtain ⟨x61, hx61, h⟩ := bno_e h
        obtain ⟨x62, hx62, h⟩ := bnd_e h
        refine iwp_drw rfl [⟨[1], [], [(55, .ref 0 16)], []⟩,
         ⟨[55], [0], [(56, .int .i64 a0.Pinned)], []⟩,
         ⟨[56], [], [(57, .bool x59)], []⟩,
         ⟨[57], [], [(58, .bool x59)], []⟩,
         ⟨[1, 58], [], [(59, .cnd (x59 == false) (.ref 0 16))], []⟩,
         ⟨[58, 59], [0], [(60, .cnd (x59 == false) (.int .i64 a0.Pinned))], []⟩,
         ⟨[1, 58], [], [(61, .cnd (x59 == false) (.ref 0 0))], []⟩,
         ⟨[58, 60, 61], [], [(62, .cnd (x59 == false) (.ref 0 (0 + (a0.Pinned : Int).toNat * 4 + 0)))], []⟩,
         ⟨[58, 62], [], [(63, .cnd (x59 == false) (.ref 0 (0 + (a0.Pinned : Int).toNat * 4 + 0)))], []⟩,
         ⟨[58, 63], [0], [(64, .cnd (x59 == false) (.bool x61))], []⟩,
         ⟨[58, 64], [], [(65, .bool x62)], []⟩,
         ⟨[], [], [(5, .bool true)], []⟩,
         ⟨[65], [], [(6, .bool x62)], []⟩] rfl ?_ (by kernel_rfl) ?_
        ·refine .cons (lop rfl rfl fun S hA => (iop_fieldAddr_ref rfl rfl (lb rfl) Try.underlying27 rfl ti3 (by decide) (svaR hA rfl rfl) (off' := 16) rfl)) ?_
         refine .cons (lop rfl rfl fun S hA => (iop_load_rs (d := .int _ _) rfl rfl (lb rfl) Try.underlying3 ag3 ti3 (by decide) (svaR hA rfl rfl) (agi hA rfl rfl) (nle rfl) rfl)) ?_
         refine .cons (lop rfl rfl fun S hA => (iop_cmpx rfl rfl (lb rfl) (svaI hA rfl rfl) (sv (d := .int _ 0) rfl) rfl hx59)) ?_
         refine .cons (lop rfl rfl fun S hA => (iop_move rfl rfl (lb rfl) (svaB hA rfl rfl))) ?_
         refine .cons (lopg rfl rfl rfl rfl (by decide) (fun S hA => grd1 hA rfl rfl) (fun S hA hb => (iop_fieldAddr_ref rfl rfl (lb rfl) Try.underlying27 rfl ti3 (by decide) (svaR hA rfl rfl) (off' := 16) rfl))) ?_
         refine .cons (lopg rfl rfl rfl rfl (by decide) (fun S hA => grd1 hA rfl rfl) (fun S hA hb => (iop_load_rs (d := .int _ _) rfl rfl (lb rfl) Try.underlying3 ag3 ti3 (by decide) (svc (d := .ref _ _) (agr hA rfl rfl) hb) (agi hA rfl rfl) (nle rfl) rfl))) ?_
         refine .cons (lopg rfl rfl rfl rfl (by decide) (fun S hA => grd1 hA rfl rfl) (fun S hA hb => (iop_fieldAddr_ref rfl rfl (lb rfl) Try.underlying27 rfl ti24 (by decide) (svaR hA rfl rfl) (off' := 0) rfl))) ?_
         refine .cons (lopg rfl rfl rfl rfl (by decide) (fun S hA => grd1 hA rfl rfl) (fun S hA hb => (iop_index_sel rfl rfl (lb rfl) Try.underlying24 ti23 (svc (d := .ref _ _) (agr hA rfl rfl) hb) (svc (d := .int _ _) (agr hA rfl rfl) hb) (hk60 hb)))) ?_
         refine .cons (lopg rfl rfl rfl rfl (by decide) (fun S hA => grd1 hA rfl rfl) (fun S hA hb => (iop_field_sel rfl rfl (lb rfl) Try.underlying23 rfl ti4 (by decide) (svc (d := .ref _ _) (agr hA rfl rfl) hb) (k' := 0) rfl))) ?_
         refine .cons (lopg rfl rfl rfl rfl (by decide) (fun S hA => grd1 hA rfl rfl) (fun S hA hb => (iop_load_sel_s eBool (b := 0) (k := 0) (sz := 4) (d := .bool _) rfl rfl (lb rfl) Try.underlying4 ag4 ti4 (svc (d := .ref _ _) (agr hA rfl rfl) hb) (agi hA rfl rfl) (gd_t hx61 hb) ⟨rfl, ⟨rfl, ⟨rfl, ⟨rfl, trivial⟩⟩⟩⟩ rfl))) ?_
         refine .cons (lop rfl rfl fun S hA => (iop_orx rfl rfl (lb rfl) (svaB hA rfl rfl) rfl (agr hA rfl rfl) hx62)) ?_
         refine .cons (lop rfl rfl fun S hA => (iop_assign rfl rfl (lb rfl) (sv (d := .bool true) rfl))) ?_
         refine .cons (lop rfl rfl fun S hA => (iop_assign rfl rfl (lb rfl) (svaB hA rfl rfl))) ?_
         exact .nil
        refine iwp_seq ?_
        refine iwp_reg (ils_cons rfl (iop_assign rfl rfl (lb rfl) (sv (d := .int _ 0) rfl)) <|
         ils_end ?_)
        refine iwp_block ?_
        refine iwp_loopP (α := Nat × Bool × Bool × Int) (fun z => ⟨[(1, .ref 0 0), (5, .bool z.2.1), (6, .bool z.2.2.1), (7, .int .i64 z.2.2.2)], [(0, .blk 27 (v0 a0))]⟩) (fun z => sennitref28_Check_L2 a0 z.1 z.2.1 z.2.2.1 z.2.2.2 = some r) (fun z => z.1) (fuel, true, x62, 0) (fun i => i) ⟨(.sames rfl rfl), (.cons (.blk rfl rfl rfl) .nil), nd_of [0] rfl (by decide), fun _ _ => rfl⟩ ?_ ?_
        ·exact h
        ·
         rintro ⟨n2, v80, v81, v82⟩ h
         cases n2 with
         | zero => exact absurd h (by unfold sennitref28_Check_L2; exact nofun)
         | succ n2 =>
          unfold sennitref28_Check_L2 at h
          refine iwp_seq ?_
          obtain ⟨x100, hx100, h⟩ := bnd_e h
          refine iwp_reg (ils_cons rfl (mvI rfl rfl rfl rfl) <|
           ils_cons rfl (faR 17 rfl rfl rfl Try.underlying27 rfl ti25 (lb rfl) rfl rfl) <|
           ils_cons rfl (lrL la25 rfl rfl rfl rfl rfl (nle rfl) rfl) <|
           ils_cons rfl (iop_lenT E_paths_Bind (l := a0.Binds) rfl rfl (lb rfl) Try.underlying25 (svL rfl)) <|
           ils_cons rfl (iop_cmpx rfl rfl (lb rfl) (svI rfl) (svI rfl) rfl hx100) <|
           ils_end ?_)
          refine iwp_cond (b := _) rfl (fun hc101 => ?_) (fun hc101 => ?_)
          ·
           replace h := bif_t h hc101
           refine iwp_skip ?_
           refine thenQ_n ?_
           refine iwp_seq ?_
           refine iwp_block ?_
           obtain ⟨x102, hx102, h⟩ := bno_e h
           refine iwp_reg (ils_cons rfl (faR 17 rfl rfl rfl Try.underlying27 rfl ti25 (lb rfl) rfl rfl) <|
            ils_cons rfl (lrL la25 rfl rfl rfl rfl rfl (nle rfl) rfl) <|
            ils_cons rfl (mvI rfl rfl rfl rfl) <|
            ils_cons rfl (iop_idxT E_paths_Bind (cs := q8) rfl rfl (lb rfl) Try.underlying25 ti87 (svL rfl) (svI rfl) hx102 rfl rfl) <|
            ils_cons rfl (iop_load_fa (cs := q8) rfl rfl (lb rfl) Try.underlying87 ag87 ti87 (by decide) (sv (d := .fptr q8) rfl) (nle rfl) rfl) <|
            ils_cons rfl (iop_allocS (cs := q8) (cs' := [.int .i64 0, .int .i64 0]) 1 rfl rfl (lb rfl) rfl ti87 rfl rfl (.all _)) <|
            ils_cons rfl (stA q8 q8 ti87 rfl rfl rfl rfl rfl rfl rfl rfl (nle rfl) rfl) <|
            ils_end ?_)
           refine iwp_seq ?_
           obtain ⟨x103, hx103, h⟩ := bno_e h
           obtain ⟨x104, hx104, h⟩ := bno_e h
           obtain ⟨x105, hx105, h⟩ := bnd_e h
           refine iwp_reg (ils_cons rfl (faR 0 rfl rfl rfl Try.underlying87 rfl ti3 (lb rfl) rfl rfl) <|
            ils_cons rfl (iop_load_rs (d := .int _ _) rfl rfl (lb rfl) Try.underlying3 ag3 ti3 (by decide) (svR rfl) rfl (nle rfl) rfl) <|
            ils_cons rfl (iop_call (r := .bool _) rfl rfl (lb rfl) cl42 (.cons (svI rfl) (.cons (sv (d := .int _ 1) rfl) (.cons (sv (d := .int _ 1048576) rfl) .nil))) rfl (p_sennitref28_in _ _ _ _ hx103)) <|
            ils_cons rfl (iop_not rfl rfl (lb rfl) (svB rfl)) <|
            ils_cons rfl (mvB rfl rfl rfl rfl) <|
            ils_guard rfl rfl (.one rfl) rfl (by decide) (fun hb => (faR 1 rfl rfl rfl Try.underlying87 rfl ti3 (lb rfl) rfl rfl)) <|
            ils_guard rfl rfl (.one rfl) rfl (by decide) (fun hb => (iop_load_rs (d := .int _ _) rfl rfl (lb rfl) Try.underlying3 ag3 ti3 (by decide) (svcR rfl hb) rfl (nle rfl) rfl)) <|
            ils_guard rfl rfl (.one rfl) rfl (by decide) (fun hb => (iop_call (r := .bool _) rfl rfl (lb rfl) cl42 (.cons (svcI rfl hb) (.cons (sv (d := .int _ 0) rfl) (.cons (sv (d := .int _ 3) rfl) .nil))) rfl (p_sennitref28_in _ _ _ _ (gd_t hx104 hb)))) <|
            ils_guard rfl rfl (.one rfl) rfl (by decide) (fun hb => (iop_not rfl rfl (lb rfl) (svcB rfl hb))) <|
            ils_cons rfl (iop_orx rfl rfl (lb rfl) (svB rfl) rfl rfl hx105) <|
            ils_end ?_)
           refine iwp_cond (b := _) rfl (fun hc106 => ?_) (fun hc106 => ?_)
           ·
            replace h := bif_t h hc106
            refine iwp_reg (ils_cons rfl (iop_assign rfl rfl (lb rfl) (sv (d := .int _ 8) rfl)) <|
             ils_end ?_)
            refine iwp_ret ?_
            refine thenQ_r ?_
            refine blockQ_r ?_
            refine thenQ_r ?_
            refine thenQ_r ?_
            refine blockQ_r ?_
            refine thenQ_r ?_
            obtain rfl := Option.some.inj h
            refine ⟨.inr rfl, (.cons (sv rfl) .nil)⟩
           ·
            replace h := bif_f h hc106
            refine iwp_skip ?_
            refine thenQ_n ?_
            obtain ⟨x107, hx107, h⟩ := bnd_e h
            obtain ⟨x108, hx108, h⟩ := bnd_e h
            obtain ⟨x109, hx109, h⟩ := bno_e h
            obtain ⟨x110, hx110, h⟩ := bnd_e h
            obtain ⟨x111, hx111, h⟩ := bnd_e h
            obtain ⟨x112, hx112, h⟩ := bnd_e h
            refine iwp_drw rfl [⟨[5], [], [(88, .bool v80)], []⟩,
             ⟨[88], [], [(89, .bool v80)], []⟩,
             ⟨[7, 89], [], [(90, .cnd (v80 == true) (.int .i64 v82))], []⟩,
             ⟨[89, 90], [], [(91, .cnd (v80 == true) (.bool x107))], []⟩,
             ⟨[89, 91], [], [(92, .cnd (v80 == true) (.bool x107))], []⟩,
             ⟨[1, 92], [], [(93, .cnd (((v80 == true) && (x107 == false))) (.ref 0 17))], []⟩,
             ⟨[92, 93], [0], [(94, .cnd (((v80 == true) && (x107 == false))) (.slice false (a0.Binds.map E_paths_Bind.d)))], []⟩,
             ⟨[7, 92], [], [(95, .cnd (((v80 == true) && (x107 == false))) (.int .i64 v82))], []⟩,
             ⟨[92, 95], [], [(96, .cnd (((v80 == true) && (x107 == false))) (.int .i64 x108))], []⟩,
             ⟨[92, 94, 96], [], [(97, .cnd (((v80 == true) && (x107 == false))) (.fptr [.int .i64 x109.Stream, .int .i64 x109.Path]))], []⟩,
             ⟨[92, 97], [], [(98, .cnd (((v80 == true) && (x107 == false))) (.fptr [.int .i64 x109.Stream]))], []⟩,
             ⟨[92, 98], [], [(99, .cnd (((v80 == true) && (x107 == false))) (.int .i64 x109.Stream))], []⟩,
             ⟨[8, 92], [], [(100, .cnd (((v80 == true) && (x107 == false))) (.ref 1 0))], []⟩,
             ⟨[92, 100], [1], [(101, .cnd (((v80 == true) && (x107 == false))) (.int .i64 x102.Stream))], []⟩,
             ⟨[92, 99, 101], [], [(102, .cnd (((v80 == true) && (x107 == false))) (.bool x110))], []⟩,
             ⟨[89, 92, 102], [], [(103, .cnd (v80 == true) (.bool x111))], []⟩,
             ⟨[89, 103], [], [(104, .bool x112)], []⟩,
             ⟨[104], [], [(5, .bool x112)], []⟩] rfl ?_ (by kernel_rfl) ?_
            ·refine .cons (lop rfl rfl fun S hA => (iop_move rfl rfl (lb rfl) (svaB hA rfl rfl))) ?_
             refine .cons (lop rfl rfl fun S hA => (iop_move rfl rfl (lb rfl) (svaB hA rfl rfl))) ?_
             refine .cons (lopg rfl rfl rfl rfl (by decide) (fun S hA => grd1 hA rfl rfl) (fun S hA hb => (iop_move rfl rfl (lb rfl) (svaI hA rfl rfl)))) ?_
             refine .cons (lopg rfl rfl rfl rfl (by decide) (fun S hA => grd1 hA rfl rfl) (fun S hA hb => (iop_cmpx rfl rfl (lb rfl) (svc (d := .int _ _) (agr hA rfl rfl) hb) (sv (d := .int _ 0) rfl) rfl hx107))) ?_
             refine .cons (lopg rfl rfl rfl rfl (by decide) (fun S hA => grd1 hA rfl rfl) (fun S hA hb => (iop_move rfl rfl (lb rfl) (svc (d := .bool _) (agr hA rfl rfl) hb)))) ?_
             refine .cons (lopg rfl rfl rfl rfl (by decide) (fun S hA => grd2 hA rfl rfl) (fun S hA hb => (iop_fieldAddr_ref rfl rfl (lb rfl) Try.underlying27 rfl ti25 (by decide) (svaR hA rfl rfl) (off' := 17) rfl))) ?_
             refine .cons (lopg rfl rfl rfl rfl (by decide) (fun S hA => grd2 hA rfl rfl) (fun S hA hb => (iop_load_rs (d := .slice _ _) rfl rfl (lb rfl) Try.underlying25 ag25 ti25 (by decide) (svc (d := .ref _ _) (agr hA rfl rfl) hb) (agi hA rfl rfl) (nle rfl) rfl))) ?_
             refine .cons (lopg rfl rfl rfl rfl (by decide) (fun S hA => grd2 hA rfl rfl) (fun S hA hb => (iop_move rfl rfl (lb rfl) (svaI hA rfl rfl)))) ?_
             refine .cons (lopg rfl rfl rfl rfl (by decide) (fun S hA => grd2 hA rfl rfl) (fun S hA hb => (iop_intx rfl rfl (lb rfl) (svc (d := .int _ _) (agr hA rfl rfl) hb) (sv (d := .int _ 1) rfl) rfl hx108))) ?_
             refine .cons (lopg rfl rfl rfl rfl (by decide) (fun S hA => grd2 hA rfl rfl) (fun S hA hb => (iop_idxT E_paths_Bind (cs := q8) rfl rfl (lb rfl) Try.underlying25 ti87 (svc (d := .slice _ _) (agr hA rfl rfl) hb) (svc (d := .int _ _) (agr hA rfl rfl) hb) (gd_t hx109 hb) rfl rfl))) ?_
             refine .cons (lopg rfl rfl rfl rfl (by decide) (fun S hA => grd2 hA rfl rfl) (fun S hA hb => (iop_fieldAddr_fptr (cs' := [.int _ _]) rfl rfl (lb rfl) Try.underlying87 rfl ti3 (by decide) (svc (d := .fptr q8) (agr hA rfl rfl) hb) rfl))) ?_
             refine .cons (lopg rfl rfl rfl rfl (by decide) (fun S hA => grd2 hA rfl rfl) (fun S hA hb => (iop_load_fs rfl rfl (lb rfl) Try.underlying3 ag3 ti3 (by decide) (svc (d := .fptr [.int _ _]) (agr hA rfl rfl) hb) (nle rfl)))) ?_
             refine .cons (lopg rfl rfl rfl rfl (by decide) (fun S hA => grd2 hA rfl rfl) (fun S hA hb => (iop_fieldAddr_ref rfl rfl (lb rfl) Try.underlying87 rfl ti3 (by decide) (svaR hA rfl rfl) (off' := 0) rfl))) ?_
             refine .cons (lopg rfl rfl rfl rfl (by decide) (fun S hA => grd2 hA rfl rfl) (fun S hA hb => (iop_load_rs (d := .int _ _) rfl rfl (lb rfl) Try.underlying3 ag3 ti3 (by decide) (svc (d := .ref _ _) (agr hA rfl rfl) hb) (agi hA rfl rfl) (nle rfl) rfl))) ?_
             refine .cons (lopg rfl rfl rfl rfl (by decide) (fun S hA => grd2 hA rfl rfl) (fun S hA hb => (iop_cmpx rfl rfl (lb rfl) (svc (d := .int _ _) (agr hA rfl rfl) hb) (svc (d := .int _ _) (agr hA rfl rfl) hb) rfl hx110))) ?_
             refine .cons (lopg rfl rfl rfl rfl (by decide) (fun S hA => grd1 hA rfl rfl) (fun S hA hb => (iop_or2x rfl rfl (lb rfl) hb (svc (d := .bool _) (agr hA rfl rfl) hb) rfl (agr hA rfl rfl) hx111))) ?_
             refine .cons (lop rfl rfl fun S hA => (iop_andx rfl rfl (lb rfl) (svaB hA rfl rfl) (agr hA rfl rfl) rfl hx112)) ?_
             refine .cons (lop rfl rfl fun S hA => (iop_assign rfl rfl (lb rfl) (svaB hA rfl rfl))) ?_
             exact .nil
            obtain ⟨hk113, h⟩ := chk_e h
            obtain ⟨x114, hx114, h⟩ := bno_e h
            obtain ⟨x115, hx115, h⟩ := bnd_e h
            refine iwp_region (ils_cons rfl (mvB rfl rfl rfl rfl) <|
             ils_cons rfl (mvB rfl rfl rfl rfl) <|
             ils_guard rfl rfl (.one rfl) rfl (by decide) (fun hb => (faR 1 rfl rfl rfl Try.underlying87 rfl ti3 (lb rfl) rfl rfl)) <|
             ils_guard rfl rfl (.one rfl) rfl (by decide) (fun hb => (iop_load_rs (d := .int _ _) rfl rfl (lb rfl) Try.underlying3 ag3 ti3 (by decide) (svcR rfl hb) rfl (nle rfl) rfl)) <|
             ils_guard rfl rfl (.one rfl) rfl (by decide) (fun hb => (faR 0 rfl rfl rfl Try.underlying27 rfl ti24 (lb rfl) rfl rfl)) <|
             ils_guard rfl rfl (.one rfl) rfl (by decide) (fun hb => (iop_index_sel rfl rfl (lb rfl) Try.underlying24 ti23 (svcR rfl hb) (svcI rfl hb) (hk113 hb))) <|
             ils_guard rfl rfl (.one rfl) rfl (by decide) (fun hb => (iop_field_sel rfl rfl (lb rfl) Try.underlying23 rfl ti4 (by decide) (svcR rfl hb) (k' := 0) rfl)) <|
             ils_guard rfl rfl (.one rfl) rfl (by decide) (fun hb => (iop_load_sel_s eBool (b := 0) (k := 0) (sz := 4) (d := .bool _) rfl rfl (lb rfl) Try.underlying4 ag4 ti4 (svcR rfl hb) rfl (gd_t hx114 hb) ⟨rfl, ⟨rfl, ⟨rfl, ⟨rfl, trivial⟩⟩⟩⟩ rfl)) <|
             ils_cons rfl (iop_andx rfl rfl (lb rfl) (svB rfl) rfl rfl hx115) <|
             ils_cons rfl (asB rfl rfl rfl rfl) <|
             ils_nil ?_)
            refine blockQ_n ?_
            refine thenQ_n ?_
            obtain ⟨x116, hx116, h⟩ := bnd_e h
            refine iwp_region (ils_cons rfl (mvI rfl rfl rfl rfl) <|
             ils_cons rfl (iop_intx rfl rfl (lb rfl) (svI rfl) (sv (d := .int _ 1) rfl) rfl hx116) <|
             ils_cons rfl (asI rfl rfl rfl rfl) <|
             ils_nil ?_)
            refine thenQ_n ⟨(n2, x112, x115, x116), (fun i => i), ⟨(.sames rfl rfl), (.cons (.blk rfl rfl rfl) .nil), nd_of [0] rfl (by decide), fun _ _ => rfl⟩, ?_, ?_⟩
            exact h
            exact Nat.lt_succ_self _
          ·
           replace h := bif_f h hc101
           refine iwp_exit ?_
           refine thenQ_e ?_
           refine thenQ_e ?_
           refine blockQ_e ?_
           refine thenQ_n ?_
           refine iwp_seq ?_
           refine iwp_block ?_
           refine iwp_reg (ils_cons rfl (mvB rfl rfl rfl rfl) <|
            ils_cons rfl (iop_not rfl rfl (lb rfl) (svB rfl)) <|
            ils_cons rfl (asB rfl rfl rfl rfl) <|
            ils_end ?_)
           refine iwp_cond (b := _) rfl (fun hc117 => ?_) (fun hc117 => ?_)
           ·
            replace h := bif_t h hc117
            refine iwp_reg (ils_cons rfl (iop_assign rfl rfl (lb rfl) (sv (d := .int _ 10) rfl)) <|
             ils_end ?_)
            refine iwp_ret ?_
            refine blockQ_r ?_
            refine thenQ_r ?_
            obtain rfl := Option.some.inj h
            refine ⟨.inr rfl, (.cons (sv rfl) .nil)⟩
           ·
            replace h := bif_f h hc117
            refine iwp_reg (ils_cons rfl (mvB rfl rfl rfl rfl) <|
             ils_cons rfl (iop_not rfl rfl (lb rfl) (svB rfl)) <|
             ils_cons rfl (asB rfl rfl rfl rfl) <|
             ils_end ?_)
            refine iwp_cond (b := _) rfl (fun hc118 => ?_) (fun hc118 => ?_)
            ·
             replace h := bif_t h hc118
             refine iwp_reg (ils_cons rfl (iop_assign rfl rfl (lb rfl) (sv (d := .int _ 9) rfl)) <|
              ils_end ?_)
             refine iwp_ret ?_
             refine blockQ_r ?_
             refine thenQ_r ?_
             obtain rfl := Option.some.inj h
             refine ⟨.inr rfl, (.cons (sv rfl) .nil)⟩
            ·
             replace h := bif_f h hc118
             refine iwp_skip ?_
             refine blockQ_n ?_
             refine thenQ_n ?_
             refine iwp_reg (ils_cons rfl (iop_assign rfl rfl (lb rfl) (sv (d := .int _ 0) rfl)) <|
              ils_end ?_)
             refine iwp_ret ?_
             obtain rfl := Option.some.inj h
             refine ⟨.inr rfl, (.cons (sv rfl) .nil)⟩

theorem p_sennitref28_Rise (a0 : T_paths_State) (a1 : Int) (r : (T_paths_State × Bool)) (h : sennitref28_Rise a0 a1 = some r) : PureAt Try.prog 11 [.agg (v0 a0), .int .i64 a1] (retD [.agg (v0 r.1), .bool r.2]) := by
 refine pure_of_iwp (rs := [.agg (v0 r.1), .bool r.2]) Try.func11 rfl Try.ntmps11 (nle rfl) rfl fun O hO => ?_
 show IWP _ _ _ _ ⟨[(0, .agg (v0 a0)), (1, .int .i64 a1)], []⟩ _
 unfold sennitref28_Rise at h
 refine iwp_reg (ils_cons rfl (iop_box' (cs := q3) 0 rfl rfl (lb rfl) rfl (svA q3 rfl) rfl rfl) <|
  ils_cons rfl (iop_allocS (cs := q5) (cs' := (w13 false false 0 0 false false 0 0 false false 0 0 false false 0 0 0 ([] : List T_paths_Bind))) 1 rfl rfl (lb rfl) rfl ti27 rfl rfl (.k4 (.k (.k4 (.k (.k4 (.k (.k (.k (.cons (.nils _) .nil)))))))))) <|
  ils_cons rfl (iop_assign rfl rfl (lb rfl) (sv (d := .bool false) rfl)) <|
  ils_end ?_)
 refine iwp_seq ?_
 obtain ⟨x1, hx1, h⟩ := bno_e h
 obtain ⟨x2, hx2, h⟩ := bnd_e h
 obtain ⟨x3, hx3, h⟩ := bno_e h
 obtain ⟨x4, hx4, h⟩ := bnd_e h
 obtain ⟨hk5, h⟩ := chk_e h
 obtain ⟨x6, hx6, h⟩ := bno_e h
 obtain ⟨x7, hx7, h⟩ := bnd_e h
 obtain ⟨hk8, h⟩ := chk_e h
 obtain ⟨x9, hx9, h⟩ := bno_e h
 obtain ⟨x10, hx10, h⟩ := bnd_e h
 refine iwp_reg (ils_cons rfl (lra q3 la27 rfl rfl rfl rfl rfl (nle rfl) rfl) <|
  ils_cons rfl (iop_call (r := .int _ _) rfl rfl (lb rfl) cl29 (.cons (svA q3 rfl) .nil) rfl (p_sennitref28_Check _ _ hx1)) <|
  ils_cons rfl (iop_cmpx rfl rfl (lb rfl) (svI rfl) (sv (d := .int _ 0) rfl) rfl hx2) <|
  ils_cons rfl (mvB rfl rfl rfl rfl) <|
  ils_guard rfl rfl (.one rfl) rfl (by decide) (fun hb => (mvI rfl rfl rfl rfl)) <|
  ils_guard rfl rfl (.one rfl) rfl (by decide) (fun hb => (iop_call (r := .bool _) rfl rfl (lb rfl) cl42 (.cons (svcI rfl hb) (.cons (sv (d := .int _ 0) rfl) (.cons (sv (d := .int _ 3) rfl) .nil))) rfl (p_sennitref28_in _ _ _ _ (gd_t hx3 hb)))) <|
  ils_guard rfl rfl (.one rfl) rfl (by decide) (fun hb => (iop_not rfl rfl (lb rfl) (svcB rfl hb))) <|
  ils_cons rfl (iop_orx rfl rfl (lb rfl) (svB rfl) rfl rfl hx4) <|
  ils_cons rfl (mvB rfl rfl rfl rfl) <|
  ils_guard rfl rfl (.one rfl) rfl (by decide) (fun hb => (mvI rfl rfl rfl rfl)) <|
  ils_guard rfl rfl (.one rfl) rfl (by decide) (fun hb => (faR 0 rfl rfl rfl Try.underlying27 rfl ti24 (lb rfl) rfl rfl)) <|
  ils_guard rfl rfl (.one rfl) rfl (by decide) (fun hb => (iop_index_sel rfl rfl (lb rfl) Try.underlying24 ti23 (svcR rfl hb) (svcI rfl hb) (hk5 hb))) <|
  ils_guard rfl rfl (.one rfl) rfl (by decide) (fun hb => (iop_field_sel rfl rfl (lb rfl) Try.underlying23 rfl ti4 (by decide) (svcR rfl hb) (k' := 0) rfl)) <|
  ils_guard rfl rfl (.one rfl) rfl (by decide) (fun hb => (iop_load_sel_s eBool (b := 0) (k := 0) (sz := 4) (d := .bool _) rfl rfl (lb rfl) Try.underlying4 ag4 ti4 (svcR rfl hb) rfl (gd_t hx6 hb) ⟨rfl, ⟨rfl, ⟨rfl, ⟨rfl, trivial⟩⟩⟩⟩ rfl)) <|
  ils_cons rfl (iop_orx rfl rfl (lb rfl) (svB rfl) rfl rfl hx7) <|
  ils_cons rfl (mvB rfl rfl rfl rfl) <|
  ils_guard rfl rfl (.one rfl) rfl (by decide) (fun hb => (mvI rfl rfl rfl rfl)) <|
  ils_guard rfl rfl (.one rfl) rfl (by decide) (fun hb => (faR 0 rfl rfl rfl Try.underlying27 rfl ti24 (lb rfl) rfl rfl)) <|
  ils_guard rfl rfl (.one rfl) rfl (by decide) (fun hb => (iop_index_sel rfl rfl (lb rfl) Try.underlying24 ti23 (svcR rfl hb) (svcI rfl hb) (hk8 hb))) <|
  ils_guard rfl rfl (.one rfl) rfl (by decide) (fun hb => (iop_field_sel rfl rfl (lb rfl) Try.underlying23 rfl ti4 (by decide) (svcR rfl hb) (k' := 1) rfl)) <|
  ils_guard rfl rfl (.one rfl) rfl (by decide) (fun hb => (iop_load_sel_s eBool (b := 0) (k := 1) (sz := 4) (d := .bool _) rfl rfl (lb rfl) Try.underlying4 ag4 ti4 (svcR rfl hb) rfl (gd_t hx9 hb) ⟨rfl, ⟨rfl, ⟨rfl, ⟨rfl, trivial⟩⟩⟩⟩ rfl)) <|
  ils_cons rfl (iop_orx rfl rfl (lb rfl) (svB rfl) rfl rfl hx10) <|
  ils_end ?_)
 refine iwp_cond (b := _) rfl (fun hc11 => ?_) (fun hc11 => ?_)
 ·
  replace h := bif_t h hc11
  refine iwp_reg (ils_cons rfl (lra q3 la27 rfl rfl rfl rfl rfl (nle rfl) rfl) <|
   ils_cons rfl (stA q3 q3 ti27 rfl rfl rfl rfl rfl rfl rfl rfl (nle rfl) rfl) <|
   ils_cons rfl (iop_assign rfl rfl (lb rfl) (sv (d := .bool false) rfl)) <|
   ils_end ?_)
  refine iwp_ret ?_
  refine thenQ_r ?_
  obtain rfl := Option.some.inj h
  refine ⟨.inr rfl, (.cons (rva la27 rfl rfl (nle rfl) rfl) (.cons (sv rfl) .nil))⟩
 ·
  replace h := bif_f h hc11
  refine iwp_skip ?_
  refine thenQ_n ?_
  obtain ⟨hk12, h⟩ := chk_e h
  obtain ⟨x13, hx13, h⟩ := bnd_e h
  obtain ⟨x14, hx14, h⟩ := bnd_e h
  obtain ⟨x15, hx15, h⟩ := bnd_e h
  obtain ⟨x16, hx16, h⟩ := bnd_e h
  refine iwp_reg (ils_cons rfl (mvI rfl rfl rfl rfl) <|
   ils_cons rfl (faR 0 rfl rfl rfl Try.underlying27 rfl ti24 (lb rfl) rfl rfl) <|
   ils_cons rfl (iop_index_sel rfl rfl (lb rfl) Try.underlying24 ti23 (svR rfl) (svI rfl) hk12) <|
   ils_cons rfl (iop_field_sel rfl rfl (lb rfl) Try.underlying23 rfl ti4 (by decide) (svR rfl) (k' := 0) rfl) <|
   ils_cons rfl (iop_store_sel (b := 0) (k := 0) (sz := 4) (cs' := (w13 x13.Up x13.Dead x13.Bytes x13.Ticks x14.Up x14.Dead x14.Bytes x14.Ticks x15.Up x15.Dead x15.Bytes x15.Ticks x16.Up x16.Dead x16.Bytes x16.Ticks a0.Pinned a0.Binds)) rfl rfl ti4 (svR rfl) rfl (sv (d := .bool true) rfl) rfl rfl rfl hk12 rfl ⟨⟨⟨⟨trivial, fun h => by rw [← hx13, ← hx14, ← hx15, ← hx16, h]; rfl⟩, fun h => by rw [← hx13, ← hx14, ← hx15, ← hx16, h]; rfl⟩, fun h => by rw [← hx13, ← hx14, ← hx15, ← hx16, h]; rfl⟩, fun h => by rw [← hx13, ← hx14, ← hx15, ← hx16, h]; rfl⟩) <|
   ils_end ?_)
  refine iwp_reg (ils_cons rfl (lra q3 la27 rfl rfl rfl rfl rfl (nle rfl) rfl) <|
   ils_cons rfl (stA q3 q3 ti27 rfl rfl rfl rfl rfl rfl rfl rfl (nle rfl) rfl) <|
   ils_cons rfl (iop_assign rfl rfl (lb rfl) (sv (d := .bool true) rfl)) <|
   ils_end ?_)
  refine iwp_ret ?_
  obtain rfl := Option.some.inj h
  refine ⟨.inr rfl, (.cons (rva la27 rfl rfl (nle rfl) rfl) (.cons (sv rfl) .nil))⟩

theorem p_sennitref28_Fall (a0 : T_paths_State) (a1 : Int) (r : (T_paths_State × (List Int) × Bool)) (h : sennitref28_Fall a0 a1 = some r) : PureAt Try.prog 13 [.agg (v0 a0), .int .i64 a1] (retD [.agg (v0 r.1), .slice false (r.2.1.map (eInt .i64).d), .bool r.2.2]) := by
 refine pure_of_iwp (rs := [.agg (v0 r.1), .slice false (r.2.1.map (eInt .i64).d), .bool r.2.2]) Try.func13 rfl Try.ntmps13 (nle rfl) rfl fun O hO => ?_
 show IWP _ _ _ _ ⟨[(0, .agg (v0 a0)), (1, .int .i64 a1)], []⟩ _
 unfold sennitref28_Fall at h
 refine iwp_reg (ils_cons rfl (iop_box' (cs := q3) 0 rfl rfl (lb rfl) rfl (svA q3 rfl) rfl rfl) <|
  ils_cons rfl (iop_allocS (cs := q5) (cs' := (w13 false false 0 0 false false 0 0 false false 0 0 false false 0 0 0 ([] : List T_paths_Bind))) 1 rfl rfl (lb rfl) rfl ti27 rfl rfl (.k4 (.k (.k4 (.k (.k4 (.k (.k (.k (.cons (.nils _) .nil)))))))))) <|
  ils_cons rfl (iop_assign rfl rfl (lb rfl) (sv (d := .nils) rfl)) <|
  ils_cons rfl (iop_assign rfl rfl (lb rfl) (sv (d := .bool false) rfl)) <|
  ils_end ?_)
 refine iwp_seq ?_
 obtain ⟨x1, hx1, h⟩ := bno_e h
 obtain ⟨x2, hx2, h⟩ := bnd_e h
 obtain ⟨x3, hx3, h⟩ := bno_e h
 obtain ⟨x4, hx4, h⟩ := bnd_e h
 obtain ⟨hk5, h⟩ := chk_e h
 obtain ⟨x6, hx6, h⟩ := bno_e h
 obtain ⟨x7, hx7, h⟩ := bnd_e h
 refine iwp_reg (ils_cons rfl (lra q3 la27 rfl rfl rfl rfl rfl (nle rfl) rfl) <|
  ils_cons rfl (iop_call (r := .int _ _) rfl rfl (lb rfl) cl29 (.cons (svA q3 rfl) .nil) rfl (p_sennitref28_Check _ _ hx1)) <|
  ils_cons rfl (iop_cmpx rfl rfl (lb rfl) (svI rfl) (sv (d := .int _ 0) rfl) rfl hx2) <|
  ils_cons rfl (mvB rfl rfl rfl rfl) <|
  ils_guard rfl rfl (.one rfl) rfl (by decide) (fun hb => (mvI rfl rfl rfl rfl)) <|
  ils_guard rfl rfl (.one rfl) rfl (by decide) (fun hb => (iop_call (r := .bool _) rfl rfl (lb rfl) cl42 (.cons (svcI rfl hb) (.cons (sv (d := .int _ 0) rfl) (.cons (sv (d := .int _ 3) rfl) .nil))) rfl (p_sennitref28_in _ _ _ _ (gd_t hx3 hb)))) <|
  ils_guard rfl rfl (.one rfl) rfl (by decide) (fun hb => (iop_not rfl rfl (lb rfl) (svcB rfl hb))) <|
  ils_cons rfl (iop_orx rfl rfl (lb rfl) (svB rfl) rfl rfl hx4) <|
  ils_cons rfl (mvB rfl rfl rfl rfl) <|
  ils_guard rfl rfl (.one rfl) rfl (by decide) (fun hb => (mvI rfl rfl rfl rfl)) <|
  ils_guard rfl rfl (.one rfl) rfl (by decide) (fun hb => (faR 0 rfl rfl rfl Try.underlying27 rfl ti24 (lb rfl) rfl rfl)) <|
  ils_guard rfl rfl (.one rfl) rfl (by decide) (fun hb => (iop_index_sel rfl rfl (lb rfl) Try.underlying24 ti23 (svcR rfl hb) (svcI rfl hb) (hk5 hb))) <|
  ils_guard rfl rfl (.one rfl) rfl (by decide) (fun hb => (iop_field_sel rfl rfl (lb rfl) Try.underlying23 rfl ti4 (by decide) (svcR rfl hb) (k' := 0) rfl)) <|
  ils_guard rfl rfl (.one rfl) rfl (by decide) (fun hb => (iop_load_sel_s eBool (b := 0) (k := 0) (sz := 4) (d := .bool _) rfl rfl (lb rfl) Try.underlying4 ag4 ti4 (svcR rfl hb) rfl (gd_t hx6 hb) ⟨rfl, ⟨rfl, ⟨rfl, ⟨rfl, trivial⟩⟩⟩⟩ rfl)) <|
  ils_guard rfl rfl (.one rfl) rfl (by decide) (fun hb => (iop_not rfl rfl (lb rfl) (svcB rfl hb))) <|
  ils_cons rfl (iop_orx rfl rfl (lb rfl) (svB rfl) rfl rfl hx7) <|
  ils_end ?_)
 refine iwp_cond (b := _) rfl (fun hc8 => ?_) (fun hc8 => ?_)
 ·
  replace h := bif_t h hc8
  refine iwp_reg (ils_cons rfl (lra q3 la27 rfl rfl rfl rfl rfl (nle rfl) rfl) <|
   ils_cons rfl (stA q3 q3 ti27 rfl rfl rfl rfl rfl rfl rfl rfl (nle rfl) rfl) <|
   ils_cons rfl (iop_assign rfl rfl (lb rfl) (sv (d := .nils) rfl)) <|
   ils_cons rfl (iop_assign rfl rfl (lb rfl) (sv (d := .bool false) rfl)) <|
   ils_end ?_)
  refine iwp_ret ?_
  refine thenQ_r ?_
  obtain rfl := Option.some.inj h
  refine ⟨.inr rfl, (.cons (rva la27 rfl rfl (nle rfl) rfl) (.cons (svn_of rfl rfl) (.cons (sv rfl) .nil)))⟩
 ·
  replace h := bif_f h hc8
  refine iwp_skip ?_
  refine thenQ_n ?_
  obtain ⟨hk9, h⟩ := chk_e h
  obtain ⟨x10, hx10, h⟩ := bnd_e h
  obtain ⟨x11, hx11, h⟩ := bnd_e h
  obtain ⟨x12, hx12, h⟩ := bnd_e h
  obtain ⟨x13, hx13, h⟩ := bnd_e h
  obtain ⟨hk14, h⟩ := chk_e h
  obtain ⟨x15, hx15, h⟩ := bnd_e h
  obtain ⟨x16, hx16, h⟩ := bnd_e h
  obtain ⟨x17, hx17, h⟩ := bnd_e h
  obtain ⟨x18, hx18, h⟩ := bnd_e h
  refine iwp_reg (ils_cons rfl (mvI rfl rfl rfl rfl) <|
   ils_cons rfl (mvI rfl rfl rfl rfl) <|
   ils_cons rfl (faR 0 rfl rfl rfl Try.underlying27 rfl ti24 (lb rfl) rfl rfl) <|
   ils_cons rfl (iop_index_sel rfl rfl (lb rfl) Try.underlying24 ti23 (svR rfl) (svI rfl) hk9) <|
   ils_cons rfl (iop_field_sel rfl rfl (lb rfl) Try.underlying23 rfl ti4 (by decide) (svR rfl) (k' := 0) rfl) <|
   ils_cons rfl (iop_store_sel (b := 0) (k := 0) (sz := 4) (cs' := (w13 x10.Up x10.Dead x10.Bytes x10.Ticks x11.Up x11.Dead x11.Bytes x11.Ticks x12.Up x12.Dead x12.Bytes x12.Ticks x13.Up x13.Dead x13.Bytes x13.Ticks a0.Pinned a0.Binds)) rfl rfl ti4 (svR rfl) rfl (sv (d := .bool false) rfl) rfl rfl rfl hk9 rfl ⟨⟨⟨⟨trivial, fun h => by rw [← hx10, ← hx11, ← hx12, ← hx13, h]; rfl⟩, fun h => by rw [← hx10, ← hx11, ← hx12, ← hx13, h]; rfl⟩, fun h => by rw [← hx10, ← hx11, ← hx12, ← hx13, h]; rfl⟩, fun h => by rw [← hx10, ← hx11, ← hx12, ← hx13, h]; rfl⟩) <|
   ils_cons rfl (faR 0 rfl rfl rfl Try.underlying27 rfl ti24 (lb rfl) rfl rfl) <|
   ils_cons rfl (iop_index_sel rfl rfl (lb rfl) Try.underlying24 ti23 (svR rfl) (svI rfl) hk14) <|
   ils_cons rfl (iop_field_sel rfl rfl (lb rfl) Try.underlying23 rfl ti4 (by decide) (svR rfl) (k' := 1) rfl) <|
   ils_cons rfl (iop_store_sel (b := 0) (k := 1) (sz := 4) (cs' := (w13 x15.Up x15.Dead x15.Bytes x15.Ticks x16.Up x16.Dead x16.Bytes x16.Ticks x17.Up x17.Dead x17.Bytes x17.Ticks x18.Up x18.Dead x18.Bytes x18.Ticks a0.Pinned a0.Binds)) rfl rfl ti4 (svR rfl) rfl (sv (d := .bool true) rfl) rfl rfl rfl hk14 rfl ⟨⟨⟨⟨trivial, fun h => by rw [← hx15, ← hx16, ← hx17, ← hx18, h]; rfl⟩, fun h => by rw [← hx15, ← hx16, ← hx17, ← hx18, h]; rfl⟩, fun h => by rw [← hx15, ← hx16, ← hx17, ← hx18, h]; rfl⟩, fun h => by rw [← hx15, ← hx16, ← hx17, ← hx18, h]; rfl⟩) <|
   ils_end ?_)
  refine iwp_reg (ils_cons rfl (iop_assign rfl rfl (lb rfl) (sv (d := .nils) rfl)) <|
   ils_end ?_)
  refine iwp_reg (ils_cons rfl (iop_assign rfl rfl (lb rfl) (sv (d := .nils) rfl)) <|
   ils_end ?_)
  refine iwp_seq ?_
  refine iwp_reg (ils_cons rfl (iop_assign rfl rfl (lb rfl) (sv (d := .int _ 0) rfl)) <|
   ils_end ?_)
  refine iwp_block ?_
  refine iwp_loopP (α := Nat × (List T_paths_Bind) × (List Int) × Int) (fun z => ⟨[(1, .int .i64 a1), (2, .ref 0 0), (4, .ref 1 0), (7, .gsl 23 E_paths_Bind.sz (z.2.1.map E_paths_Bind.d)), (8, .gsl 24 (eInt .i64).sz (z.2.2.1.map (eInt .i64).d)), (9, .int .i64 z.2.2.2)], [(0, .blk 27 (w13 x15.Up x15.Dead x15.Bytes x15.Ticks x16.Up x16.Dead x16.Bytes x16.Ticks x17.Up x17.Dead x17.Bytes x17.Ticks x18.Up x18.Dead x18.Bytes x18.Ticks a0.Pinned a0.Binds)), (1, .blk 27 (w13 false false 0 0 false false 0 0 false false 0 0 false false 0 0 0 ([] : List T_paths_Bind))), (23, .tail 87 E_paths_Bind.sz z.2.1.length), (24, .tail 3 (eInt .i64).sz z.2.2.1.length)]⟩) (fun z => sennitref28_Fall_L0 a0 a1 x15 x16 x17 x18 z.1 z.2.1 z.2.2.1 z.2.2.2 = some r) (fun z => z.1) (fuel, ([] : (List T_paths_Bind)), ([] : (List Int)), 0) (fun i => if i = 23 then 75 else if i = 24 then 76 else i) ⟨(.s rfl rfl (.s rfl rfl (.s rfl rfl (.cons (.nils rfl) (.cons (.nils rfl) (.sames rfl rfl)))))), (.cons (.blk rfl rfl rfl) (.cons (.blk rfl rfl rfl) (.cons (.nils rfl) (.cons (.nils rfl) .nil)))), nd_of [0, 1, 75, 76] rfl (by decide), (fun i hi => by first | rfl | (show (if _ then _ else _) = _; (repeat' split) <;> omega))⟩ ?_ ?_
  ·exact h
  ·
   rintro ⟨n0, v30, v31, v32⟩ h
   cases n0 with
   | zero => exact absurd h (by unfold sennitref28_Fall_L0; exact nofun)
   | succ n0 =>
    unfold sennitref28_Fall_L0 at h
    refine iwp_seq ?_
    obtain ⟨x44, hx44, h⟩ := bnd_e h
    refine iwp_reg (ils_cons rfl (mvI rfl rfl rfl rfl) <|
     ils_cons rfl (faR 17 rfl rfl rfl Try.underlying27 rfl ti25 (lb rfl) rfl rfl) <|
     ils_cons rfl (lrL la25 rfl rfl rfl rfl rfl (nle rfl) rfl) <|
     ils_cons rfl (iop_lenT E_paths_Bind (l := a0.Binds) rfl rfl (lb rfl) Try.underlying25 (svL rfl)) <|
     ils_cons rfl (iop_cmpx rfl rfl (lb rfl) (svI rfl) (svI rfl) rfl hx44) <|
     ils_end ?_)
    refine iwp_cond (b := _) rfl (fun hc45 => ?_) (fun hc45 => ?_)
    ·
     replace h := bif_t h hc45
     refine iwp_skip ?_
     refine thenQ_n ?_
     refine iwp_seq ?_
     refine iwp_block ?_
     obtain ⟨x46, hx46, h⟩ := bno_e h
     obtain ⟨x47, hx47, h⟩ := bnd_e h
     refine iwp_reg (ils_cons rfl (faR 17 rfl rfl rfl Try.underlying27 rfl ti25 (lb rfl) rfl rfl) <|
      ils_cons rfl (lrL la25 rfl rfl rfl rfl rfl (nle rfl) rfl) <|
      ils_cons rfl (mvI rfl rfl rfl rfl) <|
      ils_cons rfl (iop_idxT E_paths_Bind (cs := q8) rfl rfl (lb rfl) Try.underlying25 ti87 (svL rfl) (svI rfl) hx46 rfl rfl) <|
      ils_cons rfl (iop_fieldAddr_fptr (cs' := [.int _ _]) rfl rfl (lb rfl) Try.underlying87 rfl ti3 (by decide) (sv (d := .fptr q8) rfl) rfl) <|
      ils_cons rfl (iop_load_fs rfl rfl (lb rfl) Try.underlying3 ag3 ti3 (by decide) (sv (d := .fptr [.int _ _]) rfl) (nle rfl)) <|
      ils_cons rfl (mvI rfl rfl rfl rfl) <|
      ils_cons rfl (iop_cmpx rfl rfl (lb rfl) (svI rfl) (svI rfl) rfl hx47) <|
      ils_end ?_)
     refine iwp_cond (b := _) rfl (fun hc48 => ?_) (fun hc48 => ?_)
     ·
      replace h := bif_t h hc48
      obtain ⟨x49, hx49, h⟩ := bno_e h
      obtain ⟨x50, hx50, h⟩ := bno_e h
      refine iwp_region (ils_cons rfl (iop_move rfl rfl (lb rfl) (sv (d := .gsl _ _ _) rfl)) <|
       ils_cons rfl (faR 17 rfl rfl rfl Try.underlying27 rfl ti25 (lb rfl) rfl rfl) <|
       ils_cons rfl (lrL la25 rfl rfl rfl rfl rfl (nle rfl) rfl) <|
       ils_cons rfl (mvI rfl rfl rfl rfl) <|
       ils_cons rfl (iop_idxT E_paths_Bind (cs := q8) rfl rfl (lb rfl) Try.underlying25 ti87 (svL rfl) (svI rfl) hx49 rfl rfl) <|
       ils_cons rfl (iop_fieldAddr_fptr (cs' := [.int _ _]) rfl rfl (lb rfl) Try.underlying87 rfl ti3 (by decide) (sv (d := .fptr q8) rfl) rfl) <|
       ils_cons rfl (iop_load_fs rfl rfl (lb rfl) Try.underlying3 ag3 ti3 (by decide) (sv (d := .fptr [.int _ _]) rfl) (nle rfl)) <|
       ils_cons rfl (iop_bsT (eInt .i64) ([x49.Stream] : (List Int)) 25 rfl rfl (lb rfl) Try.underlying41 ti3 rfl (.cons (svI rfl) .nil) rfl rfl (by decide)) <|
       ils_cons rfl (iop_appT (eInt .i64) 26 rfl rfl (lb rfl) Try.underlying41 ti3 rfl rfl rfl rfl (svg rfl) hx50) <|
       ils_cons rfl (iop_assign rfl rfl (lb rfl) (sv (d := .gsl _ _ _) rfl)) <|
       ils_nil ?_)
      refine blockQ_n ?_
      refine thenQ_n ?_
      obtain ⟨x51, hx51, h⟩ := bnd_e h
      refine iwp_region (ils_cons rfl (mvI rfl rfl rfl rfl) <|
       ils_cons rfl (iop_intx rfl rfl (lb rfl) (svI rfl) (sv (d := .int _ 1) rfl) rfl hx51) <|
       ils_cons rfl (asI rfl rfl rfl rfl) <|
       ils_nil ?_)
      refine thenQ_n ⟨(n0, v30, x50, x51), (fun i => if i = 24 then 26 else i), ⟨(.sames rfl rfl), (.cons (.blk rfl rfl rfl) (.cons (.blk rfl rfl rfl) (.cons (.tail rfl) (.cons (.tail rfl) .nil)))), nd_of [0, 1, 23, 26] rfl (by decide), (fun i hi => by first | rfl | (show (if _ then _ else _) = _; (repeat' split) <;> omega))⟩, ?_, ?_⟩
      exact h
      exact Nat.lt_succ_self _
     ·
      replace h := bif_f h hc48
      obtain ⟨x52, hx52, h⟩ := bno_e h
      obtain ⟨x53, hx53, h⟩ := bno_e h
      refine iwp_region (ils_cons rfl (iop_move rfl rfl (lb rfl) (sv (d := .gsl _ _ _) rfl)) <|
       ils_cons rfl (faR 17 rfl rfl rfl Try.underlying27 rfl ti25 (lb rfl) rfl rfl) <|
       ils_cons rfl (lrL la25 rfl rfl rfl rfl rfl (nle rfl) rfl) <|
       ils_cons rfl (mvI rfl rfl rfl rfl) <|
       ils_cons rfl (iop_idxT E_paths_Bind (cs := q8) rfl rfl (lb rfl) Try.underlying25 ti87 (svL rfl) (svI rfl) hx52 rfl rfl) <|
       ils_cons rfl (iop_load_fa (cs := q8) rfl rfl (lb rfl) Try.underlying87 ag87 ti87 (by decide) (sv (d := .fptr q8) rfl) (nle rfl) rfl) <|
       ils_cons rfl (iop_bsT E_paths_Bind ([x52] : (List T_paths_Bind)) 25 rfl rfl (lb rfl) Try.underlying25 ti87 rfl (.cons (svA q8 rfl) .nil) rfl rfl (by decide)) <|
       ils_cons rfl (iop_appT E_paths_Bind 26 rfl rfl (lb rfl) Try.underlying25 ti87 rfl rfl rfl rfl (svg rfl) hx53) <|
       ils_cons rfl (iop_assign rfl rfl (lb rfl) (sv (d := .gsl _ _ _) rfl)) <|
       ils_nil ?_)
      refine blockQ_n ?_
      refine thenQ_n ?_
      obtain ⟨x54, hx54, h⟩ := bnd_e h
      refine iwp_region (ils_cons rfl (mvI rfl rfl rfl rfl) <|
       ils_cons rfl (iop_intx rfl rfl (lb rfl) (svI rfl) (sv (d := .int _ 1) rfl) rfl hx54) <|
       ils_cons rfl (asI rfl rfl rfl rfl) <|
       ils_nil ?_)
      refine thenQ_n ⟨(n0, x53, v31, x54), (fun i => if i = 23 then 26 else i), ⟨(.sames rfl rfl), (.cons (.blk rfl rfl rfl) (.cons (.blk rfl rfl rfl) (.cons (.tail rfl) (.cons (.tail rfl) .nil)))), nd_of [0, 1, 26, 24] rfl (by decide), (fun i hi => by first | rfl | (show (if _ then _ else _) = _; (repeat' split) <;> omega))⟩, ?_, ?_⟩
      exact h
      exact Nat.lt_succ_self _
    ·
     replace h := bif_f h hc45
     refine iwp_exit ?_
     refine thenQ_e ?_
     refine thenQ_e ?_
     refine blockQ_e ?_
     refine thenQ_n ?_
     refine iwp_reg (ils_cons rfl (iop_move rfl rfl (lb rfl) (sv (d := .gsl _ _ _) rfl)) <|
      ils_cons rfl (faR 17 rfl rfl rfl Try.underlying27 rfl ti25 (lb rfl) rfl rfl) <|
      ils_cons rfl (iop_store (ds' := q3) rfl rfl ti25 (svR rfl) rfl (svg rfl) rfl rfl rfl (nle rfl) rfl) <|
      ils_end ?_)
     refine iwp_join (α := Int) (fun z => ⟨[(2, .ref 0 0), (4, .ref 1 0), (8, .gsl 24 (eInt .i64).sz (v31.map (eInt .i64).d))], [(0, .blk 27 (w13 x15.Up x15.Dead x15.Bytes x15.Ticks x16.Up x16.Dead x16.Bytes x16.Ticks x17.Up x17.Dead x17.Bytes x17.Ticks x18.Up x18.Dead x18.Bytes x18.Ticks z v30)), (1, .blk 27 (w13 false false 0 0 false false 0 0 false false 0 0 false false 0 0 0 ([] : List T_paths_Bind))), (24, .tail 3 (eInt .i64).sz v31.length)]⟩) (fun z => sennitref28_Fall_J1 x15 x16 x17 x18 v30 v31 z = some r) ?_ ?_
     ·
      obtain ⟨x58, hx58, h⟩ := bnd_e h
      refine iwp_reg (ils_cons rfl (faR 16 rfl rfl rfl Try.underlying27 rfl ti3 (lb rfl) rfl rfl) <|
       ils_cons rfl (iop_load_rs (d := .int _ _) rfl rfl (lb rfl) Try.underlying3 ag3 ti3 (by decide) (svR rfl) rfl (nle rfl) rfl) <|
       ils_cons rfl (mvI rfl rfl rfl rfl) <|
       ils_cons rfl (iop_cmpx rfl rfl (lb rfl) (svI rfl) (svI rfl) rfl hx58) <|
       ils_end ?_)
      refine iwp_cond (b := _) rfl (fun hc59 => ?_) (fun hc59 => ?_)
      ·
       replace h := bif_t h hc59
       refine iwp_region (ils_cons rfl (faR 16 rfl rfl rfl Try.underlying27 rfl ti3 (lb rfl) rfl rfl) <|
        ils_cons rfl (iop_store (ds' := q3) rfl rfl ti3 (svR rfl) rfl (sv (d := .int _ (-1)) rfl) rfl rfl rfl (nle rfl) rfl) <|
        ils_nil ?_)
       refine thenQ_n ⟨(-1), (fun i => i), ⟨(.sames rfl rfl), (.cons (.blk rfl rfl rfl) (.cons (.blk rfl rfl rfl) (.cons (.tail rfl) .nil))), nd_of [0, 1, 24] rfl (by decide), fun _ _ => rfl⟩, ?_⟩
       exact h
      ·
       replace h := bif_f h hc59
       refine iwp_skip ?_
       refine thenQ_n ⟨a0.Pinned, (fun i => i), ⟨(.sames rfl rfl), (.cons (.blk rfl rfl rfl) (.cons (.blk rfl rfl rfl) (.cons (.tail rfl) .nil))), nd_of [0, 1, 24] rfl (by decide), fun _ _ => rfl⟩, ?_⟩
       exact h
     ·
      rintro v57 h
      unfold sennitref28_Fall_J1 at h
      refine iwp_reg (ils_cons rfl (lra q3 la27 rfl rfl rfl rfl rfl (nle rfl) rfl) <|
       ils_cons rfl (iop_move rfl rfl (lb rfl) (sv (d := .gsl _ _ _) rfl)) <|
       ils_cons rfl (stA q3 q3 ti27 rfl rfl rfl rfl rfl rfl rfl rfl (nle rfl) rfl) <|
       ils_cons rfl (iop_assign rfl rfl (lb rfl) (sv (d := .gsl _ _ _) rfl)) <|
       ils_cons rfl (iop_assign rfl rfl (lb rfl) (sv (d := .bool true) rfl)) <|
       ils_end ?_)
      refine iwp_ret ?_
      obtain rfl := Option.some.inj h
      refine ⟨.inr rfl, (.cons (rva la27 rfl rfl (nle rfl) rfl) (.cons (svg_of rfl rfl) (.cons (sv rfl) .nil)))⟩

theorem p_sennitref28_bound (a0 : T_paths_State) (a1 : Int) (r : Int) (h : sennitref28_bound a0 a1 = some r) : PureAt Try.prog 50 [.agg (v0 a0), .int .i64 a1] (.int .i64 r) := by
 refine pure_of_iwp (rs := [.int .i64 r]) Try.func50 rfl Try.ntmps50 (nle rfl) rfl fun O hO => ?_
 show IWP _ _ _ _ ⟨[(0, .agg (v0 a0)), (1, .int .i64 a1)], []⟩ _
 unfold sennitref28_bound at h
 refine iwp_reg (ils_cons rfl (iop_box' (cs := q3) 0 rfl rfl (lb rfl) rfl (svA q3 rfl) rfl rfl) <|
  ils_cons rfl (iop_assign rfl rfl (lb rfl) (sv (d := .int _ 0) rfl)) <|
  ils_end ?_)
 refine iwp_seq ?_
 refine iwp_reg (ils_cons rfl (iop_assign rfl rfl (lb rfl) (sv (d := .int _ 0) rfl)) <|
  ils_end ?_)
 refine iwp_block ?_
 refine iwp_loopP (α := Nat × Int) (fun z => ⟨[(1, .int .i64 a1), (2, .ref 0 0), (5, .int .i64 z.2)], [(0, .blk 27 (v0 a0))]⟩) (fun z => sennitref28_bound_L0 a0 a1 z.1 z.2 = some r) (fun z => z.1) (fuel, 0) (fun i => i) ⟨(.sames rfl rfl), (.cons (.blk rfl rfl rfl) .nil), nd_of [0] rfl (by decide), fun _ _ => rfl⟩ ?_ ?_
 ·exact h
 ·
  rintro ⟨n0, v8⟩ h
  cases n0 with
  | zero => exact absurd h (by unfold sennitref28_bound_L0; exact nofun)
  | succ n0 =>
   unfold sennitref28_bound_L0 at h
   refine iwp_seq ?_
   obtain ⟨x16, hx16, h⟩ := bnd_e h
   refine iwp_reg (ils_cons rfl (mvI rfl rfl rfl rfl) <|
    ils_cons rfl (faR 17 rfl rfl rfl Try.underlying27 rfl ti25 (lb rfl) rfl rfl) <|
    ils_cons rfl (lrL la25 rfl rfl rfl rfl rfl (nle rfl) rfl) <|
    ils_cons rfl (iop_lenT E_paths_Bind (l := a0.Binds) rfl rfl (lb rfl) Try.underlying25 (svL rfl)) <|
    ils_cons rfl (iop_cmpx rfl rfl (lb rfl) (svI rfl) (svI rfl) rfl hx16) <|
    ils_end ?_)
   refine iwp_cond (b := _) rfl (fun hc17 => ?_) (fun hc17 => ?_)
   ·
    replace h := bif_t h hc17
    refine iwp_skip ?_
    refine thenQ_n ?_
    refine iwp_seq ?_
    refine iwp_block ?_
    obtain ⟨x18, hx18, h⟩ := bno_e h
    obtain ⟨x19, hx19, h⟩ := bnd_e h
    refine iwp_reg (ils_cons rfl (faR 17 rfl rfl rfl Try.underlying27 rfl ti25 (lb rfl) rfl rfl) <|
     ils_cons rfl (lrL la25 rfl rfl rfl rfl rfl (nle rfl) rfl) <|
     ils_cons rfl (mvI rfl rfl rfl rfl) <|
     ils_cons rfl (iop_idxT E_paths_Bind (cs := q8) rfl rfl (lb rfl) Try.underlying25 ti87 (svL rfl) (svI rfl) hx18 rfl rfl) <|
     ils_cons rfl (iop_fieldAddr_fptr (cs' := [.int _ _]) rfl rfl (lb rfl) Try.underlying87 rfl ti3 (by decide) (sv (d := .fptr q8) rfl) rfl) <|
     ils_cons rfl (iop_load_fs rfl rfl (lb rfl) Try.underlying3 ag3 ti3 (by decide) (sv (d := .fptr [.int _ _]) rfl) (nle rfl)) <|
     ils_cons rfl (mvI rfl rfl rfl rfl) <|
     ils_cons rfl (iop_cmpx rfl rfl (lb rfl) (svI rfl) (svI rfl) rfl hx19) <|
     ils_end ?_)
    refine iwp_cond (b := _) rfl (fun hc20 => ?_) (fun hc20 => ?_)
    ·
     replace h := bif_t h hc20
     obtain ⟨x21, hx21, h⟩ := bno_e h
     refine iwp_reg (ils_cons rfl (faR 17 rfl rfl rfl Try.underlying27 rfl ti25 (lb rfl) rfl rfl) <|
      ils_cons rfl (lrL la25 rfl rfl rfl rfl rfl (nle rfl) rfl) <|
      ils_cons rfl (mvI rfl rfl rfl rfl) <|
      ils_cons rfl (iop_idxT E_paths_Bind (cs := q8) rfl rfl (lb rfl) Try.underlying25 ti87 (svL rfl) (svI rfl) hx21 rfl rfl) <|
      ils_cons rfl (iop_fieldAddr_fptr (cs' := [.int _ _]) rfl rfl (lb rfl) Try.underlying87 rfl ti3 (by decide) (sv (d := .fptr q8) rfl) rfl) <|
      ils_cons rfl (iop_load_fs rfl rfl (lb rfl) Try.underlying3 ag3 ti3 (by decide) (sv (d := .fptr [.int _ _]) rfl) (nle rfl)) <|
      ils_cons rfl (asI rfl rfl rfl rfl) <|
      ils_end ?_)
     refine iwp_ret ?_
     refine blockQ_r ?_
     refine thenQ_r ?_
     refine thenQ_r ?_
     refine blockQ_r ?_
     refine thenQ_r ?_
     obtain rfl := Option.some.inj h
     refine ⟨.inr rfl, (.cons (sv rfl) .nil)⟩
    ·
     replace h := bif_f h hc20
     refine iwp_skip ?_
     refine blockQ_n ?_
     refine thenQ_n ?_
     obtain ⟨x22, hx22, h⟩ := bnd_e h
     refine iwp_region (ils_cons rfl (mvI rfl rfl rfl rfl) <|
      ils_cons rfl (iop_intx rfl rfl (lb rfl) (svI rfl) (sv (d := .int _ 1) rfl) rfl hx22) <|
      ils_cons rfl (asI rfl rfl rfl rfl) <|
      ils_nil ?_)
     refine thenQ_n ⟨(n0, x22), (fun i => i), ⟨(.sames rfl rfl), (.cons (.blk rfl rfl rfl) .nil), nd_of [0] rfl (by decide), fun _ _ => rfl⟩, ?_, ?_⟩
     exact h
     exact Nat.lt_succ_self _
   ·
    replace h := bif_f h hc17
    refine iwp_exit ?_
    refine thenQ_e ?_
    refine thenQ_e ?_
    refine blockQ_e ?_
    refine thenQ_n ?_
    refine iwp_reg (ils_cons rfl (iop_assign rfl rfl (lb rfl) (sv (d := .int _ (-1)) rfl)) <|
     ils_end ?_)
    refine iwp_ret ?_
    obtain rfl := Option.some.inj h
    refine ⟨.inr rfl, (.cons (sv rfl) .nil)⟩

theorem p_sennitref27_Rate (a0 : Int) (a1 : Int) (r : Nat) (h : sennitref27_Rate a0 a1 = some r) : PureAt Try.prog 53 [.int .i64 a0, .int .i64 a1] (.float .f64 r) := by
 refine pure_of_iwp (rs := [.float .f64 r]) Try.func53 rfl Try.ntmps53 (nle rfl) rfl fun O hO => ?_
 show IWP _ _ _ _ ⟨[(0, .int .i64 a0), (1, .int .i64 a1)], []⟩ _
 unfold sennitref27_Rate at h
 refine iwp_reg (ils_cons rfl (iop_assign rfl rfl (lb rfl) (sv (d := .float _ _) rfl)) <|
  ils_end ?_)
 obtain ⟨x1, hx1, h⟩ := bnd_e h
 obtain ⟨x2, hx2, h⟩ := bnd_e h
 obtain ⟨x3, hx3, h⟩ := bnd_e h
 refine iwp_reg (ils_cons rfl (mvI rfl rfl rfl rfl) <|
  ils_cons rfl (iop_fintx rfl rfl (lb rfl) ⟨_, Try.underlying3⟩ Try.underlying65 (svI rfl) hx1) <|
  ils_cons rfl (mvI rfl rfl rfl rfl) <|
  ils_cons rfl (iop_fintx rfl rfl (lb rfl) ⟨_, Try.underlying3⟩ Try.underlying65 (svI rfl) hx2) <|
  ils_cons rfl (iop_farx rfl rfl (lb rfl) (sv (d := .float _ _) rfl) (sv (d := .float _ _) rfl) rfl hx3) <|
  ils_cons rfl (iop_assign rfl rfl (lb rfl) (sv (d := .float _ _) rfl)) <|
  ils_end ?_)
 refine iwp_ret ?_
 obtain rfl := Option.some.inj h
 refine ⟨.inr rfl, (.cons (sv rfl) .nil)⟩

theorem p_sennitref28_Rates (a0 : T_paths_State) (r : (List Nat)) (h : sennitref28_Rates a0 = some r) : PureAt Try.prog 26 [.agg (v0 a0)] (.slice false (r.map (eFlt .f64).d)) := by
 refine pure_of_iwp (rs := [.slice false (r.map (eFlt .f64).d)]) Try.func26 rfl Try.ntmps26 (nle rfl) rfl fun O hO => ?_
 show IWP _ _ _ _ ⟨[(0, .agg (v0 a0))], []⟩ _
 unfold sennitref28_Rates at h
 refine iwp_reg (ils_cons rfl (iop_box' (cs := q3) 0 rfl rfl (lb rfl) rfl (svA q3 rfl) rfl rfl) <|
  ils_cons rfl (iop_assign rfl rfl (lb rfl) (sv (d := .nils) rfl)) <|
  ils_end ?_)
 refine iwp_reg (ils_cons rfl (iop_assign rfl rfl (lb rfl) (sv (d := .nils) rfl)) <|
  ils_end ?_)
 refine iwp_seq ?_
 refine iwp_reg (ils_cons rfl (iop_assign rfl rfl (lb rfl) (sv (d := .int _ 0) rfl)) <|
  ils_end ?_)
 refine iwp_block ?_
 refine iwp_loopP (α := Nat × (List Nat) × Int) (fun z => ⟨[(1, .ref 0 0), (3, .gsl 22 (eFlt .f64).sz (z.2.1.map (eFlt .f64).d)), (4, .int .i64 z.2.2)], [(0, .blk 27 (v0 a0)), (22, .tail 65 (eFlt .f64).sz z.2.1.length)]⟩) (fun z => sennitref28_Rates_L0 a0 z.1 z.2.1 z.2.2 = some r) (fun z => z.1) (fuel, ([] : (List Nat)), 0) (fun i => if i = 22 then 73 else i) ⟨(.s rfl rfl (.cons (.nils rfl) (.sames rfl rfl))), (.cons (.blk rfl rfl rfl) (.cons (.nils rfl) .nil)), nd_of [0, 73] rfl (by decide), (fun i hi => by first | rfl | (show (if _ then _ else _) = _; (repeat' split) <;> omega))⟩ ?_ ?_
 ·exact h
 ·
  rintro ⟨n0, v10, v11⟩ h
  cases n0 with
  | zero => exact absurd h (by unfold sennitref28_Rates_L0; exact nofun)
  | succ n0 =>
   unfold sennitref28_Rates_L0 at h
   refine iwp_seq ?_
   obtain ⟨x23, hx23, h⟩ := bnd_e h
   refine iwp_reg (ils_cons rfl (mvI rfl rfl rfl rfl) <|
    ils_cons rfl (iop_cmpx rfl rfl (lb rfl) (svI rfl) (sv (d := .int _ 4) rfl) rfl hx23) <|
    ils_end ?_)
   refine iwp_cond (b := _) rfl (fun hc24 => ?_) (fun hc24 => ?_)
   ·
    replace h := bif_t h hc24
    refine iwp_skip ?_
    refine thenQ_n ?_
    refine iwp_seq ?_
    refine iwp_block ?_
    obtain ⟨hk25, h⟩ := chk_e h
    obtain ⟨x26, hx26, h⟩ := bno_e h
    refine iwp_reg (ils_cons rfl (mvI rfl rfl rfl rfl) <|
     ils_cons rfl (faR 0 rfl rfl rfl Try.underlying27 rfl ti24 (lb rfl) rfl rfl) <|
     ils_cons rfl (iop_index_sel rfl rfl (lb rfl) Try.underlying24 ti23 (svR rfl) (svI rfl) hk25) <|
     ils_cons rfl (iop_load_sel_a E_paths_Line (b := 0) (k := 0) (sz := 4) (ds := q7) rfl rfl (lb rfl) Try.underlying23 ag23 ti23 (by decide) (svR rfl) rfl hx26 ⟨rfl, ⟨rfl, ⟨rfl, ⟨rfl, trivial⟩⟩⟩⟩ rfl rfl) <|
     ils_cons rfl (iop_allocS (cs := q7) (cs' := (w15 false false 0 0)) 23 rfl rfl (lb rfl) rfl ti23 rfl rfl (.all _)) <|
     ils_cons rfl (stA q7 q7 ti23 rfl rfl rfl rfl rfl rfl rfl rfl (nle rfl) rfl) <|
     ils_end ?_)
    refine iwp_join (α := Int × Int) (fun z => ⟨[(1, .ref 0 0), (3, .gsl 22 (eFlt .f64).sz (v10.map (eFlt .f64).d)), (4, .int .i64 v11), (5, .ref 23 0)], [(0, .blk 27 (v0 a0)), (22, .tail 65 (eFlt .f64).sz v10.length), (23, .blk 23 (w15 x26.Up x26.Dead z.1 z.2))]⟩) (fun z => sennitref28_Rates_J1 v10 v11 (sennitref28_Rates_L0 a0 n0) z.1 z.2 = some r) ?_ ?_
    ·
     refine iwp_reg (ils_cons rfl (faR 0 rfl rfl rfl Try.underlying23 rfl ti4 (lb rfl) rfl rfl) <|
      ils_cons rfl (iop_load_rs (d := .bool _) rfl rfl (lb rfl) Try.underlying4 ag4 ti4 (by decide) (svR rfl) rfl (nle rfl) rfl) <|
      ils_cons rfl (iop_not rfl rfl (lb rfl) (svB rfl)) <|
      ils_end ?_)
     refine iwp_cond (b := _) rfl (fun hc33 => ?_) (fun hc33 => ?_)
     ·
      replace h := bif_t h hc33
      refine iwp_region (ils_cons rfl (faR 2 rfl rfl rfl Try.underlying23 rfl ti3 (lb rfl) rfl rfl) <|
       ils_cons rfl (iop_store (ds' := q7) rfl rfl ti3 (svR rfl) rfl (sv (d := .int _ 0) rfl) rfl rfl rfl (nle rfl) rfl) <|
       ils_cons rfl (faR 3 rfl rfl rfl Try.underlying23 rfl ti3 (lb rfl) rfl rfl) <|
       ils_cons rfl (iop_store (ds' := q7) rfl rfl ti3 (svR rfl) rfl (sv (d := .int _ 0) rfl) rfl rfl rfl (nle rfl) rfl) <|
       ils_nil ?_)
      refine thenQ_n ⟨(0, 0), (fun i => i), ⟨(.sames rfl rfl), (.cons (.blk rfl rfl rfl) (.cons (.tail rfl) (.cons (.blk rfl rfl rfl) .nil))), nd_of [0, 22, 23] rfl (by decide), fun _ _ => rfl⟩, ?_⟩
      exact h
     ·
      replace h := bif_f h hc33
      refine iwp_skip ?_
      refine thenQ_n ⟨(x26.Bytes, x26.Ticks), (fun i => i), ⟨(.sames rfl rfl), (.cons (.blk rfl rfl rfl) (.cons (.tail rfl) (.cons (.blk rfl rfl rfl) .nil))), nd_of [0, 22, 23] rfl (by decide), fun _ _ => rfl⟩, ?_⟩
      exact h
    ·
     rintro ⟨v28, v29⟩ h
     unfold sennitref28_Rates_J1 at h
     obtain ⟨x30, hx30, h⟩ := bno_e h
     obtain ⟨x31, hx31, h⟩ := bno_e h
     refine iwp_region (ils_cons rfl (iop_move rfl rfl (lb rfl) (sv (d := .gsl _ _ _) rfl)) <|
      ils_cons rfl (faR 2 rfl rfl rfl Try.underlying23 rfl ti3 (lb rfl) rfl rfl) <|
      ils_cons rfl (iop_load_rs (d := .int _ _) rfl rfl (lb rfl) Try.underlying3 ag3 ti3 (by decide) (svR rfl) rfl (nle rfl) rfl) <|
      ils_cons rfl (faR 3 rfl rfl rfl Try.underlying23 rfl ti3 (lb rfl) rfl rfl) <|
      ils_cons rfl (iop_load_rs (d := .int _ _) rfl rfl (lb rfl) Try.underlying3 ag3 ti3 (by decide) (svR rfl) rfl (nle rfl) rfl) <|
      ils_cons rfl (iop_call (r := .float _ _) rfl rfl (lb rfl) cl53 (.cons (svI rfl) (.cons (svI rfl) .nil)) rfl (p_sennitref27_Rate _ _ _ hx30)) <|
      ils_cons rfl (iop_bsT (eFlt .f64) ([x30] : (List Nat)) 24 rfl rfl (lb rfl) Try.underlying60 ti65 rfl (.cons (sv (d := .float _ _) rfl) .nil) rfl rfl (by decide)) <|
      ils_cons rfl (iop_appT (eFlt .f64) 25 rfl rfl (lb rfl) Try.underlying60 ti65 rfl rfl rfl rfl (svg rfl) hx31) <|
      ils_cons rfl (iop_assign rfl rfl (lb rfl) (sv (d := .gsl _ _ _) rfl)) <|
      ils_nil ?_)
     refine blockQ_n ?_
     refine thenQ_n ?_
     obtain ⟨x32, hx32, h⟩ := bnd_e h
     refine iwp_region (ils_cons rfl (mvI rfl rfl rfl rfl) <|
      ils_cons rfl (iop_intx rfl rfl (lb rfl) (svI rfl) (sv (d := .int _ 1) rfl) rfl hx32) <|
      ils_cons rfl (asI rfl rfl rfl rfl) <|
      ils_nil ?_)
     refine thenQ_n ⟨(n0, x31, x32), (fun i => if i = 22 then 25 else i), ⟨(.sames rfl rfl), (.cons (.blk rfl rfl rfl) (.cons (.tail rfl) .nil)), nd_of [0, 25] rfl (by decide), (fun i hi => by first | rfl | (show (if _ then _ else _) = _; (repeat' split) <;> omega))⟩, ?_, ?_⟩
     exact h
     exact Nat.lt_succ_self _
   ·
    replace h := bif_f h hc24
    refine iwp_exit ?_
    refine thenQ_e ?_
    refine thenQ_e ?_
    refine blockQ_e ?_
    refine thenQ_n ?_
    refine iwp_reg (ils_cons rfl (iop_move rfl rfl (lb rfl) (sv (d := .gsl _ _ _) rfl)) <|
     ils_cons rfl (iop_assign rfl rfl (lb rfl) (sv (d := .gsl _ _ _) rfl)) <|
     ils_end ?_)
    refine iwp_ret ?_
    obtain rfl := Option.some.inj h
    refine ⟨.inr rfl, (.cons (svg_of rfl rfl) .nil)⟩

theorem p_sennitref27_nan (a0 : Nat) (r : Bool) (h : sennitref27_nan a0 = some r) : PureAt Try.prog 54 [.float .f64 a0] (.bool r) := by
 refine pure_of_iwp (rs := [.bool r]) Try.func54 rfl Try.ntmps54 (nle rfl) rfl fun O hO => ?_
 show IWP _ _ _ _ ⟨[(0, .float .f64 a0)], []⟩ _
 unfold sennitref27_nan at h
 refine iwp_reg (ils_cons rfl (iop_assign rfl rfl (lb rfl) (sv (d := .bool false) rfl)) <|
  ils_end ?_)
 obtain ⟨x1, hx1, h⟩ := bnd_e h
 refine iwp_reg (ils_cons rfl (iop_move rfl rfl (lb rfl) (sv (d := .float _ _) rfl)) <|
  ils_cons rfl (iop_move rfl rfl (lb rfl) (sv (d := .float _ _) rfl)) <|
  ils_cons rfl (iop_fcmpx rfl rfl (lb rfl) (sv (d := .float _ _) rfl) (sv (d := .float _ _) rfl) rfl hx1) <|
  ils_cons rfl (asB rfl rfl rfl rfl) <|
  ils_end ?_)
 refine iwp_ret ?_
 obtain rfl := Option.some.inj h
 refine ⟨.inr rfl, (.cons (sv rfl) .nil)⟩

theorem p_sennitref27_Compare (a0 : Nat) (a1 : Nat) (r : Int) (h : sennitref27_Compare a0 a1 = some r) : PureAt Try.prog 72 [.float .f64 a0, .float .f64 a1] (.int .i64 r) := by
 refine pure_of_iwp (rs := [.int .i64 r]) Try.func72 rfl Try.ntmps72 (nle rfl) rfl fun O hO => ?_
 show IWP _ _ _ _ ⟨[(0, .float .f64 a0), (1, .float .f64 a1)], []⟩ _
 unfold sennitref27_Compare at h
 refine iwp_reg (ils_cons rfl (iop_assign rfl rfl (lb rfl) (sv (d := .int _ 0) rfl)) <|
  ils_end ?_)
 refine iwp_seq ?_
 refine iwp_block ?_
 obtain ⟨x1, hx1, h⟩ := bno_e h
 obtain ⟨x2, hx2, h⟩ := bno_e h
 obtain ⟨x3, hx3, h⟩ := bnd_e h
 refine iwp_reg (ils_cons rfl (iop_move rfl rfl (lb rfl) (sv (d := .float _ _) rfl)) <|
  ils_cons rfl (iop_call (r := .bool _) rfl rfl (lb rfl) cl54 (.cons (sv (d := .float _ _) rfl) .nil) rfl (p_sennitref27_nan _ _ hx1)) <|
  ils_cons rfl (mvB rfl rfl rfl rfl) <|
  ils_guard rfl rfl (.one rfl) rfl (by decide) (fun hb => (iop_move rfl rfl (lb rfl) (sv (d := .float _ _) rfl))) <|
  ils_guard rfl rfl (.one rfl) rfl (by decide) (fun hb => (iop_call (r := .bool _) rfl rfl (lb rfl) cl54 (.cons (svc (d := .float _ _) rfl hb) .nil) rfl (p_sennitref27_nan _ _ (gd_t hx2 hb)))) <|
  ils_cons rfl (iop_andx rfl rfl (lb rfl) (svB rfl) rfl rfl hx3) <|
  ils_cons rfl (asB rfl rfl rfl rfl) <|
  ils_end ?_)
 refine iwp_cond (b := _) rfl (fun hc4 => ?_) (fun hc4 => ?_)
 ·
  replace h := bif_t h hc4
  refine iwp_reg (ils_cons rfl (iop_assign rfl rfl (lb rfl) (sv (d := .int _ 0) rfl)) <|
   ils_end ?_)
  refine iwp_ret ?_
  refine blockQ_r ?_
  refine thenQ_r ?_
  obtain rfl := Option.some.inj h
  refine ⟨.inr rfl, (.cons (sv rfl) .nil)⟩
 ·
  replace h := bif_f h hc4
  obtain ⟨x5, hx5, h⟩ := bno_e h
  obtain ⟨x6, hx6, h⟩ := bnd_e h
  obtain ⟨x7, hx7, h⟩ := bnd_e h
  refine iwp_reg (ils_cons rfl (iop_move rfl rfl (lb rfl) (sv (d := .float _ _) rfl)) <|
   ils_cons rfl (iop_call (r := .bool _) rfl rfl (lb rfl) cl54 (.cons (sv (d := .float _ _) rfl) .nil) rfl (p_sennitref27_nan _ _ hx5)) <|
   ils_cons rfl (mvB rfl rfl rfl rfl) <|
   ils_guard rfl rfl (.one rfl) rfl (by decide) (fun hb => (iop_move rfl rfl (lb rfl) (sv (d := .float _ _) rfl))) <|
   ils_guard rfl rfl (.one rfl) rfl (by decide) (fun hb => (iop_move rfl rfl (lb rfl) (sv (d := .float _ _) rfl))) <|
   ils_guard rfl rfl (.one rfl) rfl (by decide) (fun hb => (iop_fcmpx rfl rfl (lb rfl) (svc (d := .float _ _) rfl hb) (svc (d := .float _ _) rfl hb) rfl hx6)) <|
   ils_cons rfl (iop_orx rfl rfl (lb rfl) (svB rfl) rfl rfl hx7) <|
   ils_cons rfl (asB rfl rfl rfl rfl) <|
   ils_end ?_)
  refine iwp_cond (b := _) rfl (fun hc8 => ?_) (fun hc8 => ?_)
  ·
   replace h := bif_t h hc8
   refine iwp_reg (ils_cons rfl (iop_assign rfl rfl (lb rfl) (sv (d := .int _ (-1)) rfl)) <|
    ils_end ?_)
   refine iwp_ret ?_
   refine blockQ_r ?_
   refine thenQ_r ?_
   obtain rfl := Option.some.inj h
   refine ⟨.inr rfl, (.cons (sv rfl) .nil)⟩
  ·
   replace h := bif_f h hc8
   obtain ⟨x9, hx9, h⟩ := bno_e h
   obtain ⟨x10, hx10, h⟩ := bnd_e h
   obtain ⟨x11, hx11, h⟩ := bnd_e h
   refine iwp_reg (ils_cons rfl (iop_move rfl rfl (lb rfl) (sv (d := .float _ _) rfl)) <|
    ils_cons rfl (iop_call (r := .bool _) rfl rfl (lb rfl) cl54 (.cons (sv (d := .float _ _) rfl) .nil) rfl (p_sennitref27_nan _ _ hx9)) <|
    ils_cons rfl (mvB rfl rfl rfl rfl) <|
    ils_guard rfl rfl (.one rfl) rfl (by decide) (fun hb => (iop_move rfl rfl (lb rfl) (sv (d := .float _ _) rfl))) <|
    ils_guard rfl rfl (.one rfl) rfl (by decide) (fun hb => (iop_move rfl rfl (lb rfl) (sv (d := .float _ _) rfl))) <|
    ils_guard rfl rfl (.one rfl) rfl (by decide) (fun hb => (iop_fcmpx rfl rfl (lb rfl) (svc (d := .float _ _) rfl hb) (svc (d := .float _ _) rfl hb) rfl hx10)) <|
    ils_cons rfl (iop_orx rfl rfl (lb rfl) (svB rfl) rfl rfl hx11) <|
    ils_cons rfl (asB rfl rfl rfl rfl) <|
    ils_end ?_)
   refine iwp_cond (b := _) rfl (fun hc12 => ?_) (fun hc12 => ?_)
   ·
    replace h := bif_t h hc12
    refine iwp_reg (ils_cons rfl (iop_assign rfl rfl (lb rfl) (sv (d := .int _ 1) rfl)) <|
     ils_end ?_)
    refine iwp_ret ?_
    refine blockQ_r ?_
    refine thenQ_r ?_
    obtain rfl := Option.some.inj h
    refine ⟨.inr rfl, (.cons (sv rfl) .nil)⟩
   ·
    replace h := bif_f h hc12
    refine iwp_skip ?_
    refine blockQ_n ?_
    refine thenQ_n ?_
    refine iwp_reg (ils_cons rfl (iop_assign rfl rfl (lb rfl) (sv (d := .int _ 0) rfl)) <|
     ils_end ?_)
    refine iwp_ret ?_
    obtain rfl := Option.some.inj h
    refine ⟨.inr rfl, (.cons (sv rfl) .nil)⟩

theorem p_sennitref27_Best (a0 : (List Nat)) (r : Int) (h : sennitref27_Best a0 = some r) : PureAt Try.prog 59 [.slice false (a0.map (eFlt .f64).d)] (.int .i64 r) := by
 refine pure_of_iwp (rs := [.int .i64 r]) Try.func59 rfl Try.ntmps59 (nle rfl) rfl fun O hO => ?_
 show IWP _ _ _ _ ⟨[(0, .slice false (a0.map (eFlt .f64).d))], []⟩ _
 unfold sennitref27_Best at h
 refine iwp_reg (ils_cons rfl (iop_assign rfl rfl (lb rfl) (sv (d := .int _ 0) rfl)) <|
  ils_end ?_)
 refine iwp_reg (ils_cons rfl (iop_assign rfl rfl (lb rfl) (sv (d := .int _ (-1)) rfl)) <|
  ils_end ?_)
 refine iwp_seq ?_
 refine iwp_reg (ils_cons rfl (iop_assign rfl rfl (lb rfl) (sv (d := .int _ 0) rfl)) <|
  ils_end ?_)
 refine iwp_block ?_
 refine iwp_loopP (α := Nat × Int × Int) (fun z => ⟨[(0, .slice false (a0.map (eFlt .f64).d)), (3, .int .i64 z.2.1), (4, .int .i64 z.2.2)], []⟩) (fun z => sennitref27_Best_L0 a0 z.1 z.2.1 z.2.2 = some r) (fun z => z.1) (fuel, (-1), 0) (fun i => i) ⟨(.sames rfl rfl), .nil, nd_of [] rfl (by decide), fun _ _ => rfl⟩ ?_ ?_
 ·exact h
 ·
  rintro ⟨n0, v15, v16⟩ h
  cases n0 with
  | zero => exact absurd h (by unfold sennitref27_Best_L0; exact nofun)
  | succ n0 =>
   unfold sennitref27_Best_L0 at h
   refine iwp_seq ?_
   obtain ⟨x31, hx31, h⟩ := bnd_e h
   refine iwp_reg (ils_cons rfl (mvI rfl rfl rfl rfl) <|
    ils_cons rfl (mvL rfl rfl rfl rfl) <|
    ils_cons rfl (iop_lenT (eFlt .f64) (l := a0) rfl rfl (lb rfl) Try.underlying60 (svL rfl)) <|
    ils_cons rfl (iop_cmpx rfl rfl (lb rfl) (svI rfl) (svI rfl) rfl hx31) <|
    ils_end ?_)
   refine iwp_cond (b := _) rfl (fun hc32 => ?_) (fun hc32 => ?_)
   ·
    replace h := bif_t h hc32
    refine iwp_skip ?_
    refine thenQ_n ?_
    refine iwp_seq ?_
    refine iwp_block ?_
    obtain ⟨x33, hx33, h⟩ := bno_e h
    obtain ⟨x34, hx34, h⟩ := bno_e h
    obtain ⟨x35, hx35, h⟩ := bnd_e h
    obtain ⟨x36, hx36, h⟩ := bno_e h
    obtain ⟨x37, hx37, h⟩ := bno_e h
    obtain ⟨x38, hx38, h⟩ := bno_e h
    obtain ⟨x39, hx39, h⟩ := bnd_e h
    obtain ⟨x40, hx40, h⟩ := bnd_e h
    obtain ⟨x41, hx41, h⟩ := bnd_e h
    refine iwp_drw rfl [⟨[0], [], [(11, .slice false (a0.map (eFlt .f64).d))], []⟩,
     ⟨[4], [], [(12, .int .i64 v16)], []⟩,
     ⟨[11, 12], [], [(13, .fptr [.float .f64 x33])], []⟩,
     ⟨[13], [], [(14, .float .f64 x33)], []⟩,
     ⟨[14], [], [(15, .bool x34)], []⟩,
     ⟨[15], [], [(16, .bool (!x34))], []⟩,
     ⟨[16], [], [(17, .bool (!x34))], []⟩,
     ⟨[3, 17], [], [(18, .cnd ((!x34) == true) (.int .i64 v15))], []⟩,
     ⟨[17, 18], [], [(19, .cnd ((!x34) == true) (.bool x35))], []⟩,
     ⟨[17, 19], [], [(20, .cnd ((!x34) == true) (.bool x35))], []⟩,
     ⟨[0, 20], [], [(21, .cnd ((((!x34) == true) && (x35 == false))) (.slice false (a0.map (eFlt .f64).d)))], []⟩,
     ⟨[4, 20], [], [(22, .cnd ((((!x34) == true) && (x35 == false))) (.int .i64 v16))], []⟩,
     ⟨[20, 21, 22], [], [(23, .cnd ((((!x34) == true) && (x35 == false))) (.fptr [.float .f64 x36]))], []⟩,
     ⟨[20, 23], [], [(24, .cnd ((((!x34) == true) && (x35 == false))) (.float .f64 x36))], []⟩,
     ⟨[0, 20], [], [(25, .cnd ((((!x34) == true) && (x35 == false))) (.slice false (a0.map (eFlt .f64).d)))], []⟩,
     ⟨[3, 20], [], [(26, .cnd ((((!x34) == true) && (x35 == false))) (.int .i64 v15))], []⟩,
     ⟨[20, 25, 26], [], [(27, .cnd ((((!x34) == true) && (x35 == false))) (.fptr [.float .f64 x37]))], []⟩,
     ⟨[20, 27], [], [(28, .cnd ((((!x34) == true) && (x35 == false))) (.float .f64 x37))], []⟩,
     ⟨[20, 24, 28], [], [(29, .cnd ((((!x34) == true) && (x35 == false))) (.int .i64 x38))], []⟩,
     ⟨[20, 29], [], [(30, .cnd ((((!x34) == true) && (x35 == false))) (.bool x39))], []⟩,
     ⟨[17, 20, 30], [], [(31, .cnd ((!x34) == true) (.bool x40))], []⟩,
     ⟨[17, 31], [], [(32, .bool x41)], []⟩] rfl ?_ (by kernel_rfl) ?_
    ·refine .cons (lop rfl rfl fun S hA => (iop_move rfl rfl (lb rfl) (svaL hA rfl rfl))) ?_
     refine .cons (lop rfl rfl fun S hA => (iop_move rfl rfl (lb rfl) (svaI hA rfl rfl))) ?_
     refine .cons (lop rfl rfl fun S hA => (iop_idxT (eFlt .f64) (cs := [.float _ _]) rfl rfl (lb rfl) Try.underlying60 ti65 (svaL hA rfl rfl) (svaI hA rfl rfl) hx33 rfl rfl)) ?_
     refine .cons (lop rfl rfl fun S hA => (iop_load_fs rfl rfl (lb rfl) Try.underlying65 ag65 ti65 (by decide) (sv (d := .fptr [.float _ _]) (agr hA rfl rfl)) (nle rfl))) ?_
     refine .cons (lop rfl rfl fun S hA => (iop_call (r := .bool _) rfl rfl (lb rfl) cl54 (.cons (sv (d := .float _ _) (agr hA rfl rfl)) .nil) rfl (p_sennitref27_nan _ _ hx34))) ?_
     refine .cons (lop rfl rfl fun S hA => (iop_not rfl rfl (lb rfl) (svaB hA rfl rfl))) ?_
     refine .cons (lop rfl rfl fun S hA => (iop_move rfl rfl (lb rfl) (svaB hA rfl rfl))) ?_
     refine .cons (lopg rfl rfl rfl rfl (by decide) (fun S hA => grd1 hA rfl rfl) (fun S hA hb => (iop_move rfl rfl (lb rfl) (svaI hA rfl rfl)))) ?_
     refine .cons (lopg rfl rfl rfl rfl (by decide) (fun S hA => grd1 hA rfl rfl) (fun S hA hb => (iop_cmpx rfl rfl (lb rfl) (svc (d := .int _ _) (agr hA rfl rfl) hb) (sv (d := .int _ 0) rfl) rfl hx35))) ?_
     refine .cons (lopg rfl rfl rfl rfl (by decide) (fun S hA => grd1 hA rfl rfl) (fun S hA hb => (iop_move rfl rfl (lb rfl) (svc (d := .bool _) (agr hA rfl rfl) hb)))) ?_
     refine .cons (lopg rfl rfl rfl rfl (by decide) (fun S hA => grd2 hA rfl rfl) (fun S hA hb => (iop_move rfl rfl (lb rfl) (svaL hA rfl rfl)))) ?_
     refine .cons (lopg rfl rfl rfl rfl (by decide) (fun S hA => grd2 hA rfl rfl) (fun S hA hb => (iop_move rfl rfl (lb rfl) (svaI hA rfl rfl)))) ?_
     refine .cons (lopg rfl rfl rfl rfl (by decide) (fun S hA => grd2 hA rfl rfl) (fun S hA hb => (iop_idxT (eFlt .f64) (cs := [.float _ _]) rfl rfl (lb rfl) Try.underlying60 ti65 (svc (d := .slice _ _) (agr hA rfl rfl) hb) (svc (d := .int _ _) (agr hA rfl rfl) hb) (gd_t hx36 hb) rfl rfl))) ?_
     refine .cons (lopg rfl rfl rfl rfl (by decide) (fun S hA => grd2 hA rfl rfl) (fun S hA hb => (iop_load_fs rfl rfl (lb rfl) Try.underlying65 ag65 ti65 (by decide) (svc (d := .fptr [.float _ _]) (agr hA rfl rfl) hb) (nle rfl)))) ?_
     refine .cons (lopg rfl rfl rfl rfl (by decide) (fun S hA => grd2 hA rfl rfl) (fun S hA hb => (iop_move rfl rfl (lb rfl) (svaL hA rfl rfl)))) ?_
     refine .cons (lopg rfl rfl rfl rfl (by decide) (fun S hA => grd2 hA rfl rfl) (fun S hA hb => (iop_move rfl rfl (lb rfl) (svaI hA rfl rfl)))) ?_
     refine .cons (lopg rfl rfl rfl rfl (by decide) (fun S hA => grd2 hA rfl rfl) (fun S hA hb => (iop_idxT (eFlt .f64) (cs := [.float _ _]) rfl rfl (lb rfl) Try.underlying60 ti65 (svc (d := .slice _ _) (agr hA rfl rfl) hb) (svc (d := .int _ _) (agr hA rfl rfl) hb) (gd_t hx37 hb) rfl rfl))) ?_
     refine .cons (lopg rfl rfl rfl rfl (by decide) (fun S hA => grd2 hA rfl rfl) (fun S hA hb => (iop_load_fs rfl rfl (lb rfl) Try.underlying65 ag65 ti65 (by decide) (svc (d := .fptr [.float _ _]) (agr hA rfl rfl) hb) (nle rfl)))) ?_
     refine .cons (lopg rfl rfl rfl rfl (by decide) (fun S hA => grd2 hA rfl rfl) (fun S hA hb => (iop_call (r := .int _ _) rfl rfl (lb rfl) cl72 (.cons (svc (d := .float _ _) (agr hA rfl rfl) hb) (.cons (svc (d := .float _ _) (agr hA rfl rfl) hb) .nil)) rfl (p_sennitref27_Compare _ _ _ (gd_t hx38 hb))))) ?_
     refine .cons (lopg rfl rfl rfl rfl (by decide) (fun S hA => grd2 hA rfl rfl) (fun S hA hb => (iop_cmpx rfl rfl (lb rfl) (svc (d := .int _ _) (agr hA rfl rfl) hb) (sv (d := .int _ 0) rfl) rfl hx39))) ?_
     refine .cons (lopg rfl rfl rfl rfl (by decide) (fun S hA => grd1 hA rfl rfl) (fun S hA hb => (iop_or2x rfl rfl (lb rfl) hb (svc (d := .bool _) (agr hA rfl rfl) hb) rfl (agr hA rfl rfl) hx40))) ?_
     refine .cons (lop rfl rfl fun S hA => (iop_andx rfl rfl (lb rfl) (svaB hA rfl rfl) (agr hA rfl rfl) rfl hx41)) ?_
     exact .nil
    refine iwp_cond (b := _) rfl (fun hc42 => ?_) (fun hc42 => ?_)
    ·
     replace h := bif_t h hc42
     refine iwp_region (ils_cons rfl (mvI rfl rfl rfl rfl) <|
      ils_cons rfl (asI rfl rfl rfl rfl) <|
      ils_nil ?_)
     refine blockQ_n ?_
     refine thenQ_n ?_
     obtain ⟨x43, hx43, h⟩ := bnd_e h
     refine iwp_region (ils_cons rfl (mvI rfl rfl rfl rfl) <|
      ils_cons rfl (iop_intx rfl rfl (lb rfl) (svI rfl) (sv (d := .int _ 1) rfl) rfl hx43) <|
      ils_cons rfl (asI rfl rfl rfl rfl) <|
      ils_nil ?_)
     refine thenQ_n ⟨(n0, v16, x43), (fun i => i), ⟨(.sames rfl rfl), .nil, nd_of [] rfl (by decide), fun _ _ => rfl⟩, ?_, ?_⟩
     exact h
     exact Nat.lt_succ_self _
    ·
     replace h := bif_f h hc42
     refine iwp_skip ?_
     refine blockQ_n ?_
     refine thenQ_n ?_
     obtain ⟨x44, hx44, h⟩ := bnd_e h
     refine iwp_region (ils_cons rfl (mvI rfl rfl rfl rfl) <|
      ils_cons rfl (iop_intx rfl rfl (lb rfl) (svI rfl) (sv (d := .int _ 1) rfl) rfl hx44) <|
      ils_cons rfl (asI rfl rfl rfl rfl) <|
      ils_nil ?_)
     refine thenQ_n ⟨(n0, v15, x44), (fun i => i), ⟨(.sames rfl rfl), .nil, nd_of [] rfl (by decide), fun _ _ => rfl⟩, ?_, ?_⟩
     exact h
     exact Nat.lt_succ_self _
   ·
    replace h := bif_f h hc32
    refine iwp_exit ?_
    refine thenQ_e ?_
    refine thenQ_e ?_
    refine blockQ_e ?_
    refine thenQ_n ?_
    refine iwp_reg (ils_cons rfl (mvI rfl rfl rfl rfl) <|
     ils_cons rfl (asI rfl rfl rfl rfl) <|
     ils_end ?_)
    refine iwp_ret ?_
    obtain rfl := Option.some.inj h
    refine ⟨.inr rfl, (.cons (sv rfl) .nil)⟩

theorem p_sennitref28_Alive (a0 : T_paths_State) (r : (List Int)) (h : sennitref28_Alive a0 = some r) : PureAt Try.prog 31 [.agg (v0 a0)] (.slice false (r.map (eInt .i64).d)) := by
 refine pure_of_iwp (rs := [.slice false (r.map (eInt .i64).d)]) Try.func31 rfl Try.ntmps31 (nle rfl) rfl fun O hO => ?_
 show IWP _ _ _ _ ⟨[(0, .agg (v0 a0))], []⟩ _
 unfold sennitref28_Alive at h
 refine iwp_reg (ils_cons rfl (iop_box' (cs := q3) 0 rfl rfl (lb rfl) rfl (svA q3 rfl) rfl rfl) <|
  ils_cons rfl (iop_assign rfl rfl (lb rfl) (sv (d := .nils) rfl)) <|
  ils_end ?_)
 refine iwp_reg (ils_cons rfl (iop_assign rfl rfl (lb rfl) (sv (d := .nils) rfl)) <|
  ils_end ?_)
 refine iwp_seq ?_
 refine iwp_reg (ils_cons rfl (iop_assign rfl rfl (lb rfl) (sv (d := .int _ 0) rfl)) <|
  ils_end ?_)
 refine iwp_block ?_
 refine iwp_loopP (α := Nat × (List Int) × Int) (fun z => ⟨[(1, .ref 0 0), (3, .gsl 22 (eInt .i64).sz (z.2.1.map (eInt .i64).d)), (4, .int .i64 z.2.2)], [(0, .blk 27 (v0 a0)), (22, .tail 3 (eInt .i64).sz z.2.1.length)]⟩) (fun z => sennitref28_Alive_L0 a0 z.1 z.2.1 z.2.2 = some r) (fun z => z.1) (fuel, ([] : (List Int)), 0) (fun i => if i = 22 then 73 else i) ⟨(.s rfl rfl (.cons (.nils rfl) (.sames rfl rfl))), (.cons (.blk rfl rfl rfl) (.cons (.nils rfl) .nil)), nd_of [0, 73] rfl (by decide), (fun i hi => by first | rfl | (show (if _ then _ else _) = _; (repeat' split) <;> omega))⟩ ?_ ?_
 ·exact h
 ·
  rintro ⟨n0, v7, v8⟩ h
  cases n0 with
  | zero => exact absurd h (by unfold sennitref28_Alive_L0; exact nofun)
  | succ n0 =>
   unfold sennitref28_Alive_L0 at h
   refine iwp_seq ?_
   obtain ⟨x17, hx17, h⟩ := bnd_e h
   refine iwp_reg (ils_cons rfl (mvI rfl rfl rfl rfl) <|
    ils_cons rfl (iop_cmpx rfl rfl (lb rfl) (svI rfl) (sv (d := .int _ 4) rfl) rfl hx17) <|
    ils_end ?_)
   refine iwp_cond (b := _) rfl (fun hc18 => ?_) (fun hc18 => ?_)
   ·
    replace h := bif_t h hc18
    refine iwp_skip ?_
    refine thenQ_n ?_
    refine iwp_seq ?_
    refine iwp_block ?_
    obtain ⟨hk19, h⟩ := chk_e h
    obtain ⟨x20, hx20, h⟩ := bno_e h
    refine iwp_reg (ils_cons rfl (mvI rfl rfl rfl rfl) <|
     ils_cons rfl (faR 0 rfl rfl rfl Try.underlying27 rfl ti24 (lb rfl) rfl rfl) <|
     ils_cons rfl (iop_index_sel rfl rfl (lb rfl) Try.underlying24 ti23 (svR rfl) (svI rfl) hk19) <|
     ils_cons rfl (iop_field_sel rfl rfl (lb rfl) Try.underlying23 rfl ti4 (by decide) (svR rfl) (k' := 0) rfl) <|
     ils_cons rfl (iop_load_sel_s eBool (b := 0) (k := 0) (sz := 4) (d := .bool _) rfl rfl (lb rfl) Try.underlying4 ag4 ti4 (svR rfl) rfl hx20 ⟨rfl, ⟨rfl, ⟨rfl, ⟨rfl, trivial⟩⟩⟩⟩ rfl) <|
     ils_end ?_)
    refine iwp_cond (b := _) rfl (fun hc21 => ?_) (fun hc21 => ?_)
    ·
     replace h := bif_t h hc21
     obtain ⟨x22, hx22, h⟩ := bno_e h
     refine iwp_region (ils_cons rfl (iop_move rfl rfl (lb rfl) (sv (d := .gsl _ _ _) rfl)) <|
      ils_cons rfl (mvI rfl rfl rfl rfl) <|
      ils_cons rfl (iop_bsT (eInt .i64) ([v8] : (List Int)) 23 rfl rfl (lb rfl) Try.underlying41 ti3 rfl (.cons (svI rfl) .nil) rfl rfl (by decide)) <|
      ils_cons rfl (iop_appT (eInt .i64) 24 rfl rfl (lb rfl) Try.underlying41 ti3 rfl rfl rfl rfl (svg rfl) hx22) <|
      ils_cons rfl (iop_assign rfl rfl (lb rfl) (sv (d := .gsl _ _ _) rfl)) <|
      ils_nil ?_)
     refine blockQ_n ?_
     refine thenQ_n ?_
     obtain ⟨x23, hx23, h⟩ := bnd_e h
     refine iwp_region (ils_cons rfl (mvI rfl rfl rfl rfl) <|
      ils_cons rfl (iop_intx rfl rfl (lb rfl) (svI rfl) (sv (d := .int _ 1) rfl) rfl hx23) <|
      ils_cons rfl (asI rfl rfl rfl rfl) <|
      ils_nil ?_)
     refine thenQ_n ⟨(n0, x22, x23), (fun i => if i = 22 then 24 else i), ⟨(.sames rfl rfl), (.cons (.blk rfl rfl rfl) (.cons (.tail rfl) .nil)), nd_of [0, 24] rfl (by decide), (fun i hi => by first | rfl | (show (if _ then _ else _) = _; (repeat' split) <;> omega))⟩, ?_, ?_⟩
     exact h
     exact Nat.lt_succ_self _
    ·
     replace h := bif_f h hc21
     refine iwp_skip ?_
     refine blockQ_n ?_
     refine thenQ_n ?_
     obtain ⟨x24, hx24, h⟩ := bnd_e h
     refine iwp_region (ils_cons rfl (mvI rfl rfl rfl rfl) <|
      ils_cons rfl (iop_intx rfl rfl (lb rfl) (svI rfl) (sv (d := .int _ 1) rfl) rfl hx24) <|
      ils_cons rfl (asI rfl rfl rfl rfl) <|
      ils_nil ?_)
     refine thenQ_n ⟨(n0, v7, x24), (fun i => i), ⟨(.sames rfl rfl), (.cons (.blk rfl rfl rfl) (.cons (.tail rfl) .nil)), nd_of [0, 22] rfl (by decide), fun _ _ => rfl⟩, ?_, ?_⟩
     exact h
     exact Nat.lt_succ_self _
   ·
    replace h := bif_f h hc18
    refine iwp_exit ?_
    refine thenQ_e ?_
    refine thenQ_e ?_
    refine blockQ_e ?_
    refine thenQ_n ?_
    refine iwp_reg (ils_cons rfl (iop_move rfl rfl (lb rfl) (sv (d := .gsl _ _ _) rfl)) <|
     ils_cons rfl (iop_assign rfl rfl (lb rfl) (sv (d := .gsl _ _ _) rfl)) <|
     ils_end ?_)
    refine iwp_ret ?_
    obtain rfl := Option.some.inj h
    refine ⟨.inr rfl, (.cons (svg_of rfl rfl) .nil)⟩

theorem p_sennitref28_Best (a0 : T_paths_State) (r : Int) (h : sennitref28_Best a0 = some r) : PureAt Try.prog 33 [.agg (v0 a0)] (.int .i64 r) := by
 refine pure_of_iwp (rs := [.int .i64 r]) Try.func33 rfl Try.ntmps33 (nle rfl) rfl fun O hO => ?_
 show IWP _ _ _ _ ⟨[(0, .agg (v0 a0))], []⟩ _
 unfold sennitref28_Best at h
 refine iwp_reg (ils_cons rfl (iop_box' (cs := q3) 0 rfl rfl (lb rfl) rfl (svA q3 rfl) rfl rfl) <|
  ils_cons rfl (iop_assign rfl rfl (lb rfl) (sv (d := .int _ 0) rfl)) <|
  ils_end ?_)
 refine iwp_seq ?_
 obtain ⟨x1, hx1, h⟩ := bno_e h
 obtain ⟨x2, hx2, h⟩ := bnd_e h
 refine iwp_reg (ils_cons rfl (lra q3 la27 rfl rfl rfl rfl rfl (nle rfl) rfl) <|
  ils_cons rfl (iop_call (r := .int _ _) rfl rfl (lb rfl) cl29 (.cons (svA q3 rfl) .nil) rfl (p_sennitref28_Check _ _ hx1)) <|
  ils_cons rfl (iop_cmpx rfl rfl (lb rfl) (svI rfl) (sv (d := .int _ 0) rfl) rfl hx2) <|
  ils_end ?_)
 refine iwp_cond (b := _) rfl (fun hc3 => ?_) (fun hc3 => ?_)
 ·
  replace h := bif_t h hc3
  refine iwp_reg (ils_cons rfl (iop_assign rfl rfl (lb rfl) (sv (d := .int _ (-1)) rfl)) <|
   ils_end ?_)
  refine iwp_ret ?_
  refine thenQ_r ?_
  obtain rfl := Option.some.inj h
  refine ⟨.inr rfl, (.cons (sv rfl) .nil)⟩
 ·
  replace h := bif_f h hc3
  refine iwp_skip ?_
  refine thenQ_n ?_
  obtain ⟨x4, hx4, h⟩ := bno_e h
  obtain ⟨x5, hx5, h⟩ := bno_e h
  refine iwp_reg (ils_cons rfl (lra q3 la27 rfl rfl rfl rfl rfl (nle rfl) rfl) <|
   ils_cons rfl (iop_call (r := .slice _ _) rfl rfl (lb rfl) cl26 (.cons (svA q3 rfl) .nil) rfl (p_sennitref28_Rates _ _ hx4)) <|
   ils_cons rfl (iop_call (r := .int _ _) rfl rfl (lb rfl) cl59 (.cons (svL rfl) .nil) rfl (p_sennitref27_Best _ _ hx5)) <|
   ils_cons rfl (asI rfl rfl rfl rfl) <|
   ils_end ?_)
  obtain ⟨x6, hx6, h⟩ := bno_e h
  refine iwp_reg (ils_cons rfl (lra q3 la27 rfl rfl rfl rfl rfl (nle rfl) rfl) <|
   ils_cons rfl (iop_call (r := .slice _ _) rfl rfl (lb rfl) cl31 (.cons (svA q3 rfl) .nil) rfl (p_sennitref28_Alive _ _ hx6)) <|
   ils_cons rfl (iop_assign rfl rfl (lb rfl) (svL rfl)) <|
   ils_end ?_)
  refine iwp_seq ?_
  obtain ⟨x7, hx7, h⟩ := bnd_e h
  obtain ⟨x8, hx8, h⟩ := bnd_e h
  obtain ⟨x9, hx9, h⟩ := bnd_e h
  refine iwp_reg (ils_cons rfl (mvI rfl rfl rfl rfl) <|
   ils_cons rfl (iop_cmpx rfl rfl (lb rfl) (svI rfl) (sv (d := .int _ 0) rfl) rfl hx7) <|
   ils_cons rfl (mvB rfl rfl rfl rfl) <|
   ils_guard rfl rfl (.one rfl) rfl (by decide) (fun hb => (mvL rfl rfl rfl rfl)) <|
   ils_guard rfl rfl (.one rfl) rfl (by decide) (fun hb => (iop_lenT (eInt .i64) (l := x6) rfl rfl (lb rfl) Try.underlying41 (svcL rfl hb))) <|
   ils_guard rfl rfl (.one rfl) rfl (by decide) (fun hb => (iop_cmpx rfl rfl (lb rfl) (svcI rfl hb) (sv (d := .int _ 0) rfl) rfl hx8)) <|
   ils_cons rfl (iop_andx rfl rfl (lb rfl) (svB rfl) rfl rfl hx9) <|
   ils_end ?_)
  refine iwp_cond (b := _) rfl (fun hc10 => ?_) (fun hc10 => ?_)
  ·
   replace h := bif_t h hc10
   obtain ⟨x11, hx11, h⟩ := bno_e h
   refine iwp_reg (ils_cons rfl (mvL rfl rfl rfl rfl) <|
    ils_cons rfl (iop_idxT (eInt .i64) (cs := [.int _ _]) rfl rfl (lb rfl) Try.underlying41 ti3 (svL rfl) (sv (d := .int _ 0) rfl) hx11 rfl rfl) <|
    ils_cons rfl (iop_load_fs rfl rfl (lb rfl) Try.underlying3 ag3 ti3 (by decide) (sv (d := .fptr [.int _ _]) rfl) (nle rfl)) <|
    ils_cons rfl (asI rfl rfl rfl rfl) <|
    ils_end ?_)
   refine iwp_ret ?_
   refine thenQ_r ?_
   obtain rfl := Option.some.inj h
   refine ⟨.inr rfl, (.cons (sv rfl) .nil)⟩
  ·
   replace h := bif_f h hc10
   refine iwp_skip ?_
   refine thenQ_n ?_
   refine iwp_reg (ils_cons rfl (mvI rfl rfl rfl rfl) <|
    ils_cons rfl (asI rfl rfl rfl rfl) <|
    ils_end ?_)
   refine iwp_ret ?_
   obtain rfl := Option.some.inj h
   refine ⟨.inr rfl, (.cons (sv rfl) .nil)⟩

theorem p_sennitref28_Choose (a0 : T_paths_State) (a1 : Int) (r : (T_paths_State × Int)) (h : sennitref28_Choose a0 a1 = some r) : PureAt Try.prog 15 [.agg (v0 a0), .int .i64 a1] (retD [.agg (v0 r.1), .int .i64 r.2]) := by
 refine pure_of_iwp (rs := [.agg (v0 r.1), .int .i64 r.2]) Try.func15 rfl Try.ntmps15 (nle rfl) rfl fun O hO => ?_
 show IWP _ _ _ _ ⟨[(0, .agg (v0 a0)), (1, .int .i64 a1)], []⟩ _
 unfold sennitref28_Choose at h
 refine iwp_reg (ils_cons rfl (iop_box' (cs := q3) 0 rfl rfl (lb rfl) rfl (svA q3 rfl) rfl rfl) <|
  ils_cons rfl (iop_allocS (cs := q5) (cs' := (w13 false false 0 0 false false 0 0 false false 0 0 false false 0 0 0 ([] : List T_paths_Bind))) 1 rfl rfl (lb rfl) rfl ti27 rfl rfl (.k4 (.k (.k4 (.k (.k4 (.k (.k (.k (.cons (.nils _) .nil)))))))))) <|
  ils_cons rfl (iop_assign rfl rfl (lb rfl) (sv (d := .int _ 0) rfl)) <|
  ils_end ?_)
 refine iwp_seq ?_
 obtain ⟨x1, hx1, h⟩ := bno_e h
 obtain ⟨x2, hx2, h⟩ := bnd_e h
 obtain ⟨x3, hx3, h⟩ := bno_e h
 obtain ⟨x4, hx4, h⟩ := bnd_e h
 refine iwp_reg (ils_cons rfl (lra q3 la27 rfl rfl rfl rfl rfl (nle rfl) rfl) <|
  ils_cons rfl (iop_call (r := .int _ _) rfl rfl (lb rfl) cl29 (.cons (svA q3 rfl) .nil) rfl (p_sennitref28_Check _ _ hx1)) <|
  ils_cons rfl (iop_cmpx rfl rfl (lb rfl) (svI rfl) (sv (d := .int _ 0) rfl) rfl hx2) <|
  ils_cons rfl (mvB rfl rfl rfl rfl) <|
  ils_guard rfl rfl (.one rfl) rfl (by decide) (fun hb => (mvI rfl rfl rfl rfl)) <|
  ils_guard rfl rfl (.one rfl) rfl (by decide) (fun hb => (iop_call (r := .bool _) rfl rfl (lb rfl) cl42 (.cons (svcI rfl hb) (.cons (sv (d := .int _ 1) rfl) (.cons (sv (d := .int _ 1048576) rfl) .nil))) rfl (p_sennitref28_in _ _ _ _ (gd_t hx3 hb)))) <|
  ils_guard rfl rfl (.one rfl) rfl (by decide) (fun hb => (iop_not rfl rfl (lb rfl) (svcB rfl hb))) <|
  ils_cons rfl (iop_orx rfl rfl (lb rfl) (svB rfl) rfl rfl hx4) <|
  ils_end ?_)
 refine iwp_cond (b := _) rfl (fun hc5 => ?_) (fun hc5 => ?_)
 ·
  replace h := bif_t h hc5
  refine iwp_reg (ils_cons rfl (lra q3 la27 rfl rfl rfl rfl rfl (nle rfl) rfl) <|
   ils_cons rfl (stA q3 q3 ti27 rfl rfl rfl rfl rfl rfl rfl rfl (nle rfl) rfl) <|
   ils_cons rfl (iop_assign rfl rfl (lb rfl) (sv (d := .int _ (-1)) rfl)) <|
   ils_end ?_)
  refine iwp_ret ?_
  refine thenQ_r ?_
  obtain rfl := Option.some.inj h
  refine ⟨.inr rfl, (.cons (rva la27 rfl rfl (nle rfl) rfl) (.cons (sv rfl) .nil))⟩
 ·
  replace h := bif_f h hc5
  refine iwp_skip ?_
  refine thenQ_n ?_
  obtain ⟨x6, hx6, h⟩ := bno_e h
  refine iwp_reg (ils_cons rfl (lra q3 la27 rfl rfl rfl rfl rfl (nle rfl) rfl) <|
   ils_cons rfl (mvI rfl rfl rfl rfl) <|
   ils_cons rfl (iop_call (r := .int _ _) rfl rfl (lb rfl) cl50 (.cons (svA q3 rfl) (.cons (svI rfl) .nil)) rfl (p_sennitref28_bound _ _ _ hx6)) <|
   ils_cons rfl (asI rfl rfl rfl rfl) <|
   ils_end ?_)
  refine iwp_seq ?_
  obtain ⟨x7, hx7, h⟩ := bnd_e h
  refine iwp_reg (ils_cons rfl (mvI rfl rfl rfl rfl) <|
   ils_cons rfl (iop_cmpx rfl rfl (lb rfl) (svI rfl) (sv (d := .int _ 0) rfl) rfl hx7) <|
   ils_end ?_)
  refine iwp_cond (b := _) rfl (fun hc8 => ?_) (fun hc8 => ?_)
  ·
   replace h := bif_t h hc8
   refine iwp_reg (ils_cons rfl (lra q3 la27 rfl rfl rfl rfl rfl (nle rfl) rfl) <|
    ils_cons rfl (mvI rfl rfl rfl rfl) <|
    ils_cons rfl (stA q3 q3 ti27 rfl rfl rfl rfl rfl rfl rfl rfl (nle rfl) rfl) <|
    ils_cons rfl (asI rfl rfl rfl rfl) <|
    ils_end ?_)
   refine iwp_ret ?_
   refine thenQ_r ?_
   obtain rfl := Option.some.inj h
   refine ⟨.inr rfl, (.cons (rva la27 rfl rfl (nle rfl) rfl) (.cons (sv rfl) .nil))⟩
  ·
   replace h := bif_f h hc8
   refine iwp_skip ?_
   refine thenQ_n ?_
   obtain ⟨x9, hx9, h⟩ := bno_e h
   refine iwp_reg (ils_cons rfl (lra q3 la27 rfl rfl rfl rfl rfl (nle rfl) rfl) <|
    ils_cons rfl (iop_call (r := .int _ _) rfl rfl (lb rfl) cl33 (.cons (svA q3 rfl) .nil) rfl (p_sennitref28_Best _ _ hx9)) <|
    ils_cons rfl (asI rfl rfl rfl rfl) <|
    ils_end ?_)
   refine iwp_seq ?_
   obtain ⟨x10, hx10, h⟩ := bnd_e h
   obtain ⟨x11, hx11, h⟩ := bnd_e h
   obtain ⟨x12, hx12, h⟩ := bnd_e h
   refine iwp_reg (ils_cons rfl (mvI rfl rfl rfl rfl) <|
    ils_cons rfl (iop_cmpx rfl rfl (lb rfl) (svI rfl) (sv (d := .int _ 0) rfl) rfl hx10) <|
    ils_cons rfl (mvB rfl rfl rfl rfl) <|
    ils_guard rfl rfl (.one rfl) rfl (by decide) (fun hb => (faR 17 rfl rfl rfl Try.underlying27 rfl ti25 (lb rfl) rfl rfl)) <|
    ils_guard rfl rfl (.one rfl) rfl (by decide) (fun hb => (iop_load_rs (d := .slice _ _) rfl rfl (lb rfl) Try.underlying25 ag25 ti25 (by decide) (svcR rfl hb) rfl (nle rfl) rfl)) <|
    ils_guard rfl rfl (.one rfl) rfl (by decide) (fun hb => (iop_lenT E_paths_Bind (l := a0.Binds) rfl rfl (lb rfl) Try.underlying25 (svcL rfl hb))) <|
    ils_guard rfl rfl (.one rfl) rfl (by decide) (fun hb => (iop_cmpx rfl rfl (lb rfl) (svcI rfl hb) (sv (d := .int _ 32) rfl) rfl hx11)) <|
    ils_cons rfl (iop_orx rfl rfl (lb rfl) (svB rfl) rfl rfl hx12) <|
    ils_end ?_)
   refine iwp_cond (b := _) rfl (fun hc13 => ?_) (fun hc13 => ?_)
   ·
    replace h := bif_t h hc13
    refine iwp_reg (ils_cons rfl (lra q3 la27 rfl rfl rfl rfl rfl (nle rfl) rfl) <|
     ils_cons rfl (mvI rfl rfl rfl rfl) <|
     ils_cons rfl (stA q3 q3 ti27 rfl rfl rfl rfl rfl rfl rfl rfl (nle rfl) rfl) <|
     ils_cons rfl (asI rfl rfl rfl rfl) <|
     ils_end ?_)
    refine iwp_ret ?_
    refine thenQ_r ?_
    obtain rfl := Option.some.inj h
    refine ⟨.inr rfl, (.cons (rva la27 rfl rfl (nle rfl) rfl) (.cons (sv rfl) .nil))⟩
   ·
    replace h := bif_f h hc13
    refine iwp_skip ?_
    refine thenQ_n ?_
    refine iwp_reg (ils_cons rfl (iop_assign rfl rfl (lb rfl) (sv (d := .int _ 0) rfl)) <|
     ils_end ?_)
    refine iwp_seq ?_
    refine iwp_block ?_
    refine iwp_loopP (α := Nat × Int) (fun z => ⟨[(1, .int .i64 a1), (2, .ref 0 0), (4, .ref 1 0), (7, .int .i64 x9), (8, .int .i64 z.2)], [(0, .blk 27 (v0 a0)), (1, .blk 27 (w13 false false 0 0 false false 0 0 false false 0 0 false false 0 0 0 ([] : List T_paths_Bind)))]⟩) (fun z => sennitref28_Choose_L0 a0 a1 x9 z.1 z.2 = some r) (fun z => z.1) (fuel, 0) (fun i => i) ⟨(.sames rfl rfl), (.cons (.blk rfl rfl rfl) (.cons (.blk rfl rfl rfl) .nil)), nd_of [0, 1] rfl (by decide), fun _ _ => rfl⟩ ?_ ?_
    ·exact h
    ·
     rintro ⟨n0, v20⟩ h
     cases n0 with
     | zero => exact absurd h (by unfold sennitref28_Choose_L0; exact nofun)
     | succ n0 =>
      unfold sennitref28_Choose_L0 at h
      refine iwp_seq ?_
      obtain ⟨x27, hx27, h⟩ := bnd_e h
      obtain ⟨x28, hx28, h⟩ := bno_e h
      obtain ⟨x29, hx29, h⟩ := bnd_e h
      obtain ⟨x30, hx30, h⟩ := bnd_e h
      refine iwp_reg (ils_cons rfl (mvI rfl rfl rfl rfl) <|
       ils_cons rfl (faR 17 rfl rfl rfl Try.underlying27 rfl ti25 (lb rfl) rfl rfl) <|
       ils_cons rfl (lrL la25 rfl rfl rfl rfl rfl (nle rfl) rfl) <|
       ils_cons rfl (iop_lenT E_paths_Bind (l := a0.Binds) rfl rfl (lb rfl) Try.underlying25 (svL rfl)) <|
       ils_cons rfl (iop_cmpx rfl rfl (lb rfl) (svI rfl) (svI rfl) rfl hx27) <|
       ils_cons rfl (mvB rfl rfl rfl rfl) <|
       ils_guard rfl rfl (.one rfl) rfl (by decide) (fun hb => (faR 17 rfl rfl rfl Try.underlying27 rfl ti25 (lb rfl) rfl rfl)) <|
       ils_guard rfl rfl (.one rfl) rfl (by decide) (fun hb => (iop_load_rs (d := .slice _ _) rfl rfl (lb rfl) Try.underlying25 ag25 ti25 (by decide) (svcR rfl hb) rfl (nle rfl) rfl)) <|
       ils_guard rfl rfl (.one rfl) rfl (by decide) (fun hb => (mvI rfl rfl rfl rfl)) <|
       ils_guard rfl rfl (.one rfl) rfl (by decide) (fun hb => (iop_idxT E_paths_Bind (cs := q8) rfl rfl (lb rfl) Try.underlying25 ti87 (svcL rfl hb) (svcI rfl hb) (gd_t hx28 hb) rfl rfl)) <|
       ils_guard rfl rfl (.one rfl) rfl (by decide) (fun hb => (iop_fieldAddr_fptr (cs' := [.int _ _]) rfl rfl (lb rfl) Try.underlying87 rfl ti3 (by decide) (svc (d := .fptr q8) rfl hb) rfl)) <|
       ils_guard rfl rfl (.one rfl) rfl (by decide) (fun hb => (iop_load_fs rfl rfl (lb rfl) Try.underlying3 ag3 ti3 (by decide) (svc (d := .fptr [.int _ _]) rfl hb) (nle rfl))) <|
       ils_guard rfl rfl (.one rfl) rfl (by decide) (fun hb => (mvI rfl rfl rfl rfl)) <|
       ils_guard rfl rfl (.one rfl) rfl (by decide) (fun hb => (iop_cmpx rfl rfl (lb rfl) (svcI rfl hb) (svcI rfl hb) rfl hx29)) <|
       ils_cons rfl (iop_andx rfl rfl (lb rfl) (svB rfl) rfl rfl hx30) <|
       ils_end ?_)
      refine iwp_cond (b := _) rfl (fun hc31 => ?_) (fun hc31 => ?_)
      ·
       replace h := bif_t h hc31
       refine iwp_skip ?_
       refine thenQ_n ?_
       refine iwp_block ?_
       obtain ⟨x32, hx32, h⟩ := bnd_e h
       refine iwp_region (ils_cons rfl (mvI rfl rfl rfl rfl) <|
        ils_cons rfl (iop_intx rfl rfl (lb rfl) (svI rfl) (sv (d := .int _ 1) rfl) rfl hx32) <|
        ils_cons rfl (asI rfl rfl rfl rfl) <|
        ils_nil ?_)
       refine blockQ_n ?_
       refine thenQ_n ⟨(n0, x32), (fun i => i), ⟨(.sames rfl rfl), (.cons (.blk rfl rfl rfl) (.cons (.blk rfl rfl rfl) .nil)), nd_of [0, 1] rfl (by decide), fun _ _ => rfl⟩, ?_, ?_⟩
       exact h
       exact Nat.lt_succ_self _
      ·
       replace h := bif_f h hc31
       refine iwp_exit ?_
       refine thenQ_e ?_
       refine thenQ_e ?_
       refine blockQ_e ?_
       refine thenQ_n ?_
       refine iwp_reg (ils_cons rfl (iop_assign rfl rfl (lb rfl) (sv (d := .nils) rfl)) <|
        ils_end ?_)
       obtain ⟨x33, hx33, h⟩ := bno_e h
       obtain ⟨x34, hx34, h⟩ := bno_e h
       obtain ⟨x35, hx35, h⟩ := bno_e h
       obtain ⟨x36, hx36, h⟩ := bno_e h
       obtain ⟨x37, hx37, h⟩ := bno_e h
       refine iwp_drw rfl [⟨[9], [], [(55, .nils)], []⟩,
        ⟨[2], [], [(56, .ref 0 17)], []⟩,
        ⟨[56], [0], [(57, .slice false (a0.Binds.map E_paths_Bind.d))], []⟩,
        ⟨[8], [], [(58, .int .i64 v20)], []⟩,
        ⟨[57, 58], [], [(59, .slice false (x33.map E_paths_Bind.d))], []⟩,
        ⟨[55, 59], [2], [(60, .gsl 2 E_paths_Bind.sz (x34.map E_paths_Bind.d))], [(2, .tail 87 E_paths_Bind.sz x34.length)]⟩,
        ⟨[1], [], [(61, .int .i64 a1)], []⟩,
        ⟨[7], [], [(62, .int .i64 x9)], []⟩,
        ⟨[61, 62], [], [(63, .agg [.int .i64 a1, .int .i64 x9])], []⟩,
        ⟨[63], [3], [(64, .gsl 3 E_paths_Bind.sz ((([(⟨a1, x9⟩ : T_paths_Bind)] : (List T_paths_Bind))).map E_paths_Bind.d))], [(3, .tail 87 E_paths_Bind.sz (([(⟨a1, x9⟩ : T_paths_Bind)] : (List T_paths_Bind))).length)]⟩,
        ⟨[60, 64], [2, 4], [(65, .gsl 4 E_paths_Bind.sz (x35.map E_paths_Bind.d))], [(4, .tail 87 E_paths_Bind.sz x35.length), (2, .none)]⟩,
        ⟨[2], [], [(66, .ref 0 17)], []⟩,
        ⟨[66], [0], [(67, .slice false (a0.Binds.map E_paths_Bind.d))], []⟩,
        ⟨[8], [], [(68, .int .i64 v20)], []⟩,
        ⟨[67, 68], [], [(69, .slice false (x36.map E_paths_Bind.d))], []⟩,
        ⟨[65, 69], [4, 5], [(70, .gsl 5 E_paths_Bind.sz (x37.map E_paths_Bind.d))], [(5, .tail 87 E_paths_Bind.sz x37.length), (4, .none)]⟩,
        ⟨[2], [], [(71, .ref 0 17)], []⟩,
        ⟨[70, 71], [0], [], [(0, .blk 27 (w13 a0.Lines.c0.Up a0.Lines.c0.Dead a0.Lines.c0.Bytes a0.Lines.c0.Ticks a0.Lines.c1.Up a0.Lines.c1.Dead a0.Lines.c1.Bytes a0.Lines.c1.Ticks a0.Lines.c2.Up a0.Lines.c2.Dead a0.Lines.c2.Bytes a0.Lines.c2.Ticks a0.Lines.c3.Up a0.Lines.c3.Dead a0.Lines.c3.Bytes a0.Lines.c3.Ticks a0.Pinned x37))]⟩] rfl ?_ (by kernel_rfl) ?_
       ·refine .cons (lop rfl rfl fun S hA => (iop_move rfl rfl (lb rfl) (sv (d := .nils) (agr hA rfl rfl)))) ?_
        refine .cons (lop rfl rfl fun S hA => (iop_fieldAddr_ref rfl rfl (lb rfl) Try.underlying27 rfl ti25 (by decide) (svaR hA rfl rfl) (off' := 17) rfl)) ?_
        refine .cons (lop rfl rfl fun S hA => (iop_load_rs (d := .slice _ _) rfl rfl (lb rfl) Try.underlying25 ag25 ti25 (by decide) (svaR hA rfl rfl) (agi hA rfl rfl) (nle rfl) rfl)) ?_
        refine .cons (lop rfl rfl fun S hA => (iop_move rfl rfl (lb rfl) (svaI hA rfl rfl))) ?_
        refine .cons (lop rfl rfl fun S hA => (iop_cutT E_paths_Bind rfl rfl (lb rfl) Try.underlying25 ti87 (svaL hA rfl rfl) rfl ⟨_, (svaI hA rfl rfl)⟩ hx33)) ?_
        refine .cons (lop rfl rfl fun S hA => (iop_appTn E_paths_Bind (ys := x33) 2 rfl rfl (lb rfl) Try.underlying25 ti87 rfl (agr hA rfl rfl) (agi hA rfl rfl) (svaL hA rfl rfl) hx34)) ?_
        refine .cons (lop rfl rfl fun S hA => (iop_move rfl rfl (lb rfl) (svaI hA rfl rfl))) ?_
        refine .cons (lop rfl rfl fun S hA => (iop_move rfl rfl (lb rfl) (svaI hA rfl rfl))) ?_
        refine .cons (lop rfl rfl fun S hA => (iop_build_struct (cs := q8) rfl rfl (lb rfl) Try.underlying87 ti87 pl87 rfl (.cons (svaI hA rfl rfl) (.cons (svaI hA rfl rfl) .nil)) rfl)) ?_
        refine .cons (lop rfl rfl fun S hA => (iop_bsT E_paths_Bind ([(⟨a1, x9⟩ : T_paths_Bind)] : (List T_paths_Bind)) 3 rfl rfl (lb rfl) Try.underlying25 ti87 (agi hA rfl rfl) (.cons (svaA q8 hA rfl rfl) .nil) rfl rfl (by decide))) ?_
        refine .cons (lop rfl rfl fun S hA => (iop_appT E_paths_Bind 4 rfl rfl (lb rfl) Try.underlying25 ti87 rfl (agr hA rfl rfl) (agi hA rfl rfl) (agi hA rfl rfl) (svg (agr hA rfl rfl)) hx35)) ?_
        refine .cons (lop rfl rfl fun S hA => (iop_fieldAddr_ref rfl rfl (lb rfl) Try.underlying27 rfl ti25 (by decide) (svaR hA rfl rfl) (off' := 17) rfl)) ?_
        refine .cons (lop rfl rfl fun S hA => (iop_load_rs (d := .slice _ _) rfl rfl (lb rfl) Try.underlying25 ag25 ti25 (by decide) (svaR hA rfl rfl) (agi hA rfl rfl) (nle rfl) rfl)) ?_
        refine .cons (lop rfl rfl fun S hA => (iop_move rfl rfl (lb rfl) (svaI hA rfl rfl))) ?_
        refine .cons (lop rfl rfl fun S hA => (iop_cutT E_paths_Bind rfl rfl (lb rfl) Try.underlying25 ti87 (svaL hA rfl rfl) ⟨_, (svaI hA rfl rfl)⟩ rfl hx36)) ?_
        refine .cons (lop rfl rfl fun S hA => (iop_appT E_paths_Bind 5 rfl rfl (lb rfl) Try.underlying25 ti87 rfl (agr hA rfl rfl) (agi hA rfl rfl) (agi hA rfl rfl) (svaL hA rfl rfl) hx37)) ?_
        refine .cons (lop rfl rfl fun S hA => (iop_fieldAddr_ref rfl rfl (lb rfl) Try.underlying27 rfl ti25 (by decide) (svaR hA rfl rfl) (off' := 17) rfl)) ?_
        refine .cons (lop rfl rfl fun S hA => (iop_store (ds' := q3) rfl rfl ti25 (svaR hA rfl rfl) (agi hA rfl rfl) (svg (agr hA rfl rfl)) rfl rfl rfl (nle rfl) rfl)) ?_
        exact .nil
       refine iwp_reg (ils_cons rfl (lra q3 la27 rfl rfl rfl rfl rfl (nle rfl) rfl) <|
        ils_cons rfl (mvI rfl rfl rfl rfl) <|
        ils_cons rfl (stA q3 q3 ti27 rfl rfl rfl rfl rfl rfl rfl rfl (nle rfl) rfl) <|
        ils_cons rfl (asI rfl rfl rfl rfl) <|
        ils_end ?_)
       refine iwp_ret ?_
       obtain rfl := Option.some.inj h
       refine ⟨.inr rfl, (.cons (rva la27 rfl rfl (nle rfl) rfl) (.cons (sv rfl) .nil))⟩

theorem p_sennitref28_Pin (a0 : T_paths_State) (r : (T_paths_State × Int)) (h : sennitref28_Pin a0 = some r) : PureAt Try.prog 17 [.agg (v0 a0)] (retD [.agg (v0 r.1), .int .i64 r.2]) := by
 refine pure_of_iwp (rs := [.agg (v0 r.1), .int .i64 r.2]) Try.func17 rfl Try.ntmps17 (nle rfl) rfl fun O hO => ?_
 show IWP _ _ _ _ ⟨[(0, .agg (v0 a0))], []⟩ _
 unfold sennitref28_Pin at h
 refine iwp_reg (ils_cons rfl (iop_box' (cs := q3) 0 rfl rfl (lb rfl) rfl (svA q3 rfl) rfl rfl) <|
  ils_cons rfl (iop_allocS (cs := q5) (cs' := (w13 false false 0 0 false false 0 0 false false 0 0 false false 0 0 0 ([] : List T_paths_Bind))) 1 rfl rfl (lb rfl) rfl ti27 rfl rfl (.k4 (.k (.k4 (.k (.k4 (.k (.k (.k (.cons (.nils _) .nil)))))))))) <|
  ils_cons rfl (iop_assign rfl rfl (lb rfl) (sv (d := .int _ 0) rfl)) <|
  ils_end ?_)
 refine iwp_seq ?_
 obtain ⟨x1, hx1, h⟩ := bno_e h
 obtain ⟨x2, hx2, h⟩ := bnd_e h
 refine iwp_reg (ils_cons rfl (lra q3 la27 rfl rfl rfl rfl rfl (nle rfl) rfl) <|
  ils_cons rfl (iop_call (r := .int _ _) rfl rfl (lb rfl) cl29 (.cons (svA q3 rfl) .nil) rfl (p_sennitref28_Check _ _ hx1)) <|
  ils_cons rfl (iop_cmpx rfl rfl (lb rfl) (svI rfl) (sv (d := .int _ 0) rfl) rfl hx2) <|
  ils_end ?_)
 refine iwp_cond (b := _) rfl (fun hc3 => ?_) (fun hc3 => ?_)
 ·
  replace h := bif_t h hc3
  refine iwp_reg (ils_cons rfl (lra q3 la27 rfl rfl rfl rfl rfl (nle rfl) rfl) <|
   ils_cons rfl (stA q3 q3 ti27 rfl rfl rfl rfl rfl rfl rfl rfl (nle rfl) rfl) <|
   ils_cons rfl (iop_assign rfl rfl (lb rfl) (sv (d := .int _ (-1)) rfl)) <|
   ils_end ?_)
  refine iwp_ret ?_
  refine thenQ_r ?_
  obtain rfl := Option.some.inj h
  refine ⟨.inr rfl, (.cons (rva la27 rfl rfl (nle rfl) rfl) (.cons (sv rfl) .nil))⟩
 ·
  replace h := bif_f h hc3
  refine iwp_skip ?_
  refine thenQ_n ?_
  refine iwp_join (α := Int) (fun z => ⟨[(1, .ref 0 0), (2, .ref 1 0)], [(0, .blk 27 (w13 a0.Lines.c0.Up a0.Lines.c0.Dead a0.Lines.c0.Bytes a0.Lines.c0.Ticks a0.Lines.c1.Up a0.Lines.c1.Dead a0.Lines.c1.Bytes a0.Lines.c1.Ticks a0.Lines.c2.Up a0.Lines.c2.Dead a0.Lines.c2.Bytes a0.Lines.c2.Ticks a0.Lines.c3.Up a0.Lines.c3.Dead a0.Lines.c3.Bytes a0.Lines.c3.Ticks z a0.Binds)), (1, .blk 27 (w13 false false 0 0 false false 0 0 false false 0 0 false false 0 0 0 ([] : List T_paths_Bind)))]⟩) (fun z => sennitref28_Pin_J0 a0 z = some r) ?_ ?_
  ·
   obtain ⟨x8, hx8, h⟩ := bnd_e h
   refine iwp_reg (ils_cons rfl (faR 16 rfl rfl rfl Try.underlying27 rfl ti3 (lb rfl) rfl rfl) <|
    ils_cons rfl (iop_load_rs (d := .int _ _) rfl rfl (lb rfl) Try.underlying3 ag3 ti3 (by decide) (svR rfl) rfl (nle rfl) rfl) <|
    ils_cons rfl (iop_cmpx rfl rfl (lb rfl) (svI rfl) (sv (d := .int _ 0) rfl) rfl hx8) <|
    ils_end ?_)
   refine iwp_cond (b := _) rfl (fun hc9 => ?_) (fun hc9 => ?_)
   ·
    replace h := bif_t h hc9
    obtain ⟨x10, hx10, h⟩ := bno_e h
    refine iwp_region (ils_cons rfl (lra q3 la27 rfl rfl rfl rfl rfl (nle rfl) rfl) <|
     ils_cons rfl (iop_call (r := .int _ _) rfl rfl (lb rfl) cl33 (.cons (svA q3 rfl) .nil) rfl (p_sennitref28_Best _ _ hx10)) <|
     ils_cons rfl (faR 16 rfl rfl rfl Try.underlying27 rfl ti3 (lb rfl) rfl rfl) <|
     ils_cons rfl (iop_store (ds' := q3) rfl rfl ti3 (svR rfl) rfl (svI rfl) rfl rfl rfl (nle rfl) rfl) <|
     ils_nil ?_)
    refine thenQ_n ⟨x10, (fun i => i), ⟨(.sames rfl rfl), (.cons (.blk rfl rfl rfl) (.cons (.blk rfl rfl rfl) .nil)), nd_of [0, 1] rfl (by decide), fun _ _ => rfl⟩, ?_⟩
    exact h
   ·
    replace h := bif_f h hc9
    refine iwp_skip ?_
    refine thenQ_n ⟨a0.Pinned, (fun i => i), ⟨(.sames rfl rfl), (.cons (.blk rfl rfl rfl) (.cons (.blk rfl rfl rfl) .nil)), nd_of [0, 1] rfl (by decide), fun _ _ => rfl⟩, ?_⟩
    exact h
  ·
   rintro v7 h
   unfold sennitref28_Pin_J0 at h
   refine iwp_drw rfl [⟨[1], [0], [(14, .agg (w13 a0.Lines.c0.Up a0.Lines.c0.Dead a0.Lines.c0.Bytes a0.Lines.c0.Ticks a0.Lines.c1.Up a0.Lines.c1.Dead a0.Lines.c1.Bytes a0.Lines.c1.Ticks a0.Lines.c2.Up a0.Lines.c2.Dead a0.Lines.c2.Bytes a0.Lines.c2.Ticks a0.Lines.c3.Up a0.Lines.c3.Dead a0.Lines.c3.Bytes a0.Lines.c3.Ticks v7 a0.Binds))], []⟩,
    ⟨[1], [], [(15, .ref 0 16)], []⟩,
    ⟨[15], [0], [(16, .int .i64 v7)], []⟩,
    ⟨[2, 14], [1], [], [(1, .blk 27 (w13 a0.Lines.c0.Up a0.Lines.c0.Dead a0.Lines.c0.Bytes a0.Lines.c0.Ticks a0.Lines.c1.Up a0.Lines.c1.Dead a0.Lines.c1.Bytes a0.Lines.c1.Ticks a0.Lines.c2.Up a0.Lines.c2.Dead a0.Lines.c2.Bytes a0.Lines.c2.Ticks a0.Lines.c3.Up a0.Lines.c3.Dead a0.Lines.c3.Bytes a0.Lines.c3.Ticks v7 a0.Binds))]⟩,
    ⟨[16], [], [(3, .int .i64 v7)], []⟩] rfl ?_ (by kernel_rfl) ?_
   ·refine .cons (lop rfl rfl fun S hA => (iop_load_ra (cs := q3) rfl rfl (lb rfl) Try.underlying27 ag27 ti27 (by decide) (svaR hA rfl rfl) (agi hA rfl rfl) (nle rfl) rfl)) ?_
    refine .cons (lop rfl rfl fun S hA => (iop_fieldAddr_ref rfl rfl (lb rfl) Try.underlying27 rfl ti3 (by decide) (svaR hA rfl rfl) (off' := 16) rfl)) ?_
    refine .cons (lop rfl rfl fun S hA => (iop_load_rs (d := .int _ _) rfl rfl (lb rfl) Try.underlying3 ag3 ti3 (by decide) (svaR hA rfl rfl) (agi hA rfl rfl) (nle rfl) rfl)) ?_
    refine .cons (lop rfl rfl fun S hA => (iop_store (ds' := q3) rfl rfl ti27 (svaR hA rfl rfl) (agi hA rfl rfl) (svaA q3 hA rfl rfl) rfl rfl rfl (nle rfl) rfl)) ?_
    refine .cons (lop rfl rfl fun S hA => (iop_assign rfl rfl (lb rfl) (svaI hA rfl rfl))) ?_
    exact .nil
   refine iwp_ret ?_
   obtain rfl := Option.some.inj h
   refine ⟨.inr rfl, (.cons (rva la27 rfl rfl (nle rfl) rfl) (.cons (sv rfl) .nil))⟩

theorem p_sennitlaw28_Back (a0 : T_paths_State) (r : T_paths_State) (h : sennitlaw28_Back a0 = some r) : PureAt Try.prog 19 [.agg (v0 a0)] (.agg (v0 r)) := by
 refine pure_of_iwpF (rs := [.agg (v0 r)]) Try.func19 rfl Try.ntmps19 (nle rfl) rfl fun O hO => ?_
 show IWP _ _ _ _ ⟨[(0, .agg (v0 a0))], []⟩ _
 unfold sennitlaw28_Back at h
 refine iwp_reg (ils_cons rfl (iop_box' (cs := q3) 0 rfl rfl (lb rfl) rfl (svA q3 rfl) rfl rfl) <|
  ils_cons rfl (iop_allocS (cs := q5) (cs' := [.bool false, .bool false, .int .i64 0, .int .i64 0, .bool false, .bool false, .int .i64 0, .int .i64 0, .bool false, .bool false, .int .i64 0, .int .i64 0, .bool false, .bool false, .int .i64 0, .int .i64 0, .int .i64 0, .nils]) 1 rfl rfl (lb rfl) rfl ti27 rfl rfl (.all _)) <|
  ils_end ?_)
 refine iwp_reg (ils_cons rfl (faR 16 rfl rfl rfl Try.underlying35 rfl ti3 (lb rfl) rfl rfl) <|
  ils_cons rfl (iop_load_rs (d := .int _ _) rfl rfl (lb rfl) Try.underlying3 ag3 ti3 (by decide) (svR rfl) rfl (nle rfl) rfl) <|
  ils_cons rfl (iop_build_struct (cs := q5) rfl rfl (lb rfl) Try.underlying27 ti27 pl27 rfl (.cons (svI rfl) .nil) rfl) <|
  ils_cons rfl (iop_allocS (cs := q5) (cs' := [.bool false, .bool false, .int .i64 0, .int .i64 0, .bool false, .bool false, .int .i64 0, .int .i64 0, .bool false, .bool false, .int .i64 0, .int .i64 0, .bool false, .bool false, .int .i64 0, .int .i64 0, .int .i64 0, .nils]) 2 rfl rfl (lb rfl) rfl ti27 rfl rfl (.all _)) <|
  ils_cons rfl (stA q5 q5 ti27 rfl rfl rfl rfl rfl rfl rfl rfl (nle rfl) rfl) <|
  ils_end ?_)
 refine iwp_seq ?_
 refine iwp_reg (ils_cons rfl (iop_assign rfl rfl (lb rfl) (sv (d := .int _ 0) rfl)) <|
  ils_end ?_)
 refine iwp_block ?_
 refine iwp_loopP (α := Nat × Int × Bool × Bool × Int × Int × Bool × Bool × Int × Int × Bool × Bool × Int × Int × Bool × Bool × Int × Int) (fun z => ⟨[(1, .ref 0 0), (2, .ref 1 0), (3, .ref 2 0), (4, .int .i64 z.2.1)], [(0, .blk 35 (v0 a0)), (1, .blk 27 [.bool false, .bool false, .int .i64 0, .int .i64 0, .bool false, .bool false, .int .i64 0, .int .i64 0, .bool false, .bool false, .int .i64 0, .int .i64 0, .bool false, .bool false, .int .i64 0, .int .i64 0, .int .i64 0, .nils]), (2, .blk 27 [.bool z.2.2.1, .bool z.2.2.2.1, .int .i64 z.2.2.2.2.1, .int .i64 z.2.2.2.2.2.1, .bool z.2.2.2.2.2.2.1, .bool z.2.2.2.2.2.2.2.1, .int .i64 z.2.2.2.2.2.2.2.2.1, .int .i64 z.2.2.2.2.2.2.2.2.2.1, .bool z.2.2.2.2.2.2.2.2.2.2.1, .bool z.2.2.2.2.2.2.2.2.2.2.2.1, .int .i64 z.2.2.2.2.2.2.2.2.2.2.2.2.1, .int .i64 z.2.2.2.2.2.2.2.2.2.2.2.2.2.1, .bool z.2.2.2.2.2.2.2.2.2.2.2.2.2.2.1, .bool z.2.2.2.2.2.2.2.2.2.2.2.2.2.2.2.1, .int .i64 z.2.2.2.2.2.2.2.2.2.2.2.2.2.2.2.2.1, .int .i64 z.2.2.2.2.2.2.2.2.2.2.2.2.2.2.2.2.2, .int .i64 a0.Pinned, .nils])]⟩) (fun z => sennitlaw28_Back_L0 a0 z.1 z.2.1 z.2.2.1 z.2.2.2.1 z.2.2.2.2.1 z.2.2.2.2.2.1 z.2.2.2.2.2.2.1 z.2.2.2.2.2.2.2.1 z.2.2.2.2.2.2.2.2.1 z.2.2.2.2.2.2.2.2.2.1 z.2.2.2.2.2.2.2.2.2.2.1 z.2.2.2.2.2.2.2.2.2.2.2.1 z.2.2.2.2.2.2.2.2.2.2.2.2.1 z.2.2.2.2.2.2.2.2.2.2.2.2.2.1 z.2.2.2.2.2.2.2.2.2.2.2.2.2.2.1 z.2.2.2.2.2.2.2.2.2.2.2.2.2.2.2.1 z.2.2.2.2.2.2.2.2.2.2.2.2.2.2.2.2.1 z.2.2.2.2.2.2.2.2.2.2.2.2.2.2.2.2.2 = some r) (fun z => z.1) (fuel, 0, false, false, 0, 0, false, false, 0, 0, false, false, 0, 0, false, false, 0, 0) (fun i => i) ⟨(.sames rfl rfl), (.cons (.blk rfl rfl rfl) (.cons (.blk rfl rfl rfl) (.cons (.blk rfl rfl rfl) .nil))), nd_of [0, 1, 2] rfl (by decide), fun _ _ => rfl⟩ ?_ ?_
 ·exact h
 ·
  rintro ⟨n0, v4, v5, v6, v7, v8, v19, v20, v21, v22, v23, v24, v25, v26, v27, v28, v29, v30⟩ h
  cases n0 with
  | zero => exact absurd h (by unfold sennitlaw28_Back_L0; exact nofun)
  | succ n0 =>
   unfold sennitlaw28_Back_L0 at h
   refine iwp_seq ?_
   obtain ⟨x41, hx41, h⟩ := bnd_e h
   refine iwp_reg (ils_cons rfl (mvI rfl rfl rfl rfl) <|
    ils_cons rfl (iop_cmpx rfl rfl (lb rfl) (svI rfl) (sv (d := .int _ 4) rfl) rfl hx41) <|
    ils_end ?_)
   refine iwp_cond (b := _) rfl (fun hc42 => ?_) (fun hc42 => ?_)
   ·
    replace h := bif_t h hc42
    refine iwp_skip ?_
    refine thenQ_n ?_
    refine iwp_seq ?_
    refine iwp_block ?_
    obtain ⟨hk43, h⟩ := chk_e h
    obtain ⟨x44, hx44, h⟩ := bno_e h
    obtain ⟨hk45, h⟩ := chk_e h
    obtain ⟨x46, hx46, h⟩ := bnd_e h
    obtain ⟨x47, hx47, h⟩ := bnd_e h
    obtain ⟨x48, hx48, h⟩ := bnd_e h
    obtain ⟨x49, hx49, h⟩ := bnd_e h
    refine iwp_region (ils_cons rfl (mvI rfl rfl rfl rfl) <|
     ils_cons rfl (mvI rfl rfl rfl rfl) <|
     ils_cons rfl (faR 0 rfl rfl rfl Try.underlying35 rfl ti32 (lb rfl) rfl rfl) <|
     ils_cons rfl (iop_index_sel rfl rfl (lb rfl) Try.underlying32 ti31 (svR rfl) (svI rfl) hk43) <|
     ils_cons rfl (iop_load_sel_a E_paths_Line (b := 0) (k := 0) (sz := 4) (ds := q7) rfl rfl (lb rfl) Try.underlying31 ag31 ti31 (by decide) (svR rfl) rfl hx44 ⟨rfl, ⟨rfl, ⟨rfl, ⟨rfl, trivial⟩⟩⟩⟩ rfl rfl) <|
     ils_cons rfl (faR 0 rfl rfl rfl Try.underlying27 rfl ti24 (lb rfl) rfl rfl) <|
     ils_cons rfl (iop_index_sel rfl rfl (lb rfl) Try.underlying24 ti23 (svR rfl) (svI rfl) hk45) <|
     ils_cons rfl (iop_store_sel (b := 0) (k := 0) (sz := 4) (cs' := [.bool x46.Up, .bool x46.Dead, .int .i64 x46.Bytes, .int .i64 x46.Ticks, .bool x47.Up, .bool x47.Dead, .int .i64 x47.Bytes, .int .i64 x47.Ticks, .bool x48.Up, .bool x48.Dead, .int .i64 x48.Bytes, .int .i64 x48.Ticks, .bool x49.Up, .bool x49.Dead, .int .i64 x49.Bytes, .int .i64 x49.Ticks, .int .i64 a0.Pinned, .nils]) rfl rfl ti23 (svR rfl) rfl (svA q7 rfl) rfl rfl rfl hk45 rfl ⟨⟨⟨⟨trivial, fun h => by rw [← hx46, ← hx47, ← hx48, ← hx49, h]; rfl⟩, fun h => by rw [← hx46, ← hx47, ← hx48, ← hx49, h]; rfl⟩, fun h => by rw [← hx46, ← hx47, ← hx48, ← hx49, h]; rfl⟩, fun h => by rw [← hx46, ← hx47, ← hx48, ← hx49, h]; rfl⟩) <|
     ils_nil ?_)
    refine blockQ_n ?_
    refine thenQ_n ?_
    obtain ⟨x50, hx50, h⟩ := bnd_e h
    refine iwp_region (ils_cons rfl (mvI rfl rfl rfl rfl) <|
     ils_cons rfl (iop_intx rfl rfl (lb rfl) (svI rfl) (sv (d := .int _ 1) rfl) rfl hx50) <|
     ils_cons rfl (asI rfl rfl rfl rfl) <|
     ils_nil ?_)
    refine thenQ_n ⟨(n0, x50, x46.Up, x46.Dead, x46.Bytes, x46.Ticks, x47.Up, x47.Dead, x47.Bytes, x47.Ticks, x48.Up, x48.Dead, x48.Bytes, x48.Ticks, x49.Up, x49.Dead, x49.Bytes, x49.Ticks), (fun i => i), ⟨(.sames rfl rfl), (.cons (.blk rfl rfl rfl) (.cons (.blk rfl rfl rfl) (.cons (.blk rfl rfl rfl) .nil))), nd_of [0, 1, 2] rfl (by decide), fun _ _ => rfl⟩, ?_, ?_⟩
    exact h
    exact Nat.lt_succ_self _
   ·
    replace h := bif_f h hc42
    refine iwp_exit ?_
    refine thenQ_e ?_
    refine thenQ_e ?_
    refine blockQ_e ?_
    refine thenQ_n ?_
    refine iwp_seq ?_
    refine iwp_reg (ils_cons rfl (iop_assign rfl rfl (lb rfl) (sv (d := .int _ 0) rfl)) <|
     ils_end ?_)
    refine iwp_block ?_
    refine iwp_loopP (α := Nat × Int × (List T_paths_Bind)) (fun z => ⟨[(1, .ref 0 0), (2, .ref 1 0), (3, .ref 2 0), (5, .int .i64 z.2.1)], [(0, .blk 35 (v0 a0)), (1, .blk 27 [.bool false, .bool false, .int .i64 0, .int .i64 0, .bool false, .bool false, .int .i64 0, .int .i64 0, .bool false, .bool false, .int .i64 0, .int .i64 0, .bool false, .bool false, .int .i64 0, .int .i64 0, .int .i64 0, .nils]), (2, .blk 27 (w14 v5 v6 v7 v8 v19 v20 v21 v22 v23 v24 v25 v26 v27 v28 v29 v30 a0.Pinned (.osl 24 E_paths_Bind.sz z.2.2.length))), (24, .blk 87 (D.flat (z.2.2.map E_paths_Bind.d)))]⟩) (fun z => sennitlaw28_Back_L1 a0 v5 v6 v7 v8 v19 v20 v21 v22 v23 v24 v25 v26 v27 v28 v29 v30 z.1 z.2.1 z.2.2 = some r) (fun z => z.1) (fuel, 0, ([] : (List T_paths_Bind))) (fun i => if i = 24 then 77 else i) ⟨(.sames rfl rfl), (.cons (.blk rfl rfl rfl) (.cons (.blk rfl rfl rfl) (.cons (.sub rfl (.same (.same (.same (.same (.same (.same (.same (.same (.same (.same (.same (.same (.same (.same (.same (.same (.same (.nilo .nil)))))))))))))))))) rfl) (.cons (.nilb rfl) .nil)))), nd_of [0, 1, 2, 77] rfl (by decide), (fun i hi => by first | rfl | (show (if _ then _ else _) = _; (repeat' split) <;> omega))⟩ ?_ ?_
    ·exact h
    ·
     rintro ⟨n1, v56, v57⟩ h
     cases n1 with
     | zero => exact absurd h (by unfold sennitlaw28_Back_L1; exact nofun)
     | succ n1 =>
      unfold sennitlaw28_Back_L1 at h
      refine iwp_seq ?_
      obtain ⟨x63, hx63, h⟩ := bnd_e h
      refine iwp_reg (ils_cons rfl (mvI rfl rfl rfl rfl) <|
       ils_cons rfl (faR 17 rfl rfl rfl Try.underlying35 rfl ti33 (lb rfl) rfl rfl) <|
       ils_cons rfl (lrL la33 rfl rfl rfl rfl rfl (nle rfl) rfl) <|
       ils_cons rfl (iop_lenT E_paths_Bind (l := a0.Binds) rfl rfl (lb rfl) Try.underlying33 (svL rfl)) <|
       ils_cons rfl (iop_cmpx rfl rfl (lb rfl) (svI rfl) (svI rfl) rfl hx63) <|
       ils_end ?_)
      refine iwp_cond (b := _) rfl (fun hc64 => ?_) (fun hc64 => ?_)
      ·
       replace h := bif_t h hc64
       refine iwp_skip ?_
       refine thenQ_n ?_
       refine iwp_seq ?_
       refine iwp_block ?_
       obtain ⟨x65, hx65, h⟩ := bno_e h
       obtain ⟨x66, hx66, h⟩ := bno_e h
       refine iwp_draw rfl [⟨[3], [], [(27, .ref 2 17)], []⟩,
        ⟨[27], [2], [(28, .osl 24 E_paths_Bind.sz v57.length)], []⟩,
        ⟨[1], [], [(29, .ref 0 17)], []⟩,
        ⟨[29], [0], [(30, .slice false (a0.Binds.map E_paths_Bind.d))], []⟩,
        ⟨[5], [], [(31, .int .i64 v56)], []⟩,
        ⟨[30, 31], [], [(32, .fptr [.int .i64 x65.Stream, .int .i64 x65.Path])], []⟩,
        ⟨[32], [], [(33, .agg [.int .i64 x65.Stream, .int .i64 x65.Path])], []⟩,
        ⟨[33], [25], [(34, .osl 25 E_paths_Bind.sz (([x65] : (List T_paths_Bind)).length))], [(25, .blk 87 (D.flat (([x65] : (List T_paths_Bind)).map E_paths_Bind.d)))]⟩,
        ⟨[28, 34], [24, 25, 26], [(35, .osl 26 E_paths_Bind.sz x66.length)], [(26, .blk 87 (D.flat (x66.map E_paths_Bind.d))), (24, .none)]⟩,
        ⟨[3], [], [(36, .ref 2 17)], []⟩,
        ⟨[35, 36], [2], [], [(2, .blk 27 (w14 v5 v6 v7 v8 v19 v20 v21 v22 v23 v24 v25 v26 v27 v28 v29 v30 a0.Pinned (.osl 26 E_paths_Bind.sz x66.length)))]⟩] rfl ?_ (by kernel_rfl) ?_
       ·refine .cons (lop rfl rfl fun S hA => (iop_fieldAddr_ref rfl rfl (lb rfl) Try.underlying27 rfl ti25 (by decide) (svaR hA rfl rfl) (off' := 17) rfl)) ?_
        refine .cons (lop rfl rfl fun S hA => (iop_load_rs (d := .osl _ _ _) rfl rfl (lb rfl) Try.underlying25 ag25 ti25 (by decide) (svaR hA rfl rfl) (agi hA rfl rfl) (nle rfl) rfl)) ?_
        refine .cons (lop rfl rfl fun S hA => (iop_fieldAddr_ref rfl rfl (lb rfl) Try.underlying35 rfl ti33 (by decide) (svaR hA rfl rfl) (off' := 17) rfl)) ?_
        refine .cons (lop rfl rfl fun S hA => (iop_load_rs (d := .slice _ _) rfl rfl (lb rfl) Try.underlying33 ag33 ti33 (by decide) (svaR hA rfl rfl) (agi hA rfl rfl) (nle rfl) rfl)) ?_
        refine .cons (lop rfl rfl fun S hA => (iop_move rfl rfl (lb rfl) (svaI hA rfl rfl))) ?_
        refine .cons (lop rfl rfl fun S hA => (iop_idxT E_paths_Bind (cs := q8) rfl rfl (lb rfl) Try.underlying33 ti86 (svaL hA rfl rfl) (svaI hA rfl rfl) hx65 rfl rfl)) ?_
        refine .cons (lop rfl rfl fun S hA => (iop_load_fa (cs := q8) rfl rfl (lb rfl) Try.underlying86 ag86 ti86 (by decide) (sv (d := .fptr q8) (agr hA rfl rfl)) (nle rfl) rfl)) ?_
        refine .cons (lop rfl rfl fun S hA => (iop_bsO E_paths_Bind.toEnc0 ([x65] : (List T_paths_Bind)) 25 rfl rfl (lb rfl) Try.underlying25 ti87 (agi hA rfl rfl) (.cons (svaA q8 hA rfl rfl) .nil) rfl rfl (by decide))) ?_
        refine .cons (lop rfl rfl fun S hA => (iop_appO E_paths_Bind.toEnc0 26 rfl rfl (lb rfl) Try.underlying25 ti87 rfl (agr hA rfl rfl) rfl (agi hA rfl rfl) (agi hA rfl rfl) (src_O E_paths_Bind.toEnc0 (agr hA rfl rfl) rfl (agi hA rfl rfl)) hx66)) ?_
        refine .cons (lop rfl rfl fun S hA => (iop_fieldAddr_ref rfl rfl (lb rfl) Try.underlying27 rfl ti25 (by decide) (svaR hA rfl rfl) (off' := 17) rfl)) ?_
        refine .cons (lop rfl rfl fun S hA => (iop_store (ds' := q4) rfl rfl ti25 (svaR hA rfl rfl) (agi hA rfl rfl) (sv (d := .osl _ _ _) (agr hA rfl rfl)) rfl rfl rfl (nle rfl) rfl)) ?_
        exact .nil
       refine blockQ_n ?_
       refine thenQ_n ?_
       obtain ⟨x67, hx67, h⟩ := bnd_e h
       refine iwp_region (ils_cons rfl (mvI rfl rfl rfl rfl) <|
        ils_cons rfl (iop_intx rfl rfl (lb rfl) (svI rfl) (sv (d := .int _ 1) rfl) rfl hx67) <|
        ils_cons rfl (asI rfl rfl rfl rfl) <|
        ils_nil ?_)
       refine thenQ_n ⟨(n1, x67, x66), (fun i => if i = 24 then 26 else i), ⟨(.sames rfl rfl), (.cons (.blk rfl rfl rfl) (.cons (.blk rfl rfl rfl) (.cons (.blk rfl rfl rfl) (.cons (EntW.lst rfl) .nil)))), nd_of [0, 1, 2, 26] rfl (by decide), (fun i hi => by first | rfl | (show (if _ then _ else _) = _; (repeat' split) <;> omega))⟩, ?_, ?_⟩
       exact h
       exact Nat.lt_succ_self _
      ·
       replace h := bif_f h hc64
       refine iwp_exit ?_
       refine thenQ_e ?_
       refine thenQ_e ?_
       refine blockQ_e ?_
       refine thenQ_n ?_
       refine iwp_reg (ils_cons rfl (lra q4 la27 rfl rfl rfl rfl rfl (nle rfl) rfl) <|
        ils_cons rfl (stA q4 q4 ti27 rfl rfl rfl rfl rfl rfl rfl rfl (nle rfl) rfl) <|
        ils_end ?_)
       refine iwp_ret ?_
       obtain rfl := Option.some.inj h
       refine ⟨.inr rfl, _, (.cons (rva la27 rfl rfl (nle rfl) rfl) .nil), (.cons (.agg (.k4 (.k (.k4 (.k (.k4 (.k (.k (.k (.cons (FDT E_paths_Bind rfl rfl) .nil)))))))))) .nil)⟩

theorem p_sennitref28_Same (a0 : T_paths_State) (a1 : T_paths_State) (r : Bool) (h : sennitref28_Same a0 a1 = some r) : PureAt Try.prog 18 [.agg (v0 a0), .agg (v0 a1)] (.bool r) := by
 refine pure_of_iwp (rs := [.bool r]) Try.func18 rfl Try.ntmps18 (nle rfl) rfl fun O hO => ?_
 show IWP _ _ _ _ ⟨[(0, .agg (v0 a0)), (1, .agg (v0 a1))], []⟩ _
 unfold sennitref28_Same at h
 refine iwp_reg (ils_cons rfl (iop_box' (cs := q3) 0 rfl rfl (lb rfl) rfl (svA q3 rfl) rfl rfl) <|
  ils_cons rfl (iop_box' (cs := q3) 1 rfl rfl (lb rfl) rfl (svA q3 rfl) rfl rfl) <|
  ils_cons rfl (iop_assign rfl rfl (lb rfl) (sv (d := .bool false) rfl)) <|
  ils_end ?_)
 refine iwp_seq ?_
 obtain ⟨x1, hx1, h⟩ := bnd_e h
 refine iwp_reg (ils_cons rfl (faR 17 rfl rfl rfl Try.underlying27 rfl ti25 (lb rfl) rfl rfl) <|
  ils_cons rfl (lrL la25 rfl rfl rfl rfl rfl (nle rfl) rfl) <|
  ils_cons rfl (iop_lenT E_paths_Bind (l := a0.Binds) rfl rfl (lb rfl) Try.underlying25 (svL rfl)) <|
  ils_cons rfl (faR 17 rfl rfl rfl Try.underlying27 rfl ti25 (lb rfl) rfl rfl) <|
  ils_cons rfl (lrL la25 rfl rfl rfl rfl rfl (nle rfl) rfl) <|
  ils_cons rfl (iop_lenT E_paths_Bind (l := a1.Binds) rfl rfl (lb rfl) Try.underlying25 (svL rfl)) <|
  ils_cons rfl (iop_cmpx rfl rfl (lb rfl) (svI rfl) (svI rfl) rfl hx1) <|
  ils_end ?_)
 refine iwp_cond (b := _) rfl (fun hc2 => ?_) (fun hc2 => ?_)
 ·
  replace h := bif_t h hc2
  refine iwp_reg (ils_cons rfl (iop_assign rfl rfl (lb rfl) (sv (d := .bool false) rfl)) <|
   ils_end ?_)
  refine iwp_ret ?_
  refine thenQ_r ?_
  obtain rfl := Option.some.inj h
  refine ⟨.inr rfl, (.cons (sv rfl) .nil)⟩
 ·
  replace h := bif_f h hc2
  refine iwp_skip ?_
  refine thenQ_n ?_
  refine iwp_seq ?_
  refine iwp_reg (ils_cons rfl (iop_assign rfl rfl (lb rfl) (sv (d := .int _ 0) rfl)) <|
   ils_end ?_)
  refine iwp_block ?_
  refine iwp_loopP (α := Nat × Int) (fun z => ⟨[(2, .ref 0 0), (3, .ref 1 0), (5, .int .i64 z.2)], [(0, .blk 27 (v0 a0)), (1, .blk 27 (v0 a1))]⟩) (fun z => sennitref28_Same_L0 a0 a1 z.1 z.2 = some r) (fun z => z.1) (fuel, 0) (fun i => i) ⟨(.sames rfl rfl), (.cons (.blk rfl rfl rfl) (.cons (.blk rfl rfl rfl) .nil)), nd_of [0, 1] rfl (by decide), fun _ _ => rfl⟩ ?_ ?_
  ·exact h
  ·
   rintro ⟨n0, v10⟩ h
   cases n0 with
   | zero => exact absurd h (by unfold sennitref28_Same_L0; exact nofun)
   | succ n0 =>
    unfold sennitref28_Same_L0 at h
    refine iwp_seq ?_
    obtain ⟨x18, hx18, h⟩ := bnd_e h
    refine iwp_reg (ils_cons rfl (mvI rfl rfl rfl rfl) <|
     ils_cons rfl (faR 17 rfl rfl rfl Try.underlying27 rfl ti25 (lb rfl) rfl rfl) <|
     ils_cons rfl (lrL la25 rfl rfl rfl rfl rfl (nle rfl) rfl) <|
     ils_cons rfl (iop_lenT E_paths_Bind (l := a0.Binds) rfl rfl (lb rfl) Try.underlying25 (svL rfl)) <|
     ils_cons rfl (iop_cmpx rfl rfl (lb rfl) (svI rfl) (svI rfl) rfl hx18) <|
     ils_end ?_)
    refine iwp_cond (b := _) rfl (fun hc19 => ?_) (fun hc19 => ?_)
    ·
     replace h := bif_t h hc19
     refine iwp_skip ?_
     refine thenQ_n ?_
     refine iwp_seq ?_
     refine iwp_block ?_
     obtain ⟨x20, hx20, h⟩ := bno_e h
     obtain ⟨x21, hx21, h⟩ := bno_e h
     obtain ⟨x22, hx22, h⟩ := bnd_e h
     refine iwp_drw rfl [⟨[2], [], [(20, .ref 0 17)], []⟩,
      ⟨[20], [0], [(21, .slice false (a0.Binds.map E_paths_Bind.d))], []⟩,
      ⟨[5], [], [(22, .int .i64 v10)], []⟩,
      ⟨[21, 22], [], [(23, .fptr [.int .i64 x20.Stream, .int .i64 x20.Path])], []⟩,
      ⟨[23], [], [(24, .agg [.int .i64 x20.Stream, .int .i64 x20.Path])], []⟩,
      ⟨[3], [], [(25, .ref 1 17)], []⟩,
      ⟨[25], [1], [(26, .slice false (a1.Binds.map E_paths_Bind.d))], []⟩,
      ⟨[5], [], [(27, .int .i64 v10)], []⟩,
      ⟨[26, 27], [], [(28, .fptr [.int .i64 x21.Stream, .int .i64 x21.Path])], []⟩,
      ⟨[28], [], [(29, .agg [.int .i64 x21.Stream, .int .i64 x21.Path])], []⟩,
      ⟨[24, 29], [], [(30, .bool (!x22))], []⟩] rfl ?_ (by kernel_rfl) ?_
     ·refine .cons (lop rfl rfl fun S hA => (iop_fieldAddr_ref rfl rfl (lb rfl) Try.underlying27 rfl ti25 (by decide) (svaR hA rfl rfl) (off' := 17) rfl)) ?_
      refine .cons (lop rfl rfl fun S hA => (iop_load_rs (d := .slice _ _) rfl rfl (lb rfl) Try.underlying25 ag25 ti25 (by decide) (svaR hA rfl rfl) (agi hA rfl rfl) (nle rfl) rfl)) ?_
      refine .cons (lop rfl rfl fun S hA => (iop_move rfl rfl (lb rfl) (svaI hA rfl rfl))) ?_
      refine .cons (lop rfl rfl fun S hA => (iop_idxT E_paths_Bind (cs := q8) rfl rfl (lb rfl) Try.underlying25 ti87 (svaL hA rfl rfl) (svaI hA rfl rfl) hx20 rfl rfl)) ?_
      refine .cons (lop rfl rfl fun S hA => (iop_load_fa (cs := q8) rfl rfl (lb rfl) Try.underlying87 ag87 ti87 (by decide) (sv (d := .fptr q8) (agr hA rfl rfl)) (nle rfl) rfl)) ?_
      refine .cons (lop rfl rfl fun S hA => (iop_fieldAddr_ref rfl rfl (lb rfl) Try.underlying27 rfl ti25 (by decide) (svaR hA rfl rfl) (off' := 17) rfl)) ?_
      refine .cons (lop rfl rfl fun S hA => (iop_load_rs (d := .slice _ _) rfl rfl (lb rfl) Try.underlying25 ag25 ti25 (by decide) (svaR hA rfl rfl) (agi hA rfl rfl) (nle rfl) rfl)) ?_
      refine .cons (lop rfl rfl fun S hA => (iop_move rfl rfl (lb rfl) (svaI hA rfl rfl))) ?_
      refine .cons (lop rfl rfl fun S hA => (iop_idxT E_paths_Bind (cs := q8) rfl rfl (lb rfl) Try.underlying25 ti87 (svaL hA rfl rfl) (svaI hA rfl rfl) hx21 rfl rfl)) ?_
      refine .cons (lop rfl rfl fun S hA => (iop_load_fa (cs := q8) rfl rfl (lb rfl) Try.underlying87 ag87 ti87 (by decide) (sv (d := .fptr q8) (agr hA rfl rfl)) (nle rfl) rfl)) ?_
      refine .cons (lop rfl rfl fun S hA => (iop_nes rfl rfl (lb rfl) Try.underlying87 st87.1 st87.2 (svaA q8 hA rfl rfl) (svaA q8 hA rfl rfl) (congrArg some hx22))) ?_
      exact .nil
     refine iwp_cond (b := _) rfl (fun hc23 => ?_) (fun hc23 => ?_)
     ·
      replace h := bif_t h hc23
      refine iwp_reg (ils_cons rfl (iop_assign rfl rfl (lb rfl) (sv (d := .bool false) rfl)) <|
       ils_end ?_)
      refine iwp_ret ?_
      refine blockQ_r ?_
      refine thenQ_r ?_
      refine thenQ_r ?_
      refine blockQ_r ?_
      refine thenQ_r ?_
      obtain rfl := Option.some.inj h
      refine ⟨.inr rfl, (.cons (sv rfl) .nil)⟩
     ·
      replace h := bif_f h hc23
      refine iwp_skip ?_
      refine blockQ_n ?_
      refine thenQ_n ?_
      obtain ⟨x24, hx24, h⟩ := bnd_e h
      refine iwp_region (ils_cons rfl (mvI rfl rfl rfl rfl) <|
       ils_cons rfl (iop_intx rfl rfl (lb rfl) (svI rfl) (sv (d := .int _ 1) rfl) rfl hx24) <|
       ils_cons rfl (asI rfl rfl rfl rfl) <|
       ils_nil ?_)
      refine thenQ_n ⟨(n0, x24), (fun i => i), ⟨(.sames rfl rfl), (.cons (.blk rfl rfl rfl) (.cons (.blk rfl rfl rfl) .nil)), nd_of [0, 1] rfl (by decide), fun _ _ => rfl⟩, ?_, ?_⟩
      exact h
      exact Nat.lt_succ_self _
    ·
     replace h := bif_f h hc19
     refine iwp_exit ?_
     refine thenQ_e ?_
     refine thenQ_e ?_
     refine blockQ_e ?_
     refine thenQ_n ?_
     obtain ⟨x25, hx25, h⟩ := bnd_e h
     obtain ⟨x26, hx26, h⟩ := bnd_e h
     obtain ⟨x27, hx27, h⟩ := bnd_e h
     refine iwp_reg (ils_cons rfl (faR 0 rfl rfl rfl Try.underlying27 rfl ti24 (lb rfl) rfl rfl) <|
      ils_cons rfl (lra q6 la24 rfl rfl rfl rfl rfl (nle rfl) rfl) <|
      ils_cons rfl (faR 0 rfl rfl rfl Try.underlying27 rfl ti24 (lb rfl) rfl rfl) <|
      ils_cons rfl (lra q6 la24 rfl rfl rfl rfl rfl (nle rfl) rfl) <|
      ils_cons rfl (iop_eqt rfl rfl (lb rfl) st24.2 (svA q6 rfl) (svA q6 rfl) (Eq.trans (by kernel_rfl) (congrArg some hx25))) <|
      ils_cons rfl (mvB rfl rfl rfl rfl) <|
      ils_guard rfl rfl (.one rfl) rfl (by decide) (fun hb => (faR 16 rfl rfl rfl Try.underlying27 rfl ti3 (lb rfl) rfl rfl)) <|
      ils_guard rfl rfl (.one rfl) rfl (by decide) (fun hb => (iop_load_rs (d := .int _ _) rfl rfl (lb rfl) Try.underlying3 ag3 ti3 (by decide) (svcR rfl hb) rfl (nle rfl) rfl)) <|
      ils_guard rfl rfl (.one rfl) rfl (by decide) (fun hb => (faR 16 rfl rfl rfl Try.underlying27 rfl ti3 (lb rfl) rfl rfl)) <|
      ils_guard rfl rfl (.one rfl) rfl (by decide) (fun hb => (iop_load_rs (d := .int _ _) rfl rfl (lb rfl) Try.underlying3 ag3 ti3 (by decide) (svcR rfl hb) rfl (nle rfl) rfl)) <|
      ils_guard rfl rfl (.one rfl) rfl (by decide) (fun hb => (iop_cmpx rfl rfl (lb rfl) (svcI rfl hb) (svcI rfl hb) rfl hx26)) <|
      ils_cons rfl (iop_andx rfl rfl (lb rfl) (svB rfl) rfl rfl hx27) <|
      ils_cons rfl (asB rfl rfl rfl rfl) <|
      ils_end ?_)
     refine iwp_ret ?_
     obtain rfl := Option.some.inj h
     refine ⟨.inr rfl, (.cons (sv rfl) .nil)⟩

theorem p_sennitref28_Note (a0 : T_paths_State) (a1 : Int) (a2 : Int) (a3 : Int) (r : T_paths_State) (h : sennitref28_Note a0 a1 a2 a3 = some r) : PureAt Try.prog 22 [.agg (v0 a0), .int .i64 a1, .int .i64 a2, .int .i64 a3] (.agg (v0 r)) := by
 refine pure_of_iwp (rs := [.agg (v0 r)]) Try.func22 rfl Try.ntmps22 (nle rfl) rfl fun O hO => ?_
 show IWP _ _ _ _ ⟨[(0, .agg (v0 a0)), (1, .int .i64 a1), (2, .int .i64 a2), (3, .int .i64 a3)], []⟩ _
 unfold sennitref28_Note at h
 refine iwp_reg (ils_cons rfl (iop_box' (cs := q3) 0 rfl rfl (lb rfl) rfl (svA q3 rfl) rfl rfl) <|
  ils_cons rfl (iop_allocS (cs := q5) (cs' := (w13 false false 0 0 false false 0 0 false false 0 0 false false 0 0 0 ([] : List T_paths_Bind))) 1 rfl rfl (lb rfl) rfl ti27 rfl rfl (.k4 (.k (.k4 (.k (.k4 (.k (.k (.k (.cons (.nils _) .nil)))))))))) <|
  ils_end ?_)
 refine iwp_seq ?_
 obtain ⟨x1, hx1, h⟩ := bno_e h
 obtain ⟨x2, hx2, h⟩ := bnd_e h
 obtain ⟨x3, hx3, h⟩ := bno_e h
 obtain ⟨x4, hx4, h⟩ := bnd_e h
 obtain ⟨hk5, h⟩ := chk_e h
 obtain ⟨x6, hx6, h⟩ := bno_e h
 obtain ⟨x7, hx7, h⟩ := bnd_e h
 obtain ⟨x8, hx8, h⟩ := bno_e h
 obtain ⟨x9, hx9, h⟩ := bnd_e h
 obtain ⟨x10, hx10, h⟩ := bno_e h
 obtain ⟨x11, hx11, h⟩ := bnd_e h
 refine iwp_reg (ils_cons rfl (lra q3 la27 rfl rfl rfl rfl rfl (nle rfl) rfl) <|
  ils_cons rfl (iop_call (r := .int _ _) rfl rfl (lb rfl) cl29 (.cons (svA q3 rfl) .nil) rfl (p_sennitref28_Check _ _ hx1)) <|
  ils_cons rfl (iop_cmpx rfl rfl (lb rfl) (svI rfl) (sv (d := .int _ 0) rfl) rfl hx2) <|
  ils_cons rfl (mvB rfl rfl rfl rfl) <|
  ils_guard rfl rfl (.one rfl) rfl (by decide) (fun hb => (mvI rfl rfl rfl rfl)) <|
  ils_guard rfl rfl (.one rfl) rfl (by decide) (fun hb => (iop_call (r := .bool _) rfl rfl (lb rfl) cl42 (.cons (svcI rfl hb) (.cons (sv (d := .int _ 0) rfl) (.cons (sv (d := .int _ 3) rfl) .nil))) rfl (p_sennitref28_in _ _ _ _ (gd_t hx3 hb)))) <|
  ils_guard rfl rfl (.one rfl) rfl (by decide) (fun hb => (iop_not rfl rfl (lb rfl) (svcB rfl hb))) <|
  ils_cons rfl (iop_orx rfl rfl (lb rfl) (svB rfl) rfl rfl hx4) <|
  ils_cons rfl (mvB rfl rfl rfl rfl) <|
  ils_guard rfl rfl (.one rfl) rfl (by decide) (fun hb => (mvI rfl rfl rfl rfl)) <|
  ils_guard rfl rfl (.one rfl) rfl (by decide) (fun hb => (faR 0 rfl rfl rfl Try.underlying27 rfl ti24 (lb rfl) rfl rfl)) <|
  ils_guard rfl rfl (.one rfl) rfl (by decide) (fun hb => (iop_index_sel rfl rfl (lb rfl) Try.underlying24 ti23 (svcR rfl hb) (svcI rfl hb) (hk5 hb))) <|
  ils_guard rfl rfl (.one rfl) rfl (by decide) (fun hb => (iop_field_sel rfl rfl (lb rfl) Try.underlying23 rfl ti4 (by decide) (svcR rfl hb) (k' := 0) rfl)) <|
  ils_guard rfl rfl (.one rfl) rfl (by decide) (fun hb => (iop_load_sel_s eBool (b := 0) (k := 0) (sz := 4) (d := .bool _) rfl rfl (lb rfl) Try.underlying4 ag4 ti4 (svcR rfl hb) rfl (gd_t hx6 hb) ⟨rfl, ⟨rfl, ⟨rfl, ⟨rfl, trivial⟩⟩⟩⟩ rfl)) <|
  ils_guard rfl rfl (.one rfl) rfl (by decide) (fun hb => (iop_not rfl rfl (lb rfl) (svcB rfl hb))) <|
  ils_cons rfl (iop_orx rfl rfl (lb rfl) (svB rfl) rfl rfl hx7) <|
  ils_cons rfl (mvB rfl rfl rfl rfl) <|
  ils_guard rfl rfl (.one rfl) rfl (by decide) (fun hb => (mvI rfl rfl rfl rfl)) <|
  ils_guard rfl rfl (.one rfl) rfl (by decide) (fun hb => (iop_call (r := .bool _) rfl rfl (lb rfl) cl42 (.cons (svcI rfl hb) (.cons (sv (d := .int _ 0) rfl) (.cons (sv (d := .int _ 1048576) rfl) .nil))) rfl (p_sennitref28_in _ _ _ _ (gd_t hx8 hb)))) <|
  ils_guard rfl rfl (.one rfl) rfl (by decide) (fun hb => (iop_not rfl rfl (lb rfl) (svcB rfl hb))) <|
  ils_cons rfl (iop_orx rfl rfl (lb rfl) (svB rfl) rfl rfl hx9) <|
  ils_cons rfl (mvB rfl rfl rfl rfl) <|
  ils_guard rfl rfl (.one rfl) rfl (by decide) (fun hb => (mvI rfl rfl rfl rfl)) <|
  ils_guard rfl rfl (.one rfl) rfl (by decide) (fun hb => (iop_call (r := .bool _) rfl rfl (lb rfl) cl42 (.cons (svcI rfl hb) (.cons (sv (d := .int _ 0) rfl) (.cons (sv (d := .int _ 1048576) rfl) .nil))) rfl (p_sennitref28_in _ _ _ _ (gd_t hx10 hb)))) <|
  ils_guard rfl rfl (.one rfl) rfl (by decide) (fun hb => (iop_not rfl rfl (lb rfl) (svcB rfl hb))) <|
  ils_cons rfl (iop_orx rfl rfl (lb rfl) (svB rfl) rfl rfl hx11) <|
  ils_end ?_)
 refine iwp_cond (b := _) rfl (fun hc12 => ?_) (fun hc12 => ?_)
 ·
  replace h := bif_t h hc12
  refine iwp_reg (ils_cons rfl (lra q3 la27 rfl rfl rfl rfl rfl (nle rfl) rfl) <|
   ils_cons rfl (stA q3 q3 ti27 rfl rfl rfl rfl rfl rfl rfl rfl (nle rfl) rfl) <|
   ils_end ?_)
  refine iwp_ret ?_
  refine thenQ_r ?_
  obtain rfl := Option.some.inj h
  refine ⟨.inr rfl, (.cons (rva la27 rfl rfl (nle rfl) rfl) .nil)⟩
 ·
  replace h := bif_f h hc12
  refine iwp_skip ?_
  refine thenQ_n ?_
  obtain ⟨hk13, h⟩ := chk_e h
  obtain ⟨x14, hx14, h⟩ := bno_e h
  refine iwp_reg (ils_cons rfl (mvI rfl rfl rfl rfl) <|
   ils_cons rfl (faR 0 rfl rfl rfl Try.underlying27 rfl ti24 (lb rfl) rfl rfl) <|
   ils_cons rfl (iop_index_sel rfl rfl (lb rfl) Try.underlying24 ti23 (svR rfl) (svI rfl) hk13) <|
   ils_cons rfl (iop_load_sel_a E_paths_Line (b := 0) (k := 0) (sz := 4) (ds := q7) rfl rfl (lb rfl) Try.underlying23 ag23 ti23 (by decide) (svR rfl) rfl hx14 ⟨rfl, ⟨rfl, ⟨rfl, ⟨rfl, trivial⟩⟩⟩⟩ rfl rfl) <|
   ils_cons rfl (iop_allocS (cs := q7) (cs' := (w15 false false 0 0)) 2 rfl rfl (lb rfl) rfl ti23 rfl rfl (.all _)) <|
   ils_cons rfl (stA q7 q7 ti23 rfl rfl rfl rfl rfl rfl rfl rfl (nle rfl) rfl) <|
   ils_end ?_)
  obtain ⟨x15, hx15, h⟩ := bnd_e h
  refine iwp_reg (ils_cons rfl (faR 2 rfl rfl rfl Try.underlying23 rfl ti3 (lb rfl) rfl rfl) <|
   ils_cons rfl (iop_load_rs (d := .int _ _) rfl rfl (lb rfl) Try.underlying3 ag3 ti3 (by decide) (svR rfl) rfl (nle rfl) rfl) <|
   ils_cons rfl (mvI rfl rfl rfl rfl) <|
   ils_cons rfl (iop_intx rfl rfl (lb rfl) (svI rfl) (svI rfl) rfl hx15) <|
   ils_cons rfl (faR 2 rfl rfl rfl Try.underlying23 rfl ti3 (lb rfl) rfl rfl) <|
   ils_cons rfl (iop_store (ds' := q7) rfl rfl ti3 (svR rfl) rfl (svI rfl) rfl rfl rfl (nle rfl) rfl) <|
   ils_end ?_)
  obtain ⟨x16, hx16, h⟩ := bnd_e h
  refine iwp_reg (ils_cons rfl (faR 3 rfl rfl rfl Try.underlying23 rfl ti3 (lb rfl) rfl rfl) <|
   ils_cons rfl (iop_load_rs (d := .int _ _) rfl rfl (lb rfl) Try.underlying3 ag3 ti3 (by decide) (svR rfl) rfl (nle rfl) rfl) <|
   ils_cons rfl (mvI rfl rfl rfl rfl) <|
   ils_cons rfl (iop_intx rfl rfl (lb rfl) (svI rfl) (svI rfl) rfl hx16) <|
   ils_cons rfl (faR 3 rfl rfl rfl Try.underlying23 rfl ti3 (lb rfl) rfl rfl) <|
   ils_cons rfl (iop_store (ds' := q7) rfl rfl ti3 (svR rfl) rfl (svI rfl) rfl rfl rfl (nle rfl) rfl) <|
   ils_end ?_)
  refine iwp_join (α := Int × Int) (fun z => ⟨[(1, .int .i64 a1), (4, .ref 0 0), (8, .ref 1 0), (9, .ref 2 0)], [(0, .blk 27 (v0 a0)), (1, .blk 27 (w13 false false 0 0 false false 0 0 false false 0 0 false false 0 0 0 ([] : List T_paths_Bind))), (2, .blk 23 (w15 x14.Up x14.Dead z.1 z.2))]⟩) (fun z => sennitref28_Note_J0 a0 a1 x14 z.1 z.2 = some r) ?_ ?_
  ·
   obtain ⟨x30, hx30, h⟩ := bnd_e h
   obtain ⟨x31, hx31, h⟩ := bnd_e h
   obtain ⟨x32, hx32, h⟩ := bnd_e h
   refine iwp_reg (ils_cons rfl (faR 2 rfl rfl rfl Try.underlying23 rfl ti3 (lb rfl) rfl rfl) <|
    ils_cons rfl (iop_load_rs (d := .int _ _) rfl rfl (lb rfl) Try.underlying3 ag3 ti3 (by decide) (svR rfl) rfl (nle rfl) rfl) <|
    ils_cons rfl (iop_cmpx rfl rfl (lb rfl) (svI rfl) (sv (d := .int _ 1073741824) rfl) rfl hx30) <|
    ils_cons rfl (mvB rfl rfl rfl rfl) <|
    ils_guard rfl rfl (.one rfl) rfl (by decide) (fun hb => (faR 3 rfl rfl rfl Try.underlying23 rfl ti3 (lb rfl) rfl rfl)) <|
    ils_guard rfl rfl (.one rfl) rfl (by decide) (fun hb => (iop_load_rs (d := .int _ _) rfl rfl (lb rfl) Try.underlying3 ag3 ti3 (by decide) (svcR rfl hb) rfl (nle rfl) rfl)) <|
    ils_guard rfl rfl (.one rfl) rfl (by decide) (fun hb => (iop_cmpx rfl rfl (lb rfl) (svcI rfl hb) (sv (d := .int _ 1073741824) rfl) rfl hx31)) <|
    ils_cons rfl (iop_orx rfl rfl (lb rfl) (svB rfl) rfl rfl hx32) <|
    ils_end ?_)
   refine iwp_cond (b := _) rfl (fun hc33 => ?_) (fun hc33 => ?_)
   ·
    replace h := bif_t h hc33
    obtain ⟨x34, hx34, h⟩ := bno_e h
    obtain ⟨x35, hx35, h⟩ := bno_e h
    refine iwp_region (ils_cons rfl (faR 2 rfl rfl rfl Try.underlying23 rfl ti3 (lb rfl) rfl rfl) <|
     ils_cons rfl (iop_load_rs (d := .int _ _) rfl rfl (lb rfl) Try.underlying3 ag3 ti3 (by decide) (svR rfl) rfl (nle rfl) rfl) <|
     ils_cons rfl (iop_quox rfl rfl (lb rfl) (svI rfl) (sv (d := .int _ 2) rfl) hx34) <|
     ils_cons rfl (faR 3 rfl rfl rfl Try.underlying23 rfl ti3 (lb rfl) rfl rfl) <|
     ils_cons rfl (iop_load_rs (d := .int _ _) rfl rfl (lb rfl) Try.underlying3 ag3 ti3 (by decide) (svR rfl) rfl (nle rfl) rfl) <|
     ils_cons rfl (iop_quox rfl rfl (lb rfl) (svI rfl) (sv (d := .int _ 2) rfl) hx35) <|
     ils_cons rfl (faR 2 rfl rfl rfl Try.underlying23 rfl ti3 (lb rfl) rfl rfl) <|
     ils_cons rfl (iop_store (ds' := q7) rfl rfl ti3 (svR rfl) rfl (svI rfl) rfl rfl rfl (nle rfl) rfl) <|
     ils_cons rfl (faR 3 rfl rfl rfl Try.underlying23 rfl ti3 (lb rfl) rfl rfl) <|
     ils_cons rfl (iop_store (ds' := q7) rfl rfl ti3 (svR rfl) rfl (svI rfl) rfl rfl rfl (nle rfl) rfl) <|
     ils_nil ?_)
    refine thenQ_n ⟨(x34, x35), (fun i => i), ⟨(.sames rfl rfl), (.cons (.blk rfl rfl rfl) (.cons (.blk rfl rfl rfl) (.cons (.blk rfl rfl rfl) .nil))), nd_of [0, 1, 2] rfl (by decide), fun _ _ => rfl⟩, ?_⟩
    exact h
   ·
    replace h := bif_f h hc33
    refine iwp_skip ?_
    refine thenQ_n ⟨(x15, x16), (fun i => i), ⟨(.sames rfl rfl), (.cons (.blk rfl rfl rfl) (.cons (.blk rfl rfl rfl) (.cons (.blk rfl rfl rfl) .nil))), nd_of [0, 1, 2] rfl (by decide), fun _ _ => rfl⟩, ?_⟩
    exact h
  ·
   rintro ⟨v23, v24⟩ h
   unfold sennitref28_Note_J0 at h
   obtain ⟨hk25, h⟩ := chk_e h
   obtain ⟨x26, hx26, h⟩ := bnd_e h
   obtain ⟨x27, hx27, h⟩ := bnd_e h
   obtain ⟨x28, hx28, h⟩ := bnd_e h
   obtain ⟨x29, hx29, h⟩ := bnd_e h
   refine iwp_reg (ils_cons rfl (mvI rfl rfl rfl rfl) <|
    ils_cons rfl (lra q7 la23 rfl rfl rfl rfl rfl (nle rfl) rfl) <|
    ils_cons rfl (faR 0 rfl rfl rfl Try.underlying27 rfl ti24 (lb rfl) rfl rfl) <|
    ils_cons rfl (iop_index_sel rfl rfl (lb rfl) Try.underlying24 ti23 (svR rfl) (svI rfl) hk25) <|
    ils_cons rfl (iop_store_sel (b := 0) (k := 0) (sz := 4) (cs' := (w13 x26.Up x26.Dead x26.Bytes x26.Ticks x27.Up x27.Dead x27.Bytes x27.Ticks x28.Up x28.Dead x28.Bytes x28.Ticks x29.Up x29.Dead x29.Bytes x29.Ticks a0.Pinned a0.Binds)) rfl rfl ti23 (svR rfl) rfl (svA q7 rfl) rfl rfl rfl hk25 rfl ⟨⟨⟨⟨trivial, fun h => by rw [← hx26, ← hx27, ← hx28, ← hx29, h]; rfl⟩, fun h => by rw [← hx26, ← hx27, ← hx28, ← hx29, h]; rfl⟩, fun h => by rw [← hx26, ← hx27, ← hx28, ← hx29, h]; rfl⟩, fun h => by rw [← hx26, ← hx27, ← hx28, ← hx29, h]; rfl⟩) <|
    ils_end ?_)
   refine iwp_reg (ils_cons rfl (lra q3 la27 rfl rfl rfl rfl rfl (nle rfl) rfl) <|
    ils_cons rfl (stA q3 q3 ti27 rfl rfl rfl rfl rfl rfl rfl rfl (nle rfl) rfl) <|
    ils_end ?_)
   refine iwp_ret ?_
   obtain rfl := Option.some.inj h
   refine ⟨.inr rfl, (.cons (rva la27 rfl rfl (nle rfl) rfl) .nil)⟩

theorem p_sennitref28_Free (a0 : T_paths_State) (a1 : Int) (r : T_paths_State) (h : sennitref28_Free a0 a1 = some r) : PureAt Try.prog 24 [.agg (v0 a0), .int .i64 a1] (.agg (v0 r)) := by
 refine pure_of_iwp (rs := [.agg (v0 r)]) Try.func24 rfl Try.ntmps24 (nle rfl) rfl fun O hO => ?_
 show IWP _ _ _ _ ⟨[(0, .agg (v0 a0)), (1, .int .i64 a1)], []⟩ _
 unfold sennitref28_Free at h
 refine iwp_reg (ils_cons rfl (iop_box' (cs := q3) 0 rfl rfl (lb rfl) rfl (svA q3 rfl) rfl rfl) <|
  ils_cons rfl (iop_allocS (cs := q5) (cs' := (w13 false false 0 0 false false 0 0 false false 0 0 false false 0 0 0 ([] : List T_paths_Bind))) 1 rfl rfl (lb rfl) rfl ti27 rfl rfl (.k4 (.k (.k4 (.k (.k4 (.k (.k (.k (.cons (.nils _) .nil)))))))))) <|
  ils_end ?_)
 refine iwp_seq ?_
 obtain ⟨x1, hx1, h⟩ := bno_e h
 obtain ⟨x2, hx2, h⟩ := bnd_e h
 refine iwp_reg (ils_cons rfl (lra q3 la27 rfl rfl rfl rfl rfl (nle rfl) rfl) <|
  ils_cons rfl (iop_call (r := .int _ _) rfl rfl (lb rfl) cl29 (.cons (svA q3 rfl) .nil) rfl (p_sennitref28_Check _ _ hx1)) <|
  ils_cons rfl (iop_cmpx rfl rfl (lb rfl) (svI rfl) (sv (d := .int _ 0) rfl) rfl hx2) <|
  ils_end ?_)
 refine iwp_cond (b := _) rfl (fun hc3 => ?_) (fun hc3 => ?_)
 ·
  replace h := bif_t h hc3
  refine iwp_reg (ils_cons rfl (lra q3 la27 rfl rfl rfl rfl rfl (nle rfl) rfl) <|
   ils_cons rfl (stA q3 q3 ti27 rfl rfl rfl rfl rfl rfl rfl rfl (nle rfl) rfl) <|
   ils_end ?_)
  refine iwp_ret ?_
  refine thenQ_r ?_
  obtain rfl := Option.some.inj h
  refine ⟨.inr rfl, (.cons (rva la27 rfl rfl (nle rfl) rfl) .nil)⟩
 ·
  replace h := bif_f h hc3
  refine iwp_skip ?_
  refine thenQ_n ?_
  refine iwp_reg (ils_cons rfl (iop_assign rfl rfl (lb rfl) (sv (d := .nils) rfl)) <|
   ils_end ?_)
  refine iwp_seq ?_
  refine iwp_reg (ils_cons rfl (iop_assign rfl rfl (lb rfl) (sv (d := .int _ 0) rfl)) <|
   ils_end ?_)
  refine iwp_block ?_
  refine iwp_loopP (α := Nat × (List T_paths_Bind) × Int) (fun z => ⟨[(1, .int .i64 a1), (2, .ref 0 0), (4, .ref 1 0), (5, .gsl 23 E_paths_Bind.sz (z.2.1.map E_paths_Bind.d)), (6, .int .i64 z.2.2)], [(0, .blk 27 (v0 a0)), (1, .blk 27 (w13 false false 0 0 false false 0 0 false false 0 0 false false 0 0 0 ([] : List T_paths_Bind))), (23, .tail 87 E_paths_Bind.sz z.2.1.length)]⟩) (fun z => sennitref28_Free_L0 a0 a1 z.1 z.2.1 z.2.2 = some r) (fun z => z.1) (fuel, ([] : (List T_paths_Bind)), 0) (fun i => if i = 23 then 75 else i) ⟨(.s rfl rfl (.s rfl rfl (.s rfl rfl (.cons (.nils rfl) (.sames rfl rfl))))), (.cons (.blk rfl rfl rfl) (.cons (.blk rfl rfl rfl) (.cons (.nils rfl) .nil))), nd_of [0, 1, 75] rfl (by decide), (fun i hi => by first | rfl | (show (if _ then _ else _) = _; (repeat' split) <;> omega))⟩ ?_ ?_
  ·exact h
  ·
   rintro ⟨n0, v13, v14⟩ h
   cases n0 with
   | zero => exact absurd h (by unfold sennitref28_Free_L0; exact nofun)
   | succ n0 =>
    unfold sennitref28_Free_L0 at h
    refine iwp_seq ?_
    obtain ⟨x24, hx24, h⟩ := bnd_e h
    refine iwp_reg (ils_cons rfl (mvI rfl rfl rfl rfl) <|
     ils_cons rfl (faR 17 rfl rfl rfl Try.underlying27 rfl ti25 (lb rfl) rfl rfl) <|
     ils_cons rfl (lrL la25 rfl rfl rfl rfl rfl (nle rfl) rfl) <|
     ils_cons rfl (iop_lenT E_paths_Bind (l := a0.Binds) rfl rfl (lb rfl) Try.underlying25 (svL rfl)) <|
     ils_cons rfl (iop_cmpx rfl rfl (lb rfl) (svI rfl) (svI rfl) rfl hx24) <|
     ils_end ?_)
    refine iwp_cond (b := _) rfl (fun hc25 => ?_) (fun hc25 => ?_)
    ·
     replace h := bif_t h hc25
     refine iwp_skip ?_
     refine thenQ_n ?_
     refine iwp_seq ?_
     refine iwp_block ?_
     obtain ⟨x26, hx26, h⟩ := bno_e h
     obtain ⟨x27, hx27, h⟩ := bnd_e h
     refine iwp_reg (ils_cons rfl (faR 17 rfl rfl rfl Try.underlying27 rfl ti25 (lb rfl) rfl rfl) <|
      ils_cons rfl (lrL la25 rfl rfl rfl rfl rfl (nle rfl) rfl) <|
      ils_cons rfl (mvI rfl rfl rfl rfl) <|
      ils_cons rfl (iop_idxT E_paths_Bind (cs := q8) rfl rfl (lb rfl) Try.underlying25 ti87 (svL rfl) (svI rfl) hx26 rfl rfl) <|
      ils_cons rfl (iop_fieldAddr_fptr (cs' := [.int _ _]) rfl rfl (lb rfl) Try.underlying87 rfl ti3 (by decide) (sv (d := .fptr q8) rfl) rfl) <|
      ils_cons rfl (iop_load_fs rfl rfl (lb rfl) Try.underlying3 ag3 ti3 (by decide) (sv (d := .fptr [.int _ _]) rfl) (nle rfl)) <|
      ils_cons rfl (mvI rfl rfl rfl rfl) <|
      ils_cons rfl (iop_cmpx rfl rfl (lb rfl) (svI rfl) (svI rfl) rfl hx27) <|
      ils_end ?_)
     refine iwp_cond (b := _) rfl (fun hc28 => ?_) (fun hc28 => ?_)
     ·
      replace h := bif_t h hc28
      obtain ⟨x29, hx29, h⟩ := bno_e h
      obtain ⟨x30, hx30, h⟩ := bno_e h
      refine iwp_region (ils_cons rfl (iop_move rfl rfl (lb rfl) (sv (d := .gsl _ _ _) rfl)) <|
       ils_cons rfl (faR 17 rfl rfl rfl Try.underlying27 rfl ti25 (lb rfl) rfl rfl) <|
       ils_cons rfl (lrL la25 rfl rfl rfl rfl rfl (nle rfl) rfl) <|
       ils_cons rfl (mvI rfl rfl rfl rfl) <|
       ils_cons rfl (iop_idxT E_paths_Bind (cs := q8) rfl rfl (lb rfl) Try.underlying25 ti87 (svL rfl) (svI rfl) hx29 rfl rfl) <|
       ils_cons rfl (iop_load_fa (cs := q8) rfl rfl (lb rfl) Try.underlying87 ag87 ti87 (by decide) (sv (d := .fptr q8) rfl) (nle rfl) rfl) <|
       ils_cons rfl (iop_bsT E_paths_Bind ([x29] : (List T_paths_Bind)) 24 rfl rfl (lb rfl) Try.underlying25 ti87 rfl (.cons (svA q8 rfl) .nil) rfl rfl (by decide)) <|
       ils_cons rfl (iop_appT E_paths_Bind 25 rfl rfl (lb rfl) Try.underlying25 ti87 rfl rfl rfl rfl (svg rfl) hx30) <|
       ils_cons rfl (iop_assign rfl rfl (lb rfl) (sv (d := .gsl _ _ _) rfl)) <|
       ils_nil ?_)
      refine blockQ_n ?_
      refine thenQ_n ?_
      obtain ⟨x31, hx31, h⟩ := bnd_e h
      refine iwp_region (ils_cons rfl (mvI rfl rfl rfl rfl) <|
       ils_cons rfl (iop_intx rfl rfl (lb rfl) (svI rfl) (sv (d := .int _ 1) rfl) rfl hx31) <|
       ils_cons rfl (asI rfl rfl rfl rfl) <|
       ils_nil ?_)
      refine thenQ_n ⟨(n0, x30, x31), (fun i => if i = 23 then 25 else i), ⟨(.sames rfl rfl), (.cons (.blk rfl rfl rfl) (.cons (.blk rfl rfl rfl) (.cons (.tail rfl) .nil))), nd_of [0, 1, 25] rfl (by decide), (fun i hi => by first | rfl | (show (if _ then _ else _) = _; (repeat' split) <;> omega))⟩, ?_, ?_⟩
      exact h
      exact Nat.lt_succ_self _
     ·
      replace h := bif_f h hc28
      refine iwp_skip ?_
      refine blockQ_n ?_
      refine thenQ_n ?_
      obtain ⟨x32, hx32, h⟩ := bnd_e h
      refine iwp_region (ils_cons rfl (mvI rfl rfl rfl rfl) <|
       ils_cons rfl (iop_intx rfl rfl (lb rfl) (svI rfl) (sv (d := .int _ 1) rfl) rfl hx32) <|
       ils_cons rfl (asI rfl rfl rfl rfl) <|
       ils_nil ?_)
      refine thenQ_n ⟨(n0, v13, x32), (fun i => i), ⟨(.sames rfl rfl), (.cons (.blk rfl rfl rfl) (.cons (.blk rfl rfl rfl) (.cons (.tail rfl) .nil))), nd_of [0, 1, 23] rfl (by decide), fun _ _ => rfl⟩, ?_, ?_⟩
      exact h
      exact Nat.lt_succ_self _
    ·
     replace h := bif_f h hc25
     refine iwp_exit ?_
     refine thenQ_e ?_
     refine thenQ_e ?_
     refine blockQ_e ?_
     refine thenQ_n ?_
     refine iwp_reg (ils_cons rfl (iop_move rfl rfl (lb rfl) (sv (d := .gsl _ _ _) rfl)) <|
      ils_cons rfl (faR 17 rfl rfl rfl Try.underlying27 rfl ti25 (lb rfl) rfl rfl) <|
      ils_cons rfl (iop_store (ds' := q3) rfl rfl ti25 (svR rfl) rfl (svg rfl) rfl rfl rfl (nle rfl) rfl) <|
      ils_end ?_)
     refine iwp_reg (ils_cons rfl (lra q3 la27 rfl rfl rfl rfl rfl (nle rfl) rfl) <|
      ils_cons rfl (stA q3 q3 ti27 rfl rfl rfl rfl rfl rfl rfl rfl (nle rfl) rfl) <|
      ils_end ?_)
     refine iwp_ret ?_
     obtain rfl := Option.some.inj h
     refine ⟨.inr rfl, (.cons (rva la27 rfl rfl (nle rfl) rfl) .nil)⟩
end Go.Proofs.Ytkkpkabamlabdaa
