/-
  A part of the proof: rules and plain facts. No condition.
-/
import Derived.Test.YtkkpkabamlabdaaProg
import Derived.KernelRfl
import Derived.Test.YtkkpkabamlabdaaIlA28cD
import Derived.Test.YtkkpkabamlabdaaIlA28cC1
set_option linter.all false
set_option linter.unusedSimpArgs false
set_option linter.unusedVariables false
set_option maxRecDepth 8000
set_option maxHeartbeats 2000000
open Go Go.IL Go.Fn Go.Proofs
namespace Go.Proofs.Ytkkpkabamlabdaa
theorem ti5 : TI Try.prog 5 (some (.int .u8 0)) 1 1 := by unfold TI; kernel_rfl
theorem ti76 : TI Try.prog 76 (some (.agg #[.bool false, .bool false, .bool false, .bool false])) 4 4 := by unfold TI; kernel_rfl
theorem ti77 : TI Try.prog 77 (some (.agg #[.int .i64 0, .int .i64 0, .int .i64 0, .int .i64 0, .int .i64 0, .int .i64 0, .int .i64 0, .int .i64 0, .int .i64 0, .int .i64 0, .int .i64 0, .int .i64 0, .int .i64 0, .int .i64 0, .int .i64 0, .int .i64 0, .int .i64 0, .int .i64 0, .int .i64 0, .int .i64 0, .int .i64 0, .int .i64 0, .int .i64 0, .int .i64 0, .int .i64 0, .int .i64 0, .int .i64 0, .int .i64 0, .int .i64 0, .int .i64 0, .int .i64 0, .int .i64 0, .int .i64 0, .int .i64 0, .int .i64 0, .int .i64 0, .int .i64 0, .int .i64 0, .int .i64 0, .int .i64 0])) 40 320 := by unfold TI; kernel_rfl
theorem ti79 : TI Try.prog 79 (some (.agg #[.int .u8 0, .int .u8 0, .int .u8 0, .int .u8 0])) 4 4 := by unfold TI; kernel_rfl
theorem ag5 : aggOf Try.prog 5 = false := by kernel_rfl
theorem ex55 : ExternAt Try.prog 55 Extern.MathFloatBits.float64bits := ⟨Try.f55, Try.func55, by kernel_rfl, by kernel_rfl, by kernel_rfl, by kernel_rfl⟩
theorem ex76 : ExternAt Try.prog 76 Extern.MathFloatBits.float64frombits := ⟨Try.f76, Try.func76, by kernel_rfl, by kernel_rfl, by kernel_rfl, by kernel_rfl⟩
theorem st32 : Try.prog.stoodInHeld 32 = false ∧ Try.prog.eqGuardType Try.prog.depth 32 = false := ⟨by kernel_rfl, by kernel_rfl⟩
theorem st86 : Try.prog.stoodInHeld 86 = false ∧ Try.prog.eqGuardType Try.prog.depth 86 = false := ⟨by kernel_rfl, by kernel_rfl⟩
theorem cl8 : Callable Try.prog 8 := ⟨Try.f8, Try.func8, rfl, rfl⟩
theorem cl10 : Callable Try.prog 10 := ⟨Try.f10, Try.func10, rfl, rfl⟩
theorem cl12 : Callable Try.prog 12 := ⟨Try.f12, Try.func12, rfl, rfl⟩
theorem cl14 : Callable Try.prog 14 := ⟨Try.f14, Try.func14, rfl, rfl⟩
theorem cl16 : Callable Try.prog 16 := ⟨Try.f16, Try.func16, rfl, rfl⟩
theorem cl20 : Callable Try.prog 20 := ⟨Try.f20, Try.func20, rfl, rfl⟩
theorem cl21 : Callable Try.prog 21 := ⟨Try.f21, Try.func21, rfl, rfl⟩
theorem cl23 : Callable Try.prog 23 := ⟨Try.f23, Try.func23, rfl, rfl⟩
theorem cl32 : Callable Try.prog 32 := ⟨Try.f32, Try.func32, rfl, rfl⟩
theorem cl34 : Callable Try.prog 34 := ⟨Try.f34, Try.func34, rfl, rfl⟩
theorem cl35 : Callable Try.prog 35 := ⟨Try.f35, Try.func35, rfl, rfl⟩
theorem cl37 : Callable Try.prog 37 := ⟨Try.f37, Try.func37, rfl, rfl⟩
theorem cl39 : Callable Try.prog 39 := ⟨Try.f39, Try.func39, rfl, rfl⟩
theorem cl44 : Callable Try.prog 44 := ⟨Try.f44, Try.func44, rfl, rfl⟩
theorem cl45 : Callable Try.prog 45 := ⟨Try.f45, Try.func45, rfl, rfl⟩
theorem cl51 : Callable Try.prog 51 := ⟨Try.f51, Try.func51, rfl, rfl⟩
theorem cl60 : Callable Try.prog 60 := ⟨Try.f60, Try.func60, rfl, rfl⟩
theorem cl62 : Callable Try.prog 62 := ⟨Try.f62, Try.func62, rfl, rfl⟩
theorem cl63 : Callable Try.prog 63 := ⟨Try.f63, Try.func63, rfl, rfl⟩
theorem cl73 : Callable Try.prog 73 := ⟨Try.f73, Try.func73, rfl, rfl⟩
def la86 := LA.mk Try.underlying86 ag86 ti86 (by decide)


theorem p_slices_IndexFunc_paths_Bind_paths_Bind_Fall_1 (a0 : (List T_paths_Bind)) (a1 : Int) (r : Int) (h : slices_IndexFunc_paths_Bind_paths_Bind_Fall_1 a0 a1 = some r) : PureAt Try.prog 65 [.slice false (a0.map E_paths_Bind.d), .fn 45 [.fptr [.int .i64 a1]]] (.int .i64 r) := by
 refine pure_of_iwp (rs := [.int .i64 r]) Try.func65 rfl Try.ntmps65 (nle rfl) rfl fun O hO => ?_
 show IWP _ _ _ _ ⟨[(0, .slice false (a0.map E_paths_Bind.d)), (1, .fn 45 [.fptr [.int .i64 a1]])], []⟩ _
 unfold slices_IndexFunc_paths_Bind_paths_Bind_Fall_1 at h
 refine iwp_reg (ils_cons rfl (iop_assign rfl rfl (lb rfl) (sv (d := .int _ 0) rfl)) <|
  ils_end ?_)
 refine iwp_seq ?_
 refine iwp_reg (ils_cons rfl (mvL rfl rfl rfl rfl) <|
  ils_cons rfl (iop_lenT E_paths_Bind (l := a0) rfl rfl (lb rfl) Try.underlying33 (svL rfl)) <|
  ils_cons rfl (iop_move rfl rfl (lb rfl) (sv (d := .int _ 0) rfl)) <|
  ils_end ?_)
 refine iwp_block ?_
 refine iwp_loopP (α := Nat × Int) (fun z => ⟨[(0, .slice false (a0.map E_paths_Bind.d)), (1, .fn 45 [.fptr [.int .i64 a1]]), (7, .int .i64 (a0.length : Int)), (8, .int .i64 z.2)], []⟩) (fun z => slices_IndexFunc_paths_Bind_paths_Bind_Fall_1_L0 a0 a1 z.1 z.2 = some r) (fun z => z.1) (fuel, 0) (fun i => i) ⟨(.sames rfl rfl), .nil, nd_of [] rfl (by decide), fun _ _ => rfl⟩ ?_ ?_
 ·exact h
 ·
  rintro ⟨n0, v7⟩ h
  cases n0 with
  | zero => exact absurd h (by unfold slices_IndexFunc_paths_Bind_paths_Bind_Fall_1_L0; exact nofun)
  | succ n0 =>
   unfold slices_IndexFunc_paths_Bind_paths_Bind_Fall_1_L0 at h
   obtain ⟨x14, hx14, h⟩ := bnd_e h
   refine iwp_reg (ils_cons rfl (iop_cmpx rfl rfl (lb rfl) (svI rfl) (svI rfl) rfl hx14) <|
    ils_end ?_)
   refine iwp_seq ?_
   refine iwp_cond (b := _) rfl (fun hc15 => ?_) (fun hc15 => ?_)
   ·
    replace h := bif_t h hc15
    refine iwp_skip ?_
    refine thenQ_n ?_
    refine iwp_seq ?_
    refine iwp_block ?_
    refine iwp_reg (ils_cons rfl (mvI rfl rfl rfl rfl) <|
     ils_cons rfl (asI rfl rfl rfl rfl) <|
     ils_end ?_)
    obtain ⟨x16, hx16, h⟩ := bno_e h
    obtain ⟨x17, hx17, h⟩ := bno_e h
    refine iwp_reg (ils_cons rfl (iop_move rfl rfl (lb rfl) (sv (d := .fn 45 [.fptr [.int _ _]]) rfl)) <|
     ils_cons rfl (mvL rfl rfl rfl rfl) <|
     ils_cons rfl (mvI rfl rfl rfl rfl) <|
     ils_cons rfl (iop_idxT E_paths_Bind (cs := q9) rfl rfl (lb rfl) Try.underlying33 ti86 (svL rfl) (svI rfl) hx16 rfl rfl) <|
     ils_cons rfl (iop_load_fa (cs := q9) rfl rfl (lb rfl) Try.underlying86 ag86 ti86 (by decide) (sv (d := .fptr q9) rfl) (nle rfl) rfl) <|
     ils_cons rfl (iop_callv (r := .bool _) rfl rfl (lb rfl) cl45 (sv (d := .fn 45 [.fptr [.int _ _]]) rfl) (.cons (svA q9 rfl) .nil) rfl (p_paths_Fall_1 _ _ _ hx17)) <|
     ils_end ?_)
    refine iwp_cond (b := _) rfl (fun hc18 => ?_) (fun hc18 => ?_)
    ·
     replace h := bif_t h hc18
     refine iwp_reg (ils_cons rfl (mvI rfl rfl rfl rfl) <|
      ils_cons rfl (asI rfl rfl rfl rfl) <|
      ils_end ?_)
     refine iwp_ret ?_
     refine blockQ_r ?_
     refine thenQ_r ?_
     refine thenQ_r ?_
     refine blockQ_r ?_
     refine thenQ_r ?_
     obtain rfl := Option.some.inj h
     refine ⟨.inr rfl, (.cons (sv rfl) .nil)⟩
    ·
     replace h := bif_f h hc18
     refine iwp_skip ?_
     refine blockQ_n ?_
     refine thenQ_n ?_
     obtain ⟨x19, hx19, h⟩ := bnd_e h
     refine iwp_region (ils_cons rfl (iop_intx rfl rfl (lb rfl) (svI rfl) (sv (d := .int _ 1) rfl) rfl hx19) <|
      ils_cons rfl (mvI rfl rfl rfl rfl) <|
      ils_nil ?_)
     refine thenQ_n ⟨(n0, x19), (fun i => i), ⟨(.sames rfl rfl), .nil, nd_of [] rfl (by decide), fun _ _ => rfl⟩, ?_, ?_⟩
     exact h
     exact Nat.lt_succ_self _
   ·
    replace h := bif_f h hc15
    refine iwp_exit ?_
    refine thenQ_e ?_
    refine thenQ_e ?_
    refine blockQ_e ?_
    refine thenQ_n ?_
    refine iwp_reg (ils_cons rfl (iop_assign rfl rfl (lb rfl) (sv (d := .int _ (-1)) rfl)) <|
     ils_end ?_)
    refine iwp_ret ?_
    obtain rfl := Option.some.inj h
    refine ⟨.inr rfl, (.cons (sv rfl) .nil)⟩

theorem p_slices_DeleteFunc_paths_Bind_paths_Bind_h_Fall_1 (a0 : (List T_paths_Bind)) (a1 : Int) (r : (List T_paths_Bind)) (h : slices_DeleteFunc_paths_Bind_paths_Bind_h_Fall_1 a0 a1 = some r) : FnH Try.prog 44 [.osl 1000 E_paths_Bind.sz a0.length, .fn 45 [.ref 1001 0]] [(1000, .blk 86 (D.flat (a0.map E_paths_Bind.d))), (1001, .blk 3 [.int .i64 a1])] (.osl 0 E_paths_Bind.sz r.length) [(1001, .blk 3 [.int .i64 a1]), (0, .blk 86 (D.flat (r.map E_paths_Bind.d)))] := by
 refine fnh_of_iwp (rs := [.osl 0 E_paths_Bind.sz r.length]) Try.func44 rfl Try.ntmps44 (nle rfl) fun O hO => ?_
 show IWP _ _ _ _ ⟨[(0, .osl 1000 E_paths_Bind.sz a0.length), (1, .fn 45 [.ref 1001 0])], [(1000, .blk 86 (D.flat (a0.map E_paths_Bind.d))), (1001, .blk 3 [.int .i64 a1])]⟩ _
 unfold slices_DeleteFunc_paths_Bind_paths_Bind_h_Fall_1 at h
 refine iwp_reg (ils_cons rfl (iop_assign rfl rfl (lb rfl) (sv (d := .nils) rfl)) <|
  ils_end ?_)
 obtain ⟨x1, hx1, h⟩ := bno_e h
 refine iwp_reg (ils_cons rfl (iop_move rfl rfl (lb rfl) (sv (d := .osl _ _ _) rfl)) <|
  ils_cons rfl (iop_move rfl rfl (lb rfl) (sv (d := .fn 45 [.ref _ _]) rfl)) <|
  ils_cons rfl (iop_callp (r := .int .i64 x1) rfl rfl (lb rfl) cl65 (.cons (sv (d := .osl _ _ _) rfl) (.cons (sv (d := .fn 45 [.ref _ _]) rfl) .nil)) (.cons (FDT E_paths_Bind rfl rfl) (.cons (.fn (.cons (.ref rfl rfl (fdl_refl _) rfl) .nil)) .nil)) rfl rfl (p_slices_IndexFunc_paths_Bind_paths_Bind_Fall_1 _ _ _ hx1)) <|
  ils_cons rfl (asI rfl rfl rfl rfl) <|
  ils_end ?_)
 refine iwp_seq ?_
 obtain ⟨x2, hx2, h⟩ := bnd_e h
 refine iwp_reg (ils_cons rfl (mvI rfl rfl rfl rfl) <|
  ils_cons rfl (iop_cmpx rfl rfl (lb rfl) (svI rfl) (sv (d := .int _ (-1)) rfl) rfl hx2) <|
  ils_end ?_)
 refine iwp_cond (b := _) rfl (fun hc3 => ?_) (fun hc3 => ?_)
 ·
  replace h := bif_t h hc3
  refine iwp_reg (ils_cons rfl (iop_move rfl rfl (lb rfl) (sv (d := .osl _ _ _) rfl)) <|
   ils_cons rfl (iop_assign rfl rfl (lb rfl) (sv (d := .osl _ _ _) rfl)) <|
   ils_end ?_)
  refine iwp_ret ?_
  refine thenQ_r ?_
  obtain rfl := Option.some.inj h
  refine ⟨.inr rfl, (fun i => if i = 0 then 1000 else i), ⟨.nil, (.cons (.blk rfl rfl rfl) (.cons (EntW.lst rfl) .nil)), nd_of [1001, 1000] rfl (by decide), (fun i hi => by first | rfl | (show (if _ then _ else _) = _; (repeat' split) <;> omega))⟩, (.cons (sv rfl) .nil), rfl⟩
 ·
  replace h := bif_f h hc3
  refine iwp_skip ?_
  refine thenQ_n ?_
  refine iwp_seq ?_
  obtain ⟨x4, hx4, h⟩ := bnd_e h
  refine iwp_reg (ils_cons rfl (mvI rfl rfl rfl rfl) <|
   ils_cons rfl (iop_intx rfl rfl (lb rfl) (svI rfl) (sv (d := .int _ 1) rfl) rfl hx4) <|
   ils_cons rfl (asI rfl rfl rfl rfl) <|
   ils_end ?_)
  refine iwp_block ?_
  refine iwp_loopP (α := Nat × (List T_paths_Bind) × Int × Int) (fun z => ⟨[(0, .osl 1000 E_paths_Bind.sz z.2.1.length), (1, .fn 45 [.ref 1001 0]), (5, .int .i64 z.2.2.1), (6, .int .i64 z.2.2.2)], [(1000, .blk 86 (D.flat (z.2.1.map E_paths_Bind.d))), (1001, .blk 3 [.int .i64 a1])]⟩) (fun z => slices_DeleteFunc_paths_Bind_paths_Bind_h_Fall_1_L0 a1 z.1 z.2.1 z.2.2.1 z.2.2.2 = some r) (fun z => z.1) (fuel, a0, x1, x4) (fun i => i) ⟨(.sames rfl rfl), (.cons (EntW.lst rfl) (.cons (.blk rfl rfl rfl) .nil)), nd_of [1000, 1001] rfl (by decide), fun _ _ => rfl⟩ ?_ ?_
  ·exact h
  ·
   rintro ⟨n0, v17, v18, v19⟩ h
   cases n0 with
   | zero => exact absurd h (by unfold slices_DeleteFunc_paths_Bind_paths_Bind_h_Fall_1_L0; exact nofun)
   | succ n0 =>
    unfold slices_DeleteFunc_paths_Bind_paths_Bind_h_Fall_1_L0 at h
    refine iwp_seq ?_
    obtain ⟨x32, hx32, h⟩ := bnd_e h
    refine iwp_reg (ils_cons rfl (mvI rfl rfl rfl rfl) <|
     ils_cons rfl (iop_move rfl rfl (lb rfl) (sv (d := .osl _ _ _) rfl)) <|
     ils_cons rfl (iop_lenO rfl rfl (lb rfl) Try.underlying33 (sv (d := .osl _ _ _) rfl)) <|
     ils_cons rfl (iop_cmpx rfl rfl (lb rfl) (svI rfl) (svI rfl) rfl hx32) <|
     ils_end ?_)
    refine iwp_cond (b := _) rfl (fun hc33 => ?_) (fun hc33 => ?_)
    ·
     replace h := bif_t h hc33
     refine iwp_skip ?_
     refine thenQ_n ?_
     refine iwp_seq ?_
     refine iwp_block ?_
     obtain ⟨x34, hx34, h⟩ := bno_e h
     obtain ⟨x35, hx35, h⟩ := bno_e h
     refine iwp_reg (ils_cons rfl (iop_move rfl rfl (lb rfl) (sv (d := .osl _ _ _) rfl)) <|
      ils_cons rfl (mvI rfl rfl rfl rfl) <|
      ils_cons rfl (iop_idxO E_paths_Bind.toEnc0 rfl rfl (lb rfl) Try.underlying33 ti86 (sv (d := .osl _ _ _) rfl) rfl (svI rfl) hx34) <|
      ils_cons rfl (iop_loadEa E_paths_Bind.toEnc0 (cs := q9) rfl rfl (lb rfl) Try.underlying86 ag86 ti86 (by decide) (svR rfl) rfl hx35 (nle rfl) rfl) <|
      ils_cons rfl (iop_allocS (cs := q9) (cs' := [.int .i64 0, .int .i64 0]) 0 rfl rfl (lb rfl) rfl ti86 rfl rfl (.all _)) <|
      ils_cons rfl (stA q9 q9 ti86 rfl rfl rfl rfl rfl rfl rfl rfl (nle rfl) rfl) <|
      ils_end ?_)
     obtain ⟨x36, hx36, h⟩ := bno_e h
     refine iwp_reg (ils_cons rfl (iop_move rfl rfl (lb rfl) (sv (d := .fn 45 [.ref _ _]) rfl)) <|
      ils_cons rfl (lra q9 la86 rfl rfl rfl rfl rfl (nle rfl) rfl) <|
      ils_cons rfl (iop_callvp (r := .bool x36) rfl rfl (lb rfl) cl45 (sv (d := .fn 45 [.ref _ _]) rfl) (.cons (svA q9 rfl) .nil) (.k (.cons (.ref rfl rfl (fdl_refl _) rfl) .nil)) rfl rfl (p_paths_Fall_1 _ _ _ hx36)) <|
      ils_cons rfl (iop_not rfl rfl (lb rfl) (svB rfl)) <|
      ils_end ?_)
     refine iwp_cond (b := _) rfl (fun hc37 => ?_) (fun hc37 => ?_)
     ·
      replace h := bif_t h hc37
      obtain ⟨x38, hx38, h⟩ := bno_e h
      obtain ⟨x39, hx39, h⟩ := bno_e h
      obtain ⟨x40, hx40, h⟩ := bnd_e h
      refine iwp_reg (ils_cons rfl (iop_move rfl rfl (lb rfl) (sv (d := .osl _ _ _) rfl)) <|
       ils_cons rfl (mvI rfl rfl rfl rfl) <|
       ils_cons rfl (lra q9 la86 rfl rfl rfl rfl rfl (nle rfl) rfl) <|
       ils_cons rfl (iop_idxO E_paths_Bind.toEnc0 rfl rfl (lb rfl) Try.underlying33 ti86 (sv (d := .osl _ _ _) rfl) rfl (svI rfl) hx38) <|
       ils_cons rfl (iop_storeE E_paths_Bind.toEnc0 (a' := x35) rfl rfl ti86 (svR rfl) rfl (svA q9 rfl) rfl rfl rfl hx39 (nle rfl) rfl hx40) <|
       ils_end ?_)
      obtain ⟨x41, hx41, h⟩ := bnd_e h
      refine iwp_region (ils_cons rfl (mvI rfl rfl rfl rfl) <|
       ils_cons rfl (iop_intx rfl rfl (lb rfl) (svI rfl) (sv (d := .int _ 1) rfl) rfl hx41) <|
       ils_cons rfl (asI rfl rfl rfl rfl) <|
       ils_nil ?_)
      refine blockQ_n ?_
      refine thenQ_n ?_
      obtain ⟨x42, hx42, h⟩ := bnd_e h
      refine iwp_region (ils_cons rfl (mvI rfl rfl rfl rfl) <|
       ils_cons rfl (iop_intx rfl rfl (lb rfl) (svI rfl) (sv (d := .int _ 1) rfl) rfl hx42) <|
       ils_cons rfl (asI rfl rfl rfl rfl) <|
       ils_nil ?_)
      refine thenQ_n ⟨(n0, x40, x41, x42), (fun i => i), ⟨(.cons (.same (congrArg (D.osl _ _) (len_set hx40 rfl).symm) rfl) (.sames rfl rfl)), (.cons (EntW.lst rfl) (.cons (.blk rfl rfl rfl) .nil)), nd_of [1000, 1001] rfl (by decide), fun _ _ => rfl⟩, ?_, ?_⟩
      exact h
      exact Nat.lt_succ_self _
     ·
      replace h := bif_f h hc37
      refine iwp_skip ?_
      refine blockQ_n ?_
      refine thenQ_n ?_
      obtain ⟨x43, hx43, h⟩ := bnd_e h
      refine iwp_region (ils_cons rfl (mvI rfl rfl rfl rfl) <|
       ils_cons rfl (iop_intx rfl rfl (lb rfl) (svI rfl) (sv (d := .int _ 1) rfl) rfl hx43) <|
       ils_cons rfl (asI rfl rfl rfl rfl) <|
       ils_nil ?_)
      refine thenQ_n ⟨(n0, v17, v18, x43), (fun i => i), ⟨(.sames rfl rfl), (.cons (EntW.lst rfl) (.cons (.blk rfl rfl rfl) .nil)), nd_of [1000, 1001] rfl (by decide), fun _ _ => rfl⟩, ?_, ?_⟩
      exact h
      exact Nat.lt_succ_self _
    ·
     replace h := bif_f h hc33
     refine iwp_exit ?_
     refine thenQ_e ?_
     refine thenQ_e ?_
     refine blockQ_e ?_
     refine thenQ_n ?_
     obtain ⟨x44, hx44, h⟩ := bno_e h
     refine iwp_reg (ils_cons rfl (iop_move rfl rfl (lb rfl) (sv (d := .osl _ _ _) rfl)) <|
      ils_cons rfl (mvI rfl rfl rfl rfl) <|
      ils_clrtail E_paths_Bind.toEnc0 rfl rfl rfl rfl (by decide) rfl rfl Try.underlying33 ti86 rfl rfl rfl rfl rfl (fun S1 h9 => sv ((h9 37 (by decide)).trans rfl)) hx44 <|
      ils_end ?_)
     obtain ⟨x45, hx45, h⟩ := bno_e h
     refine iwp_reg (ils_cons rfl (iop_move rfl rfl (lb rfl) (sv (d := .osl _ _ _) rfl)) <|
      ils_cons rfl (mvI rfl rfl rfl rfl) <|
      ils_cons rfl (iop_truncO E_paths_Bind.toEnc0 rfl rfl (lb rfl) Try.underlying33 ti86 (sv (d := .osl _ _ _) rfl) rfl (Nat.le_trans (cut_le hx44) (Nat.le_of_eq rfl)) (svI rfl) hx45) <|
      ils_cons rfl (iop_assign rfl rfl (lb rfl) (sv (d := .osl _ _ _) rfl)) <|
      ils_end ?_)
     refine iwp_ret ?_
     obtain rfl := Option.some.inj h
     refine ⟨.inr rfl, (fun i => if i = 0 then 1000 else i), ⟨.nil, (.cons (.blk rfl rfl rfl) (.cons (EntW.lst rfl) .nil)), nd_of [1001, 1000] rfl (by decide), (fun i hi => by first | rfl | (show (if _ then _ else _) = _; (repeat' split) <;> omega))⟩, (.cons (sv rfl) .nil), rfl⟩

theorem p_paths_Fall (a0 : T_paths_State) (a1 : Int) (r : (T_paths_State × (List Int) × Bool)) (h : paths_Fall a0 a1 = some r) : PureAt Try.prog 12 [.agg (v0 a0), .int .i64 a1] (retD [.agg (v0 r.1), .slice false (r.2.1.map (eInt .i64).d), .bool r.2.2]) := by
 refine pure_of_iwpF (rs := [.agg (v0 r.1), .slice false (r.2.1.map (eInt .i64).d), .bool r.2.2]) Try.func12 rfl Try.ntmps12 (nle rfl) rfl fun O hO => ?_
 show IWP _ _ _ _ ⟨[(0, .agg (v0 a0)), (1, .int .i64 a1)], []⟩ _
 unfold paths_Fall at h
 refine iwp_reg (ils_cons rfl (iop_box' (cs := q3) 0 rfl rfl (lb rfl) rfl (svA q3 rfl) rfl rfl) <|
  ils_cons rfl (iop_box' (cs := [.int _ _]) 1 rfl rfl (lb rfl) rfl (svI rfl) rfl rfl) <|
  ils_cons rfl (iop_allocS (cs := q5) (cs' := (w14 false false 0 0 false false 0 0 false false 0 0 false false 0 0 0 ([] : List T_paths_Bind))) 2 rfl rfl (lb rfl) rfl ti35 rfl rfl (.k4 (.k (.k4 (.k (.k4 (.k (.k (.k (.cons (.nils _) .nil)))))))))) <|
  ils_cons rfl (iop_assign rfl rfl (lb rfl) (sv (d := .nils) rfl)) <|
  ils_cons rfl (iop_assign rfl rfl (lb rfl) (sv (d := .bool false) rfl)) <|
  ils_end ?_)
 obtain ⟨x1, hx1, h⟩ := bno_e h
 refine iwp_reg (ils_cons rfl (lra q3 la35 rfl rfl rfl rfl rfl (nle rfl) rfl) <|
  ils_cons rfl (iop_callh2 (r' := .agg (w15 x1.1 x1.2.1 x1.2.2.1 x1.2.2.2.1 x1.2.2.2.2.1 x1.2.2.2.2.2.1 x1.2.2.2.2.2.2.1 x1.2.2.2.2.2.2.2.1 x1.2.2.2.2.2.2.2.2.1 x1.2.2.2.2.2.2.2.2.2.1 x1.2.2.2.2.2.2.2.2.2.2.1 x1.2.2.2.2.2.2.2.2.2.2.2.1 x1.2.2.2.2.2.2.2.2.2.2.2.2.1 x1.2.2.2.2.2.2.2.2.2.2.2.2.2.1 x1.2.2.2.2.2.2.2.2.2.2.2.2.2.2.1 x1.2.2.2.2.2.2.2.2.2.2.2.2.2.2.2.1 x1.2.2.2.2.2.2.2.2.2.2.2.2.2.2.2.2.1 (.osl 3 E_paths_Bind.sz x1.2.2.2.2.2.2.2.2.2.2.2.2.2.2.2.2.2.length))) (H1' := [(3, .blk 86 (D.flat (x1.2.2.2.2.2.2.2.2.2.2.2.2.2.2.2.2.2.map E_paths_Bind.d)))]) 3 [] rfl rfl (lb rfl) cl40 (.cons (svA q3 rfl) .nil) rfl rfl ⟨rfl, rfl, by decide, rfl, List.forall_mem_nil _⟩ (p_paths_State_own_h _ _ hx1) rfl rfl (List.forall_mem_cons.2 ⟨⟨rfl, (handLr E_paths_Bind)⟩, List.forall_mem_nil _⟩) (by simp only [List.map_cons, List.map_nil, Ent.ren, renL_flat, renL_ref]; rfl)) <|
  ils_cons rfl (iop_allocS (cs := q5) (cs' := (w14 false false 0 0 false false 0 0 false false 0 0 false false 0 0 0 ([] : List T_paths_Bind))) 4 rfl rfl (lb rfl) rfl ti35 rfl rfl (.k4 (.k (.k4 (.k (.k4 (.k (.k (.k (.cons (.nils _) .nil)))))))))) <|
  ils_cons rfl (stA q4 q4 ti35 rfl rfl rfl rfl rfl rfl rfl rfl (nle rfl) rfl) <|
  ils_end ?_)
 refine iwp_seq ?_
 obtain ⟨x2, hx2, h⟩ := bno_e h
 obtain ⟨x3, hx3, h⟩ := bno_e h
 obtain ⟨x4, hx4, h⟩ := bnd_e h
 obtain ⟨x5, hx5, h⟩ := bnd_e h
 refine iwp_reg (ils_cons rfl (lra q3 la35 rfl rfl rfl rfl rfl (nle rfl) rfl) <|
  ils_cons rfl (iop_load_rs (d := .int _ _) rfl rfl (lb rfl) Try.underlying3 ag3 ti3 (by decide) (svR rfl) rfl (nle rfl) rfl) <|
  ils_cons rfl (iop_call (r := .bool _) rfl rfl (lb rfl) cl43 (.cons (svA q3 rfl) (.cons (svI rfl) .nil)) rfl (p_paths_State_up _ _ _ hx2)) <|
  ils_cons rfl (iop_not rfl rfl (lb rfl) (svB rfl)) <|
  ils_cons rfl (mvB rfl rfl rfl rfl) <|
  ils_guard rfl rfl (.one rfl) rfl (by decide) (fun hb => (lra q3 la35 rfl rfl rfl rfl rfl (nle rfl) rfl)) <|
  ils_guard rfl rfl (.one rfl) rfl (by decide) (fun hb => (iop_call (r := .int _ _) rfl rfl (lb rfl) cl28 (.cons (svcA (v0 a0) rfl hb) .nil) rfl (p_paths_Check _ _ (gd_t hx3 hb)))) <|
  ils_guard rfl rfl (.one rfl) rfl (by decide) (fun hb => (iop_cmpx rfl rfl (lb rfl) (svcI rfl hb) (sv (d := .int _ 0) rfl) rfl hx4)) <|
  ils_cons rfl (iop_orx rfl rfl (lb rfl) (svB rfl) rfl rfl hx5) <|
  ils_end ?_)
 refine iwp_cond (b := _) rfl (fun hc6 => ?_) (fun hc6 => ?_)
 ·
  replace h := bif_t h hc6
  refine iwp_reg (ils_cons rfl (lra q4 la35 rfl rfl rfl rfl rfl (nle rfl) rfl) <|
   ils_cons rfl (stA q4 q4 ti35 rfl rfl rfl rfl rfl rfl rfl rfl (nle rfl) rfl) <|
   ils_cons rfl (iop_assign rfl rfl (lb rfl) (sv (d := .nils) rfl)) <|
   ils_cons rfl (iop_assign rfl rfl (lb rfl) (sv (d := .bool false) rfl)) <|
   ils_end ?_)
  refine iwp_ret ?_
  refine thenQ_r ?_
  obtain rfl := Option.some.inj h
  refine ⟨.inr rfl, _, (.cons (rva la35 rfl rfl (nle rfl) rfl) (.cons (sv rfl) (.cons (sv rfl) .nil))), (.cons (.agg (.k4 (.k (.k4 (.k (.k4 (.k (.k (.k (.cons (FDT E_paths_Bind rfl rfl) .nil)))))))))) (.cons (.nils _) (.all _)))⟩
 ·
  replace h := bif_f h hc6
  refine iwp_skip ?_
  refine thenQ_n ?_
  obtain ⟨hk7, h⟩ := chk_e h
  obtain ⟨x8, hx8, h⟩ := bnd_e h
  obtain ⟨x9, hx9, h⟩ := bnd_e h
  obtain ⟨x10, hx10, h⟩ := bnd_e h
  obtain ⟨x11, hx11, h⟩ := bnd_e h
  obtain ⟨hk12, h⟩ := chk_e h
  obtain ⟨x13, hx13, h⟩ := bnd_e h
  obtain ⟨x14, hx14, h⟩ := bnd_e h
  obtain ⟨x15, hx15, h⟩ := bnd_e h
  obtain ⟨x16, hx16, h⟩ := bnd_e h
  refine iwp_drw rfl [⟨[3], [1], [(23, .int .i64 a1)], []⟩,
   ⟨[3], [1], [(24, .int .i64 a1)], []⟩,
   ⟨[7], [], [(25, .ref 4 0)], []⟩,
   ⟨[23, 25], [], [(26, .ref 4 (0 + (a1 : Int).toNat * 4 + 0))], []⟩,
   ⟨[26], [], [(27, .ref 4 (0 + (a1 : Int).toNat * 4 + 0))], []⟩,
   ⟨[27], [4], [], [(4, .blk 35 (w15 x8.Up x8.Dead x8.Bytes x8.Ticks x9.Up x9.Dead x9.Bytes x9.Ticks x10.Up x10.Dead x10.Bytes x10.Ticks x11.Up x11.Dead x11.Bytes x11.Ticks x1.2.2.2.2.2.2.2.2.2.2.2.2.2.2.2.2.1 (.osl 3 E_paths_Bind.sz x1.2.2.2.2.2.2.2.2.2.2.2.2.2.2.2.2.2.length)))]⟩,
   ⟨[7], [], [(28, .ref 4 0)], []⟩,
   ⟨[24, 28], [], [(29, .ref 4 (0 + (a1 : Int).toNat * 4 + 0))], []⟩,
   ⟨[29], [], [(30, .ref 4 (0 + (a1 : Int).toNat * 4 + 1))], []⟩,
   ⟨[30], [4], [], [(4, .blk 35 (w15 x13.Up x13.Dead x13.Bytes x13.Ticks x14.Up x14.Dead x14.Bytes x14.Ticks x15.Up x15.Dead x15.Bytes x15.Ticks x16.Up x16.Dead x16.Bytes x16.Ticks x1.2.2.2.2.2.2.2.2.2.2.2.2.2.2.2.2.1 (.osl 3 E_paths_Bind.sz x1.2.2.2.2.2.2.2.2.2.2.2.2.2.2.2.2.2.length)))]⟩] rfl ?_ (by kernel_rfl) ?_
  ·refine .cons (lop rfl rfl fun S hA => (iop_load_rs (d := .int _ _) rfl rfl (lb rfl) Try.underlying3 ag3 ti3 (by decide) (svaR hA rfl rfl) (agi hA rfl rfl) (nle rfl) rfl)) ?_
   refine .cons (lop rfl rfl fun S hA => (iop_load_rs (d := .int _ _) rfl rfl (lb rfl) Try.underlying3 ag3 ti3 (by decide) (svaR hA rfl rfl) (agi hA rfl rfl) (nle rfl) rfl)) ?_
   refine .cons (lop rfl rfl fun S hA => (iop_fieldAddr_ref rfl rfl (lb rfl) Try.underlying35 rfl ti32 (by decide) (svaR hA rfl rfl) (off' := 0) rfl)) ?_
   refine .cons (lop rfl rfl fun S hA => (iop_index_sel rfl rfl (lb rfl) Try.underlying32 ti31 (svaR hA rfl rfl) (svaI hA rfl rfl) hk7)) ?_
   refine .cons (lop rfl rfl fun S hA => (iop_field_sel rfl rfl (lb rfl) Try.underlying31 rfl ti4 (by decide) (svaR hA rfl rfl) (k' := 0) rfl)) ?_
   refine .cons (lop rfl rfl fun S hA => (iop_store_sel (b := 0) (k := 0) (sz := 4) (cs' := (w15 x8.Up x8.Dead x8.Bytes x8.Ticks x9.Up x9.Dead x9.Bytes x9.Ticks x10.Up x10.Dead x10.Bytes x10.Ticks x11.Up x11.Dead x11.Bytes x11.Ticks x1.2.2.2.2.2.2.2.2.2.2.2.2.2.2.2.2.1 (.osl 3 E_paths_Bind.sz x1.2.2.2.2.2.2.2.2.2.2.2.2.2.2.2.2.2.length))) rfl rfl ti4 (svaR hA rfl rfl) (agi hA rfl rfl) (sv (d := .bool false) rfl) rfl rfl rfl hk7 rfl ⟨⟨⟨⟨trivial, fun h => by rw [← hx8, ← hx9, ← hx10, ← hx11, h]; rfl⟩, fun h => by rw [← hx8, ← hx9, ← hx10, ← hx11, h]; rfl⟩, fun h => by rw [← hx8, ← hx9, ← hx10, ← hx11, h]; rfl⟩, fun h => by rw [← hx8, ← hx9, ← hx10, ← hx11, h]; rfl⟩)) ?_
   refine .cons (lop rfl rfl fun S hA => (iop_fieldAddr_ref rfl rfl (lb rfl) Try.underlying35 rfl ti32 (by decide) (svaR hA rfl rfl) (off' := 0) rfl)) ?_
   refine .cons (lop rfl rfl fun S hA => (iop_index_sel rfl rfl (lb rfl) Try.underlying32 ti31 (svaR hA rfl rfl) (svaI hA rfl rfl) hk12)) ?_
   refine .cons (lop rfl rfl fun S hA => (iop_field_sel rfl rfl (lb rfl) Try.underlying31 rfl ti4 (by decide) (svaR hA rfl rfl) (k' := 1) rfl)) ?_
   refine .cons (lop rfl rfl fun S hA => (iop_store_sel (b := 0) (k := 1) (sz := 4) (cs' := (w15 x13.Up x13.Dead x13.Bytes x13.Ticks x14.Up x14.Dead x14.Bytes x14.Ticks x15.Up x15.Dead x15.Bytes x15.Ticks x16.Up x16.Dead x16.Bytes x16.Ticks x1.2.2.2.2.2.2.2.2.2.2.2.2.2.2.2.2.1 (.osl 3 E_paths_Bind.sz x1.2.2.2.2.2.2.2.2.2.2.2.2.2.2.2.2.2.length))) rfl rfl ti4 (svaR hA rfl rfl) (agi hA rfl rfl) (sv (d := .bool true) rfl) rfl rfl rfl hk12 rfl ⟨⟨⟨⟨trivial, fun h => by rw [← hx13, ← hx14, ← hx15, ← hx16, h]; rfl⟩, fun h => by rw [← hx13, ← hx14, ← hx15, ← hx16, h]; rfl⟩, fun h => by rw [← hx13, ← hx14, ← hx15, ← hx16, h]; rfl⟩, fun h => by rw [← hx13, ← hx14, ← hx15, ← hx16, h]; rfl⟩)) ?_
   exact .nil
  refine iwp_reg (ils_cons rfl (iop_assign rfl rfl (lb rfl) (sv (d := .nils) rfl)) <|
   ils_end ?_)
  refine iwp_seq ?_
  refine iwp_reg (ils_cons rfl (faR 17 rfl rfl rfl Try.underlying35 rfl ti33 (lb rfl) rfl rfl) <|
   ils_cons rfl (lrL la33 rfl rfl rfl rfl rfl (nle rfl) rfl) <|
   ils_cons rfl (iop_lenT E_paths_Bind (l := a0.Binds) rfl rfl (lb rfl) Try.underlying33 (svL rfl)) <|
   ils_cons rfl (iop_move rfl rfl (lb rfl) (sv (d := .int _ 0) rfl)) <|
   ils_end ?_)
  refine iwp_block ?_
  refine iwp_loopP (α := Nat × (List Int) × Int) (fun z => ⟨[(3, .ref 1 0), (4, .ref 2 0), (7, .ref 4 0), (8, .gsl 26 (eInt .i64).sz (z.2.1.map (eInt .i64).d)), (32, .slice false (a0.Binds.map E_paths_Bind.d)), (33, .int .i64 (a0.Binds.length : Int)), (34, .int .i64 z.2.2)], [(1, .blk 3 [.int .i64 a1]), (2, .blk 35 (w14 false false 0 0 false false 0 0 false false 0 0 false false 0 0 0 ([] : List T_paths_Bind))), (4, .blk 35 (w15 x13.Up x13.Dead x13.Bytes x13.Ticks x14.Up x14.Dead x14.Bytes x14.Ticks x15.Up x15.Dead x15.Bytes x15.Ticks x16.Up x16.Dead x16.Bytes x16.Ticks x1.2.2.2.2.2.2.2.2.2.2.2.2.2.2.2.2.1 (.osl 3 E_paths_Bind.sz x1.2.2.2.2.2.2.2.2.2.2.2.2.2.2.2.2.2.length))), (26, .tail 3 (eInt .i64).sz z.2.1.length), (3, .blk 86 (D.flat (x1.2.2.2.2.2.2.2.2.2.2.2.2.2.2.2.2.2.map E_paths_Bind.d)))]⟩) (fun z => paths_Fall_L0 a0 a1 x1 x13 x14 x15 x16 z.1 z.2.1 z.2.2 = some r) (fun z => z.1) (fuel, ([] : (List Int)), 0) (fun i => if i = 26 then 81 else i) ⟨(.s rfl rfl (.s rfl rfl (.s rfl rfl (.cons (.nils rfl) (.sames rfl rfl))))), (.cons (.blk rfl rfl rfl) (.cons (.blk rfl rfl rfl) (.cons (.blk rfl rfl rfl) (.cons (.nils rfl) (.cons (EntW.lst rfl) .nil))))), nd_of [1, 2, 4, 81, 3] rfl (by decide), (fun i hi => by first | rfl | (show (if _ then _ else _) = _; (repeat' split) <;> omega))⟩ ?_ ?_
  ·exact h
  ·
   rintro ⟨n0, v25, v26⟩ h
   cases n0 with
   | zero => exact absurd h (by unfold paths_Fall_L0; exact nofun)
   | succ n0 =>
    unfold paths_Fall_L0 at h
    obtain ⟨x35, hx35, h⟩ := bnd_e h
    refine iwp_reg (ils_cons rfl (iop_cmpx rfl rfl (lb rfl) (svI rfl) (svI rfl) rfl hx35) <|
     ils_end ?_)
    refine iwp_seq ?_
    refine iwp_cond (b := _) rfl (fun hc36 => ?_) (fun hc36 => ?_)
    ·
     replace h := bif_t h hc36
     refine iwp_skip ?_
     refine thenQ_n ?_
     refine iwp_seq ?_
     refine iwp_block ?_
     obtain ⟨x37, hx37, h⟩ := bno_e h
     refine iwp_reg (ils_cons rfl (iop_idxT E_paths_Bind (cs := q9) rfl rfl (lb rfl) Try.underlying33 ti86 (svL rfl) (svI rfl) hx37 rfl rfl) <|
      ils_cons rfl (iop_load_fa (cs := q9) rfl rfl (lb rfl) Try.underlying86 ag86 ti86 (by decide) (sv (d := .fptr q9) rfl) (nle rfl) rfl) <|
      ils_cons rfl (iop_allocS (cs := q9) (cs' := [.int .i64 0, .int .i64 0]) 27 rfl rfl (lb rfl) rfl ti86 rfl rfl (.all _)) <|
      ils_cons rfl (stA q9 q9 ti86 rfl rfl rfl rfl rfl rfl rfl rfl (nle rfl) rfl) <|
      ils_end ?_)
     obtain ⟨x38, hx38, h⟩ := bnd_e h
     refine iwp_reg (ils_cons rfl (faR 1 rfl rfl rfl Try.underlying86 rfl ti3 (lb rfl) rfl rfl) <|
      ils_cons rfl (iop_load_rs (d := .int _ _) rfl rfl (lb rfl) Try.underlying3 ag3 ti3 (by decide) (svR rfl) rfl (nle rfl) rfl) <|
      ils_cons rfl (iop_load_rs (d := .int _ _) rfl rfl (lb rfl) Try.underlying3 ag3 ti3 (by decide) (svR rfl) rfl (nle rfl) rfl) <|
      ils_cons rfl (iop_cmpx rfl rfl (lb rfl) (svI rfl) (svI rfl) rfl hx38) <|
      ils_end ?_)
     refine iwp_cond (b := _) rfl (fun hc39 => ?_) (fun hc39 => ?_)
     ·
      replace h := bif_t h hc39
      obtain ⟨x40, hx40, h⟩ := bno_e h
      refine iwp_region (ils_cons rfl (iop_move rfl rfl (lb rfl) (sv (d := .gsl _ _ _) rfl)) <|
       ils_cons rfl (faR 0 rfl rfl rfl Try.underlying86 rfl ti3 (lb rfl) rfl rfl) <|
       ils_cons rfl (iop_load_rs (d := .int _ _) rfl rfl (lb rfl) Try.underlying3 ag3 ti3 (by decide) (svR rfl) rfl (nle rfl) rfl) <|
       ils_cons rfl (iop_bsT (eInt .i64) ([x37.Stream] : (List Int)) 28 rfl rfl (lb rfl) Try.underlying41 ti3 rfl (.cons (svI rfl) .nil) rfl rfl (by decide)) <|
       ils_cons rfl (iop_appT (eInt .i64) 29 rfl rfl (lb rfl) Try.underlying41 ti3 rfl rfl rfl rfl (svg rfl) hx40) <|
       ils_cons rfl (iop_assign rfl rfl (lb rfl) (sv (d := .gsl _ _ _) rfl)) <|
       ils_nil ?_)
      refine blockQ_n ?_
      refine thenQ_n ?_
      obtain ⟨x41, hx41, h⟩ := bnd_e h
      refine iwp_region (ils_cons rfl (iop_intx rfl rfl (lb rfl) (svI rfl) (sv (d := .int _ 1) rfl) rfl hx41) <|
       ils_cons rfl (mvI rfl rfl rfl rfl) <|
       ils_nil ?_)
      refine thenQ_n ⟨(n0, x40, x41), (fun i => if i = 26 then 29 else i), ⟨(.sames rfl rfl), (.cons (.blk rfl rfl rfl) (.cons (.blk rfl rfl rfl) (.cons (.blk rfl rfl rfl) (.cons (.tail rfl) (.cons (EntW.lst rfl) .nil))))), nd_of [1, 2, 4, 29, 3] rfl (by decide), (fun i hi => by first | rfl | (show (if _ then _ else _) = _; (repeat' split) <;> omega))⟩, ?_, ?_⟩
      exact h
      exact Nat.lt_succ_self _
     ·
      replace h := bif_f h hc39
      refine iwp_skip ?_
      refine blockQ_n ?_
      refine thenQ_n ?_
      obtain ⟨x42, hx42, h⟩ := bnd_e h
      refine iwp_region (ils_cons rfl (iop_intx rfl rfl (lb rfl) (svI rfl) (sv (d := .int _ 1) rfl) rfl hx42) <|
       ils_cons rfl (mvI rfl rfl rfl rfl) <|
       ils_nil ?_)
      refine thenQ_n ⟨(n0, v25, x42), (fun i => i), ⟨(.sames rfl rfl), (.cons (.blk rfl rfl rfl) (.cons (.blk rfl rfl rfl) (.cons (.blk rfl rfl rfl) (.cons (.tail rfl) (.cons (EntW.lst rfl) .nil))))), nd_of [1, 2, 4, 26, 3] rfl (by decide), fun _ _ => rfl⟩, ?_, ?_⟩
      exact h
      exact Nat.lt_succ_self _
    ·
     replace h := bif_f h hc36
     refine iwp_exit ?_
     refine thenQ_e ?_
     refine thenQ_e ?_
     refine blockQ_e ?_
     refine thenQ_n ?_
     obtain ⟨x43, hx43, h⟩ := bno_e h
     refine iwp_reg (ils_cons rfl (faR 17 rfl rfl rfl Try.underlying35 rfl ti33 (lb rfl) rfl rfl) <|
      ils_cons rfl (iop_load_rs (d := .osl _ _ _) rfl rfl (lb rfl) Try.underlying33 ag33 ti33 (by decide) (svR rfl) rfl (nle rfl) rfl) <|
      ils_cons rfl (iop_makeFunc rfl rfl (lb rfl) (.cons (svR rfl) .nil)) <|
      ils_cons rfl (iop_callh2 (r' := .osl 27 E_paths_Bind.sz x43.length) (H1' := [(1, .blk 3 [.int .i64 a1]), (27, .blk 86 (D.flat (x43.map E_paths_Bind.d)))]) 27 [3, 1] rfl rfl (lb rfl) cl44 (.cons (sv (d := .osl _ _ _) rfl) (.cons (sv (d := .fn 45 [.ref _ _]) rfl) .nil)) rfl rfl ⟨rfl, rfl, by decide, rfl, List.forall_mem_cons.2 ⟨⟨rfl, rfl, (handL E_paths_Bind rfl), (handLr E_paths_Bind)⟩, List.forall_mem_cons.2 ⟨⟨rfl, rfl, rfl, rfl⟩, List.forall_mem_nil _⟩⟩⟩ (p_slices_DeleteFunc_paths_Bind_paths_Bind_h_Fall_1 _ _ _ hx43) rfl rfl (List.forall_mem_cons.2 ⟨⟨rfl, rfl⟩, List.forall_mem_cons.2 ⟨⟨rfl, (handLr E_paths_Bind)⟩, List.forall_mem_nil _⟩⟩) (by simp only [List.map_cons, List.map_nil, Ent.ren, renL_flat, renL_ref]; rfl)) <|
      ils_cons rfl (faR 17 rfl rfl rfl Try.underlying35 rfl ti33 (lb rfl) rfl rfl) <|
      ils_cons rfl (iop_store (ds' := q4) rfl rfl ti33 (svR rfl) rfl (sv (d := .osl _ _ _) rfl) rfl rfl rfl (nle rfl) rfl) <|
      ils_end ?_)
     refine iwp_join (α := Int) (fun z => ⟨[(4, .ref 2 0), (7, .ref 4 0), (8, .gsl 26 (eInt .i64).sz (v25.map (eInt .i64).d))], [(2, .blk 35 (w14 false false 0 0 false false 0 0 false false 0 0 false false 0 0 0 ([] : List T_paths_Bind))), (4, .blk 35 (w15 x13.Up x13.Dead x13.Bytes x13.Ticks x14.Up x14.Dead x14.Bytes x14.Ticks x15.Up x15.Dead x15.Bytes x15.Ticks x16.Up x16.Dead x16.Bytes x16.Ticks z (.osl 27 E_paths_Bind.sz x43.length))), (26, .tail 3 (eInt .i64).sz v25.length), (27, .blk 86 (D.flat (x43.map E_paths_Bind.d)))]⟩) (fun z => paths_Fall_J1 x13 x14 x15 x16 v25 x43 z = some r) ?_ ?_
     ·
      obtain ⟨x47, hx47, h⟩ := bnd_e h
      refine iwp_reg (ils_cons rfl (faR 16 rfl rfl rfl Try.underlying35 rfl ti3 (lb rfl) rfl rfl) <|
       ils_cons rfl (iop_load_rs (d := .int _ _) rfl rfl (lb rfl) Try.underlying3 ag3 ti3 (by decide) (svR rfl) rfl (nle rfl) rfl) <|
       ils_cons rfl (iop_load_rs (d := .int _ _) rfl rfl (lb rfl) Try.underlying3 ag3 ti3 (by decide) (svR rfl) rfl (nle rfl) rfl) <|
       ils_cons rfl (iop_cmpx rfl rfl (lb rfl) (svI rfl) (svI rfl) rfl hx47) <|
       ils_end ?_)
      refine iwp_cond (b := _) rfl (fun hc48 => ?_) (fun hc48 => ?_)
      ·
       replace h := bif_t h hc48
       refine iwp_region (ils_cons rfl (faR 16 rfl rfl rfl Try.underlying35 rfl ti3 (lb rfl) rfl rfl) <|
        ils_cons rfl (iop_store (ds' := q4) rfl rfl ti3 (svR rfl) rfl (sv (d := .int _ (-1)) rfl) rfl rfl rfl (nle rfl) rfl) <|
        ils_nil ?_)
       refine thenQ_n ⟨(-1), (fun i => i), ⟨(.sames rfl rfl), (.cons (.blk rfl rfl rfl) (.cons (.blk rfl rfl rfl) (.cons (.tail rfl) (.cons (EntW.lst rfl) .nil)))), nd_of [2, 4, 26, 27] rfl (by decide), fun _ _ => rfl⟩, ?_⟩
       exact h
      ·
       replace h := bif_f h hc48
       refine iwp_skip ?_
       refine thenQ_n ⟨x1.2.2.2.2.2.2.2.2.2.2.2.2.2.2.2.2.1, (fun i => i), ⟨(.sames rfl rfl), (.cons (.blk rfl rfl rfl) (.cons (.blk rfl rfl rfl) (.cons (.tail rfl) (.cons (EntW.lst rfl) .nil)))), nd_of [2, 4, 26, 27] rfl (by decide), fun _ _ => rfl⟩, ?_⟩
       exact h
     ·
      rintro v46 h
      unfold paths_Fall_J1 at h
      refine iwp_reg (ils_cons rfl (lra q4 la35 rfl rfl rfl rfl rfl (nle rfl) rfl) <|
       ils_cons rfl (iop_move rfl rfl (lb rfl) (sv (d := .gsl _ _ _) rfl)) <|
       ils_cons rfl (stA q4 q4 ti35 rfl rfl rfl rfl rfl rfl rfl rfl (nle rfl) rfl) <|
       ils_cons rfl (iop_assign rfl rfl (lb rfl) (sv (d := .gsl _ _ _) rfl)) <|
       ils_cons rfl (iop_assign rfl rfl (lb rfl) (sv (d := .bool true) rfl)) <|
       ils_end ?_)
      refine iwp_ret ?_
      obtain rfl := Option.some.inj h
      refine ⟨.inr rfl, _, (.cons (rva la35 rfl rfl (nle rfl) rfl) (.cons (sv rfl) (.cons (sv rfl) .nil))), (.cons (.agg (.k4 (.k (.k4 (.k (.k4 (.k (.k (.k (.cons (FDT E_paths_Bind rfl rfl) .nil)))))))))) (.cons (.gsl _ _ _) (.all _)))⟩

theorem p_paths_Free_1 (a0 : T_paths_Bind) (a1 : Int) (r : Bool) (h : paths_Free_1 a0 a1 = some r) : PureAt Try.prog 51 [.agg [.int .i64 a0.Stream, .int .i64 a0.Path], .fptr [.int .i64 a1]] (.bool r) := by
 refine pure_of_iwp (rs := [.bool r]) Try.func51 rfl Try.ntmps51 (nle rfl) rfl fun O hO => ?_
 show IWP _ _ _ _ ⟨[(0, .agg [.int .i64 a0.Stream, .int .i64 a0.Path]), (1, .fptr [.int .i64 a1])], []⟩ _
 unfold paths_Free_1 at h
 refine iwp_reg (ils_cons rfl (iop_box' (cs := q9) 0 rfl rfl (lb rfl) rfl (svA q9 rfl) rfl rfl) <|
  ils_cons rfl (iop_assign rfl rfl (lb rfl) (sv (d := .bool false) rfl)) <|
  ils_end ?_)
 obtain ⟨x1, hx1, h⟩ := bnd_e h
 refine iwp_reg (ils_cons rfl (faR 0 rfl rfl rfl Try.underlying86 rfl ti3 (lb rfl) rfl rfl) <|
  ils_cons rfl (iop_load_rs (d := .int _ _) rfl rfl (lb rfl) Try.underlying3 ag3 ti3 (by decide) (svR rfl) rfl (nle rfl) rfl) <|
  ils_cons rfl (iop_load_fs rfl rfl (lb rfl) Try.underlying3 ag3 ti3 (by decide) (sv (d := .fptr [.int _ _]) rfl) (nle rfl)) <|
  ils_cons rfl (iop_cmpx rfl rfl (lb rfl) (svI rfl) (svI rfl) rfl hx1) <|
  ils_cons rfl (asB rfl rfl rfl rfl) <|
  ils_end ?_)
 refine iwp_ret ?_
 obtain rfl := Option.some.inj h
 refine ⟨.inr rfl, (.cons (sv rfl) .nil)⟩

theorem p_slices_IndexFunc_paths_Bind_paths_Bind_Free_1 (a0 : (List T_paths_Bind)) (a1 : Int) (r : Int) (h : slices_IndexFunc_paths_Bind_paths_Bind_Free_1 a0 a1 = some r) : PureAt Try.prog 65 [.slice false (a0.map E_paths_Bind.d), .fn 51 [.fptr [.int .i64 a1]]] (.int .i64 r) := by
 refine pure_of_iwp (rs := [.int .i64 r]) Try.func65 rfl Try.ntmps65 (nle rfl) rfl fun O hO => ?_
 show IWP _ _ _ _ ⟨[(0, .slice false (a0.map E_paths_Bind.d)), (1, .fn 51 [.fptr [.int .i64 a1]])], []⟩ _
 unfold slices_IndexFunc_paths_Bind_paths_Bind_Free_1 at h
 refine iwp_reg (ils_cons rfl (iop_assign rfl rfl (lb rfl) (sv (d := .int _ 0) rfl)) <|
  ils_end ?_)
 refine iwp_seq ?_
 refine iwp_reg (ils_cons rfl (mvL rfl rfl rfl rfl) <|
  ils_cons rfl (iop_lenT E_paths_Bind (l := a0) rfl rfl (lb rfl) Try.underlying33 (svL rfl)) <|
  ils_cons rfl (iop_move rfl rfl (lb rfl) (sv (d := .int _ 0) rfl)) <|
  ils_end ?_)
 refine iwp_block ?_
 refine iwp_loopP (α := Nat × Int) (fun z => ⟨[(0, .slice false (a0.map E_paths_Bind.d)), (1, .fn 51 [.fptr [.int .i64 a1]]), (7, .int .i64 (a0.length : Int)), (8, .int .i64 z.2)], []⟩) (fun z => slices_IndexFunc_paths_Bind_paths_Bind_Free_1_L0 a0 a1 z.1 z.2 = some r) (fun z => z.1) (fuel, 0) (fun i => i) ⟨(.sames rfl rfl), .nil, nd_of [] rfl (by decide), fun _ _ => rfl⟩ ?_ ?_
 ·exact h
 ·
  rintro ⟨n0, v7⟩ h
  cases n0 with
  | zero => exact absurd h (by unfold slices_IndexFunc_paths_Bind_paths_Bind_Free_1_L0; exact nofun)
  | succ n0 =>
   unfold slices_IndexFunc_paths_Bind_paths_Bind_Free_1_L0 at h
   obtain ⟨x14, hx14, h⟩ := bnd_e h
   refine iwp_reg (ils_cons rfl (iop_cmpx rfl rfl (lb rfl) (svI rfl) (svI rfl) rfl hx14) <|
    ils_end ?_)
   refine iwp_seq ?_
   refine iwp_cond (b := _) rfl (fun hc15 => ?_) (fun hc15 => ?_)
   ·
    replace h := bif_t h hc15
    refine iwp_skip ?_
    refine thenQ_n ?_
    refine iwp_seq ?_
    refine iwp_block ?_
    refine iwp_reg (ils_cons rfl (mvI rfl rfl rfl rfl) <|
     ils_cons rfl (asI rfl rfl rfl rfl) <|
     ils_end ?_)
    obtain ⟨x16, hx16, h⟩ := bno_e h
    obtain ⟨x17, hx17, h⟩ := bno_e h
    refine iwp_reg (ils_cons rfl (iop_move rfl rfl (lb rfl) (sv (d := .fn 51 [.fptr [.int _ _]]) rfl)) <|
     ils_cons rfl (mvL rfl rfl rfl rfl) <|
     ils_cons rfl (mvI rfl rfl rfl rfl) <|
     ils_cons rfl (iop_idxT E_paths_Bind (cs := q9) rfl rfl (lb rfl) Try.underlying33 ti86 (svL rfl) (svI rfl) hx16 rfl rfl) <|
     ils_cons rfl (iop_load_fa (cs := q9) rfl rfl (lb rfl) Try.underlying86 ag86 ti86 (by decide) (sv (d := .fptr q9) rfl) (nle rfl) rfl) <|
     ils_cons rfl (iop_callv (r := .bool _) rfl rfl (lb rfl) cl51 (sv (d := .fn 51 [.fptr [.int _ _]]) rfl) (.cons (svA q9 rfl) .nil) rfl (p_paths_Free_1 _ _ _ hx17)) <|
     ils_end ?_)
    refine iwp_cond (b := _) rfl (fun hc18 => ?_) (fun hc18 => ?_)
    ·
     replace h := bif_t h hc18
     refine iwp_reg (ils_cons rfl (mvI rfl rfl rfl rfl) <|
      ils_cons rfl (asI rfl rfl rfl rfl) <|
      ils_end ?_)
     refine iwp_ret ?_
     refine blockQ_r ?_
     refine thenQ_r ?_
     refine thenQ_r ?_
     refine blockQ_r ?_
     refine thenQ_r ?_
     obtain rfl := Option.some.inj h
     refine ⟨.inr rfl, (.cons (sv rfl) .nil)⟩
    ·
     replace h := bif_f h hc18
     refine iwp_skip ?_
     refine blockQ_n ?_
     refine thenQ_n ?_
     obtain ⟨x19, hx19, h⟩ := bnd_e h
     refine iwp_region (ils_cons rfl (iop_intx rfl rfl (lb rfl) (svI rfl) (sv (d := .int _ 1) rfl) rfl hx19) <|
      ils_cons rfl (mvI rfl rfl rfl rfl) <|
      ils_nil ?_)
     refine thenQ_n ⟨(n0, x19), (fun i => i), ⟨(.sames rfl rfl), .nil, nd_of [] rfl (by decide), fun _ _ => rfl⟩, ?_, ?_⟩
     exact h
     exact Nat.lt_succ_self _
   ·
    replace h := bif_f h hc15
    refine iwp_exit ?_
    refine thenQ_e ?_
    refine thenQ_e ?_
    refine blockQ_e ?_
    refine thenQ_n ?_
    refine iwp_reg (ils_cons rfl (iop_assign rfl rfl (lb rfl) (sv (d := .int _ (-1)) rfl)) <|
     ils_end ?_)
    refine iwp_ret ?_
    obtain rfl := Option.some.inj h
    refine ⟨.inr rfl, (.cons (sv rfl) .nil)⟩

theorem p_slices_DeleteFunc_paths_Bind_paths_Bind_h_Free_1 (a0 : (List T_paths_Bind)) (a1 : Int) (r : (List T_paths_Bind)) (h : slices_DeleteFunc_paths_Bind_paths_Bind_h_Free_1 a0 a1 = some r) : FnH Try.prog 44 [.osl 1000 E_paths_Bind.sz a0.length, .fn 51 [.ref 1001 0]] [(1000, .blk 86 (D.flat (a0.map E_paths_Bind.d))), (1001, .blk 3 [.int .i64 a1])] (.osl 0 E_paths_Bind.sz r.length) [(1001, .blk 3 [.int .i64 a1]), (0, .blk 86 (D.flat (r.map E_paths_Bind.d)))] := by
 refine fnh_of_iwp (rs := [.osl 0 E_paths_Bind.sz r.length]) Try.func44 rfl Try.ntmps44 (nle rfl) fun O hO => ?_
 show IWP _ _ _ _ ⟨[(0, .osl 1000 E_paths_Bind.sz a0.length), (1, .fn 51 [.ref 1001 0])], [(1000, .blk 86 (D.flat (a0.map E_paths_Bind.d))), (1001, .blk 3 [.int .i64 a1])]⟩ _
 unfold slices_DeleteFunc_paths_Bind_paths_Bind_h_Free_1 at h
 refine iwp_reg (ils_cons rfl (iop_assign rfl rfl (lb rfl) (sv (d := .nils) rfl)) <|
  ils_end ?_)
 obtain ⟨x1, hx1, h⟩ := bno_e h
 refine iwp_reg (ils_cons rfl (iop_move rfl rfl (lb rfl) (sv (d := .osl _ _ _) rfl)) <|
  ils_cons rfl (iop_move rfl rfl (lb rfl) (sv (d := .fn 51 [.ref _ _]) rfl)) <|
  ils_cons rfl (iop_callp (r := .int .i64 x1) rfl rfl (lb rfl) cl65 (.cons (sv (d := .osl _ _ _) rfl) (.cons (sv (d := .fn 51 [.ref _ _]) rfl) .nil)) (.cons (FDT E_paths_Bind rfl rfl) (.cons (.fn (.cons (.ref rfl rfl (fdl_refl _) rfl) .nil)) .nil)) rfl rfl (p_slices_IndexFunc_paths_Bind_paths_Bind_Free_1 _ _ _ hx1)) <|
  ils_cons rfl (asI rfl rfl rfl rfl) <|
  ils_end ?_)
 refine iwp_seq ?_
 obtain ⟨x2, hx2, h⟩ := bnd_e h
 refine iwp_reg (ils_cons rfl (mvI rfl rfl rfl rfl) <|
  ils_cons rfl (iop_cmpx rfl rfl (lb rfl) (svI rfl) (sv (d := .int _ (-1)) rfl) rfl hx2) <|
  ils_end ?_)
 refine iwp_cond (b := _) rfl (fun hc3 => ?_) (fun hc3 => ?_)
 ·
  replace h := bif_t h hc3
  refine iwp_reg (ils_cons rfl (iop_move rfl rfl (lb rfl) (sv (d := .osl _ _ _) rfl)) <|
   ils_cons rfl (iop_assign rfl rfl (lb rfl) (sv (d := .osl _ _ _) rfl)) <|
   ils_end ?_)
  refine iwp_ret ?_
  refine thenQ_r ?_
  obtain rfl := Option.some.inj h
  refine ⟨.inr rfl, (fun i => if i = 0 then 1000 else i), ⟨.nil, (.cons (.blk rfl rfl rfl) (.cons (EntW.lst rfl) .nil)), nd_of [1001, 1000] rfl (by decide), (fun i hi => by first | rfl | (show (if _ then _ else _) = _; (repeat' split) <;> omega))⟩, (.cons (sv rfl) .nil), rfl⟩
 ·
  replace h := bif_f h hc3
  refine iwp_skip ?_
  refine thenQ_n ?_
  refine iwp_seq ?_
  obtain ⟨x4, hx4, h⟩ := bnd_e h
  refine iwp_reg (ils_cons rfl (mvI rfl rfl rfl rfl) <|
   ils_cons rfl (iop_intx rfl rfl (lb rfl) (svI rfl) (sv (d := .int _ 1) rfl) rfl hx4) <|
   ils_cons rfl (asI rfl rfl rfl rfl) <|
   ils_end ?_)
  refine iwp_block ?_
  refine iwp_loopP (α := Nat × (List T_paths_Bind) × Int × Int) (fun z => ⟨[(0, .osl 1000 E_paths_Bind.sz z.2.1.length), (1, .fn 51 [.ref 1001 0]), (5, .int .i64 z.2.2.1), (6, .int .i64 z.2.2.2)], [(1000, .blk 86 (D.flat (z.2.1.map E_paths_Bind.d))), (1001, .blk 3 [.int .i64 a1])]⟩) (fun z => slices_DeleteFunc_paths_Bind_paths_Bind_h_Free_1_L0 a1 z.1 z.2.1 z.2.2.1 z.2.2.2 = some r) (fun z => z.1) (fuel, a0, x1, x4) (fun i => i) ⟨(.sames rfl rfl), (.cons (EntW.lst rfl) (.cons (.blk rfl rfl rfl) .nil)), nd_of [1000, 1001] rfl (by decide), fun _ _ => rfl⟩ ?_ ?_
  ·exact h
  ·
   rintro ⟨n0, v17, v18, v19⟩ h
   cases n0 with
   | zero => exact absurd h (by unfold slices_DeleteFunc_paths_Bind_paths_Bind_h_Free_1_L0; exact nofun)
   | succ n0 =>
    unfold slices_DeleteFunc_paths_Bind_paths_Bind_h_Free_1_L0 at h
    refine iwp_seq ?_
    obtain ⟨x32, hx32, h⟩ := bnd_e h
    refine iwp_reg (ils_cons rfl (mvI rfl rfl rfl rfl) <|
     ils_cons rfl (iop_move rfl rfl (lb rfl) (sv (d := .osl _ _ _) rfl)) <|
     ils_cons rfl (iop_lenO rfl rfl (lb rfl) Try.underlying33 (sv (d := .osl _ _ _) rfl)) <|
     ils_cons rfl (iop_cmpx rfl rfl (lb rfl) (svI rfl) (svI rfl) rfl hx32) <|
     ils_end ?_)
    refine iwp_cond (b := _) rfl (fun hc33 => ?_) (fun hc33 => ?_)
    ·
     replace h := bif_t h hc33
     refine iwp_skip ?_
     refine thenQ_n ?_
     refine iwp_seq ?_
     refine iwp_block ?_
     obtain ⟨x34, hx34, h⟩ := bno_e h
     obtain ⟨x35, hx35, h⟩ := bno_e h
     refine iwp_reg (ils_cons rfl (iop_move rfl rfl (lb rfl) (sv (d := .osl _ _ _) rfl)) <|
      ils_cons rfl (mvI rfl rfl rfl rfl) <|
      ils_cons rfl (iop_idxO E_paths_Bind.toEnc0 rfl rfl (lb rfl) Try.underlying33 ti86 (sv (d := .osl _ _ _) rfl) rfl (svI rfl) hx34) <|
      ils_cons rfl (iop_loadEa E_paths_Bind.toEnc0 (cs := q9) rfl rfl (lb rfl) Try.underlying86 ag86 ti86 (by decide) (svR rfl) rfl hx35 (nle rfl) rfl) <|
      ils_cons rfl (iop_allocS (cs := q9) (cs' := [.int .i64 0, .int .i64 0]) 0 rfl rfl (lb rfl) rfl ti86 rfl rfl (.all _)) <|
      ils_cons rfl (stA q9 q9 ti86 rfl rfl rfl rfl rfl rfl rfl rfl (nle rfl) rfl) <|
      ils_end ?_)
     obtain ⟨x36, hx36, h⟩ := bno_e h
     refine iwp_reg (ils_cons rfl (iop_move rfl rfl (lb rfl) (sv (d := .fn 51 [.ref _ _]) rfl)) <|
      ils_cons rfl (lra q9 la86 rfl rfl rfl rfl rfl (nle rfl) rfl) <|
      ils_cons rfl (iop_callvp (r := .bool x36) rfl rfl (lb rfl) cl51 (sv (d := .fn 51 [.ref _ _]) rfl) (.cons (svA q9 rfl) .nil) (.k (.cons (.ref rfl rfl (fdl_refl _) rfl) .nil)) rfl rfl (p_paths_Free_1 _ _ _ hx36)) <|
      ils_cons rfl (iop_not rfl rfl (lb rfl) (svB rfl)) <|
      ils_end ?_)
     refine iwp_cond (b := _) rfl (fun hc37 => ?_) (fun hc37 => ?_)
     ·
      replace h := bif_t h hc37
      obtain ⟨x38, hx38, h⟩ := bno_e h
      obtain ⟨x39, hx39, h⟩ := bno_e h
      obtain ⟨x40, hx40, h⟩ := bnd_e h
      refine iwp_reg (ils_cons rfl (iop_move rfl rfl (lb rfl) (sv (d := .osl _ _ _) rfl)) <|
       ils_cons rfl (mvI rfl rfl rfl rfl) <|
       ils_cons rfl (lra q9 la86 rfl rfl rfl rfl rfl (nle rfl) rfl) <|
       ils_cons rfl (iop_idxO E_paths_Bind.toEnc0 rfl rfl (lb rfl) Try.underlying33 ti86 (sv (d := .osl _ _ _) rfl) rfl (svI rfl) hx38) <|
       ils_cons rfl (iop_storeE E_paths_Bind.toEnc0 (a' := x35) rfl rfl ti86 (svR rfl) rfl (svA q9 rfl) rfl rfl rfl hx39 (nle rfl) rfl hx40) <|
       ils_end ?_)
      obtain ⟨x41, hx41, h⟩ := bnd_e h
      refine iwp_region (ils_cons rfl (mvI rfl rfl rfl rfl) <|
       ils_cons rfl (iop_intx rfl rfl (lb rfl) (svI rfl) (sv (d := .int _ 1) rfl) rfl hx41) <|
       ils_cons rfl (asI rfl rfl rfl rfl) <|
       ils_nil ?_)
      refine blockQ_n ?_
      refine thenQ_n ?_
      obtain ⟨x42, hx42, h⟩ := bnd_e h
      refine iwp_region (ils_cons rfl (mvI rfl rfl rfl rfl) <|
       ils_cons rfl (iop_intx rfl rfl (lb rfl) (svI rfl) (sv (d := .int _ 1) rfl) rfl hx42) <|
       ils_cons rfl (asI rfl rfl rfl rfl) <|
       ils_nil ?_)
      refine thenQ_n ⟨(n0, x40, x41, x42), (fun i => i), ⟨(.cons (.same (congrArg (D.osl _ _) (len_set hx40 rfl).symm) rfl) (.sames rfl rfl)), (.cons (EntW.lst rfl) (.cons (.blk rfl rfl rfl) .nil)), nd_of [1000, 1001] rfl (by decide), fun _ _ => rfl⟩, ?_, ?_⟩
      exact h
      exact Nat.lt_succ_self _
     ·
      replace h := bif_f h hc37
      refine iwp_skip ?_
      refine blockQ_n ?_
      refine thenQ_n ?_
      obtain ⟨x43, hx43, h⟩ := bnd_e h
      refine iwp_region (ils_cons rfl (mvI rfl rfl rfl rfl) <|
       ils_cons rfl (iop_intx rfl rfl (lb rfl) (svI rfl) (sv (d := .int _ 1) rfl) rfl hx43) <|
       ils_cons rfl (asI rfl rfl rfl rfl) <|
       ils_nil ?_)
      refine thenQ_n ⟨(n0, v17, v18, x43), (fun i => i), ⟨(.sames rfl rfl), (.cons (EntW.lst rfl) (.cons (.blk rfl rfl rfl) .nil)), nd_of [1000, 1001] rfl (by decide), fun _ _ => rfl⟩, ?_, ?_⟩
      exact h
      exact Nat.lt_succ_self _
    ·
     replace h := bif_f h hc33
     refine iwp_exit ?_
     refine thenQ_e ?_
     refine thenQ_e ?_
     refine blockQ_e ?_
     refine thenQ_n ?_
     obtain ⟨x44, hx44, h⟩ := bno_e h
     refine iwp_reg (ils_cons rfl (iop_move rfl rfl (lb rfl) (sv (d := .osl _ _ _) rfl)) <|
      ils_cons rfl (mvI rfl rfl rfl rfl) <|
      ils_clrtail E_paths_Bind.toEnc0 rfl rfl rfl rfl (by decide) rfl rfl Try.underlying33 ti86 rfl rfl rfl rfl rfl (fun S1 h9 => sv ((h9 37 (by decide)).trans rfl)) hx44 <|
      ils_end ?_)
     obtain ⟨x45, hx45, h⟩ := bno_e h
     refine iwp_reg (ils_cons rfl (iop_move rfl rfl (lb rfl) (sv (d := .osl _ _ _) rfl)) <|
      ils_cons rfl (mvI rfl rfl rfl rfl) <|
      ils_cons rfl (iop_truncO E_paths_Bind.toEnc0 rfl rfl (lb rfl) Try.underlying33 ti86 (sv (d := .osl _ _ _) rfl) rfl (Nat.le_trans (cut_le hx44) (Nat.le_of_eq rfl)) (svI rfl) hx45) <|
      ils_cons rfl (iop_assign rfl rfl (lb rfl) (sv (d := .osl _ _ _) rfl)) <|
      ils_end ?_)
     refine iwp_ret ?_
     obtain rfl := Option.some.inj h
     refine ⟨.inr rfl, (fun i => if i = 0 then 1000 else i), ⟨.nil, (.cons (.blk rfl rfl rfl) (.cons (EntW.lst rfl) .nil)), nd_of [1001, 1000] rfl (by decide), (fun i hi => by first | rfl | (show (if _ then _ else _) = _; (repeat' split) <;> omega))⟩, (.cons (sv rfl) .nil), rfl⟩

theorem p_paths_Free (a0 : T_paths_State) (a1 : Int) (r : T_paths_State) (h : paths_Free a0 a1 = some r) : PureAt Try.prog 23 [.agg (v0 a0), .int .i64 a1] (.agg (v0 r)) := by
 refine pure_of_iwpF (rs := [.agg (v0 r)]) Try.func23 rfl Try.ntmps23 (nle rfl) rfl fun O hO => ?_
 show IWP _ _ _ _ ⟨[(0, .agg (v0 a0)), (1, .int .i64 a1)], []⟩ _
 unfold paths_Free at h
 refine iwp_reg (ils_cons rfl (iop_box' (cs := q3) 0 rfl rfl (lb rfl) rfl (svA q3 rfl) rfl rfl) <|
  ils_cons rfl (iop_box' (cs := [.int _ _]) 1 rfl rfl (lb rfl) rfl (svI rfl) rfl rfl) <|
  ils_cons rfl (iop_allocS (cs := q5) (cs' := (w14 false false 0 0 false false 0 0 false false 0 0 false false 0 0 0 ([] : List T_paths_Bind))) 2 rfl rfl (lb rfl) rfl ti35 rfl rfl (.k4 (.k (.k4 (.k (.k4 (.k (.k (.k (.cons (.nils _) .nil)))))))))) <|
  ils_end ?_)
 obtain ⟨x1, hx1, h⟩ := bno_e h
 refine iwp_reg (ils_cons rfl (lra q3 la35 rfl rfl rfl rfl rfl (nle rfl) rfl) <|
  ils_cons rfl (iop_callh2 (r' := .agg (w15 x1.1 x1.2.1 x1.2.2.1 x1.2.2.2.1 x1.2.2.2.2.1 x1.2.2.2.2.2.1 x1.2.2.2.2.2.2.1 x1.2.2.2.2.2.2.2.1 x1.2.2.2.2.2.2.2.2.1 x1.2.2.2.2.2.2.2.2.2.1 x1.2.2.2.2.2.2.2.2.2.2.1 x1.2.2.2.2.2.2.2.2.2.2.2.1 x1.2.2.2.2.2.2.2.2.2.2.2.2.1 x1.2.2.2.2.2.2.2.2.2.2.2.2.2.1 x1.2.2.2.2.2.2.2.2.2.2.2.2.2.2.1 x1.2.2.2.2.2.2.2.2.2.2.2.2.2.2.2.1 x1.2.2.2.2.2.2.2.2.2.2.2.2.2.2.2.2.1 (.osl 3 E_paths_Bind.sz x1.2.2.2.2.2.2.2.2.2.2.2.2.2.2.2.2.2.length))) (H1' := [(3, .blk 86 (D.flat (x1.2.2.2.2.2.2.2.2.2.2.2.2.2.2.2.2.2.map E_paths_Bind.d)))]) 3 [] rfl rfl (lb rfl) cl40 (.cons (svA q3 rfl) .nil) rfl rfl ⟨rfl, rfl, by decide, rfl, List.forall_mem_nil _⟩ (p_paths_State_own_h _ _ hx1) rfl rfl (List.forall_mem_cons.2 ⟨⟨rfl, (handLr E_paths_Bind)⟩, List.forall_mem_nil _⟩) (by simp only [List.map_cons, List.map_nil, Ent.ren, renL_flat, renL_ref]; rfl)) <|
  ils_cons rfl (iop_allocS (cs := q5) (cs' := (w14 false false 0 0 false false 0 0 false false 0 0 false false 0 0 0 ([] : List T_paths_Bind))) 4 rfl rfl (lb rfl) rfl ti35 rfl rfl (.k4 (.k (.k4 (.k (.k4 (.k (.k (.k (.cons (.nils _) .nil)))))))))) <|
  ils_cons rfl (stA q4 q4 ti35 rfl rfl rfl rfl rfl rfl rfl rfl (nle rfl) rfl) <|
  ils_end ?_)
 refine iwp_seq ?_
 obtain ⟨x2, hx2, h⟩ := bno_e h
 obtain ⟨x3, hx3, h⟩ := bnd_e h
 refine iwp_reg (ils_cons rfl (lra q3 la35 rfl rfl rfl rfl rfl (nle rfl) rfl) <|
  ils_cons rfl (iop_call (r := .int _ _) rfl rfl (lb rfl) cl28 (.cons (svA q3 rfl) .nil) rfl (p_paths_Check _ _ hx2)) <|
  ils_cons rfl (iop_cmpx rfl rfl (lb rfl) (svI rfl) (sv (d := .int _ 0) rfl) rfl hx3) <|
  ils_end ?_)
 refine iwp_cond (b := _) rfl (fun hc4 => ?_) (fun hc4 => ?_)
 ·
  replace h := bif_t h hc4
  obtain ⟨x5, hx5, h⟩ := bno_e h
  refine iwp_region (ils_cons rfl (faR 17 rfl rfl rfl Try.underlying35 rfl ti33 (lb rfl) rfl rfl) <|
   ils_cons rfl (iop_load_rs (d := .osl _ _ _) rfl rfl (lb rfl) Try.underlying33 ag33 ti33 (by decide) (svR rfl) rfl (nle rfl) rfl) <|
   ils_cons rfl (iop_makeFunc rfl rfl (lb rfl) (.cons (svR rfl) .nil)) <|
   ils_cons rfl (iop_callh2 (r' := .osl 5 E_paths_Bind.sz x5.length) (H1' := [(1, .blk 3 [.int .i64 a1]), (5, .blk 86 (D.flat (x5.map E_paths_Bind.d)))]) 5 [3, 1] rfl rfl (lb rfl) cl44 (.cons (sv (d := .osl _ _ _) rfl) (.cons (sv (d := .fn 51 [.ref _ _]) rfl) .nil)) rfl rfl ⟨rfl, rfl, by decide, rfl, List.forall_mem_cons.2 ⟨⟨rfl, rfl, (handL E_paths_Bind rfl), (handLr E_paths_Bind)⟩, List.forall_mem_cons.2 ⟨⟨rfl, rfl, rfl, rfl⟩, List.forall_mem_nil _⟩⟩⟩ (p_slices_DeleteFunc_paths_Bind_paths_Bind_h_Free_1 _ _ _ hx5) rfl rfl (List.forall_mem_cons.2 ⟨⟨rfl, rfl⟩, List.forall_mem_cons.2 ⟨⟨rfl, (handLr E_paths_Bind)⟩, List.forall_mem_nil _⟩⟩) (by simp only [List.map_cons, List.map_nil, Ent.ren, renL_flat, renL_ref]; rfl)) <|
   ils_cons rfl (faR 17 rfl rfl rfl Try.underlying35 rfl ti33 (lb rfl) rfl rfl) <|
   ils_cons rfl (iop_store (ds' := q4) rfl rfl ti33 (svR rfl) rfl (sv (d := .osl _ _ _) rfl) rfl rfl rfl (nle rfl) rfl) <|
   ils_nil ?_)
  refine thenQ_n ?_
  refine iwp_reg (ils_cons rfl (lra q4 la35 rfl rfl rfl rfl rfl (nle rfl) rfl) <|
   ils_cons rfl (stA q4 q4 ti35 rfl rfl rfl rfl rfl rfl rfl rfl (nle rfl) rfl) <|
   ils_end ?_)
  refine iwp_ret ?_
  obtain rfl := Option.some.inj h
  refine ⟨.inr rfl, _, (.cons (rva la35 rfl rfl (nle rfl) rfl) .nil), (.cons (.agg (.k4 (.k (.k4 (.k (.k4 (.k (.k (.k (.cons (FDT E_paths_Bind rfl rfl) .nil)))))))))) .nil)⟩
 ·
  replace h := bif_f h hc4
  refine iwp_skip ?_
  refine thenQ_n ?_
  refine iwp_reg (ils_cons rfl (lra q4 la35 rfl rfl rfl rfl rfl (nle rfl) rfl) <|
   ils_cons rfl (stA q4 q4 ti35 rfl rfl rfl rfl rfl rfl rfl rfl (nle rfl) rfl) <|
   ils_end ?_)
  refine iwp_ret ?_
  obtain rfl := Option.some.inj h
  refine ⟨.inr rfl, _, (.cons (rva la35 rfl rfl (nle rfl) rfl) .nil), (.cons (.agg (.k4 (.k (.k4 (.k (.k4 (.k (.k (.k (.cons (FDT E_paths_Bind rfl rfl) .nil)))))))))) .nil)⟩

theorem p_sennitref28_SameInts (a0 : (List Int)) (a1 : (List Int)) (r : Bool) (h : sennitref28_SameInts a0 a1 = some r) : PureAt Try.prog 20 [.slice false (a0.map (eInt .i64).d), .slice false (a1.map (eInt .i64).d)] (.bool r) := by
 refine pure_of_iwp (rs := [.bool r]) Try.func20 rfl Try.ntmps20 (nle rfl) rfl fun O hO => ?_
 show IWP _ _ _ _ ⟨[(0, .slice false (a0.map (eInt .i64).d)), (1, .slice false (a1.map (eInt .i64).d))], []⟩ _
 unfold sennitref28_SameInts at h
 refine iwp_reg (ils_cons rfl (iop_assign rfl rfl (lb rfl) (sv (d := .bool false) rfl)) <|
  ils_end ?_)
 refine iwp_seq ?_
 obtain ⟨x1, hx1, h⟩ := bnd_e h
 refine iwp_reg (ils_cons rfl (mvL rfl rfl rfl rfl) <|
  ils_cons rfl (iop_lenT (eInt .i64) (l := a0) rfl rfl (lb rfl) Try.underlying41 (svL rfl)) <|
  ils_cons rfl (mvL rfl rfl rfl rfl) <|
  ils_cons rfl (iop_lenT (eInt .i64) (l := a1) rfl rfl (lb rfl) Try.underlying41 (svL rfl)) <|
  ils_cons rfl (iop_cmpx rfl rfl (lb rfl) (svI rfl) (svI rfl) rfl hx1) <|
  ils_end ?_)
 refine iwp_cond (b := _) rfl (fun hc2 => ?_) (fun hc2 => ?_)
 ·
  replace h := bif_t h hc2
  refine iwp_reg (ils_cons rfl (iop_assign rfl rfl (lb rfl) (sv (d := .bool false) rfl)) <|
   ils_end ?_)
  refine iwp_ret ?_
  refine thenQ_r ?_
  obtain rfl := Option.some.inj h
  refine ⟨.inr rfl, (.cons (sv rfl) .nil)⟩
 ·
  replace h := bif_f h hc2
  refine iwp_skip ?_
  refine thenQ_n ?_
  refine iwp_seq ?_
  refine iwp_reg (ils_cons rfl (iop_assign rfl rfl (lb rfl) (sv (d := .int _ 0) rfl)) <|
   ils_end ?_)
  refine iwp_block ?_
  refine iwp_loopP (α := Nat × Int) (fun z => ⟨[(0, .slice false (a0.map (eInt .i64).d)), (1, .slice false (a1.map (eInt .i64).d)), (5, .int .i64 z.2)], []⟩) (fun z => sennitref28_SameInts_L0 a0 a1 z.1 z.2 = some r) (fun z => z.1) (fuel, 0) (fun i => i) ⟨(.sames rfl rfl), .nil, nd_of [] rfl (by decide), fun _ _ => rfl⟩ ?_ ?_
  ·exact h
  ·
   rintro ⟨n0, v10⟩ h
   cases n0 with
   | zero => exact absurd h (by unfold sennitref28_SameInts_L0; exact nofun)
   | succ n0 =>
    unfold sennitref28_SameInts_L0 at h
    refine iwp_seq ?_
    obtain ⟨x18, hx18, h⟩ := bnd_e h
    refine iwp_reg (ils_cons rfl (mvI rfl rfl rfl rfl) <|
     ils_cons rfl (mvL rfl rfl rfl rfl) <|
     ils_cons rfl (iop_lenT (eInt .i64) (l := a0) rfl rfl (lb rfl) Try.underlying41 (svL rfl)) <|
     ils_cons rfl (iop_cmpx rfl rfl (lb rfl) (svI rfl) (svI rfl) rfl hx18) <|
     ils_end ?_)
    refine iwp_cond (b := _) rfl (fun hc19 => ?_) (fun hc19 => ?_)
    ·
     replace h := bif_t h hc19
     refine iwp_skip ?_
     refine thenQ_n ?_
     refine iwp_seq ?_
     refine iwp_block ?_
     obtain ⟨x20, hx20, h⟩ := bno_e h
     obtain ⟨x21, hx21, h⟩ := bno_e h
     obtain ⟨x22, hx22, h⟩ := bnd_e h
     refine iwp_drw rfl [⟨[0], [], [(17, .slice false (a0.map (eInt .i64).d))], []⟩,
      ⟨[5], [], [(18, .int .i64 v10)], []⟩,
      ⟨[17, 18], [], [(19, .fptr [.int .i64 x20])], []⟩,
      ⟨[19], [], [(20, .int .i64 x20)], []⟩,
      ⟨[1], [], [(21, .slice false (a1.map (eInt .i64).d))], []⟩,
      ⟨[5], [], [(22, .int .i64 v10)], []⟩,
      ⟨[21, 22], [], [(23, .fptr [.int .i64 x21])], []⟩,
      ⟨[23], [], [(24, .int .i64 x21)], []⟩,
      ⟨[20, 24], [], [(25, .bool x22)], []⟩] rfl ?_ (by kernel_rfl) ?_
     ·refine .cons (lop rfl rfl fun S hA => (iop_move rfl rfl (lb rfl) (svaL hA rfl rfl))) ?_
      refine .cons (lop rfl rfl fun S hA => (iop_move rfl rfl (lb rfl) (svaI hA rfl rfl))) ?_
      refine .cons (lop rfl rfl fun S hA => (iop_idxT (eInt .i64) (cs := [.int _ _]) rfl rfl (lb rfl) Try.underlying41 ti3 (svaL hA rfl rfl) (svaI hA rfl rfl) hx20 rfl rfl)) ?_
      refine .cons (lop rfl rfl fun S hA => (iop_load_fs rfl rfl (lb rfl) Try.underlying3 ag3 ti3 (by decide) (sv (d := .fptr [.int _ _]) (agr hA rfl rfl)) (nle rfl))) ?_
      refine .cons (lop rfl rfl fun S hA => (iop_move rfl rfl (lb rfl) (svaL hA rfl rfl))) ?_
      refine .cons (lop rfl rfl fun S hA => (iop_move rfl rfl (lb rfl) (svaI hA rfl rfl))) ?_
      refine .cons (lop rfl rfl fun S hA => (iop_idxT (eInt .i64) (cs := [.int _ _]) rfl rfl (lb rfl) Try.underlying41 ti3 (svaL hA rfl rfl) (svaI hA rfl rfl) hx21 rfl rfl)) ?_
      refine .cons (lop rfl rfl fun S hA => (iop_load_fs rfl rfl (lb rfl) Try.underlying3 ag3 ti3 (by decide) (sv (d := .fptr [.int _ _]) (agr hA rfl rfl)) (nle rfl))) ?_
      refine .cons (lop rfl rfl fun S hA => (iop_cmpx rfl rfl (lb rfl) (svaI hA rfl rfl) (svaI hA rfl rfl) rfl hx22)) ?_
      exact .nil
     refine iwp_cond (b := _) rfl (fun hc23 => ?_) (fun hc23 => ?_)
     ·
      replace h := bif_t h hc23
      refine iwp_reg (ils_cons rfl (iop_assign rfl rfl (lb rfl) (sv (d := .bool false) rfl)) <|
       ils_end ?_)
      refine iwp_ret ?_
      refine blockQ_r ?_
      refine thenQ_r ?_
      refine thenQ_r ?_
      refine blockQ_r ?_
      refine thenQ_r ?_
      obtain rfl := Option.some.inj h
      refine ⟨.inr rfl, (.cons (sv rfl) .nil)⟩
     ·
      replace h := bif_f h hc23
      refine iwp_skip ?_
      refine blockQ_n ?_
      refine thenQ_n ?_
      obtain ⟨x24, hx24, h⟩ := bnd_e h
      refine iwp_region (ils_cons rfl (mvI rfl rfl rfl rfl) <|
       ils_cons rfl (iop_intx rfl rfl (lb rfl) (svI rfl) (sv (d := .int _ 1) rfl) rfl hx24) <|
       ils_cons rfl (asI rfl rfl rfl rfl) <|
       ils_nil ?_)
      refine thenQ_n ⟨(n0, x24), (fun i => i), ⟨(.sames rfl rfl), .nil, nd_of [] rfl (by decide), fun _ _ => rfl⟩, ?_, ?_⟩
      exact h
      exact Nat.lt_succ_self _
    ·
     replace h := bif_f h hc19
     refine iwp_exit ?_
     refine thenQ_e ?_
     refine thenQ_e ?_
     refine blockQ_e ?_
     refine thenQ_n ?_
     refine iwp_reg (ils_cons rfl (iop_assign rfl rfl (lb rfl) (sv (d := .bool true) rfl)) <|
      ils_end ?_)
     refine iwp_ret ?_
     obtain rfl := Option.some.inj h
     refine ⟨.inr rfl, (.cons (sv rfl) .nil)⟩

theorem p_paths_Best (a0 : T_paths_State) (r : Int) (h : paths_Best a0 = some r) : PureAt Try.prog 32 [.agg (v0 a0)] (.int .i64 r) := by
 refine pure_of_iwp (rs := [.int .i64 r]) Try.func32 rfl Try.ntmps32 (nle rfl) rfl fun O hO => ?_
 show IWP _ _ _ _ ⟨[(0, .agg (v0 a0))], []⟩ _
 unfold paths_Best at h
 refine iwp_reg (ils_cons rfl (iop_box' (cs := q3) 0 rfl rfl (lb rfl) rfl (svA q3 rfl) rfl rfl) <|
  ils_cons rfl (iop_assign rfl rfl (lb rfl) (sv (d := .int _ 0) rfl)) <|
  ils_end ?_)
 refine iwp_seq ?_
 obtain ⟨x1, hx1, h⟩ := bno_e h
 obtain ⟨x2, hx2, h⟩ := bnd_e h
 refine iwp_reg (ils_cons rfl (lra q3 la35 rfl rfl rfl rfl rfl (nle rfl) rfl) <|
  ils_cons rfl (iop_call (r := .int _ _) rfl rfl (lb rfl) cl28 (.cons (svA q3 rfl) .nil) rfl (p_paths_Check _ _ hx1)) <|
  ils_cons rfl (iop_cmpx rfl rfl (lb rfl) (svI rfl) (sv (d := .int _ 0) rfl) rfl hx2) <|
  ils_end ?_)
 refine iwp_cond (b := _) rfl (fun hc3 => ?_) (fun hc3 => ?_)
 ·
  replace h := bif_t h hc3
  refine iwp_reg (ils_cons rfl (iop_assign rfl rfl (lb rfl) (sv (d := .int _ (-1)) rfl)) <|
   ils_end ?_)
  refine iwp_ret ?_
  refine thenQ_r ?_
  obtain rfl := Option.some.inj h
  refine ⟨.inr rfl, (.cons (sv rfl) .nil)⟩
 ·
  replace h := bif_f h hc3
  refine iwp_skip ?_
  refine thenQ_n ?_
  obtain ⟨x4, hx4, h⟩ := bno_e h
  refine iwp_reg (ils_cons rfl (lra q3 la35 rfl rfl rfl rfl rfl (nle rfl) rfl) <|
   ils_cons rfl (iop_call (r := .int _ _) rfl rfl (lb rfl) cl48 (.cons (svA q3 rfl) .nil) rfl (p_paths_State_best _ _ hx4)) <|
   ils_cons rfl (asI rfl rfl rfl rfl) <|
   ils_end ?_)
  refine iwp_ret ?_
  obtain rfl := Option.some.inj h
  refine ⟨.inr rfl, (.cons (sv rfl) .nil)⟩

theorem p_math_Abs (a0 : Nat) (r : Nat) (h : math_Abs a0 = some r) : PureAt Try.prog 73 [.float .f64 a0] (.float .f64 r) := by
 refine pure_of_iwp (rs := [.float .f64 r]) Try.func73 rfl Try.ntmps73 (nle rfl) rfl fun O hO => ?_
 show IWP _ _ _ _ ⟨[(0, .float .f64 a0)], []⟩ _
 unfold math_Abs at h
 refine iwp_reg (ils_cons rfl (iop_assign rfl rfl (lb rfl) (sv (d := .float _ _) rfl)) <|
  ils_end ?_)
 obtain ⟨x1, hx1, h⟩ := bno_e h
 obtain ⟨x2, hx2, h⟩ := bnd_e h
 obtain ⟨x3, hx3, h⟩ := bnd_e h
 refine iwp_reg (ils_cons rfl (iop_move rfl rfl (lb rfl) (sv (d := .float _ _) rfl)) <|
  ils_cons rfl (iop_fbits rfl rfl (lb rfl) ex55 (sv (d := .float _ _) rfl) hx1) <|
  ils_cons rfl (iop_intx rfl rfl (lb rfl) (svI rfl) (sv (d := .int _ 9223372036854775808) rfl) rfl hx2) <|
  ils_cons rfl (iop_ffrom rfl rfl (lb rfl) ex76 (svI rfl) hx3) <|
  ils_cons rfl (iop_assign rfl rfl (lb rfl) (sv (d := .float _ _) rfl)) <|
  ils_end ?_)
 refine iwp_ret ?_
 obtain rfl := Option.some.inj h
 refine ⟨.inr rfl, (.cons (sv rfl) .nil)⟩

theorem p_math_IsInf (a0 : Nat) (a1 : Int) (r : Bool) (h : math_IsInf a0 a1 = some r) : PureAt Try.prog 62 [.float .f64 a0, .int .i64 a1] (.bool r) := by
 refine pure_of_iwp (rs := [.bool r]) Try.func62 rfl Try.ntmps62 (nle rfl) rfl fun O hO => ?_
 show IWP _ _ _ _ ⟨[(0, .float .f64 a0), (1, .int .i64 a1)], []⟩ _
 unfold math_IsInf at h
 refine iwp_reg (ils_cons rfl (iop_assign rfl rfl (lb rfl) (sv (d := .bool false) rfl)) <|
  ils_end ?_)
 refine iwp_seq ?_
 obtain ⟨x1, hx1, h⟩ := bnd_e h
 refine iwp_reg (ils_cons rfl (mvI rfl rfl rfl rfl) <|
  ils_cons rfl (iop_cmpx rfl rfl (lb rfl) (svI rfl) (sv (d := .int _ 0) rfl) rfl hx1) <|
  ils_end ?_)
 refine iwp_cond (b := _) rfl (fun hc2 => ?_) (fun hc2 => ?_)
 ·
  replace h := bif_t h hc2
  obtain ⟨x3, hx3, h⟩ := bno_e h
  refine iwp_region (ils_cons rfl (iop_move rfl rfl (lb rfl) (sv (d := .float _ _) rfl)) <|
   ils_cons rfl (iop_call (r := .float _ _) rfl rfl (lb rfl) cl73 (.cons (sv (d := .float _ _) rfl) .nil) rfl (p_math_Abs _ _ hx3)) <|
   ils_cons rfl (iop_assign rfl rfl (lb rfl) (sv (d := .float _ _) rfl)) <|
   ils_nil ?_)
  refine thenQ_n ?_
  obtain ⟨x4, hx4, h⟩ := bnd_e h
  refine iwp_reg (ils_cons rfl (iop_move rfl rfl (lb rfl) (sv (d := .float _ _) rfl)) <|
   ils_cons rfl (iop_fcmpx rfl rfl (lb rfl) (sv (d := .float _ _) rfl) (sv (d := .float _ _) rfl) rfl hx4) <|
   ils_cons rfl (asB rfl rfl rfl rfl) <|
   ils_end ?_)
  refine iwp_ret ?_
  obtain rfl := Option.some.inj h
  refine ⟨.inr rfl, (.cons (sv rfl) .nil)⟩
 ·
  replace h := bif_f h hc2
  obtain ⟨x5, hx5, h⟩ := bnd_e h
  refine iwp_reg (ils_cons rfl (mvI rfl rfl rfl rfl) <|
   ils_cons rfl (iop_cmpx rfl rfl (lb rfl) (svI rfl) (sv (d := .int _ 0) rfl) rfl hx5) <|
   ils_end ?_)
  refine iwp_cond (b := _) rfl (fun hc6 => ?_) (fun hc6 => ?_)
  ·
   replace h := bif_t h hc6
   obtain ⟨x7, hx7, h⟩ := bnd_e h
   refine iwp_region (ils_cons rfl (iop_move rfl rfl (lb rfl) (sv (d := .float _ _) rfl)) <|
    ils_cons rfl (iop_fneg rfl rfl (lb rfl) (sv (d := .float _ _) rfl) hx7) <|
    ils_cons rfl (iop_assign rfl rfl (lb rfl) (sv (d := .float _ _) rfl)) <|
    ils_nil ?_)
   refine thenQ_n ?_
   obtain ⟨x8, hx8, h⟩ := bnd_e h
   refine iwp_reg (ils_cons rfl (iop_move rfl rfl (lb rfl) (sv (d := .float _ _) rfl)) <|
    ils_cons rfl (iop_fcmpx rfl rfl (lb rfl) (sv (d := .float _ _) rfl) (sv (d := .float _ _) rfl) rfl hx8) <|
    ils_cons rfl (asB rfl rfl rfl rfl) <|
    ils_end ?_)
   refine iwp_ret ?_
   obtain rfl := Option.some.inj h
   refine ⟨.inr rfl, (.cons (sv rfl) .nil)⟩
  ·
   replace h := bif_f h hc6
   refine iwp_skip ?_
   refine thenQ_n ?_
   obtain ⟨x9, hx9, h⟩ := bnd_e h
   refine iwp_reg (ils_cons rfl (iop_move rfl rfl (lb rfl) (sv (d := .float _ _) rfl)) <|
    ils_cons rfl (iop_fcmpx rfl rfl (lb rfl) (sv (d := .float _ _) rfl) (sv (d := .float _ _) rfl) rfl hx9) <|
    ils_cons rfl (asB rfl rfl rfl rfl) <|
    ils_end ?_)
   refine iwp_ret ?_
   obtain rfl := Option.some.inj h
   refine ⟨.inr rfl, (.cons (sv rfl) .nil)⟩

theorem p_math_Signbit (a0 : Nat) (r : Bool) (h : math_Signbit a0 = some r) : PureAt Try.prog 63 [.float .f64 a0] (.bool r) := by
 refine pure_of_iwp (rs := [.bool r]) Try.func63 rfl Try.ntmps63 (nle rfl) rfl fun O hO => ?_
 show IWP _ _ _ _ ⟨[(0, .float .f64 a0)], []⟩ _
 unfold math_Signbit at h
 refine iwp_reg (ils_cons rfl (iop_assign rfl rfl (lb rfl) (sv (d := .bool false) rfl)) <|
  ils_end ?_)
 obtain ⟨x1, hx1, h⟩ := bno_e h
 obtain ⟨x2, hx2, h⟩ := bnd_e h
 obtain ⟨x3, hx3, h⟩ := bnd_e h
 refine iwp_reg (ils_cons rfl (iop_move rfl rfl (lb rfl) (sv (d := .float _ _) rfl)) <|
  ils_cons rfl (iop_fbits rfl rfl (lb rfl) ex55 (sv (d := .float _ _) rfl) hx1) <|
  ils_cons rfl (iop_int_conv rfl rfl (lb rfl) ⟨_, Try.underlying63⟩ Try.underlying2 (svI rfl) hx2) <|
  ils_cons rfl (iop_cmpx rfl rfl (lb rfl) (svI rfl) (sv (d := .int _ 0) rfl) rfl hx3) <|
  ils_cons rfl (asB rfl rfl rfl rfl) <|
  ils_end ?_)
 refine iwp_ret ?_
 obtain rfl := Option.some.inj h
 refine ⟨.inr rfl, (.cons (sv rfl) .nil)⟩

theorem p_gauge_Kind (a0 : Nat) (r : Int) (h : gauge_Kind a0 = some r) : PureAt Try.prog 39 [.float .f64 a0] (.int .i64 r) := by
 refine pure_of_iwp (rs := [.int .i64 r]) Try.func39 rfl Try.ntmps39 (nle rfl) rfl fun O hO => ?_
 show IWP _ _ _ _ ⟨[(0, .float .f64 a0)], []⟩ _
 unfold gauge_Kind at h
 refine iwp_reg (ils_cons rfl (iop_assign rfl rfl (lb rfl) (sv (d := .int _ 0) rfl)) <|
  ils_end ?_)
 refine iwp_reg (ils_cons rfl (iop_assign rfl rfl (lb rfl) (sv (d := .int _ 4) rfl)) <|
  ils_end ?_)
 refine iwp_join (α := Int) (fun z => ⟨[(0, .float .f64 a0), (3, .int .i64 z)], []⟩) (fun z => gauge_Kind_J0 a0 z = some r) ?_ ?_
 ·
  refine iwp_block ?_
  refine iwp_seq ?_
  refine iwp_block ?_
  refine iwp_seq ?_
  refine iwp_block ?_
  refine iwp_seq ?_
  refine iwp_block ?_
  refine iwp_seq ?_
  refine iwp_block ?_
  refine iwp_seq ?_
  refine iwp_seq ?_
  obtain ⟨x11, hx11, h⟩ := bno_e h
  refine iwp_reg (ils_cons rfl (iop_move rfl rfl (lb rfl) (sv (d := .float _ _) rfl)) <|
   ils_cons rfl (iop_call (r := .bool _) rfl rfl (lb rfl) cl61 (.cons (sv (d := .float _ _) rfl) .nil) rfl (p_math_IsNaN _ _ hx11)) <|
   ils_cons rfl (asB rfl rfl rfl rfl) <|
   ils_end ?_)
  refine iwp_cond (b := _) rfl (fun hc12 => ?_) (fun hc12 => ?_)
  ·
   replace h := bif_t h hc12
   refine iwp_exit ?_
   refine thenQ_e ?_
   refine thenQ_e ?_
   refine blockQ_e ?_
   refine thenQ_n ?_
   refine iwp_seq ?_
   refine iwp_reg (ils_cons rfl (iop_assign rfl rfl (lb rfl) (sv (d := .int _ 0) rfl)) <|
    ils_end ?_)
   refine iwp_ret ?_
   refine thenQ_r ?_
   refine blockQ_r ?_
   refine thenQ_r ?_
   refine blockQ_r ?_
   refine thenQ_r ?_
   refine blockQ_r ?_
   refine thenQ_r ?_
   refine blockQ_r ?_
   refine thenQ_r ?_
   obtain rfl := Option.some.inj h
   refine ⟨.inr rfl, (.cons (sv rfl) .nil)⟩
  ·
   replace h := bif_f h hc12
   refine iwp_skip ?_
   refine thenQ_n ?_
   refine iwp_seq ?_
   obtain ⟨x13, hx13, h⟩ := bno_e h
   refine iwp_reg (ils_cons rfl (iop_move rfl rfl (lb rfl) (sv (d := .float _ _) rfl)) <|
    ils_cons rfl (iop_call (r := .bool _) rfl rfl (lb rfl) cl62 (.cons (sv (d := .float _ _) rfl) (.cons (sv (d := .int _ 0) rfl) .nil)) rfl (p_math_IsInf _ _ _ hx13)) <|
    ils_cons rfl (asB rfl rfl rfl rfl) <|
    ils_end ?_)
   refine iwp_cond (b := _) rfl (fun hc14 => ?_) (fun hc14 => ?_)
   ·
    replace h := bif_t h hc14
    refine iwp_exit ?_
    refine thenQ_e ?_
    refine thenQ_e ?_
    refine blockQ_x rfl ?_
    refine thenQ_e ?_
    refine blockQ_e ?_
    refine thenQ_n ?_
    refine iwp_reg (ils_cons rfl (iop_assign rfl rfl (lb rfl) (sv (d := .int _ 6) rfl)) <|
     ils_end ?_)
    refine iwp_exit ?_
    refine blockQ_x rfl ?_
    refine thenQ_e ?_
    refine blockQ_x rfl ?_
    refine thenQ_e ?_
    refine blockQ_e ?_
    refine thenQ_n ⟨6, (fun i => i), ⟨(.sames rfl rfl), .nil, nd_of [] rfl (by decide), fun _ _ => rfl⟩, ?_⟩
    exact h
   ·
    replace h := bif_f h hc14
    refine iwp_skip ?_
    refine thenQ_n ?_
    obtain ⟨x15, hx15, h⟩ := bnd_e h
    refine iwp_reg (ils_cons rfl (iop_move rfl rfl (lb rfl) (sv (d := .float _ _) rfl)) <|
     ils_cons rfl (iop_fcmpx rfl rfl (lb rfl) (sv (d := .float _ _) rfl) (sv (d := .float _ _) rfl) rfl hx15) <|
     ils_cons rfl (asB rfl rfl rfl rfl) <|
     ils_end ?_)
    refine iwp_cond (b := _) rfl (fun hc16 => ?_) (fun hc16 => ?_)
    ·
     replace h := bif_t h hc16
     refine iwp_exit ?_
     refine thenQ_e ?_
     refine blockQ_x rfl ?_
     refine thenQ_e ?_
     refine blockQ_x rfl ?_
     refine thenQ_e ?_
     refine blockQ_e ?_
     refine thenQ_n ?_
     refine iwp_region (ils_cons rfl (iop_assign rfl rfl (lb rfl) (sv (d := .int _ 5) rfl)) <|
      ils_nil ?_)
     refine blockQ_n ?_
     refine thenQ_n ?_
     refine iwp_exit ?_
     refine blockQ_e ?_
     refine thenQ_n ⟨5, (fun i => i), ⟨(.sames rfl rfl), .nil, nd_of [] rfl (by decide), fun _ _ => rfl⟩, ?_⟩
     exact h
    ·
     replace h := bif_f h hc16
     refine iwp_skip ?_
     refine thenQ_n ?_
     refine iwp_exit ?_
     refine blockQ_x rfl ?_
     refine thenQ_e ?_
     refine blockQ_x rfl ?_
     refine thenQ_e ?_
     refine blockQ_x rfl ?_
     refine thenQ_e ?_
     refine blockQ_e ?_
     refine thenQ_n ?_
     refine iwp_exit ?_
     refine blockQ_e ?_
     refine thenQ_n ⟨4, (fun i => i), ⟨(.sames rfl rfl), .nil, nd_of [] rfl (by decide), fun _ _ => rfl⟩, ?_⟩
     exact h
 ·
  rintro v7 h
  unfold gauge_Kind_J0 at h
  refine iwp_seq ?_
  obtain ⟨x8, hx8, h⟩ := bno_e h
  refine iwp_reg (ils_cons rfl (iop_move rfl rfl (lb rfl) (sv (d := .float _ _) rfl)) <|
   ils_cons rfl (iop_call (r := .bool _) rfl rfl (lb rfl) cl63 (.cons (sv (d := .float _ _) rfl) .nil) rfl (p_math_Signbit _ _ hx8)) <|
   ils_cons rfl (iop_not rfl rfl (lb rfl) (svB rfl)) <|
   ils_end ?_)
  refine iwp_cond (b := _) rfl (fun hc9 => ?_) (fun hc9 => ?_)
  ·
   replace h := bif_t h hc9
   refine iwp_reg (ils_cons rfl (mvI rfl rfl rfl rfl) <|
    ils_cons rfl (asI rfl rfl rfl rfl) <|
    ils_end ?_)
   refine iwp_ret ?_
   refine thenQ_r ?_
   obtain rfl := Option.some.inj h
   refine ⟨.inr rfl, (.cons (sv rfl) .nil)⟩
  ·
   replace h := bif_f h hc9
   refine iwp_skip ?_
   refine thenQ_n ?_
   obtain ⟨x10, hx10, h⟩ := bnd_e h
   refine iwp_reg (ils_cons rfl (mvI rfl rfl rfl rfl) <|
    ils_cons rfl (iop_intx rfl rfl (lb rfl) (sv (d := .int _ 7) rfl) (svI rfl) rfl hx10) <|
    ils_cons rfl (asI rfl rfl rfl rfl) <|
    ils_end ?_)
   refine iwp_ret ?_
   obtain rfl := Option.some.inj h
   refine ⟨.inr rfl, (.cons (sv rfl) .nil)⟩

theorem p_slices_Equal_paths_Bind_paths_Bind (a0 : (List T_paths_Bind)) (a1 : (List T_paths_Bind)) (r : Bool) (h : slices_Equal_paths_Bind_paths_Bind a0 a1 = some r) : PureAt Try.prog 60 [.slice false (a0.map E_paths_Bind.d), .slice false (a1.map E_paths_Bind.d)] (.bool r) := by
 refine pure_of_iwp (rs := [.bool r]) Try.func60 rfl Try.ntmps60 (nle rfl) rfl fun O hO => ?_
 show IWP _ _ _ _ ⟨[(0, .slice false (a0.map E_paths_Bind.d)), (1, .slice false (a1.map E_paths_Bind.d))], []⟩ _
 unfold slices_Equal_paths_Bind_paths_Bind at h
 refine iwp_reg (ils_cons rfl (iop_assign rfl rfl (lb rfl) (sv (d := .bool false) rfl)) <|
  ils_end ?_)
 refine iwp_seq ?_
 obtain ⟨x1, hx1, h⟩ := bnd_e h
 refine iwp_reg (ils_cons rfl (mvL rfl rfl rfl rfl) <|
  ils_cons rfl (iop_lenT E_paths_Bind (l := a0) rfl rfl (lb rfl) Try.underlying33 (svL rfl)) <|
  ils_cons rfl (mvL rfl rfl rfl rfl) <|
  ils_cons rfl (iop_lenT E_paths_Bind (l := a1) rfl rfl (lb rfl) Try.underlying33 (svL rfl)) <|
  ils_cons rfl (iop_cmpx rfl rfl (lb rfl) (svI rfl) (svI rfl) rfl hx1) <|
  ils_end ?_)
 refine iwp_cond (b := _) rfl (fun hc2 => ?_) (fun hc2 => ?_)
 ·
  replace h := bif_t h hc2
  refine iwp_reg (ils_cons rfl (iop_assign rfl rfl (lb rfl) (sv (d := .bool false) rfl)) <|
   ils_end ?_)
  refine iwp_ret ?_
  refine thenQ_r ?_
  obtain rfl := Option.some.inj h
  refine ⟨.inr rfl, (.cons (sv rfl) .nil)⟩
 ·
  replace h := bif_f h hc2
  refine iwp_skip ?_
  refine thenQ_n ?_
  refine iwp_seq ?_
  refine iwp_reg (ils_cons rfl (mvL rfl rfl rfl rfl) <|
   ils_cons rfl (iop_lenT E_paths_Bind (l := a0) rfl rfl (lb rfl) Try.underlying33 (svL rfl)) <|
   ils_cons rfl (iop_move rfl rfl (lb rfl) (sv (d := .int _ 0) rfl)) <|
   ils_end ?_)
  refine iwp_block ?_
  refine iwp_loopP (α := Nat × Int) (fun z => ⟨[(0, .slice false (a0.map E_paths_Bind.d)), (1, .slice false (a1.map E_paths_Bind.d)), (12, .int .i64 (a0.length : Int)), (13, .int .i64 z.2)], []⟩) (fun z => slices_Equal_paths_Bind_paths_Bind_L0 a0 a1 z.1 z.2 = some r) (fun z => z.1) (fuel, 0) (fun i => i) ⟨(.sames rfl rfl), .nil, nd_of [] rfl (by decide), fun _ _ => rfl⟩ ?_ ?_
  ·exact h
  ·
   rintro ⟨n0, v10⟩ h
   cases n0 with
   | zero => exact absurd h (by unfold slices_Equal_paths_Bind_paths_Bind_L0; exact nofun)
   | succ n0 =>
    unfold slices_Equal_paths_Bind_paths_Bind_L0 at h
    obtain ⟨x18, hx18, h⟩ := bnd_e h
    refine iwp_reg (ils_cons rfl (iop_cmpx rfl rfl (lb rfl) (svI rfl) (svI rfl) rfl hx18) <|
     ils_end ?_)
    refine iwp_seq ?_
    refine iwp_cond (b := _) rfl (fun hc19 => ?_) (fun hc19 => ?_)
    ·
     replace h := bif_t h hc19
     refine iwp_skip ?_
     refine thenQ_n ?_
     refine iwp_seq ?_
     refine iwp_block ?_
     refine iwp_reg (ils_cons rfl (mvI rfl rfl rfl rfl) <|
      ils_cons rfl (asI rfl rfl rfl rfl) <|
      ils_end ?_)
     obtain ⟨x20, hx20, h⟩ := bno_e h
     obtain ⟨x21, hx21, h⟩ := bno_e h
     obtain ⟨x22, hx22, h⟩ := bnd_e h
     refine iwp_drw rfl [⟨[0], [], [(16, .slice false (a0.map E_paths_Bind.d))], []⟩,
      ⟨[5], [], [(17, .int .i64 v10)], []⟩,
      ⟨[16, 17], [], [(18, .fptr [.int .i64 x20.Stream, .int .i64 x20.Path])], []⟩,
      ⟨[18], [], [(19, .agg [.int .i64 x20.Stream, .int .i64 x20.Path])], []⟩,
      ⟨[1], [], [(20, .slice false (a1.map E_paths_Bind.d))], []⟩,
      ⟨[5], [], [(21, .int .i64 v10)], []⟩,
      ⟨[20, 21], [], [(22, .fptr [.int .i64 x21.Stream, .int .i64 x21.Path])], []⟩,
      ⟨[22], [], [(23, .agg [.int .i64 x21.Stream, .int .i64 x21.Path])], []⟩,
      ⟨[19, 23], [], [(24, .bool (!x22))], []⟩] rfl ?_ (by kernel_rfl) ?_
     ·refine .cons (lop rfl rfl fun S hA => (iop_move rfl rfl (lb rfl) (svaL hA rfl rfl))) ?_
      refine .cons (lop rfl rfl fun S hA => (iop_move rfl rfl (lb rfl) (svaI hA rfl rfl))) ?_
      refine .cons (lop rfl rfl fun S hA => (iop_idxT E_paths_Bind (cs := q9) rfl rfl (lb rfl) Try.underlying33 ti86 (svaL hA rfl rfl) (svaI hA rfl rfl) hx20 rfl rfl)) ?_
      refine .cons (lop rfl rfl fun S hA => (iop_load_fa (cs := q9) rfl rfl (lb rfl) Try.underlying86 ag86 ti86 (by decide) (sv (d := .fptr q9) (agr hA rfl rfl)) (nle rfl) rfl)) ?_
      refine .cons (lop rfl rfl fun S hA => (iop_move rfl rfl (lb rfl) (svaL hA rfl rfl))) ?_
      refine .cons (lop rfl rfl fun S hA => (iop_move rfl rfl (lb rfl) (svaI hA rfl rfl))) ?_
      refine .cons (lop rfl rfl fun S hA => (iop_idxT E_paths_Bind (cs := q9) rfl rfl (lb rfl) Try.underlying33 ti86 (svaL hA rfl rfl) (svaI hA rfl rfl) hx21 rfl rfl)) ?_
      refine .cons (lop rfl rfl fun S hA => (iop_load_fa (cs := q9) rfl rfl (lb rfl) Try.underlying86 ag86 ti86 (by decide) (sv (d := .fptr q9) (agr hA rfl rfl)) (nle rfl) rfl)) ?_
      refine .cons (lop rfl rfl fun S hA => (iop_nes rfl rfl (lb rfl) Try.underlying86 st86.1 st86.2 (svaA q9 hA rfl rfl) (svaA q9 hA rfl rfl) (congrArg some hx22))) ?_
      exact .nil
     refine iwp_cond (b := _) rfl (fun hc23 => ?_) (fun hc23 => ?_)
     ·
      replace h := bif_t h hc23
      refine iwp_reg (ils_cons rfl (iop_assign rfl rfl (lb rfl) (sv (d := .bool false) rfl)) <|
       ils_end ?_)
      refine iwp_ret ?_
      refine blockQ_r ?_
      refine thenQ_r ?_
      refine thenQ_r ?_
      refine blockQ_r ?_
      refine thenQ_r ?_
      obtain rfl := Option.some.inj h
      refine ⟨.inr rfl, (.cons (sv rfl) .nil)⟩
     ·
      replace h := bif_f h hc23
      refine iwp_skip ?_
      refine blockQ_n ?_
      refine thenQ_n ?_
      obtain ⟨x24, hx24, h⟩ := bnd_e h
      refine iwp_region (ils_cons rfl (iop_intx rfl rfl (lb rfl) (svI rfl) (sv (d := .int _ 1) rfl) rfl hx24) <|
       ils_cons rfl (mvI rfl rfl rfl rfl) <|
       ils_nil ?_)
      refine thenQ_n ⟨(n0, x24), (fun i => i), ⟨(.sames rfl rfl), .nil, nd_of [] rfl (by decide), fun _ _ => rfl⟩, ?_, ?_⟩
      exact h
      exact Nat.lt_succ_self _
    ·
     replace h := bif_f h hc19
     refine iwp_exit ?_
     refine thenQ_e ?_
     refine thenQ_e ?_
     refine blockQ_e ?_
     refine thenQ_n ?_
     refine iwp_reg (ils_cons rfl (iop_assign rfl rfl (lb rfl) (sv (d := .bool true) rfl)) <|
      ils_end ?_)
     refine iwp_ret ?_
     obtain rfl := Option.some.inj h
     refine ⟨.inr rfl, (.cons (sv rfl) .nil)⟩

theorem p_paths_Same (a0 : T_paths_State) (a1 : T_paths_State) (r : Bool) (h : paths_Same a0 a1 = some r) : PureAt Try.prog 34 [.agg (v0 a0), .agg (v0 a1)] (.bool r) := by
 refine pure_of_iwp (rs := [.bool r]) Try.func34 rfl Try.ntmps34 (nle rfl) rfl fun O hO => ?_
 show IWP _ _ _ _ ⟨[(0, .agg (v0 a0)), (1, .agg (v0 a1))], []⟩ _
 unfold paths_Same at h
 refine iwp_reg (ils_cons rfl (iop_box' (cs := q3) 0 rfl rfl (lb rfl) rfl (svA q3 rfl) rfl rfl) <|
  ils_cons rfl (iop_box' (cs := q3) 1 rfl rfl (lb rfl) rfl (svA q3 rfl) rfl rfl) <|
  ils_cons rfl (iop_assign rfl rfl (lb rfl) (sv (d := .bool false) rfl)) <|
  ils_end ?_)
 obtain ⟨x1, hx1, h⟩ := bnd_e h
 obtain ⟨x2, hx2, h⟩ := bnd_e h
 obtain ⟨x3, hx3, h⟩ := bnd_e h
 obtain ⟨x4, hx4, h⟩ := bno_e h
 obtain ⟨x5, hx5, h⟩ := bnd_e h
 refine iwp_reg (ils_cons rfl (faR 0 rfl rfl rfl Try.underlying35 rfl ti32 (lb rfl) rfl rfl) <|
  ils_cons rfl (lra q6 la32 rfl rfl rfl rfl rfl (nle rfl) rfl) <|
  ils_cons rfl (faR 0 rfl rfl rfl Try.underlying35 rfl ti32 (lb rfl) rfl rfl) <|
  ils_cons rfl (lra q6 la32 rfl rfl rfl rfl rfl (nle rfl) rfl) <|
  ils_cons rfl (iop_eqt rfl rfl (lb rfl) st32.2 (svA q6 rfl) (svA q6 rfl) (Eq.trans (by kernel_rfl) (congrArg some hx1))) <|
  ils_cons rfl (mvB rfl rfl rfl rfl) <|
  ils_guard rfl rfl (.one rfl) rfl (by decide) (fun hb => (faR 16 rfl rfl rfl Try.underlying35 rfl ti3 (lb rfl) rfl rfl)) <|
  ils_guard rfl rfl (.one rfl) rfl (by decide) (fun hb => (iop_load_rs (d := .int _ _) rfl rfl (lb rfl) Try.underlying3 ag3 ti3 (by decide) (svcR rfl hb) rfl (nle rfl) rfl)) <|
  ils_guard rfl rfl (.one rfl) rfl (by decide) (fun hb => (faR 16 rfl rfl rfl Try.underlying35 rfl ti3 (lb rfl) rfl rfl)) <|
  ils_guard rfl rfl (.one rfl) rfl (by decide) (fun hb => (iop_load_rs (d := .int _ _) rfl rfl (lb rfl) Try.underlying3 ag3 ti3 (by decide) (svcR rfl hb) rfl (nle rfl) rfl)) <|
  ils_guard rfl rfl (.one rfl) rfl (by decide) (fun hb => (iop_cmpx rfl rfl (lb rfl) (svcI rfl hb) (svcI rfl hb) rfl hx2)) <|
  ils_cons rfl (iop_andx rfl rfl (lb rfl) (svB rfl) rfl rfl hx3) <|
  ils_cons rfl (mvB rfl rfl rfl rfl) <|
  ils_guard rfl rfl (.one rfl) rfl (by decide) (fun hb => (faR 17 rfl rfl rfl Try.underlying35 rfl ti33 (lb rfl) rfl rfl)) <|
  ils_guard rfl rfl (.one rfl) rfl (by decide) (fun hb => (iop_load_rs (d := .slice _ _) rfl rfl (lb rfl) Try.underlying33 ag33 ti33 (by decide) (svcR rfl hb) rfl (nle rfl) rfl)) <|
  ils_guard rfl rfl (.one rfl) rfl (by decide) (fun hb => (faR 17 rfl rfl rfl Try.underlying35 rfl ti33 (lb rfl) rfl rfl)) <|
  ils_guard rfl rfl (.one rfl) rfl (by decide) (fun hb => (iop_load_rs (d := .slice _ _) rfl rfl (lb rfl) Try.underlying33 ag33 ti33 (by decide) (svcR rfl hb) rfl (nle rfl) rfl)) <|
  ils_guard rfl rfl (.one rfl) rfl (by decide) (fun hb => (iop_call (r := .bool _) rfl rfl (lb rfl) cl60 (.cons (svcL rfl hb) (.cons (svcL rfl hb) .nil)) rfl (p_slices_Equal_paths_Bind_paths_Bind _ _ _ (gd_t hx4 hb)))) <|
  ils_cons rfl (iop_andx rfl rfl (lb rfl) (svB rfl) rfl rfl hx5) <|
  ils_cons rfl (asB rfl rfl rfl rfl) <|
  ils_end ?_)
 refine iwp_ret ?_
 obtain rfl := Option.some.inj h
 refine ⟨.inr rfl, (.cons (sv rfl) .nil)⟩

theorem p_sennitlaw28_awake  (r : Bool) (h : sennitlaw28_awake = some r) : PureAt Try.prog 8 [] (.bool r) := by
 refine pure_of_iwp (rs := [.bool r]) Try.func8 rfl Try.ntmps8 (nle rfl) rfl fun O hO => ?_
 show IWP _ _ _ _ ⟨[], []⟩ _
 unfold sennitlaw28_awake at h
 refine iwp_reg (ils_cons rfl (iop_assign rfl rfl (lb rfl) (sv (d := .bool false) rfl)) <|
  ils_end ?_)
 obtain ⟨x1, hx1, h⟩ := bno_e h
 obtain ⟨x2, hx2, h⟩ := bno_e h
 refine iwp_reg (ils_cons rfl (iop_call (r := .agg q3) rfl rfl (lb rfl) cl35 .nil rfl (p_paths_New  _ hx1)) <|
  ils_cons rfl (iop_call (r := .tuple q13) rfl rfl (lb rfl) cl10 (.cons (svA q3 rfl) (.cons (sv (d := .int _ 1) rfl) .nil)) rfl (p_paths_Rise _ _ _ hx2)) <|
  ils_cons rfl (iop_move rfl rfl (lb rfl) (sv (d := .tuple q13) rfl)) <|
  ils_cons rfl (iop_extract (d := .agg q3) rfl rfl (lb rfl) (sv (d := .tuple q13) rfl) rfl) <|
  ils_cons rfl (iop_extract (d := .bool _) rfl rfl (lb rfl) (sv (d := .tuple q13) rfl) rfl) <|
  ils_cons rfl (iop_allocS (cs := q5) (cs' := (w14 false false 0 0 false false 0 0 false false 0 0 false false 0 0 0 ([] : List T_paths_Bind))) 0 rfl rfl (lb rfl) rfl ti35 rfl rfl (.k4 (.k (.k4 (.k (.k4 (.k (.k (.k (.cons (.nils _) .nil)))))))))) <|
  ils_cons rfl (stA q3 q3 ti35 rfl rfl rfl rfl rfl rfl rfl rfl (nle rfl) rfl) <|
  ils_cons rfl (asB rfl rfl rfl rfl) <|
  ils_end ?_)
 obtain ⟨x3, hx3, h⟩ := bno_e h
 refine iwp_reg (ils_cons rfl (lra q3 la35 rfl rfl rfl rfl rfl (nle rfl) rfl) <|
  ils_cons rfl (iop_call (r := .tuple q13) rfl rfl (lb rfl) cl10 (.cons (svA q3 rfl) (.cons (sv (d := .int _ 2) rfl) .nil)) rfl (p_paths_Rise _ _ _ hx3)) <|
  ils_cons rfl (iop_move rfl rfl (lb rfl) (sv (d := .tuple q13) rfl)) <|
  ils_cons rfl (iop_extract (d := .agg q3) rfl rfl (lb rfl) (sv (d := .tuple q13) rfl) rfl) <|
  ils_cons rfl (iop_extract (d := .bool _) rfl rfl (lb rfl) (sv (d := .tuple q13) rfl) rfl) <|
  ils_cons rfl (stA q3 q3 ti35 rfl rfl rfl rfl rfl rfl rfl rfl (nle rfl) rfl) <|
  ils_cons rfl (asB rfl rfl rfl rfl) <|
  ils_end ?_)
 obtain ⟨x4, hx4, h⟩ := bno_e h
 refine iwp_reg (ils_cons rfl (lra q3 la35 rfl rfl rfl rfl rfl (nle rfl) rfl) <|
  ils_cons rfl (iop_call (r := .tuple q13) rfl rfl (lb rfl) cl10 (.cons (svA q3 rfl) (.cons (sv (d := .int _ 2) rfl) .nil)) rfl (p_paths_Rise _ _ _ hx4)) <|
  ils_cons rfl (iop_move rfl rfl (lb rfl) (sv (d := .tuple q13) rfl)) <|
  ils_cons rfl (iop_extract (d := .agg q3) rfl rfl (lb rfl) (sv (d := .tuple q13) rfl) rfl) <|
  ils_cons rfl (iop_extract (d := .bool _) rfl rfl (lb rfl) (sv (d := .tuple q13) rfl) rfl) <|
  ils_cons rfl (iop_allocS (cs := q5) (cs' := (w14 false false 0 0 false false 0 0 false false 0 0 false false 0 0 0 ([] : List T_paths_Bind))) 1 rfl rfl (lb rfl) rfl ti35 rfl rfl (.k4 (.k (.k4 (.k (.k4 (.k (.k (.k (.cons (.nils _) .nil)))))))))) <|
  ils_cons rfl (stA q3 q3 ti35 rfl rfl rfl rfl rfl rfl rfl rfl (nle rfl) rfl) <|
  ils_cons rfl (asB rfl rfl rfl rfl) <|
  ils_end ?_)
 obtain ⟨x5, hx5, h⟩ := bno_e h
 refine iwp_reg (ils_cons rfl (lra q3 la35 rfl rfl rfl rfl rfl (nle rfl) rfl) <|
  ils_cons rfl (iop_call (r := .agg q3) rfl rfl (lb rfl) cl21 (.cons (svA q3 rfl) (.cons (sv (d := .int _ 2) rfl) (.cons (sv (d := .int _ 100) rfl) (.cons (sv (d := .int _ 5) rfl) .nil)))) rfl (p_paths_Note _ _ _ _ _ hx5)) <|
  ils_cons rfl (stA q3 q3 ti35 rfl rfl rfl rfl rfl rfl rfl rfl (nle rfl) rfl) <|
  ils_end ?_)
 obtain ⟨x6, hx6, h⟩ := bno_e h
 refine iwp_reg (ils_cons rfl (lra q3 la35 rfl rfl rfl rfl rfl (nle rfl) rfl) <|
  ils_cons rfl (iop_call (r := .tuple q12) rfl rfl (lb rfl) cl14 (.cons (svA q3 rfl) (.cons (sv (d := .int _ 7) rfl) .nil)) rfl (p_paths_Choose _ _ _ hx6)) <|
  ils_cons rfl (iop_move rfl rfl (lb rfl) (sv (d := .tuple q12) rfl)) <|
  ils_cons rfl (iop_extract (d := .agg q3) rfl rfl (lb rfl) (sv (d := .tuple q12) rfl) rfl) <|
  ils_cons rfl (iop_extract (d := .int _ _) rfl rfl (lb rfl) (sv (d := .tuple q12) rfl) rfl) <|
  ils_cons rfl (iop_allocS (cs := q5) (cs' := (w14 false false 0 0 false false 0 0 false false 0 0 false false 0 0 0 ([] : List T_paths_Bind))) 2 rfl rfl (lb rfl) rfl ti35 rfl rfl (.k4 (.k (.k4 (.k (.k4 (.k (.k (.k (.cons (.nils _) .nil)))))))))) <|
  ils_cons rfl (stA q3 q3 ti35 rfl rfl rfl rfl rfl rfl rfl rfl (nle rfl) rfl) <|
  ils_cons rfl (asI rfl rfl rfl rfl) <|
  ils_end ?_)
 obtain ⟨x7, hx7, h⟩ := bno_e h
 refine iwp_reg (ils_cons rfl (lra q3 la35 rfl rfl rfl rfl rfl (nle rfl) rfl) <|
  ils_cons rfl (iop_call (r := .tuple q12) rfl rfl (lb rfl) cl16 (.cons (svA q3 rfl) .nil) rfl (p_paths_Pin _ _ hx7)) <|
  ils_cons rfl (iop_move rfl rfl (lb rfl) (sv (d := .tuple q12) rfl)) <|
  ils_cons rfl (iop_extract (d := .agg q3) rfl rfl (lb rfl) (sv (d := .tuple q12) rfl) rfl) <|
  ils_cons rfl (iop_extract (d := .int _ _) rfl rfl (lb rfl) (sv (d := .tuple q12) rfl) rfl) <|
  ils_cons rfl (stA q3 q3 ti35 rfl rfl rfl rfl rfl rfl rfl rfl (nle rfl) rfl) <|
  ils_cons rfl (asI rfl rfl rfl rfl) <|
  ils_end ?_)
 obtain ⟨x8, hx8, h⟩ := bno_e h
 refine iwp_reg (ils_cons rfl (lra q3 la35 rfl rfl rfl rfl rfl (nle rfl) rfl) <|
  ils_cons rfl (iop_call (r := .tuple q11) rfl rfl (lb rfl) cl12 (.cons (svA q3 rfl) (.cons (sv (d := .int _ 2) rfl) .nil)) rfl (p_paths_Fall _ _ _ hx8)) <|
  ils_cons rfl (iop_move rfl rfl (lb rfl) (sv (d := .tuple q11) rfl)) <|
  ils_cons rfl (iop_extract (d := .agg q3) rfl rfl (lb rfl) (sv (d := .tuple q11) rfl) rfl) <|
  ils_cons rfl (iop_extract (d := .slice _ _) rfl rfl (lb rfl) (sv (d := .tuple q11) rfl) rfl) <|
  ils_cons rfl (iop_extract (d := .bool _) rfl rfl (lb rfl) (sv (d := .tuple q11) rfl) rfl) <|
  ils_cons rfl (iop_allocS (cs := q5) (cs' := (w14 false false 0 0 false false 0 0 false false 0 0 false false 0 0 0 ([] : List T_paths_Bind))) 3 rfl rfl (lb rfl) rfl ti35 rfl rfl (.k4 (.k (.k4 (.k (.k4 (.k (.k (.k (.cons (.nils _) .nil)))))))))) <|
  ils_cons rfl (stA q3 q3 ti35 rfl rfl rfl rfl rfl rfl rfl rfl (nle rfl) rfl) <|
  ils_cons rfl (iop_assign rfl rfl (lb rfl) (svL rfl)) <|
  ils_cons rfl (asB rfl rfl rfl rfl) <|
  ils_end ?_)
 obtain ⟨x9, hx9, h⟩ := bno_e h
 refine iwp_reg (ils_cons rfl (lra q3 la35 rfl rfl rfl rfl rfl (nle rfl) rfl) <|
  ils_cons rfl (iop_call (r := .tuple q12) rfl rfl (lb rfl) cl14 (.cons (svA q3 rfl) (.cons (sv (d := .int _ 7) rfl) .nil)) rfl (p_paths_Choose _ _ _ hx9)) <|
  ils_cons rfl (iop_move rfl rfl (lb rfl) (sv (d := .tuple q12) rfl)) <|
  ils_cons rfl (iop_extract (d := .agg q3) rfl rfl (lb rfl) (sv (d := .tuple q12) rfl) rfl) <|
  ils_cons rfl (iop_extract (d := .int _ _) rfl rfl (lb rfl) (sv (d := .tuple q12) rfl) rfl) <|
  ils_cons rfl (iop_allocS (cs := q5) (cs' := (w14 false false 0 0 false false 0 0 false false 0 0 false false 0 0 0 ([] : List T_paths_Bind))) 4 rfl rfl (lb rfl) rfl ti35 rfl rfl (.k4 (.k (.k4 (.k (.k4 (.k (.k (.k (.cons (.nils _) .nil)))))))))) <|
  ils_cons rfl (stA q3 q3 ti35 rfl rfl rfl rfl rfl rfl rfl rfl (nle rfl) rfl) <|
  ils_cons rfl (asI rfl rfl rfl rfl) <|
  ils_end ?_)
 obtain ⟨x10, hx10, h⟩ := bno_e h
 refine iwp_reg (ils_cons rfl (lra q3 la35 rfl rfl rfl rfl rfl (nle rfl) rfl) <|
  ils_cons rfl (iop_call (r := .tuple q12) rfl rfl (lb rfl) cl16 (.cons (svA q3 rfl) .nil) rfl (p_paths_Pin _ _ hx10)) <|
  ils_cons rfl (iop_move rfl rfl (lb rfl) (sv (d := .tuple q12) rfl)) <|
  ils_cons rfl (iop_extract (d := .agg q3) rfl rfl (lb rfl) (sv (d := .tuple q12) rfl) rfl) <|
  ils_cons rfl (iop_extract (d := .int _ _) rfl rfl (lb rfl) (sv (d := .tuple q12) rfl) rfl) <|
  ils_cons rfl (stA q3 q3 ti35 rfl rfl rfl rfl rfl rfl rfl rfl (nle rfl) rfl) <|
  ils_cons rfl (asI rfl rfl rfl rfl) <|
  ils_end ?_)
 obtain ⟨x11, hx11, h⟩ := bno_e h
 refine iwp_reg (ils_cons rfl (lra q3 la35 rfl rfl rfl rfl rfl (nle rfl) rfl) <|
  ils_cons rfl (iop_call (r := .agg q3) rfl rfl (lb rfl) cl23 (.cons (svA q3 rfl) (.cons (sv (d := .int _ 7) rfl) .nil)) rfl (p_paths_Free _ _ _ hx11)) <|
  ils_cons rfl (iop_allocS (cs := q5) (cs' := (w14 false false 0 0 false false 0 0 false false 0 0 false false 0 0 0 ([] : List T_paths_Bind))) 5 rfl rfl (lb rfl) rfl ti35 rfl rfl (.k4 (.k (.k4 (.k (.k4 (.k (.k (.k (.cons (.nils _) .nil)))))))))) <|
  ils_cons rfl (stA q3 q3 ti35 rfl rfl rfl rfl rfl rfl rfl rfl (nle rfl) rfl) <|
  ils_end ?_)
 obtain ⟨x12, hx12, h⟩ := bno_e h
 refine iwp_reg (ils_cons rfl (lra q3 la35 rfl rfl rfl rfl rfl (nle rfl) rfl) <|
  ils_cons rfl (iop_call (r := .slice _ _) rfl rfl (lb rfl) cl25 (.cons (svA q3 rfl) .nil) rfl (p_paths_Rates _ _ hx12)) <|
  ils_cons rfl (iop_assign rfl rfl (lb rfl) (svL rfl)) <|
  ils_end ?_)
 obtain ⟨x13, hx13, h⟩ := bnd_e h
 obtain ⟨x14, hx14, h⟩ := bnd_e h
 obtain ⟨x15, hx15, h⟩ := bnd_e h
 obtain ⟨x16, hx16, h⟩ := bnd_e h
 obtain ⟨x17, hx17, h⟩ := bnd_e h
 obtain ⟨x18, hx18, h⟩ := bnd_e h
 obtain ⟨x19, hx19, h⟩ := bno_e h
 obtain ⟨x20, hx20, h⟩ := bnd_e h
 obtain ⟨x21, hx21, h⟩ := bnd_e h
 obtain ⟨x22, hx22, h⟩ := bnd_e h
 obtain ⟨x23, hx23, h⟩ := bnd_e h
 obtain ⟨x24, hx24, h⟩ := bnd_e h
 obtain ⟨x25, hx25, h⟩ := bnd_e h
 obtain ⟨x26, hx26, h⟩ := bnd_e h
 obtain ⟨x27, hx27, h⟩ := bnd_e h
 obtain ⟨x28, hx28, h⟩ := bnd_e h
 obtain ⟨x29, hx29, h⟩ := bnd_e h
 obtain ⟨x30, hx30, h⟩ := bno_e h
 obtain ⟨x31, hx31, h⟩ := bno_e h
 obtain ⟨x32, hx32, h⟩ := bnd_e h
 obtain ⟨x33, hx33, h⟩ := bno_e h
 obtain ⟨x34, hx34, h⟩ := bnd_e h
 obtain ⟨x35, hx35, h⟩ := bnd_e h
 obtain ⟨x36, hx36, h⟩ := bno_e h
 obtain ⟨x37, hx37, h⟩ := bno_e h
 obtain ⟨x38, hx38, h⟩ := bnd_e h
 obtain ⟨x39, hx39, h⟩ := bnd_e h
 obtain ⟨x40, hx40, h⟩ := bnd_e h
 obtain ⟨x41, hx41, h⟩ := bnd_e h
 obtain ⟨x42, hx42, h⟩ := bno_e h
 obtain ⟨x43, hx43, h⟩ := bno_e h
 obtain ⟨x44, hx44, h⟩ := bnd_e h
 obtain ⟨x45, hx45, h⟩ := bnd_e h
 obtain ⟨x46, hx46, h⟩ := bno_e h
 obtain ⟨x47, hx47, h⟩ := bnd_e h
 obtain ⟨x48, hx48, h⟩ := bnd_e h
 obtain ⟨x49, hx49, h⟩ := bno_e h
 obtain ⟨x50, hx50, h⟩ := bnd_e h
 obtain ⟨x51, hx51, h⟩ := bnd_e h
 obtain ⟨x52, hx52, h⟩ := bno_e h
 obtain ⟨x53, hx53, h⟩ := bnd_e h
 obtain ⟨x54, hx54, h⟩ := bnd_e h
 obtain ⟨x55, hx55, h⟩ := bno_e h
 obtain ⟨x56, hx56, h⟩ := bnd_e h
 obtain ⟨x57, hx57, h⟩ := bno_e h
 obtain ⟨x58, hx58, h⟩ := bnd_e h
 obtain ⟨x59, hx59, h⟩ := bnd_e h
 obtain ⟨x60, hx60, h⟩ := bnd_e h
 obtain ⟨x61, hx61, h⟩ := bnd_e h
 obtain ⟨x62, hx62, h⟩ := bnd_e h
 refine iwp_reg (ils_cons rfl (mvB rfl rfl rfl rfl) <|
  ils_cons rfl (mvB rfl rfl rfl rfl) <|
  ils_guard rfl rfl (.one rfl) rfl (by decide) (fun hb => (mvB rfl rfl rfl rfl)) <|
  ils_cons rfl (iop_andx rfl rfl (lb rfl) (svB rfl) rfl rfl hx13) <|
  ils_cons rfl (mvB rfl rfl rfl rfl) <|
  ils_guard rfl rfl (.one rfl) rfl (by decide) (fun hb => (mvB rfl rfl rfl rfl)) <|
  ils_guard rfl rfl (.one rfl) rfl (by decide) (fun hb => (iop_not rfl rfl (lb rfl) (svcB rfl hb))) <|
  ils_cons rfl (iop_andx rfl rfl (lb rfl) (svB rfl) rfl rfl hx14) <|
  ils_cons rfl (mvB rfl rfl rfl rfl) <|
  ils_guard rfl rfl (.one rfl) rfl (by decide) (fun hb => (mvI rfl rfl rfl rfl)) <|
  ils_guard rfl rfl (.one rfl) rfl (by decide) (fun hb => (iop_cmpx rfl rfl (lb rfl) (svcI rfl hb) (sv (d := .int _ 2) rfl) rfl hx15)) <|
  ils_cons rfl (iop_andx rfl rfl (lb rfl) (svB rfl) rfl rfl hx16) <|
  ils_cons rfl (mvB rfl rfl rfl rfl) <|
  ils_guard rfl rfl (.one rfl) rfl (by decide) (fun hb => (mvI rfl rfl rfl rfl)) <|
  ils_guard rfl rfl (.one rfl) rfl (by decide) (fun hb => (iop_cmpx rfl rfl (lb rfl) (svcI rfl hb) (sv (d := .int _ 2) rfl) rfl hx17)) <|
  ils_cons rfl (iop_andx rfl rfl (lb rfl) (svB rfl) rfl rfl hx18) <|
  ils_cons rfl (mvB rfl rfl rfl rfl) <|
  ils_guard rfl rfl (.one rfl) rfl (by decide) (fun hb => (mvL rfl rfl rfl rfl)) <|
  ils_guard rfl rfl (.one rfl) rfl (by decide) (fun hb => (iop_bsF (eInt .i64) ([7] : (List Int)) rfl rfl (lb rfl) Try.underlying41 ti3 (.cons (sv (d := .int _ 7) rfl) .nil) rfl rfl (by decide))) <|
  ils_guard rfl rfl (.one rfl) rfl (by decide) (fun hb => (iop_call (r := .bool _) rfl rfl (lb rfl) cl20 (.cons (svcL rfl hb) (.cons (svcL rfl hb) .nil)) rfl (p_sennitref28_SameInts _ _ _ (gd_t hx19 hb)))) <|
  ils_cons rfl (iop_andx rfl rfl (lb rfl) (svB rfl) rfl rfl hx20) <|
  ils_cons rfl (mvB rfl rfl rfl rfl) <|
  ils_guard rfl rfl (.one rfl) rfl (by decide) (fun hb => (mvB rfl rfl rfl rfl)) <|
  ils_cons rfl (iop_andx rfl rfl (lb rfl) (svB rfl) rfl rfl hx21) <|
  ils_cons rfl (mvB rfl rfl rfl rfl) <|
  ils_guard rfl rfl (.one rfl) rfl (by decide) (fun hb => (faR 16 rfl rfl rfl Try.underlying35 rfl ti3 (lb rfl) rfl rfl)) <|
  ils_guard rfl rfl (.one rfl) rfl (by decide) (fun hb => (iop_load_rs (d := .int _ _) rfl rfl (lb rfl) Try.underlying3 ag3 ti3 (by decide) (svcR rfl hb) rfl (nle rfl) rfl)) <|
  ils_guard rfl rfl (.one rfl) rfl (by decide) (fun hb => (iop_cmpx rfl rfl (lb rfl) (svcI rfl hb) (sv (d := .int _ (-1)) rfl) rfl hx22)) <|
  ils_cons rfl (iop_andx rfl rfl (lb rfl) (svB rfl) rfl rfl hx23) <|
  ils_cons rfl (mvB rfl rfl rfl rfl) <|
  ils_guard rfl rfl (.one rfl) rfl (by decide) (fun hb => (mvI rfl rfl rfl rfl)) <|
  ils_guard rfl rfl (.one rfl) rfl (by decide) (fun hb => (iop_cmpx rfl rfl (lb rfl) (svcI rfl hb) (sv (d := .int _ 1) rfl) rfl hx24)) <|
  ils_cons rfl (iop_andx rfl rfl (lb rfl) (svB rfl) rfl rfl hx25) <|
  ils_cons rfl (mvB rfl rfl rfl rfl) <|
  ils_guard rfl rfl (.one rfl) rfl (by decide) (fun hb => (mvI rfl rfl rfl rfl)) <|
  ils_guard rfl rfl (.one rfl) rfl (by decide) (fun hb => (iop_cmpx rfl rfl (lb rfl) (svcI rfl hb) (sv (d := .int _ 1) rfl) rfl hx26)) <|
  ils_cons rfl (iop_andx rfl rfl (lb rfl) (svB rfl) rfl rfl hx27) <|
  ils_cons rfl (mvB rfl rfl rfl rfl) <|
  ils_guard rfl rfl (.one rfl) rfl (by decide) (fun hb => (faR 17 rfl rfl rfl Try.underlying35 rfl ti33 (lb rfl) rfl rfl)) <|
  ils_guard rfl rfl (.one rfl) rfl (by decide) (fun hb => (iop_load_rs (d := .slice _ _) rfl rfl (lb rfl) Try.underlying33 ag33 ti33 (by decide) (svcR rfl hb) rfl (nle rfl) rfl)) <|
  ils_guard rfl rfl (.one rfl) rfl (by decide) (fun hb => (iop_lenT E_paths_Bind (l := x11.Binds) rfl rfl (lb rfl) Try.underlying33 (svcL rfl hb))) <|
  ils_guard rfl rfl (.one rfl) rfl (by decide) (fun hb => (iop_cmpx rfl rfl (lb rfl) (svcI rfl hb) (sv (d := .int _ 0) rfl) rfl hx28)) <|
  ils_cons rfl (iop_andx rfl rfl (lb rfl) (svB rfl) rfl rfl hx29) <|
  ils_cons rfl (mvB rfl rfl rfl rfl) <|
  ils_guard rfl rfl (.one rfl) rfl (by decide) (fun hb => (lra q3 la35 rfl rfl rfl rfl rfl (nle rfl) rfl)) <|
  ils_guard rfl rfl (.one rfl) rfl (by decide) (fun hb => (iop_call (r := .slice _ _) rfl rfl (lb rfl) cl30 (.cons (svcA (v0 x10.1) rfl hb) .nil) rfl (p_paths_Alive _ _ (gd_t hx30 hb)))) <|
  ils_guard rfl rfl (.one rfl) rfl (by decide) (fun hb => (iop_bsF (eInt .i64) ([1] : (List Int)) rfl rfl (lb rfl) Try.underlying41 ti3 (.cons (sv (d := .int _ 1) rfl) .nil) rfl rfl (by decide))) <|
  ils_guard rfl rfl (.one rfl) rfl (by decide) (fun hb => (iop_call (r := .bool _) rfl rfl (lb rfl) cl20 (.cons (svcL rfl hb) (.cons (svcL rfl hb) .nil)) rfl (p_sennitref28_SameInts _ _ _ (gd_t hx31 hb)))) <|
  ils_cons rfl (iop_andx rfl rfl (lb rfl) (svB rfl) rfl rfl hx32) <|
  ils_cons rfl (mvB rfl rfl rfl rfl) <|
  ils_guard rfl rfl (.one rfl) rfl (by decide) (fun hb => (lra q3 la35 rfl rfl rfl rfl rfl (nle rfl) rfl)) <|
  ils_guard rfl rfl (.one rfl) rfl (by decide) (fun hb => (iop_call (r := .int _ _) rfl rfl (lb rfl) cl32 (.cons (svcA (v0 x5) rfl hb) .nil) rfl (p_paths_Best _ _ (gd_t hx33 hb)))) <|
  ils_guard rfl rfl (.one rfl) rfl (by decide) (fun hb => (iop_cmpx rfl rfl (lb rfl) (svcI rfl hb) (sv (d := .int _ 2) rfl) rfl hx34)) <|
  ils_cons rfl (iop_andx rfl rfl (lb rfl) (svB rfl) rfl rfl hx35) <|
  ils_cons rfl (mvB rfl rfl rfl rfl) <|
  ils_guard rfl rfl (.one rfl) rfl (by decide) (fun hb => (iop_call (r := .agg q3) rfl rfl (lb rfl) cl35 .nil rfl (p_paths_New  _ (gd_t hx36 hb)))) <|
  ils_guard rfl rfl (.one rfl) rfl (by decide) (fun hb => (iop_call (r := .int _ _) rfl rfl (lb rfl) cl32 (.cons (svcA (v0 x36) rfl hb) .nil) rfl (p_paths_Best _ _ (gd_t hx37 hb)))) <|
  ils_guard rfl rfl (.one rfl) rfl (by decide) (fun hb => (iop_cmpx rfl rfl (lb rfl) (svcI rfl hb) (sv (d := .int _ (-1)) rfl) rfl hx38)) <|
  ils_cons rfl (iop_andx rfl rfl (lb rfl) (svB rfl) rfl rfl hx39) <|
  ils_cons rfl (mvB rfl rfl rfl rfl) <|
  ils_guard rfl rfl (.one rfl) rfl (by decide) (fun hb => (mvL rfl rfl rfl rfl)) <|
  ils_guard rfl rfl (.one rfl) rfl (by decide) (fun hb => (iop_lenT (eFlt .f64) (l := x12) rfl rfl (lb rfl) Try.underlying60 (svcL rfl hb))) <|
  ils_guard rfl rfl (.one rfl) rfl (by decide) (fun hb => (iop_cmpx rfl rfl (lb rfl) (svcI rfl hb) (sv (d := .int _ 4) rfl) rfl hx40)) <|
  ils_cons rfl (iop_andx rfl rfl (lb rfl) (svB rfl) rfl rfl hx41) <|
  ils_cons rfl (mvB rfl rfl rfl rfl) <|
  ils_guard rfl rfl (.one rfl) rfl (by decide) (fun hb => (mvL rfl rfl rfl rfl)) <|
  ils_guard rfl rfl (.one rfl) rfl (by decide) (fun hb => (iop_idxT (eFlt .f64) (cs := [.float _ _]) rfl rfl (lb rfl) Try.underlying60 ti65 (svcL rfl hb) (sv (d := .int _ 0) rfl) (gd_t hx42 hb) rfl rfl)) <|
  ils_guard rfl rfl (.one rfl) rfl (by decide) (fun hb => (iop_load_fs rfl rfl (lb rfl) Try.underlying65 ag65 ti65 (by decide) (svc (d := .fptr [.float _ _]) rfl hb) (nle rfl))) <|
  ils_guard rfl rfl (.one rfl) rfl (by decide) (fun hb => (iop_call (r := .int _ _) rfl rfl (lb rfl) cl39 (.cons (svc (d := .float _ _) rfl hb) .nil) rfl (p_gauge_Kind _ _ (gd_t hx43 hb)))) <|
  ils_guard rfl rfl (.one rfl) rfl (by decide) (fun hb => (iop_cmpx rfl rfl (lb rfl) (svcI rfl hb) (sv (d := .int _ 0) rfl) rfl hx44)) <|
  ils_cons rfl (iop_andx rfl rfl (lb rfl) (svB rfl) rfl rfl hx45) <|
  ils_cons rfl (mvB rfl rfl rfl rfl) <|
  ils_guard rfl rfl (.one rfl) rfl (by decide) (fun hb => (mvL rfl rfl rfl rfl)) <|
  ils_guard rfl rfl (.one rfl) rfl (by decide) (fun hb => (iop_idxT (eFlt .f64) (cs := [.float _ _]) rfl rfl (lb rfl) Try.underlying60 ti65 (svcL rfl hb) (sv (d := .int _ 2) rfl) (gd_t hx46 hb) rfl rfl)) <|
  ils_guard rfl rfl (.one rfl) rfl (by decide) (fun hb => (iop_load_fs rfl rfl (lb rfl) Try.underlying65 ag65 ti65 (by decide) (svc (d := .fptr [.float _ _]) rfl hb) (nle rfl))) <|
  ils_guard rfl rfl (.one rfl) rfl (by decide) (fun hb => (iop_fcmpx rfl rfl (lb rfl) (svc (d := .float _ _) rfl hb) (sv (d := .float _ _) rfl) rfl hx47)) <|
  ils_cons rfl (iop_andx rfl rfl (lb rfl) (svB rfl) rfl rfl hx48) <|
  ils_cons rfl (mvB rfl rfl rfl rfl) <|
  ils_guard rfl rfl (.one rfl) rfl (by decide) (fun hb => (lra q3 la35 rfl rfl rfl rfl rfl (nle rfl) rfl)) <|
  ils_guard rfl rfl (.one rfl) rfl (by decide) (fun hb => (iop_call (r := .int _ _) rfl rfl (lb rfl) cl28 (.cons (svcA (v0 x10.1) rfl hb) .nil) rfl (p_paths_Check _ _ (gd_t hx49 hb)))) <|
  ils_guard rfl rfl (.one rfl) rfl (by decide) (fun hb => (iop_cmpx rfl rfl (lb rfl) (svcI rfl hb) (sv (d := .int _ 0) rfl) rfl hx50)) <|
  ils_cons rfl (iop_andx rfl rfl (lb rfl) (svB rfl) rfl rfl hx51) <|
  ils_cons rfl (mvB rfl rfl rfl rfl) <|
  ils_guard rfl rfl (.one rfl) rfl (by decide) (fun hb => (iop_sub (d' := .agg (w14 false false 0 0 false false 0 0 false false 0 0 false false 0 0 0 ([] : List T_paths_Bind))) (iop_build_struct (cs := q5) rfl rfl (lb rfl) Try.underlying35 ti35 pl35 rfl .nil rfl) (.agg (.k4 (.k (.k4 (.k (.k4 (.k (.k (.k (.cons (.nils _) .nil)))))))))))) <|
  ils_guard rfl rfl (.one rfl) rfl (by decide) (fun hb => (iop_call (r := .int _ _) rfl rfl (lb rfl) cl28 (.cons (svc (d := .agg (w14 false false 0 0 false false 0 0 false false 0 0 false false 0 0 0 ([] : List T_paths_Bind))) rfl hb) .nil) rfl (p_paths_Check _ _ (gd_t hx52 hb)))) <|
  ils_guard rfl rfl (.one rfl) rfl (by decide) (fun hb => (iop_cmpx rfl rfl (lb rfl) (svcI rfl hb) (sv (d := .int _ 9) rfl) rfl hx53)) <|
  ils_cons rfl (iop_andx rfl rfl (lb rfl) (svB rfl) rfl rfl hx54) <|
  ils_cons rfl (mvB rfl rfl rfl rfl) <|
  ils_guard rfl rfl (.one rfl) rfl (by decide) (fun hb => (lra q3 la35 rfl rfl rfl rfl rfl (nle rfl) rfl)) <|
  ils_guard rfl rfl (.one rfl) rfl (by decide) (fun hb => (lra q3 la35 rfl rfl rfl rfl rfl (nle rfl) rfl)) <|
  ils_guard rfl rfl (.one rfl) rfl (by decide) (fun hb => (iop_call (r := .bool _) rfl rfl (lb rfl) cl34 (.cons (svcA (v0 x7.1) rfl hb) (.cons (svcA (v0 x8.1) rfl hb) .nil)) rfl (p_paths_Same _ _ _ (gd_t hx55 hb)))) <|
  ils_guard rfl rfl (.one rfl) rfl (by decide) (fun hb => (iop_not rfl rfl (lb rfl) (svcB rfl hb))) <|
  ils_cons rfl (iop_andx rfl rfl (lb rfl) (svB rfl) rfl rfl hx56) <|
  ils_cons rfl (mvB rfl rfl rfl rfl) <|
  ils_guard rfl rfl (.one rfl) rfl (by decide) (fun hb => (lra q3 la35 rfl rfl rfl rfl rfl (nle rfl) rfl)) <|
  ils_guard rfl rfl (.one rfl) rfl (by decide) (fun hb => (lra q3 la35 rfl rfl rfl rfl rfl (nle rfl) rfl)) <|
  ils_guard rfl rfl (.one rfl) rfl (by decide) (fun hb => (iop_call (r := .bool _) rfl rfl (lb rfl) cl34 (.cons (svcA (v0 x10.1) rfl hb) (.cons (svcA (v0 x10.1) rfl hb) .nil)) rfl (p_paths_Same _ _ _ (gd_t hx57 hb)))) <|
  ils_cons rfl (iop_andx rfl rfl (lb rfl) (svB rfl) rfl rfl hx58) <|
  ils_cons rfl (mvB rfl rfl rfl rfl) <|
  ils_cons rfl (iop_pickc rfl rfl (lb rfl) (svB rfl) rfl rfl hx59) <|
  ils_cons rfl (mvB rfl rfl rfl rfl) <|
  ils_cons rfl (iop_pickc rfl rfl (lb rfl) (svB rfl) rfl rfl hx60) <|
  ils_cons rfl (mvB rfl rfl rfl rfl) <|
  ils_cons rfl (iop_pickc rfl rfl (lb rfl) (svB rfl) rfl rfl hx61) <|
  ils_cons rfl (mvB rfl rfl rfl rfl) <|
  ils_cons rfl (iop_pickc rfl rfl (lb rfl) (svB rfl) rfl rfl hx62) <|
  ils_cons rfl (asB rfl rfl rfl rfl) <|
  ils_end ?_)
 refine iwp_ret ?_
 obtain rfl := Option.some.inj h
 refine ⟨.inr rfl, (.cons (sv rfl) .nil)⟩

theorem p_sennitlaw28_is (a0 : (List Int)) (a1 : Int) (r : Bool) (h : sennitlaw28_is a0 a1 = some r) : PureAt Try.prog 37 [.slice false (a0.map (eInt .i64).d), .int .i64 a1] (.bool r) := by
 refine pure_of_iwp (rs := [.bool r]) Try.func37 rfl Try.ntmps37 (nle rfl) rfl fun O hO => ?_
 show IWP _ _ _ _ ⟨[(0, .slice false (a0.map (eInt .i64).d)), (1, .int .i64 a1)], []⟩ _
 unfold sennitlaw28_is at h
 refine iwp_reg (ils_cons rfl (iop_assign rfl rfl (lb rfl) (sv (d := .bool false) rfl)) <|
  ils_end ?_)
 refine iwp_seq ?_
 refine iwp_reg (ils_cons rfl (iop_assign rfl rfl (lb rfl) (sv (d := .int _ 0) rfl)) <|
  ils_end ?_)
 refine iwp_block ?_
 refine iwp_loopP (α := Nat × Int) (fun z => ⟨[(0, .slice false (a0.map (eInt .i64).d)), (1, .int .i64 a1), (5, .int .i64 z.2)], []⟩) (fun z => sennitlaw28_is_L0 a0 a1 z.1 z.2 = some r) (fun z => z.1) (fuel, 0) (fun i => i) ⟨(.sames rfl rfl), .nil, nd_of [] rfl (by decide), fun _ _ => rfl⟩ ?_ ?_
 ·exact h
 ·
  rintro ⟨n0, v7⟩ h
  cases n0 with
  | zero => exact absurd h (by unfold sennitlaw28_is_L0; exact nofun)
  | succ n0 =>
   unfold sennitlaw28_is_L0 at h
   refine iwp_seq ?_
   obtain ⟨x14, hx14, h⟩ := bnd_e h
   refine iwp_reg (ils_cons rfl (mvI rfl rfl rfl rfl) <|
    ils_cons rfl (mvL rfl rfl rfl rfl) <|
    ils_cons rfl (iop_lenT (eInt .i64) (l := a0) rfl rfl (lb rfl) Try.underlying41 (svL rfl)) <|
    ils_cons rfl (iop_cmpx rfl rfl (lb rfl) (svI rfl) (svI rfl) rfl hx14) <|
    ils_end ?_)
   refine iwp_cond (b := _) rfl (fun hc15 => ?_) (fun hc15 => ?_)
   ·
    replace h := bif_t h hc15
    refine iwp_skip ?_
    refine thenQ_n ?_
    refine iwp_seq ?_
    refine iwp_block ?_
    obtain ⟨x16, hx16, h⟩ := bno_e h
    obtain ⟨x17, hx17, h⟩ := bnd_e h
    refine iwp_reg (ils_cons rfl (mvL rfl rfl rfl rfl) <|
     ils_cons rfl (mvI rfl rfl rfl rfl) <|
     ils_cons rfl (iop_idxT (eInt .i64) (cs := [.int _ _]) rfl rfl (lb rfl) Try.underlying41 ti3 (svL rfl) (svI rfl) hx16 rfl rfl) <|
     ils_cons rfl (iop_load_fs rfl rfl (lb rfl) Try.underlying3 ag3 ti3 (by decide) (sv (d := .fptr [.int _ _]) rfl) (nle rfl)) <|
     ils_cons rfl (mvI rfl rfl rfl rfl) <|
     ils_cons rfl (iop_cmpx rfl rfl (lb rfl) (svI rfl) (svI rfl) rfl hx17) <|
     ils_end ?_)
    refine iwp_cond (b := _) rfl (fun hc18 => ?_) (fun hc18 => ?_)
    ·
     replace h := bif_t h hc18
     refine iwp_reg (ils_cons rfl (iop_assign rfl rfl (lb rfl) (sv (d := .bool true) rfl)) <|
      ils_end ?_)
     refine iwp_ret ?_
     refine blockQ_r ?_
     refine thenQ_r ?_
     refine thenQ_r ?_
     refine blockQ_r ?_
     refine thenQ_r ?_
     obtain rfl := Option.some.inj h
     refine ⟨.inr rfl, (.cons (sv rfl) .nil)⟩
    ·
     replace h := bif_f h hc18
     refine iwp_skip ?_
     refine blockQ_n ?_
     refine thenQ_n ?_
     obtain ⟨x19, hx19, h⟩ := bnd_e h
     refine iwp_region (ils_cons rfl (mvI rfl rfl rfl rfl) <|
      ils_cons rfl (iop_intx rfl rfl (lb rfl) (svI rfl) (sv (d := .int _ 1) rfl) rfl hx19) <|
      ils_cons rfl (asI rfl rfl rfl rfl) <|
      ils_nil ?_)
     refine thenQ_n ⟨(n0, x19), (fun i => i), ⟨(.sames rfl rfl), .nil, nd_of [] rfl (by decide), fun _ _ => rfl⟩, ?_, ?_⟩
     exact h
     exact Nat.lt_succ_self _
   ·
    replace h := bif_f h hc15
    refine iwp_exit ?_
    refine thenQ_e ?_
    refine thenQ_e ?_
    refine blockQ_e ?_
    refine thenQ_n ?_
    refine iwp_reg (ils_cons rfl (iop_assign rfl rfl (lb rfl) (sv (d := .bool false) rfl)) <|
     ils_end ?_)
    refine iwp_ret ?_
    obtain rfl := Option.some.inj h
    refine ⟨.inr rfl, (.cons (sv rfl) .nil)⟩

theorem p_sennitlaw28_PathsStay (a0 : (List T_sennitlaw28_Act)) (r : Bool) (h : sennitlaw28_PathsStay a0 = some r) : PureAt Try.prog 5 [.slice false (a0.map E_sennitlaw28_Act.d)] (.bool r) := by
 refine pure_of_iwp (rs := [.bool r]) Try.func5 rfl Try.ntmps5 (nle rfl) rfl fun O hO => ?_
 show IWP _ _ _ _ ⟨[(0, .slice false (a0.map E_sennitlaw28_Act.d))], []⟩ _
 unfold sennitlaw28_PathsStay at h
 refine iwp_reg (ils_cons rfl (iop_assign rfl rfl (lb rfl) (sv (d := .bool false) rfl)) <|
  ils_end ?_)
 refine iwp_seq ?_
 obtain ⟨x1, hx1, h⟩ := bnd_e h
 refine iwp_reg (ils_cons rfl (mvL rfl rfl rfl rfl) <|
  ils_cons rfl (iop_lenT E_sennitlaw28_Act (l := a0) rfl rfl (lb rfl) Try.underlying75 (svL rfl)) <|
  ils_cons rfl (iop_cmpx rfl rfl (lb rfl) (svI rfl) (sv (d := .int _ 80) rfl) rfl hx1) <|
  ils_end ?_)
 refine iwp_cond (b := _) rfl (fun hc2 => ?_) (fun hc2 => ?_)
 ·
  replace h := bif_t h hc2
  obtain ⟨x3, hx3, h⟩ := bno_e h
  refine iwp_reg (ils_cons rfl (iop_call (r := .bool _) rfl rfl (lb rfl) cl8 .nil rfl (p_sennitlaw28_awake  _ hx3)) <|
   ils_cons rfl (asB rfl rfl rfl rfl) <|
   ils_end ?_)
  refine iwp_ret ?_
  refine thenQ_r ?_
  obtain rfl := Option.some.inj h
  refine ⟨.inr rfl, (.cons (sv rfl) .nil)⟩
 ·
  replace h := bif_f h hc2
  refine iwp_skip ?_
  refine thenQ_n ?_
  obtain ⟨x4, hx4, h⟩ := bno_e h
  refine iwp_reg (ils_cons rfl (iop_call (r := .agg q3) rfl rfl (lb rfl) cl35 .nil rfl (p_paths_New  _ hx4)) <|
   ils_cons rfl (iop_allocS (cs := q5) (cs' := (w14 false false 0 0 false false 0 0 false false 0 0 false false 0 0 0 ([] : List T_paths_Bind))) 0 rfl rfl (lb rfl) rfl ti35 rfl rfl (.k4 (.k (.k4 (.k (.k4 (.k (.k (.k (.cons (.nils _) .nil)))))))))) <|
   ils_cons rfl (stA q3 q3 ti35 rfl rfl rfl rfl rfl rfl rfl rfl (nle rfl) rfl) <|
   ils_end ?_)
  refine iwp_reg (ils_cons rfl (iop_allocS (cs := [.bool _, .bool _, .bool _, .bool _]) (cs' := (w17 false false false false)) 1 rfl rfl (lb rfl) rfl ti76 rfl rfl (.all _)) <|
   ils_end ?_)
  obtain ⟨x5, hx5, h⟩ := bnd_e h
  refine iwp_reg (ils_cons rfl (iop_eqE hx5 (iop_alloc_A (eInt .i64).toEnc0 (n := 40) (a := 0) 2 rfl rfl (lb rfl) rfl ti77 rfl rfl)) <|
   ils_end ?_)
  refine iwp_seq ?_
  refine iwp_reg (ils_cons rfl (iop_assign rfl rfl (lb rfl) (sv (d := .int _ 0) rfl)) <|
   ils_end ?_)
  refine iwp_block ?_
  refine iwp_loopP (α := Nat × Int × Bool × Bool × Int × Int × Bool × Bool × Int × Int × Bool × Bool × Int × Int × Bool × Bool × Int × Int × Int × (List T_paths_Bind) × Bool × Bool × Bool × Bool × (List Int)) (fun z => ⟨[(0, .slice false (a0.map E_sennitlaw28_Act.d)), (3, .ref 0 0), (4, .ref 1 0), (5, .ref 2 0), (6, .int .i64 z.2.1)], [(0, .blk 35 (w14 z.2.2.1 z.2.2.2.1 z.2.2.2.2.1 z.2.2.2.2.2.1 z.2.2.2.2.2.2.1 z.2.2.2.2.2.2.2.1 z.2.2.2.2.2.2.2.2.1 z.2.2.2.2.2.2.2.2.2.1 z.2.2.2.2.2.2.2.2.2.2.1 z.2.2.2.2.2.2.2.2.2.2.2.1 z.2.2.2.2.2.2.2.2.2.2.2.2.1 z.2.2.2.2.2.2.2.2.2.2.2.2.2.1 z.2.2.2.2.2.2.2.2.2.2.2.2.2.2.1 z.2.2.2.2.2.2.2.2.2.2.2.2.2.2.2.1 z.2.2.2.2.2.2.2.2.2.2.2.2.2.2.2.2.1 z.2.2.2.2.2.2.2.2.2.2.2.2.2.2.2.2.2.1 z.2.2.2.2.2.2.2.2.2.2.2.2.2.2.2.2.2.2.1 z.2.2.2.2.2.2.2.2.2.2.2.2.2.2.2.2.2.2.2.1)), (1, .blk 76 (w17 z.2.2.2.2.2.2.2.2.2.2.2.2.2.2.2.2.2.2.2.2.1 z.2.2.2.2.2.2.2.2.2.2.2.2.2.2.2.2.2.2.2.2.2.1 z.2.2.2.2.2.2.2.2.2.2.2.2.2.2.2.2.2.2.2.2.2.2.1 z.2.2.2.2.2.2.2.2.2.2.2.2.2.2.2.2.2.2.2.2.2.2.2.1)), (2, .blk 77 (D.flat (z.2.2.2.2.2.2.2.2.2.2.2.2.2.2.2.2.2.2.2.2.2.2.2.2.map (eInt .i64).d)))]⟩) (fun z => sennitlaw28_PathsStay_L0 a0 z.1 z.2.1 z.2.2.1 z.2.2.2.1 z.2.2.2.2.1 z.2.2.2.2.2.1 z.2.2.2.2.2.2.1 z.2.2.2.2.2.2.2.1 z.2.2.2.2.2.2.2.2.1 z.2.2.2.2.2.2.2.2.2.1 z.2.2.2.2.2.2.2.2.2.2.1 z.2.2.2.2.2.2.2.2.2.2.2.1 z.2.2.2.2.2.2.2.2.2.2.2.2.1 z.2.2.2.2.2.2.2.2.2.2.2.2.2.1 z.2.2.2.2.2.2.2.2.2.2.2.2.2.2.1 z.2.2.2.2.2.2.2.2.2.2.2.2.2.2.2.1 z.2.2.2.2.2.2.2.2.2.2.2.2.2.2.2.2.1 z.2.2.2.2.2.2.2.2.2.2.2.2.2.2.2.2.2.1 z.2.2.2.2.2.2.2.2.2.2.2.2.2.2.2.2.2.2.1 z.2.2.2.2.2.2.2.2.2.2.2.2.2.2.2.2.2.2.2.1 z.2.2.2.2.2.2.2.2.2.2.2.2.2.2.2.2.2.2.2.2.1 z.2.2.2.2.2.2.2.2.2.2.2.2.2.2.2.2.2.2.2.2.2.1 z.2.2.2.2.2.2.2.2.2.2.2.2.2.2.2.2.2.2.2.2.2.2.1 z.2.2.2.2.2.2.2.2.2.2.2.2.2.2.2.2.2.2.2.2.2.2.2.1 z.2.2.2.2.2.2.2.2.2.2.2.2.2.2.2.2.2.2.2.2.2.2.2.2 = some r) (fun z => z.1) (fuel, 0, x4.Lines.c0.Up, x4.Lines.c0.Dead, x4.Lines.c0.Bytes, x4.Lines.c0.Ticks, x4.Lines.c1.Up, x4.Lines.c1.Dead, x4.Lines.c1.Bytes, x4.Lines.c1.Ticks, x4.Lines.c2.Up, x4.Lines.c2.Dead, x4.Lines.c2.Bytes, x4.Lines.c2.Ticks, x4.Lines.c3.Up, x4.Lines.c3.Dead, x4.Lines.c3.Bytes, x4.Lines.c3.Ticks, x4.Pinned, x4.Binds, false, false, false, false, x5) (fun i => i) ⟨(.sames rfl rfl), (.cons (.blk rfl rfl rfl) (.cons (.blk rfl rfl rfl) (.cons (EntW.lst rfl) .nil))), nd_of [0, 1, 2] rfl (by decide), fun _ _ => rfl⟩ ?_ ?_
  ·exact h
  ·
   rintro ⟨n0, v347, v348, v349, v350, v351, v352, v353, v354, v355, v356, v357, v358, v359, v360, v361, v362, v363, v364, v365, v366, v367, v368, v369, v370⟩ h
   cases n0 with
   | zero => exact absurd h (by unfold sennitlaw28_PathsStay_L0; exact nofun)
   | succ n0 =>
    unfold sennitlaw28_PathsStay_L0 at h
    refine iwp_seq ?_
    obtain ⟨x724, hx724, h⟩ := bnd_e h
    refine iwp_reg (ils_cons rfl (mvI rfl rfl rfl rfl) <|
     ils_cons rfl (mvL rfl rfl rfl rfl) <|
     ils_cons rfl (iop_lenT E_sennitlaw28_Act (l := a0) rfl rfl (lb rfl) Try.underlying75 (svL rfl)) <|
     ils_cons rfl (iop_cmpx rfl rfl (lb rfl) (svI rfl) (svI rfl) rfl hx724) <|
     ils_end ?_)
    refine iwp_cond (b := _) rfl (fun hc725 => ?_) (fun hc725 => ?_)
    ·
     replace h := bif_t h hc725
     refine iwp_skip ?_
     refine thenQ_n ?_
     refine iwp_seq ?_
     refine iwp_block ?_
     obtain ⟨x726, hx726, h⟩ := bno_e h
     obtain ⟨x727, hx727, h⟩ := bnd_e h
     obtain ⟨x728, hx728, h⟩ := bno_e h
     obtain ⟨x729, hx729, h⟩ := bno_e h
     obtain ⟨x730, hx730, h⟩ := bnd_e h
     refine iwp_drw rfl [⟨[0], [], [(37, .slice false (a0.map E_sennitlaw28_Act.d))], []⟩,
      ⟨[6], [], [(38, .int .i64 v347)], []⟩,
      ⟨[37, 38], [], [(39, .fptr (v2 x726))], []⟩,
      ⟨[39], [], [(40, .fptr [.int .u8 x726.N])], []⟩,
      ⟨[40], [], [(41, .int .u8 x726.N)], []⟩,
      ⟨[41], [], [(42, .int .i64 x727)], []⟩,
      ⟨[0], [], [(43, .slice false (a0.map E_sennitlaw28_Act.d))], []⟩,
      ⟨[6], [], [(44, .int .i64 v347)], []⟩,
      ⟨[43, 44], [], [(45, .fptr (v2 x728))], []⟩,
      ⟨[45], [], [(46, .fptr [.int .u8 x728.Path])], []⟩,
      ⟨[46], [], [(47, .int .u8 x728.Path)], []⟩,
      ⟨[47], [], [(48, .int .u8 x729)], []⟩,
      ⟨[48], [], [(49, .int .i64 x730)], []⟩,
      ⟨[42], [], [(7, .int .i64 x727)], []⟩,
      ⟨[49], [], [(8, .int .i64 x730)], []⟩] rfl ?_ (by kernel_rfl) ?_
     ·refine .cons (lop rfl rfl fun S hA => (iop_move rfl rfl (lb rfl) (svaL hA rfl rfl))) ?_
      refine .cons (lop rfl rfl fun S hA => (iop_move rfl rfl (lb rfl) (svaI hA rfl rfl))) ?_
      refine .cons (lop rfl rfl fun S hA => (iop_idxT E_sennitlaw28_Act (cs := q7) rfl rfl (lb rfl) Try.underlying75 ti79 (svaL hA rfl rfl) (svaI hA rfl rfl) hx726 rfl rfl)) ?_
      refine .cons (lop rfl rfl fun S hA => (iop_fieldAddr_fptr (cs' := [.int _ _]) rfl rfl (lb rfl) Try.underlying79 rfl ti5 (by decide) (sv (d := .fptr q7) (agr hA rfl rfl)) rfl)) ?_
      refine .cons (lop rfl rfl fun S hA => (iop_load_fs rfl rfl (lb rfl) Try.underlying5 ag5 ti5 (by decide) (sv (d := .fptr [.int _ _]) (agr hA rfl rfl)) (nle rfl))) ?_
      refine .cons (lop rfl rfl fun S hA => (iop_int_conv rfl rfl (lb rfl) ⟨_, Try.underlying5⟩ Try.underlying3 (svaI hA rfl rfl) hx727)) ?_
      refine .cons (lop rfl rfl fun S hA => (iop_move rfl rfl (lb rfl) (svaL hA rfl rfl))) ?_
      refine .cons (lop rfl rfl fun S hA => (iop_move rfl rfl (lb rfl) (svaI hA rfl rfl))) ?_
      refine .cons (lop rfl rfl fun S hA => (iop_idxT E_sennitlaw28_Act (cs := q7) rfl rfl (lb rfl) Try.underlying75 ti79 (svaL hA rfl rfl) (svaI hA rfl rfl) hx728 rfl rfl)) ?_
      refine .cons (lop rfl rfl fun S hA => (iop_fieldAddr_fptr (cs' := [.int _ _]) rfl rfl (lb rfl) Try.underlying79 rfl ti5 (by decide) (sv (d := .fptr q7) (agr hA rfl rfl)) rfl)) ?_
      refine .cons (lop rfl rfl fun S hA => (iop_load_fs rfl rfl (lb rfl) Try.underlying5 ag5 ti5 (by decide) (sv (d := .fptr [.int _ _]) (agr hA rfl rfl)) (nle rfl))) ?_
      refine .cons (lop rfl rfl fun S hA => (iop_remx rfl rfl (lb rfl) (svaI hA rfl rfl) (sv (d := .int _ 4) rfl) hx729)) ?_
      refine .cons (lop rfl rfl fun S hA => (iop_int_conv rfl rfl (lb rfl) ⟨_, Try.underlying5⟩ Try.underlying3 (svaI hA rfl rfl) hx730)) ?_
      refine .cons (lop rfl rfl fun S hA => (iop_assign rfl rfl (lb rfl) (svaI hA rfl rfl))) ?_
      refine .cons (lop rfl rfl fun S hA => (iop_assign rfl rfl (lb rfl) (svaI hA rfl rfl))) ?_
      exact .nil
     obtain ⟨x731, hx731, h⟩ := bno_e h
     refine iwp_reg (ils_cons rfl (lra q3 la35 rfl rfl rfl rfl rfl (nle rfl) rfl) <|
      ils_cons rfl (iop_call (r := .slice _ _) rfl rfl (lb rfl) cl30 (.cons (svA q3 rfl) .nil) rfl (p_paths_Alive _ _ hx731)) <|
      ils_cons rfl (iop_assign rfl rfl (lb rfl) (svL rfl)) <|
      ils_end ?_)
     refine iwp_reg (ils_cons rfl (lra q3 la35 rfl rfl rfl rfl rfl (nle rfl) rfl) <|
      ils_cons rfl (iop_allocS (cs := q5) (cs' := (w14 false false 0 0 false false 0 0 false false 0 0 false false 0 0 0 ([] : List T_paths_Bind))) 3 rfl rfl (lb rfl) rfl ti35 rfl rfl (.k4 (.k (.k4 (.k (.k4 (.k (.k (.k (.cons (.nils _) .nil)))))))))) <|
      ils_cons rfl (stA q3 q3 ti35 rfl rfl rfl rfl rfl rfl rfl rfl (nle rfl) rfl) <|
      ils_end ?_)
     refine iwp_join (α := Bool × Bool × Bool × Bool × (List Int) × Bool × Bool × Int × Int × Bool × Bool × Int × Int × Bool × Bool × Int × Int × Bool × Bool × Int × Int × Int × (List T_paths_Bind)) (fun z => ⟨[(0, .slice false (a0.map E_sennitlaw28_Act.d)), (3, .ref 0 0), (4, .ref 1 0), (5, .ref 2 0), (6, .int .i64 v347), (10, .ref 3 0)], [(0, .blk 35 (w14 v348 v349 v350 v351 v352 v353 v354 v355 v356 v357 v358 v359 v360 v361 v362 v363 v364 v365)), (1, .blk 76 (w17 z.1 z.2.1 z.2.2.1 z.2.2.2.1)), (2, .blk 77 (D.flat (z.2.2.2.2.1.map (eInt .i64).d))), (3, .blk 35 (w14 z.2.2.2.2.2.1 z.2.2.2.2.2.2.1 z.2.2.2.2.2.2.2.1 z.2.2.2.2.2.2.2.2.1 z.2.2.2.2.2.2.2.2.2.1 z.2.2.2.2.2.2.2.2.2.2.1 z.2.2.2.2.2.2.2.2.2.2.2.1 z.2.2.2.2.2.2.2.2.2.2.2.2.1 z.2.2.2.2.2.2.2.2.2.2.2.2.2.1 z.2.2.2.2.2.2.2.2.2.2.2.2.2.2.1 z.2.2.2.2.2.2.2.2.2.2.2.2.2.2.2.1 z.2.2.2.2.2.2.2.2.2.2.2.2.2.2.2.2.1 z.2.2.2.2.2.2.2.2.2.2.2.2.2.2.2.2.2.1 z.2.2.2.2.2.2.2.2.2.2.2.2.2.2.2.2.2.2.1 z.2.2.2.2.2.2.2.2.2.2.2.2.2.2.2.2.2.2.2.1 z.2.2.2.2.2.2.2.2.2.2.2.2.2.2.2.2.2.2.2.2.1 z.2.2.2.2.2.2.2.2.2.2.2.2.2.2.2.2.2.2.2.2.2.1 z.2.2.2.2.2.2.2.2.2.2.2.2.2.2.2.2.2.2.2.2.2.2))]⟩) (fun z => sennitlaw28_PathsStay_J2 v347 (sennitlaw28_PathsStay_L0 a0 n0) z.1 z.2.1 z.2.2.1 z.2.2.2.1 z.2.2.2.2.1 z.2.2.2.2.2.1 z.2.2.2.2.2.2.1 z.2.2.2.2.2.2.2.1 z.2.2.2.2.2.2.2.2.1 z.2.2.2.2.2.2.2.2.2.1 z.2.2.2.2.2.2.2.2.2.2.1 z.2.2.2.2.2.2.2.2.2.2.2.1 z.2.2.2.2.2.2.2.2.2.2.2.2.1 z.2.2.2.2.2.2.2.2.2.2.2.2.2.1 z.2.2.2.2.2.2.2.2.2.2.2.2.2.2.1 z.2.2.2.2.2.2.2.2.2.2.2.2.2.2.2.1 z.2.2.2.2.2.2.2.2.2.2.2.2.2.2.2.2.1 z.2.2.2.2.2.2.2.2.2.2.2.2.2.2.2.2.2.1 z.2.2.2.2.2.2.2.2.2.2.2.2.2.2.2.2.2.2.1 z.2.2.2.2.2.2.2.2.2.2.2.2.2.2.2.2.2.2.2.1 z.2.2.2.2.2.2.2.2.2.2.2.2.2.2.2.2.2.2.2.2.1 z.2.2.2.2.2.2.2.2.2.2.2.2.2.2.2.2.2.2.2.2.2.1 z.2.2.2.2.2.2.2.2.2.2.2.2.2.2.2.2.2.2.2.2.2.2 = some r) ?_ ?_
     ·
      obtain ⟨x930, hx930, h⟩ := bno_e h
      obtain ⟨x931, hx931, h⟩ := bno_e h
      refine iwp_reg (ils_cons rfl (mvL rfl rfl rfl rfl) <|
       ils_cons rfl (mvI rfl rfl rfl rfl) <|
       ils_cons rfl (iop_idxT E_sennitlaw28_Act (cs := q7) rfl rfl (lb rfl) Try.underlying75 ti79 (svL rfl) (svI rfl) hx930 rfl rfl) <|
       ils_cons rfl (iop_fieldAddr_fptr (cs' := [.int _ _]) rfl rfl (lb rfl) Try.underlying79 rfl ti5 (by decide) (sv (d := .fptr q7) rfl) rfl) <|
       ils_cons rfl (iop_load_fs rfl rfl (lb rfl) Try.underlying5 ag5 ti5 (by decide) (sv (d := .fptr [.int _ _]) rfl) (nle rfl)) <|
       ils_cons rfl (iop_remx rfl rfl (lb rfl) (svI rfl) (sv (d := .int _ 6) rfl) hx931) <|
       ils_end ?_)
      refine iwp_block ?_
      obtain ⟨x932, hx932, h⟩ := bnd_e h
      refine iwp_reg (ils_cons rfl (iop_cmpx rfl rfl (lb rfl) (svI rfl) (sv (d := .int _ 0) rfl) rfl hx932) <|
       ils_cons rfl (asB rfl rfl rfl rfl) <|
       ils_end ?_)
      refine iwp_cond (b := _) rfl (fun hc933 => ?_) (fun hc933 => ?_)
      ·
       replace h := bif_t h hc933
       obtain ⟨x934, hx934, h⟩ := bno_e h
       obtain ⟨x935, hx935, h⟩ := bno_e h
       refine iwp_reg (ils_cons rfl (lra q3 la35 rfl rfl rfl rfl rfl (nle rfl) rfl) <|
        ils_cons rfl (mvI rfl rfl rfl rfl) <|
        ils_cons rfl (iop_remx rfl rfl (lb rfl) (svI rfl) (sv (d := .int _ 4) rfl) hx934) <|
        ils_cons rfl (iop_call (r := .tuple q13) rfl rfl (lb rfl) cl10 (.cons (svA q3 rfl) (.cons (svI rfl) .nil)) rfl (p_paths_Rise _ _ _ hx935)) <|
        ils_cons rfl (iop_move rfl rfl (lb rfl) (sv (d := .tuple q13) rfl)) <|
        ils_cons rfl (iop_extract (d := .agg q3) rfl rfl (lb rfl) (sv (d := .tuple q13) rfl) rfl) <|
        ils_cons rfl (iop_extract (d := .bool _) rfl rfl (lb rfl) (sv (d := .tuple q13) rfl) rfl) <|
        ils_cons rfl (iop_allocS (cs := q5) (cs' := (w14 false false 0 0 false false 0 0 false false 0 0 false false 0 0 0 ([] : List T_paths_Bind))) 4 rfl rfl (lb rfl) rfl ti35 rfl rfl (.k4 (.k (.k4 (.k (.k4 (.k (.k (.k (.cons (.nils _) .nil)))))))))) <|
        ils_cons rfl (stA q3 q3 ti35 rfl rfl rfl rfl rfl rfl rfl rfl (nle rfl) rfl) <|
        ils_cons rfl (asB rfl rfl rfl rfl) <|
        ils_end ?_)
       refine iwp_seq ?_
       obtain ⟨x936, hx936, h⟩ := bno_e h
       obtain ⟨x937, hx937, h⟩ := bno_e h
       obtain ⟨x938, hx938, h⟩ := bno_e h
       obtain ⟨hk939, h⟩ := chk_e h
       obtain ⟨x940, hx940, h⟩ := bno_e h
       obtain ⟨x941, hx941, h⟩ := bnd_e h
       obtain ⟨x942, hx942, h⟩ := bnd_e h
       refine iwp_reg (ils_cons rfl (mvB rfl rfl rfl rfl) <|
        ils_cons rfl (mvL rfl rfl rfl rfl) <|
        ils_cons rfl (mvI rfl rfl rfl rfl) <|
        ils_cons rfl (iop_remx rfl rfl (lb rfl) (svI rfl) (sv (d := .int _ 4) rfl) hx936) <|
        ils_cons rfl (iop_call (r := .bool _) rfl rfl (lb rfl) cl37 (.cons (svL rfl) (.cons (svI rfl) .nil)) rfl (p_sennitlaw28_is _ _ _ hx937)) <|
        ils_cons rfl (mvB rfl rfl rfl rfl) <|
        ils_guard rfl rfl (.one rfl) rfl (by decide) (fun hb => (mvI rfl rfl rfl rfl)) <|
        ils_guard rfl rfl (.one rfl) rfl (by decide) (fun hb => (iop_remx rfl rfl (lb rfl) (svcI rfl hb) (sv (d := .int _ 4) rfl) (gd_t hx938 hb))) <|
        ils_guard rfl rfl (.one rfl) rfl (by decide) (fun hb => (iop_index_sel rfl rfl (lb rfl) Try.underlying76 ti4 (svR rfl) (svcI rfl hb) (hk939 hb))) <|
        ils_guard rfl rfl (.one rfl) rfl (by decide) (fun hb => (iop_load_sel_s eBool (b := 0) (k := 0) (sz := 1) (d := .bool _) rfl rfl (lb rfl) Try.underlying4 ag4 ti4 (svcR rfl hb) rfl (gd_t hx940 hb) ⟨rfl, ⟨rfl, ⟨rfl, ⟨rfl, trivial⟩⟩⟩⟩ rfl)) <|
        ils_cons rfl (iop_orx rfl rfl (lb rfl) (svB rfl) rfl rfl hx941) <|
        ils_cons rfl (iop_eqbx rfl rfl (lb rfl) Try.underlying4 (svB rfl) (svB rfl) hx942) <|
        ils_end ?_)
       refine iwp_cond (b := _) rfl (fun hc943 => ?_) (fun hc943 => ?_)
       ·
        replace h := bif_t h hc943
        refine iwp_reg (ils_cons rfl (iop_assign rfl rfl (lb rfl) (sv (d := .bool false) rfl)) <|
         ils_end ?_)
        refine iwp_ret ?_
        refine thenQ_r ?_
        refine blockQ_r ?_
        refine thenQ_r ?_
        refine blockQ_r ?_
        refine thenQ_r ?_
        refine thenQ_r ?_
        refine blockQ_r ?_
        refine thenQ_r ?_
        obtain rfl := Option.some.inj h
        refine ⟨.inr rfl, (.cons (sv rfl) .nil)⟩
       ·
        replace h := bif_f h hc943
        refine iwp_skip ?_
        refine thenQ_n ?_
        refine iwp_region (ils_cons rfl (lra q3 la35 rfl rfl rfl rfl rfl (nle rfl) rfl) <|
         ils_cons rfl (stA q3 q3 ti35 rfl rfl rfl rfl rfl rfl rfl rfl (nle rfl) rfl) <|
         ils_nil ?_)
        refine blockQ_n ?_
        refine thenQ_n ⟨(v366, v367, v368, v369, v370, x935.1.Lines.c0.Up, x935.1.Lines.c0.Dead, x935.1.Lines.c0.Bytes, x935.1.Lines.c0.Ticks, x935.1.Lines.c1.Up, x935.1.Lines.c1.Dead, x935.1.Lines.c1.Bytes, x935.1.Lines.c1.Ticks, x935.1.Lines.c2.Up, x935.1.Lines.c2.Dead, x935.1.Lines.c2.Bytes, x935.1.Lines.c2.Ticks, x935.1.Lines.c3.Up, x935.1.Lines.c3.Dead, x935.1.Lines.c3.Bytes, x935.1.Lines.c3.Ticks, x935.1.Pinned, x935.1.Binds), (fun i => i), ⟨(.sames rfl rfl), (.cons (.blk rfl rfl rfl) (.cons (.blk rfl rfl rfl) (.cons (EntW.lst rfl) (.cons (.blk rfl rfl rfl) .nil)))), nd_of [0, 1, 2, 3] rfl (by decide), fun _ _ => rfl⟩, ?_⟩
        exact h
      ·
       replace h := bif_f h hc933
       obtain ⟨x944, hx944, h⟩ := bnd_e h
       refine iwp_reg (ils_cons rfl (iop_cmpx rfl rfl (lb rfl) (svI rfl) (sv (d := .int _ 1) rfl) rfl hx944) <|
        ils_cons rfl (asB rfl rfl rfl rfl) <|
        ils_end ?_)
       refine iwp_cond (b := _) rfl (fun hc945 => ?_) (fun hc945 => ?_)
       ·
        replace h := bif_t h hc945
        obtain ⟨x946, hx946, h⟩ := bno_e h
        obtain ⟨x947, hx947, h⟩ := bno_e h
        refine iwp_reg (ils_cons rfl (lra q3 la35 rfl rfl rfl rfl rfl (nle rfl) rfl) <|
         ils_cons rfl (mvI rfl rfl rfl rfl) <|
         ils_cons rfl (iop_remx rfl rfl (lb rfl) (svI rfl) (sv (d := .int _ 4) rfl) hx946) <|
         ils_cons rfl (iop_call (r := .tuple q11) rfl rfl (lb rfl) cl12 (.cons (svA q3 rfl) (.cons (svI rfl) .nil)) rfl (p_paths_Fall _ _ _ hx947)) <|
         ils_cons rfl (iop_move rfl rfl (lb rfl) (sv (d := .tuple q11) rfl)) <|
         ils_cons rfl (iop_extract (d := .agg q3) rfl rfl (lb rfl) (sv (d := .tuple q11) rfl) rfl) <|
         ils_cons rfl (iop_extract (d := .slice _ _) rfl rfl (lb rfl) (sv (d := .tuple q11) rfl) rfl) <|
         ils_cons rfl (iop_extract (d := .bool _) rfl rfl (lb rfl) (sv (d := .tuple q11) rfl) rfl) <|
         ils_cons rfl (iop_allocS (cs := q5) (cs' := (w14 false false 0 0 false false 0 0 false false 0 0 false false 0 0 0 ([] : List T_paths_Bind))) 4 rfl rfl (lb rfl) rfl ti35 rfl rfl (.k4 (.k (.k4 (.k (.k4 (.k (.k (.k (.cons (.nils _) .nil)))))))))) <|
         ils_cons rfl (stA q3 q3 ti35 rfl rfl rfl rfl rfl rfl rfl rfl (nle rfl) rfl) <|
         ils_cons rfl (iop_assign rfl rfl (lb rfl) (svL rfl)) <|
         ils_cons rfl (asB rfl rfl rfl rfl) <|
         ils_end ?_)
        refine iwp_seq ?_
        obtain ⟨x948, hx948, h⟩ := bno_e h
        obtain ⟨x949, hx949, h⟩ := bno_e h
        obtain ⟨x950, hx950, h⟩ := bnd_e h
        refine iwp_reg (ils_cons rfl (mvB rfl rfl rfl rfl) <|
         ils_cons rfl (mvL rfl rfl rfl rfl) <|
         ils_cons rfl (mvI rfl rfl rfl rfl) <|
         ils_cons rfl (iop_remx rfl rfl (lb rfl) (svI rfl) (sv (d := .int _ 4) rfl) hx948) <|
         ils_cons rfl (iop_call (r := .bool _) rfl rfl (lb rfl) cl37 (.cons (svL rfl) (.cons (svI rfl) .nil)) rfl (p_sennitlaw28_is _ _ _ hx949)) <|
         ils_cons rfl (iop_nebx rfl rfl (lb rfl) Try.underlying4 (svB rfl) (svB rfl) hx950) <|
         ils_end ?_)
        refine iwp_cond (b := _) rfl (fun hc951 => ?_) (fun hc951 => ?_)
        ·
         replace h := bif_t h hc951
         refine iwp_reg (ils_cons rfl (iop_assign rfl rfl (lb rfl) (sv (d := .bool false) rfl)) <|
          ils_end ?_)
         refine iwp_ret ?_
         refine thenQ_r ?_
         refine blockQ_r ?_
         refine thenQ_r ?_
         refine blockQ_r ?_
         refine thenQ_r ?_
         refine thenQ_r ?_
         refine blockQ_r ?_
         refine thenQ_r ?_
         obtain rfl := Option.some.inj h
         refine ⟨.inr rfl, (.cons (sv rfl) .nil)⟩
        ·
         replace h := bif_f h hc951
         refine iwp_skip ?_
         refine thenQ_n ?_
         obtain ⟨x952, hx952, h⟩ := bno_e h
         obtain ⟨x953, hx953, h⟩ := bno_e h
         obtain ⟨hk954, h⟩ := chk_e h
         obtain ⟨x955, hx955, h⟩ := bno_e h
         obtain ⟨x956, hx956, h⟩ := bnd_e h
         obtain ⟨hk957, h⟩ := chk_e h
         obtain ⟨x958, hx958, h⟩ := bnd_e h
         obtain ⟨x959, hx959, h⟩ := bnd_e h
         obtain ⟨x960, hx960, h⟩ := bnd_e h
         obtain ⟨x961, hx961, h⟩ := bnd_e h
         refine iwp_reg (ils_cons rfl (mvI rfl rfl rfl rfl) <|
          ils_cons rfl (iop_remx rfl rfl (lb rfl) (svI rfl) (sv (d := .int _ 4) rfl) hx952) <|
          ils_cons rfl (mvI rfl rfl rfl rfl) <|
          ils_cons rfl (iop_remx rfl rfl (lb rfl) (svI rfl) (sv (d := .int _ 4) rfl) hx953) <|
          ils_cons rfl (iop_index_sel rfl rfl (lb rfl) Try.underlying76 ti4 (svR rfl) (svI rfl) hk954) <|
          ils_cons rfl (iop_load_sel_s eBool (b := 0) (k := 0) (sz := 1) (d := .bool _) rfl rfl (lb rfl) Try.underlying4 ag4 ti4 (svR rfl) rfl hx955 ⟨rfl, ⟨rfl, ⟨rfl, ⟨rfl, trivial⟩⟩⟩⟩ rfl) <|
          ils_cons rfl (mvB rfl rfl rfl rfl) <|
          ils_guard rfl rfl (.one rfl) rfl (by decide) (fun hb => (mvB rfl rfl rfl rfl)) <|
          ils_cons rfl (iop_orx rfl rfl (lb rfl) (svB rfl) rfl rfl hx956) <|
          ils_cons rfl (iop_index_sel rfl rfl (lb rfl) Try.underlying76 ti4 (svR rfl) (svI rfl) hk957) <|
          ils_cons rfl (iop_store_sel (b := 0) (k := 0) (sz := 1) (cs' := (w17 x958 x959 x960 x961)) rfl rfl ti4 (svR rfl) rfl (svB rfl) rfl rfl rfl hk957 rfl ⟨⟨⟨⟨trivial, fun h => by rw [← hx958, ← hx959, ← hx960, ← hx961, h]; rfl⟩, fun h => by rw [← hx958, ← hx959, ← hx960, ← hx961, h]; rfl⟩, fun h => by rw [← hx958, ← hx959, ← hx960, ← hx961, h]; rfl⟩, fun h => by rw [← hx958, ← hx959, ← hx960, ← hx961, h]; rfl⟩) <|
          ils_end ?_)
         refine iwp_seq ?_
         refine iwp_reg (ils_cons rfl (iop_assign rfl rfl (lb rfl) (sv (d := .int _ 0) rfl)) <|
          ils_end ?_)
         refine iwp_block ?_
         refine iwp_loopP (α := Nat × Int × (List Int)) (fun z => ⟨[(0, .slice false (a0.map E_sennitlaw28_Act.d)), (3, .ref 0 0), (4, .ref 1 0), (5, .ref 2 0), (6, .int .i64 v347), (7, .int .i64 x727), (10, .ref 3 0), (13, .ref 4 0), (14, .slice false (x947.2.1.map (eInt .i64).d)), (15, .bool x947.2.2), (16, .int .i64 z.2.1)], [(0, .blk 35 (w14 v348 v349 v350 v351 v352 v353 v354 v355 v356 v357 v358 v359 v360 v361 v362 v363 v364 v365)), (1, .blk 76 (w17 x958 x959 x960 x961)), (2, .blk 77 (D.flat (z.2.2.map (eInt .i64).d))), (3, .blk 35 (w14 v348 v349 v350 v351 v352 v353 v354 v355 v356 v357 v358 v359 v360 v361 v362 v363 v364 v365)), (4, .blk 35 (v0 x947.1))]⟩) (fun z => sennitlaw28_PathsStay_L4 v347 (sennitlaw28_PathsStay_L0 a0 n0) x727 x947 x958 x959 x960 x961 z.1 z.2.1 z.2.2 = some r) (fun z => z.1) (fuel, 0, v370) (fun i => i) ⟨(.sames rfl rfl), (.cons (.blk rfl rfl rfl) (.cons (.blk rfl rfl rfl) (.cons (EntW.lst rfl) (.cons (.blk rfl rfl rfl) (.cons (.blk rfl rfl rfl) .nil))))), nd_of [0, 1, 2, 3, 4] rfl (by decide), fun _ _ => rfl⟩ ?_ ?_
         ·exact h
         ·
          rintro ⟨n4, v981, v982⟩ h
          cases n4 with
          | zero => exact absurd h (by unfold sennitlaw28_PathsStay_L4; exact nofun)
          | succ n4 =>
           unfold sennitlaw28_PathsStay_L4 at h
           refine iwp_seq ?_
           obtain ⟨x1002, hx1002, h⟩ := bnd_e h
           refine iwp_reg (ils_cons rfl (mvI rfl rfl rfl rfl) <|
            ils_cons rfl (iop_cmpx rfl rfl (lb rfl) (svI rfl) (sv (d := .int _ 40) rfl) rfl hx1002) <|
            ils_end ?_)
           refine iwp_cond (b := _) rfl (fun hc1003 => ?_) (fun hc1003 => ?_)
           ·
            replace h := bif_t h hc1003
            refine iwp_skip ?_
            refine thenQ_n ?_
            refine iwp_seq ?_
            refine iwp_block ?_
            obtain ⟨x1004, hx1004, h⟩ := bno_e h
            obtain ⟨hk1005, h⟩ := chk_e h
            obtain ⟨x1006, hx1006, h⟩ := bno_e h
            obtain ⟨x1007, hx1007, h⟩ := bno_e h
            obtain ⟨x1008, hx1008, h⟩ := bnd_e h
            obtain ⟨x1009, hx1009, h⟩ := bnd_e h
            obtain ⟨x1010, hx1010, h⟩ := bnd_e h
            refine iwp_reg (ils_cons rfl (mvB rfl rfl rfl rfl) <|
             ils_cons rfl (mvB rfl rfl rfl rfl) <|
             ils_guard rfl rfl (.one rfl) rfl (by decide) (fun hb => (mvI rfl rfl rfl rfl)) <|
             ils_guard rfl rfl (.one rfl) rfl (by decide) (fun hb => (iop_idxA (eInt .i64).toEnc0 rfl rfl (lb rfl) Try.underlying77 ti3 (svR rfl) (hk1005 hb) (svcI rfl hb) (gd_t hx1004 hb))) <|
             ils_guard rfl rfl (.one rfl) rfl (by decide) (fun hb => (iop_loadEs (eInt .i64).toEnc0 (d := .int _ _) rfl rfl (lb rfl) Try.underlying3 ag3 ti3 (by decide) (svcR rfl hb) rfl (gd_t hx1006 hb) (nle rfl) rfl)) <|
             ils_guard rfl rfl (.one rfl) rfl (by decide) (fun hb => (mvI rfl rfl rfl rfl)) <|
             ils_guard rfl rfl (.one rfl) rfl (by decide) (fun hb => (iop_remx rfl rfl (lb rfl) (svcI rfl hb) (sv (d := .int _ 4) rfl) (gd_t hx1007 hb))) <|
             ils_guard rfl rfl (.one rfl) rfl (by decide) (fun hb => (iop_intx rfl rfl (lb rfl) (svcI rfl hb) (sv (d := .int _ 1) rfl) rfl hx1008)) <|
             ils_guard rfl rfl (.one rfl) rfl (by decide) (fun hb => (iop_cmpx rfl rfl (lb rfl) (svcI rfl hb) (svcI rfl hb) rfl hx1009)) <|
             ils_cons rfl (iop_andx rfl rfl (lb rfl) (svB rfl) rfl rfl hx1010) <|
             ils_cons rfl (asB rfl rfl rfl rfl) <|
             ils_end ?_)
            refine iwp_seq ?_
            obtain ⟨x1011, hx1011, h⟩ := bno_e h
            obtain ⟨x1012, hx1012, h⟩ := bnd_e h
            refine iwp_reg (ils_cons rfl (mvB rfl rfl rfl rfl) <|
             ils_cons rfl (mvL rfl rfl rfl rfl) <|
             ils_cons rfl (mvI rfl rfl rfl rfl) <|
             ils_cons rfl (iop_call (r := .bool _) rfl rfl (lb rfl) cl37 (.cons (svL rfl) (.cons (svI rfl) .nil)) rfl (p_sennitlaw28_is _ _ _ hx1011)) <|
             ils_cons rfl (iop_nebx rfl rfl (lb rfl) Try.underlying4 (svB rfl) (svB rfl) hx1012) <|
             ils_end ?_)
            refine iwp_cond (b := _) rfl (fun hc1013 => ?_) (fun hc1013 => ?_)
            ·
             replace h := bif_t h hc1013
             refine iwp_reg (ils_cons rfl (iop_assign rfl rfl (lb rfl) (sv (d := .bool false) rfl)) <|
              ils_end ?_)
             refine iwp_ret ?_
             refine thenQ_r ?_
             refine blockQ_r ?_
             refine thenQ_r ?_
             refine thenQ_r ?_
             refine blockQ_r ?_
             refine thenQ_r ?_
             refine blockQ_r ?_
             refine thenQ_r ?_
             refine blockQ_r ?_
             refine thenQ_r ?_
             refine thenQ_r ?_
             refine blockQ_r ?_
             refine thenQ_r ?_
             obtain rfl := Option.some.inj h
             refine ⟨.inr rfl, (.cons (sv rfl) .nil)⟩
            ·
             replace h := bif_f h hc1013
             refine iwp_skip ?_
             refine thenQ_n ?_
             refine iwp_reg (ils_cons rfl (mvB rfl rfl rfl rfl) <|
              ils_end ?_)
             refine iwp_cond (b := _) rfl (fun hc1014 => ?_) (fun hc1014 => ?_)
             ·
              replace h := bif_t h hc1014
              obtain ⟨x1015, hx1015, h⟩ := bno_e h
              obtain ⟨hk1016, h⟩ := chk_e h
              obtain ⟨x1017, hx1017, h⟩ := bno_e h
              obtain ⟨x1018, hx1018, h⟩ := bnd_e h
              refine iwp_region (ils_cons rfl (mvI rfl rfl rfl rfl) <|
               ils_cons rfl (iop_idxA (eInt .i64).toEnc0 rfl rfl (lb rfl) Try.underlying77 ti3 (svR rfl) hk1016 (svI rfl) hx1015) <|
               ils_cons rfl (iop_storeE (eInt .i64).toEnc0 (a' := 0) rfl rfl ti3 (svR rfl) rfl (sv (d := .int _ 0) rfl) rfl rfl rfl hx1017 (nle rfl) rfl hx1018) <|
               ils_nil ?_)
              refine blockQ_n ?_
              refine thenQ_n ?_
              obtain ⟨x1019, hx1019, h⟩ := bnd_e h
              refine iwp_region (ils_cons rfl (mvI rfl rfl rfl rfl) <|
               ils_cons rfl (iop_intx rfl rfl (lb rfl) (svI rfl) (sv (d := .int _ 1) rfl) rfl hx1019) <|
               ils_cons rfl (asI rfl rfl rfl rfl) <|
               ils_nil ?_)
              refine thenQ_n ⟨(n4, x1019, x1018), (fun i => i), ⟨(.sames rfl rfl), (.cons (.blk rfl rfl rfl) (.cons (.blk rfl rfl rfl) (.cons (EntW.lst rfl) (.cons (.blk rfl rfl rfl) (.cons (.blk rfl rfl rfl) .nil))))), nd_of [0, 1, 2, 3, 4] rfl (by decide), fun _ _ => rfl⟩, ?_, ?_⟩
              exact h
              exact Nat.lt_succ_self _
             ·
              replace h := bif_f h hc1014
              refine iwp_skip ?_
              refine blockQ_n ?_
              refine thenQ_n ?_
              obtain ⟨x1020, hx1020, h⟩ := bnd_e h
              refine iwp_region (ils_cons rfl (mvI rfl rfl rfl rfl) <|
               ils_cons rfl (iop_intx rfl rfl (lb rfl) (svI rfl) (sv (d := .int _ 1) rfl) rfl hx1020) <|
               ils_cons rfl (asI rfl rfl rfl rfl) <|
               ils_nil ?_)
              refine thenQ_n ⟨(n4, x1020, v982), (fun i => i), ⟨(.sames rfl rfl), (.cons (.blk rfl rfl rfl) (.cons (.blk rfl rfl rfl) (.cons (EntW.lst rfl) (.cons (.blk rfl rfl rfl) (.cons (.blk rfl rfl rfl) .nil))))), nd_of [0, 1, 2, 3, 4] rfl (by decide), fun _ _ => rfl⟩, ?_, ?_⟩
              exact h
              exact Nat.lt_succ_self _
           ·
            replace h := bif_f h hc1003
            refine iwp_exit ?_
            refine thenQ_e ?_
            refine thenQ_e ?_
            refine blockQ_e ?_
            refine thenQ_n ?_
            refine iwp_region (ils_cons rfl (lra q3 la35 rfl rfl rfl rfl rfl (nle rfl) rfl) <|
             ils_cons rfl (stA q3 q3 ti35 rfl rfl rfl rfl rfl rfl rfl rfl (nle rfl) rfl) <|
             ils_nil ?_)
            refine blockQ_n ?_
            refine thenQ_n ⟨(x958, x959, x960, x961, v982, x947.1.Lines.c0.Up, x947.1.Lines.c0.Dead, x947.1.Lines.c0.Bytes, x947.1.Lines.c0.Ticks, x947.1.Lines.c1.Up, x947.1.Lines.c1.Dead, x947.1.Lines.c1.Bytes, x947.1.Lines.c1.Ticks, x947.1.Lines.c2.Up, x947.1.Lines.c2.Dead, x947.1.Lines.c2.Bytes, x947.1.Lines.c2.Ticks, x947.1.Lines.c3.Up, x947.1.Lines.c3.Dead, x947.1.Lines.c3.Bytes, x947.1.Lines.c3.Ticks, x947.1.Pinned, x947.1.Binds), (fun i => i), ⟨(.sames rfl rfl), (.cons (.blk rfl rfl rfl) (.cons (.blk rfl rfl rfl) (.cons (EntW.lst rfl) (.cons (.blk rfl rfl rfl) .nil)))), nd_of [0, 1, 2, 3] rfl (by decide), fun _ _ => rfl⟩, ?_⟩
            exact h
       ·
        replace h := bif_f h hc945
        obtain ⟨x1021, hx1021, h⟩ := bnd_e h
        refine iwp_reg (ils_cons rfl (iop_cmpx rfl rfl (lb rfl) (svI rfl) (sv (d := .int _ 2) rfl) rfl hx1021) <|
         ils_cons rfl (asB rfl rfl rfl rfl) <|
         ils_end ?_)
        refine iwp_cond (b := _) rfl (fun hc1022 => ?_) (fun hc1022 => ?_)
        ·
         replace h := bif_t h hc1022
         obtain ⟨x1023, hx1023, h⟩ := bno_e h
         obtain ⟨x1024, hx1024, h⟩ := bnd_e h
         obtain ⟨x1025, hx1025, h⟩ := bno_e h
         refine iwp_draw rfl [⟨[3], [0], [(165, .agg (w14 v348 v349 v350 v351 v352 v353 v354 v355 v356 v357 v358 v359 v360 v361 v362 v363 v364 v365))], []⟩,
          ⟨[8], [], [(166, .int .i64 x730)], []⟩,
          ⟨[7], [], [(167, .int .i64 x727)], []⟩,
          ⟨[0], [], [(168, .slice false (a0.map E_sennitlaw28_Act.d))], []⟩,
          ⟨[6], [], [(169, .int .i64 v347)], []⟩,
          ⟨[168, 169], [], [(170, .fptr (v2 x1023))], []⟩,
          ⟨[170], [], [(171, .fptr [.int .u8 x1023.M])], []⟩,
          ⟨[171], [], [(172, .int .u8 x1023.M)], []⟩,
          ⟨[172], [], [(173, .int .i64 x1024)], []⟩,
          ⟨[165, 166, 167, 173], [], [(174, .agg (v0 x1025))], []⟩,
          ⟨[10, 174], [3], [], [(3, .blk 35 (v0 x1025))]⟩] rfl ?_ (by kernel_rfl) ?_
         ·refine .cons (lop rfl rfl fun S hA => (iop_load_ra (cs := q3) rfl rfl (lb rfl) Try.underlying35 ag35 ti35 (by decide) (svaR hA rfl rfl) (agi hA rfl rfl) (nle rfl) rfl)) ?_
          refine .cons (lop rfl rfl fun S hA => (iop_move rfl rfl (lb rfl) (svaI hA rfl rfl))) ?_
          refine .cons (lop rfl rfl fun S hA => (iop_move rfl rfl (lb rfl) (svaI hA rfl rfl))) ?_
          refine .cons (lop rfl rfl fun S hA => (iop_move rfl rfl (lb rfl) (svaL hA rfl rfl))) ?_
          refine .cons (lop rfl rfl fun S hA => (iop_move rfl rfl (lb rfl) (svaI hA rfl rfl))) ?_
          refine .cons (lop rfl rfl fun S hA => (iop_idxT E_sennitlaw28_Act (cs := q7) rfl rfl (lb rfl) Try.underlying75 ti79 (svaL hA rfl rfl) (svaI hA rfl rfl) hx1023 rfl rfl)) ?_
          refine .cons (lop rfl rfl fun S hA => (iop_fieldAddr_fptr (cs' := [.int _ _]) rfl rfl (lb rfl) Try.underlying79 rfl ti5 (by decide) (sv (d := .fptr q7) (agr hA rfl rfl)) rfl)) ?_
          refine .cons (lop rfl rfl fun S hA => (iop_load_fs rfl rfl (lb rfl) Try.underlying5 ag5 ti5 (by decide) (sv (d := .fptr [.int _ _]) (agr hA rfl rfl)) (nle rfl))) ?_
          refine .cons (lop rfl rfl fun S hA => (iop_int_conv rfl rfl (lb rfl) ⟨_, Try.underlying5⟩ Try.underlying3 (svaI hA rfl rfl) hx1024)) ?_
          refine .cons (lop rfl rfl fun S hA => (iop_call (r := .agg q3) rfl rfl (lb rfl) cl21 (.cons (svaA q3 hA rfl rfl) (.cons (svaI hA rfl rfl) (.cons (svaI hA rfl rfl) (.cons (svaI hA rfl rfl) .nil)))) rfl (p_paths_Note _ _ _ _ _ hx1025))) ?_
          refine .cons (lop rfl rfl fun S hA => (iop_store (ds' := q3) rfl rfl ti35 (svaR hA rfl rfl) (agi hA rfl rfl) (svaA q3 hA rfl rfl) rfl rfl rfl (nle rfl) rfl)) ?_
          exact .nil
         refine blockQ_n ?_
         refine thenQ_n ⟨(v366, v367, v368, v369, v370, x1025.Lines.c0.Up, x1025.Lines.c0.Dead, x1025.Lines.c0.Bytes, x1025.Lines.c0.Ticks, x1025.Lines.c1.Up, x1025.Lines.c1.Dead, x1025.Lines.c1.Bytes, x1025.Lines.c1.Ticks, x1025.Lines.c2.Up, x1025.Lines.c2.Dead, x1025.Lines.c2.Bytes, x1025.Lines.c2.Ticks, x1025.Lines.c3.Up, x1025.Lines.c3.Dead, x1025.Lines.c3.Bytes, x1025.Lines.c3.Ticks, x1025.Pinned, x1025.Binds), (fun i => i), ⟨(.sames rfl rfl), (.cons (.blk rfl rfl rfl) (.cons (.blk rfl rfl rfl) (.cons (EntW.lst rfl) (.cons (.blk rfl rfl rfl) .nil)))), nd_of [0, 1, 2, 3] rfl (by decide), fun _ _ => rfl⟩, ?_⟩
         exact h
        ·
         replace h := bif_f h hc1022
         obtain ⟨x1026, hx1026, h⟩ := bnd_e h
         refine iwp_reg (ils_cons rfl (iop_cmpx rfl rfl (lb rfl) (svI rfl) (sv (d := .int _ 3) rfl) rfl hx1026) <|
          ils_cons rfl (asB rfl rfl rfl rfl) <|
          ils_end ?_)
         refine iwp_cond (b := _) rfl (fun hc1027 => ?_) (fun hc1027 => ?_)
         ·
          replace h := bif_t h hc1027
          obtain ⟨x1028, hx1028, h⟩ := bno_e h
          obtain ⟨x1029, hx1029, h⟩ := bnd_e h
          refine iwp_reg (ils_cons rfl (mvI rfl rfl rfl rfl) <|
           ils_cons rfl (iop_remx rfl rfl (lb rfl) (svI rfl) (sv (d := .int _ 20) rfl) hx1028) <|
           ils_cons rfl (iop_intx rfl rfl (lb rfl) (sv (d := .int _ 1) rfl) (svI rfl) rfl hx1029) <|
           ils_cons rfl (asI rfl rfl rfl rfl) <|
           ils_end ?_)
          obtain ⟨x1030, hx1030, h⟩ := bno_e h
          refine iwp_reg (ils_cons rfl (lra q3 la35 rfl rfl rfl rfl rfl (nle rfl) rfl) <|
           ils_cons rfl (mvI rfl rfl rfl rfl) <|
           ils_cons rfl (iop_call (r := .tuple q12) rfl rfl (lb rfl) cl14 (.cons (svA q3 rfl) (.cons (svI rfl) .nil)) rfl (p_paths_Choose _ _ _ hx1030)) <|
           ils_cons rfl (iop_move rfl rfl (lb rfl) (sv (d := .tuple q12) rfl)) <|
           ils_cons rfl (iop_extract (d := .agg q3) rfl rfl (lb rfl) (sv (d := .tuple q12) rfl) rfl) <|
           ils_cons rfl (iop_extract (d := .int _ _) rfl rfl (lb rfl) (sv (d := .tuple q12) rfl) rfl) <|
           ils_cons rfl (iop_allocS (cs := q5) (cs' := (w14 false false 0 0 false false 0 0 false false 0 0 false false 0 0 0 ([] : List T_paths_Bind))) 4 rfl rfl (lb rfl) rfl ti35 rfl rfl (.k4 (.k (.k4 (.k (.k4 (.k (.k (.k (.cons (.nils _) .nil)))))))))) <|
           ils_cons rfl (stA q3 q3 ti35 rfl rfl rfl rfl rfl rfl rfl rfl (nle rfl) rfl) <|
           ils_cons rfl (asI rfl rfl rfl rfl) <|
           ils_end ?_)
          refine iwp_seq ?_
          obtain ⟨x1031, hx1031, h⟩ := bnd_e h
          obtain ⟨x1032, hx1032, h⟩ := bnd_e h
          obtain ⟨x1033, hx1033, h⟩ := bnd_e h
          obtain ⟨x1034, hx1034, h⟩ := bnd_e h
          obtain ⟨x1035, hx1035, h⟩ := bno_e h
          obtain ⟨x1036, hx1036, h⟩ := bnd_e h
          obtain ⟨x1037, hx1037, h⟩ := bnd_e h
          obtain ⟨x1038, hx1038, h⟩ := bno_e h
          obtain ⟨hk1039, h⟩ := chk_e h
          obtain ⟨x1040, hx1040, h⟩ := bno_e h
          obtain ⟨x1041, hx1041, h⟩ := bnd_e h
          obtain ⟨x1042, hx1042, h⟩ := bno_e h
          obtain ⟨hk1043, h⟩ := chk_e h
          obtain ⟨x1044, hx1044, h⟩ := bno_e h
          obtain ⟨x1045, hx1045, h⟩ := bnd_e h
          obtain ⟨x1046, hx1046, h⟩ := bnd_e h
          obtain ⟨x1047, hx1047, h⟩ := bnd_e h
          obtain ⟨x1048, hx1048, h⟩ := bnd_e h
          refine iwp_reg (ils_cons rfl (mvI rfl rfl rfl rfl) <|
           ils_cons rfl (iop_cmpx rfl rfl (lb rfl) (svI rfl) (sv (d := .int _ 0) rfl) rfl hx1031) <|
           ils_cons rfl (mvL rfl rfl rfl rfl) <|
           ils_cons rfl (iop_lenT (eInt .i64) (l := x731) rfl rfl (lb rfl) Try.underlying41 (svL rfl)) <|
           ils_cons rfl (iop_cmpx rfl rfl (lb rfl) (svI rfl) (sv (d := .int _ 0) rfl) rfl hx1032) <|
           ils_cons rfl (iop_nebx rfl rfl (lb rfl) Try.underlying4 (svB rfl) (svB rfl) hx1033) <|
           ils_cons rfl (mvB rfl rfl rfl rfl) <|
           ils_guard rfl rfl (.one rfl) rfl (by decide) (fun hb => (mvI rfl rfl rfl rfl)) <|
           ils_guard rfl rfl (.one rfl) rfl (by decide) (fun hb => (iop_cmpx rfl rfl (lb rfl) (svcI rfl hb) (sv (d := .int _ 0) rfl) rfl hx1034)) <|
           ils_guard rfl rfl (.one rfl) rfl (by decide) (fun hb => (iop_move rfl rfl (lb rfl) (svcB rfl hb))) <|
           ils_guard rfl rfl (.two rfl) rfl (by decide) (fun hb => (mvL rfl rfl rfl rfl)) <|
           ils_guard rfl rfl (.two rfl) rfl (by decide) (fun hb => (mvI rfl rfl rfl rfl)) <|
           ils_guard rfl rfl (.two rfl) rfl (by decide) (fun hb => (iop_call (r := .bool _) rfl rfl (lb rfl) cl37 (.cons (svcL rfl hb) (.cons (svcI rfl hb) .nil)) rfl (p_sennitlaw28_is _ _ _ (gd_t hx1035 hb)))) <|
           ils_guard rfl rfl (.two rfl) rfl (by decide) (fun hb => (iop_not rfl rfl (lb rfl) (svcB rfl hb))) <|
           ils_guard rfl rfl (.one rfl) rfl (by decide) (fun hb => (iop_and2x rfl rfl (lb rfl) hb (svcB rfl hb) rfl rfl hx1036)) <|
           ils_cons rfl (iop_orx rfl rfl (lb rfl) (svB rfl) rfl rfl hx1037) <|
           ils_cons rfl (mvB rfl rfl rfl rfl) <|
           ils_guard rfl rfl (.one rfl) rfl (by decide) (fun hb => (mvI rfl rfl rfl rfl)) <|
           ils_guard rfl rfl (.one rfl) rfl (by decide) (fun hb => (iop_idxA (eInt .i64).toEnc0 rfl rfl (lb rfl) Try.underlying77 ti3 (svR rfl) (hk1039 hb) (svcI rfl hb) (gd_t hx1038 hb))) <|
           ils_guard rfl rfl (.one rfl) rfl (by decide) (fun hb => (iop_loadEs (eInt .i64).toEnc0 (d := .int _ _) rfl rfl (lb rfl) Try.underlying3 ag3 ti3 (by decide) (svcR rfl hb) rfl (gd_t hx1040 hb) (nle rfl) rfl)) <|
           ils_guard rfl rfl (.one rfl) rfl (by decide) (fun hb => (iop_cmpx rfl rfl (lb rfl) (svcI rfl hb) (sv (d := .int _ 0) rfl) rfl hx1041)) <|
           ils_guard rfl rfl (.one rfl) rfl (by decide) (fun hb => (iop_move rfl rfl (lb rfl) (svcB rfl hb))) <|
           ils_guard rfl rfl (.two rfl) rfl (by decide) (fun hb => (mvI rfl rfl rfl rfl)) <|
           ils_guard rfl rfl (.two rfl) rfl (by decide) (fun hb => (mvI rfl rfl rfl rfl)) <|
           ils_guard rfl rfl (.two rfl) rfl (by decide) (fun hb => (iop_idxA (eInt .i64).toEnc0 rfl rfl (lb rfl) Try.underlying77 ti3 (svR rfl) (hk1043 hb) (svcI rfl hb) (gd_t hx1042 hb))) <|
           ils_guard rfl rfl (.two rfl) rfl (by decide) (fun hb => (iop_loadEs (eInt .i64).toEnc0 (d := .int _ _) rfl rfl (lb rfl) Try.underlying3 ag3 ti3 (by decide) (svcR rfl hb) rfl (gd_t hx1044 hb) (nle rfl) rfl)) <|
           ils_guard rfl rfl (.two rfl) rfl (by decide) (fun hb => (iop_intx rfl rfl (lb rfl) (svcI rfl hb) (sv (d := .int _ 1) rfl) rfl hx1045)) <|
           ils_guard rfl rfl (.two rfl) rfl (by decide) (fun hb => (iop_cmpx rfl rfl (lb rfl) (svcI rfl hb) (svcI rfl hb) rfl hx1046)) <|
           ils_guard rfl rfl (.one rfl) rfl (by decide) (fun hb => (iop_and2x rfl rfl (lb rfl) hb (svcB rfl hb) rfl rfl hx1047)) <|
           ils_cons rfl (iop_orx rfl rfl (lb rfl) (svB rfl) rfl rfl hx1048) <|
           ils_end ?_)
          refine iwp_cond (b := _) rfl (fun hc1049 => ?_) (fun hc1049 => ?_)
          ·
           replace h := bif_t h hc1049
           refine iwp_reg (ils_cons rfl (iop_assign rfl rfl (lb rfl) (sv (d := .bool false) rfl)) <|
            ils_end ?_)
           refine iwp_ret ?_
           refine thenQ_r ?_
           refine blockQ_r ?_
           refine thenQ_r ?_
           refine blockQ_r ?_
           refine thenQ_r ?_
           refine thenQ_r ?_
           refine blockQ_r ?_
           refine thenQ_r ?_
           obtain rfl := Option.some.inj h
           refine ⟨.inr rfl, (.cons (sv rfl) .nil)⟩
          ·
           replace h := bif_f h hc1049
           refine iwp_skip ?_
           refine thenQ_n ?_
           obtain ⟨x1050, hx1050, h⟩ := bnd_e h
           obtain ⟨x1051, hx1051, h⟩ := bno_e h
           obtain ⟨hk1052, h⟩ := chk_e h
           obtain ⟨x1053, hx1053, h⟩ := bno_e h
           obtain ⟨x1054, hx1054, h⟩ := bnd_e h
           refine iwp_reg (ils_cons rfl (mvI rfl rfl rfl rfl) <|
            ils_cons rfl (mvI rfl rfl rfl rfl) <|
            ils_cons rfl (iop_intx rfl rfl (lb rfl) (svI rfl) (sv (d := .int _ 1) rfl) rfl hx1050) <|
            ils_cons rfl (iop_idxA (eInt .i64).toEnc0 rfl rfl (lb rfl) Try.underlying77 ti3 (svR rfl) hk1052 (svI rfl) hx1051) <|
            ils_cons rfl (iop_storeE (eInt .i64).toEnc0 (a' := x1050) rfl rfl ti3 (svR rfl) rfl (svI rfl) rfl rfl rfl hx1053 (nle rfl) rfl hx1054) <|
            ils_end ?_)
           refine iwp_region (ils_cons rfl (lra q3 la35 rfl rfl rfl rfl rfl (nle rfl) rfl) <|
            ils_cons rfl (stA q3 q3 ti35 rfl rfl rfl rfl rfl rfl rfl rfl (nle rfl) rfl) <|
            ils_nil ?_)
           refine blockQ_n ?_
           refine thenQ_n ⟨(v366, v367, v368, v369, x1054, x1030.1.Lines.c0.Up, x1030.1.Lines.c0.Dead, x1030.1.Lines.c0.Bytes, x1030.1.Lines.c0.Ticks, x1030.1.Lines.c1.Up, x1030.1.Lines.c1.Dead, x1030.1.Lines.c1.Bytes, x1030.1.Lines.c1.Ticks, x1030.1.Lines.c2.Up, x1030.1.Lines.c2.Dead, x1030.1.Lines.c2.Bytes, x1030.1.Lines.c2.Ticks, x1030.1.Lines.c3.Up, x1030.1.Lines.c3.Dead, x1030.1.Lines.c3.Bytes, x1030.1.Lines.c3.Ticks, x1030.1.Pinned, x1030.1.Binds), (fun i => i), ⟨(.sames rfl rfl), (.cons (.blk rfl rfl rfl) (.cons (.blk rfl rfl rfl) (.cons (EntW.lst rfl) (.cons (.blk rfl rfl rfl) .nil)))), nd_of [0, 1, 2, 3] rfl (by decide), fun _ _ => rfl⟩, ?_⟩
           exact h
         ·
          replace h := bif_f h hc1027
          obtain ⟨x1055, hx1055, h⟩ := bnd_e h
          refine iwp_reg (ils_cons rfl (iop_cmpx rfl rfl (lb rfl) (svI rfl) (sv (d := .int _ 4) rfl) rfl hx1055) <|
           ils_cons rfl (asB rfl rfl rfl rfl) <|
           ils_end ?_)
          refine iwp_cond (b := _) rfl (fun hc1056 => ?_) (fun hc1056 => ?_)
          ·
           replace h := bif_t h hc1056
           obtain ⟨x1057, hx1057, h⟩ := bno_e h
           obtain ⟨x1058, hx1058, h⟩ := bnd_e h
           refine iwp_reg (ils_cons rfl (mvI rfl rfl rfl rfl) <|
            ils_cons rfl (iop_remx rfl rfl (lb rfl) (svI rfl) (sv (d := .int _ 20) rfl) hx1057) <|
            ils_cons rfl (iop_intx rfl rfl (lb rfl) (sv (d := .int _ 1) rfl) (svI rfl) rfl hx1058) <|
            ils_cons rfl (asI rfl rfl rfl rfl) <|
            ils_end ?_)
           obtain ⟨x1059, hx1059, h⟩ := bno_e h
           refine iwp_reg (ils_cons rfl (lra q3 la35 rfl rfl rfl rfl rfl (nle rfl) rfl) <|
            ils_cons rfl (mvI rfl rfl rfl rfl) <|
            ils_cons rfl (iop_call (r := .agg q3) rfl rfl (lb rfl) cl23 (.cons (svA q3 rfl) (.cons (svI rfl) .nil)) rfl (p_paths_Free _ _ _ hx1059)) <|
            ils_cons rfl (stA q3 q3 ti35 rfl rfl rfl rfl rfl rfl rfl rfl (nle rfl) rfl) <|
            ils_end ?_)
           obtain ⟨x1060, hx1060, h⟩ := bno_e h
           obtain ⟨hk1061, h⟩ := chk_e h
           obtain ⟨x1062, hx1062, h⟩ := bno_e h
           obtain ⟨x1063, hx1063, h⟩ := bnd_e h
           refine iwp_region (ils_cons rfl (mvI rfl rfl rfl rfl) <|
            ils_cons rfl (iop_idxA (eInt .i64).toEnc0 rfl rfl (lb rfl) Try.underlying77 ti3 (svR rfl) hk1061 (svI rfl) hx1060) <|
            ils_cons rfl (iop_storeE (eInt .i64).toEnc0 (a' := 0) rfl rfl ti3 (svR rfl) rfl (sv (d := .int _ 0) rfl) rfl rfl rfl hx1062 (nle rfl) rfl hx1063) <|
            ils_nil ?_)
           refine blockQ_n ?_
           refine thenQ_n ⟨(v366, v367, v368, v369, x1063, x1059.Lines.c0.Up, x1059.Lines.c0.Dead, x1059.Lines.c0.Bytes, x1059.Lines.c0.Ticks, x1059.Lines.c1.Up, x1059.Lines.c1.Dead, x1059.Lines.c1.Bytes, x1059.Lines.c1.Ticks, x1059.Lines.c2.Up, x1059.Lines.c2.Dead, x1059.Lines.c2.Bytes, x1059.Lines.c2.Ticks, x1059.Lines.c3.Up, x1059.Lines.c3.Dead, x1059.Lines.c3.Bytes, x1059.Lines.c3.Ticks, x1059.Pinned, x1059.Binds), (fun i => i), ⟨(.sames rfl rfl), (.cons (.blk rfl rfl rfl) (.cons (.blk rfl rfl rfl) (.cons (EntW.lst rfl) (.cons (.blk rfl rfl rfl) .nil)))), nd_of [0, 1, 2, 3] rfl (by decide), fun _ _ => rfl⟩, ?_⟩
           exact h
          ·
           replace h := bif_f h hc1056
           obtain ⟨x1064, hx1064, h⟩ := bno_e h
           refine iwp_reg (ils_cons rfl (lra q3 la35 rfl rfl rfl rfl rfl (nle rfl) rfl) <|
            ils_cons rfl (iop_call (r := .tuple q12) rfl rfl (lb rfl) cl16 (.cons (svA q3 rfl) .nil) rfl (p_paths_Pin _ _ hx1064)) <|
            ils_cons rfl (iop_move rfl rfl (lb rfl) (sv (d := .tuple q12) rfl)) <|
            ils_cons rfl (iop_extract (d := .agg q3) rfl rfl (lb rfl) (sv (d := .tuple q12) rfl) rfl) <|
            ils_cons rfl (iop_extract (d := .int _ _) rfl rfl (lb rfl) (sv (d := .tuple q12) rfl) rfl) <|
            ils_cons rfl (iop_allocS (cs := q5) (cs' := (w14 false false 0 0 false false 0 0 false false 0 0 false false 0 0 0 ([] : List T_paths_Bind))) 4 rfl rfl (lb rfl) rfl ti35 rfl rfl (.k4 (.k (.k4 (.k (.k4 (.k (.k (.k (.cons (.nils _) .nil)))))))))) <|
            ils_cons rfl (stA q3 q3 ti35 rfl rfl rfl rfl rfl rfl rfl rfl (nle rfl) rfl) <|
            ils_cons rfl (asI rfl rfl rfl rfl) <|
            ils_end ?_)
           refine iwp_seq ?_
           obtain ⟨x1065, hx1065, h⟩ := bnd_e h
           obtain ⟨x1066, hx1066, h⟩ := bnd_e h
           obtain ⟨x1067, hx1067, h⟩ := bnd_e h
           obtain ⟨x1068, hx1068, h⟩ := bnd_e h
           obtain ⟨x1069, hx1069, h⟩ := bno_e h
           obtain ⟨x1070, hx1070, h⟩ := bnd_e h
           obtain ⟨x1071, hx1071, h⟩ := bnd_e h
           obtain ⟨x1072, hx1072, h⟩ := bnd_e h
           obtain ⟨x1073, hx1073, h⟩ := bnd_e h
           obtain ⟨x1074, hx1074, h⟩ := bnd_e h
           obtain ⟨x1075, hx1075, h⟩ := bnd_e h
           refine iwp_reg (ils_cons rfl (mvI rfl rfl rfl rfl) <|
            ils_cons rfl (iop_cmpx rfl rfl (lb rfl) (svI rfl) (sv (d := .int _ 0) rfl) rfl hx1065) <|
            ils_cons rfl (mvL rfl rfl rfl rfl) <|
            ils_cons rfl (iop_lenT (eInt .i64) (l := x731) rfl rfl (lb rfl) Try.underlying41 (svL rfl)) <|
            ils_cons rfl (iop_cmpx rfl rfl (lb rfl) (svI rfl) (sv (d := .int _ 0) rfl) rfl hx1066) <|
            ils_cons rfl (iop_nebx rfl rfl (lb rfl) Try.underlying4 (svB rfl) (svB rfl) hx1067) <|
            ils_cons rfl (mvB rfl rfl rfl rfl) <|
            ils_guard rfl rfl (.one rfl) rfl (by decide) (fun hb => (mvI rfl rfl rfl rfl)) <|
            ils_guard rfl rfl (.one rfl) rfl (by decide) (fun hb => (iop_cmpx rfl rfl (lb rfl) (svcI rfl hb) (sv (d := .int _ 0) rfl) rfl hx1068)) <|
            ils_guard rfl rfl (.one rfl) rfl (by decide) (fun hb => (iop_move rfl rfl (lb rfl) (svcB rfl hb))) <|
            ils_guard rfl rfl (.two rfl) rfl (by decide) (fun hb => (mvL rfl rfl rfl rfl)) <|
            ils_guard rfl rfl (.two rfl) rfl (by decide) (fun hb => (mvI rfl rfl rfl rfl)) <|
            ils_guard rfl rfl (.two rfl) rfl (by decide) (fun hb => (iop_call (r := .bool _) rfl rfl (lb rfl) cl37 (.cons (svcL rfl hb) (.cons (svcI rfl hb) .nil)) rfl (p_sennitlaw28_is _ _ _ (gd_t hx1069 hb)))) <|
            ils_guard rfl rfl (.two rfl) rfl (by decide) (fun hb => (iop_not rfl rfl (lb rfl) (svcB rfl hb))) <|
            ils_guard rfl rfl (.one rfl) rfl (by decide) (fun hb => (iop_and2x rfl rfl (lb rfl) hb (svcB rfl hb) rfl rfl hx1070)) <|
            ils_cons rfl (iop_orx rfl rfl (lb rfl) (svB rfl) rfl rfl hx1071) <|
            ils_cons rfl (mvB rfl rfl rfl rfl) <|
            ils_guard rfl rfl (.one rfl) rfl (by decide) (fun hb => (faR 16 rfl rfl rfl Try.underlying35 rfl ti3 (lb rfl) rfl rfl)) <|
            ils_guard rfl rfl (.one rfl) rfl (by decide) (fun hb => (iop_load_rs (d := .int _ _) rfl rfl (lb rfl) Try.underlying3 ag3 ti3 (by decide) (svcR rfl hb) rfl (nle rfl) rfl)) <|
            ils_guard rfl rfl (.one rfl) rfl (by decide) (fun hb => (iop_cmpx rfl rfl (lb rfl) (svcI rfl hb) (sv (d := .int _ 0) rfl) rfl hx1072)) <|
            ils_guard rfl rfl (.one rfl) rfl (by decide) (fun hb => (iop_move rfl rfl (lb rfl) (svcB rfl hb))) <|
            ils_guard rfl rfl (.two rfl) rfl (by decide) (fun hb => (mvI rfl rfl rfl rfl)) <|
            ils_guard rfl rfl (.two rfl) rfl (by decide) (fun hb => (faR 16 rfl rfl rfl Try.underlying35 rfl ti3 (lb rfl) rfl rfl)) <|
            ils_guard rfl rfl (.two rfl) rfl (by decide) (fun hb => (iop_load_rs (d := .int _ _) rfl rfl (lb rfl) Try.underlying3 ag3 ti3 (by decide) (svcR rfl hb) rfl (nle rfl) rfl)) <|
            ils_guard rfl rfl (.two rfl) rfl (by decide) (fun hb => (iop_cmpx rfl rfl (lb rfl) (svcI rfl hb) (svcI rfl hb) rfl hx1073)) <|
            ils_guard rfl rfl (.one rfl) rfl (by decide) (fun hb => (iop_and2x rfl rfl (lb rfl) hb (svcB rfl hb) rfl rfl hx1074)) <|
            ils_cons rfl (iop_orx rfl rfl (lb rfl) (svB rfl) rfl rfl hx1075) <|
            ils_end ?_)
           refine iwp_cond (b := _) rfl (fun hc1076 => ?_) (fun hc1076 => ?_)
           ·
            replace h := bif_t h hc1076
            refine iwp_reg (ils_cons rfl (iop_assign rfl rfl (lb rfl) (sv (d := .bool false) rfl)) <|
             ils_end ?_)
            refine iwp_ret ?_
            refine thenQ_r ?_
            refine blockQ_r ?_
            refine thenQ_r ?_
            refine blockQ_r ?_
            refine thenQ_r ?_
            refine thenQ_r ?_
            refine blockQ_r ?_
            refine thenQ_r ?_
            obtain rfl := Option.some.inj h
            refine ⟨.inr rfl, (.cons (sv rfl) .nil)⟩
           ·
            replace h := bif_f h hc1076
            refine iwp_skip ?_
            refine thenQ_n ?_
            refine iwp_region (ils_cons rfl (lra q3 la35 rfl rfl rfl rfl rfl (nle rfl) rfl) <|
             ils_cons rfl (stA q3 q3 ti35 rfl rfl rfl rfl rfl rfl rfl rfl (nle rfl) rfl) <|
             ils_nil ?_)
            refine blockQ_n ?_
            refine thenQ_n ⟨(v366, v367, v368, v369, v370, x1064.1.Lines.c0.Up, x1064.1.Lines.c0.Dead, x1064.1.Lines.c0.Bytes, x1064.1.Lines.c0.Ticks, x1064.1.Lines.c1.Up, x1064.1.Lines.c1.Dead, x1064.1.Lines.c1.Bytes, x1064.1.Lines.c1.Ticks, x1064.1.Lines.c2.Up, x1064.1.Lines.c2.Dead, x1064.1.Lines.c2.Bytes, x1064.1.Lines.c2.Ticks, x1064.1.Lines.c3.Up, x1064.1.Lines.c3.Dead, x1064.1.Lines.c3.Bytes, x1064.1.Lines.c3.Ticks, x1064.1.Pinned, x1064.1.Binds), (fun i => i), ⟨(.sames rfl rfl), (.cons (.blk rfl rfl rfl) (.cons (.blk rfl rfl rfl) (.cons (EntW.lst rfl) (.cons (.blk rfl rfl rfl) .nil)))), nd_of [0, 1, 2, 3] rfl (by decide), fun _ _ => rfl⟩, ?_⟩
            exact h
     ·
      rintro ⟨v879, v880, v881, v882, v883, v884, v885, v886, v887, v888, v889, v890, v891, v892, v893, v894, v895, v896, v897, v898, v899, v900, v901⟩ h
      unfold sennitlaw28_PathsStay_J2 at h
      obtain ⟨x902, hx902, h⟩ := bno_e h
      refine iwp_reg (ils_cons rfl (lra q3 la35 rfl rfl rfl rfl rfl (nle rfl) rfl) <|
       ils_cons rfl (iop_call (r := .slice _ _) rfl rfl (lb rfl) cl30 (.cons (svA q3 rfl) .nil) rfl (p_paths_Alive _ _ hx902)) <|
       ils_cons rfl (iop_assign rfl rfl (lb rfl) (svL rfl)) <|
       ils_end ?_)
      refine iwp_seq ?_
      refine iwp_reg (ils_cons rfl (iop_assign rfl rfl (lb rfl) (sv (d := .int _ 0) rfl)) <|
       ils_end ?_)
      refine iwp_block ?_
      refine iwp_loopP (α := Nat × Int) (fun z => ⟨[(0, .slice false (a0.map E_sennitlaw28_Act.d)), (3, .ref 0 0), (4, .ref 1 0), (5, .ref 2 0), (6, .int .i64 v347), (10, .ref 3 0), (24, .slice false (x902.map (eInt .i64).d)), (25, .int .i64 z.2)], [(0, .blk 35 (w14 v348 v349 v350 v351 v352 v353 v354 v355 v356 v357 v358 v359 v360 v361 v362 v363 v364 v365)), (1, .blk 76 (w17 v879 v880 v881 v882)), (2, .blk 77 (D.flat (v883.map (eInt .i64).d))), (3, .blk 35 (w14 v884 v885 v886 v887 v888 v889 v890 v891 v892 v893 v894 v895 v896 v897 v898 v899 v900 v901))]⟩) (fun z => sennitlaw28_PathsStay_L3 v347 (sennitlaw28_PathsStay_L0 a0 n0) v879 v880 v881 v882 v883 v884 v885 v886 v887 v888 v889 v890 v891 v892 v893 v894 v895 v896 v897 v898 v899 v900 v901 x902 z.1 z.2 = some r) (fun z => z.1) (fuel, 0) (fun i => i) ⟨(.sames rfl rfl), (.cons (.blk rfl rfl rfl) (.cons (.blk rfl rfl rfl) (.cons (EntW.lst rfl) (.cons (.blk rfl rfl rfl) .nil)))), nd_of [0, 1, 2, 3] rfl (by decide), fun _ _ => rfl⟩ ?_ ?_
      ·exact h
      ·
       rintro ⟨n3, v909⟩ h
       cases n3 with
       | zero => exact absurd h (by unfold sennitlaw28_PathsStay_L3; exact nofun)
       | succ n3 =>
        unfold sennitlaw28_PathsStay_L3 at h
        refine iwp_seq ?_
        obtain ⟨x918, hx918, h⟩ := bnd_e h
        refine iwp_reg (ils_cons rfl (mvI rfl rfl rfl rfl) <|
         ils_cons rfl (iop_cmpx rfl rfl (lb rfl) (svI rfl) (sv (d := .int _ 4) rfl) rfl hx918) <|
         ils_end ?_)
        refine iwp_cond (b := _) rfl (fun hc919 => ?_) (fun hc919 => ?_)
        ·
         replace h := bif_t h hc919
         refine iwp_skip ?_
         refine thenQ_n ?_
         refine iwp_seq ?_
         refine iwp_block ?_
         obtain ⟨hk920, h⟩ := chk_e h
         obtain ⟨x921, hx921, h⟩ := bno_e h
         obtain ⟨x922, hx922, h⟩ := bno_e h
         obtain ⟨x923, hx923, h⟩ := bnd_e h
         refine iwp_reg (ils_cons rfl (mvI rfl rfl rfl rfl) <|
          ils_cons rfl (iop_index_sel rfl rfl (lb rfl) Try.underlying76 ti4 (svR rfl) (svI rfl) hk920) <|
          ils_cons rfl (iop_load_sel_s eBool (b := 0) (k := 0) (sz := 1) (d := .bool _) rfl rfl (lb rfl) Try.underlying4 ag4 ti4 (svR rfl) rfl hx921 ⟨rfl, ⟨rfl, ⟨rfl, ⟨rfl, trivial⟩⟩⟩⟩ rfl) <|
          ils_cons rfl (mvB rfl rfl rfl rfl) <|
          ils_guard rfl rfl (.one rfl) rfl (by decide) (fun hb => (mvL rfl rfl rfl rfl)) <|
          ils_guard rfl rfl (.one rfl) rfl (by decide) (fun hb => (mvI rfl rfl rfl rfl)) <|
          ils_guard rfl rfl (.one rfl) rfl (by decide) (fun hb => (iop_call (r := .bool _) rfl rfl (lb rfl) cl37 (.cons (svcL rfl hb) (.cons (svcI rfl hb) .nil)) rfl (p_sennitlaw28_is _ _ _ (gd_t hx922 hb)))) <|
          ils_cons rfl (iop_andx rfl rfl (lb rfl) (svB rfl) rfl rfl hx923) <|
          ils_end ?_)
         refine iwp_cond (b := _) rfl (fun hc924 => ?_) (fun hc924 => ?_)
         ·
          replace h := bif_t h hc924
          refine iwp_reg (ils_cons rfl (iop_assign rfl rfl (lb rfl) (sv (d := .bool false) rfl)) <|
           ils_end ?_)
          refine iwp_ret ?_
          refine blockQ_r ?_
          refine thenQ_r ?_
          refine thenQ_r ?_
          refine blockQ_r ?_
          refine thenQ_r ?_
          refine blockQ_r ?_
          refine thenQ_r ?_
          refine thenQ_r ?_
          refine blockQ_r ?_
          refine thenQ_r ?_
          obtain rfl := Option.some.inj h
          refine ⟨.inr rfl, (.cons (sv rfl) .nil)⟩
         ·
          replace h := bif_f h hc924
          refine iwp_skip ?_
          refine blockQ_n ?_
          refine thenQ_n ?_
          obtain ⟨x925, hx925, h⟩ := bnd_e h
          refine iwp_region (ils_cons rfl (mvI rfl rfl rfl rfl) <|
           ils_cons rfl (iop_intx rfl rfl (lb rfl) (svI rfl) (sv (d := .int _ 1) rfl) rfl hx925) <|
           ils_cons rfl (asI rfl rfl rfl rfl) <|
           ils_nil ?_)
          refine thenQ_n ⟨(n3, x925), (fun i => i), ⟨(.sames rfl rfl), (.cons (.blk rfl rfl rfl) (.cons (.blk rfl rfl rfl) (.cons (EntW.lst rfl) (.cons (.blk rfl rfl rfl) .nil)))), nd_of [0, 1, 2, 3] rfl (by decide), fun _ _ => rfl⟩, ?_, ?_⟩
          exact h
          exact Nat.lt_succ_self _
        ·
         replace h := bif_f h hc919
         refine iwp_exit ?_
         refine thenQ_e ?_
         refine thenQ_e ?_
         refine blockQ_e ?_
         refine thenQ_n ?_
         refine iwp_seq ?_
         obtain ⟨x926, hx926, h⟩ := bno_e h
         obtain ⟨x927, hx927, h⟩ := bnd_e h
         refine iwp_reg (ils_cons rfl (lra q3 la35 rfl rfl rfl rfl rfl (nle rfl) rfl) <|
          ils_cons rfl (iop_call (r := .int _ _) rfl rfl (lb rfl) cl28 (.cons (svA q3 rfl) .nil) rfl (p_paths_Check _ _ hx926)) <|
          ils_cons rfl (iop_cmpx rfl rfl (lb rfl) (svI rfl) (sv (d := .int _ 0) rfl) rfl hx927) <|
          ils_end ?_)
         refine iwp_cond (b := _) rfl (fun hc928 => ?_) (fun hc928 => ?_)
         ·
          replace h := bif_t h hc928
          refine iwp_reg (ils_cons rfl (iop_assign rfl rfl (lb rfl) (sv (d := .bool false) rfl)) <|
           ils_end ?_)
          refine iwp_ret ?_
          refine thenQ_r ?_
          refine blockQ_r ?_
          refine thenQ_r ?_
          refine thenQ_r ?_
          refine blockQ_r ?_
          refine thenQ_r ?_
          obtain rfl := Option.some.inj h
          refine ⟨.inr rfl, (.cons (sv rfl) .nil)⟩
         ·
          replace h := bif_f h hc928
          refine iwp_skip ?_
          refine thenQ_n ?_
          refine iwp_region (ils_cons rfl (lra q3 la35 rfl rfl rfl rfl rfl (nle rfl) rfl) <|
           ils_cons rfl (stA q3 q3 ti35 rfl rfl rfl rfl rfl rfl rfl rfl (nle rfl) rfl) <|
           ils_nil ?_)
          refine blockQ_n ?_
          refine thenQ_n ?_
          obtain ⟨x929, hx929, h⟩ := bnd_e h
          refine iwp_region (ils_cons rfl (mvI rfl rfl rfl rfl) <|
           ils_cons rfl (iop_intx rfl rfl (lb rfl) (svI rfl) (sv (d := .int _ 1) rfl) rfl hx929) <|
           ils_cons rfl (asI rfl rfl rfl rfl) <|
           ils_nil ?_)
          refine thenQ_n ⟨(n0, x929, v884, v885, v886, v887, v888, v889, v890, v891, v892, v893, v894, v895, v896, v897, v898, v899, v900, v901, v879, v880, v881, v882, v883), (fun i => i), ⟨(.sames rfl rfl), (.cons (.blk rfl rfl rfl) (.cons (.blk rfl rfl rfl) (.cons (EntW.lst rfl) .nil))), nd_of [0, 1, 2] rfl (by decide), fun _ _ => rfl⟩, ?_, ?_⟩
          exact h
          exact Nat.lt_succ_self _
    ·
     replace h := bif_f h hc725
     refine iwp_exit ?_
     refine thenQ_e ?_
     refine thenQ_e ?_
     refine blockQ_e ?_
     refine thenQ_n ?_
     obtain ⟨x1077, hx1077, h⟩ := bno_e h
     refine iwp_reg (ils_cons rfl (iop_call (r := .bool _) rfl rfl (lb rfl) cl8 .nil rfl (p_sennitlaw28_awake  _ hx1077)) <|
      ils_cons rfl (asB rfl rfl rfl rfl) <|
      ils_end ?_)
     refine iwp_ret ?_
     obtain rfl := Option.some.inj h
     refine ⟨.inr rfl, (.cons (sv rfl) .nil)⟩
end Go.Proofs.Ytkkpkabamlabdaa
