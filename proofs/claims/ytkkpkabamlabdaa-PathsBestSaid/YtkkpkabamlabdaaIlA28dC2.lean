/-
  A part of the proof: rules and plain facts. No condition.
-/
import Derived.Test.YtkkpkabamlabdaaProg
import Derived.KernelRfl
import Derived.Test.YtkkpkabamlabdaaIlA28dD
import Derived.Test.YtkkpkabamlabdaaIlA28dC1
set_option linter.all false
set_option linter.unusedSimpArgs false
set_option linter.unusedVariables false
set_option maxRecDepth 8000
set_option maxHeartbeats 2000000
open Go Go.IL Go.Fn Go.Proofs
namespace Go.Proofs.Ytkkpkabamlabdaa
theorem ti5 : TI Try.prog 5 (some (.int .u8 0)) 1 1 := by unfold TI; kernel_rfl
theorem ti79 : TI Try.prog 79 (some (.agg #[.int .u8 0, .int .u8 0, .int .u8 0, .int .u8 0])) 4 4 := by unfold TI; kernel_rfl
theorem ag5 : aggOf Try.prog 5 = false := by kernel_rfl
theorem ex55 : ExternAt Try.prog 55 Extern.MathFloatBits.float64bits := ⟨Try.f55, Try.func55, by kernel_rfl, by kernel_rfl, by kernel_rfl, by kernel_rfl⟩
theorem ex76 : ExternAt Try.prog 76 Extern.MathFloatBits.float64frombits := ⟨Try.f76, Try.func76, by kernel_rfl, by kernel_rfl, by kernel_rfl, by kernel_rfl⟩
theorem st32 : Try.prog.stoodInHeld 32 = false ∧ Try.prog.eqGuardType Try.prog.depth 32 = false := ⟨by kernel_rfl, by kernel_rfl⟩
theorem st86 : Try.prog.stoodInHeld 86 = false ∧ Try.prog.eqGuardType Try.prog.depth 86 = false := ⟨by kernel_rfl, by kernel_rfl⟩
theorem cl8 : Callable Try.prog 8 := ⟨Try.f8, Try.func8, rfl, rfl⟩
theorem cl10 : Callable Try.prog 10 := ⟨Try.f10, Try.func10, rfl, rfl⟩
theorem cl12 : Callable Try.prog 12 := ⟨Try.f12, Try.func12, rfl, rfl⟩
theorem cl14 : Callable Try.prog 14 := ⟨Try.f14, Try.func14, rfl, rfl⟩
theorem cl16 : Callable Try.prog 16 := ⟨Try.f16, Try.func16, rfl, rfl⟩
theorem cl20 : Callable Try.prog 20 := ⟨Try.f20, Try.func20, rfl, rfl⟩
theorem cl21 : Callable Try.prog 21 := ⟨Try.f21, Try.func21, rfl, rfl⟩
theorem cl23 : Callable Try.prog 23 := ⟨Try.f23, Try.func23, rfl, rfl⟩
theorem cl32 : Callable Try.prog 32 := ⟨Try.f32, Try.func32, rfl, rfl⟩
theorem cl34 : Callable Try.prog 34 := ⟨Try.f34, Try.func34, rfl, rfl⟩
theorem cl35 : Callable Try.prog 35 := ⟨Try.f35, Try.func35, rfl, rfl⟩
theorem cl37 : Callable Try.prog 37 := ⟨Try.f37, Try.func37, rfl, rfl⟩
theorem cl39 : Callable Try.prog 39 := ⟨Try.f39, Try.func39, rfl, rfl⟩
theorem cl44 : Callable Try.prog 44 := ⟨Try.f44, Try.func44, rfl, rfl⟩
theorem cl45 : Callable Try.prog 45 := ⟨Try.f45, Try.func45, rfl, rfl⟩
theorem cl51 : Callable Try.prog 51 := ⟨Try.f51, Try.func51, rfl, rfl⟩
theorem cl60 : Callable Try.prog 60 := ⟨Try.f60, Try.func60, rfl, rfl⟩
theorem cl62 : Callable Try.prog 62 := ⟨Try.f62, Try.func62, rfl, rfl⟩
theorem cl63 : Callable Try.prog 63 := ⟨Try.f63, Try.func63, rfl, rfl⟩
theorem cl73 : Callable Try.prog 73 := ⟨Try.f73, Try.func73, rfl, rfl⟩
def la86 := LA.mk Try.underlying86 ag86 ti86 (by decide)


theorem p_slices_IndexFunc_paths_Bind_paths_Bind_Fall_1 (a0 : (List T_paths_Bind)) (a1 : Int) (r : Int) (h : slices_IndexFunc_paths_Bind_paths_Bind_Fall_1 a0 a1 = some r) : PureAt Try.prog 65 [.slice false (a0.map E_paths_Bind.d), .fn 45 [.fptr [.int .i64 a1]]] (.int .i64 r) := by
 refine pure_of_iwp (rs := [.int .i64 r]) Try.func65 rfl Try.ntmps65 (nle rfl) rfl fun O hO => ?_
 show IWP _ _ _ _ ⟨[(0, .slice false (a0.map E_paths_Bind.d)), (1, .fn 45 [.fptr [.int .i64 a1]])], []⟩ _
 unfold slices_IndexFunc_paths_Bind_paths_Bind_Fall_1 at h
 refine iwp_reg (ils_cons rfl (iop_assign rfl rfl (lb rfl) (sv (d := .int _ 0) rfl)) <|
  ils_end ?_)
 refine iwp_seq ?_
 refine iwp_reg (ils_cons rfl (mvL rfl rfl rfl rfl) <|
  ils_cons rfl (iop_lenT E_paths_Bind (l := a0) rfl rfl (lb rfl) Try.underlying33 (svL rfl)) <|
  ils_cons rfl (iop_move rfl rfl (lb rfl) (sv (d := .int _ 0) rfl)) <|
  ils_end ?_)
 refine iwp_block ?_
 refine iwp_loopP (α := Nat × Int) (fun z => ⟨[(0, .slice false (a0.map E_paths_Bind.d)), (1, .fn 45 [.fptr [.int .i64 a1]]), (7, .int .i64 (a0.length : Int)), (8, .int .i64 z.2)], []⟩) (fun z => slices_IndexFunc_paths_Bind_paths_Bind_Fall_1_L0 a0 a1 z.1 z.2 = some r) (fun z => z.1) (fuel, 0) (fun i => i) ⟨(.sames rfl rfl), .nil, nd_of [] rfl (by decide), fun _ _ => rfl⟩ ?_ ?_
 ·exact h
 ·
  rintro ⟨n0, v7⟩ h
  cases n0 with
  | zero => exact absurd h (by unfold slices_IndexFunc_paths_Bind_paths_Bind_Fall_1_L0; exact nofun)
  | succ n0 =>
   unfold slices_IndexFunc_paths_Bind_paths_Bind_Fall_1_L0 at h
   obtain ⟨x14, hx14, h⟩ := bnd_e h
   refine iwp_reg (ils_cons rfl (iop_cmpx rfl rfl (lb rfl) (svI rfl) (svI rfl) rfl hx14) <|
    ils_end ?_)
   refine iwp_seq ?_
   refine iwp_cond (b := _) rfl (fun hc15 => ?_) (fun hc15 => ?_)
   ·
    replace h := bif_t h hc15
    refine iwp_skip ?_
    refine thenQ_n ?_
    refine iwp_seq ?_
    refine iwp_block ?_
    refine iwp_reg (ils_cons rfl (mvI rfl rfl rfl rfl) <|
     ils_cons rfl (asI rfl rfl rfl rfl) <|
     ils_end ?_)
    obtain ⟨x16, hx16, h⟩ := bno_e h
    obtain ⟨x17, hx17, h⟩ := bno_e h
    refine iwp_reg (ils_cons rfl (iop_move rfl rfl (lb rfl) (sv (d := .fn 45 [.fptr [.int _ _]]) rfl)) <|
     ils_cons rfl (mvL rfl rfl rfl rfl) <|
     ils_cons rfl (mvI rfl rfl rfl rfl) <|
     ils_cons rfl (iop_idxT E_paths_Bind (cs := q9) rfl rfl (lb rfl) Try.underlying33 ti86 (svL rfl) (svI rfl) hx16 rfl rfl) <|
     ils_cons rfl (iop_load_fa (cs := q9) rfl rfl (lb rfl) Try.underlying86 ag86 ti86 (by decide) (sv (d := .fptr q9) rfl) (nle rfl) rfl) <|
     ils_cons rfl (iop_callv (r := .bool _) rfl rfl (lb rfl) cl45 (sv (d := .fn 45 [.fptr [.int _ _]]) rfl) (.cons (svA q9 rfl) .nil) rfl (p_paths_Fall_1 _ _ _ hx17)) <|
     ils_end ?_)
    refine iwp_cond (b := _) rfl (fun hc18 => ?_) (fun hc18 => ?_)
    ·
     replace h := bif_t h hc18
     refine iwp_reg (ils_cons rfl (mvI rfl rfl rfl rfl) <|
      ils_cons rfl (asI rfl rfl rfl rfl) <|
      ils_end ?_)
     refine iwp_ret ?_
     refine blockQ_r ?_
     refine thenQ_r ?_
     refine thenQ_r ?_
     refine blockQ_r ?_
     refine thenQ_r ?_
     obtain rfl := Option.some.inj h
     refine ⟨.inr rfl, (.cons (sv rfl) .nil)⟩
    ·
     replace h := bif_f h hc18
     refine iwp_skip ?_
     refine blockQ_n ?_
     refine thenQ_n ?_
     obtain ⟨x19, hx19, h⟩ := bnd_e h
     refine iwp_region (ils_cons rfl (iop_intx rfl rfl (lb rfl) (svI rfl) (sv (d := .int _ 1) rfl) rfl hx19) <|
      ils_cons rfl (mvI rfl rfl rfl rfl) <|
      ils_nil ?_)
     refine thenQ_n ⟨(n0, x19), (fun i => i), ⟨(.sames rfl rfl), .nil, nd_of [] rfl (by decide), fun _ _ => rfl⟩, ?_, ?_⟩
     exact h
     exact Nat.lt_succ_self _
   ·
    replace h := bif_f h hc15
    refine iwp_exit ?_
    refine thenQ_e ?_
    refine thenQ_e ?_
    refine blockQ_e ?_
    refine thenQ_n ?_
    refine iwp_reg (ils_cons rfl (iop_assign rfl rfl (lb rfl) (sv (d := .int _ (-1)) rfl)) <|
     ils_end ?_)
    refine iwp_ret ?_
    obtain rfl := Option.some.inj h
    refine ⟨.inr rfl, (.cons (sv rfl) .nil)⟩

theorem p_slices_DeleteFunc_paths_Bind_paths_Bind_h_Fall_1 (a0 : (List T_paths_Bind)) (a1 : Int) (r : (List T_paths_Bind)) (h : slices_DeleteFunc_paths_Bind_paths_Bind_h_Fall_1 a0 a1 = some r) : FnH Try.prog 44 [.osl 1000 E_paths_Bind.sz a0.length, .fn 45 [.ref 1001 0]] [(1000, .blk 86 (D.flat (a0.map E_paths_Bind.d))), (1001, .blk 3 [.int .i64 a1])] (.osl 0 E_paths_Bind.sz r.length) [(1001, .blk 3 [.int .i64 a1]), (0, .blk 86 (D.flat (r.map E_paths_Bind.d)))] := by
 refine fnh_of_iwp (rs := [.osl 0 E_paths_Bind.sz r.length]) Try.func44 rfl Try.ntmps44 (nle rfl) fun O hO => ?_
 show IWP _ _ _ _ ⟨[(0, .osl 1000 E_paths_Bind.sz a0.length), (1, .fn 45 [.ref 1001 0])], [(1000, .blk 86 (D.flat (a0.map E_paths_Bind.d))), (1001, .blk 3 [.int .i64 a1])]⟩ _
 unfold slices_DeleteFunc_paths_Bind_paths_Bind_h_Fall_1 at h
 refine iwp_reg (ils_cons rfl (iop_assign rfl rfl (lb rfl) (sv (d := .nils) rfl)) <|
  ils_end ?_)
 obtain ⟨x1, hx1, h⟩ := bno_e h
 refine iwp_reg (ils_cons rfl (iop_move rfl rfl (lb rfl) (sv (d := .osl _ _ _) rfl)) <|
  ils_cons rfl (iop_move rfl rfl (lb rfl) (sv (d := .fn 45 [.ref _ _]) rfl)) <|
  ils_cons rfl (iop_callp (r := .int .i64 x1) rfl rfl (lb rfl) cl65 (.cons (sv (d := .osl _ _ _) rfl) (.cons (sv (d := .fn 45 [.ref _ _]) rfl) .nil)) (.cons (FDT E_paths_Bind rfl rfl) (.cons (.fn (.cons (.ref rfl rfl (fdl_refl _) rfl) .nil)) .nil)) rfl rfl (p_slices_IndexFunc_paths_Bind_paths_Bind_Fall_1 _ _ _ hx1)) <|
  ils_cons rfl (asI rfl rfl rfl rfl) <|
  ils_end ?_)
 refine iwp_seq ?_
 obtain ⟨x2, hx2, h⟩ := bnd_e h
 refine iwp_reg (ils_cons rfl (mvI rfl rfl rfl rfl) <|
  ils_cons rfl (iop_cmpx rfl rfl (lb rfl) (svI rfl) (sv (d := .int _ (-1)) rfl) rfl hx2) <|
  ils_end ?_)
 refine iwp_cond (b := _) rfl (fun hc3 => ?_) (fun hc3 => ?_)
 ·
  replace h := bif_t h hc3
  refine iwp_reg (ils_cons rfl (iop_move rfl rfl (lb rfl) (sv (d := .osl _ _ _) rfl)) <|
   ils_cons rfl (iop_assign rfl rfl (lb rfl) (sv (d := .osl _ _ _) rfl)) <|
   ils_end ?_)
  refine iwp_ret ?_
  refine thenQ_r ?_
  obtain rfl := Option.some.inj h
  refine ⟨.inr rfl, (fun i => if i = 0 then 1000 else i), ⟨.nil, (.cons (.blk rfl rfl rfl) (.cons (EntW.lst rfl) .nil)), nd_of [1001, 1000] rfl (by decide), (fun i hi => by first | rfl | (show (if _ then _ else _) = _; (repeat' split) <;> omega))⟩, (.cons (sv rfl) .nil), rfl⟩
 ·
  replace h := bif_f h hc3
  refine iwp_skip ?_
  refine thenQ_n ?_
  refine iwp_seq ?_
  obtain ⟨x4, hx4, h⟩ := bnd_e h
  refine iwp_reg (ils_cons rfl (mvI rfl rfl rfl rfl) <|
   ils_cons rfl (iop_intx rfl rfl (lb rfl) (svI rfl) (sv (d := .int _ 1) rfl) rfl hx4) <|
   ils_cons rfl (asI rfl rfl rfl rfl) <|
   ils_end ?_)
  refine iwp_block ?_
  refine iwp_loopP (α := Nat × (List T_paths_Bind) × Int × Int) (fun z => ⟨[(0, .osl 1000 E_paths_Bind.sz z.2.1.length), (1, .fn 45 [.ref 1001 0]), (5, .int .i64 z.2.2.1), (6, .int .i64 z.2.2.2)], [(1000, .blk 86 (D.flat (z.2.1.map E_paths_Bind.d))), (1001, .blk 3 [.int .i64 a1])]⟩) (fun z => slices_DeleteFunc_paths_Bind_paths_Bind_h_Fall_1_L0 a1 z.1 z.2.1 z.2.2.1 z.2.2.2 = some r) (fun z => z.1) (fuel, a0, x1, x4) (fun i => i) ⟨(.sames rfl rfl), (.cons (EntW.lst rfl) (.cons (.blk rfl rfl rfl) .nil)), nd_of [1000, 1001] rfl (by decide), fun _ _ => rfl⟩ ?_ ?_
  ·exact h
  ·
   rintro ⟨n0, v17, v18, v19⟩ h
   cases n0 with
   | zero => exact absurd h (by unfold slices_DeleteFunc_paths_Bind_paths_Bind_h_Fall_1_L0; exact nofun)
   | succ n0 =>
    unfold slices_DeleteFunc_paths_Bind_paths_Bind_h_Fall_1_L0 at h
    refine iwp_seq ?_
    obtain ⟨x32, hx32, h⟩ := bnd_e h
    refine iwp_reg (ils_cons rfl (mvI rfl rfl rfl rfl) <|
     ils_cons rfl (iop_move rfl rfl (lb rfl) (sv (d := .osl _ _ _) rfl)) <|
     ils_cons rfl (iop_lenO rfl rfl (lb rfl) Try.underlying33 (sv (d := .osl _ _ _) rfl)) <|
     ils_cons rfl (iop_cmpx rfl rfl (lb rfl) (svI rfl) (svI rfl) rfl hx32) <|
     ils_end ?_)
    refine iwp_cond (b := _) rfl (fun hc33 => ?_) (fun hc33 => ?_)
    ·
     replace h := bif_t h hc33
     refine iwp_skip ?_
     refine thenQ_n ?_
     refine iwp_seq ?_
     refine iwp_block ?_
     obtain ⟨x34, hx34, h⟩ := bno_e h
     obtain ⟨x35, hx35, h⟩ := bno_e h
     refine iwp_reg (ils_cons rfl (iop_move rfl rfl (lb rfl) (sv (d := .osl _ _ _) rfl)) <|
      ils_cons rfl (mvI rfl rfl rfl rfl) <|
      ils_cons rfl (iop_idxO E_paths_Bind.toEnc0 rfl rfl (lb rfl) Try.underlying33 ti86 (sv (d := .osl _ _ _) rfl) rfl (svI rfl) hx34) <|
      ils_cons rfl (iop_loadEa E_paths_Bind.toEnc0 (cs := q9) rfl rfl (lb rfl) Try.underlying86 ag86 ti86 (by decide) (svR rfl) rfl hx35 (nle rfl) rfl) <|
      ils_cons rfl (iop_allocS (cs := q9) (cs' := [.int .i64 0, .int .i64 0]) 0 rfl rfl (lb rfl) rfl ti86 rfl rfl (.all _)) <|
      ils_cons rfl (stA q9 q9 ti86 rfl rfl rfl rfl rfl rfl rfl rfl (nle rfl) rfl) <|
      ils_end ?_)
     obtain ⟨x36, hx36, h⟩ := bno_e h
     refine iwp_reg (ils_cons rfl (iop_move rfl rfl (lb rfl) (sv (d := .fn 45 [.ref _ _]) rfl)) <|
      ils_cons rfl (lra q9 la86 rfl rfl rfl rfl rfl (nle rfl) rfl) <|
      ils_cons rfl (iop_callvp (r := .bool x36) rfl rfl (lb rfl) cl45 (sv (d := .fn 45 [.ref _ _]) rfl) (.cons (svA q9 rfl) .nil) (.k (.cons (.ref rfl rfl (fdl_refl _) rfl) .nil)) rfl rfl (p_paths_Fall_1 _ _ _ hx36)) <|
      ils_cons rfl (iop_not rfl rfl (lb rfl) (svB rfl)) <|
      ils_end ?_)
     refine iwp_cond (b := _) rfl (fun hc37 => ?_) (fun hc37 => ?_)
     ·
      replace h := bif_t h hc37
      obtain ⟨x38, hx38, h⟩ := bno_e h
      obtain ⟨x39, hx39, h⟩ := bno_e h
      obtain ⟨x40, hx40, h⟩ := bnd_e h
      refine iwp_reg (ils_cons rfl (iop_move rfl rfl (lb rfl) (sv (d := .osl _ _ _) rfl)) <|
       ils_cons rfl (mvI rfl rfl rfl rfl) <|
       ils_cons rfl (lra q9 la86 rfl rfl rfl rfl rfl (nle rfl) rfl) <|
       ils_cons rfl (iop_idxO E_paths_Bind.toEnc0 rfl rfl (lb rfl) Try.underlying33 ti86 (sv (d := .osl _ _ _) rfl) rfl (svI rfl) hx38) <|
       ils_cons rfl (iop_storeE E_paths_Bind.toEnc0 (a' := x35) rfl rfl ti86 (svR rfl) rfl (svA q9 rfl) rfl rfl rfl hx39 (nle rfl) rfl hx40) <|
       ils_end ?_)
      obtain ⟨x41, hx41, h⟩ := bnd_e h
      refine iwp_region (ils_cons rfl (mvI rfl rfl rfl rfl) <|
       ils_cons rfl (iop_intx rfl rfl (lb rfl) (svI rfl) (sv (d := .int _ 1) rfl) rfl hx41) <|
       ils_cons rfl (asI rfl rfl rfl rfl) <|
       ils_nil ?_)
      refine blockQ_n ?_
      refine thenQ_n ?_
      obtain ⟨x42, hx42, h⟩ := bnd_e h
      refine iwp_region (ils_cons rfl (mvI rfl rfl rfl rfl) <|
       ils_cons rfl (iop_intx rfl rfl (lb rfl) (svI rfl) (sv (d := .int _ 1) rfl) rfl hx42) <|
       ils_cons rfl (asI rfl rfl rfl rfl) <|
       ils_nil ?_)
      refine thenQ_n ⟨(n0, x40, x41, x42), (fun i => i), ⟨(.cons (.same (congrArg (D.osl _ _) (len_set hx40 rfl).symm) rfl) (.sames rfl rfl)), (.cons (EntW.lst rfl) (.cons (.blk rfl rfl rfl) .nil)), nd_of [1000, 1001] rfl (by decide), fun _ _ => rfl⟩, ?_, ?_⟩
      exact h
      exact Nat.lt_succ_self _
     ·
      replace h := bif_f h hc37
      refine iwp_skip ?_
      refine blockQ_n ?_
      refine thenQ_n ?_
      obtain ⟨x43, hx43, h⟩ := bnd_e h
      refine iwp_region (ils_cons rfl (mvI rfl rfl rfl rfl) <|
       ils_cons rfl (iop_intx rfl rfl (lb rfl) (svI rfl) (sv (d := .int _ 1) rfl) rfl hx43) <|
       ils_cons rfl (asI rfl rfl rfl rfl) <|
       ils_nil ?_)
      refine thenQ_n ⟨(n0, v17, v18, x43), (fun i => i), ⟨(.sames rfl rfl), (.cons (EntW.lst rfl) (.cons (.blk rfl rfl rfl) .nil)), nd_of [1000, 1001] rfl (by decide), fun _ _ => rfl⟩, ?_, ?_⟩
      exact h
      exact Nat.lt_succ_self _
    ·
     replace h := bif_f h hc33
     refine iwp_exit ?_
     refine thenQ_e ?_
     refine thenQ_e ?_
     refine blockQ_e ?_
     refine thenQ_n ?_
     obtain ⟨x44, hx44, h⟩ := bno_e h
     refine iwp_reg (ils_cons rfl (iop_move rfl rfl (lb rfl) (sv (d := .osl _ _ _) rfl)) <|
      ils_cons rfl (mvI rfl rfl rfl rfl) <|
      ils_clrtail E_paths_Bind.toEnc0 rfl rfl rfl rfl (by decide) rfl rfl Try.underlying33 ti86 rfl rfl rfl rfl rfl (fun S1 h9 => sv ((h9 37 (by decide)).trans rfl)) hx44 <|
      ils_end ?_)
     obtain ⟨x45, hx45, h⟩ := bno_e h
     refine iwp_reg (ils_cons rfl (iop_move rfl rfl (lb rfl) (sv (d := .osl _ _ _) rfl)) <|
      ils_cons rfl (mvI rfl rfl rfl rfl) <|
      ils_cons rfl (iop_truncO E_paths_Bind.toEnc0 rfl rfl (lb rfl) Try.underlying33 ti86 (sv (d := .osl _ _ _) rfl) rfl (Nat.le_trans (cut_le hx44) (Nat.le_of_eq rfl)) (svI rfl) hx45) <|
      ils_cons rfl (iop_assign rfl rfl (lb rfl) (sv (d := .osl _ _ _) rfl)) <|
      ils_end ?_)
     refine iwp_ret ?_
     obtain rfl := Option.some.inj h
     refine ⟨.inr rfl, (fun i => if i = 0 then 1000 else i), ⟨.nil, (.cons (.blk rfl rfl rfl) (.cons (EntW.lst rfl) .nil)), nd_of [1001, 1000] rfl (by decide), (fun i hi => by first | rfl | (show (if _ then _ else _) = _; (repeat' split) <;> omega))⟩, (.cons (sv rfl) .nil), rfl⟩

theorem p_paths_Fall (a0 : T_paths_State) (a1 : Int) (r : (T_paths_State × (List Int) × Bool)) (h : paths_Fall a0 a1 = some r) : PureAt Try.prog 12 [.agg (v0 a0), .int .i64 a1] (retD [.agg (v0 r.1), .slice false (r.2.1.map (eInt .i64).d), .bool r.2.2]) := by
 refine pure_of_iwpF (rs := [.agg (v0 r.1), .slice false (r.2.1.map (eInt .i64).d), .bool r.2.2]) Try.func12 rfl Try.ntmps12 (nle rfl) rfl fun O hO => ?_
 show IWP _ _ _ _ ⟨[(0, .agg (v0 a0)), (1, .int .i64 a1)], []⟩ _
 unfold paths_Fall at h
 refine iwp_reg (ils_cons rfl (iop_box' (cs := q3) 0 rfl rfl (lb rfl) rfl (svA q3 rfl) rfl rfl) <|
  ils_cons rfl (iop_box' (cs := [.int _ _]) 1 rfl rfl (lb rfl) rfl (svI rfl) rfl rfl) <|
  ils_cons rfl (iop_allocS (cs := q5) (cs' := (w14 false false 0 0 false false 0 0 false false 0 0 false false 0 0 0 ([] : List T_paths_Bind))) 2 rfl rfl (lb rfl) rfl ti35 rfl rfl (.k4 (.k (.k4 (.k (.k4 (.k (.k (.k (.cons (.nils _) .nil)))))))))) <|
  ils_cons rfl (iop_assign rfl rfl (lb rfl) (sv (d := .nils) rfl)) <|
  ils_cons rfl (iop_assign rfl rfl (lb rfl) (sv (d := .bool false) rfl)) <|
  ils_end ?_)
 obtain ⟨x1, hx1, h⟩ := bno_e h
 refine iwp_reg (ils_cons rfl (lra q3 la35 rfl rfl rfl rfl rfl (nle rfl) rfl) <|
  ils_cons rfl (iop_callh2 (r' := .agg (w15 x1.1 x1.2.1 x1.2.2.1 x1.2.2.2.1 x1.2.2.2.2.1 x1.2.2.2.2.2.1 x1.2.2.2.2.2.2.1 x1.2.2.2.2.2.2.2.1 x1.2.2.2.2.2.2.2.2.1 x1.2.2.2.2.2.2.2.2.2.1 x1.2.2.2.2.2.2.2.2.2.2.1 x1.2.2.2.2.2.2.2.2.2.2.2.1 x1.2.2.2.2.2.2.2.2.2.2.2.2.1 x1.2.2.2.2.2.2.2.2.2.2.2.2.2.1 x1.2.2.2.2.2.2.2.2.2.2.2.2.2.2.1 x1.2.2.2.2.2.2.2.2.2.2.2.2.2.2.2.1 x1.2.2.2.2.2.2.2.2.2.2.2.2.2.2.2.2.1 (.osl 3 E_paths_Bind.sz x1.2.2.2.2.2.2.2.2.2.2.2.2.2.2.2.2.2.length))) (H1' := [(3, .blk 86 (D.flat (x1.2.2.2.2.2.2.2.2.2.2.2.2.2.2.2.2.2.map E_paths_Bind.d)))]) 3 [] rfl rfl (lb rfl) cl40 (.cons (svA q3 rfl) .nil) rfl rfl ⟨rfl, rfl, by decide, rfl, List.forall_mem_nil _⟩ (p_paths_State_own_h _ _ hx1) rfl rfl (List.forall_mem_cons.2 ⟨⟨rfl, (handLr E_paths_Bind)⟩, List.forall_mem_nil _⟩) (by simp only [List.map_cons, List.map_nil, Ent.ren, renL_flat, renL_ref]; rfl)) <|
  ils_cons rfl (iop_allocS (cs := q5) (cs' := (w14 false false 0 0 false false 0 0 false false 0 0 false false 0 0 0 ([] : List T_paths_Bind))) 4 rfl rfl (lb rfl) rfl ti35 rfl rfl (.k4 (.k (.k4 (.k (.k4 (.k (.k (.k (.cons (.nils _) .nil)))))))))) <|
  ils_cons rfl (stA q4 q4 ti35 rfl rfl rfl rfl rfl rfl rfl rfl (nle rfl) rfl) <|
  ils_end ?_)
 refine iwp_seq ?_
 obtain ⟨x2, hx2, h⟩ := bno_e h
 obtain ⟨x3, hx3, h⟩ := bno_e h
 obtain ⟨x4, hx4, h⟩ := bnd_e h
 obtain ⟨x5, hx5, h⟩ := bnd_e h
 refine iwp_reg (ils_cons rfl (lra q3 la35 rfl rfl rfl rfl rfl (nle rfl) rfl) <|
  ils_cons rfl (iop_load_rs (d := .int _ _) rfl rfl (lb rfl) Try.underlying3 ag3 ti3 (by decide) (svR rfl) rfl (nle rfl) rfl) <|
  ils_cons rfl (iop_call (r := .bool _) rfl rfl (lb rfl) cl43 (.cons (svA q3 rfl) (.cons (svI rfl) .nil)) rfl (p_paths_State_up _ _ _ hx2)) <|
  ils_cons rfl (iop_not rfl rfl (lb rfl) (svB rfl)) <|
  ils_cons rfl (mvB rfl rfl rfl rfl) <|
  ils_guard rfl rfl (.one rfl) rfl (by decide) (fun hb => (lra q3 la35 rfl rfl rfl rfl rfl (nle rfl) rfl)) <|
  ils_guard rfl rfl (.one rfl) rfl (by decide) (fun hb => (iop_call (r := .int _ _) rfl rfl (lb rfl) cl28 (.cons (svcA (v0 a0) rfl hb) .nil) rfl (p_paths_Check _ _ (gd_t hx3 hb)))) <|
  ils_guard rfl rfl (.one rfl) rfl (by decide) (fun hb => (iop_cmpx rfl rfl (lb rfl) (svcI rfl hb) (sv (d := .int _ 0) rfl) rfl hx4)) <|
  ils_cons rfl (iop_orx rfl rfl (lb rfl) (svB rfl) rfl rfl hx5) <|
  ils_end ?_)
 refine iwp_cond (b := _) rfl (fun hc6 => ?_) (fun hc6 => ?_)
 ·
  replace h := bif_t h hc6
  refine iwp_reg (ils_cons rfl (lra q4 la35 rfl rfl rfl rfl rfl (nle rfl) rfl) <|
   ils_cons rfl (stA q4 q4 ti35 rfl rfl rfl rfl rfl rfl rfl rfl (nle rfl) rfl) <|
   ils_cons rfl (iop_assign rfl rfl (lb rfl) (sv (d := .nils) rfl)) <|
   ils_cons rfl (iop_assign rfl rfl (lb rfl) (sv (d := .bool false) rfl)) <|
   ils_end ?_)
  refine iwp_ret ?_
  refine thenQ_r ?_
  obtain rfl := Option.some.inj h
  refine ⟨.inr rfl, _, (.cons (rva la35 rfl rfl (nle rfl) rfl) (.cons (sv rfl) (.cons (sv rfl) .nil))), (.cons (.agg (.k4 (.k (.k4 (.k (.k4 (.k (.k (.k (.cons (FDT E_paths_Bind rfl rfl) .nil)))))))))) (.cons (.nils _) (.all _)))⟩
 ·
  replace h := bif_f h hc6
  refine iwp_skip ?_
  refine thenQ_n ?_
  obtain ⟨hk7, h⟩ := chk_e h
  obtain ⟨x8, hx8, h⟩ := bnd_e h
  obtain ⟨x9, hx9, h⟩ := bnd_e h
  obtain ⟨x10, hx10, h⟩ := bnd_e h
  obtain ⟨x11, hx11, h⟩ := bnd_e h
  obtain ⟨hk12, h⟩ := chk_e h
  obtain ⟨x13, hx13, h⟩ := bnd_e h
  obtain ⟨x14, hx14, h⟩ := bnd_e h
  obtain ⟨x15, hx15, h⟩ := bnd_e h
  obtain ⟨x16, hx16, h⟩ := bnd_e h
  refine iwp_drw rfl [⟨[3], [1], [(23, .int .i64 a1)], []⟩,
   ⟨[3], [1], [(24, .int .i64 a1)], []⟩,
   ⟨[7], [], [(25, .ref 4 0)], []⟩,
   ⟨[23, 25], [], [(26, .ref 4 (0 + (a1 : Int).toNat * 4 + 0))], []⟩,
   ⟨[26], [], [(27, .ref 4 (0 + (a1 : Int).toNat * 4 + 0))], []⟩,
   ⟨[27], [4], [], [(4, .blk 35 (w15 x8.Up x8.Dead x8.Bytes x8.Ticks x9.Up x9.Dead x9.Bytes x9.Ticks x10.Up x10.Dead x10.Bytes x10.Ticks x11.Up x11.Dead x11.Bytes x11.Ticks x1.2.2.2.2.2.2.2.2.2.2.2.2.2.2.2.2.1 (.osl 3 E_paths_Bind.sz x1.2.2.2.2.2.2.2.2.2.2.2.2.2.2.2.2.2.length)))]⟩,
   ⟨[7], [], [(28, .ref 4 0)], []⟩,
   ⟨[24, 28], [], [(29, .ref 4 (0 + (a1 : Int).toNat * 4 + 0))], []⟩,
   ⟨[29], [], [(30, .ref 4 (0 + (a1 : Int).toNat * 4 + 1))], []⟩,
   ⟨[30], [4], [], [(4, .blk 35 (w15 x13.Up x13.Dead x13.Bytes x13.Ticks x14.Up x14.Dead x14.Bytes x14.Ticks x15.Up x15.Dead x15.Bytes x15.Ticks x16.Up x16.Dead x16.Bytes x16.Ticks x1.2.2.2.2.2.2.2.2.2.2.2.2.2.2.2.2.1 (.osl 3 E_paths_Bind.sz x1.2.2.2.2.2.2.2.2.2.2.2.2.2.2.2.2.2.length)))]⟩] rfl ?_ (by kernel_rfl) ?_
  ·refine .cons (lop rfl rfl fun S hA => (iop_load_rs (d := .int _ _) rfl rfl (lb rfl) Try.underlying3 ag3 ti3 (by decide) (svaR hA rfl rfl) (agi hA rfl rfl) (nle rfl) rfl)) ?_
   refine .cons (lop rfl rfl fun S hA => (iop_load_rs (d := .int _ _) rfl rfl (lb rfl) Try.underlying3 ag3 ti3 (by decide) (svaR hA rfl rfl) (agi hA rfl rfl) (nle rfl) rfl)) ?_
   refine .cons (lop rfl rfl fun S hA => (iop_fieldAddr_ref rfl rfl (lb rfl) Try.underlying35 rfl ti32 (by decide) (svaR hA rfl rfl) (off' := 0) rfl)) ?_
   refine .cons (lop rfl rfl fun S hA => (iop_index_sel rfl rfl (lb rfl) Try.underlying32 ti31 (svaR hA rfl rfl) (svaI hA rfl rfl) hk7)) ?_
   refine .cons (lop rfl rfl fun S hA => (iop_field_sel rfl rfl (lb rfl) Try.underlying31 rfl ti4 (by decide) (svaR hA rfl rfl) (k' := 0) rfl)) ?_
   refine .cons (lop rfl rfl fun S hA => (iop_store_sel (b := 0) (k := 0) (sz := 4) (cs' := (w15 x8.Up x8.Dead x8.Bytes x8.Ticks x9.Up x9.Dead x9.Bytes x9.Ticks x10.Up x10.Dead x10.Bytes x10.Ticks x11.Up x11.Dead x11.Bytes x11.Ticks x1.2.2.2.2.2.2.2.2.2.2.2.2.2.2.2.2.1 (.osl 3 E_paths_Bind.sz x1.2.2.2.2.2.2.2.2.2.2.2.2.2.2.2.2.2.length))) rfl rfl ti4 (svaR hA rfl rfl) (agi hA rfl rfl) (sv (d := .bool false) rfl) rfl rfl rfl hk7 rfl ⟨⟨⟨⟨trivial, fun h => by rw [← hx8, ← hx9, ← hx10, ← hx11, h]; rfl⟩, fun h => by rw [← hx8, ← hx9, ← hx10, ← hx11, h]; rfl⟩, fun h => by rw [← hx8, ← hx9, ← hx10, ← hx11, h]; rfl⟩, fun h => by rw [← hx8, ← hx9, ← hx10, ← hx11, h]; rfl⟩)) ?_
   refine .cons (lop rfl rfl fun S hA => (iop_fieldAddr_ref rfl rfl (lb rfl) Try.underlying35 rfl ti32 (by decide) (svaR hA rfl rfl) (off' := 0) rfl)) ?_
   refine .cons (lop rfl rfl fun S hA => (iop_index_sel rfl rfl (lb rfl) Try.underlying32 ti31 (svaR hA rfl rfl) (svaI hA rfl rfl) hk12)) ?_
   refine .cons (lop rfl rfl fun S hA => (iop_field_sel rfl rfl (lb rfl) Try.underlying31 rfl ti4 (by decide) (svaR hA rfl rfl) (k' := 1) rfl)) ?_
   refine .cons (lop rfl rfl fun S hA => (iop_store_sel (b := 0) (k := 1) (sz := 4) (cs' := (w15 x13.Up x13.Dead x13.Bytes x13.Ticks x14.Up x14.Dead x14.Bytes x14.Ticks x15.Up x15.Dead x15.Bytes x15.Ticks x16.Up x16.Dead x16.Bytes x16.Ticks x1.2.2.2.2.2.2.2.2.2.2.2.2.2.2.2.2.1 (.osl 3 E_paths_Bind.sz x1.2.2.2.2.2.2.2.2.2.2.2.2.2.2.2.2.2.length))) rfl rfl ti4 (svaR hA rfl rfl) (agi hA rfl rfl) (sv (d := .bool true) rfl) rfl rfl rfl hk12 rfl ⟨⟨⟨⟨trivial, fun h => by rw [← hx13, ← hx14, ← hx15, ← hx16, h]; rfl⟩, fun h => by rw [← hx13, ← hx14, ← hx15, ← hx16, h]; rfl⟩, fun h => by rw [← hx13, ← hx14, ← hx15, ← hx16, h]; rfl⟩, fun h => by rw [← hx13, ← hx14, ← hx15, ← hx16, h]; rfl⟩)) ?_
   exact .nil
  refine iwp_reg (ils_cons rfl (iop_assign rfl rfl (lb rfl) (sv (d := .nils) rfl)) <|
   ils_end ?_)
  refine iwp_seq ?_
  refine iwp_reg (ils_cons rfl (faR 17 rfl rfl rfl Try.underlying35 rfl ti33 (lb rfl) rfl rfl) <|
   ils_cons rfl (lrL la33 rfl rfl rfl rfl rfl (nle rfl) rfl) <|
   ils_cons rfl (iop_lenT E_paths_Bind (l := a0.Binds) rfl rfl (lb rfl) Try.underlying33 (svL rfl)) <|
   ils_cons rfl (iop_move rfl rfl (lb rfl) (sv (d := .int _ 0) rfl)) <|
   ils_end ?_)
  refine iwp_block ?_
  refine iwp_loopP (α := Nat × (List Int) × Int) (fun z => ⟨[(3, .ref 1 0), (4, .ref 2 0), (7, .ref 4 0), (8, .gsl 26 (eInt .i64).sz (z.2.1.map (eInt .i64).d)), (32, .slice false (a0.Binds.map E_paths_Bind.d)), (33, .int .i64 (a0.Binds.length : Int)), (34, .int .i64 z.2.2)], [(1, .blk 3 [.int .i64 a1]), (2, .blk 35 (w14 false false 0 0 false false 0 0 false false 0 0 false false 0 0 0 ([] : List T_paths_Bind))), (4, .blk 35 (w15 x13.Up x13.Dead x13.Bytes x13.Ticks x14.Up x14.Dead x14.Bytes x14.Ticks x15.Up x15.Dead x15.Bytes x15.Ticks x16.Up x16.Dead x16.Bytes x16.Ticks x1.2.2.2.2.2.2.2.2.2.2.2.2.2.2.2.2.1 (.osl 3 E_paths_Bind.sz x1.2.2.2.2.2.2.2.2.2.2.2.2.2.2.2.2.2.length))), (26, .tail 3 (eInt .i64).sz z.2.1.length), (3, .blk 86 (D.flat (x1.2.2.2.2.2.2.2.2.2.2.2.2.2.2.2.2.2.map E_paths_Bind.d)))]⟩) (fun z => paths_Fall_L0 a0 a1 x1 x13 x14 x15 x16 z.1 z.2.1 z.2.2 = some r) (fun z => z.1) (fuel, ([] : (List Int)), 0) (fun i => if i = 26 then 81 else i) ⟨(.s rfl rfl (.s rfl rfl (.s rfl rfl (.cons (.nils rfl) (.sames rfl rfl))))), (.cons (.blk rfl rfl rfl) (.cons (.blk rfl rfl rfl) (.cons (.blk rfl rfl rfl) (.cons (.nils rfl) (.cons (EntW.lst rfl) .nil))))), nd_of [1, 2, 4, 81, 3] rfl (by decide), (fun i hi => by first | rfl | (show (if _ then _ else _) = _; (repeat' split) <;> omega))⟩ ?_ ?_
  ·exact h
  ·
   rintro ⟨n0, v25, v26⟩ h
   cases n0 with
   | zero => exact absurd h (by unfold paths_Fall_L0; exact nofun)
   | succ n0 =>
    unfold paths_Fall_L0 at h
    obtain ⟨x35, hx35, h⟩ := bnd_e h
    refine iwp_reg (ils_cons rfl (iop_cmpx rfl rfl (lb rfl) (svI rfl) (svI rfl) rfl hx35) <|
     ils_end ?_)
    refine iwp_seq ?_
    refine iwp_cond (b := _) rfl (fun hc36 => ?_) (fun hc36 => ?_)
    ·
     replace h := bif_t h hc36
     refine iwp_skip ?_
     refine thenQ_n ?_
     refine iwp_seq ?_
     refine iwp_block ?_
     obtain ⟨x37, hx37, h⟩ := bno_e h
     refine iwp_reg (ils_cons rfl (iop_idxT E_paths_Bind (cs := q9) rfl rfl (lb rfl) Try.underlying33 ti86 (svL rfl) (svI rfl) hx37 rfl rfl) <|
      ils_cons rfl (iop_load_fa (cs := q9) rfl rfl (lb rfl) Try.underlying86 ag86 ti86 (by decide) (sv (d := .fptr q9) rfl) (nle rfl) rfl) <|
      ils_cons rfl (iop_allocS (cs := q9) (cs' := [.int .i64 0, .int .i64 0]) 27 rfl rfl (lb rfl) rfl ti86 rfl rfl (.all _)) <|
      ils_cons rfl (stA q9 q9 ti86 rfl rfl rfl rfl rfl rfl rfl rfl (nle rfl) rfl) <|
      ils_end ?_)
     obtain ⟨x38, hx38, h⟩ := bnd_e h
     refine iwp_reg (ils_cons rfl (faR 1 rfl rfl rfl Try.underlying86 rfl ti3 (lb rfl) rfl rfl) <|
      ils_cons rfl (iop_load_rs (d := .int _ _) rfl rfl (lb rfl) Try.underlying3 ag3 ti3 (by decide) (svR rfl) rfl (nle rfl) rfl) <|
      ils_cons rfl (iop_load_rs (d := .int _ _) rfl rfl (lb rfl) Try.underlying3 ag3 ti3 (by decide) (svR rfl) rfl (nle rfl) rfl) <|
      ils_cons rfl (iop_cmpx rfl rfl (lb rfl) (svI rfl) (svI rfl) rfl hx38) <|
      ils_end ?_)
     refine iwp_cond (b := _) rfl (fun hc39 => ?_) (fun hc39 => ?_)
     ·
      replace h := bif_t h hc39
      obtain ⟨x40, hx40, h⟩ := bno_e h
      refine iwp_region (ils_cons rfl (iop_move rfl rfl (lb rfl) (sv (d := .gsl _ _ _) rfl)) <|
       ils_cons rfl (faR 0 rfl rfl rfl Try.underlying86 rfl ti3 (lb rfl) rfl rfl) <|
       ils_cons rfl (iop_load_rs (d := .int _ _) rfl rfl (lb rfl) Try.underlying3 ag3 ti3 (by decide) (svR rfl) rfl (nle rfl) rfl) <|
       ils_cons rfl (iop_bsT (eInt .i64) ([x37.Stream] : (List Int)) 28 rfl rfl (lb rfl) Try.underlying41 ti3 rfl (.cons (svI rfl) .nil) rfl rfl (by decide)) <|
       ils_cons rfl (iop_appT (eInt .i64) 29 rfl rfl (lb rfl) Try.underlying41 ti3 rfl rfl rfl rfl (svg rfl) hx40) <|
       ils_cons rfl (iop_assign rfl rfl (lb rfl) (sv (d := .gsl _ _ _) rfl)) <|
       ils_nil ?_)
      refine blockQ_n ?_
      refine thenQ_n ?_
      obtain ⟨x41, hx41, h⟩ := bnd_e h
      refine iwp_region (ils_cons rfl (iop_intx rfl rfl (lb rfl) (svI rfl) (sv (d := .int _ 1) rfl) rfl hx41) <|
       ils_cons rfl (mvI rfl rfl rfl rfl) <|
       ils_nil ?_)
      refine thenQ_n ⟨(n0, x40, x41), (fun i => if i = 26 then 29 else i), ⟨(.sames rfl rfl), (.cons (.blk rfl rfl rfl) (.cons (.blk rfl rfl rfl) (.cons (.blk rfl rfl rfl) (.cons (.tail rfl) (.cons (EntW.lst rfl) .nil))))), nd_of [1, 2, 4, 29, 3] rfl (by decide), (fun i hi => by first | rfl | (show (if _ then _ else _) = _; (repeat' split) <;> omega))⟩, ?_, ?_⟩
      exact h
      exact Nat.lt_succ_self _
     ·
      replace h := bif_f h hc39
      refine iwp_skip ?_
      refine blockQ_n ?_
      refine thenQ_n ?_
      obtain ⟨x42, hx42, h⟩ := bnd_e h
      refine iwp_region (ils_cons rfl (iop_intx rfl rfl (lb rfl) (svI rfl) (sv (d := .int _ 1) rfl) rfl hx42) <|
       ils_cons rfl (mvI rfl rfl rfl rfl) <|
       ils_nil ?_)
      refine thenQ_n ⟨(n0, v25, x42), (fun i => i), ⟨(.sames rfl rfl), (.cons (.blk rfl rfl rfl) (.cons (.blk rfl rfl rfl) (.cons (.blk rfl rfl rfl) (.cons (.tail rfl) (.cons (EntW.lst rfl) .nil))))), nd_of [1, 2, 4, 26, 3] rfl (by decide), fun _ _ => rfl⟩, ?_, ?_⟩
      exact h
      exact Nat.lt_succ_self _
    ·
     replace h := bif_f h hc36
     refine iwp_exit ?_
     refine thenQ_e ?_
     refine thenQ_e ?_
     refine blockQ_e ?_
     refine thenQ_n ?_
     obtain ⟨x43, hx43, h⟩ := bno_e h
     refine iwp_reg (ils_cons rfl (faR 17 rfl rfl rfl Try.underlying35 rfl ti33 (lb rfl) rfl rfl) <|
      ils_cons rfl (iop_load_rs (d := .osl _ _ _) rfl rfl (lb rfl) Try.underlying33 ag33 ti33 (by decide) (svR rfl) rfl (nle rfl) rfl) <|
      ils_cons rfl (iop_makeFunc rfl rfl (lb rfl) (.cons (svR rfl) .nil)) <|
      ils_cons rfl (iop_callh2 (r' := .osl 27 E_paths_Bind.sz x43.length) (H1' := [(1, .blk 3 [.int .i64 a1]), (27, .blk 86 (D.flat (x43.map E_paths_Bind.d)))]) 27 [3, 1] rfl rfl (lb rfl) cl44 (.cons (sv (d := .osl _ _ _) rfl) (.cons (sv (d := .fn 45 [.ref _ _]) rfl) .nil)) rfl rfl ⟨rfl, rfl, by decide, rfl, List.forall_mem_cons.2 ⟨⟨rfl, rfl, (handL E_paths_Bind rfl), (handLr E_paths_Bind)⟩, List.forall_mem_cons.2 ⟨⟨rfl, rfl, rfl, rfl⟩, List.forall_mem_nil _⟩⟩⟩ (p_slices_DeleteFunc_paths_Bind_paths_Bind_h_Fall_1 _ _ _ hx43) rfl rfl (List.forall_mem_cons.2 ⟨⟨rfl, rfl⟩, List.forall_mem_cons.2 ⟨⟨rfl, (handLr E_paths_Bind)⟩, List.forall_mem_nil _⟩⟩) (by simp only [List.map_cons, List.map_nil, Ent.ren, renL_flat, renL_ref]; rfl)) <|
      ils_cons rfl (faR 17 rfl rfl rfl Try.underlying35 rfl ti33 (lb rfl) rfl rfl) <|
      ils_cons rfl (iop_store (ds' := q4) rfl rfl ti33 (svR rfl) rfl (sv (d := .osl _ _ _) rfl) rfl rfl rfl (nle rfl) rfl) <|
      ils_end ?_)
     refine iwp_join (α := Int) (fun z => ⟨[(4, .ref 2 0), (7, .ref 4 0), (8, .gsl 26 (eInt .i64).sz (v25.map (eInt .i64).d))], [(2, .blk 35 (w14 false false 0 0 false false 0 0 false false 0 0 false false 0 0 0 ([] : List T_paths_Bind))), (4, .blk 35 (w15 x13.Up x13.Dead x13.Bytes x13.Ticks x14.Up x14.Dead x14.Bytes x14.Ticks x15.Up x15.Dead x15.Bytes x15.Ticks x16.Up x16.Dead x16.Bytes x16.Ticks z (.osl 27 E_paths_Bind.sz x43.length))), (26, .tail 3 (eInt .i64).sz v25.length), (27, .blk 86 (D.flat (x43.map E_paths_Bind.d)))]⟩) (fun z => paths_Fall_J1 x13 x14 x15 x16 v25 x43 z = some r) ?_ ?_
     ·
      obtain ⟨x47, hx47, h⟩ := bnd_e h
      refine iwp_reg (ils_cons rfl (faR 16 rfl rfl rfl Try.underlying35 rfl ti3 (lb rfl) rfl rfl) <|
       ils_cons rfl (iop_load_rs (d := .int _ _) rfl rfl (lb rfl) Try.underlying3 ag3 ti3 (by decide) (svR rfl) rfl (nle rfl) rfl) <|
       ils_cons rfl (iop_load_rs (d := .int _ _) rfl rfl (lb rfl) Try.underlying3 ag3 ti3 (by decide) (svR rfl) rfl (nle rfl) rfl) <|
       ils_cons rfl (iop_cmpx rfl rfl (lb rfl) (svI rfl) (svI rfl) rfl hx47) <|
       ils_end ?_)
      refine iwp_cond (b := _) rfl (fun hc48 => ?_) (fun hc48 => ?_)
      ·
       replace h := bif_t h hc48
       refine iwp_region (ils_cons rfl (faR 16 rfl rfl rfl Try.underlying35 rfl ti3 (lb rfl) rfl rfl) <|
        ils_cons rfl (iop_store (ds' := q4) rfl rfl ti3 (svR rfl) rfl (sv (d := .int _ (-1)) rfl) rfl rfl rfl (nle rfl) rfl) <|
        ils_nil ?_)
       refine thenQ_n ⟨(-1), (fun i => i), ⟨(.sames rfl rfl), (.cons (.blk rfl rfl rfl) (.cons (.blk rfl rfl rfl) (.cons (.tail rfl) (.cons (EntW.lst rfl) .nil)))), nd_of [2, 4, 26, 27] rfl (by decide), fun _ _ => rfl⟩, ?_⟩
       exact h
      ·
       replace h := bif_f h hc48
       refine iwp_skip ?_
       refine thenQ_n ⟨x1.2.2.2.2.2.2.2.2.2.2.2.2.2.2.2.2.1, (fun i => i), ⟨(.sames rfl rfl), (.cons (.blk rfl rfl rfl) (.cons (.blk rfl rfl rfl) (.cons (.tail rfl) (.cons (EntW.lst rfl) .nil)))), nd_of [2, 4, 26, 27] rfl (by decide), fun _ _ => rfl⟩, ?_⟩
       exact h
     ·
      rintro v46 h
      unfold paths_Fall_J1 at h
      refine iwp_reg (ils_cons rfl (lra q4 la35 rfl rfl rfl rfl rfl (nle rfl) rfl) <|
       ils_cons rfl (iop_move rfl rfl (lb rfl) (sv (d := .gsl _ _ _) rfl)) <|
       ils_cons rfl (stA q4 q4 ti35 rfl rfl rfl rfl rfl rfl rfl rfl (nle rfl) rfl) <|
       ils_cons rfl (iop_assign rfl rfl (lb rfl) (sv (d := .gsl _ _ _) rfl)) <|
       ils_cons rfl (iop_assign rfl rfl (lb rfl) (sv (d := .bool true) rfl)) <|
       ils_end ?_)
      refine iwp_ret ?_
      obtain rfl := Option.some.inj h
      refine ⟨.inr rfl, _, (.cons (rva la35 rfl rfl (nle rfl) rfl) (.cons (sv rfl) (.cons (sv rfl) .nil))), (.cons (.agg (.k4 (.k (.k4 (.k (.k4 (.k (.k (.k (.cons (FDT E_paths_Bind rfl rfl) .nil)))))))))) (.cons (.gsl _ _ _) (.all _)))⟩

theorem p_paths_Free_1 (a0 : T_paths_Bind) (a1 : Int) (r : Bool) (h : paths_Free_1 a0 a1 = some r) : PureAt Try.prog 51 [.agg [.int .i64 a0.Stream, .int .i64 a0.Path], .fptr [.int .i64 a1]] (.bool r) := by
 refine pure_of_iwp (rs := [.bool r]) Try.func51 rfl Try.ntmps51 (nle rfl) rfl fun O hO => ?_
 show IWP _ _ _ _ ⟨[(0, .agg [.int .i64 a0.Stream, .int .i64 a0.Path]), (1, .fptr [.int .i64 a1])], []⟩ _
 unfold paths_Free_1 at h
 refine iwp_reg (ils_cons rfl (iop_box' (cs := q9) 0 rfl rfl (lb rfl) rfl (svA q9 rfl) rfl rfl) <|
  ils_cons rfl (iop_assign rfl rfl (lb rfl) (sv (d := .bool false) rfl)) <|
  ils_end ?_)
 obtain ⟨x1, hx1, h⟩ := bnd_e h
 refine iwp_reg (ils_cons rfl (faR 0 rfl rfl rfl Try.underlying86 rfl ti3 (lb rfl) rfl rfl) <|
  ils_cons rfl (iop_load_rs (d := .int _ _) rfl rfl (lb rfl) Try.underlying3 ag3 ti3 (by decide) (svR rfl) rfl (nle rfl) rfl) <|
  ils_cons rfl (iop_load_fs rfl rfl (lb rfl) Try.underlying3 ag3 ti3 (by decide) (sv (d := .fptr [.int _ _]) rfl) (nle rfl)) <|
  ils_cons rfl (iop_cmpx rfl rfl (lb rfl) (svI rfl) (svI rfl) rfl hx1) <|
  ils_cons rfl (asB rfl rfl rfl rfl) <|
  ils_end ?_)
 refine iwp_ret ?_
 obtain rfl := Option.some.inj h
 refine ⟨.inr rfl, (.cons (sv rfl) .nil)⟩

theorem p_slices_IndexFunc_paths_Bind_paths_Bind_Free_1 (a0 : (List T_paths_Bind)) (a1 : Int) (r : Int) (h : slices_IndexFunc_paths_Bind_paths_Bind_Free_1 a0 a1 = some r) : PureAt Try.prog 65 [.slice false (a0.map E_paths_Bind.d), .fn 51 [.fptr [.int .i64 a1]]] (.int .i64 r) := by
 refine pure_of_iwp (rs := [.int .i64 r]) Try.func65 rfl Try.ntmps65 (nle rfl) rfl fun O hO => ?_
 show IWP _ _ _ _ ⟨[(0, .slice false (a0.map E_paths_Bind.d)), (1, .fn 51 [.fptr [.int .i64 a1]])], []⟩ _
 unfold slices_IndexFunc_paths_Bind_paths_Bind_Free_1 at h
 refine iwp_reg (ils_cons rfl (iop_assign rfl rfl (lb rfl) (sv (d := .int _ 0) rfl)) <|
  ils_end ?_)
 refine iwp_seq ?_
 refine iwp_reg (ils_cons rfl (mvL rfl rfl rfl rfl) <|
  ils_cons rfl (iop_lenT E_paths_Bind (l := a0) rfl rfl (lb rfl) Try.underlying33 (svL rfl)) <|
  ils_cons rfl (iop_move rfl rfl (lb rfl) (sv (d := .int _ 0) rfl)) <|
  ils_end ?_)
 refine iwp_block ?_
 refine iwp_loopP (α := Nat × Int) (fun z => ⟨[(0, .slice false (a0.map E_paths_Bind.d)), (1, .fn 51 [.fptr [.int .i64 a1]]), (7, .int .i64 (a0.length : Int)), (8, .int .i64 z.2)], []⟩) (fun z => slices_IndexFunc_paths_Bind_paths_Bind_Free_1_L0 a0 a1 z.1 z.2 = some r) (fun z => z.1) (fuel, 0) (fun i => i) ⟨(.sames rfl rfl), .nil, nd_of [] rfl (by decide), fun _ _ => rfl⟩ ?_ ?_
 ·exact h
 ·
  rintro ⟨n0, v7⟩ h
  cases n0 with
  | zero => exact absurd h (by unfold slices_IndexFunc_paths_Bind_paths_Bind_Free_1_L0; exact nofun)
  | succ n0 =>
   unfold slices_IndexFunc_paths_Bind_paths_Bind_Free_1_L0 at h
   obtain ⟨x14, hx14, h⟩ := bnd_e h
   refine iwp_reg (ils_cons rfl (iop_cmpx rfl rfl (lb rfl) (svI rfl) (svI rfl) rfl hx14) <|
    ils_end ?_)
   refine iwp_seq ?_
   refine iwp_cond (b := _) rfl (fun hc15 => ?_) (fun hc15 => ?_)
   ·
    replace h := bif_t h hc15
    refine iwp_skip ?_
    refine thenQ_n ?_
    refine iwp_seq ?_
    refine iwp_block ?_
    refine iwp_reg (ils_cons rfl (mvI rfl rfl rfl rfl) <|
     ils_cons rfl (asI rfl rfl rfl rfl) <|
     ils_end ?_)
    obtain ⟨x16, hx16, h⟩ := bno_e h
    obtain ⟨x17, hx17, h⟩ := bno_e h
    refine iwp_reg (ils_cons rfl (iop_move rfl rfl (lb rfl) (sv (d := .fn 51 [.fptr [.int _ _]]) rfl)) <|
     ils_cons rfl (mvL rfl rfl rfl rfl) <|
     ils_cons rfl (mvI rfl rfl rfl rfl) <|
     ils_cons rfl (iop_idxT E_paths_Bind (cs := q9) rfl rfl (lb rfl) Try.underlying33 ti86 (svL rfl) (svI rfl) hx16 rfl rfl) <|
     ils_cons rfl (iop_load_fa (cs := q9) rfl rfl (lb rfl) Try.underlying86 ag86 ti86 (by decide) (sv (d := .fptr q9) rfl) (nle rfl) rfl) <|
     ils_cons rfl (iop_callv (r := .bool _) rfl rfl (lb rfl) cl51 (sv (d := .fn 51 [.fptr [.int _ _]]) rfl) (.cons (svA q9 rfl) .nil) rfl (p_paths_Free_1 _ _ _ hx17)) <|
     ils_end ?_)
    refine iwp_cond (b := _) rfl (fun hc18 => ?_) (fun hc18 => ?_)
    ·
     replace h := bif_t h hc18
     refine iwp_reg (ils_cons rfl (mvI rfl rfl rfl rfl) <|
      ils_cons rfl (asI rfl rfl rfl rfl) <|
      ils_end ?_)
     refine iwp_ret ?_
     refine blockQ_r ?_
     refine thenQ_r ?_
     refine thenQ_r ?_
     refine blockQ_r ?_
     refine thenQ_r ?_
     obtain rfl := Option.some.inj h
     refine ⟨.inr rfl, (.cons (sv rfl) .nil)⟩
    ·
     replace h := bif_f h hc18
     refine iwp_skip ?_
     refine blockQ_n ?_
     refine thenQ_n ?_
     obtain ⟨x19, hx19, h⟩ := bnd_e h
     refine iwp_region (ils_cons rfl (iop_intx rfl rfl (lb rfl) (svI rfl) (sv (d := .int _ 1) rfl) rfl hx19) <|
      ils_cons rfl (mvI rfl rfl rfl rfl) <|
      ils_nil ?_)
     refine thenQ_n ⟨(n0, x19), (fun i => i), ⟨(.sames rfl rfl), .nil, nd_of [] rfl (by decide), fun _ _ => rfl⟩, ?_, ?_⟩
     exact h
     exact Nat.lt_succ_self _
   ·
    replace h := bif_f h hc15
    refine iwp_exit ?_
    refine thenQ_e ?_
    refine thenQ_e ?_
    refine blockQ_e ?_
    refine thenQ_n ?_
    refine iwp_reg (ils_cons rfl (iop_assign rfl rfl (lb rfl) (sv (d := .int _ (-1)) rfl)) <|
     ils_end ?_)
    refine iwp_ret ?_
    obtain rfl := Option.some.inj h
    refine ⟨.inr rfl, (.cons (sv rfl) .nil)⟩

theorem p_slices_DeleteFunc_paths_Bind_paths_Bind_h_Free_1 (a0 : (List T_paths_Bind)) (a1 : Int) (r : (List T_paths_Bind)) (h : slices_DeleteFunc_paths_Bind_paths_Bind_h_Free_1 a0 a1 = some r) : FnH Try.prog 44 [.osl 1000 E_paths_Bind.sz a0.length, .fn 51 [.ref 1001 0]] [(1000, .blk 86 (D.flat (a0.map E_paths_Bind.d))), (1001, .blk 3 [.int .i64 a1])] (.osl 0 E_paths_Bind.sz r.length) [(1001, .blk 3 [.int .i64 a1]), (0, .blk 86 (D.flat (r.map E_paths_Bind.d)))] := by
 refine fnh_of_iwp (rs := [.osl 0 E_paths_Bind.sz r.length]) Try.func44 rfl Try.ntmps44 (nle rfl) fun O hO => ?_
 show IWP _ _ _ _ ⟨[(0, .osl 1000 E_paths_Bind.sz a0.length), (1, .fn 51 [.ref 1001 0])], [(1000, .blk 86 (D.flat (a0.map E_paths_Bind.d))), (1001, .blk 3 [.int .i64 a1])]⟩ _
 unfold slices_DeleteFunc_paths_Bind_paths_Bind_h_Free_1 at h
 refine iwp_reg (ils_cons rfl (iop_assign rfl rfl (lb rfl) (sv (d := .nils) rfl)) <|
  ils_end ?_)
 obtain ⟨x1, hx1, h⟩ := bno_e h
 refine iwp_reg (ils_cons rfl (iop_move rfl rfl (lb rfl) (sv (d := .osl _ _ _) rfl)) <|
  ils_cons rfl (iop_move rfl rfl (lb rfl) (sv (d := .fn 51 [.ref _ _]) rfl)) <|
  ils_cons rfl (iop_callp (r := .int .i64 x1) rfl rfl (lb rfl) cl65 (.cons (sv (d := .osl _ _ _) rfl) (.cons (sv (d := .fn 51 [.ref _ _]) rfl) .nil)) (.cons (FDT E_paths_Bind rfl rfl) (.cons (.fn (.cons (.ref rfl rfl (fdl_refl _) rfl) .nil)) .nil)) rfl rfl (p_slices_IndexFunc_paths_Bind_paths_Bind_Free_1 _ _ _ hx1)) <|
  ils_cons rfl (asI rfl rfl rfl rfl) <|
  ils_end ?_)
 refine iwp_seq ?_
 obtain ⟨x2, hx2, h⟩ := bnd_e h
 refine iwp_reg (ils_cons rfl (mvI rfl rfl rfl rfl) <|
  ils_cons rfl (iop_cmpx rfl rfl (lb rfl) (svI rfl) (sv (d := .int _ (-1)) rfl) rfl hx2) <|
  ils_end ?_)
 refine iwp_cond (b := _) rfl (fun hc3 => ?_) (fun hc3 => ?_)
 ·
  replace h := bif_t h hc3
  refine iwp_reg (ils_cons rfl (iop_move rfl rfl (lb rfl) (sv (d := .osl _ _ _) rfl)) <|
   ils_cons rfl (iop_assign rfl rfl (lb rfl) (sv (d := .osl _ _ _) rfl)) <|
   ils_end ?_)
  refine iwp_ret ?_
  refine thenQ_r ?_
  obtain rfl := Option.some.inj h
  refine ⟨.inr rfl, (fun i => if i = 0 then 1000 else i), ⟨.nil, (.cons (.blk rfl rfl rfl) (.cons (EntW.lst rfl) .nil)), nd_of [1001, 1000] rfl (by decide), (fun i hi => by first | rfl | (show (if _ then _ else _) = _; (repeat' split) <;> omega))⟩, (.cons (sv rfl) .nil), rfl⟩
 ·
  replace h := bif_f h hc3
  refine iwp_skip ?_
  refine thenQ_n ?_
  refine iwp_seq ?_
  obtain ⟨x4, hx4, h⟩ := bnd_e h
  refine iwp_reg (ils_cons rfl (mvI rfl rfl rfl rfl) <|
   ils_cons rfl (iop_intx rfl rfl (lb rfl) (svI rfl) (sv (d := .int _ 1) rfl) rfl hx4) <|
   ils_cons rfl (asI rfl rfl rfl rfl) <|
   ils_end ?_)
  refine iwp_block ?_
  refine iwp_loopP (α := Nat × (List T_paths_Bind) × Int × Int) (fun z => ⟨[(0, .osl 1000 E_paths_Bind.sz z.2.1.length), (1, .fn 51 [.ref 1001 0]), (5, .int .i64 z.2.2.1), (6, .int .i64 z.2.2.2)], [(1000, .blk 86 (D.flat (z.2.1.map E_paths_Bind.d))), (1001, .blk 3 [.int .i64 a1])]⟩) (fun z => slices_DeleteFunc_paths_Bind_paths_Bind_h_Free_1_L0 a1 z.1 z.2.1 z.2.2.1 z.2.2.2 = some r) (fun z => z.1) (fuel, a0, x1, x4) (fun i => i) ⟨(.sames rfl rfl), (.cons (EntW.lst rfl) (.cons (.blk rfl rfl rfl) .nil)), nd_of [1000, 1001] rfl (by decide), fun _ _ => rfl⟩ ?_ ?_
  ·exact h
  ·
   rintro ⟨n0, v17, v18, v19⟩ h
   cases n0 with
   | zero => exact absurd h (by unfold slices_DeleteFunc_paths_Bind_paths_Bind_h_Free_1_L0; exact nofun)
   | succ n0 =>
    unfold slices_DeleteFunc_paths_Bind_paths_Bind_h_Free_1_L0 at h
    refine iwp_seq ?_
    obtain ⟨x32, hx32, h⟩ := bnd_e h
    refine iwp_reg (ils_cons rfl (mvI rfl rfl rfl rfl) <|
     ils_cons rfl (iop_move rfl rfl (lb rfl) (sv (d := .osl _ _ _) rfl)) <|
     ils_cons rfl (iop_lenO rfl rfl (lb rfl) Try.underlying33 (sv (d := .osl _ _ _) rfl)) <|
     ils_cons rfl (iop_cmpx rfl rfl (lb rfl) (svI rfl) (svI rfl) rfl hx32) <|
     ils_end ?_)
    refine iwp_cond (b := _) rfl (fun hc33 => ?_) (fun hc33 => ?_)
    ·
     replace h := bif_t h hc33
     refine iwp_skip ?_
     refine thenQ_n ?_
     refine iwp_seq ?_
     refine iwp_block ?_
     obtain ⟨x34, hx34, h⟩ := bno_e h
     obtain ⟨x35, hx35, h⟩ := bno_e h
     refine iwp_reg (ils_cons rfl (iop_move rfl rfl (lb rfl) (sv (d := .osl _ _ _) rfl)) <|
      ils_cons rfl (mvI rfl rfl rfl rfl) <|
      ils_cons rfl (iop_idxO E_paths_Bind.toEnc0 rfl rfl (lb rfl) Try.underlying33 ti86 (sv (d := .osl _ _ _) rfl) rfl (svI rfl) hx34) <|
      ils_cons rfl (iop_loadEa E_paths_Bind.toEnc0 (cs := q9) rfl rfl (lb rfl) Try.underlying86 ag86 ti86 (by decide) (svR rfl) rfl hx35 (nle rfl) rfl) <|
      ils_cons rfl (iop_allocS (cs := q9) (cs' := [.int .i64 0, .int .i64 0]) 0 rfl rfl (lb rfl) rfl ti86 rfl rfl (.all _)) <|
      ils_cons rfl (stA q9 q9 ti86 rfl rfl rfl rfl rfl rfl rfl rfl (nle rfl) rfl) <|
      ils_end ?_)
     obtain ⟨x36, hx36, h⟩ := bno_e h
     refine iwp_reg (ils_cons rfl (iop_move rfl rfl (lb rfl) (sv (d := .fn 51 [.ref _ _]) rfl)) <|
      ils_cons rfl (lra q9 la86 rfl rfl rfl rfl rfl (nle rfl) rfl) <|
      ils_cons rfl (iop_callvp (r := .bool x36) rfl rfl (lb rfl) cl51 (sv (d := .fn 51 [.ref _ _]) rfl) (.cons (svA q9 rfl) .nil) (.k (.cons (.ref rfl rfl (fdl_refl _) rfl) .nil)) rfl rfl (p_paths_Free_1 _ _ _ hx36)) <|
      ils_cons rfl (iop_not rfl rfl (lb rfl) (svB rfl)) <|
      ils_end ?_)
     refine iwp_cond (b := _) rfl (fun hc37 => ?_) (fun hc37 => ?_)
     ·
      replace h := bif_t h hc37
      obtain ⟨x38, hx38, h⟩ := bno_e h
      obtain ⟨x39, hx39, h⟩ := bno_e h
      obtain ⟨x40, hx40, h⟩ := bnd_e h
      refine iwp_reg (ils_cons rfl (iop_move rfl rfl (lb rfl) (sv (d := .osl _ _ _) rfl)) <|
       ils_cons rfl (mvI rfl rfl rfl rfl) <|
       ils_cons rfl (lra q9 la86 rfl rfl rfl rfl rfl (nle rfl) rfl) <|
       ils_cons rfl (iop_idxO E_paths_Bind.toEnc0 rfl rfl (lb rfl) Try.underlying33 ti86 (sv (d := .osl _ _ _) rfl) rfl (svI rfl) hx38) <|
       ils_cons rfl (iop_storeE E_paths_Bind.toEnc0 (a' := x35) rfl rfl ti86 (svR rfl) rfl (svA q9 rfl) rfl rfl rfl hx39 (nle rfl) rfl hx40) <|
       ils_end ?_)
      obtain ⟨x41, hx41, h⟩ := bnd_e h
      refine iwp_region (ils_cons rfl (mvI rfl rfl rfl rfl) <|
       ils_cons rfl (iop_intx rfl rfl (lb rfl) (svI rfl) (sv (d := .int _ 1) rfl) rfl hx41) <|
       ils_cons rfl (asI rfl rfl rfl rfl) <|
       ils_nil ?_)
      refine blockQ_n ?_
      refine thenQ_n ?_
      obtain ⟨x42, hx42, h⟩ := bnd_e h
      refine iwp_region (ils_cons rfl (mvI rfl rfl rfl rfl) <|
       ils_cons rfl (iop_intx rfl rfl (lb rfl) (svI rfl) (sv (d := .int _ 1) rfl) rfl hx42) <|
       ils_cons rfl (asI rfl rfl rfl rfl) <|
       ils_nil ?_)
      refine thenQ_n ⟨(n0, x40, x41, x42), (fun i => i), ⟨(.cons (.same (congrArg (D.osl _ _) (len_set hx40 rfl).symm) rfl) (.sames rfl rfl)), (.cons (EntW.lst rfl) (.cons (.blk rfl rfl rfl) .nil)), nd_of [1000, 1001] rfl (by decide), fun _ _ => rfl⟩, ?_, ?_⟩
      exact h
      exact Nat.lt_succ_self _
     ·
      replace h := bif_f h hc37
      refine iwp_skip ?_
      refine blockQ_n ?_
      refine thenQ_n ?_
      obtain ⟨x43, hx43, h⟩ := bnd_e h
      refine iwp_region (ils_cons rfl (mvI rfl rfl rfl rfl) <|
       ils_cons rfl (iop_intx rfl rfl (lb rfl) (svI rfl) (sv (d := .int _ 1) rfl) rfl hx43) <|
       ils_cons rfl (asI rfl rfl rfl rfl) <|
       ils_nil ?_)
      refine thenQ_n ⟨(n0, v17, v18, x43), (fun i => i), ⟨(.sames rfl rfl), (.cons (EntW.lst rfl) (.cons (.blk rfl rfl rfl) .nil)), nd_of [1000, 1001] rfl (by decide), fun _ _ => rfl⟩, ?_, ?_⟩
      exact h
      exact Nat.lt_succ_self _
    ·
     replace h := bif_f h hc33
     refine iwp_exit ?_
     refine thenQ_e ?_
     refine thenQ_e ?_
     refine blockQ_e ?_
     refine thenQ_n ?_
     obtain ⟨x44, hx44, h⟩ := bno_e h
     refine iwp_reg (ils_cons rfl (iop_move rfl rfl (lb rfl) (sv (d := .osl _ _ _) rfl)) <|
      ils_cons rfl (mvI rfl rfl rfl rfl) <|
      ils_clrtail E_paths_Bind.toEnc0 rfl rfl rfl rfl (by decide) rfl rfl Try.underlying33 ti86 rfl rfl rfl rfl rfl (fun S1 h9 => sv ((h9 37 (by decide)).trans rfl)) hx44 <|
      ils_end ?_)
     obtain ⟨x45, hx45, h⟩ := bno_e h
     refine iwp_reg (ils_cons rfl (iop_move rfl rfl (lb rfl) (sv (d := .osl _ _ _) rfl)) <|
      ils_cons rfl (mvI rfl rfl rfl rfl) <|
      ils_cons rfl (iop_truncO E_paths_Bind.toEnc0 rfl rfl (lb rfl) Try.underlying33 ti86 (sv (d := .osl _ _ _) rfl) rfl (Nat.le_trans (cut_le hx44) (Nat.le_of_eq rfl)) (svI rfl) hx45) <|
      ils_cons rfl (iop_assign rfl rfl (lb rfl) (sv (d := .osl _ _ _) rfl)) <|
      ils_end ?_)
     refine iwp_ret ?_
     obtain rfl := Option.some.inj h
     refine ⟨.inr rfl, (fun i => if i = 0 then 1000 else i), ⟨.nil, (.cons (.blk rfl rfl rfl) (.cons (EntW.lst rfl) .nil)), nd_of [1001, 1000] rfl (by decide), (fun i hi => by first | rfl | (show (if _ then _ else _) = _; (repeat' split) <;> omega))⟩, (.cons (sv rfl) .nil), rfl⟩

theorem p_paths_Free (a0 : T_paths_State) (a1 : Int) (r : T_paths_State) (h : paths_Free a0 a1 = some r) : PureAt Try.prog 23 [.agg (v0 a0), .int .i64 a1] (.agg (v0 r)) := by
 refine pure_of_iwpF (rs := [.agg (v0 r)]) Try.func23 rfl Try.ntmps23 (nle rfl) rfl fun O hO => ?_
 show IWP _ _ _ _ ⟨[(0, .agg (v0 a0)), (1, .int .i64 a1)], []⟩ _
 unfold paths_Free at h
 refine iwp_reg (ils_cons rfl (iop_box' (cs := q3) 0 rfl rfl (lb rfl) rfl (svA q3 rfl) rfl rfl) <|
  ils_cons rfl (iop_box' (cs := [.int _ _]) 1 rfl rfl (lb rfl) rfl (svI rfl) rfl rfl) <|
  ils_cons rfl (iop_allocS (cs := q5) (cs' := (w14 false false 0 0 false false 0 0 false false 0 0 false false 0 0 0 ([] : List T_paths_Bind))) 2 rfl rfl (lb rfl) rfl ti35 rfl rfl (.k4 (.k (.k4 (.k (.k4 (.k (.k (.k (.cons (.nils _) .nil)))))))))) <|
  ils_end ?_)
 obtain ⟨x1, hx1, h⟩ := bno_e h
 refine iwp_reg (ils_cons rfl (lra q3 la35 rfl rfl rfl rfl rfl (nle rfl) rfl) <|
  ils_cons rfl (iop_callh2 (r' := .agg (w15 x1.1 x1.2.1 x1.2.2.1 x1.2.2.2.1 x1.2.2.2.2.1 x1.2.2.2.2.2.1 x1.2.2.2.2.2.2.1 x1.2.2.2.2.2.2.2.1 x1.2.2.2.2.2.2.2.2.1 x1.2.2.2.2.2.2.2.2.2.1 x1.2.2.2.2.2.2.2.2.2.2.1 x1.2.2.2.2.2.2.2.2.2.2.2.1 x1.2.2.2.2.2.2.2.2.2.2.2.2.1 x1.2.2.2.2.2.2.2.2.2.2.2.2.2.1 x1.2.2.2.2.2.2.2.2.2.2.2.2.2.2.1 x1.2.2.2.2.2.2.2.2.2.2.2.2.2.2.2.1 x1.2.2.2.2.2.2.2.2.2.2.2.2.2.2.2.2.1 (.osl 3 E_paths_Bind.sz x1.2.2.2.2.2.2.2.2.2.2.2.2.2.2.2.2.2.length))) (H1' := [(3, .blk 86 (D.flat (x1.2.2.2.2.2.2.2.2.2.2.2.2.2.2.2.2.2.map E_paths_Bind.d)))]) 3 [] rfl rfl (lb rfl) cl40 (.cons (svA q3 rfl) .nil) rfl rfl ⟨rfl, rfl, by decide, rfl, List.forall_mem_nil _⟩ (p_paths_State_own_h _ _ hx1) rfl rfl (List.forall_mem_cons.2 ⟨⟨rfl, (handLr E_paths_Bind)⟩, List.forall_mem_nil _⟩) (by simp only [List.map_cons, List.map_nil, Ent.ren, renL_flat, renL_ref]; rfl)) <|
  ils_cons rfl (iop_allocS (cs := q5) (cs' := (w14 false false 0 0 false false 0 0 false false 0 0 false false 0 0 0 ([] : List T_paths_Bind))) 4 rfl rfl (lb rfl) rfl ti35 rfl rfl (.k4 (.k (.k4 (.k (.k4 (.k (.k (.k (.cons (.nils _) .nil)))))))))) <|
  ils_cons rfl (stA q4 q4 ti35 rfl rfl rfl rfl rfl rfl rfl rfl (nle rfl) rfl) <|
  ils_end ?_)
 refine iwp_seq ?_
 obtain ⟨x2, hx2, h⟩ := bno_e h
 obtain ⟨x3, hx3, h⟩ := bnd_e h
 refine iwp_reg (ils_cons rfl (lra q3 la35 rfl rfl rfl rfl rfl (nle rfl) rfl) <|
  ils_cons rfl (iop_call (r := .int _ _) rfl rfl (lb rfl) cl28 (.cons (svA q3 rfl) .nil) rfl (p_paths_Check _ _ hx2)) <|
  ils_cons rfl (iop_cmpx rfl rfl (lb rfl) (svI rfl) (sv (d := .int _ 0) rfl) rfl hx3) <|
  ils_end ?_)
 refine iwp_cond (b := _) rfl (fun hc4 => ?_) (fun hc4 => ?_)
 ·
  replace h := bif_t h hc4
  obtain ⟨x5, hx5, h⟩ := bno_e h
  refine iwp_region (ils_cons rfl (faR 17 rfl rfl rfl Try.underlying35 rfl ti33 (lb rfl) rfl rfl) <|
   ils_cons rfl (iop_load_rs (d := .osl _ _ _) rfl rfl (lb rfl) Try.underlying33 ag33 ti33 (by decide) (svR rfl) rfl (nle rfl) rfl) <|
   ils_cons rfl (iop_makeFunc rfl rfl (lb rfl) (.cons (svR rfl) .nil)) <|
   ils_cons rfl (iop_callh2 (r' := .osl 5 E_paths_Bind.sz x5.length) (H1' := [(1, .blk 3 [.int .i64 a1]), (5, .blk 86 (D.flat (x5.map E_paths_Bind.d)))]) 5 [3, 1] rfl rfl (lb rfl) cl44 (.cons (sv (d := .osl _ _ _) rfl) (.cons (sv (d := .fn 51 [.ref _ _]) rfl) .nil)) rfl rfl ⟨rfl, rfl, by decide, rfl, List.forall_mem_cons.2 ⟨⟨rfl, rfl, (handL E_paths_Bind rfl), (handLr E_paths_Bind)⟩, List.forall_mem_cons.2 ⟨⟨rfl, rfl, rfl, rfl⟩, List.forall_mem_nil _⟩⟩⟩ (p_slices_DeleteFunc_paths_Bind_paths_Bind_h_Free_1 _ _ _ hx5) rfl rfl (List.forall_mem_cons.2 ⟨⟨rfl, rfl⟩, List.forall_mem_cons.2 ⟨⟨rfl, (handLr E_paths_Bind)⟩, List.forall_mem_nil _⟩⟩) (by simp only [List.map_cons, List.map_nil, Ent.ren, renL_flat, renL_ref]; rfl)) <|
   ils_cons rfl (faR 17 rfl rfl rfl Try.underlying35 rfl ti33 (lb rfl) rfl rfl) <|
   ils_cons rfl (iop_store (ds' := q4) rfl rfl ti33 (svR rfl) rfl (sv (d := .osl _ _ _) rfl) rfl rfl rfl (nle rfl) rfl) <|
   ils_nil ?_)
  refine thenQ_n ?_
  refine iwp_reg (ils_cons rfl (lra q4 la35 rfl rfl rfl rfl rfl (nle rfl) rfl) <|
   ils_cons rfl (stA q4 q4 ti35 rfl rfl rfl rfl rfl rfl rfl rfl (nle rfl) rfl) <|
   ils_end ?_)
  refine iwp_ret ?_
  obtain rfl := Option.some.inj h
  refine ⟨.inr rfl, _, (.cons (rva la35 rfl rfl (nle rfl) rfl) .nil), (.cons (.agg (.k4 (.k (.k4 (.k (.k4 (.k (.k (.k (.cons (FDT E_paths_Bind rfl rfl) .nil)))))))))) .nil)⟩
 ·
  replace h := bif_f h hc4
  refine iwp_skip ?_
  refine thenQ_n ?_
  refine iwp_reg (ils_cons rfl (lra q4 la35 rfl rfl rfl rfl rfl (nle rfl) rfl) <|
   ils_cons rfl (stA q4 q4 ti35 rfl rfl rfl rfl rfl rfl rfl rfl (nle rfl) rfl) <|
   ils_end ?_)
  refine iwp_ret ?_
  obtain rfl := Option.some.inj h
  refine ⟨.inr rfl, _, (.cons (rva la35 rfl rfl (nle rfl) rfl) .nil), (.cons (.agg (.k4 (.k (.k4 (.k (.k4 (.k (.k (.k (.cons (FDT E_paths_Bind rfl rfl) .nil)))))))))) .nil)⟩

theorem p_sennitref28_SameInts (a0 : (List Int)) (a1 : (List Int)) (r : Bool) (h : sennitref28_SameInts a0 a1 = some r) : PureAt Try.prog 20 [.slice false (a0.map (eInt .i64).d), .slice false (a1.map (eInt .i64).d)] (.bool r) := by
 refine pure_of_iwp (rs := [.bool r]) Try.func20 rfl Try.ntmps20 (nle rfl) rfl fun O hO => ?_
 show IWP _ _ _ _ ⟨[(0, .slice false (a0.map (eInt .i64).d)), (1, .slice false (a1.map (eInt .i64).d))], []⟩ _
 unfold sennitref28_SameInts at h
 refine iwp_reg (ils_cons rfl (iop_assign rfl rfl (lb rfl) (sv (d := .bool false) rfl)) <|
  ils_end ?_)
 refine iwp_seq ?_
 obtain ⟨x1, hx1, h⟩ := bnd_e h
 refine iwp_reg (ils_cons rfl (mvL rfl rfl rfl rfl) <|
  ils_cons rfl (iop_lenT (eInt .i64) (l := a0) rfl rfl (lb rfl) Try.underlying41 (svL rfl)) <|
  ils_cons rfl (mvL rfl rfl rfl rfl) <|
  ils_cons rfl (iop_lenT (eInt .i64) (l := a1) rfl rfl (lb rfl) Try.underlying41 (svL rfl)) <|
  ils_cons rfl (iop_cmpx rfl rfl (lb rfl) (svI rfl) (svI rfl) rfl hx1) <|
  ils_end ?_)
 refine iwp_cond (b := _) rfl (fun hc2 => ?_) (fun hc2 => ?_)
 ·
  replace h := bif_t h hc2
  refine iwp_reg (ils_cons rfl (iop_assign rfl rfl (lb rfl) (sv (d := .bool false) rfl)) <|
   ils_end ?_)
  refine iwp_ret ?_
  refine thenQ_r ?_
  obtain rfl := Option.some.inj h
  refine ⟨.inr rfl, (.cons (sv rfl) .nil)⟩
 ·
  replace h := bif_f h hc2
  refine iwp_skip ?_
  refine thenQ_n ?_
  refine iwp_seq ?_
  refine iwp_reg (ils_cons rfl (iop_assign rfl rfl (lb rfl) (sv (d := .int _ 0) rfl)) <|
   ils_end ?_)
  refine iwp_block ?_
  refine iwp_loopP (α := Nat × Int) (fun z => ⟨[(0, .slice false (a0.map (eInt .i64).d)), (1, .slice false (a1.map (eInt .i64).d)), (5, .int .i64 z.2)], []⟩) (fun z => sennitref28_SameInts_L0 a0 a1 z.1 z.2 = some r) (fun z => z.1) (fuel, 0) (fun i => i) ⟨(.sames rfl rfl), .nil, nd_of [] rfl (by decide), fun _ _ => rfl⟩ ?_ ?_
  ·exact h
  ·
   rintro ⟨n0, v10⟩ h
   cases n0 with
   | zero => exact absurd h (by unfold sennitref28_SameInts_L0; exact nofun)
   | succ n0 =>
    unfold sennitref28_SameInts_L0 at h
    refine iwp_seq ?_
    obtain ⟨x18, hx18, h⟩ := bnd_e h
    refine iwp_reg (ils_cons rfl (mvI rfl rfl rfl rfl) <|
     ils_cons rfl (mvL rfl rfl rfl rfl) <|
     ils_cons rfl (iop_lenT (eInt .i64) (l := a0) rfl rfl (lb rfl) Try.underlying41 (svL rfl)) <|
     ils_cons rfl (iop_cmpx rfl rfl (lb rfl) (svI rfl) (svI rfl) rfl hx18) <|
     ils_end ?_)
    refine iwp_cond (b := _) rfl (fun hc19 => ?_) (fun hc19 => ?_)
    ·
     replace h := bif_t h hc19
     refine iwp_skip ?_
     refine thenQ_n ?_
     refine iwp_seq ?_
     refine iwp_block ?_
     obtain ⟨x20, hx20, h⟩ := bno_e h
     obtain ⟨x21, hx21, h⟩ := bno_e h
     obtain ⟨x22, hx22, h⟩ := bnd_e h
     refine iwp_drw rfl [⟨[0], [], [(17, .slice false (a0.map (eInt .i64).d))], []⟩,
      ⟨[5], [], [(18, .int .i64 v10)], []⟩,
      ⟨[17, 18], [], [(19, .fptr [.int .i64 x20])], []⟩,
      ⟨[19], [], [(20, .int .i64 x20)], []⟩,
      ⟨[1], [], [(21, .slice false (a1.map (eInt .i64).d))], []⟩,
      ⟨[5], [], [(22, .int .i64 v10)], []⟩,
      ⟨[21, 22], [], [(23, .fptr [.int .i64 x21])], []⟩,
      ⟨[23], [], [(24, .int .i64 x21)], []⟩,
      ⟨[20, 24], [], [(25, .bool x22)], []⟩] rfl ?_ (by kernel_rfl) ?_
     ·refine .cons (lop rfl rfl fun S hA => (iop_move rfl rfl (lb rfl) (svaL hA rfl rfl))) ?_
      refine .cons (lop rfl rfl fun S hA => (iop_move rfl rfl (lb rfl) (svaI hA rfl rfl))) ?_
      refine .cons (lop rfl rfl fun S hA => (iop_idxT (eInt .i64) (cs := [.int _ _]) rfl rfl (lb rfl) Try.underlying41 ti3 (svaL hA rfl rfl) (svaI hA rfl rfl) hx20 rfl rfl)) ?_
      refine .cons (lop rfl rfl fun S hA => (iop_load_fs rfl rfl (lb rfl) Try.underlying3 ag3 ti3 (by decide) (sv (d := .fptr [.int _ _]) (agr hA rfl rfl)) (nle rfl))) ?_
      refine .cons (lop rfl rfl fun S hA => (iop_move rfl rfl (lb rfl) (svaL hA rfl rfl))) ?_
      refine .cons (lop rfl rfl fun S hA => (iop_move rfl rfl (lb rfl) (svaI hA rfl rfl))) ?_
      refine .cons (lop rfl rfl fun S hA => (iop_idxT (eInt .i64) (cs := [.int _ _]) rfl rfl (lb rfl) Try.underlying41 ti3 (svaL hA rfl rfl) (svaI hA rfl rfl) hx21 rfl rfl)) ?_
      refine .cons (lop rfl rfl fun S hA => (iop_load_fs rfl rfl (lb rfl) Try.underlying3 ag3 ti3 (by decide) (sv (d := .fptr [.int _ _]) (agr hA rfl rfl)) (nle rfl))) ?_
      refine .cons (lop rfl rfl fun S hA => (iop_cmpx rfl rfl (lb rfl) (svaI hA rfl rfl) (svaI hA rfl rfl) rfl hx22)) ?_
      exact .nil
     refine iwp_cond (b := _) rfl (fun hc23 => ?_) (fun hc23 => ?_)
     ·
      replace h := bif_t h hc23
      refine iwp_reg (ils_cons rfl (iop_assign rfl rfl (lb rfl) (sv (d := .bool false) rfl)) <|
       ils_end ?_)
      refine iwp_ret ?_
      refine blockQ_r ?_
      refine thenQ_r ?_
      refine thenQ_r ?_
      refine blockQ_r ?_
      refine thenQ_r ?_
      obtain rfl := Option.some.inj h
      refine ⟨.inr rfl, (.cons (sv rfl) .nil)⟩
     ·
      replace h := bif_f h hc23
      refine iwp_skip ?_
      refine blockQ_n ?_
      refine thenQ_n ?_
      obtain ⟨x24, hx24, h⟩ := bnd_e h
      refine iwp_region (ils_cons rfl (mvI rfl rfl rfl rfl) <|
       ils_cons rfl (iop_intx rfl rfl (lb rfl) (svI rfl) (sv (d := .int _ 1) rfl) rfl hx24) <|
       ils_cons rfl (asI rfl rfl rfl rfl) <|
       ils_nil ?_)
      refine thenQ_n ⟨(n0, x24), (fun i => i), ⟨(.sames rfl rfl), .nil, nd_of [] rfl (by decide), fun _ _ => rfl⟩, ?_, ?_⟩
      exact h
      exact Nat.lt_succ_self _
    ·
     replace h := bif_f h hc19
     refine iwp_exit ?_
     refine thenQ_e ?_
     refine thenQ_e ?_
     refine blockQ_e ?_
     refine thenQ_n ?_
     refine iwp_reg (ils_cons rfl (iop_assign rfl rfl (lb rfl) (sv (d := .bool true) rfl)) <|
      ils_end ?_)
     refine iwp_ret ?_
     obtain rfl := Option.some.inj h
     refine ⟨.inr rfl, (.cons (sv rfl) .nil)⟩

theorem p_paths_Best (a0 : T_paths_State) (r : Int) (h : paths_Best a0 = some r) : PureAt Try.prog 32 [.agg (v0 a0)] (.int .i64 r) := by
 refine pure_of_iwp (rs := [.int .i64 r]) Try.func32 rfl Try.ntmps32 (nle rfl) rfl fun O hO => ?_
 show IWP _ _ _ _ ⟨[(0, .agg (v0 a0))], []⟩ _
 unfold paths_Best at h
 refine iwp_reg (ils_cons rfl (iop_box' (cs := q3) 0 rfl rfl (lb rfl) rfl (svA q3 rfl) rfl rfl) <|
  ils_cons rfl (iop_assign rfl rfl (lb rfl) (sv (d := .int _ 0) rfl)) <|
  ils_end ?_)
 refine iwp_seq ?_
 obtain ⟨x1, hx1, h⟩ := bno_e h
 obtain ⟨x2, hx2, h⟩ := bnd_e h
 refine iwp_reg (ils_cons rfl (lra q3 la35 rfl rfl rfl rfl rfl (nle rfl) rfl) <|
  ils_cons rfl (iop_call (r := .int _ _) rfl rfl (lb rfl) cl28 (.cons (svA q3 rfl) .nil) rfl (p_paths_Check _ _ hx1)) <|
  ils_cons rfl (iop_cmpx rfl rfl (lb rfl) (svI rfl) (sv (d := .int _ 0) rfl) rfl hx2) <|
  ils_end ?_)
 refine iwp_cond (b := _) rfl (fun hc3 => ?_) (fun hc3 => ?_)
 ·
  replace h := bif_t h hc3
  refine iwp_reg (ils_cons rfl (iop_assign rfl rfl (lb rfl) (sv (d := .int _ (-1)) rfl)) <|
   ils_end ?_)
  refine iwp_ret ?_
  refine thenQ_r ?_
  obtain rfl := Option.some.inj h
  refine ⟨.inr rfl, (.cons (sv rfl) .nil)⟩
 ·
  replace h := bif_f h hc3
  refine iwp_skip ?_
  refine thenQ_n ?_
  obtain ⟨x4, hx4, h⟩ := bno_e h
  refine iwp_reg (ils_cons rfl (lra q3 la35 rfl rfl rfl rfl rfl (nle rfl) rfl) <|
   ils_cons rfl (iop_call (r := .int _ _) rfl rfl (lb rfl) cl48 (.cons (svA q3 rfl) .nil) rfl (p_paths_State_best _ _ hx4)) <|
   ils_cons rfl (asI rfl rfl rfl rfl) <|
   ils_end ?_)
  refine iwp_ret ?_
  obtain rfl := Option.some.inj h
  refine ⟨.inr rfl, (.cons (sv rfl) .nil)⟩

theorem p_math_Abs (a0 : Nat) (r : Nat) (h : math_Abs a0 = some r) : PureAt Try.prog 73 [.float .f64 a0] (.float .f64 r) := by
 refine pure_of_iwp (rs := [.float .f64 r]) Try.func73 rfl Try.ntmps73 (nle rfl) rfl fun O hO => ?_
 show IWP _ _ _ _ ⟨[(0, .float .f64 a0)], []⟩ _
 unfold math_Abs at h
 refine iwp_reg (ils_cons rfl (iop_assign rfl rfl (lb rfl) (sv (d := .float _ _) rfl)) <|
  ils_end ?_)
 obtain ⟨x1, hx1, h⟩ := bno_e h
 obtain ⟨x2, hx2, h⟩ := bnd_e h
 obtain ⟨x3, hx3, h⟩ := bnd_e h
 refine iwp_reg (ils_cons rfl (iop_move rfl rfl (lb rfl) (sv (d := .float _ _) rfl)) <|
  ils_cons rfl (iop_fbits rfl rfl (lb rfl) ex55 (sv (d := .float _ _) rfl) hx1) <|
  ils_cons rfl (iop_intx rfl rfl (lb rfl) (svI rfl) (sv (d := .int _ 9223372036854775808) rfl) rfl hx2) <|
  ils_cons rfl (iop_ffrom rfl rfl (lb rfl) ex76 (svI rfl) hx3) <|
  ils_cons rfl (iop_assign rfl rfl (lb rfl) (sv (d := .float _ _) rfl)) <|
  ils_end ?_)
 refine iwp_ret ?_
 obtain rfl := Option.some.inj h
 refine ⟨.inr rfl, (.cons (sv rfl) .nil)⟩

theorem p_math_IsInf (a0 : Nat) (a1 : Int) (r : Bool) (h : math_IsInf a0 a1 = some r) : PureAt Try.prog 62 [.float .f64 a0, .int .i64 a1] (.bool r) := by
 refine pure_of_iwp (rs := [.bool r]) Try.func62 rfl Try.ntmps62 (nle rfl) rfl fun O hO => ?_
 show IWP _ _ _ _ ⟨[(0, .float .f64 a0), (1, .int .i64 a1)], []⟩ _
 unfold math_IsInf at h
 refine iwp_reg (ils_cons rfl (iop_assign rfl rfl (lb rfl) (sv (d := .bool false) rfl)) <|
  ils_end ?_)
 refine iwp_seq ?_
 obtain ⟨x1, hx1, h⟩ := bnd_e h
 refine iwp_reg (ils_cons rfl (mvI rfl rfl rfl rfl) <|
  ils_cons rfl (iop_cmpx rfl rfl (lb rfl) (svI rfl) (sv (d := .int _ 0) rfl) rfl hx1) <|
  ils_end ?_)
 refine iwp_cond (b := _) rfl (fun hc2 => ?_) (fun hc2 => ?_)
 ·
  replace h := bif_t h hc2
  obtain ⟨x3, hx3, h⟩ := bno_e h
  refine iwp_region (ils_cons rfl (iop_move rfl rfl (lb rfl) (sv (d := .float _ _) rfl)) <|
   ils_cons rfl (iop_call (r := .float _ _) rfl rfl (lb rfl) cl73 (.cons (sv (d := .float _ _) rfl) .nil) rfl (p_math_Abs _ _ hx3)) <|
   ils_cons rfl (iop_assign rfl rfl (lb rfl) (sv (d := .float _ _) rfl)) <|
   ils_nil ?_)
  refine thenQ_n ?_
  obtain ⟨x4, hx4, h⟩ := bnd_e h
  refine iwp_reg (ils_cons rfl (iop_move rfl rfl (lb rfl) (sv (d := .float _ _) rfl)) <|
   ils_cons rfl (iop_fcmpx rfl rfl (lb rfl) (sv (d := .float _ _) rfl) (sv (d := .float _ _) rfl) rfl hx4) <|
   ils_cons rfl (asB rfl rfl rfl rfl) <|
   ils_end ?_)
  refine iwp_ret ?_
  obtain rfl := Option.some.inj h
  refine ⟨.inr rfl, (.cons (sv rfl) .nil)⟩
 ·
  replace h := bif_f h hc2
  obtain ⟨x5, hx5, h⟩ := bnd_e h
  refine iwp_reg (ils_cons rfl (mvI rfl rfl rfl rfl) <|
   ils_cons rfl (iop_cmpx rfl rfl (lb rfl) (svI rfl) (sv (d := .int _ 0) rfl) rfl hx5) <|
   ils_end ?_)
  refine iwp_cond (b := _) rfl (fun hc6 => ?_) (fun hc6 => ?_)
  ·
   replace h := bif_t h hc6
   obtain ⟨x7, hx7, h⟩ := bnd_e h
   refine iwp_region (ils_cons rfl (iop_move rfl rfl (lb rfl) (sv (d := .float _ _) rfl)) <|
    ils_cons rfl (iop_fneg rfl rfl (lb rfl) (sv (d := .float _ _) rfl) hx7) <|
    ils_cons rfl (iop_assign rfl rfl (lb rfl) (sv (d := .float _ _) rfl)) <|
    ils_nil ?_)
   refine thenQ_n ?_
   obtain ⟨x8, hx8, h⟩ := bnd_e h
   refine iwp_reg (ils_cons rfl (iop_move rfl rfl (lb rfl) (sv (d := .float _ _) rfl)) <|
    ils_cons rfl (iop_fcmpx rfl rfl (lb rfl) (sv (d := .float _ _) rfl) (sv (d := .float _ _) rfl) rfl hx8) <|
    ils_cons rfl (asB rfl rfl rfl rfl) <|
    ils_end ?_)
   refine iwp_ret ?_
   obtain rfl := Option.some.inj h
   refine ⟨.inr rfl, (.cons (sv rfl) .nil)⟩
  ·
   replace h := bif_f h hc6
   refine iwp_skip ?_
   refine thenQ_n ?_
   obtain ⟨x9, hx9, h⟩ := bnd_e h
   refine iwp_reg (ils_cons rfl (iop_move rfl rfl (lb rfl) (sv (d := .float _ _) rfl)) <|
    ils_cons rfl (iop_fcmpx rfl rfl (lb rfl) (sv (d := .float _ _) rfl) (sv (d := .float _ _) rfl) rfl hx9) <|
    ils_cons rfl (asB rfl rfl rfl rfl) <|
    ils_end ?_)
   refine iwp_ret ?_
   obtain rfl := Option.some.inj h
   refine ⟨.inr rfl, (.cons (sv rfl) .nil)⟩

theorem p_math_Signbit (a0 : Nat) (r : Bool) (h : math_Signbit a0 = some r) : PureAt Try.prog 63 [.float .f64 a0] (.bool r) := by
 refine pure_of_iwp (rs := [.bool r]) Try.func63 rfl Try.ntmps63 (nle rfl) rfl fun O hO => ?_
 show IWP _ _ _ _ ⟨[(0, .float .f64 a0)], []⟩ _
 unfold math_Signbit at h
 refine iwp_reg (ils_cons rfl (iop_assign rfl rfl (lb rfl) (sv (d := .bool false) rfl)) <|
  ils_end ?_)
 obtain ⟨x1, hx1, h⟩ := bno_e h
 obtain ⟨x2, hx2, h⟩ := bnd_e h
 obtain ⟨x3, hx3, h⟩ := bnd_e h
 refine iwp_reg (ils_cons rfl (iop_move rfl rfl (lb rfl) (sv (d := .float _ _) rfl)) <|
  ils_cons rfl (iop_fbits rfl rfl (lb rfl) ex55 (sv (d := .float _ _) rfl) hx1) <|
  ils_cons rfl (iop_int_conv rfl rfl (lb rfl) ⟨_, Try.underlying63⟩ Try.underlying2 (svI rfl) hx2) <|
  ils_cons rfl (iop_cmpx rfl rfl (lb rfl) (svI rfl) (sv (d := .int _ 0) rfl) rfl hx3) <|
  ils_cons rfl (asB rfl rfl rfl rfl) <|
  ils_end ?_)
 refine iwp_ret ?_
 obtain rfl := Option.some.inj h
 refine ⟨.inr rfl, (.cons (sv rfl) .nil)⟩

theorem p_gauge_Kind (a0 : Nat) (r : Int) (h : gauge_Kind a0 = some r) : PureAt Try.prog 39 [.float .f64 a0] (.int .i64 r) := by
 refine pure_of_iwp (rs := [.int .i64 r]) Try.func39 rfl Try.ntmps39 (nle rfl) rfl fun O hO => ?_
 show IWP _ _ _ _ ⟨[(0, .float .f64 a0)], []⟩ _
 unfold gauge_Kind at h
 refine iwp_reg (ils_cons rfl (iop_assign rfl rfl (lb rfl) (sv (d := .int _ 0) rfl)) <|
  ils_end ?_)
 refine iwp_reg (ils_cons rfl (iop_assign rfl rfl (lb rfl) (sv (d := .int _ 4) rfl)) <|
  ils_end ?_)
 refine iwp_join (α := Int) (fun z => ⟨[(0, .float .f64 a0), (3, .int .i64 z)], []⟩) (fun z => gauge_Kind_J0 a0 z = some r) ?_ ?_
 ·
  refine iwp_block ?_
  refine iwp_seq ?_
  refine iwp_block ?_
  refine iwp_seq ?_
  refine iwp_block ?_
  refine iwp_seq ?_
  refine iwp_block ?_
  refine iwp_seq ?_
  refine iwp_block ?_
  refine iwp_seq ?_
  refine iwp_seq ?_
  obtain ⟨x11, hx11, h⟩ := bno_e h
  refine iwp_reg (ils_cons rfl (iop_move rfl rfl (lb rfl) (sv (d := .float _ _) rfl)) <|
   ils_cons rfl (iop_call (r := .bool _) rfl rfl (lb rfl) cl61 (.cons (sv (d := .float _ _) rfl) .nil) rfl (p_math_IsNaN _ _ hx11)) <|
   ils_cons rfl (asB rfl rfl rfl rfl) <|
   ils_end ?_)
  refine iwp_cond (b := _) rfl (fun hc12 => ?_) (fun hc12 => ?_)
  ·
   replace h := bif_t h hc12
   refine iwp_exit ?_
   refine thenQ_e ?_
   refine thenQ_e ?_
   refine blockQ_e ?_
   refine thenQ_n ?_
   refine iwp_seq ?_
   refine iwp_reg (ils_cons rfl (iop_assign rfl rfl (lb rfl) (sv (d := .int _ 0) rfl)) <|
    ils_end ?_)
   refine iwp_ret ?_
   refine thenQ_r ?_
   refine blockQ_r ?_
   refine thenQ_r ?_
   refine blockQ_r ?_
   refine thenQ_r ?_
   refine blockQ_r ?_
   refine thenQ_r ?_
   refine blockQ_r ?_
   refine thenQ_r ?_
   obtain rfl := Option.some.inj h
   refine ⟨.inr rfl, (.cons (sv rfl) .nil)⟩
  ·
   replace h := bif_f h hc12
   refine iwp_skip ?_
   refine thenQ_n ?_
   refine iwp_seq ?_
   obtain ⟨x13, hx13, h⟩ := bno_e h
   refine iwp_reg (ils_cons rfl (iop_move rfl rfl (lb rfl) (sv (d := .float _ _) rfl)) <|
    ils_cons rfl (iop_call (r := .bool _) rfl rfl (lb rfl) cl62 (.cons (sv (d := .float _ _) rfl) (.cons (sv (d := .int _ 0) rfl) .nil)) rfl (p_math_IsInf _ _ _ hx13)) <|
    ils_cons rfl (asB rfl rfl rfl rfl) <|
    ils_end ?_)
   refine iwp_cond (b := _) rfl (fun hc14 => ?_) (fun hc14 => ?_)
   ·
    replace h := bif_t h hc14
    refine iwp_exit ?_
    refine thenQ_e ?_
    refine thenQ_e ?_
    refine blockQ_x rfl ?_
    refine thenQ_e ?_
    refine blockQ_e ?_
    refine thenQ_n ?_
    refine iwp_reg (ils_cons rfl (iop_assign rfl rfl (lb rfl) (sv (d := .int _ 6) rfl)) <|
     ils_end ?_)
    refine iwp_exit ?_
    refine blockQ_x rfl ?_
    refine thenQ_e ?_
    refine blockQ_x rfl ?_
    refine thenQ_e ?_
    refine blockQ_e ?_
    refine thenQ_n ⟨6, (fun i => i), ⟨(.sames rfl rfl), .nil, nd_of [] rfl (by decide), fun _ _ => rfl⟩, ?_⟩
    exact h
   ·
    replace h := bif_f h hc14
    refine iwp_skip ?_
    refine thenQ_n ?_
    obtain ⟨x15, hx15, h⟩ := bnd_e h
    refine iwp_reg (ils_cons rfl (iop_move rfl rfl (lb rfl) (sv (d := .float _ _) rfl)) <|
     ils_cons rfl (iop_fcmpx rfl rfl (lb rfl) (sv (d := .float _ _) rfl) (sv (d := .float _ _) rfl) rfl hx15) <|
     ils_cons rfl (asB rfl rfl rfl rfl) <|
     ils_end ?_)
    refine iwp_cond (b := _) rfl (fun hc16 => ?_) (fun hc16 => ?_)
    ·
     replace h := bif_t h hc16
     refine iwp_exit ?_
     refine thenQ_e ?_
     refine blockQ_x rfl ?_
     refine thenQ_e ?_
     refine blockQ_x rfl ?_
     refine thenQ_e ?_
     refine blockQ_e ?_
     refine thenQ_n ?_
     refine iwp_region (ils_cons rfl (iop_assign rfl rfl (lb rfl) (sv (d := .int _ 5) rfl)) <|
      ils_nil ?_)
     refine blockQ_n ?_
     refine thenQ_n ?_
     refine iwp_exit ?_
     refine blockQ_e ?_
     refine thenQ_n ⟨5, (fun i => i), ⟨(.sames rfl rfl), .nil, nd_of [] rfl (by decide), fun _ _ => rfl⟩, ?_⟩
     exact h
    ·
     replace h := bif_f h hc16
     refine iwp_skip ?_
     refine thenQ_n ?_
     refine iwp_exit ?_
     refine blockQ_x rfl ?_
     refine thenQ_e ?_
     refine blockQ_x rfl ?_
     refine thenQ_e ?_
     refine blockQ_x rfl ?_
     refine thenQ_e ?_
     refine blockQ_e ?_
     refine thenQ_n ?_
     refine iwp_exit ?_
     refine blockQ_e ?_
     refine thenQ_n ⟨4, (fun i => i), ⟨(.sames rfl rfl), .nil, nd_of [] rfl (by decide), fun _ _ => rfl⟩, ?_⟩
     exact h
 ·
  rintro v7 h
  unfold gauge_Kind_J0 at h
  refine iwp_seq ?_
  obtain ⟨x8, hx8, h⟩ := bno_e h
  refine iwp_reg (ils_cons rfl (iop_move rfl rfl (lb rfl) (sv (d := .float _ _) rfl)) <|
   ils_cons rfl (iop_call (r := .bool _) rfl rfl (lb rfl) cl63 (.cons (sv (d := .float _ _) rfl) .nil) rfl (p_math_Signbit _ _ hx8)) <|
   ils_cons rfl (iop_not rfl rfl (lb rfl) (svB rfl)) <|
   ils_end ?_)
  refine iwp_cond (b := _) rfl (fun hc9 => ?_) (fun hc9 => ?_)
  ·
   replace h := bif_t h hc9
   refine iwp_reg (ils_cons rfl (mvI rfl rfl rfl rfl) <|
    ils_cons rfl (asI rfl rfl rfl rfl) <|
    ils_end ?_)
   refine iwp_ret ?_
   refine thenQ_r ?_
   obtain rfl := Option.some.inj h
   refine ⟨.inr rfl, (.cons (sv rfl) .nil)⟩
  ·
   replace h := bif_f h hc9
   refine iwp_skip ?_
   refine thenQ_n ?_
   obtain ⟨x10, hx10, h⟩ := bnd_e h
   refine iwp_reg (ils_cons rfl (mvI rfl rfl rfl rfl) <|
    ils_cons rfl (iop_intx rfl rfl (lb rfl) (sv (d := .int _ 7) rfl) (svI rfl) rfl hx10) <|
    ils_cons rfl (asI rfl rfl rfl rfl) <|
    ils_end ?_)
   refine iwp_ret ?_
   obtain rfl := Option.some.inj h
   refine ⟨.inr rfl, (.cons (sv rfl) .nil)⟩

theorem p_slices_Equal_paths_Bind_paths_Bind (a0 : (List T_paths_Bind)) (a1 : (List T_paths_Bind)) (r : Bool) (h : slices_Equal_paths_Bind_paths_Bind a0 a1 = some r) : PureAt Try.prog 60 [.slice false (a0.map E_paths_Bind.d), .slice false (a1.map E_paths_Bind.d)] (.bool r) := by
 refine pure_of_iwp (rs := [.bool r]) Try.func60 rfl Try.ntmps60 (nle rfl) rfl fun O hO => ?_
 show IWP _ _ _ _ ⟨[(0, .slice false (a0.map E_paths_Bind.d)), (1, .slice false (a1.map E_paths_Bind.d))], []⟩ _
 unfold slices_Equal_paths_Bind_paths_Bind at h
 refine iwp_reg (ils_cons rfl (iop_assign rfl rfl (lb rfl) (sv (d := .bool false) rfl)) <|
  ils_end ?_)
 refine iwp_seq ?_
 obtain ⟨x1, hx1, h⟩ := bnd_e h
 refine iwp_reg (ils_cons rfl (mvL rfl rfl rfl rfl) <|
  ils_cons rfl (iop_lenT E_paths_Bind (l := a0) rfl rfl (lb rfl) Try.underlying33 (svL rfl)) <|
  ils_cons rfl (mvL rfl rfl rfl rfl) <|
  ils_cons rfl (iop_lenT E_paths_Bind (l := a1) rfl rfl (lb rfl) Try.underlying33 (svL rfl)) <|
  ils_cons rfl (iop_cmpx rfl rfl (lb rfl) (svI rfl) (svI rfl) rfl hx1) <|
  ils_end ?_)
 refine iwp_cond (b := _) rfl (fun hc2 => ?_) (fun hc2 => ?_)
 ·
  replace h := bif_t h hc2
  refine iwp_reg (ils_cons rfl (iop_assign rfl rfl (lb rfl) (sv (d := .bool false) rfl)) <|
   ils_end ?_)
  refine iwp_ret ?_
  refine thenQ_r ?_
  obtain rfl := Option.some.inj h
  refine ⟨.inr rfl, (.cons (sv rfl) .nil)⟩
 ·
  replace h := bif_f h hc2
  refine iwp_skip ?_
  refine thenQ_n ?_
  refine iwp_seq ?_
  refine iwp_reg (ils_cons rfl (mvL rfl rfl rfl rfl) <|
   ils_cons rfl (iop_lenT E_paths_Bind (l := a0) rfl rfl (lb rfl) Try.underlying33 (svL rfl)) <|
   ils_cons rfl (iop_move rfl rfl (lb rfl) (sv (d := .int _ 0) rfl)) <|
   ils_end ?_)
  refine iwp_block ?_
  refine iwp_loopP (α := Nat × Int) (fun z => ⟨[(0, .slice false (a0.map E_paths_Bind.d)), (1, .slice false (a1.map E_paths_Bind.d)), (12, .int .i64 (a0.length : Int)), (13, .int .i64 z.2)], []⟩) (fun z => slices_Equal_paths_Bind_paths_Bind_L0 a0 a1 z.1 z.2 = some r) (fun z => z.1) (fuel, 0) (fun i => i) ⟨(.sames rfl rfl), .nil, nd_of [] rfl (by decide), fun _ _ => rfl⟩ ?_ ?_
  ·exact h
  ·
   rintro ⟨n0, v10⟩ h
   cases n0 with
   | zero => exact absurd h (by unfold slices_Equal_paths_Bind_paths_Bind_L0; exact nofun)
   | succ n0 =>
    unfold slices_Equal_paths_Bind_paths_Bind_L0 at h
    obtain ⟨x18, hx18, h⟩ := bnd_e h
    refine iwp_reg (ils_cons rfl (iop_cmpx rfl rfl (lb rfl) (svI rfl) (svI rfl) rfl hx18) <|
     ils_end ?_)
    refine iwp_seq ?_
    refine iwp_cond (b := _) rfl (fun hc19 => ?_) (fun hc19 => ?_)
    ·
     replace h := bif_t h hc19
     refine iwp_skip ?_
     refine thenQ_n ?_
     refine iwp_seq ?_
     refine iwp_block ?_
     refine iwp_reg (ils_cons rfl (mvI rfl rfl rfl rfl) <|
      ils_cons rfl (asI rfl rfl rfl rfl) <|
      ils_end ?_)
     obtain ⟨x20, hx20, h⟩ := bno_e h
     obtain ⟨x21, hx21, h⟩ := bno_e h
     obtain ⟨x22, hx22, h⟩ := bnd_e h
     refine iwp_drw rfl [⟨[0], [], [(16, .slice false (a0.map E_paths_Bind.d))], []⟩,
      ⟨[5], [], [(17, .int .i64 v10)], []⟩,
      ⟨[16, 17], [], [(18, .fptr [.int .i64 x20.Stream, .int .i64 x20.Path])], []⟩,
      ⟨[18], [], [(19, .agg [.int .i64 x20.Stream, .int .i64 x20.Path])], []⟩,
      ⟨[1], [], [(20, .slice false (a1.map E_paths_Bind.d))], []⟩,
      ⟨[5], [], [(21, .int .i64 v10)], []⟩,
      ⟨[20, 21], [], [(22, .fptr [.int .i64 x21.Stream, .int .i64 x21.Path])], []⟩,
      ⟨[22], [], [(23, .agg [.int .i64 x21.Stream, .int .i64 x21.Path])], []⟩,
      ⟨[19, 23], [], [(24, .bool (!x22))], []⟩] rfl ?_ (by kernel_rfl) ?_
     ·refine .cons (lop rfl rfl fun S hA => (iop_move rfl rfl (lb rfl) (svaL hA rfl rfl))) ?_
      refine .cons (lop rfl rfl fun S hA => (iop_move rfl rfl (lb rfl) (svaI hA rfl rfl))) ?_
      refine .cons (lop rfl rfl fun S hA => (iop_idxT E_paths_Bind (cs := q9) rfl rfl (lb rfl) Try.underlying33 ti86 (svaL hA rfl rfl) (svaI hA rfl rfl) hx20 rfl rfl)) ?_
      refine .cons (lop rfl rfl fun S hA => (iop_load_fa (cs := q9) rfl rfl (lb rfl) Try.underlying86 ag86 ti86 (by decide) (sv (d := .fptr q9) (agr hA rfl rfl)) (nle rfl) rfl)) ?_
      refine .cons (lop rfl rfl fun S hA => (iop_move rfl rfl (lb rfl) (svaL hA rfl rfl))) ?_
      refine .cons (lop rfl rfl fun S hA => (iop_move rfl rfl (lb rfl) (svaI hA rfl rfl))) ?_
      refine .cons (lop rfl rfl fun S hA => (iop_idxT E_paths_Bind (cs := q9) rfl rfl (lb rfl) Try.underlying33 ti86 (svaL hA rfl rfl) (svaI hA rfl rfl) hx21 rfl rfl)) ?_
      refine .cons (lop rfl rfl fun S hA => (iop_load_fa (cs := q9) rfl rfl (lb rfl) Try.underlying86 ag86 ti86 (by decide) (sv (d := .fptr q9) (agr hA rfl rfl)) (nle rfl) rfl)) ?_
      refine .cons (lop rfl rfl fun S hA => (iop_nes rfl rfl (lb rfl) Try.underlying86 st86.1 st86.2 (svaA q9 hA rfl rfl) (svaA q9 hA rfl rfl) (congrArg some hx22))) ?_
      exact .nil
     refine iwp_cond (b := _) rfl (fun hc23 => ?_) (fun hc23 => ?_)
     ·
      replace h := bif_t h hc23
      refine iwp_reg (ils_cons rfl (iop_assign rfl rfl (lb rfl) (sv (d := .bool false) rfl)) <|
       ils_end ?_)
      refine iwp_ret ?_
      refine blockQ_r ?_
      refine thenQ_r ?_
      refine thenQ_r ?_
      refine blockQ_r ?_
      refine thenQ_r ?_
      obtain rfl := Option.some.inj h
      refine ⟨.inr rfl, (.cons (sv rfl) .nil)⟩
     ·
      replace h := bif_f h hc23
      refine iwp_skip ?_
      refine blockQ_n ?_
      refine thenQ_n ?_
      obtain ⟨x24, hx24, h⟩ := bnd_e h
      refine iwp_region (ils_cons rfl (iop_intx rfl rfl (lb rfl) (svI rfl) (sv (d := .int _ 1) rfl) rfl hx24) <|
       ils_cons rfl (mvI rfl rfl rfl rfl) <|
       ils_nil ?_)
      refine thenQ_n ⟨(n0, x24), (fun i => i), ⟨(.sames rfl rfl), .nil, nd_of [] rfl (by decide), fun _ _ => rfl⟩, ?_, ?_⟩
      exact h
      exact Nat.lt_succ_self _
    ·
     replace h := bif_f h hc19
     refine iwp_exit ?_
     refine thenQ_e ?_
     refine thenQ_e ?_
     refine blockQ_e ?_
     refine thenQ_n ?_
     refine iwp_reg (ils_cons rfl (iop_assign rfl rfl (lb rfl) (sv (d := .bool true) rfl)) <|
      ils_end ?_)
     refine iwp_ret ?_
     obtain rfl := Option.some.inj h
     refine ⟨.inr rfl, (.cons (sv rfl) .nil)⟩

theorem p_paths_Same (a0 : T_paths_State) (a1 : T_paths_State) (r : Bool) (h : paths_Same a0 a1 = some r) : PureAt Try.prog 34 [.agg (v0 a0), .agg (v0 a1)] (.bool r) := by
 refine pure_of_iwp (rs := [.bool r]) Try.func34 rfl Try.ntmps34 (nle rfl) rfl fun O hO => ?_
 show IWP _ _ _ _ ⟨[(0, .agg (v0 a0)), (1, .agg (v0 a1))], []⟩ _
 unfold paths_Same at h
 refine iwp_reg (ils_cons rfl (iop_box' (cs := q3) 0 rfl rfl (lb rfl) rfl (svA q3 rfl) rfl rfl) <|
  ils_cons rfl (iop_box' (cs := q3) 1 rfl rfl (lb rfl) rfl (svA q3 rfl) rfl rfl) <|
  ils_cons rfl (iop_assign rfl rfl (lb rfl) (sv (d := .bool false) rfl)) <|
  ils_end ?_)
 obtain ⟨x1, hx1, h⟩ := bnd_e h
 obtain ⟨x2, hx2, h⟩ := bnd_e h
 obtain ⟨x3, hx3, h⟩ := bnd_e h
 obtain ⟨x4, hx4, h⟩ := bno_e h
 obtain ⟨x5, hx5, h⟩ := bnd_e h
 refine iwp_reg (ils_cons rfl (faR 0 rfl rfl rfl Try.underlying35 rfl ti32 (lb rfl) rfl rfl) <|
  ils_cons rfl (lra q6 la32 rfl rfl rfl rfl rfl (nle rfl) rfl) <|
  ils_cons rfl (faR 0 rfl rfl rfl Try.underlying35 rfl ti32 (lb rfl) rfl rfl) <|
  ils_cons rfl (lra q6 la32 rfl rfl rfl rfl rfl (nle rfl) rfl) <|
  ils_cons rfl (iop_eqt rfl rfl (lb rfl) st32.2 (svA q6 rfl) (svA q6 rfl) (Eq.trans (by kernel_rfl) (congrArg some hx1))) <|
  ils_cons rfl (mvB rfl rfl rfl rfl) <|
  ils_guard rfl rfl (.one rfl) rfl (by decide) (fun hb => (faR 16 rfl rfl rfl Try.underlying35 rfl ti3 (lb rfl) rfl rfl)) <|
  ils_guard rfl rfl (.one rfl) rfl (by decide) (fun hb => (iop_load_rs (d := .int _ _) rfl rfl (lb rfl) Try.underlying3 ag3 ti3 (by decide) (svcR rfl hb) rfl (nle rfl) rfl)) <|
  ils_guard rfl rfl (.one rfl) rfl (by decide) (fun hb => (faR 16 rfl rfl rfl Try.underlying35 rfl ti3 (lb rfl) rfl rfl)) <|
  ils_guard rfl rfl (.one rfl) rfl (by decide) (fun hb => (iop_load_rs (d := .int _ _) rfl rfl (lb rfl) Try.underlying3 ag3 ti3 (by decide) (svcR rfl hb) rfl (nle rfl) rfl)) <|
  ils_guard rfl rfl (.one rfl) rfl (by decide) (fun hb => (iop_cmpx rfl rfl (lb rfl) (svcI rfl hb) (svcI rfl hb) rfl hx2)) <|
  ils_cons rfl (iop_andx rfl rfl (lb rfl) (svB rfl) rfl rfl hx3) <|
  ils_cons rfl (mvB rfl rfl rfl rfl) <|
  ils_guard rfl rfl (.one rfl) rfl (by decide) (fun hb => (faR 17 rfl rfl rfl Try.underlying35 rfl ti33 (lb rfl) rfl rfl)) <|
  ils_guard rfl rfl (.one rfl) rfl (by decide) (fun hb => (iop_load_rs (d := .slice _ _) rfl rfl (lb rfl) Try.underlying33 ag33 ti33 (by decide) (svcR rfl hb) rfl (nle rfl) rfl)) <|
  ils_guard rfl rfl (.one rfl) rfl (by decide) (fun hb => (faR 17 rfl rfl rfl Try.underlying35 rfl ti33 (lb rfl) rfl rfl)) <|
  ils_guard rfl rfl (.one rfl) rfl (by decide) (fun hb => (iop_load_rs (d := .slice _ _) rfl rfl (lb rfl) Try.underlying33 ag33 ti33 (by decide) (svcR rfl hb) rfl (nle rfl) rfl)) <|
  ils_guard rfl rfl (.one rfl) rfl (by decide) (fun hb => (iop_call (r := .bool _) rfl rfl (lb rfl) cl60 (.cons (svcL rfl hb) (.cons (svcL rfl hb) .nil)) rfl (p_slices_Equal_paths_Bind_paths_Bind _ _ _ (gd_t hx4 hb)))) <|
  ils_cons rfl (iop_andx rfl rfl (lb rfl) (svB rfl) rfl rfl hx5) <|
  ils_cons rfl (asB rfl rfl rfl rfl) <|
  ils_end ?_)
 refine iwp_ret ?_
 obtain rfl := Option.some.inj h
 refine ⟨.inr rfl, (.cons (sv rfl) .nil)⟩

theorem p_sennitlaw28_awake  (r : Bool) (h : sennitlaw28_awake = some r) : PureAt Try.prog 8 [] (.bool r) := by
 refine pure_of_iwp (rs := [.bool r]) Try.func8 rfl Try.ntmps8 (nle rfl) rfl fun O hO => ?_
 show IWP _ _ _ _ ⟨[], []⟩ _
 unfold sennitlaw28_awake at h
 refine iwp_reg (ils_cons rfl (iop_assign rfl rfl (lb rfl) (sv (d := .bool false) rfl)) <|
  ils_end ?_)
 obtain ⟨x1, hx1, h⟩ := bno_e h
 obtain ⟨x2, hx2, h⟩ := bno_e h
 refine iwp_reg (ils_cons rfl (iop_call (r := .agg q3) rfl rfl (lb rfl) cl35 .nil rfl (p_paths_New  _ hx1)) <|
  ils_cons rfl (iop_call (r := .tuple q13) rfl rfl (lb rfl) cl10 (.cons (svA q3 rfl) (.cons (sv (d := .int _ 1) rfl) .nil)) rfl (p_paths_Rise _ _ _ hx2)) <|
  ils_cons rfl (iop_move rfl rfl (lb rfl) (sv (d := .tuple q13) rfl)) <|
  ils_cons rfl (iop_extract (d := .agg q3) rfl rfl (lb rfl) (sv (d := .tuple q13) rfl) rfl) <|
  ils_cons rfl (iop_extract (d := .bool _) rfl rfl (lb rfl) (sv (d := .tuple q13) rfl) rfl) <|
  ils_cons rfl (iop_allocS (cs := q5) (cs' := (w14 false false 0 0 false false 0 0 false false 0 0 false false 0 0 0 ([] : List T_paths_Bind))) 0 rfl rfl (lb rfl) rfl ti35 rfl rfl (.k4 (.k (.k4 (.k (.k4 (.k (.k (.k (.cons (.nils _) .nil)))))))))) <|
  ils_cons rfl (stA q3 q3 ti35 rfl rfl rfl rfl rfl rfl rfl rfl (nle rfl) rfl) <|
  ils_cons rfl (asB rfl rfl rfl rfl) <|
  ils_end ?_)
 obtain ⟨x3, hx3, h⟩ := bno_e h
 refine iwp_reg (ils_cons rfl (lra q3 la35 rfl rfl rfl rfl rfl (nle rfl) rfl) <|
  ils_cons rfl (iop_call (r := .tuple q13) rfl rfl (lb rfl) cl10 (.cons (svA q3 rfl) (.cons (sv (d := .int _ 2) rfl) .nil)) rfl (p_paths_Rise _ _ _ hx3)) <|
  ils_cons rfl (iop_move rfl rfl (lb rfl) (sv (d := .tuple q13) rfl)) <|
  ils_cons rfl (iop_extract (d := .agg q3) rfl rfl (lb rfl) (sv (d := .tuple q13) rfl) rfl) <|
  ils_cons rfl (iop_extract (d := .bool _) rfl rfl (lb rfl) (sv (d := .tuple q13) rfl) rfl) <|
  ils_cons rfl (stA q3 q3 ti35 rfl rfl rfl rfl rfl rfl rfl rfl (nle rfl) rfl) <|
  ils_cons rfl (asB rfl rfl rfl rfl) <|
  ils_end ?_)
 obtain ⟨x4, hx4, h⟩ := bno_e h
 refine iwp_reg (ils_cons rfl (lra q3 la35 rfl rfl rfl rfl rfl (nle rfl) rfl) <|
  ils_cons rfl (iop_call (r := .tuple q13) rfl rfl (lb rfl) cl10 (.cons (svA q3 rfl) (.cons (sv (d := .int _ 2) rfl) .nil)) rfl (p_paths_Rise _ _ _ hx4)) <|
  ils_cons rfl (iop_move rfl rfl (lb rfl) (sv (d := .tuple q13) rfl)) <|
  ils_cons rfl (iop_extract (d := .agg q3) rfl rfl (lb rfl) (sv (d := .tuple q13) rfl) rfl) <|
  ils_cons rfl (iop_extract (d := .bool _) rfl rfl (lb rfl) (sv (d := .tuple q13) rfl) rfl) <|
  ils_cons rfl (iop_allocS (cs := q5) (cs' := (w14 false false 0 0 false false 0 0 false false 0 0 false false 0 0 0 ([] : List T_paths_Bind))) 1 rfl rfl (lb rfl) rfl ti35 rfl rfl (.k4 (.k (.k4 (.k (.k4 (.k (.k (.k (.cons (.nils _) .nil)))))))))) <|
  ils_cons rfl (stA q3 q3 ti35 rfl rfl rfl rfl rfl rfl rfl rfl (nle rfl) rfl) <|
  ils_cons rfl (asB rfl rfl rfl rfl) <|
  ils_end ?_)
 obtain ⟨x5, hx5, h⟩ := bno_e h
 refine iwp_reg (ils_cons rfl (lra q3 la35 rfl rfl rfl rfl rfl (nle rfl) rfl) <|
  ils_cons rfl (iop_call (r := .agg q3) rfl rfl (lb rfl) cl21 (.cons (svA q3 rfl) (.cons (sv (d := .int _ 2) rfl) (.cons (sv (d := .int _ 100) rfl) (.cons (sv (d := .int _ 5) rfl) .nil)))) rfl (p_paths_Note _ _ _ _ _ hx5)) <|
  ils_cons rfl (stA q3 q3 ti35 rfl rfl rfl rfl rfl rfl rfl rfl (nle rfl) rfl) <|
  ils_end ?_)
 obtain ⟨x6, hx6, h⟩ := bno_e h
 refine iwp_reg (ils_cons rfl (lra q3 la35 rfl rfl rfl rfl rfl (nle rfl) rfl) <|
  ils_cons rfl (iop_call (r := .tuple q12) rfl rfl (lb rfl) cl14 (.cons (svA q3 rfl) (.cons (sv (d := .int _ 7) rfl) .nil)) rfl (p_paths_Choose _ _ _ hx6)) <|
  ils_cons rfl (iop_move rfl rfl (lb rfl) (sv (d := .tuple q12) rfl)) <|
  ils_cons rfl (iop_extract (d := .agg q3) rfl rfl (lb rfl) (sv (d := .tuple q12) rfl) rfl) <|
  ils_cons rfl (iop_extract (d := .int _ _) rfl rfl (lb rfl) (sv (d := .tuple q12) rfl) rfl) <|
  ils_cons rfl (iop_allocS (cs := q5) (cs' := (w14 false false 0 0 false false 0 0 false false 0 0 false false 0 0 0 ([] : List T_paths_Bind))) 2 rfl rfl (lb rfl) rfl ti35 rfl rfl (.k4 (.k (.k4 (.k (.k4 (.k (.k (.k (.cons (.nils _) .nil)))))))))) <|
  ils_cons rfl (stA q3 q3 ti35 rfl rfl rfl rfl rfl rfl rfl rfl (nle rfl) rfl) <|
  ils_cons rfl (asI rfl rfl rfl rfl) <|
  ils_end ?_)
 obtain ⟨x7, hx7, h⟩ := bno_e h
 refine iwp_reg (ils_cons rfl (lra q3 la35 rfl rfl rfl rfl rfl (nle rfl) rfl) <|
  ils_cons rfl (iop_call (r := .tuple q12) rfl rfl (lb rfl) cl16 (.cons (svA q3 rfl) .nil) rfl (p_paths_Pin _ _ hx7)) <|
  ils_cons rfl (iop_move rfl rfl (lb rfl) (sv (d := .tuple q12) rfl)) <|
  ils_cons rfl (iop_extract (d := .agg q3) rfl rfl (lb rfl) (sv (d := .tuple q12) rfl) rfl) <|
  ils_cons rfl (iop_extract (d := .int _ _) rfl rfl (lb rfl) (sv (d := .tuple q12) rfl) rfl) <|
  ils_cons rfl (stA q3 q3 ti35 rfl rfl rfl rfl rfl rfl rfl rfl (nle rfl) rfl) <|
  ils_cons rfl (asI rfl rfl rfl rfl) <|
  ils_end ?_)
 obtain ⟨x8, hx8, h⟩ := bno_e h
 refine iwp_reg (ils_cons rfl (lra q3 la35 rfl rfl rfl rfl rfl (nle rfl) rfl) <|
  ils_cons rfl (iop_call (r := .tuple q11) rfl rfl (lb rfl) cl12 (.cons (svA q3 rfl) (.cons (sv (d := .int _ 2) rfl) .nil)) rfl (p_paths_Fall _ _ _ hx8)) <|
  ils_cons rfl (iop_move rfl rfl (lb rfl) (sv (d := .tuple q11) rfl)) <|
  ils_cons rfl (iop_extract (d := .agg q3) rfl rfl (lb rfl) (sv (d := .tuple q11) rfl) rfl) <|
  ils_cons rfl (iop_extract (d := .slice _ _) rfl rfl (lb rfl) (sv (d := .tuple q11) rfl) rfl) <|
  ils_cons rfl (iop_extract (d := .bool _) rfl rfl (lb rfl) (sv (d := .tuple q11) rfl) rfl) <|
  ils_cons rfl (iop_allocS (cs := q5) (cs' := (w14 false false 0 0 false false 0 0 false false 0 0 false false 0 0 0 ([] : List T_paths_Bind))) 3 rfl rfl (lb rfl) rfl ti35 rfl rfl (.k4 (.k (.k4 (.k (.k4 (.k (.k (.k (.cons (.nils _) .nil)))))))))) <|
  ils_cons rfl (stA q3 q3 ti35 rfl rfl rfl rfl rfl rfl rfl rfl (nle rfl) rfl) <|
  ils_cons rfl (iop_assign rfl rfl (lb rfl) (svL rfl)) <|
  ils_cons rfl (asB rfl rfl rfl rfl) <|
  ils_end ?_)
 obtain ⟨x9, hx9, h⟩ := bno_e h
 refine iwp_reg (ils_cons rfl (lra q3 la35 rfl rfl rfl rfl rfl (nle rfl) rfl) <|
  ils_cons rfl (iop_call (r := .tuple q12) rfl rfl (lb rfl) cl14 (.cons (svA q3 rfl) (.cons (sv (d := .int _ 7) rfl) .nil)) rfl (p_paths_Choose _ _ _ hx9)) <|
  ils_cons rfl (iop_move rfl rfl (lb rfl) (sv (d := .tuple q12) rfl)) <|
  ils_cons rfl (iop_extract (d := .agg q3) rfl rfl (lb rfl) (sv (d := .tuple q12) rfl) rfl) <|
  ils_cons rfl (iop_extract (d := .int _ _) rfl rfl (lb rfl) (sv (d := .tuple q12) rfl) rfl) <|
  ils_cons rfl (iop_allocS (cs := q5) (cs' := (w14 false false 0 0 false false 0 0 false false 0 0 false false 0 0 0 ([] : List T_paths_Bind))) 4 rfl rfl (lb rfl) rfl ti35 rfl rfl (.k4 (.k (.k4 (.k (.k4 (.k (.k (.k (.cons (.nils _) .nil)))))))))) <|
  ils_cons rfl (stA q3 q3 ti35 rfl rfl rfl rfl rfl rfl rfl rfl (nle rfl) rfl) <|
  ils_cons rfl (asI rfl rfl rfl rfl) <|
  ils_end ?_)
 obtain ⟨x10, hx10, h⟩ := bno_e h
 refine iwp_reg (ils_cons rfl (lra q3 la35 rfl rfl rfl rfl rfl (nle rfl) rfl) <|
  ils_cons rfl (iop_call (r := .tuple q12) rfl rfl (lb rfl) cl16 (.cons (svA q3 rfl) .nil) rfl (p_paths_Pin _ _ hx10)) <|
  ils_cons rfl (iop_move rfl rfl (lb rfl) (sv (d := .tuple q12) rfl)) <|
  ils_cons rfl (iop_extract (d := .agg q3) rfl rfl (lb rfl) (sv (d := .tuple q12) rfl) rfl) <|
  ils_cons rfl (iop_extract (d := .int _ _) rfl rfl (lb rfl) (sv (d := .tuple q12) rfl) rfl) <|
  ils_cons rfl (stA q3 q3 ti35 rfl rfl rfl rfl rfl rfl rfl rfl (nle rfl) rfl) <|
  ils_cons rfl (asI rfl rfl rfl rfl) <|
  ils_end ?_)
 obtain ⟨x11, hx11, h⟩ := bno_e h
 refine iwp_reg (ils_cons rfl (lra q3 la35 rfl rfl rfl rfl rfl (nle rfl) rfl) <|
  ils_cons rfl (iop_call (r := .agg q3) rfl rfl (lb rfl) cl23 (.cons (svA q3 rfl) (.cons (sv (d := .int _ 7) rfl) .nil)) rfl (p_paths_Free _ _ _ hx11)) <|
  ils_cons rfl (iop_allocS (cs := q5) (cs' := (w14 false false 0 0 false false 0 0 false false 0 0 false false 0 0 0 ([] : List T_paths_Bind))) 5 rfl rfl (lb rfl) rfl ti35 rfl rfl (.k4 (.k (.k4 (.k (.k4 (.k (.k (.k (.cons (.nils _) .nil)))))))))) <|
  ils_cons rfl (stA q3 q3 ti35 rfl rfl rfl rfl rfl rfl rfl rfl (nle rfl) rfl) <|
  ils_end ?_)
 obtain ⟨x12, hx12, h⟩ := bno_e h
 refine iwp_reg (ils_cons rfl (lra q3 la35 rfl rfl rfl rfl rfl (nle rfl) rfl) <|
  ils_cons rfl (iop_call (r := .slice _ _) rfl rfl (lb rfl) cl25 (.cons (svA q3 rfl) .nil) rfl (p_paths_Rates _ _ hx12)) <|
  ils_cons rfl (iop_assign rfl rfl (lb rfl) (svL rfl)) <|
  ils_end ?_)
 obtain ⟨x13, hx13, h⟩ := bnd_e h
 obtain ⟨x14, hx14, h⟩ := bnd_e h
 obtain ⟨x15, hx15, h⟩ := bnd_e h
 obtain ⟨x16, hx16, h⟩ := bnd_e h
 obtain ⟨x17, hx17, h⟩ := bnd_e h
 obtain ⟨x18, hx18, h⟩ := bnd_e h
 obtain ⟨x19, hx19, h⟩ := bno_e h
 obtain ⟨x20, hx20, h⟩ := bnd_e h
 obtain ⟨x21, hx21, h⟩ := bnd_e h
 obtain ⟨x22, hx22, h⟩ := bnd_e h
 obtain ⟨x23, hx23, h⟩ := bnd_e h
 obtain ⟨x24, hx24, h⟩ := bnd_e h
 obtain ⟨x25, hx25, h⟩ := bnd_e h
 obtain ⟨x26, hx26, h⟩ := bnd_e h
 obtain ⟨x27, hx27, h⟩ := bnd_e h
 obtain ⟨x28, hx28, h⟩ := bnd_e h
 obtain ⟨x29, hx29, h⟩ := bnd_e h
 obtain ⟨x30, hx30, h⟩ := bno_e h
 obtain ⟨x31, hx31, h⟩ := bno_e h
 obtain ⟨x32, hx32, h⟩ := bnd_e h
 obtain ⟨x33, hx33, h⟩ := bno_e h
 obtain ⟨x34, hx34, h⟩ := bnd_e h
 obtain ⟨x35, hx35, h⟩ := bnd_e h
 obtain ⟨x36, hx36, h⟩ := bno_e h
 obtain ⟨x37, hx37, h⟩ := bno_e h
 obtain ⟨x38, hx38, h⟩ := bnd_e h
 obtain ⟨x39, hx39, h⟩ := bnd_e h
 obtain ⟨x40, hx40, h⟩ := bnd_e h
 obtain ⟨x41, hx41, h⟩ := bnd_e h
 obtain ⟨x42, hx42, h⟩ := bno_e h
 obtain ⟨x43, hx43, h⟩ := bno_e h
 obtain ⟨x44, hx44, h⟩ := bnd_e h
 obtain ⟨x45, hx45, h⟩ := bnd_e h
 obtain ⟨x46, hx46, h⟩ := bno_e h
 obtain ⟨x47, hx47, h⟩ := bnd_e h
 obtain ⟨x48, hx48, h⟩ := bnd_e h
 obtain ⟨x49, hx49, h⟩ := bno_e h
 obtain ⟨x50, hx50, h⟩ := bnd_e h
 obtain ⟨x51, hx51, h⟩ := bnd_e h
 obtain ⟨x52, hx52, h⟩ := bno_e h
 obtain ⟨x53, hx53, h⟩ := bnd_e h
 obtain ⟨x54, hx54, h⟩ := bnd_e h
 obtain ⟨x55, hx55, h⟩ := bno_e h
 obtain ⟨x56, hx56, h⟩ := bnd_e h
 obtain ⟨x57, hx57, h⟩ := bno_e h
 obtain ⟨x58, hx58, h⟩ := bnd_e h
 obtain ⟨x59, hx59, h⟩ := bnd_e h
 obtain ⟨x60, hx60, h⟩ := bnd_e h
 obtain ⟨x61, hx61, h⟩ := bnd_e h
 obtain ⟨x62, hx62, h⟩ := bnd_e h
 refine iwp_reg (ils_cons rfl (mvB rfl rfl rfl rfl) <|
  ils_cons rfl (mvB rfl rfl rfl rfl) <|
  ils_guard rfl rfl (.one rfl) rfl (by decide) (fun hb => (mvB rfl rfl rfl rfl)) <|
  ils_cons rfl (iop_andx rfl rfl (lb rfl) (svB rfl) rfl rfl hx13) <|
  ils_cons rfl (mvB rfl rfl rfl rfl) <|
  ils_guard rfl rfl (.one rfl) rfl (by decide) (fun hb => (mvB rfl rfl rfl rfl)) <|
  ils_guard rfl rfl (.one rfl) rfl (by decide) (fun hb => (iop_not rfl rfl (lb rfl) (svcB rfl hb))) <|
  ils_cons rfl (iop_andx rfl rfl (lb rfl) (svB rfl) rfl rfl hx14) <|
  ils_cons rfl (mvB rfl rfl rfl rfl) <|
  ils_guard rfl rfl (.one rfl) rfl (by decide) (fun hb => (mvI rfl rfl rfl rfl)) <|
  ils_guard rfl rfl (.one rfl) rfl (by decide) (fun hb => (iop_cmpx rfl rfl (lb rfl) (svcI rfl hb) (sv (d := .int _ 2) rfl) rfl hx15)) <|
  ils_cons rfl (iop_andx rfl rfl (lb rfl) (svB rfl) rfl rfl hx16) <|
  ils_cons rfl (mvB rfl rfl rfl rfl) <|
  ils_guard rfl rfl (.one rfl) rfl (by decide) (fun hb => (mvI rfl rfl rfl rfl)) <|
  ils_guard rfl rfl (.one rfl) rfl (by decide) (fun hb => (iop_cmpx rfl rfl (lb rfl) (svcI rfl hb) (sv (d := .int _ 2) rfl) rfl hx17)) <|
  ils_cons rfl (iop_andx rfl rfl (lb rfl) (svB rfl) rfl rfl hx18) <|
  ils_cons rfl (mvB rfl rfl rfl rfl) <|
  ils_guard rfl rfl (.one rfl) rfl (by decide) (fun hb => (mvL rfl rfl rfl rfl)) <|
  ils_guard rfl rfl (.one rfl) rfl (by decide) (fun hb => (iop_bsF (eInt .i64) ([7] : (List Int)) rfl rfl (lb rfl) Try.underlying41 ti3 (.cons (sv (d := .int _ 7) rfl) .nil) rfl rfl (by decide))) <|
  ils_guard rfl rfl (.one rfl) rfl (by decide) (fun hb => (iop_call (r := .bool _) rfl rfl (lb rfl) cl20 (.cons (svcL rfl hb) (.cons (svcL rfl hb) .nil)) rfl (p_sennitref28_SameInts _ _ _ (gd_t hx19 hb)))) <|
  ils_cons rfl (iop_andx rfl rfl (lb rfl) (svB rfl) rfl rfl hx20) <|
  ils_cons rfl (mvB rfl rfl rfl rfl) <|
  ils_guard rfl rfl (.one rfl) rfl (by decide) (fun hb => (mvB rfl rfl rfl rfl)) <|
  ils_cons rfl (iop_andx rfl rfl (lb rfl) (svB rfl) rfl rfl hx21) <|
  ils_cons rfl (mvB rfl rfl rfl rfl) <|
  ils_guard rfl rfl (.one rfl) rfl (by decide) (fun hb => (faR 16 rfl rfl rfl Try.underlying35 rfl ti3 (lb rfl) rfl rfl)) <|
  ils_guard rfl rfl (.one rfl) rfl (by decide) (fun hb => (iop_load_rs (d := .int _ _) rfl rfl (lb rfl) Try.underlying3 ag3 ti3 (by decide) (svcR rfl hb) rfl (nle rfl) rfl)) <|
  ils_guard rfl rfl (.one rfl) rfl (by decide) (fun hb => (iop_cmpx rfl rfl (lb rfl) (svcI rfl hb) (sv (d := .int _ (-1)) rfl) rfl hx22)) <|
  ils_cons rfl (iop_andx rfl rfl (lb rfl) (svB rfl) rfl rfl hx23) <|
  ils_cons rfl (mvB rfl rfl rfl rfl) <|
  ils_guard rfl rfl (.one rfl) rfl (by decide) (fun hb => (mvI rfl rfl rfl rfl)) <|
  ils_guard rfl rfl (.one rfl) rfl (by decide) (fun hb => (iop_cmpx rfl rfl (lb rfl) (svcI rfl hb) (sv (d := .int _ 1) rfl) rfl hx24)) <|
  ils_cons rfl (iop_andx rfl rfl (lb rfl) (svB rfl) rfl rfl hx25) <|
  ils_cons rfl (mvB rfl rfl rfl rfl) <|
  ils_guard rfl rfl (.one rfl) rfl (by decide) (fun hb => (mvI rfl rfl rfl rfl)) <|
  ils_guard rfl rfl (.one rfl) rfl (by decide) (fun hb => (iop_cmpx rfl rfl (lb rfl) (svcI rfl hb) (sv (d := .int _ 1) rfl) rfl hx26)) <|
  ils_cons rfl (iop_andx rfl rfl (lb rfl) (svB rfl) rfl rfl hx27) <|
  ils_cons rfl (mvB rfl rfl rfl rfl) <|
  ils_guard rfl rfl (.one rfl) rfl (by decide) (fun hb => (faR 17 rfl rfl rfl Try.underlying35 rfl ti33 (lb rfl) rfl rfl)) <|
  ils_guard rfl rfl (.one rfl) rfl (by decide) (fun hb => (iop_load_rs (d := .slice _ _) rfl rfl (lb rfl) Try.underlying33 ag33 ti33 (by decide) (svcR rfl hb) rfl (nle rfl) rfl)) <|
  ils_guard rfl rfl (.one rfl) rfl (by decide) (fun hb => (iop_lenT E_paths_Bind (l := x11.Binds) rfl rfl (lb rfl) Try.underlying33 (svcL rfl hb))) <|
  ils_guard rfl rfl (.one rfl) rfl (by decide) (fun hb => (iop_cmpx rfl rfl (lb rfl) (svcI rfl hb) (sv (d := .int _ 0) rfl) rfl hx28)) <|
  ils_cons rfl (iop_andx rfl rfl (lb rfl) (svB rfl) rfl rfl hx29) <|
  ils_cons rfl (mvB rfl rfl rfl rfl) <|
  ils_guard rfl rfl (.one rfl) rfl (by decide) (fun hb => (lra q3 la35 rfl rfl rfl rfl rfl (nle rfl) rfl)) <|
  ils_guard rfl rfl (.one rfl) rfl (by decide) (fun hb => (iop_call (r := .slice _ _) rfl rfl (lb rfl) cl30 (.cons (svcA (v0 x10.1) rfl hb) .nil) rfl (p_paths_Alive _ _ (gd_t hx30 hb)))) <|
  ils_guard rfl rfl (.one rfl) rfl (by decide) (fun hb => (iop_bsF (eInt .i64) ([1] : (List Int)) rfl rfl (lb rfl) Try.underlying41 ti3 (.cons (sv (d := .int _ 1) rfl) .nil) rfl rfl (by decide))) <|
  ils_guard rfl rfl (.one rfl) rfl (by decide) (fun hb => (iop_call (r := .bool _) rfl rfl (lb rfl) cl20 (.cons (svcL rfl hb) (.cons (svcL rfl hb) .nil)) rfl (p_sennitref28_SameInts _ _ _ (gd_t hx31 hb)))) <|
  ils_cons rfl (iop_andx rfl rfl (lb rfl) (svB rfl) rfl rfl hx32) <|
  ils_cons rfl (mvB rfl rfl rfl rfl) <|
  ils_guard rfl rfl (.one rfl) rfl (by decide) (fun hb => (lra q3 la35 rfl rfl rfl rfl rfl (nle rfl) rfl)) <|
  ils_guard rfl rfl (.one rfl) rfl (by decide) (fun hb => (iop_call (r := .int _ _) rfl rfl (lb rfl) cl32 (.cons (svcA (v0 x5) rfl hb) .nil) rfl (p_paths_Best _ _ (gd_t hx33 hb)))) <|
  ils_guard rfl rfl (.one rfl) rfl (by decide) (fun hb => (iop_cmpx rfl rfl (lb rfl) (svcI rfl hb) (sv (d := .int _ 2) rfl) rfl hx34)) <|
  ils_cons rfl (iop_andx rfl rfl (lb rfl) (svB rfl) rfl rfl hx35) <|
  ils_cons rfl (mvB rfl rfl rfl rfl) <|
  ils_guard rfl rfl (.one rfl) rfl (by decide) (fun hb => (iop_call (r := .agg q3) rfl rfl (lb rfl) cl35 .nil rfl (p_paths_New  _ (gd_t hx36 hb)))) <|
  ils_guard rfl rfl (.one rfl) rfl (by decide) (fun hb => (iop_call (r := .int _ _) rfl rfl (lb rfl) cl32 (.cons (svcA (v0 x36) rfl hb) .nil) rfl (p_paths_Best _ _ (gd_t hx37 hb)))) <|
  ils_guard rfl rfl (.one rfl) rfl (by decide) (fun hb => (iop_cmpx rfl rfl (lb rfl) (svcI rfl hb) (sv (d := .int _ (-1)) rfl) rfl hx38)) <|
  ils_cons rfl (iop_andx rfl rfl (lb rfl) (svB rfl) rfl rfl hx39) <|
  ils_cons rfl (mvB rfl rfl rfl rfl) <|
  ils_guard rfl rfl (.one rfl) rfl (by decide) (fun hb => (mvL rfl rfl rfl rfl)) <|
  ils_guard rfl rfl (.one rfl) rfl (by decide) (fun hb => (iop_lenT (eFlt .f64) (l := x12) rfl rfl (lb rfl) Try.underlying60 (svcL rfl hb))) <|
  ils_guard rfl rfl (.one rfl) rfl (by decide) (fun hb => (iop_cmpx rfl rfl (lb rfl) (svcI rfl hb) (sv (d := .int _ 4) rfl) rfl hx40)) <|
  ils_cons rfl (iop_andx rfl rfl (lb rfl) (svB rfl) rfl rfl hx41) <|
  ils_cons rfl (mvB rfl rfl rfl rfl) <|
  ils_guard rfl rfl (.one rfl) rfl (by decide) (fun hb => (mvL rfl rfl rfl rfl)) <|
  ils_guard rfl rfl (.one rfl) rfl (by decide) (fun hb => (iop_idxT (eFlt .f64) (cs := [.float _ _]) rfl rfl (lb rfl) Try.underlying60 ti65 (svcL rfl hb) (sv (d := .int _ 0) rfl) (gd_t hx42 hb) rfl rfl)) <|
  ils_guard rfl rfl (.one rfl) rfl (by decide) (fun hb => (iop_load_fs rfl rfl (lb rfl) Try.underlying65 ag65 ti65 (by decide) (svc (d := .fptr [.float _ _]) rfl hb) (nle rfl))) <|
  ils_guard rfl rfl (.one rfl) rfl (by decide) (fun hb => (iop_call (r := .int _ _) rfl rfl (lb rfl) cl39 (.cons (svc (d := .float _ _) rfl hb) .nil) rfl (p_gauge_Kind _ _ (gd_t hx43 hb)))) <|
  ils_guard rfl rfl (.one rfl) rfl (by decide) (fun hb => (iop_cmpx rfl rfl (lb rfl) (svcI rfl hb) (sv (d := .int _ 0) rfl) rfl hx44)) <|
  ils_cons rfl (iop_andx rfl rfl (lb rfl) (svB rfl) rfl rfl hx45) <|
  ils_cons rfl (mvB rfl rfl rfl rfl) <|
  ils_guard rfl rfl (.one rfl) rfl (by decide) (fun hb => (mvL rfl rfl rfl rfl)) <|
  ils_guard rfl rfl (.one rfl) rfl (by decide) (fun hb => (iop_idxT (eFlt .f64) (cs := [.float _ _]) rfl rfl (lb rfl) Try.underlying60 ti65 (svcL rfl hb) (sv (d := .int _ 2) rfl) (gd_t hx46 hb) rfl rfl)) <|
  ils_guard rfl rfl (.one rfl) rfl (by decide) (fun hb => (iop_load_fs rfl rfl (lb rfl) Try.underlying65 ag65 ti65 (by decide) (svc (d := .fptr [.float _ _]) rfl hb) (nle rfl))) <|
  ils_guard rfl rfl (.one rfl) rfl (by decide) (fun hb => (iop_fcmpx rfl rfl (lb rfl) (svc (d := .float _ _) rfl hb) (sv (d := .float _ _) rfl) rfl hx47)) <|
  ils_cons rfl (iop_andx rfl rfl (lb rfl) (svB rfl) rfl rfl hx48) <|
  ils_cons rfl (mvB rfl rfl rfl rfl) <|
  ils_guard rfl rfl (.one rfl) rfl (by decide) (fun hb => (lra q3 la35 rfl rfl rfl rfl rfl (nle rfl) rfl)) <|
  ils_guard rfl rfl (.one rfl) rfl (by decide) (fun hb => (iop_call (r := .int _ _) rfl rfl (lb rfl) cl28 (.cons (svcA (v0 x10.1) rfl hb) .nil) rfl (p_paths_Check _ _ (gd_t hx49 hb)))) <|
  ils_guard rfl rfl (.one rfl) rfl (by decide) (fun hb => (iop_cmpx rfl rfl (lb rfl) (svcI rfl hb) (sv (d := .int _ 0) rfl) rfl hx50)) <|
  ils_cons rfl (iop_andx rfl rfl (lb rfl) (svB rfl) rfl rfl hx51) <|
  ils_cons rfl (mvB rfl rfl rfl rfl) <|
  ils_guard rfl rfl (.one rfl) rfl (by decide) (fun hb => (iop_sub (d' := .agg (w14 false false 0 0 false false 0 0 false false 0 0 false false 0 0 0 ([] : List T_paths_Bind))) (iop_build_struct (cs := q5) rfl rfl (lb rfl) Try.underlying35 ti35 pl35 rfl .nil rfl) (.agg (.k4 (.k (.k4 (.k (.k4 (.k (.k (.k (.cons (.nils _) .nil)))))))))))) <|
  ils_guard rfl rfl (.one rfl) rfl (by decide) (fun hb => (iop_call (r := .int _ _) rfl rfl (lb rfl) cl28 (.cons (svc (d := .agg (w14 false false 0 0 false false 0 0 false false 0 0 false false 0 0 0 ([] : List T_paths_Bind))) rfl hb) .nil) rfl (p_paths_Check _ _ (gd_t hx52 hb)))) <|
  ils_guard rfl rfl (.one rfl) rfl (by decide) (fun hb => (iop_cmpx rfl rfl (lb rfl) (svcI rfl hb) (sv (d := .int _ 9) rfl) rfl hx53)) <|
  ils_cons rfl (iop_andx rfl rfl (lb rfl) (svB rfl) rfl rfl hx54) <|
  ils_cons rfl (mvB rfl rfl rfl rfl) <|
  ils_guard rfl rfl (.one rfl) rfl (by decide) (fun hb => (lra q3 la35 rfl rfl rfl rfl rfl (nle rfl) rfl)) <|
  ils_guard rfl rfl (.one rfl) rfl (by decide) (fun hb => (lra q3 la35 rfl rfl rfl rfl rfl (nle rfl) rfl)) <|
  ils_guard rfl rfl (.one rfl) rfl (by decide) (fun hb => (iop_call (r := .bool _) rfl rfl (lb rfl) cl34 (.cons (svcA (v0 x7.1) rfl hb) (.cons (svcA (v0 x8.1) rfl hb) .nil)) rfl (p_paths_Same _ _ _ (gd_t hx55 hb)))) <|
  ils_guard rfl rfl (.one rfl) rfl (by decide) (fun hb => (iop_not rfl rfl (lb rfl) (svcB rfl hb))) <|
  ils_cons rfl (iop_andx rfl rfl (lb rfl) (svB rfl) rfl rfl hx56) <|
  ils_cons rfl (mvB rfl rfl rfl rfl) <|
  ils_guard rfl rfl (.one rfl) rfl (by decide) (fun hb => (lra q3 la35 rfl rfl rfl rfl rfl (nle rfl) rfl)) <|
  ils_guard rfl rfl (.one rfl) rfl (by decide) (fun hb => (lra q3 la35 rfl rfl rfl rfl rfl (nle rfl) rfl)) <|
  ils_guard rfl rfl (.one rfl) rfl (by decide) (fun hb => (iop_call (r := .bool _) rfl rfl (lb rfl) cl34 (.cons (svcA (v0 x10.1) rfl hb) (.cons (svcA (v0 x10.1) rfl hb) .nil)) rfl (p_paths_Same _ _ _ (gd_t hx57 hb)))) <|
  ils_cons rfl (iop_andx rfl rfl (lb rfl) (svB rfl) rfl rfl hx58) <|
  ils_cons rfl (mvB rfl rfl rfl rfl) <|
  ils_cons rfl (iop_pickc rfl rfl (lb rfl) (svB rfl) rfl rfl hx59) <|
  ils_cons rfl (mvB rfl rfl rfl rfl) <|
  ils_cons rfl (iop_pickc rfl rfl (lb rfl) (svB rfl) rfl rfl hx60) <|
  ils_cons rfl (mvB rfl rfl rfl rfl) <|
  ils_cons rfl (iop_pickc rfl rfl (lb rfl) (svB rfl) rfl rfl hx61) <|
  ils_cons rfl (mvB rfl rfl rfl rfl) <|
  ils_cons rfl (iop_pickc rfl rfl (lb rfl) (svB rfl) rfl rfl hx62) <|
  ils_cons rfl (asB rfl rfl rfl rfl) <|
  ils_end ?_)
 refine iwp_ret ?_
 obtain rfl := Option.some.inj h
 refine ⟨.inr rfl, (.cons (sv rfl) .nil)⟩

theorem p_sennitlaw28_is (a0 : (List Int)) (a1 : Int) (r : Bool) (h : sennitlaw28_is a0 a1 = some r) : PureAt Try.prog 37 [.slice false (a0.map (eInt .i64).d), .int .i64 a1] (.bool r) := by
 refine pure_of_iwp (rs := [.bool r]) Try.func37 rfl Try.ntmps37 (nle rfl) rfl fun O hO => ?_
 show IWP _ _ _ _ ⟨[(0, .slice false (a0.map (eInt .i64).d)), (1, .int .i64 a1)], []⟩ _
 unfold sennitlaw28_is at h
 refine iwp_reg (ils_cons rfl (iop_assign rfl rfl (lb rfl) (sv (d := .bool false) rfl)) <|
  ils_end ?_)
 refine iwp_seq ?_
 refine iwp_reg (ils_cons rfl (iop_assign rfl rfl (lb rfl) (sv (d := .int _ 0) rfl)) <|
  ils_end ?_)
 refine iwp_block ?_
 refine iwp_loopP (α := Nat × Int) (fun z => ⟨[(0, .slice false (a0.map (eInt .i64).d)), (1, .int .i64 a1), (5, .int .i64 z.2)], []⟩) (fun z => sennitlaw28_is_L0 a0 a1 z.1 z.2 = some r) (fun z => z.1) (fuel, 0) (fun i => i) ⟨(.sames rfl rfl), .nil, nd_of [] rfl (by decide), fun _ _ => rfl⟩ ?_ ?_
 ·exact h
 ·
  rintro ⟨n0, v7⟩ h
  cases n0 with
  | zero => exact absurd h (by unfold sennitlaw28_is_L0; exact nofun)
  | succ n0 =>
   unfold sennitlaw28_is_L0 at h
   refine iwp_seq ?_
   obtain ⟨x14, hx14, h⟩ := bnd_e h
   refine iwp_reg (ils_cons rfl (mvI rfl rfl rfl rfl) <|
    ils_cons rfl (mvL rfl rfl rfl rfl) <|
    ils_cons rfl (iop_lenT (eInt .i64) (l := a0) rfl rfl (lb rfl) Try.underlying41 (svL rfl)) <|
    ils_cons rfl (iop_cmpx rfl rfl (lb rfl) (svI rfl) (svI rfl) rfl hx14) <|
    ils_end ?_)
   refine iwp_cond (b := _) rfl (fun hc15 => ?_) (fun hc15 => ?_)
   ·
    replace h := bif_t h hc15
    refine iwp_skip ?_
    refine thenQ_n ?_
    refine iwp_seq ?_
    refine iwp_block ?_
    obtain ⟨x16, hx16, h⟩ := bno_e h
    obtain ⟨x17, hx17, h⟩ := bnd_e h
    refine iwp_reg (ils_cons rfl (mvL rfl rfl rfl rfl) <|
     ils_cons rfl (mvI rfl rfl rfl rfl) <|
     ils_cons rfl (iop_idxT (eInt .i64) (cs := [.int _ _]) rfl rfl (lb rfl) Try.underlying41 ti3 (svL rfl) (svI rfl) hx16 rfl rfl) <|
     ils_cons rfl (iop_load_fs rfl rfl (lb rfl) Try.underlying3 ag3 ti3 (by decide) (sv (d := .fptr [.int _ _]) rfl) (nle rfl)) <|
     ils_cons rfl (mvI rfl rfl rfl rfl) <|
     ils_cons rfl (iop_cmpx rfl rfl (lb rfl) (svI rfl) (svI rfl) rfl hx17) <|
     ils_end ?_)
    refine iwp_cond (b := _) rfl (fun hc18 => ?_) (fun hc18 => ?_)
    ·
     replace h := bif_t h hc18
     refine iwp_reg (ils_cons rfl (iop_assign rfl rfl (lb rfl) (sv (d := .bool true) rfl)) <|
      ils_end ?_)
     refine iwp_ret ?_
     refine blockQ_r ?_
     refine thenQ_r ?_
     refine thenQ_r ?_
     refine blockQ_r ?_
     refine thenQ_r ?_
     obtain rfl := Option.some.inj h
     refine ⟨.inr rfl, (.cons (sv rfl) .nil)⟩
    ·
     replace h := bif_f h hc18
     refine iwp_skip ?_
     refine blockQ_n ?_
     refine thenQ_n ?_
     obtain ⟨x19, hx19, h⟩ := bnd_e h
     refine iwp_region (ils_cons rfl (mvI rfl rfl rfl rfl) <|
      ils_cons rfl (iop_intx rfl rfl (lb rfl) (svI rfl) (sv (d := .int _ 1) rfl) rfl hx19) <|
      ils_cons rfl (asI rfl rfl rfl rfl) <|
      ils_nil ?_)
     refine thenQ_n ⟨(n0, x19), (fun i => i), ⟨(.sames rfl rfl), .nil, nd_of [] rfl (by decide), fun _ _ => rfl⟩, ?_, ?_⟩
     exact h
     exact Nat.lt_succ_self _
   ·
    replace h := bif_f h hc15
    refine iwp_exit ?_
    refine thenQ_e ?_
    refine thenQ_e ?_
    refine blockQ_e ?_
    refine thenQ_n ?_
    refine iwp_reg (ils_cons rfl (iop_assign rfl rfl (lb rfl) (sv (d := .bool false) rfl)) <|
     ils_end ?_)
    refine iwp_ret ?_
    obtain rfl := Option.some.inj h
    refine ⟨.inr rfl, (.cons (sv rfl) .nil)⟩

theorem p_sennitlaw28_PathsBest (a0 : (List T_sennitlaw28_Act)) (a1 : Int) (r : Bool) (h : sennitlaw28_PathsBest a0 a1 = some r) : PureAt Try.prog 6 [.slice false (a0.map E_sennitlaw28_Act.d), .int .u8 a1] (.bool r) := by
 refine pure_of_iwp (rs := [.bool r]) Try.func6 rfl Try.ntmps6 (nle rfl) rfl fun O hO => ?_
 show IWP _ _ _ _ ⟨[(0, .slice false (a0.map E_sennitlaw28_Act.d)), (1, .int .u8 a1)], []⟩ _
 unfold sennitlaw28_PathsBest at h
 refine iwp_reg (ils_cons rfl (iop_assign rfl rfl (lb rfl) (sv (d := .bool false) rfl)) <|
  ils_end ?_)
 refine iwp_seq ?_
 obtain ⟨x1, hx1, h⟩ := bnd_e h
 refine iwp_reg (ils_cons rfl (mvL rfl rfl rfl rfl) <|
  ils_cons rfl (iop_lenT E_sennitlaw28_Act (l := a0) rfl rfl (lb rfl) Try.underlying75 (svL rfl)) <|
  ils_cons rfl (iop_cmpx rfl rfl (lb rfl) (svI rfl) (sv (d := .int _ 80) rfl) rfl hx1) <|
  ils_end ?_)
 refine iwp_cond (b := _) rfl (fun hc2 => ?_) (fun hc2 => ?_)
 ·
  replace h := bif_t h hc2
  obtain ⟨x3, hx3, h⟩ := bno_e h
  refine iwp_reg (ils_cons rfl (iop_call (r := .bool _) rfl rfl (lb rfl) cl8 .nil rfl (p_sennitlaw28_awake  _ hx3)) <|
   ils_cons rfl (asB rfl rfl rfl rfl) <|
   ils_end ?_)
  refine iwp_ret ?_
  refine thenQ_r ?_
  obtain rfl := Option.some.inj h
  refine ⟨.inr rfl, (.cons (sv rfl) .nil)⟩
 ·
  replace h := bif_f h hc2
  refine iwp_skip ?_
  refine thenQ_n ?_
  obtain ⟨x4, hx4, h⟩ := bno_e h
  refine iwp_reg (ils_cons rfl (iop_call (r := .agg q3) rfl rfl (lb rfl) cl35 .nil rfl (p_paths_New  _ hx4)) <|
   ils_cons rfl (iop_allocS (cs := q5) (cs' := (w14 false false 0 0 false false 0 0 false false 0 0 false false 0 0 0 ([] : List T_paths_Bind))) 0 rfl rfl (lb rfl) rfl ti35 rfl rfl (.k4 (.k (.k4 (.k (.k4 (.k (.k (.k (.cons (.nils _) .nil)))))))))) <|
   ils_cons rfl (stA q3 q3 ti35 rfl rfl rfl rfl rfl rfl rfl rfl (nle rfl) rfl) <|
   ils_end ?_)
  refine iwp_seq ?_
  refine iwp_reg (ils_cons rfl (iop_assign rfl rfl (lb rfl) (sv (d := .int _ 0) rfl)) <|
   ils_end ?_)
  refine iwp_block ?_
  refine iwp_loopP (α := Nat × Int × Bool × Bool × Int × Int × Bool × Bool × Int × Int × Bool × Bool × Int × Int × Bool × Bool × Int × Int × Int × (List T_paths_Bind)) (fun z => ⟨[(0, .slice false (a0.map E_sennitlaw28_Act.d)), (1, .int .u8 a1), (5, .ref 0 0), (6, .int .i64 z.2.1)], [(0, .blk 35 (w14 z.2.2.1 z.2.2.2.1 z.2.2.2.2.1 z.2.2.2.2.2.1 z.2.2.2.2.2.2.1 z.2.2.2.2.2.2.2.1 z.2.2.2.2.2.2.2.2.1 z.2.2.2.2.2.2.2.2.2.1 z.2.2.2.2.2.2.2.2.2.2.1 z.2.2.2.2.2.2.2.2.2.2.2.1 z.2.2.2.2.2.2.2.2.2.2.2.2.1 z.2.2.2.2.2.2.2.2.2.2.2.2.2.1 z.2.2.2.2.2.2.2.2.2.2.2.2.2.2.1 z.2.2.2.2.2.2.2.2.2.2.2.2.2.2.2.1 z.2.2.2.2.2.2.2.2.2.2.2.2.2.2.2.2.1 z.2.2.2.2.2.2.2.2.2.2.2.2.2.2.2.2.2.1 z.2.2.2.2.2.2.2.2.2.2.2.2.2.2.2.2.2.2.1 z.2.2.2.2.2.2.2.2.2.2.2.2.2.2.2.2.2.2.2))]⟩) (fun z => sennitlaw28_PathsBest_L0 a0 a1 z.1 z.2.1 z.2.2.1 z.2.2.2.1 z.2.2.2.2.1 z.2.2.2.2.2.1 z.2.2.2.2.2.2.1 z.2.2.2.2.2.2.2.1 z.2.2.2.2.2.2.2.2.1 z.2.2.2.2.2.2.2.2.2.1 z.2.2.2.2.2.2.2.2.2.2.1 z.2.2.2.2.2.2.2.2.2.2.2.1 z.2.2.2.2.2.2.2.2.2.2.2.2.1 z.2.2.2.2.2.2.2.2.2.2.2.2.2.1 z.2.2.2.2.2.2.2.2.2.2.2.2.2.2.1 z.2.2.2.2.2.2.2.2.2.2.2.2.2.2.2.1 z.2.2.2.2.2.2.2.2.2.2.2.2.2.2.2.2.1 z.2.2.2.2.2.2.2.2.2.2.2.2.2.2.2.2.2.1 z.2.2.2.2.2.2.2.2.2.2.2.2.2.2.2.2.2.2.1 z.2.2.2.2.2.2.2.2.2.2.2.2.2.2.2.2.2.2.2 = some r) (fun z => z.1) (fuel, 0, x4.Lines.c0.Up, x4.Lines.c0.Dead, x4.Lines.c0.Bytes, x4.Lines.c0.Ticks, x4.Lines.c1.Up, x4.Lines.c1.Dead, x4.Lines.c1.Bytes, x4.Lines.c1.Ticks, x4.Lines.c2.Up, x4.Lines.c2.Dead, x4.Lines.c2.Bytes, x4.Lines.c2.Ticks, x4.Lines.c3.Up, x4.Lines.c3.Dead, x4.Lines.c3.Bytes, x4.Lines.c3.Ticks, x4.Pinned, x4.Binds) (fun i => i) ⟨(.sames rfl rfl), (.cons (.blk rfl rfl rfl) .nil), nd_of [0] rfl (by decide), fun _ _ => rfl⟩ ?_ ?_
  ·exact h
  ·
   rintro ⟨n0, v28, v29, v30, v31, v32, v33, v34, v35, v36, v37, v38, v39, v40, v41, v42, v43, v44, v45, v46⟩ h
   cases n0 with
   | zero => exact absurd h (by unfold sennitlaw28_PathsBest_L0; exact nofun)
   | succ n0 =>
    unfold sennitlaw28_PathsBest_L0 at h
    refine iwp_seq ?_
    obtain ⟨x70, hx70, h⟩ := bnd_e h
    refine iwp_reg (ils_cons rfl (mvI rfl rfl rfl rfl) <|
     ils_cons rfl (mvL rfl rfl rfl rfl) <|
     ils_cons rfl (iop_lenT E_sennitlaw28_Act (l := a0) rfl rfl (lb rfl) Try.underlying75 (svL rfl)) <|
     ils_cons rfl (iop_cmpx rfl rfl (lb rfl) (svI rfl) (svI rfl) rfl hx70) <|
     ils_end ?_)
    refine iwp_cond (b := _) rfl (fun hc71 => ?_) (fun hc71 => ?_)
    ·
     replace h := bif_t h hc71
     refine iwp_skip ?_
     refine thenQ_n ?_
     refine iwp_seq ?_
     refine iwp_block ?_
     obtain ⟨x72, hx72, h⟩ := bno_e h
     obtain ⟨x73, hx73, h⟩ := bnd_e h
     refine iwp_reg (ils_cons rfl (mvL rfl rfl rfl rfl) <|
      ils_cons rfl (mvI rfl rfl rfl rfl) <|
      ils_cons rfl (iop_idxT E_sennitlaw28_Act (cs := q7) rfl rfl (lb rfl) Try.underlying75 ti79 (svL rfl) (svI rfl) hx72 rfl rfl) <|
      ils_cons rfl (iop_fieldAddr_fptr (cs' := [.int _ _]) rfl rfl (lb rfl) Try.underlying79 rfl ti5 (by decide) (sv (d := .fptr q7) rfl) rfl) <|
      ils_cons rfl (iop_load_fs rfl rfl (lb rfl) Try.underlying5 ag5 ti5 (by decide) (sv (d := .fptr [.int _ _]) rfl) (nle rfl)) <|
      ils_cons rfl (iop_int_conv rfl rfl (lb rfl) ⟨_, Try.underlying5⟩ Try.underlying3 (svI rfl) hx73) <|
      ils_cons rfl (asI rfl rfl rfl rfl) <|
      ils_end ?_)
     obtain ⟨x74, hx74, h⟩ := bno_e h
     obtain ⟨x75, hx75, h⟩ := bno_e h
     refine iwp_reg (ils_cons rfl (mvL rfl rfl rfl rfl) <|
      ils_cons rfl (mvI rfl rfl rfl rfl) <|
      ils_cons rfl (iop_idxT E_sennitlaw28_Act (cs := q7) rfl rfl (lb rfl) Try.underlying75 ti79 (svL rfl) (svI rfl) hx74 rfl rfl) <|
      ils_cons rfl (iop_fieldAddr_fptr (cs' := [.int _ _]) rfl rfl (lb rfl) Try.underlying79 rfl ti5 (by decide) (sv (d := .fptr q7) rfl) rfl) <|
      ils_cons rfl (iop_load_fs rfl rfl (lb rfl) Try.underlying5 ag5 ti5 (by decide) (sv (d := .fptr [.int _ _]) rfl) (nle rfl)) <|
      ils_cons rfl (iop_remx rfl rfl (lb rfl) (svI rfl) (sv (d := .int _ 3) rfl) hx75) <|
      ils_end ?_)
     refine iwp_block ?_
     obtain ⟨x76, hx76, h⟩ := bnd_e h
     refine iwp_reg (ils_cons rfl (iop_cmpx rfl rfl (lb rfl) (svI rfl) (sv (d := .int _ 0) rfl) rfl hx76) <|
      ils_cons rfl (asB rfl rfl rfl rfl) <|
      ils_end ?_)
     refine iwp_cond (b := _) rfl (fun hc77 => ?_) (fun hc77 => ?_)
     ·
      replace h := bif_t h hc77
      obtain ⟨x78, hx78, h⟩ := bno_e h
      obtain ⟨x79, hx79, h⟩ := bno_e h
      refine iwp_region (ils_cons rfl (lra q3 la35 rfl rfl rfl rfl rfl (nle rfl) rfl) <|
       ils_cons rfl (mvI rfl rfl rfl rfl) <|
       ils_cons rfl (iop_remx rfl rfl (lb rfl) (svI rfl) (sv (d := .int _ 4) rfl) hx78) <|
       ils_cons rfl (iop_call (r := .tuple q13) rfl rfl (lb rfl) cl10 (.cons (svA q3 rfl) (.cons (svI rfl) .nil)) rfl (p_paths_Rise _ _ _ hx79)) <|
       ils_cons rfl (iop_move rfl rfl (lb rfl) (sv (d := .tuple q13) rfl)) <|
       ils_cons rfl (iop_extract (d := .agg q3) rfl rfl (lb rfl) (sv (d := .tuple q13) rfl) rfl) <|
       ils_cons rfl (iop_extract (d := .bool _) rfl rfl (lb rfl) (sv (d := .tuple q13) rfl) rfl) <|
       ils_cons rfl (stA q3 q3 ti35 rfl rfl rfl rfl rfl rfl rfl rfl (nle rfl) rfl) <|
       ils_nil ?_)
      refine blockQ_n ?_
      refine blockQ_n ?_
      refine thenQ_n ?_
      obtain ⟨x80, hx80, h⟩ := bnd_e h
      refine iwp_region (ils_cons rfl (mvI rfl rfl rfl rfl) <|
       ils_cons rfl (iop_intx rfl rfl (lb rfl) (svI rfl) (sv (d := .int _ 1) rfl) rfl hx80) <|
       ils_cons rfl (asI rfl rfl rfl rfl) <|
       ils_nil ?_)
      refine thenQ_n ⟨(n0, x80, x79.1.Lines.c0.Up, x79.1.Lines.c0.Dead, x79.1.Lines.c0.Bytes, x79.1.Lines.c0.Ticks, x79.1.Lines.c1.Up, x79.1.Lines.c1.Dead, x79.1.Lines.c1.Bytes, x79.1.Lines.c1.Ticks, x79.1.Lines.c2.Up, x79.1.Lines.c2.Dead, x79.1.Lines.c2.Bytes, x79.1.Lines.c2.Ticks, x79.1.Lines.c3.Up, x79.1.Lines.c3.Dead, x79.1.Lines.c3.Bytes, x79.1.Lines.c3.Ticks, x79.1.Pinned, x79.1.Binds), (fun i => i), ⟨(.sames rfl rfl), (.cons (.blk rfl rfl rfl) .nil), nd_of [0] rfl (by decide), fun _ _ => rfl⟩, ?_, ?_⟩
      exact h
      exact Nat.lt_succ_self _
     ·
      replace h := bif_f h hc77
      obtain ⟨x81, hx81, h⟩ := bnd_e h
      refine iwp_reg (ils_cons rfl (iop_cmpx rfl rfl (lb rfl) (svI rfl) (sv (d := .int _ 1) rfl) rfl hx81) <|
       ils_cons rfl (asB rfl rfl rfl rfl) <|
       ils_end ?_)
      refine iwp_cond (b := _) rfl (fun hc82 => ?_) (fun hc82 => ?_)
      ·
       replace h := bif_t h hc82
       obtain ⟨x83, hx83, h⟩ := bno_e h
       obtain ⟨x84, hx84, h⟩ := bno_e h
       refine iwp_region (ils_cons rfl (lra q3 la35 rfl rfl rfl rfl rfl (nle rfl) rfl) <|
        ils_cons rfl (mvI rfl rfl rfl rfl) <|
        ils_cons rfl (iop_remx rfl rfl (lb rfl) (svI rfl) (sv (d := .int _ 8) rfl) hx83) <|
        ils_cons rfl (iop_call (r := .tuple q11) rfl rfl (lb rfl) cl12 (.cons (svA q3 rfl) (.cons (svI rfl) .nil)) rfl (p_paths_Fall _ _ _ hx84)) <|
        ils_cons rfl (iop_move rfl rfl (lb rfl) (sv (d := .tuple q11) rfl)) <|
        ils_cons rfl (iop_extract (d := .agg q3) rfl rfl (lb rfl) (sv (d := .tuple q11) rfl) rfl) <|
        ils_cons rfl (iop_extract (d := .slice _ _) rfl rfl (lb rfl) (sv (d := .tuple q11) rfl) rfl) <|
        ils_cons rfl (iop_extract (d := .bool _) rfl rfl (lb rfl) (sv (d := .tuple q11) rfl) rfl) <|
        ils_cons rfl (stA q3 q3 ti35 rfl rfl rfl rfl rfl rfl rfl rfl (nle rfl) rfl) <|
        ils_nil ?_)
       refine blockQ_n ?_
       refine blockQ_n ?_
       refine thenQ_n ?_
       obtain ⟨x85, hx85, h⟩ := bnd_e h
       refine iwp_region (ils_cons rfl (mvI rfl rfl rfl rfl) <|
        ils_cons rfl (iop_intx rfl rfl (lb rfl) (svI rfl) (sv (d := .int _ 1) rfl) rfl hx85) <|
        ils_cons rfl (asI rfl rfl rfl rfl) <|
        ils_nil ?_)
       refine thenQ_n ⟨(n0, x85, x84.1.Lines.c0.Up, x84.1.Lines.c0.Dead, x84.1.Lines.c0.Bytes, x84.1.Lines.c0.Ticks, x84.1.Lines.c1.Up, x84.1.Lines.c1.Dead, x84.1.Lines.c1.Bytes, x84.1.Lines.c1.Ticks, x84.1.Lines.c2.Up, x84.1.Lines.c2.Dead, x84.1.Lines.c2.Bytes, x84.1.Lines.c2.Ticks, x84.1.Lines.c3.Up, x84.1.Lines.c3.Dead, x84.1.Lines.c3.Bytes, x84.1.Lines.c3.Ticks, x84.1.Pinned, x84.1.Binds), (fun i => i), ⟨(.sames rfl rfl), (.cons (.blk rfl rfl rfl) .nil), nd_of [0] rfl (by decide), fun _ _ => rfl⟩, ?_, ?_⟩
       exact h
       exact Nat.lt_succ_self _
      ·
       replace h := bif_f h hc82
       obtain ⟨x86, hx86, h⟩ := bno_e h
       obtain ⟨x87, hx87, h⟩ := bno_e h
       obtain ⟨x88, hx88, h⟩ := bnd_e h
       obtain ⟨x89, hx89, h⟩ := bno_e h
       obtain ⟨x90, hx90, h⟩ := bnd_e h
       obtain ⟨x91, hx91, h⟩ := bno_e h
       refine iwp_draw rfl [⟨[5], [0], [(41, .agg (w14 v29 v30 v31 v32 v33 v34 v35 v36 v37 v38 v39 v40 v41 v42 v43 v44 v45 v46))], []⟩,
        ⟨[0], [], [(42, .slice false (a0.map E_sennitlaw28_Act.d))], []⟩,
        ⟨[6], [], [(43, .int .i64 v28)], []⟩,
        ⟨[42, 43], [], [(44, .fptr (v2 x86))], []⟩,
        ⟨[44], [], [(45, .fptr [.int .u8 x86.Path])], []⟩,
        ⟨[45], [], [(46, .int .u8 x86.Path)], []⟩,
        ⟨[46], [], [(47, .int .u8 x87)], []⟩,
        ⟨[47], [], [(48, .int .i64 x88)], []⟩,
        ⟨[7], [], [(49, .int .i64 x73)], []⟩,
        ⟨[0], [], [(50, .slice false (a0.map E_sennitlaw28_Act.d))], []⟩,
        ⟨[6], [], [(51, .int .i64 v28)], []⟩,
        ⟨[50, 51], [], [(52, .fptr (v2 x89))], []⟩,
        ⟨[52], [], [(53, .fptr [.int .u8 x89.M])], []⟩,
        ⟨[53], [], [(54, .int .u8 x89.M)], []⟩,
        ⟨[54], [], [(55, .int .i64 x90)], []⟩,
        ⟨[41, 48, 49, 55], [], [(56, .agg (v0 x91))], []⟩,
        ⟨[5, 56], [0], [], [(0, .blk 35 (v0 x91))]⟩] rfl ?_ (by kernel_rfl) ?_
       ·refine .cons (lop rfl rfl fun S hA => (iop_load_ra (cs := q3) rfl rfl (lb rfl) Try.underlying35 ag35 ti35 (by decide) (svaR hA rfl rfl) (agi hA rfl rfl) (nle rfl) rfl)) ?_
        refine .cons (lop rfl rfl fun S hA => (iop_move rfl rfl (lb rfl) (svaL hA rfl rfl))) ?_
        refine .cons (lop rfl rfl fun S hA => (iop_move rfl rfl (lb rfl) (svaI hA rfl rfl))) ?_
        refine .cons (lop rfl rfl fun S hA => (iop_idxT E_sennitlaw28_Act (cs := q7) rfl rfl (lb rfl) Try.underlying75 ti79 (svaL hA rfl rfl) (svaI hA rfl rfl) hx86 rfl rfl)) ?_
        refine .cons (lop rfl rfl fun S hA => (iop_fieldAddr_fptr (cs' := [.int _ _]) rfl rfl (lb rfl) Try.underlying79 rfl ti5 (by decide) (sv (d := .fptr q7) (agr hA rfl rfl)) rfl)) ?_
        refine .cons (lop rfl rfl fun S hA => (iop_load_fs rfl rfl (lb rfl) Try.underlying5 ag5 ti5 (by decide) (sv (d := .fptr [.int _ _]) (agr hA rfl rfl)) (nle rfl))) ?_
        refine .cons (lop rfl rfl fun S hA => (iop_remx rfl rfl (lb rfl) (svaI hA rfl rfl) (sv (d := .int _ 4) rfl) hx87)) ?_
        refine .cons (lop rfl rfl fun S hA => (iop_int_conv rfl rfl (lb rfl) ⟨_, Try.underlying5⟩ Try.underlying3 (svaI hA rfl rfl) hx88)) ?_
        refine .cons (lop rfl rfl fun S hA => (iop_move rfl rfl (lb rfl) (svaI hA rfl rfl))) ?_
        refine .cons (lop rfl rfl fun S hA => (iop_move rfl rfl (lb rfl) (svaL hA rfl rfl))) ?_
        refine .cons (lop rfl rfl fun S hA => (iop_move rfl rfl (lb rfl) (svaI hA rfl rfl))) ?_
        refine .cons (lop rfl rfl fun S hA => (iop_idxT E_sennitlaw28_Act (cs := q7) rfl rfl (lb rfl) Try.underlying75 ti79 (svaL hA rfl rfl) (svaI hA rfl rfl) hx89 rfl rfl)) ?_
        refine .cons (lop rfl rfl fun S hA => (iop_fieldAddr_fptr (cs' := [.int _ _]) rfl rfl (lb rfl) Try.underlying79 rfl ti5 (by decide) (sv (d := .fptr q7) (agr hA rfl rfl)) rfl)) ?_
        refine .cons (lop rfl rfl fun S hA => (iop_load_fs rfl rfl (lb rfl) Try.underlying5 ag5 ti5 (by decide) (sv (d := .fptr [.int _ _]) (agr hA rfl rfl)) (nle rfl))) ?_
        refine .cons (lop rfl rfl fun S hA => (iop_int_conv rfl rfl (lb rfl) ⟨_, Try.underlying5⟩ Try.underlying3 (svaI hA rfl rfl) hx90)) ?_
        refine .cons (lop rfl rfl fun S hA => (iop_call (r := .agg q3) rfl rfl (lb rfl) cl21 (.cons (svaA q3 hA rfl rfl) (.cons (svaI hA rfl rfl) (.cons (svaI hA rfl rfl) (.cons (svaI hA rfl rfl) .nil)))) rfl (p_paths_Note _ _ _ _ _ hx91))) ?_
        refine .cons (lop rfl rfl fun S hA => (iop_store (ds' := q3) rfl rfl ti35 (svaR hA rfl rfl) (agi hA rfl rfl) (svaA q3 hA rfl rfl) rfl rfl rfl (nle rfl) rfl)) ?_
        exact .nil
       refine blockQ_n ?_
       refine blockQ_n ?_
       refine thenQ_n ?_
       obtain ⟨x92, hx92, h⟩ := bnd_e h
       refine iwp_region (ils_cons rfl (mvI rfl rfl rfl rfl) <|
        ils_cons rfl (iop_intx rfl rfl (lb rfl) (svI rfl) (sv (d := .int _ 1) rfl) rfl hx92) <|
        ils_cons rfl (asI rfl rfl rfl rfl) <|
        ils_nil ?_)
       refine thenQ_n ⟨(n0, x92, x91.Lines.c0.Up, x91.Lines.c0.Dead, x91.Lines.c0.Bytes, x91.Lines.c0.Ticks, x91.Lines.c1.Up, x91.Lines.c1.Dead, x91.Lines.c1.Bytes, x91.Lines.c1.Ticks, x91.Lines.c2.Up, x91.Lines.c2.Dead, x91.Lines.c2.Bytes, x91.Lines.c2.Ticks, x91.Lines.c3.Up, x91.Lines.c3.Dead, x91.Lines.c3.Bytes, x91.Lines.c3.Ticks, x91.Pinned, x91.Binds), (fun i => i), ⟨(.sames rfl rfl), (.cons (.blk rfl rfl rfl) .nil), nd_of [0] rfl (by decide), fun _ _ => rfl⟩, ?_, ?_⟩
       exact h
       exact Nat.lt_succ_self _
    ·
     replace h := bif_f h hc71
     refine iwp_exit ?_
     refine thenQ_e ?_
     refine thenQ_e ?_
     refine blockQ_e ?_
     refine thenQ_n ?_
     obtain ⟨x93, hx93, h⟩ := bno_e h
     refine iwp_reg (ils_cons rfl (lra q3 la35 rfl rfl rfl rfl rfl (nle rfl) rfl) <|
      ils_cons rfl (iop_call (r := .int _ _) rfl rfl (lb rfl) cl32 (.cons (svA q3 rfl) .nil) rfl (p_paths_Best _ _ hx93)) <|
      ils_cons rfl (asI rfl rfl rfl rfl) <|
      ils_end ?_)
     obtain ⟨x94, hx94, h⟩ := bno_e h
     refine iwp_reg (ils_cons rfl (lra q3 la35 rfl rfl rfl rfl rfl (nle rfl) rfl) <|
      ils_cons rfl (iop_call (r := .slice _ _) rfl rfl (lb rfl) cl30 (.cons (svA q3 rfl) .nil) rfl (p_paths_Alive _ _ hx94)) <|
      ils_cons rfl (iop_assign rfl rfl (lb rfl) (svL rfl)) <|
      ils_end ?_)
     refine iwp_seq ?_
     obtain ⟨x95, hx95, h⟩ := bnd_e h
     refine iwp_reg (ils_cons rfl (mvL rfl rfl rfl rfl) <|
      ils_cons rfl (iop_lenT (eInt .i64) (l := x94) rfl rfl (lb rfl) Try.underlying41 (svL rfl)) <|
      ils_cons rfl (iop_cmpx rfl rfl (lb rfl) (svI rfl) (sv (d := .int _ 0) rfl) rfl hx95) <|
      ils_end ?_)
     refine iwp_cond (b := _) rfl (fun hc96 => ?_) (fun hc96 => ?_)
     ·
      replace h := bif_t h hc96
      obtain ⟨x97, hx97, h⟩ := bnd_e h
      obtain ⟨x98, hx98, h⟩ := bno_e h
      obtain ⟨x99, hx99, h⟩ := bnd_e h
      refine iwp_reg (ils_cons rfl (mvI rfl rfl rfl rfl) <|
       ils_cons rfl (iop_cmpx rfl rfl (lb rfl) (svI rfl) (sv (d := .int _ (-1)) rfl) rfl hx97) <|
       ils_cons rfl (mvB rfl rfl rfl rfl) <|
       ils_guard rfl rfl (.one rfl) rfl (by decide) (fun hb => (iop_call (r := .bool _) rfl rfl (lb rfl) cl8 .nil rfl (p_sennitlaw28_awake  _ (gd_t hx98 hb)))) <|
       ils_cons rfl (iop_andx rfl rfl (lb rfl) (svB rfl) rfl rfl hx99) <|
       ils_cons rfl (asB rfl rfl rfl rfl) <|
       ils_end ?_)
      refine iwp_ret ?_
      refine thenQ_r ?_
      obtain rfl := Option.some.inj h
      refine ⟨.inr rfl, (.cons (sv rfl) .nil)⟩
     ·
      replace h := bif_f h hc96
      refine iwp_skip ?_
      refine thenQ_n ?_
      obtain ⟨x100, hx100, h⟩ := bno_e h
      refine iwp_reg (ils_cons rfl (lra q3 la35 rfl rfl rfl rfl rfl (nle rfl) rfl) <|
       ils_cons rfl (iop_call (r := .slice _ _) rfl rfl (lb rfl) cl25 (.cons (svA q3 rfl) .nil) rfl (p_paths_Rates _ _ hx100)) <|
       ils_cons rfl (iop_assign rfl rfl (lb rfl) (svL rfl)) <|
       ils_end ?_)
      refine iwp_seq ?_
      obtain ⟨x101, hx101, h⟩ := bno_e h
      obtain ⟨x102, hx102, h⟩ := bnd_e h
      obtain ⟨x103, hx103, h⟩ := bnd_e h
      refine iwp_reg (ils_cons rfl (mvL rfl rfl rfl rfl) <|
       ils_cons rfl (mvI rfl rfl rfl rfl) <|
       ils_cons rfl (iop_call (r := .bool _) rfl rfl (lb rfl) cl37 (.cons (svL rfl) (.cons (svI rfl) .nil)) rfl (p_sennitlaw28_is _ _ _ hx101)) <|
       ils_cons rfl (iop_not rfl rfl (lb rfl) (svB rfl)) <|
       ils_cons rfl (mvB rfl rfl rfl rfl) <|
       ils_guard rfl rfl (.one rfl) rfl (by decide) (fun hb => (mvL rfl rfl rfl rfl)) <|
       ils_guard rfl rfl (.one rfl) rfl (by decide) (fun hb => (iop_lenT (eFlt .f64) (l := x100) rfl rfl (lb rfl) Try.underlying60 (svcL rfl hb))) <|
       ils_guard rfl rfl (.one rfl) rfl (by decide) (fun hb => (iop_cmpx rfl rfl (lb rfl) (svcI rfl hb) (sv (d := .int _ 4) rfl) rfl hx102)) <|
       ils_cons rfl (iop_orx rfl rfl (lb rfl) (svB rfl) rfl rfl hx103) <|
       ils_end ?_)
      refine iwp_cond (b := _) rfl (fun hc104 => ?_) (fun hc104 => ?_)
      ·
       replace h := bif_t h hc104
       refine iwp_reg (ils_cons rfl (iop_assign rfl rfl (lb rfl) (sv (d := .bool false) rfl)) <|
        ils_end ?_)
       refine iwp_ret ?_
       refine thenQ_r ?_
       obtain rfl := Option.some.inj h
       refine ⟨.inr rfl, (.cons (sv rfl) .nil)⟩
      ·
       replace h := bif_f h hc104
       refine iwp_skip ?_
       refine thenQ_n ?_
       refine iwp_seq ?_
       refine iwp_reg (ils_cons rfl (iop_assign rfl rfl (lb rfl) (sv (d := .int _ 0) rfl)) <|
        ils_end ?_)
       refine iwp_block ?_
       refine iwp_loopP (α := Nat × Int) (fun z => ⟨[(1, .int .u8 a1), (5, .ref 0 0), (8, .int .i64 x93), (9, .slice false (x94.map (eInt .i64).d)), (10, .slice false (x100.map (eFlt .f64).d)), (11, .int .i64 z.2)], [(0, .blk 35 (w14 v29 v30 v31 v32 v33 v34 v35 v36 v37 v38 v39 v40 v41 v42 v43 v44 v45 v46))]⟩) (fun z => sennitlaw28_PathsBest_L1 a1 v29 v30 v31 v32 v33 v34 v35 v36 v37 v38 v39 v40 v41 v42 v43 v44 v45 v46 x93 x94 x100 z.1 z.2 = some r) (fun z => z.1) (fuel, 0) (fun i => i) ⟨(.sames rfl rfl), (.cons (.blk rfl rfl rfl) .nil), nd_of [0] rfl (by decide), fun _ _ => rfl⟩ ?_ ?_
       ·exact h
       ·
        rintro ⟨n1, v114⟩ h
        cases n1 with
        | zero => exact absurd h (by unfold sennitlaw28_PathsBest_L1; exact nofun)
        | succ n1 =>
         unfold sennitlaw28_PathsBest_L1 at h
         refine iwp_seq ?_
         obtain ⟨x124, hx124, h⟩ := bnd_e h
         refine iwp_reg (ils_cons rfl (mvI rfl rfl rfl rfl) <|
          ils_cons rfl (mvL rfl rfl rfl rfl) <|
          ils_cons rfl (iop_lenT (eInt .i64) (l := x94) rfl rfl (lb rfl) Try.underlying41 (svL rfl)) <|
          ils_cons rfl (iop_cmpx rfl rfl (lb rfl) (svI rfl) (svI rfl) rfl hx124) <|
          ils_end ?_)
         refine iwp_cond (b := _) rfl (fun hc125 => ?_) (fun hc125 => ?_)
         ·
          replace h := bif_t h hc125
          refine iwp_skip ?_
          refine thenQ_n ?_
          refine iwp_seq ?_
          refine iwp_block ?_
          obtain ⟨x126, hx126, h⟩ := bno_e h
          obtain ⟨x127, hx127, h⟩ := bno_e h
          obtain ⟨x128, hx128, h⟩ := bno_e h
          obtain ⟨x129, hx129, h⟩ := bno_e h
          obtain ⟨x130, hx130, h⟩ := bnd_e h
          refine iwp_drw rfl [⟨[10], [], [(105, .slice false (x100.map (eFlt .f64).d))], []⟩,
           ⟨[9], [], [(106, .slice false (x94.map (eInt .i64).d))], []⟩,
           ⟨[11], [], [(107, .int .i64 v114)], []⟩,
           ⟨[106, 107], [], [(108, .fptr [.int .i64 x126])], []⟩,
           ⟨[108], [], [(109, .int .i64 x126)], []⟩,
           ⟨[105, 109], [], [(110, .fptr [.float .f64 x127])], []⟩,
           ⟨[110], [], [(111, .float .f64 x127)], []⟩,
           ⟨[10], [], [(112, .slice false (x100.map (eFlt .f64).d))], []⟩,
           ⟨[8], [], [(113, .int .i64 x93)], []⟩,
           ⟨[112, 113], [], [(114, .fptr [.float .f64 x128])], []⟩,
           ⟨[114], [], [(115, .float .f64 x128)], []⟩,
           ⟨[111, 115], [], [(116, .int .i64 x129)], []⟩,
           ⟨[116], [], [(117, .bool x130)], []⟩] rfl ?_ (by kernel_rfl) ?_
          ·refine .cons (lop rfl rfl fun S hA => (iop_move rfl rfl (lb rfl) (svaL hA rfl rfl))) ?_
           refine .cons (lop rfl rfl fun S hA => (iop_move rfl rfl (lb rfl) (svaL hA rfl rfl))) ?_
           refine .cons (lop rfl rfl fun S hA => (iop_move rfl rfl (lb rfl) (svaI hA rfl rfl))) ?_
           refine .cons (lop rfl rfl fun S hA => (iop_idxT (eInt .i64) (cs := [.int _ _]) rfl rfl (lb rfl) Try.underlying41 ti3 (svaL hA rfl rfl) (svaI hA rfl rfl) hx126 rfl rfl)) ?_
           refine .cons (lop rfl rfl fun S hA => (iop_load_fs rfl rfl (lb rfl) Try.underlying3 ag3 ti3 (by decide) (sv (d := .fptr [.int _ _]) (agr hA rfl rfl)) (nle rfl))) ?_
           refine .cons (lop rfl rfl fun S hA => (iop_idxT (eFlt .f64) (cs := [.float _ _]) rfl rfl (lb rfl) Try.underlying60 ti65 (svaL hA rfl rfl) (svaI hA rfl rfl) hx127 rfl rfl)) ?_
           refine .cons (lop rfl rfl fun S hA => (iop_load_fs rfl rfl (lb rfl) Try.underlying65 ag65 ti65 (by decide) (sv (d := .fptr [.float _ _]) (agr hA rfl rfl)) (nle rfl))) ?_
           refine .cons (lop rfl rfl fun S hA => (iop_move rfl rfl (lb rfl) (svaL hA rfl rfl))) ?_
           refine .cons (lop rfl rfl fun S hA => (iop_move rfl rfl (lb rfl) (svaI hA rfl rfl))) ?_
           refine .cons (lop rfl rfl fun S hA => (iop_idxT (eFlt .f64) (cs := [.float _ _]) rfl rfl (lb rfl) Try.underlying60 ti65 (svaL hA rfl rfl) (svaI hA rfl rfl) hx128 rfl rfl)) ?_
           refine .cons (lop rfl rfl fun S hA => (iop_load_fs rfl rfl (lb rfl) Try.underlying65 ag65 ti65 (by decide) (sv (d := .fptr [.float _ _]) (agr hA rfl rfl)) (nle rfl))) ?_
           refine .cons (lop rfl rfl fun S hA => (iop_call (r := .int _ _) rfl rfl (lb rfl) cl38 (.cons (sv (d := .float _ _) (agr hA rfl rfl)) (.cons (sv (d := .float _ _) (agr hA rfl rfl)) .nil)) rfl (p_gauge_Compare _ _ _ hx129))) ?_
           refine .cons (lop rfl rfl fun S hA => (iop_cmpx rfl rfl (lb rfl) (svaI hA rfl rfl) (sv (d := .int _ 0) rfl) rfl hx130)) ?_
           exact .nil
          refine iwp_cond (b := _) rfl (fun hc131 => ?_) (fun hc131 => ?_)
          ·
           replace h := bif_t h hc131
           refine iwp_reg (ils_cons rfl (iop_assign rfl rfl (lb rfl) (sv (d := .bool false) rfl)) <|
            ils_end ?_)
           refine iwp_ret ?_
           refine blockQ_r ?_
           refine thenQ_r ?_
           refine thenQ_r ?_
           refine blockQ_r ?_
           refine thenQ_r ?_
           obtain rfl := Option.some.inj h
           refine ⟨.inr rfl, (.cons (sv rfl) .nil)⟩
          ·
           replace h := bif_f h hc131
           refine iwp_skip ?_
           refine blockQ_n ?_
           refine thenQ_n ?_
           obtain ⟨x132, hx132, h⟩ := bnd_e h
           refine iwp_region (ils_cons rfl (mvI rfl rfl rfl rfl) <|
            ils_cons rfl (iop_intx rfl rfl (lb rfl) (svI rfl) (sv (d := .int _ 1) rfl) rfl hx132) <|
            ils_cons rfl (asI rfl rfl rfl rfl) <|
            ils_nil ?_)
           refine thenQ_n ⟨(n1, x132), (fun i => i), ⟨(.sames rfl rfl), (.cons (.blk rfl rfl rfl) .nil), nd_of [0] rfl (by decide), fun _ _ => rfl⟩, ?_, ?_⟩
           exact h
           exact Nat.lt_succ_self _
         ·
          replace h := bif_f h hc125
          refine iwp_exit ?_
          refine thenQ_e ?_
          refine thenQ_e ?_
          refine blockQ_e ?_
          refine thenQ_n ?_
          obtain ⟨x133, hx133, h⟩ := bnd_e h
          obtain ⟨x134, hx134, h⟩ := bnd_e h
          obtain ⟨x135, hx135, h⟩ := bno_e h
          refine iwp_reg (ils_cons rfl (lra q3 la35 rfl rfl rfl rfl rfl (nle rfl) rfl) <|
           ils_cons rfl (mvI rfl rfl rfl rfl) <|
           ils_cons rfl (iop_int_conv rfl rfl (lb rfl) ⟨_, Try.underlying5⟩ Try.underlying3 (svI rfl) hx133) <|
           ils_cons rfl (iop_intx rfl rfl (lb rfl) (sv (d := .int _ 1) rfl) (svI rfl) rfl hx134) <|
           ils_cons rfl (iop_call (r := .tuple q12) rfl rfl (lb rfl) cl14 (.cons (svA q3 rfl) (.cons (svI rfl) .nil)) rfl (p_paths_Choose _ _ _ hx135)) <|
           ils_cons rfl (iop_move rfl rfl (lb rfl) (sv (d := .tuple q12) rfl)) <|
           ils_cons rfl (iop_extract (d := .agg q3) rfl rfl (lb rfl) (sv (d := .tuple q12) rfl) rfl) <|
           ils_cons rfl (iop_extract (d := .int _ _) rfl rfl (lb rfl) (sv (d := .tuple q12) rfl) rfl) <|
           ils_cons rfl (iop_allocS (cs := q5) (cs' := (w14 false false 0 0 false false 0 0 false false 0 0 false false 0 0 0 ([] : List T_paths_Bind))) 1 rfl rfl (lb rfl) rfl ti35 rfl rfl (.k4 (.k (.k4 (.k (.k4 (.k (.k (.k (.cons (.nils _) .nil)))))))))) <|
           ils_cons rfl (stA q3 q3 ti35 rfl rfl rfl rfl rfl rfl rfl rfl (nle rfl) rfl) <|
           ils_cons rfl (asI rfl rfl rfl rfl) <|
           ils_end ?_)
          obtain ⟨x136, hx136, h⟩ := bno_e h
          refine iwp_reg (ils_cons rfl (lra q3 la35 rfl rfl rfl rfl rfl (nle rfl) rfl) <|
           ils_cons rfl (iop_call (r := .tuple q12) rfl rfl (lb rfl) cl16 (.cons (svA q3 rfl) .nil) rfl (p_paths_Pin _ _ hx136)) <|
           ils_cons rfl (iop_move rfl rfl (lb rfl) (sv (d := .tuple q12) rfl)) <|
           ils_cons rfl (iop_extract (d := .agg q3) rfl rfl (lb rfl) (sv (d := .tuple q12) rfl) rfl) <|
           ils_cons rfl (iop_extract (d := .int _ _) rfl rfl (lb rfl) (sv (d := .tuple q12) rfl) rfl) <|
           ils_cons rfl (iop_allocS (cs := q5) (cs' := (w14 false false 0 0 false false 0 0 false false 0 0 false false 0 0 0 ([] : List T_paths_Bind))) 2 rfl rfl (lb rfl) rfl ti35 rfl rfl (.k4 (.k (.k4 (.k (.k4 (.k (.k (.k (.cons (.nils _) .nil)))))))))) <|
           ils_cons rfl (stA q3 q3 ti35 rfl rfl rfl rfl rfl rfl rfl rfl (nle rfl) rfl) <|
           ils_cons rfl (asI rfl rfl rfl rfl) <|
           ils_end ?_)
          obtain ⟨x137, hx137, h⟩ := bno_e h
          obtain ⟨x138, hx138, h⟩ := bno_e h
          refine iwp_drw rfl [⟨[5], [0], [(131, .agg (w14 v29 v30 v31 v32 v33 v34 v35 v36 v37 v38 v39 v40 v41 v42 v43 v44 v45 v46))], []⟩,
           ⟨[9], [], [(132, .slice false (x94.map (eInt .i64).d))], []⟩,
           ⟨[132], [], [(133, .fptr [.int .i64 x137])], []⟩,
           ⟨[133], [], [(134, .int .i64 x137)], []⟩,
           ⟨[131, 134], [], [(135, .agg (v0 x138))], []⟩,
           ⟨[], [3], [(16, .ref 3 0)], [(3, .blk 35 (w14 false false 0 0 false false 0 0 false false 0 0 false false 0 0 0 ([] : List T_paths_Bind)))]⟩,
           ⟨[16, 135], [3], [], [(3, .blk 35 (v0 x138))]⟩] rfl ?_ (by kernel_rfl) ?_
          ·refine .cons (lop rfl rfl fun S hA => (iop_load_ra (cs := q3) rfl rfl (lb rfl) Try.underlying35 ag35 ti35 (by decide) (svaR hA rfl rfl) (agi hA rfl rfl) (nle rfl) rfl)) ?_
           refine .cons (lop rfl rfl fun S hA => (iop_move rfl rfl (lb rfl) (svaL hA rfl rfl))) ?_
           refine .cons (lop rfl rfl fun S hA => (iop_idxT (eInt .i64) (cs := [.int _ _]) rfl rfl (lb rfl) Try.underlying41 ti3 (svaL hA rfl rfl) (sv (d := .int _ 0) rfl) hx137 rfl rfl)) ?_
           refine .cons (lop rfl rfl fun S hA => (iop_load_fs rfl rfl (lb rfl) Try.underlying3 ag3 ti3 (by decide) (sv (d := .fptr [.int _ _]) (agr hA rfl rfl)) (nle rfl))) ?_
           refine .cons (lop rfl rfl fun S hA => (iop_call (r := .agg q3) rfl rfl (lb rfl) cl21 (.cons (svaA q3 hA rfl rfl) (.cons (svaI hA rfl rfl) (.cons (sv (d := .int _ 1) rfl) (.cons (sv (d := .int _ 0) rfl) .nil)))) rfl (p_paths_Note _ _ _ _ _ hx138))) ?_
           refine .cons (lop rfl rfl fun S hA => (iop_allocS (cs := q5) (cs' := (w14 false false 0 0 false false 0 0 false false 0 0 false false 0 0 0 ([] : List T_paths_Bind))) 3 rfl rfl (lb rfl) (agi hA rfl rfl) ti35 rfl rfl (.k4 (.k (.k4 (.k (.k4 (.k (.k (.k (.cons (.nils _) .nil))))))))))) ?_
           refine .cons (lop rfl rfl fun S hA => (iop_store (ds' := q3) rfl rfl ti35 (svaR hA rfl rfl) (agi hA rfl rfl) (svaA q3 hA rfl rfl) rfl rfl rfl (nle rfl) rfl)) ?_
           exact .nil
          refine iwp_seq ?_
          refine iwp_reg (ils_cons rfl (iop_assign rfl rfl (lb rfl) (sv (d := .int _ 0) rfl)) <|
           ils_end ?_)
          refine iwp_block ?_
          refine iwp_loopP (α := Nat × Int) (fun z => ⟨[(5, .ref 0 0), (8, .int .i64 x93), (9, .slice false (x94.map (eInt .i64).d)), (13, .int .i64 x135.2), (15, .int .i64 x136.2), (16, .ref 3 0), (17, .int .i64 z.2)], [(0, .blk 35 (w14 v29 v30 v31 v32 v33 v34 v35 v36 v37 v38 v39 v40 v41 v42 v43 v44 v45 v46)), (3, .blk 35 (v0 x138))]⟩) (fun z => sennitlaw28_PathsBest_L2 v32 v36 v40 v44 x93 x94 x135 x136 x138 z.1 z.2 = some r) (fun z => z.1) (fuel, 0) (fun i => i) ⟨(.sames rfl rfl), (.cons (.blk rfl rfl rfl) (.cons (.blk rfl rfl rfl) .nil)), nd_of [0, 3] rfl (by decide), fun _ _ => rfl⟩ ?_ ?_
          ·exact h
          ·
           rintro ⟨n2, v156⟩ h
           cases n2 with
           | zero => exact absurd h (by unfold sennitlaw28_PathsBest_L2; exact nofun)
           | succ n2 =>
            unfold sennitlaw28_PathsBest_L2 at h
            refine iwp_seq ?_
            obtain ⟨x174, hx174, h⟩ := bnd_e h
            refine iwp_reg (ils_cons rfl (mvI rfl rfl rfl rfl) <|
             ils_cons rfl (mvL rfl rfl rfl rfl) <|
             ils_cons rfl (iop_lenT (eInt .i64) (l := x94) rfl rfl (lb rfl) Try.underlying41 (svL rfl)) <|
             ils_cons rfl (iop_cmpx rfl rfl (lb rfl) (svI rfl) (svI rfl) rfl hx174) <|
             ils_end ?_)
            refine iwp_cond (b := _) rfl (fun hc175 => ?_) (fun hc175 => ?_)
            ·
             replace h := bif_t h hc175
             refine iwp_skip ?_
             refine thenQ_n ?_
             refine iwp_seq ?_
             refine iwp_block ?_
             obtain ⟨x176, hx176, h⟩ := bno_e h
             obtain ⟨x177, hx177, h⟩ := bno_e h
             obtain ⟨x178, hx178, h⟩ := bnd_e h
             obtain ⟨x179, hx179, h⟩ := bno_e h
             obtain ⟨hk180, h⟩ := chk_e h
             obtain ⟨x181, hx181, h⟩ := bno_e h
             obtain ⟨x182, hx182, h⟩ := bnd_e h
             obtain ⟨x183, hx183, h⟩ := bnd_e h
             refine iwp_drw rfl [⟨[9], [], [(142, .slice false (x94.map (eInt .i64).d))], []⟩,
              ⟨[17], [], [(143, .int .i64 v156)], []⟩,
              ⟨[142, 143], [], [(144, .fptr [.int .i64 x176])], []⟩,
              ⟨[144], [], [(145, .int .i64 x176)], []⟩,
              ⟨[9], [], [(146, .slice false (x94.map (eInt .i64).d))], []⟩,
              ⟨[146], [], [(147, .fptr [.int .i64 x177])], []⟩,
              ⟨[147], [], [(148, .int .i64 x177)], []⟩,
              ⟨[145, 148], [], [(149, .bool x178)], []⟩,
              ⟨[149], [], [(150, .bool x178)], []⟩,
              ⟨[9, 150], [], [(151, .cnd (x178 == true) (.slice false (x94.map (eInt .i64).d)))], []⟩,
              ⟨[17, 150], [], [(152, .cnd (x178 == true) (.int .i64 v156))], []⟩,
              ⟨[150, 151, 152], [], [(153, .cnd (x178 == true) (.fptr [.int .i64 x179]))], []⟩,
              ⟨[150, 153], [], [(154, .cnd (x178 == true) (.int .i64 x179))], []⟩,
              ⟨[5, 150], [], [(155, .cnd (x178 == true) (.ref 0 0))], []⟩,
              ⟨[150, 154, 155], [], [(156, .cnd (x178 == true) (.ref 0 (0 + (x179 : Int).toNat * 4 + 0)))], []⟩,
              ⟨[150, 156], [], [(157, .cnd (x178 == true) (.ref 0 (0 + (x179 : Int).toNat * 4 + 3)))], []⟩,
              ⟨[150, 157], [0], [(158, .cnd (x178 == true) (.int .i64 x181))], []⟩,
              ⟨[150, 158], [], [(159, .cnd (x178 == true) (.bool x182))], []⟩,
              ⟨[150, 159], [], [(160, .bool x183)], []⟩] rfl ?_ (by kernel_rfl) ?_
             ·refine .cons (lop rfl rfl fun S hA => (iop_move rfl rfl (lb rfl) (svaL hA rfl rfl))) ?_
              refine .cons (lop rfl rfl fun S hA => (iop_move rfl rfl (lb rfl) (svaI hA rfl rfl))) ?_
              refine .cons (lop rfl rfl fun S hA => (iop_idxT (eInt .i64) (cs := [.int _ _]) rfl rfl (lb rfl) Try.underlying41 ti3 (svaL hA rfl rfl) (svaI hA rfl rfl) hx176 rfl rfl)) ?_
              refine .cons (lop rfl rfl fun S hA => (iop_load_fs rfl rfl (lb rfl) Try.underlying3 ag3 ti3 (by decide) (sv (d := .fptr [.int _ _]) (agr hA rfl rfl)) (nle rfl))) ?_
              refine .cons (lop rfl rfl fun S hA => (iop_move rfl rfl (lb rfl) (svaL hA rfl rfl))) ?_
              refine .cons (lop rfl rfl fun S hA => (iop_idxT (eInt .i64) (cs := [.int _ _]) rfl rfl (lb rfl) Try.underlying41 ti3 (svaL hA rfl rfl) (sv (d := .int _ 0) rfl) hx177 rfl rfl)) ?_
              refine .cons (lop rfl rfl fun S hA => (iop_load_fs rfl rfl (lb rfl) Try.underlying3 ag3 ti3 (by decide) (sv (d := .fptr [.int _ _]) (agr hA rfl rfl)) (nle rfl))) ?_
              refine .cons (lop rfl rfl fun S hA => (iop_cmpx rfl rfl (lb rfl) (svaI hA rfl rfl) (svaI hA rfl rfl) rfl hx178)) ?_
              refine .cons (lop rfl rfl fun S hA => (iop_move rfl rfl (lb rfl) (svaB hA rfl rfl))) ?_
              refine .cons (lopg rfl rfl rfl rfl (by decide) (fun S hA => grd1 hA rfl rfl) (fun S hA hb => (iop_move rfl rfl (lb rfl) (svaL hA rfl rfl)))) ?_
              refine .cons (lopg rfl rfl rfl rfl (by decide) (fun S hA => grd1 hA rfl rfl) (fun S hA hb => (iop_move rfl rfl (lb rfl) (svaI hA rfl rfl)))) ?_
              refine .cons (lopg rfl rfl rfl rfl (by decide) (fun S hA => grd1 hA rfl rfl) (fun S hA hb => (iop_idxT (eInt .i64) (cs := [.int _ _]) rfl rfl (lb rfl) Try.underlying41 ti3 (svc (d := .slice _ _) (agr hA rfl rfl) hb) (svc (d := .int _ _) (agr hA rfl rfl) hb) (gd_t hx179 hb) rfl rfl))) ?_
              refine .cons (lopg rfl rfl rfl rfl (by decide) (fun S hA => grd1 hA rfl rfl) (fun S hA hb => (iop_load_fs rfl rfl (lb rfl) Try.underlying3 ag3 ti3 (by decide) (svc (d := .fptr [.int _ _]) (agr hA rfl rfl) hb) (nle rfl)))) ?_
              refine .cons (lopg rfl rfl rfl rfl (by decide) (fun S hA => grd1 hA rfl rfl) (fun S hA hb => (iop_fieldAddr_ref rfl rfl (lb rfl) Try.underlying35 rfl ti32 (by decide) (svaR hA rfl rfl) (off' := 0) rfl))) ?_
              refine .cons (lopg rfl rfl rfl rfl (by decide) (fun S hA => grd1 hA rfl rfl) (fun S hA hb => (iop_index_sel rfl rfl (lb rfl) Try.underlying32 ti31 (svc (d := .ref _ _) (agr hA rfl rfl) hb) (svc (d := .int _ _) (agr hA rfl rfl) hb) (hk180 hb)))) ?_
              refine .cons (lopg rfl rfl rfl rfl (by decide) (fun S hA => grd1 hA rfl rfl) (fun S hA hb => (iop_field_sel rfl rfl (lb rfl) Try.underlying31 rfl ti3 (by decide) (svc (d := .ref _ _) (agr hA rfl rfl) hb) (k' := 3) rfl))) ?_
              refine .cons (lopg rfl rfl rfl rfl (by decide) (fun S hA => grd1 hA rfl rfl) (fun S hA hb => (iop_load_sel_s (eInt .i64) (b := 0) (k := 3) (sz := 4) (d := .int _ _) rfl rfl (lb rfl) Try.underlying3 ag3 ti3 (svc (d := .ref _ _) (agr hA rfl rfl) hb) (agi hA rfl rfl) (gd_t hx181 hb) ⟨rfl, ⟨rfl, ⟨rfl, ⟨rfl, trivial⟩⟩⟩⟩ rfl))) ?_
              refine .cons (lopg rfl rfl rfl rfl (by decide) (fun S hA => grd1 hA rfl rfl) (fun S hA hb => (iop_cmpx rfl rfl (lb rfl) (svc (d := .int _ _) (agr hA rfl rfl) hb) (sv (d := .int _ 0) rfl) rfl hx182))) ?_
              refine .cons (lop rfl rfl fun S hA => (iop_andx rfl rfl (lb rfl) (svaB hA rfl rfl) (agr hA rfl rfl) rfl hx183)) ?_
              exact .nil
             refine iwp_cond (b := _) rfl (fun hc184 => ?_) (fun hc184 => ?_)
             ·
              replace h := bif_t h hc184
              obtain ⟨x185, hx185, h⟩ := bnd_e h
              obtain ⟨x186, hx186, h⟩ := bnd_e h
              obtain ⟨x187, hx187, h⟩ := bnd_e h
              obtain ⟨x188, hx188, h⟩ := bno_e h
              obtain ⟨x189, hx189, h⟩ := bnd_e h
              refine iwp_reg (ils_cons rfl (mvI rfl rfl rfl rfl) <|
               ils_cons rfl (mvI rfl rfl rfl rfl) <|
               ils_cons rfl (iop_cmpx rfl rfl (lb rfl) (svI rfl) (svI rfl) rfl hx185) <|
               ils_cons rfl (mvB rfl rfl rfl rfl) <|
               ils_guard rfl rfl (.one rfl) rfl (by decide) (fun hb => (mvI rfl rfl rfl rfl)) <|
               ils_guard rfl rfl (.one rfl) rfl (by decide) (fun hb => (mvI rfl rfl rfl rfl)) <|
               ils_guard rfl rfl (.one rfl) rfl (by decide) (fun hb => (iop_cmpx rfl rfl (lb rfl) (svcI rfl hb) (svcI rfl hb) rfl hx186)) <|
               ils_cons rfl (iop_andx rfl rfl (lb rfl) (svB rfl) rfl rfl hx187) <|
               ils_cons rfl (mvB rfl rfl rfl rfl) <|
               ils_guard rfl rfl (.one rfl) rfl (by decide) (fun hb => (iop_call (r := .bool _) rfl rfl (lb rfl) cl8 .nil rfl (p_sennitlaw28_awake  _ (gd_t hx188 hb)))) <|
               ils_cons rfl (iop_andx rfl rfl (lb rfl) (svB rfl) rfl rfl hx189) <|
               ils_cons rfl (asB rfl rfl rfl rfl) <|
               ils_end ?_)
              refine iwp_ret ?_
              refine blockQ_r ?_
              refine thenQ_r ?_
              refine thenQ_r ?_
              refine blockQ_r ?_
              refine thenQ_r ?_
              obtain rfl := Option.some.inj h
              refine ⟨.inr rfl, (.cons (sv rfl) .nil)⟩
             ·
              replace h := bif_f h hc184
              refine iwp_skip ?_
              refine blockQ_n ?_
              refine thenQ_n ?_
              obtain ⟨x190, hx190, h⟩ := bnd_e h
              refine iwp_region (ils_cons rfl (mvI rfl rfl rfl rfl) <|
               ils_cons rfl (iop_intx rfl rfl (lb rfl) (svI rfl) (sv (d := .int _ 1) rfl) rfl hx190) <|
               ils_cons rfl (asI rfl rfl rfl rfl) <|
               ils_nil ?_)
              refine thenQ_n ⟨(n2, x190), (fun i => i), ⟨(.sames rfl rfl), (.cons (.blk rfl rfl rfl) (.cons (.blk rfl rfl rfl) .nil)), nd_of [0, 3] rfl (by decide), fun _ _ => rfl⟩, ?_, ?_⟩
              exact h
              exact Nat.lt_succ_self _
            ·
             replace h := bif_f h hc175
             refine iwp_exit ?_
             refine thenQ_e ?_
             refine thenQ_e ?_
             refine blockQ_e ?_
             refine thenQ_n ?_
             obtain ⟨x191, hx191, h⟩ := bnd_e h
             obtain ⟨x192, hx192, h⟩ := bnd_e h
             obtain ⟨x193, hx193, h⟩ := bnd_e h
             obtain ⟨x194, hx194, h⟩ := bno_e h
             obtain ⟨hk195, h⟩ := chk_e h
             obtain ⟨x196, hx196, h⟩ := bno_e h
             obtain ⟨x197, hx197, h⟩ := bnd_e h
             obtain ⟨x198, hx198, h⟩ := bno_e h
             obtain ⟨x199, hx199, h⟩ := bno_e h
             obtain ⟨x200, hx200, h⟩ := bnd_e h
             obtain ⟨x201, hx201, h⟩ := bnd_e h
             obtain ⟨x202, hx202, h⟩ := bnd_e h
             obtain ⟨x203, hx203, h⟩ := bno_e h
             obtain ⟨x204, hx204, h⟩ := bnd_e h
             refine iwp_drw rfl [⟨[13], [], [(172, .int .i64 x135.2)], []⟩,
              ⟨[8], [], [(173, .int .i64 x93)], []⟩,
              ⟨[172, 173], [], [(174, .bool x191)], []⟩,
              ⟨[174], [], [(175, .bool x191)], []⟩,
              ⟨[15, 175], [], [(176, .cnd (x191 == true) (.int .i64 x136.2))], []⟩,
              ⟨[8, 175], [], [(177, .cnd (x191 == true) (.int .i64 x93))], []⟩,
              ⟨[175, 176, 177], [], [(178, .cnd (x191 == true) (.bool x192))], []⟩,
              ⟨[175, 178], [], [(179, .bool x193)], []⟩,
              ⟨[179], [], [(180, .bool x193)], []⟩,
              ⟨[9, 180], [], [(181, .cnd (x193 == true) (.slice false (x94.map (eInt .i64).d)))], []⟩,
              ⟨[180, 181], [], [(182, .cnd (x193 == true) (.fptr [.int .i64 x194]))], []⟩,
              ⟨[180, 182], [], [(183, .cnd (x193 == true) (.int .i64 x194))], []⟩,
              ⟨[5, 180], [], [(184, .cnd (x193 == true) (.ref 0 0))], []⟩,
              ⟨[180, 183, 184], [], [(185, .cnd (x193 == true) (.ref 0 (0 + (x194 : Int).toNat * 4 + 0)))], []⟩,
              ⟨[180, 185], [], [(186, .cnd (x193 == true) (.ref 0 (0 + (x194 : Int).toNat * 4 + 3)))], []⟩,
              ⟨[180, 186], [0], [(187, .cnd (x193 == true) (.int .i64 x196))], []⟩,
              ⟨[180, 187], [], [(188, .cnd (x193 == true) (.bool x197))], []⟩,
              ⟨[180, 188], [], [(189, .cnd (x193 == true) (.bool x197))], []⟩,
              ⟨[16, 189], [3], [(190, .cnd (((x193 == true) && (x197 == false))) (.agg (v0 x138)))], []⟩,
              ⟨[189, 190], [], [(191, .cnd (((x193 == true) && (x197 == false))) (.int .i64 x198))], []⟩,
              ⟨[9, 189], [], [(192, .cnd (((x193 == true) && (x197 == false))) (.slice false (x94.map (eInt .i64).d)))], []⟩,
              ⟨[189, 192], [], [(193, .cnd (((x193 == true) && (x197 == false))) (.fptr [.int .i64 x199]))], []⟩,
              ⟨[189, 193], [], [(194, .cnd (((x193 == true) && (x197 == false))) (.int .i64 x199))], []⟩,
              ⟨[189, 191, 194], [], [(195, .cnd (((x193 == true) && (x197 == false))) (.bool x200))], []⟩,
              ⟨[180, 189, 195], [], [(196, .cnd (x193 == true) (.bool x201))], []⟩,
              ⟨[180, 196], [], [(197, .bool x202)], []⟩,
              ⟨[197], [], [(198, .bool x202)], []⟩,
              ⟨[198], [], [(199, .cnd (x202 == true) (.bool x203))], []⟩,
              ⟨[198, 199], [], [(200, .bool x204)], []⟩,
              ⟨[200], [], [(4, .bool x204)], []⟩] rfl ?_ (by kernel_rfl) ?_
             ·refine .cons (lop rfl rfl fun S hA => (iop_move rfl rfl (lb rfl) (svaI hA rfl rfl))) ?_
              refine .cons (lop rfl rfl fun S hA => (iop_move rfl rfl (lb rfl) (svaI hA rfl rfl))) ?_
              refine .cons (lop rfl rfl fun S hA => (iop_cmpx rfl rfl (lb rfl) (svaI hA rfl rfl) (svaI hA rfl rfl) rfl hx191)) ?_
              refine .cons (lop rfl rfl fun S hA => (iop_move rfl rfl (lb rfl) (svaB hA rfl rfl))) ?_
              refine .cons (lopg rfl rfl rfl rfl (by decide) (fun S hA => grd1 hA rfl rfl) (fun S hA hb => (iop_move rfl rfl (lb rfl) (svaI hA rfl rfl)))) ?_
              refine .cons (lopg rfl rfl rfl rfl (by decide) (fun S hA => grd1 hA rfl rfl) (fun S hA hb => (iop_move rfl rfl (lb rfl) (svaI hA rfl rfl)))) ?_
              refine .cons (lopg rfl rfl rfl rfl (by decide) (fun S hA => grd1 hA rfl rfl) (fun S hA hb => (iop_cmpx rfl rfl (lb rfl) (svc (d := .int _ _) (agr hA rfl rfl) hb) (svc (d := .int _ _) (agr hA rfl rfl) hb) rfl hx192))) ?_
              refine .cons (lop rfl rfl fun S hA => (iop_andx rfl rfl (lb rfl) (svaB hA rfl rfl) (agr hA rfl rfl) rfl hx193)) ?_
              refine .cons (lop rfl rfl fun S hA => (iop_move rfl rfl (lb rfl) (svaB hA rfl rfl))) ?_
              refine .cons (lopg rfl rfl rfl rfl (by decide) (fun S hA => grd1 hA rfl rfl) (fun S hA hb => (iop_move rfl rfl (lb rfl) (svaL hA rfl rfl)))) ?_
              refine .cons (lopg rfl rfl rfl rfl (by decide) (fun S hA => grd1 hA rfl rfl) (fun S hA hb => (iop_idxT (eInt .i64) (cs := [.int _ _]) rfl rfl (lb rfl) Try.underlying41 ti3 (svc (d := .slice _ _) (agr hA rfl rfl) hb) (sv (d := .int _ 0) rfl) (gd_t hx194 hb) rfl rfl))) ?_
              refine .cons (lopg rfl rfl rfl rfl (by decide) (fun S hA => grd1 hA rfl rfl) (fun S hA hb => (iop_load_fs rfl rfl (lb rfl) Try.underlying3 ag3 ti3 (by decide) (svc (d := .fptr [.int _ _]) (agr hA rfl rfl) hb) (nle rfl)))) ?_
              refine .cons (lopg rfl rfl rfl rfl (by decide) (fun S hA => grd1 hA rfl rfl) (fun S hA hb => (iop_fieldAddr_ref rfl rfl (lb rfl) Try.underlying35 rfl ti32 (by decide) (svaR hA rfl rfl) (off' := 0) rfl))) ?_
              refine .cons (lopg rfl rfl rfl rfl (by decide) (fun S hA => grd1 hA rfl rfl) (fun S hA hb => (iop_index_sel rfl rfl (lb rfl) Try.underlying32 ti31 (svc (d := .ref _ _) (agr hA rfl rfl) hb) (svc (d := .int _ _) (agr hA rfl rfl) hb) (hk195 hb)))) ?_
              refine .cons (lopg rfl rfl rfl rfl (by decide) (fun S hA => grd1 hA rfl rfl) (fun S hA hb => (iop_field_sel rfl rfl (lb rfl) Try.underlying31 rfl ti3 (by decide) (svc (d := .ref _ _) (agr hA rfl rfl) hb) (k' := 3) rfl))) ?_
              refine .cons (lopg rfl rfl rfl rfl (by decide) (fun S hA => grd1 hA rfl rfl) (fun S hA hb => (iop_load_sel_s (eInt .i64) (b := 0) (k := 3) (sz := 4) (d := .int _ _) rfl rfl (lb rfl) Try.underlying3 ag3 ti3 (svc (d := .ref _ _) (agr hA rfl rfl) hb) (agi hA rfl rfl) (gd_t hx196 hb) ⟨rfl, ⟨rfl, ⟨rfl, ⟨rfl, trivial⟩⟩⟩⟩ rfl))) ?_
              refine .cons (lopg rfl rfl rfl rfl (by decide) (fun S hA => grd1 hA rfl rfl) (fun S hA hb => (iop_cmpx rfl rfl (lb rfl) (svc (d := .int _ _) (agr hA rfl rfl) hb) (sv (d := .int _ 0) rfl) rfl hx197))) ?_
              refine .cons (lopg rfl rfl rfl rfl (by decide) (fun S hA => grd1 hA rfl rfl) (fun S hA hb => (iop_move rfl rfl (lb rfl) (svc (d := .bool _) (agr hA rfl rfl) hb)))) ?_
              refine .cons (lopg rfl rfl rfl rfl (by decide) (fun S hA => grd2 hA rfl rfl) (fun S hA hb => (iop_load_ra (cs := q3) rfl rfl (lb rfl) Try.underlying35 ag35 ti35 (by decide) (svaR hA rfl rfl) (agi hA rfl rfl) (nle rfl) rfl))) ?_
              refine .cons (lopg rfl rfl rfl rfl (by decide) (fun S hA => grd2 hA rfl rfl) (fun S hA hb => (iop_call (r := .int _ _) rfl rfl (lb rfl) cl32 (.cons (svc (d := .agg (v0 x138)) (agr hA rfl rfl) hb) .nil) rfl (p_paths_Best _ _ (gd_t hx198 hb))))) ?_
              refine .cons (lopg rfl rfl rfl rfl (by decide) (fun S hA => grd2 hA rfl rfl) (fun S hA hb => (iop_move rfl rfl (lb rfl) (svaL hA rfl rfl)))) ?_
              refine .cons (lopg rfl rfl rfl rfl (by decide) (fun S hA => grd2 hA rfl rfl) (fun S hA hb => (iop_idxT (eInt .i64) (cs := [.int _ _]) rfl rfl (lb rfl) Try.underlying41 ti3 (svc (d := .slice _ _) (agr hA rfl rfl) hb) (sv (d := .int _ 0) rfl) (gd_t hx199 hb) rfl rfl))) ?_
              refine .cons (lopg rfl rfl rfl rfl (by decide) (fun S hA => grd2 hA rfl rfl) (fun S hA hb => (iop_load_fs rfl rfl (lb rfl) Try.underlying3 ag3 ti3 (by decide) (svc (d := .fptr [.int _ _]) (agr hA rfl rfl) hb) (nle rfl)))) ?_
              refine .cons (lopg rfl rfl rfl rfl (by decide) (fun S hA => grd2 hA rfl rfl) (fun S hA hb => (iop_cmpx rfl rfl (lb rfl) (svc (d := .int _ _) (agr hA rfl rfl) hb) (svc (d := .int _ _) (agr hA rfl rfl) hb) rfl hx200))) ?_
              refine .cons (lopg rfl rfl rfl rfl (by decide) (fun S hA => grd1 hA rfl rfl) (fun S hA hb => (iop_or2x rfl rfl (lb rfl) hb (svc (d := .bool _) (agr hA rfl rfl) hb) rfl (agr hA rfl rfl) hx201))) ?_
              refine .cons (lop rfl rfl fun S hA => (iop_andx rfl rfl (lb rfl) (svaB hA rfl rfl) (agr hA rfl rfl) rfl hx202)) ?_
              refine .cons (lop rfl rfl fun S hA => (iop_move rfl rfl (lb rfl) (svaB hA rfl rfl))) ?_
              refine .cons (lopg rfl rfl rfl rfl (by decide) (fun S hA => grd1 hA rfl rfl) (fun S hA hb => (iop_call (r := .bool _) rfl rfl (lb rfl) cl8 .nil rfl (p_sennitlaw28_awake  _ (gd_t hx203 hb))))) ?_
              refine .cons (lop rfl rfl fun S hA => (iop_andx rfl rfl (lb rfl) (svaB hA rfl rfl) (agr hA rfl rfl) rfl hx204)) ?_
              refine .cons (lop rfl rfl fun S hA => (iop_assign rfl rfl (lb rfl) (svaB hA rfl rfl))) ?_
              exact .nil
             refine iwp_ret ?_
             obtain rfl := Option.some.inj h
             refine ⟨.inr rfl, (.cons (sv rfl) .nil)⟩
end Go.Proofs.Ytkkpkabamlabdaa
