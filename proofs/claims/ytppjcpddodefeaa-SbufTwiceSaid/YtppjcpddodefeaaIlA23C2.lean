/-
  A part of the proof: rules and plain facts. No condition.
-/
import Derived.Test.YtppjcpddodefeaaProg
import Derived.KernelRfl
import Derived.Test.YtppjcpddodefeaaIlA23D
import Derived.Test.YtppjcpddodefeaaIlA23C1
set_option linter.all false
set_option linter.unusedSimpArgs false
set_option linter.unusedVariables false
set_option maxRecDepth 8000
set_option maxHeartbeats 2000000
open Go Go.IL Go.Fn Go.Proofs
namespace Go.Proofs.Ytppjcpddodefeaa
theorem ti5 : TI Try.prog 5 (some (.int .u8 0)) 1 1 := by unfold TI; kernel_rfl
theorem ti34 : TI Try.prog 34 (some (.agg #[.int .u8 0, .int .u8 0, .int .u8 0, .bool false])) 4 4 := by unfold TI; kernel_rfl
theorem ag5 : aggOf Try.prog 5 = false := by kernel_rfl
theorem ag34 : aggOf Try.prog 34 = true := by kernel_rfl
theorem st39 : Try.prog.stoodInHeld 39 = false ∧ Try.prog.eqGuardType Try.prog.depth 39 = false := ⟨by kernel_rfl, by kernel_rfl⟩
theorem cl6 : Callable Try.prog 6 := ⟨Try.f6, Try.func6, rfl, rfl⟩
theorem cl7 : Callable Try.prog 7 := ⟨Try.f7, Try.func7, rfl, rfl⟩
theorem cl8 : Callable Try.prog 8 := ⟨Try.f8, Try.func8, rfl, rfl⟩
theorem cl9 : Callable Try.prog 9 := ⟨Try.f9, Try.func9, rfl, rfl⟩
theorem cl11 : Callable Try.prog 11 := ⟨Try.f11, Try.func11, rfl, rfl⟩
theorem cl12 : Callable Try.prog 12 := ⟨Try.f12, Try.func12, rfl, rfl⟩
theorem cl14 : Callable Try.prog 14 := ⟨Try.f14, Try.func14, rfl, rfl⟩
theorem cl15 : Callable Try.prog 15 := ⟨Try.f15, Try.func15, rfl, rfl⟩
theorem cl16 : Callable Try.prog 16 := ⟨Try.f16, Try.func16, rfl, rfl⟩
theorem cl17 : Callable Try.prog 17 := ⟨Try.f17, Try.func17, rfl, rfl⟩
theorem cl18 : Callable Try.prog 18 := ⟨Try.f18, Try.func18, rfl, rfl⟩
theorem cl34 : Callable Try.prog 34 := ⟨Try.f34, Try.func34, rfl, rfl⟩
theorem cl35 : Callable Try.prog 35 := ⟨Try.f35, Try.func35, rfl, rfl⟩



theorem p_slices_IndexFunc_sbuf_Piece_sbuf_Piece_Came_1 (a0 : (List T_sbuf_Piece)) (r : Int) (h : slices_IndexFunc_sbuf_Piece_sbuf_Piece_Came_1 a0 = some r) : PureAt Try.prog 44 [.slice false (a0.map E_sbuf_Piece.d), .fn 34 []] (.int .i64 r) := by
 refine pure_of_iwp (rs := [.int .i64 r]) Try.func44 rfl Try.ntmps44 (nle rfl) rfl fun O hO => ?_
 show IWP _ _ _ _ ⟨[(0, .slice false (a0.map E_sbuf_Piece.d)), (1, .fn 34 [])], []⟩ _
 unfold slices_IndexFunc_sbuf_Piece_sbuf_Piece_Came_1 at h
 refine iwp_reg (ils_cons rfl (iop_assign rfl rfl (lb rfl) (sv (d := .int _ 0) rfl)) <|
  ils_end ?_)
 refine iwp_seq ?_
 refine iwp_reg (ils_cons rfl (mvL rfl rfl rfl rfl) <|
  ils_cons rfl (iop_lenT E_sbuf_Piece (l := a0) rfl rfl (lb rfl) Try.underlying25 (svL rfl)) <|
  ils_cons rfl (iop_move rfl rfl (lb rfl) (sv (d := .int _ 0) rfl)) <|
  ils_end ?_)
 refine iwp_block ?_
 refine iwp_loopP (α := Nat × Int) (fun z => ⟨[(0, .slice false (a0.map E_sbuf_Piece.d)), (1, .fn 34 []), (7, .int .i64 (a0.length : Int)), (8, .int .i64 z.2)], []⟩) (fun z => slices_IndexFunc_sbuf_Piece_sbuf_Piece_Came_1_L0 a0 z.1 z.2 = some r) (fun z => z.1) (fuel, 0) (fun i => i) ⟨(.sames rfl rfl), .nil, nd_of [] rfl (by decide), fun _ _ => rfl⟩ ?_ ?_
 ·exact h
 ·
  rintro ⟨n0, v7⟩ h
  cases n0 with
  | zero => exact absurd h (by unfold slices_IndexFunc_sbuf_Piece_sbuf_Piece_Came_1_L0; exact nofun)
  | succ n0 =>
   unfold slices_IndexFunc_sbuf_Piece_sbuf_Piece_Came_1_L0 at h
   obtain ⟨x14, hx14, h⟩ := bnd_e h
   refine iwp_reg (ils_cons rfl (iop_cmpx rfl rfl (lb rfl) (svI rfl) (svI rfl) rfl hx14) <|
    ils_end ?_)
   refine iwp_seq ?_
   refine iwp_cond (b := _) rfl (fun hc15 => ?_) (fun hc15 => ?_)
   ·
    replace h := bif_t h hc15
    refine iwp_skip ?_
    refine thenQ_n ?_
    refine iwp_seq ?_
    refine iwp_block ?_
    refine iwp_reg (ils_cons rfl (mvI rfl rfl rfl rfl) <|
     ils_cons rfl (asI rfl rfl rfl rfl) <|
     ils_end ?_)
    obtain ⟨x16, hx16, h⟩ := bno_e h
    obtain ⟨x17, hx17, h⟩ := bno_e h
    refine iwp_reg (ils_cons rfl (iop_move rfl rfl (lb rfl) (sv (d := .fn 34 []) rfl)) <|
     ils_cons rfl (mvL rfl rfl rfl rfl) <|
     ils_cons rfl (mvI rfl rfl rfl rfl) <|
     ils_cons rfl (iop_idxT E_sbuf_Piece (cs := q6) rfl rfl (lb rfl) Try.underlying25 ti39 (svL rfl) (svI rfl) hx16 rfl rfl) <|
     ils_cons rfl (iop_load_fa (cs := q6) rfl rfl (lb rfl) Try.underlying39 ag39 ti39 (by decide) (sv (d := .fptr q6) rfl) (nle rfl) rfl) <|
     ils_cons rfl (iop_callv (r := .bool _) rfl rfl (lb rfl) cl34 (sv (d := .fn 34 []) rfl) (.cons (svA q6 rfl) .nil) rfl (p_sbuf_Came_1 _ _ hx17)) <|
     ils_end ?_)
    refine iwp_cond (b := _) rfl (fun hc18 => ?_) (fun hc18 => ?_)
    ·
     replace h := bif_t h hc18
     refine iwp_reg (ils_cons rfl (mvI rfl rfl rfl rfl) <|
      ils_cons rfl (asI rfl rfl rfl rfl) <|
      ils_end ?_)
     refine iwp_ret ?_
     refine blockQ_r ?_
     refine thenQ_r ?_
     refine thenQ_r ?_
     refine blockQ_r ?_
     refine thenQ_r ?_
     obtain rfl := Option.some.inj h
     refine ⟨.inr rfl, (.cons (sv rfl) .nil)⟩
    ·
     replace h := bif_f h hc18
     refine iwp_skip ?_
     refine blockQ_n ?_
     refine thenQ_n ?_
     obtain ⟨x19, hx19, h⟩ := bnd_e h
     refine iwp_region (ils_cons rfl (iop_intx rfl rfl (lb rfl) (svI rfl) (sv (d := .int _ 1) rfl) rfl hx19) <|
      ils_cons rfl (mvI rfl rfl rfl rfl) <|
      ils_nil ?_)
     refine thenQ_n ⟨(n0, x19), (fun i => i), ⟨(.sames rfl rfl), .nil, nd_of [] rfl (by decide), fun _ _ => rfl⟩, ?_, ?_⟩
     exact h
     exact Nat.lt_succ_self _
   ·
    replace h := bif_f h hc15
    refine iwp_exit ?_
    refine thenQ_e ?_
    refine thenQ_e ?_
    refine blockQ_e ?_
    refine thenQ_n ?_
    refine iwp_reg (ils_cons rfl (iop_assign rfl rfl (lb rfl) (sv (d := .int _ (-1)) rfl)) <|
     ils_end ?_)
    refine iwp_ret ?_
    obtain rfl := Option.some.inj h
    refine ⟨.inr rfl, (.cons (sv rfl) .nil)⟩

theorem p_slices_DeleteFunc_sbuf_Piece_sbuf_Piece_h_Came_1 (a0 : (List T_sbuf_Piece)) (r : (List T_sbuf_Piece)) (h : slices_DeleteFunc_sbuf_Piece_sbuf_Piece_h_Came_1 a0 = some r) : FnH Try.prog 33 [.osl 1000 E_sbuf_Piece.sz a0.length, .fn 34 []] [(1000, .blk 39 (D.flat (a0.map E_sbuf_Piece.d)))] (.osl 0 E_sbuf_Piece.sz r.length) [(0, .blk 39 (D.flat (r.map E_sbuf_Piece.d)))] := by
 refine fnh_of_iwp (rs := [.osl 0 E_sbuf_Piece.sz r.length]) Try.func33 rfl Try.ntmps33 (nle rfl) fun O hO => ?_
 show IWP _ _ _ _ ⟨[(0, .osl 1000 E_sbuf_Piece.sz a0.length), (1, .fn 34 [])], [(1000, .blk 39 (D.flat (a0.map E_sbuf_Piece.d)))]⟩ _
 unfold slices_DeleteFunc_sbuf_Piece_sbuf_Piece_h_Came_1 at h
 refine iwp_reg (ils_cons rfl (iop_assign rfl rfl (lb rfl) (sv (d := .nils) rfl)) <|
  ils_end ?_)
 obtain ⟨x1, hx1, h⟩ := bno_e h
 refine iwp_reg (ils_cons rfl (iop_move rfl rfl (lb rfl) (sv (d := .osl _ _ _) rfl)) <|
  ils_cons rfl (iop_move rfl rfl (lb rfl) (sv (d := .fn 34 []) rfl)) <|
  ils_cons rfl (iop_callp (r := .int .i64 x1) rfl rfl (lb rfl) cl44 (.cons (sv (d := .osl _ _ _) rfl) (.cons (sv (d := .fn 34 []) rfl) .nil)) (.cons (FDT E_sbuf_Piece rfl rfl) (.all _)) rfl rfl (p_slices_IndexFunc_sbuf_Piece_sbuf_Piece_Came_1 _ _ hx1)) <|
  ils_cons rfl (asI rfl rfl rfl rfl) <|
  ils_end ?_)
 refine iwp_seq ?_
 obtain ⟨x2, hx2, h⟩ := bnd_e h
 refine iwp_reg (ils_cons rfl (mvI rfl rfl rfl rfl) <|
  ils_cons rfl (iop_cmpx rfl rfl (lb rfl) (svI rfl) (sv (d := .int _ (-1)) rfl) rfl hx2) <|
  ils_end ?_)
 refine iwp_cond (b := _) rfl (fun hc3 => ?_) (fun hc3 => ?_)
 ·
  replace h := bif_t h hc3
  refine iwp_reg (ils_cons rfl (iop_move rfl rfl (lb rfl) (sv (d := .osl _ _ _) rfl)) <|
   ils_cons rfl (iop_assign rfl rfl (lb rfl) (sv (d := .osl _ _ _) rfl)) <|
   ils_end ?_)
  refine iwp_ret ?_
  refine thenQ_r ?_
  obtain rfl := Option.some.inj h
  refine ⟨.inr rfl, (fun i => if i = 0 then 1000 else i), ⟨.nil, (.cons (EntW.lst rfl) .nil), nd_of [1000] rfl (by decide), (fun i hi => by first | rfl | (show (if _ then _ else _) = _; (repeat' split) <;> omega))⟩, (.cons (sv rfl) .nil), rfl⟩
 ·
  replace h := bif_f h hc3
  refine iwp_skip ?_
  refine thenQ_n ?_
  refine iwp_seq ?_
  obtain ⟨x4, hx4, h⟩ := bnd_e h
  refine iwp_reg (ils_cons rfl (mvI rfl rfl rfl rfl) <|
   ils_cons rfl (iop_intx rfl rfl (lb rfl) (svI rfl) (sv (d := .int _ 1) rfl) rfl hx4) <|
   ils_cons rfl (asI rfl rfl rfl rfl) <|
   ils_end ?_)
  refine iwp_block ?_
  refine iwp_loopP (α := Nat × (List T_sbuf_Piece) × Int × Int) (fun z => ⟨[(0, .osl 1000 E_sbuf_Piece.sz z.2.1.length), (1, .fn 34 []), (5, .int .i64 z.2.2.1), (6, .int .i64 z.2.2.2)], [(1000, .blk 39 (D.flat (z.2.1.map E_sbuf_Piece.d)))]⟩) (fun z => slices_DeleteFunc_sbuf_Piece_sbuf_Piece_h_Came_1_L0 z.1 z.2.1 z.2.2.1 z.2.2.2 = some r) (fun z => z.1) (fuel, a0, x1, x4) (fun i => i) ⟨(.sames rfl rfl), (.cons (EntW.lst rfl) .nil), nd_of [1000] rfl (by decide), fun _ _ => rfl⟩ ?_ ?_
  ·exact h
  ·
   rintro ⟨n0, v17, v18, v19⟩ h
   cases n0 with
   | zero => exact absurd h (by unfold slices_DeleteFunc_sbuf_Piece_sbuf_Piece_h_Came_1_L0; exact nofun)
   | succ n0 =>
    unfold slices_DeleteFunc_sbuf_Piece_sbuf_Piece_h_Came_1_L0 at h
    refine iwp_seq ?_
    obtain ⟨x32, hx32, h⟩ := bnd_e h
    refine iwp_reg (ils_cons rfl (mvI rfl rfl rfl rfl) <|
     ils_cons rfl (iop_move rfl rfl (lb rfl) (sv (d := .osl _ _ _) rfl)) <|
     ils_cons rfl (iop_lenO rfl rfl (lb rfl) Try.underlying25 (sv (d := .osl _ _ _) rfl)) <|
     ils_cons rfl (iop_cmpx rfl rfl (lb rfl) (svI rfl) (svI rfl) rfl hx32) <|
     ils_end ?_)
    refine iwp_cond (b := _) rfl (fun hc33 => ?_) (fun hc33 => ?_)
    ·
     replace h := bif_t h hc33
     refine iwp_skip ?_
     refine thenQ_n ?_
     refine iwp_seq ?_
     refine iwp_block ?_
     obtain ⟨x34, hx34, h⟩ := bno_e h
     obtain ⟨x35, hx35, h⟩ := bno_e h
     refine iwp_reg (ils_cons rfl (iop_move rfl rfl (lb rfl) (sv (d := .osl _ _ _) rfl)) <|
      ils_cons rfl (mvI rfl rfl rfl rfl) <|
      ils_cons rfl (iop_idxO E_sbuf_Piece.toEnc0 rfl rfl (lb rfl) Try.underlying25 ti39 (sv (d := .osl _ _ _) rfl) rfl (svI rfl) hx34) <|
      ils_cons rfl (iop_loadEa E_sbuf_Piece.toEnc0 (cs := q6) rfl rfl (lb rfl) Try.underlying39 ag39 ti39 (by decide) (svR rfl) rfl hx35 (nle rfl) rfl) <|
      ils_cons rfl (iop_allocS (cs := q6) (cs' := (w14 0 0 0 false)) 0 rfl rfl (lb rfl) rfl ti39 rfl rfl (.all _)) <|
      ils_cons rfl (stA q6 q6 ti39 rfl rfl rfl rfl rfl rfl rfl rfl (nle rfl) rfl) <|
      ils_end ?_)
     obtain ⟨x36, hx36, h⟩ := bno_e h
     refine iwp_reg (ils_cons rfl (iop_move rfl rfl (lb rfl) (sv (d := .fn 34 []) rfl)) <|
      ils_cons rfl (lra q6 la39 rfl rfl rfl rfl rfl (nle rfl) rfl) <|
      ils_cons rfl (iop_callv (r := .bool _) rfl rfl (lb rfl) cl34 (sv (d := .fn 34 []) rfl) (.cons (svA q6 rfl) .nil) rfl (p_sbuf_Came_1 _ _ hx36)) <|
      ils_cons rfl (iop_not rfl rfl (lb rfl) (svB rfl)) <|
      ils_end ?_)
     refine iwp_cond (b := _) rfl (fun hc37 => ?_) (fun hc37 => ?_)
     ·
      replace h := bif_t h hc37
      obtain ⟨x38, hx38, h⟩ := bno_e h
      obtain ⟨x39, hx39, h⟩ := bno_e h
      obtain ⟨x40, hx40, h⟩ := bnd_e h
      refine iwp_reg (ils_cons rfl (iop_move rfl rfl (lb rfl) (sv (d := .osl _ _ _) rfl)) <|
       ils_cons rfl (mvI rfl rfl rfl rfl) <|
       ils_cons rfl (lra q6 la39 rfl rfl rfl rfl rfl (nle rfl) rfl) <|
       ils_cons rfl (iop_idxO E_sbuf_Piece.toEnc0 rfl rfl (lb rfl) Try.underlying25 ti39 (sv (d := .osl _ _ _) rfl) rfl (svI rfl) hx38) <|
       ils_cons rfl (iop_storeE E_sbuf_Piece.toEnc0 (a' := x35) rfl rfl ti39 (svR rfl) rfl (svA q6 rfl) rfl rfl rfl hx39 (nle rfl) rfl hx40) <|
       ils_end ?_)
      obtain ⟨x41, hx41, h⟩ := bnd_e h
      refine iwp_region (ils_cons rfl (mvI rfl rfl rfl rfl) <|
       ils_cons rfl (iop_intx rfl rfl (lb rfl) (svI rfl) (sv (d := .int _ 1) rfl) rfl hx41) <|
       ils_cons rfl (asI rfl rfl rfl rfl) <|
       ils_nil ?_)
      refine blockQ_n ?_
      refine thenQ_n ?_
      obtain ⟨x42, hx42, h⟩ := bnd_e h
      refine iwp_region (ils_cons rfl (mvI rfl rfl rfl rfl) <|
       ils_cons rfl (iop_intx rfl rfl (lb rfl) (svI rfl) (sv (d := .int _ 1) rfl) rfl hx42) <|
       ils_cons rfl (asI rfl rfl rfl rfl) <|
       ils_nil ?_)
      refine thenQ_n ⟨(n0, x40, x41, x42), (fun i => i), ⟨(.cons (.same (congrArg (D.osl _ _) (len_set hx40 rfl).symm) rfl) (.sames rfl rfl)), (.cons (EntW.lst rfl) .nil), nd_of [1000] rfl (by decide), fun _ _ => rfl⟩, ?_, ?_⟩
      exact h
      exact Nat.lt_succ_self _
     ·
      replace h := bif_f h hc37
      refine iwp_skip ?_
      refine blockQ_n ?_
      refine thenQ_n ?_
      obtain ⟨x43, hx43, h⟩ := bnd_e h
      refine iwp_region (ils_cons rfl (mvI rfl rfl rfl rfl) <|
       ils_cons rfl (iop_intx rfl rfl (lb rfl) (svI rfl) (sv (d := .int _ 1) rfl) rfl hx43) <|
       ils_cons rfl (asI rfl rfl rfl rfl) <|
       ils_nil ?_)
      refine thenQ_n ⟨(n0, v17, v18, x43), (fun i => i), ⟨(.sames rfl rfl), (.cons (EntW.lst rfl) .nil), nd_of [1000] rfl (by decide), fun _ _ => rfl⟩, ?_, ?_⟩
      exact h
      exact Nat.lt_succ_self _
    ·
     replace h := bif_f h hc33
     refine iwp_exit ?_
     refine thenQ_e ?_
     refine thenQ_e ?_
     refine blockQ_e ?_
     refine thenQ_n ?_
     obtain ⟨x44, hx44, h⟩ := bno_e h
     refine iwp_reg (ils_cons rfl (iop_move rfl rfl (lb rfl) (sv (d := .osl _ _ _) rfl)) <|
      ils_cons rfl (mvI rfl rfl rfl rfl) <|
      ils_clrtail E_sbuf_Piece.toEnc0 rfl rfl rfl rfl (by decide) rfl rfl Try.underlying25 ti39 rfl rfl rfl rfl rfl (fun S1 h9 => sv ((h9 37 (by decide)).trans rfl)) hx44 <|
      ils_end ?_)
     obtain ⟨x45, hx45, h⟩ := bno_e h
     refine iwp_reg (ils_cons rfl (iop_move rfl rfl (lb rfl) (sv (d := .osl _ _ _) rfl)) <|
      ils_cons rfl (mvI rfl rfl rfl rfl) <|
      ils_cons rfl (iop_truncO E_sbuf_Piece.toEnc0 rfl rfl (lb rfl) Try.underlying25 ti39 (sv (d := .osl _ _ _) rfl) rfl (Nat.le_trans (cut_le hx44) (Nat.le_of_eq rfl)) (svI rfl) hx45) <|
      ils_cons rfl (iop_assign rfl rfl (lb rfl) (sv (d := .osl _ _ _) rfl)) <|
      ils_end ?_)
     refine iwp_ret ?_
     obtain rfl := Option.some.inj h
     refine ⟨.inr rfl, (fun i => if i = 0 then 1000 else i), ⟨.nil, (.cons (EntW.lst rfl) .nil), nd_of [1000] rfl (by decide), (fun i hi => by first | rfl | (show (if _ then _ else _) = _; (repeat' split) <;> omega))⟩, (.cons (sv rfl) .nil), rfl⟩

theorem p_sbuf_Came (a0 : T_sbuf_State) (a1 : Int) (a2 : Bool) (r : T_sbuf_State) (h : sbuf_Came a0 a1 a2 = some r) : PureAt Try.prog 17 [.agg (v0 a0), .int .i64 a1, .bool a2] (.agg (v0 r)) := by
 refine pure_of_iwpF (rs := [.agg (v0 r)]) Try.func17 rfl Try.ntmps17 (nle rfl) rfl fun O hO => ?_
 show IWP _ _ _ _ ⟨[(0, .agg (v0 a0)), (1, .int .i64 a1), (2, .bool a2)], []⟩ _
 unfold sbuf_Came at h
 refine iwp_reg (ils_cons rfl (iop_box' (cs := q3) 0 rfl rfl (lb rfl) rfl (svA q3 rfl) rfl rfl) <|
  ils_cons rfl (iop_allocS (cs := q5) (cs' := (w11 0 [] 0 ([] : List T_sbuf_Piece) ([] : List T_ivals_Ival) false false false false)) 1 rfl rfl (lb rfl) rfl ti29 rfl rfl (.k (.k (.k (.cons (.nils _) (.cons (.nils _) (.all _))))))) <|
  ils_end ?_)
 obtain ⟨x1, hx1, h⟩ := bno_e h
 refine iwp_reg (ils_cons rfl (lra q3 la29 rfl rfl rfl rfl rfl (nle rfl) rfl) <|
  ils_cons rfl (iop_callh2 (r' := .agg (w12 x1.1 x1.2.1 x1.2.2.1 (.osl 2 E_sbuf_Piece.sz x1.2.2.2.1.length) x1.2.2.2.2.1 x1.2.2.2.2.2.1 x1.2.2.2.2.2.2.1 x1.2.2.2.2.2.2.2.1 x1.2.2.2.2.2.2.2.2)) (H1' := [(2, .blk 39 (D.flat (x1.2.2.2.1.map E_sbuf_Piece.d)))]) 2 [] rfl rfl (lb rfl) cl19 (.cons (svA q3 rfl) .nil) rfl rfl ⟨rfl, rfl, by decide, rfl, List.forall_mem_nil _⟩ (p_sbuf_State_own_h _ _ hx1) rfl rfl (List.forall_mem_cons.2 ⟨⟨rfl, (handLr E_sbuf_Piece)⟩, List.forall_mem_nil _⟩) (by simp only [List.map_cons, List.map_nil, Ent.ren, renL_flat, renL_ref]; rfl)) <|
  ils_cons rfl (iop_allocS (cs := q5) (cs' := (w11 0 [] 0 ([] : List T_sbuf_Piece) ([] : List T_ivals_Ival) false false false false)) 3 rfl rfl (lb rfl) rfl ti29 rfl rfl (.k (.k (.k (.cons (.nils _) (.cons (.nils _) (.all _))))))) <|
  ils_cons rfl (stA q4 q4 ti29 rfl rfl rfl rfl rfl rfl rfl rfl (nle rfl) rfl) <|
  ils_end ?_)
 refine iwp_seq ?_
 obtain ⟨x2, hx2, h⟩ := bno_e h
 obtain ⟨x3, hx3, h⟩ := bnd_e h
 obtain ⟨x4, hx4, h⟩ := bnd_e h
 obtain ⟨x5, hx5, h⟩ := bnd_e h
 obtain ⟨x6, hx6, h⟩ := bnd_e h
 obtain ⟨x7, hx7, h⟩ := bnd_e h
 obtain ⟨x8, hx8, h⟩ := bno_e h
 obtain ⟨x9, hx9, h⟩ := bnd_e h
 obtain ⟨x10, hx10, h⟩ := bnd_e h
 obtain ⟨x11, hx11, h⟩ := bnd_e h
 obtain ⟨x12, hx12, h⟩ := bnd_e h
 refine iwp_reg (ils_cons rfl (lra q3 la29 rfl rfl rfl rfl rfl (nle rfl) rfl) <|
  ils_cons rfl (iop_call (r := .int _ _) rfl rfl (lb rfl) cl13 (.cons (svA q3 rfl) .nil) rfl (p_sbuf_Check _ _ hx2)) <|
  ils_cons rfl (iop_cmpx rfl rfl (lb rfl) (svI rfl) (sv (d := .int _ 0) rfl) rfl hx3) <|
  ils_cons rfl (mvB rfl rfl rfl rfl) <|
  ils_guard rfl rfl (.one rfl) rfl (by decide) (fun hb => (mvI rfl rfl rfl rfl)) <|
  ils_guard rfl rfl (.one rfl) rfl (by decide) (fun hb => (iop_cmpx rfl rfl (lb rfl) (svcI rfl hb) (sv (d := .int _ 0) rfl) rfl hx4)) <|
  ils_cons rfl (iop_orx rfl rfl (lb rfl) (svB rfl) rfl rfl hx5) <|
  ils_cons rfl (mvB rfl rfl rfl rfl) <|
  ils_guard rfl rfl (.one rfl) rfl (by decide) (fun hb => (mvI rfl rfl rfl rfl)) <|
  ils_guard rfl rfl (.one rfl) rfl (by decide) (fun hb => (faR 2 rfl rfl rfl Try.underlying29 rfl ti3 (lb rfl) rfl rfl)) <|
  ils_guard rfl rfl (.one rfl) rfl (by decide) (fun hb => (iop_load_rs (d := .int _ _) rfl rfl (lb rfl) Try.underlying3 ag3 ti3 (by decide) (svcR rfl hb) rfl (nle rfl) rfl)) <|
  ils_guard rfl rfl (.one rfl) rfl (by decide) (fun hb => (iop_cmpx rfl rfl (lb rfl) (svcI rfl hb) (svcI rfl hb) rfl hx6)) <|
  ils_cons rfl (iop_orx rfl rfl (lb rfl) (svB rfl) rfl rfl hx7) <|
  ils_cons rfl (mvB rfl rfl rfl rfl) <|
  ils_guard rfl rfl (.one rfl) rfl (by decide) (fun hb => (mvB rfl rfl rfl rfl)) <|
  ils_guard rfl rfl (.one rfl) rfl (by decide) (fun hb => (iop_move rfl rfl (lb rfl) (svcB rfl hb))) <|
  ils_guard rfl rfl (.two rfl) rfl (by decide) (fun hb => (mvI rfl rfl rfl rfl)) <|
  ils_guard rfl rfl (.two rfl) rfl (by decide) (fun hb => (lra q3 la29 rfl rfl rfl rfl rfl (nle rfl) rfl)) <|
  ils_guard rfl rfl (.two rfl) rfl (by decide) (fun hb => (iop_call (r := .int _ _) rfl rfl (lb rfl) cl20 (.cons (svcA (v0 a0) rfl hb) .nil) rfl (p_sbuf_State_end _ _ (gd_t hx8 hb)))) <|
  ils_guard rfl rfl (.two rfl) rfl (by decide) (fun hb => (iop_cmpx rfl rfl (lb rfl) (svcI rfl hb) (svcI rfl hb) rfl hx9)) <|
  ils_guard rfl rfl (.two rfl) rfl (by decide) (fun hb => (iop_move rfl rfl (lb rfl) (svcB rfl hb))) <|
  ils_guard rfl rfl (.two rfl) rfl (by decide) (fun hb => (faR 6 rfl rfl rfl Try.underlying29 rfl ti4 (lb rfl) rfl rfl)) <|
  ils_guard rfl rfl (.two rfl) rfl (by decide) (fun hb => (iop_load_rs (d := .bool _) rfl rfl (lb rfl) Try.underlying4 ag4 ti4 (by decide) (svcR rfl hb) rfl (nle rfl) rfl)) <|
  ils_guard rfl rfl (.two rfl) rfl (by decide) (fun hb => (iop_not rfl rfl (lb rfl) (svcB rfl hb))) <|
  ils_guard rfl rfl (.two rfl) rfl (by decide) (fun hb => (iop_or2x rfl rfl (lb rfl) hb (svcB rfl hb) rfl rfl hx10)) <|
  ils_guard rfl rfl (.one rfl) rfl (by decide) (fun hb => (iop_and2x rfl rfl (lb rfl) hb (svcB rfl hb) rfl rfl hx11)) <|
  ils_cons rfl (iop_orx rfl rfl (lb rfl) (svB rfl) rfl rfl hx12) <|
  ils_end ?_)
 refine iwp_cond (b := _) rfl (fun hc13 => ?_) (fun hc13 => ?_)
 ·
  replace h := bif_t h hc13
  refine iwp_reg (ils_cons rfl (lra q4 la29 rfl rfl rfl rfl rfl (nle rfl) rfl) <|
   ils_cons rfl (stA q4 q4 ti29 rfl rfl rfl rfl rfl rfl rfl rfl (nle rfl) rfl) <|
   ils_end ?_)
  refine iwp_ret ?_
  refine thenQ_r ?_
  obtain rfl := Option.some.inj h
  refine ⟨.inr rfl, _, (.cons (rva la29 rfl rfl (nle rfl) rfl) .nil), (.cons (.agg (.k (.k (.k (.cons (FDT E_sbuf_Piece rfl rfl) (.all _)))))) .nil)⟩
 ·
  replace h := bif_f h hc13
  refine iwp_skip ?_
  refine thenQ_n ?_
  obtain ⟨x14, hx14, h⟩ := bnd_e h
  refine iwp_reg (ils_cons rfl (mvI rfl rfl rfl rfl) <|
   ils_cons rfl (faR 0 rfl rfl rfl Try.underlying29 rfl ti3 (lb rfl) rfl rfl) <|
   ils_cons rfl (iop_load_rs (d := .int _ _) rfl rfl (lb rfl) Try.underlying3 ag3 ti3 (by decide) (svR rfl) rfl (nle rfl) rfl) <|
   ils_cons rfl (iop_max2 rfl rfl (lb rfl) (svI rfl) (svI rfl) hx14) <|
   ils_cons rfl (asI rfl rfl rfl rfl) <|
   ils_end ?_)
  refine iwp_seq ?_
  refine iwp_reg (ils_cons rfl (faR 3 rfl rfl rfl Try.underlying29 rfl ti25 (lb rfl) rfl rfl) <|
   ils_cons rfl (iop_load_rs (d := .osl _ _ _) rfl rfl (lb rfl) Try.underlying25 ag25 ti25 (by decide) (svR rfl) rfl (nle rfl) rfl) <|
   ils_cons rfl (iop_lenO rfl rfl (lb rfl) Try.underlying25 (sv (d := .osl _ _ _) rfl)) <|
   ils_cons rfl (iop_move rfl rfl (lb rfl) (sv (d := .int _ 0) rfl)) <|
   ils_end ?_)
  refine iwp_block ?_
  refine iwp_loopP (α := Nat × Int × (List T_sbuf_Piece)) (fun z => ⟨[(2, .bool a2), (3, .ref 0 0), (6, .ref 1 0), (7, .ref 3 0), (8, .int .i64 x14), (47, .int .i64 (x1.2.2.2.1.length : Int)), (48, .int .i64 z.2.1)], [(0, .blk 29 (v0 a0)), (1, .blk 29 (w11 0 [] 0 ([] : List T_sbuf_Piece) ([] : List T_ivals_Ival) false false false false)), (3, .blk 29 (w12 x1.1 x1.2.1 x1.2.2.1 (.osl 2 E_sbuf_Piece.sz z.2.2.length) x1.2.2.2.2.1 x1.2.2.2.2.2.1 x1.2.2.2.2.2.2.1 x1.2.2.2.2.2.2.2.1 x1.2.2.2.2.2.2.2.2)), (2, .blk 39 (D.flat (z.2.2.map E_sbuf_Piece.d)))]⟩) (fun z => sbuf_Came_L0 a0 a2 x1 x14 z.1 z.2.1 z.2.2 = some r) (fun z => z.1) (fuel, 0, x1.2.2.2.1) (fun i => i) ⟨(.sames rfl rfl), (.cons (.blk rfl rfl rfl) (.cons (.blk rfl rfl rfl) (.cons (.blk rfl rfl rfl) (.cons (EntW.lst rfl) .nil)))), nd_of [0, 1, 3, 2] rfl (by decide), fun _ _ => rfl⟩ ?_ ?_
  ·exact h
  ·
   rintro ⟨n0, v31, v32⟩ h
   cases n0 with
   | zero => exact absurd h (by unfold sbuf_Came_L0; exact nofun)
   | succ n0 =>
    unfold sbuf_Came_L0 at h
    obtain ⟨x49, hx49, h⟩ := bnd_e h
    refine iwp_reg (ils_cons rfl (iop_cmpx rfl rfl (lb rfl) (svI rfl) (svI rfl) rfl hx49) <|
     ils_end ?_)
    refine iwp_seq ?_
    refine iwp_cond (b := _) rfl (fun hc50 => ?_) (fun hc50 => ?_)
    ·
     replace h := bif_t h hc50
     refine iwp_skip ?_
     refine thenQ_n ?_
     refine iwp_seq ?_
     refine iwp_block ?_
     refine iwp_reg (ils_cons rfl (mvI rfl rfl rfl rfl) <|
      ils_cons rfl (asI rfl rfl rfl rfl) <|
      ils_end ?_)
     obtain ⟨x51, hx51, h⟩ := bno_e h
     refine iwp_reg (ils_cons rfl (faR 3 rfl rfl rfl Try.underlying29 rfl ti25 (lb rfl) rfl rfl) <|
      ils_cons rfl (iop_load_rs (d := .osl _ _ _) rfl rfl (lb rfl) Try.underlying25 ag25 ti25 (by decide) (svR rfl) rfl (nle rfl) rfl) <|
      ils_cons rfl (mvI rfl rfl rfl rfl) <|
      ils_cons rfl (iop_idxO E_sbuf_Piece.toEnc0 rfl rfl (lb rfl) Try.underlying25 ti39 (sv (d := .osl _ _ _) rfl) rfl (svI rfl) hx51) <|
      ils_cons rfl (iop_assign rfl rfl (lb rfl) (svR rfl)) <|
      ils_end ?_)
     obtain ⟨x52, hx52, h⟩ := bno_e h
     obtain ⟨x53, hx53, h⟩ := bnd_e h
     obtain ⟨x54, hx54, h⟩ := bno_e h
     obtain ⟨x55, hx55, h⟩ := bnd_e h
     obtain ⟨x56, hx56, h⟩ := bno_e h
     obtain ⟨x57, hx57, h⟩ := bnd_e h
     obtain ⟨x58, hx58, h⟩ := bno_e h
     obtain ⟨x59, hx59, h⟩ := bnd_e h
     refine iwp_drw rfl [⟨[10], [], [(55, .ref 2 (((v31 : Int).toNat) * E_sbuf_Piece.sz + 0))], []⟩,
      ⟨[10], [], [(56, .ref 2 (((v31 : Int).toNat) * E_sbuf_Piece.sz + 0))], []⟩,
      ⟨[10], [], [(57, .ref 2 (((v31 : Int).toNat) * E_sbuf_Piece.sz + 0))], []⟩,
      ⟨[57], [], [(58, .ref 2 (((v31 : Int).toNat) * E_sbuf_Piece.sz + 0))], []⟩,
      ⟨[58], [], [(59, .ref 2 (((v31 : Int).toNat) * E_sbuf_Piece.sz + 0))], []⟩,
      ⟨[59], [2], [(60, .int .i64 x52.From)], []⟩,
      ⟨[8], [], [(61, .int .i64 x14)], []⟩,
      ⟨[60, 61], [], [(62, .int .i64 x53)], []⟩,
      ⟨[10], [], [(63, .ref 2 (((v31 : Int).toNat) * E_sbuf_Piece.sz + 0))], []⟩,
      ⟨[63], [], [(64, .ref 2 (((v31 : Int).toNat) * E_sbuf_Piece.sz + 0))], []⟩,
      ⟨[64], [], [(65, .ref 2 (((v31 : Int).toNat) * E_sbuf_Piece.sz + 1))], []⟩,
      ⟨[65], [2], [(66, .int .i64 x54.To)], []⟩,
      ⟨[8], [], [(67, .int .i64 x14)], []⟩,
      ⟨[66, 67], [], [(68, .int .i64 x55)], []⟩,
      ⟨[55], [], [(69, .ref 2 (((v31 : Int).toNat) * E_sbuf_Piece.sz + 0))], []⟩,
      ⟨[69], [], [(70, .ref 2 (((v31 : Int).toNat) * E_sbuf_Piece.sz + 0))], []⟩,
      ⟨[62, 70], [2], [], [(2, .blk 39 (D.flat (x57.map E_sbuf_Piece.d)))]⟩,
      ⟨[56], [], [(71, .ref 2 (((v31 : Int).toNat) * E_sbuf_Piece.sz + 0))], []⟩,
      ⟨[71], [], [(72, .ref 2 (((v31 : Int).toNat) * E_sbuf_Piece.sz + 1))], []⟩,
      ⟨[68, 72], [2], [], [(2, .blk 39 (D.flat (x59.map E_sbuf_Piece.d)))]⟩] rfl ?_ (by kernel_rfl) ?_
     ·refine .cons (lop rfl rfl fun S hA => (iop_move rfl rfl (lb rfl) (svaR hA rfl rfl))) ?_
      refine .cons (lop rfl rfl fun S hA => (iop_move rfl rfl (lb rfl) (svaR hA rfl rfl))) ?_
      refine .cons (lop rfl rfl fun S hA => (iop_move rfl rfl (lb rfl) (svaR hA rfl rfl))) ?_
      refine .cons (lop rfl rfl fun S hA => (iop_nilCheck_ref rfl rfl (lb rfl) (svaR hA rfl rfl))) ?_
      refine .cons (lop rfl rfl fun S hA => (iop_field_E rfl rfl (lb rfl) Try.underlying39 rfl ti3 (by decide) (svaR hA rfl rfl) (k' := 0) rfl)) ?_
      refine .cons (lop rfl rfl fun S hA => (iop_loadEs E_sbuf_Piece.toEnc0 (d := .int _ _) rfl rfl (lb rfl) Try.underlying3 ag3 ti3 (by decide) (svaR hA rfl rfl) (agi hA rfl rfl) hx52 (nle rfl) rfl)) ?_
      refine .cons (lop rfl rfl fun S hA => (iop_move rfl rfl (lb rfl) (svaI hA rfl rfl))) ?_
      refine .cons (lop rfl rfl fun S hA => (iop_max2 rfl rfl (lb rfl) (svaI hA rfl rfl) (svaI hA rfl rfl) hx53)) ?_
      refine .cons (lop rfl rfl fun S hA => (iop_move rfl rfl (lb rfl) (svaR hA rfl rfl))) ?_
      refine .cons (lop rfl rfl fun S hA => (iop_nilCheck_ref rfl rfl (lb rfl) (svaR hA rfl rfl))) ?_
      refine .cons (lop rfl rfl fun S hA => (iop_field_E rfl rfl (lb rfl) Try.underlying39 rfl ti3 (by decide) (svaR hA rfl rfl) (k' := 1) rfl)) ?_
      refine .cons (lop rfl rfl fun S hA => (iop_loadEs E_sbuf_Piece.toEnc0 (d := .int _ _) rfl rfl (lb rfl) Try.underlying3 ag3 ti3 (by decide) (svaR hA rfl rfl) (agi hA rfl rfl) hx54 (nle rfl) rfl)) ?_
      refine .cons (lop rfl rfl fun S hA => (iop_move rfl rfl (lb rfl) (svaI hA rfl rfl))) ?_
      refine .cons (lop rfl rfl fun S hA => (iop_max2 rfl rfl (lb rfl) (svaI hA rfl rfl) (svaI hA rfl rfl) hx55)) ?_
      refine .cons (lop rfl rfl fun S hA => (iop_nilCheck_ref rfl rfl (lb rfl) (svaR hA rfl rfl))) ?_
      refine .cons (lop rfl rfl fun S hA => (iop_field_E rfl rfl (lb rfl) Try.underlying39 rfl ti3 (by decide) (svaR hA rfl rfl) (k' := 0) rfl)) ?_
      refine .cons (lop rfl rfl fun S hA => (iop_storeE E_sbuf_Piece.toEnc0 (a' := (⟨x53, x56.To, x56.Path, x56.Fin⟩ : T_sbuf_Piece)) rfl rfl ti3 (svaR hA rfl rfl) (agi hA rfl rfl) (svaI hA rfl rfl) rfl rfl rfl hx56 (nle rfl) rfl hx57)) ?_
      refine .cons (lop rfl rfl fun S hA => (iop_nilCheck_ref rfl rfl (lb rfl) (svaR hA rfl rfl))) ?_
      refine .cons (lop rfl rfl fun S hA => (iop_field_E rfl rfl (lb rfl) Try.underlying39 rfl ti3 (by decide) (svaR hA rfl rfl) (k' := 1) rfl)) ?_
      refine .cons (lop rfl rfl fun S hA => (iop_storeE E_sbuf_Piece.toEnc0 (a' := (⟨x58.From, x55, x58.Path, x58.Fin⟩ : T_sbuf_Piece)) rfl rfl ti3 (svaR hA rfl rfl) (agi hA rfl rfl) (svaI hA rfl rfl) rfl rfl rfl hx58 (nle rfl) rfl hx59)) ?_
      exact .nil
     obtain ⟨x60, hx60, h⟩ := bno_e h
     obtain ⟨x61, hx61, h⟩ := bnd_e h
     obtain ⟨x62, hx62, h⟩ := bno_e h
     obtain ⟨x63, hx63, h⟩ := bnd_e h
     refine iwp_region (ils_cons rfl (mvR rfl rfl rfl rfl) <|
      ils_cons rfl (mvR rfl rfl rfl rfl) <|
      ils_cons rfl (iop_nilCheck_ref rfl rfl (lb rfl) (svR rfl)) <|
      ils_cons rfl (iop_field_E rfl rfl (lb rfl) Try.underlying39 rfl ti4 (by decide) (svR rfl) (k' := 3) rfl) <|
      ils_cons rfl (iop_loadEs E_sbuf_Piece.toEnc0 (d := .bool _) rfl rfl (lb rfl) Try.underlying4 ag4 ti4 (by decide) (svR rfl) rfl hx60 (nle rfl) rfl) <|
      ils_cons rfl (mvB rfl rfl rfl rfl) <|
      ils_guard rfl rfl (.one rfl) rfl (by decide) (fun hb => (mvB rfl rfl rfl rfl)) <|
      ils_guard rfl rfl (.one rfl) rfl (by decide) (fun hb => (iop_not rfl rfl (lb rfl) (svcB rfl hb))) <|
      ils_cons rfl (iop_andx rfl rfl (lb rfl) (svB rfl) rfl rfl hx61) <|
      ils_cons rfl (iop_nilCheck_ref rfl rfl (lb rfl) (svR rfl)) <|
      ils_cons rfl (iop_field_E rfl rfl (lb rfl) Try.underlying39 rfl ti4 (by decide) (svR rfl) (k' := 3) rfl) <|
      ils_cons rfl (iop_storeE E_sbuf_Piece.toEnc0 (a' := (⟨x62.From, x62.To, x62.Path, x61⟩ : T_sbuf_Piece)) rfl rfl ti4 (svR rfl) rfl (svB rfl) rfl rfl rfl hx62 (nle rfl) rfl hx63) <|
      ils_nil ?_)
     refine blockQ_n ?_
     refine thenQ_n ?_
     obtain ⟨x64, hx64, h⟩ := bnd_e h
     refine iwp_region (ils_cons rfl (iop_intx rfl rfl (lb rfl) (svI rfl) (sv (d := .int _ 1) rfl) rfl hx64) <|
      ils_cons rfl (mvI rfl rfl rfl rfl) <|
      ils_nil ?_)
     refine thenQ_n ⟨(n0, x64, x63), (fun i => i), ⟨(.sames rfl rfl), (.cons (.blk rfl rfl rfl) (.cons (.blk rfl rfl rfl) (.cons (.blk rfl (by rw [← (len_set hx63 (len_set hx59 (len_set hx57 rfl)))]; rfl) rfl) (.cons (EntW.lst rfl) .nil)))), nd_of [0, 1, 3, 2] rfl (by decide), fun _ _ => rfl⟩, ?_, ?_⟩
     exact h
     exact Nat.lt_succ_self _
    ·
     replace h := bif_f h hc50
     refine iwp_exit ?_
     refine thenQ_e ?_
     refine thenQ_e ?_
     refine blockQ_e ?_
     refine thenQ_n ?_
     obtain ⟨x65, hx65, h⟩ := bno_e h
     refine iwp_reg (ils_cons rfl (faR 3 rfl rfl rfl Try.underlying29 rfl ti25 (lb rfl) rfl rfl) <|
      ils_cons rfl (iop_load_rs (d := .osl _ _ _) rfl rfl (lb rfl) Try.underlying25 ag25 ti25 (by decide) (svR rfl) rfl (nle rfl) rfl) <|
      ils_cons rfl (iop_callh2 (r' := .osl 4 E_sbuf_Piece.sz x65.length) (H1' := [(4, .blk 39 (D.flat (x65.map E_sbuf_Piece.d)))]) 4 [2] rfl rfl (lb rfl) cl33 (.cons (sv (d := .osl _ _ _) rfl) (.cons (sv (d := .fn 34 []) rfl) .nil)) rfl rfl ⟨rfl, rfl, by decide, rfl, List.forall_mem_cons.2 ⟨⟨rfl, rfl, (handL E_sbuf_Piece rfl), (handLr E_sbuf_Piece)⟩, List.forall_mem_nil _⟩⟩ (p_slices_DeleteFunc_sbuf_Piece_sbuf_Piece_h_Came_1 _ _ hx65) rfl rfl (List.forall_mem_cons.2 ⟨⟨rfl, (handLr E_sbuf_Piece)⟩, List.forall_mem_nil _⟩) (by simp only [List.map_cons, List.map_nil, Ent.ren, renL_flat, renL_ref]; rfl)) <|
      ils_cons rfl (faR 3 rfl rfl rfl Try.underlying29 rfl ti25 (lb rfl) rfl rfl) <|
      ils_cons rfl (iop_store (ds' := q4) rfl rfl ti25 (svR rfl) rfl (sv (d := .osl _ _ _) rfl) rfl rfl rfl (nle rfl) rfl) <|
      ils_end ?_)
     obtain ⟨x66, hx66, h⟩ := bnd_e h
     obtain ⟨x67, hx67, h⟩ := bno_e h
     refine iwp_drw rfl [⟨[8], [], [(89, .int .i64 x14)], []⟩,
      ⟨[3], [], [(90, .ref 0 1)], []⟩,
      ⟨[90], [0], [(91, .str a0.Data)], []⟩,
      ⟨[8], [], [(92, .int .i64 x14)], []⟩,
      ⟨[3], [], [(93, .ref 0 0)], []⟩,
      ⟨[93], [0], [(94, .int .i64 a0.Base)], []⟩,
      ⟨[92, 94], [], [(95, .int .i64 x66)], []⟩,
      ⟨[91, 95], [], [(96, .str x67)], []⟩,
      ⟨[7], [], [(97, .ref 3 0)], []⟩,
      ⟨[89, 97], [3], [], [(3, .blk 29 (w12 x14 x1.2.1 x1.2.2.1 (.osl 4 E_sbuf_Piece.sz x65.length) x1.2.2.2.2.1 x1.2.2.2.2.2.1 x1.2.2.2.2.2.2.1 x1.2.2.2.2.2.2.2.1 x1.2.2.2.2.2.2.2.2))]⟩,
      ⟨[7], [], [(98, .ref 3 1)], []⟩,
      ⟨[96, 98], [3], [], [(3, .blk 29 (w12 x14 x67 x1.2.2.1 (.osl 4 E_sbuf_Piece.sz x65.length) x1.2.2.2.2.1 x1.2.2.2.2.2.1 x1.2.2.2.2.2.2.1 x1.2.2.2.2.2.2.2.1 x1.2.2.2.2.2.2.2.2))]⟩] rfl ?_ (by kernel_rfl) ?_
     ·refine .cons (lop rfl rfl fun S hA => (iop_move rfl rfl (lb rfl) (svaI hA rfl rfl))) ?_
      refine .cons (lop rfl rfl fun S hA => (iop_fieldAddr_ref rfl rfl (lb rfl) Try.underlying29 rfl ti9 (by decide) (svaR hA rfl rfl) (off' := 1) rfl)) ?_
      refine .cons (lop rfl rfl fun S hA => (iop_load_rs (d := .str _) rfl rfl (lb rfl) Try.underlying9 ag9 ti9 (by decide) (svaR hA rfl rfl) (agi hA rfl rfl) (nle rfl) rfl)) ?_
      refine .cons (lop rfl rfl fun S hA => (iop_move rfl rfl (lb rfl) (svaI hA rfl rfl))) ?_
      refine .cons (lop rfl rfl fun S hA => (iop_fieldAddr_ref rfl rfl (lb rfl) Try.underlying29 rfl ti3 (by decide) (svaR hA rfl rfl) (off' := 0) rfl)) ?_
      refine .cons (lop rfl rfl fun S hA => (iop_load_rs (d := .int _ _) rfl rfl (lb rfl) Try.underlying3 ag3 ti3 (by decide) (svaR hA rfl rfl) (agi hA rfl rfl) (nle rfl) rfl)) ?_
      refine .cons (lop rfl rfl fun S hA => (iop_intx rfl rfl (lb rfl) (svaI hA rfl rfl) (svaI hA rfl rfl) rfl hx66)) ?_
      refine .cons (lop rfl rfl fun S hA => (iop_cutS rfl rfl (lb rfl) Try.underlying9 (sv (d := .str _) (agr hA rfl rfl)) ⟨_, (svaI hA rfl rfl)⟩ rfl hx67)) ?_
      refine .cons (lop rfl rfl fun S hA => (iop_fieldAddr_ref rfl rfl (lb rfl) Try.underlying29 rfl ti3 (by decide) (svaR hA rfl rfl) (off' := 0) rfl)) ?_
      refine .cons (lop rfl rfl fun S hA => (iop_store (ds' := q4) rfl rfl ti3 (svaR hA rfl rfl) (agi hA rfl rfl) (svaI hA rfl rfl) rfl rfl rfl (nle rfl) rfl)) ?_
      refine .cons (lop rfl rfl fun S hA => (iop_fieldAddr_ref rfl rfl (lb rfl) Try.underlying29 rfl ti9 (by decide) (svaR hA rfl rfl) (off' := 1) rfl)) ?_
      refine .cons (lop rfl rfl fun S hA => (iop_store (ds' := q4) rfl rfl ti9 (svaR hA rfl rfl) (agi hA rfl rfl) (sv (d := .str _) (agr hA rfl rfl)) rfl rfl rfl (nle rfl) rfl)) ?_
      exact .nil
     obtain ⟨x68, hx68, h⟩ := bno_e h
     refine iwp_reg (ils_cons rfl (faR 4 rfl rfl rfl Try.underlying29 rfl ti27 (lb rfl) rfl rfl) <|
      ils_cons rfl (lrL la27 rfl rfl rfl rfl rfl (nle rfl) rfl) <|
      ils_cons rfl (mvI rfl rfl rfl rfl) <|
      ils_cons rfl (iop_build_struct (cs := q7) rfl rfl (lb rfl) Try.underlying59 ti59 pl59 rfl (.cons (svI rfl) .nil) rfl) <|
      ils_cons rfl (iop_call (r := .slice _ _) rfl rfl (lb rfl) cl23 (.cons (svL rfl) (.cons (svA q7 rfl) .nil)) rfl (p_ivals_Cut _ _ _ hx68)) <|
      ils_cons rfl (faR 4 rfl rfl rfl Try.underlying29 rfl ti27 (lb rfl) rfl rfl) <|
      ils_cons rfl (iop_store (ds' := q4) rfl rfl ti27 (svR rfl) rfl (svL rfl) rfl rfl rfl (nle rfl) rfl) <|
      ils_end ?_)
     refine iwp_seq ?_
     refine iwp_reg (ils_cons rfl (mvB rfl rfl rfl rfl) <|
      ils_end ?_)
     refine iwp_cond (b := _) rfl (fun hc69 => ?_) (fun hc69 => ?_)
     ·
      replace h := bif_t h hc69
      refine iwp_region (ils_cons rfl (faR 8 rfl rfl rfl Try.underlying29 rfl ti4 (lb rfl) rfl rfl) <|
       ils_cons rfl (iop_store (ds' := q4) rfl rfl ti4 (svR rfl) rfl (sv (d := .bool true) rfl) rfl rfl rfl (nle rfl) rfl) <|
       ils_cons rfl (faR 7 rfl rfl rfl Try.underlying29 rfl ti4 (lb rfl) rfl rfl) <|
       ils_cons rfl (iop_store (ds' := q4) rfl rfl ti4 (svR rfl) rfl (sv (d := .bool false) rfl) rfl rfl rfl (nle rfl) rfl) <|
       ils_nil ?_)
      refine thenQ_n ?_
      refine iwp_reg (ils_cons rfl (lra q4 la29 rfl rfl rfl rfl rfl (nle rfl) rfl) <|
       ils_cons rfl (stA q4 q4 ti29 rfl rfl rfl rfl rfl rfl rfl rfl (nle rfl) rfl) <|
       ils_end ?_)
      refine iwp_ret ?_
      obtain rfl := Option.some.inj h
      refine ⟨.inr rfl, _, (.cons (rva la29 rfl rfl (nle rfl) rfl) .nil), (.cons (.agg (.k (.k (.k (.cons (FDT E_sbuf_Piece rfl rfl) (.all _)))))) .nil)⟩
     ·
      replace h := bif_f h hc69
      refine iwp_skip ?_
      refine thenQ_n ?_
      refine iwp_reg (ils_cons rfl (lra q4 la29 rfl rfl rfl rfl rfl (nle rfl) rfl) <|
       ils_cons rfl (stA q4 q4 ti29 rfl rfl rfl rfl rfl rfl rfl rfl (nle rfl) rfl) <|
       ils_end ?_)
      refine iwp_ret ?_
      obtain rfl := Option.some.inj h
      refine ⟨.inr rfl, _, (.cons (rva la29 rfl rfl (nle rfl) rfl) .nil), (.cons (.agg (.k (.k (.k (.cons (FDT E_sbuf_Piece rfl rfl) (.all _)))))) .nil)⟩

theorem p_sbuf_Over (a0 : T_sbuf_State) (r : Bool) (h : sbuf_Over a0 = some r) : PureAt Try.prog 16 [.agg (v0 a0)] (.bool r) := by
 refine pure_of_iwp (rs := [.bool r]) Try.func16 rfl Try.ntmps16 (nle rfl) rfl fun O hO => ?_
 show IWP _ _ _ _ ⟨[(0, .agg (v0 a0))], []⟩ _
 unfold sbuf_Over at h
 refine iwp_reg (ils_cons rfl (iop_box' (cs := q3) 0 rfl rfl (lb rfl) rfl (svA q3 rfl) rfl rfl) <|
  ils_cons rfl (iop_assign rfl rfl (lb rfl) (sv (d := .bool false) rfl)) <|
  ils_end ?_)
 obtain ⟨x1, hx1, h⟩ := bnd_e h
 obtain ⟨x2, hx2, h⟩ := bnd_e h
 refine iwp_reg (ils_cons rfl (faR 8 rfl rfl rfl Try.underlying29 rfl ti4 (lb rfl) rfl rfl) <|
  ils_cons rfl (iop_load_rs (d := .bool _) rfl rfl (lb rfl) Try.underlying4 ag4 ti4 (by decide) (svR rfl) rfl (nle rfl) rfl) <|
  ils_cons rfl (mvB rfl rfl rfl rfl) <|
  ils_guard rfl rfl (.one rfl) rfl (by decide) (fun hb => (faR 1 rfl rfl rfl Try.underlying29 rfl ti9 (lb rfl) rfl rfl)) <|
  ils_guard rfl rfl (.one rfl) rfl (by decide) (fun hb => (iop_load_rs (d := .str _) rfl rfl (lb rfl) Try.underlying9 ag9 ti9 (by decide) (svcR rfl hb) rfl (nle rfl) rfl)) <|
  ils_guard rfl rfl (.one rfl) rfl (by decide) (fun hb => (iop_strx rfl rfl (lb rfl) (svc (d := .str _) rfl hb) (sv (d := .str []) rfl) rfl hx1)) <|
  ils_cons rfl (iop_andx rfl rfl (lb rfl) (svB rfl) rfl rfl hx2) <|
  ils_cons rfl (asB rfl rfl rfl rfl) <|
  ils_end ?_)
 refine iwp_ret ?_
 obtain rfl := Option.some.inj h
 refine ⟨.inr rfl, (.cons (sv rfl) .nil)⟩

theorem p_sbuf_Want (a0 : T_sbuf_State) (a1 : Int) (r : Bool) (h : sbuf_Want a0 a1 = some r) : PureAt Try.prog 12 [.agg (v0 a0), .int .i64 a1] (.bool r) := by
 refine pure_of_iwp (rs := [.bool r]) Try.func12 rfl Try.ntmps12 (nle rfl) rfl fun O hO => ?_
 show IWP _ _ _ _ ⟨[(0, .agg (v0 a0)), (1, .int .i64 a1)], []⟩ _
 unfold sbuf_Want at h
 refine iwp_reg (ils_cons rfl (iop_box' (cs := q3) 0 rfl rfl (lb rfl) rfl (svA q3 rfl) rfl rfl) <|
  ils_cons rfl (iop_assign rfl rfl (lb rfl) (sv (d := .bool false) rfl)) <|
  ils_end ?_)
 refine iwp_seq ?_
 obtain ⟨x1, hx1, h⟩ := bno_e h
 obtain ⟨x2, hx2, h⟩ := bnd_e h
 refine iwp_reg (ils_cons rfl (lra q3 la29 rfl rfl rfl rfl rfl (nle rfl) rfl) <|
  ils_cons rfl (iop_call (r := .int _ _) rfl rfl (lb rfl) cl13 (.cons (svA q3 rfl) .nil) rfl (p_sbuf_Check _ _ hx1)) <|
  ils_cons rfl (iop_cmpx rfl rfl (lb rfl) (svI rfl) (sv (d := .int _ 0) rfl) rfl hx2) <|
  ils_end ?_)
 refine iwp_cond (b := _) rfl (fun hc3 => ?_) (fun hc3 => ?_)
 ·
  replace h := bif_t h hc3
  refine iwp_reg (ils_cons rfl (iop_assign rfl rfl (lb rfl) (sv (d := .bool false) rfl)) <|
   ils_end ?_)
  refine iwp_ret ?_
  refine thenQ_r ?_
  obtain rfl := Option.some.inj h
  refine ⟨.inr rfl, (.cons (sv rfl) .nil)⟩
 ·
  replace h := bif_f h hc3
  refine iwp_skip ?_
  refine thenQ_n ?_
  obtain ⟨x4, hx4, h⟩ := bno_e h
  refine iwp_reg (ils_cons rfl (lra q3 la29 rfl rfl rfl rfl rfl (nle rfl) rfl) <|
   ils_cons rfl (mvI rfl rfl rfl rfl) <|
   ils_cons rfl (iop_call (r := .tuple q10) rfl rfl (lb rfl) cl22 (.cons (svA q3 rfl) (.cons (sv (d := .int _ 1) rfl) (.cons (svI rfl) .nil))) rfl (p_sbuf_State_next _ _ _ _ hx4)) <|
   ils_cons rfl (iop_move rfl rfl (lb rfl) (sv (d := .tuple q10) rfl)) <|
   ils_cons rfl (iop_extract (d := .agg q6) rfl rfl (lb rfl) (sv (d := .tuple q10) rfl) rfl) <|
   ils_cons rfl (iop_extract (d := .bool _) rfl rfl (lb rfl) (sv (d := .tuple q10) rfl) rfl) <|
   ils_cons rfl (iop_allocS (cs := q6) (cs' := (w14 0 0 0 false)) 1 rfl rfl (lb rfl) rfl ti39 rfl rfl (.all _)) <|
   ils_cons rfl (stA q6 q6 ti39 rfl rfl rfl rfl rfl rfl rfl rfl (nle rfl) rfl) <|
   ils_cons rfl (asB rfl rfl rfl rfl) <|
   ils_end ?_)
  refine iwp_reg (ils_cons rfl (mvB rfl rfl rfl rfl) <|
   ils_cons rfl (asB rfl rfl rfl rfl) <|
   ils_end ?_)
  refine iwp_ret ?_
  obtain rfl := Option.some.inj h
  refine ⟨.inr rfl, (.cons (sv rfl) .nil)⟩

theorem p_slices_Equal_sbuf_Piece_sbuf_Piece (a0 : (List T_sbuf_Piece)) (a1 : (List T_sbuf_Piece)) (r : Bool) (h : slices_Equal_sbuf_Piece_sbuf_Piece a0 a1 = some r) : PureAt Try.prog 35 [.slice false (a0.map E_sbuf_Piece.d), .slice false (a1.map E_sbuf_Piece.d)] (.bool r) := by
 refine pure_of_iwp (rs := [.bool r]) Try.func35 rfl Try.ntmps35 (nle rfl) rfl fun O hO => ?_
 show IWP _ _ _ _ ⟨[(0, .slice false (a0.map E_sbuf_Piece.d)), (1, .slice false (a1.map E_sbuf_Piece.d))], []⟩ _
 unfold slices_Equal_sbuf_Piece_sbuf_Piece at h
 refine iwp_reg (ils_cons rfl (iop_assign rfl rfl (lb rfl) (sv (d := .bool false) rfl)) <|
  ils_end ?_)
 refine iwp_seq ?_
 obtain ⟨x1, hx1, h⟩ := bnd_e h
 refine iwp_reg (ils_cons rfl (mvL rfl rfl rfl rfl) <|
  ils_cons rfl (iop_lenT E_sbuf_Piece (l := a0) rfl rfl (lb rfl) Try.underlying25 (svL rfl)) <|
  ils_cons rfl (mvL rfl rfl rfl rfl) <|
  ils_cons rfl (iop_lenT E_sbuf_Piece (l := a1) rfl rfl (lb rfl) Try.underlying25 (svL rfl)) <|
  ils_cons rfl (iop_cmpx rfl rfl (lb rfl) (svI rfl) (svI rfl) rfl hx1) <|
  ils_end ?_)
 refine iwp_cond (b := _) rfl (fun hc2 => ?_) (fun hc2 => ?_)
 ·
  replace h := bif_t h hc2
  refine iwp_reg (ils_cons rfl (iop_assign rfl rfl (lb rfl) (sv (d := .bool false) rfl)) <|
   ils_end ?_)
  refine iwp_ret ?_
  refine thenQ_r ?_
  obtain rfl := Option.some.inj h
  refine ⟨.inr rfl, (.cons (sv rfl) .nil)⟩
 ·
  replace h := bif_f h hc2
  refine iwp_skip ?_
  refine thenQ_n ?_
  refine iwp_seq ?_
  refine iwp_reg (ils_cons rfl (mvL rfl rfl rfl rfl) <|
   ils_cons rfl (iop_lenT E_sbuf_Piece (l := a0) rfl rfl (lb rfl) Try.underlying25 (svL rfl)) <|
   ils_cons rfl (iop_move rfl rfl (lb rfl) (sv (d := .int _ 0) rfl)) <|
   ils_end ?_)
  refine iwp_block ?_
  refine iwp_loopP (α := Nat × Int) (fun z => ⟨[(0, .slice false (a0.map E_sbuf_Piece.d)), (1, .slice false (a1.map E_sbuf_Piece.d)), (12, .int .i64 (a0.length : Int)), (13, .int .i64 z.2)], []⟩) (fun z => slices_Equal_sbuf_Piece_sbuf_Piece_L0 a0 a1 z.1 z.2 = some r) (fun z => z.1) (fuel, 0) (fun i => i) ⟨(.sames rfl rfl), .nil, nd_of [] rfl (by decide), fun _ _ => rfl⟩ ?_ ?_
  ·exact h
  ·
   rintro ⟨n0, v10⟩ h
   cases n0 with
   | zero => exact absurd h (by unfold slices_Equal_sbuf_Piece_sbuf_Piece_L0; exact nofun)
   | succ n0 =>
    unfold slices_Equal_sbuf_Piece_sbuf_Piece_L0 at h
    obtain ⟨x18, hx18, h⟩ := bnd_e h
    refine iwp_reg (ils_cons rfl (iop_cmpx rfl rfl (lb rfl) (svI rfl) (svI rfl) rfl hx18) <|
     ils_end ?_)
    refine iwp_seq ?_
    refine iwp_cond (b := _) rfl (fun hc19 => ?_) (fun hc19 => ?_)
    ·
     replace h := bif_t h hc19
     refine iwp_skip ?_
     refine thenQ_n ?_
     refine iwp_seq ?_
     refine iwp_block ?_
     refine iwp_reg (ils_cons rfl (mvI rfl rfl rfl rfl) <|
      ils_cons rfl (asI rfl rfl rfl rfl) <|
      ils_end ?_)
     obtain ⟨x20, hx20, h⟩ := bno_e h
     obtain ⟨x21, hx21, h⟩ := bno_e h
     obtain ⟨x22, hx22, h⟩ := bnd_e h
     refine iwp_drw rfl [⟨[0], [], [(16, .slice false (a0.map E_sbuf_Piece.d))], []⟩,
      ⟨[5], [], [(17, .int .i64 v10)], []⟩,
      ⟨[16, 17], [], [(18, .fptr (v1 x20))], []⟩,
      ⟨[18], [], [(19, .agg (v1 x20))], []⟩,
      ⟨[1], [], [(20, .slice false (a1.map E_sbuf_Piece.d))], []⟩,
      ⟨[5], [], [(21, .int .i64 v10)], []⟩,
      ⟨[20, 21], [], [(22, .fptr (v1 x21))], []⟩,
      ⟨[22], [], [(23, .agg (v1 x21))], []⟩,
      ⟨[19, 23], [], [(24, .bool (!x22))], []⟩] rfl ?_ (by kernel_rfl) ?_
     ·refine .cons (lop rfl rfl fun S hA => (iop_move rfl rfl (lb rfl) (svaL hA rfl rfl))) ?_
      refine .cons (lop rfl rfl fun S hA => (iop_move rfl rfl (lb rfl) (svaI hA rfl rfl))) ?_
      refine .cons (lop rfl rfl fun S hA => (iop_idxT E_sbuf_Piece (cs := q6) rfl rfl (lb rfl) Try.underlying25 ti39 (svaL hA rfl rfl) (svaI hA rfl rfl) hx20 rfl rfl)) ?_
      refine .cons (lop rfl rfl fun S hA => (iop_load_fa (cs := q6) rfl rfl (lb rfl) Try.underlying39 ag39 ti39 (by decide) (sv (d := .fptr q6) (agr hA rfl rfl)) (nle rfl) rfl)) ?_
      refine .cons (lop rfl rfl fun S hA => (iop_move rfl rfl (lb rfl) (svaL hA rfl rfl))) ?_
      refine .cons (lop rfl rfl fun S hA => (iop_move rfl rfl (lb rfl) (svaI hA rfl rfl))) ?_
      refine .cons (lop rfl rfl fun S hA => (iop_idxT E_sbuf_Piece (cs := q6) rfl rfl (lb rfl) Try.underlying25 ti39 (svaL hA rfl rfl) (svaI hA rfl rfl) hx21 rfl rfl)) ?_
      refine .cons (lop rfl rfl fun S hA => (iop_load_fa (cs := q6) rfl rfl (lb rfl) Try.underlying39 ag39 ti39 (by decide) (sv (d := .fptr q6) (agr hA rfl rfl)) (nle rfl) rfl)) ?_
      refine .cons (lop rfl rfl fun S hA => (iop_nes rfl rfl (lb rfl) Try.underlying39 st39.1 st39.2 (svaA q6 hA rfl rfl) (svaA q6 hA rfl rfl) (congrArg some hx22))) ?_
      exact .nil
     refine iwp_cond (b := _) rfl (fun hc23 => ?_) (fun hc23 => ?_)
     ·
      replace h := bif_t h hc23
      refine iwp_reg (ils_cons rfl (iop_assign rfl rfl (lb rfl) (sv (d := .bool false) rfl)) <|
       ils_end ?_)
      refine iwp_ret ?_
      refine blockQ_r ?_
      refine thenQ_r ?_
      refine thenQ_r ?_
      refine blockQ_r ?_
      refine thenQ_r ?_
      obtain rfl := Option.some.inj h
      refine ⟨.inr rfl, (.cons (sv rfl) .nil)⟩
     ·
      replace h := bif_f h hc23
      refine iwp_skip ?_
      refine blockQ_n ?_
      refine thenQ_n ?_
      obtain ⟨x24, hx24, h⟩ := bnd_e h
      refine iwp_region (ils_cons rfl (iop_intx rfl rfl (lb rfl) (svI rfl) (sv (d := .int _ 1) rfl) rfl hx24) <|
       ils_cons rfl (mvI rfl rfl rfl rfl) <|
       ils_nil ?_)
      refine thenQ_n ⟨(n0, x24), (fun i => i), ⟨(.sames rfl rfl), .nil, nd_of [] rfl (by decide), fun _ _ => rfl⟩, ?_, ?_⟩
      exact h
      exact Nat.lt_succ_self _
    ·
     replace h := bif_f h hc19
     refine iwp_exit ?_
     refine thenQ_e ?_
     refine thenQ_e ?_
     refine blockQ_e ?_
     refine thenQ_n ?_
     refine iwp_reg (ils_cons rfl (iop_assign rfl rfl (lb rfl) (sv (d := .bool true) rfl)) <|
      ils_end ?_)
     refine iwp_ret ?_
     obtain rfl := Option.some.inj h
     refine ⟨.inr rfl, (.cons (sv rfl) .nil)⟩

theorem p_sbuf_Same (a0 : T_sbuf_State) (a1 : T_sbuf_State) (r : Bool) (h : sbuf_Same a0 a1 = some r) : PureAt Try.prog 18 [.agg (v0 a0), .agg (v0 a1)] (.bool r) := by
 refine pure_of_iwp (rs := [.bool r]) Try.func18 rfl Try.ntmps18 (nle rfl) rfl fun O hO => ?_
 show IWP _ _ _ _ ⟨[(0, .agg (v0 a0)), (1, .agg (v0 a1))], []⟩ _
 unfold sbuf_Same at h
 refine iwp_reg (ils_cons rfl (iop_box' (cs := q3) 0 rfl rfl (lb rfl) rfl (svA q3 rfl) rfl rfl) <|
  ils_cons rfl (iop_box' (cs := q3) 1 rfl rfl (lb rfl) rfl (svA q3 rfl) rfl rfl) <|
  ils_cons rfl (iop_assign rfl rfl (lb rfl) (sv (d := .bool false) rfl)) <|
  ils_end ?_)
 refine iwp_seq ?_
 obtain ⟨x1, hx1, h⟩ := bno_e h
 obtain ⟨x2, hx2, h⟩ := bno_e h
 obtain ⟨x3, hx3, h⟩ := bnd_e h
 refine iwp_reg (ils_cons rfl (faR 3 rfl rfl rfl Try.underlying29 rfl ti25 (lb rfl) rfl rfl) <|
  ils_cons rfl (lrL la25 rfl rfl rfl rfl rfl (nle rfl) rfl) <|
  ils_cons rfl (faR 3 rfl rfl rfl Try.underlying29 rfl ti25 (lb rfl) rfl rfl) <|
  ils_cons rfl (lrL la25 rfl rfl rfl rfl rfl (nle rfl) rfl) <|
  ils_cons rfl (iop_call (r := .bool _) rfl rfl (lb rfl) cl35 (.cons (svL rfl) (.cons (svL rfl) .nil)) rfl (p_slices_Equal_sbuf_Piece_sbuf_Piece _ _ _ hx1)) <|
  ils_cons rfl (iop_not rfl rfl (lb rfl) (svB rfl)) <|
  ils_cons rfl (mvB rfl rfl rfl rfl) <|
  ils_guard rfl rfl (.one rfl) rfl (by decide) (fun hb => (faR 4 rfl rfl rfl Try.underlying29 rfl ti27 (lb rfl) rfl rfl)) <|
  ils_guard rfl rfl (.one rfl) rfl (by decide) (fun hb => (iop_load_rs (d := .slice _ _) rfl rfl (lb rfl) Try.underlying27 ag27 ti27 (by decide) (svcR rfl hb) rfl (nle rfl) rfl)) <|
  ils_guard rfl rfl (.one rfl) rfl (by decide) (fun hb => (faR 4 rfl rfl rfl Try.underlying29 rfl ti27 (lb rfl) rfl rfl)) <|
  ils_guard rfl rfl (.one rfl) rfl (by decide) (fun hb => (iop_load_rs (d := .slice _ _) rfl rfl (lb rfl) Try.underlying27 ag27 ti27 (by decide) (svcR rfl hb) rfl (nle rfl) rfl)) <|
  ils_guard rfl rfl (.one rfl) rfl (by decide) (fun hb => (iop_call (r := .bool _) rfl rfl (lb rfl) cl36 (.cons (svcL rfl hb) (.cons (svcL rfl hb) .nil)) rfl (p_ivals_Same _ _ _ (gd_t hx2 hb)))) <|
  ils_guard rfl rfl (.one rfl) rfl (by decide) (fun hb => (iop_not rfl rfl (lb rfl) (svcB rfl hb))) <|
  ils_cons rfl (iop_orx rfl rfl (lb rfl) (svB rfl) rfl rfl hx3) <|
  ils_end ?_)
 refine iwp_cond (b := _) rfl (fun hc4 => ?_) (fun hc4 => ?_)
 ·
  replace h := bif_t h hc4
  refine iwp_reg (ils_cons rfl (iop_assign rfl rfl (lb rfl) (sv (d := .bool false) rfl)) <|
   ils_end ?_)
  refine iwp_ret ?_
  refine thenQ_r ?_
  obtain rfl := Option.some.inj h
  refine ⟨.inr rfl, (.cons (sv rfl) .nil)⟩
 ·
  replace h := bif_f h hc4
  refine iwp_skip ?_
  refine thenQ_n ?_
  obtain ⟨x5, hx5, h⟩ := bnd_e h
  obtain ⟨x6, hx6, h⟩ := bnd_e h
  obtain ⟨x7, hx7, h⟩ := bnd_e h
  obtain ⟨x8, hx8, h⟩ := bnd_e h
  obtain ⟨x9, hx9, h⟩ := bnd_e h
  obtain ⟨x10, hx10, h⟩ := bnd_e h
  obtain ⟨x11, hx11, h⟩ := bnd_e h
  refine iwp_reg (ils_cons rfl (faR 5 rfl rfl rfl Try.underlying29 rfl ti4 (lb rfl) rfl rfl) <|
   ils_cons rfl (iop_load_rs (d := .bool _) rfl rfl (lb rfl) Try.underlying4 ag4 ti4 (by decide) (svR rfl) rfl (nle rfl) rfl) <|
   ils_cons rfl (faR 5 rfl rfl rfl Try.underlying29 rfl ti4 (lb rfl) rfl rfl) <|
   ils_cons rfl (iop_load_rs (d := .bool _) rfl rfl (lb rfl) Try.underlying4 ag4 ti4 (by decide) (svR rfl) rfl (nle rfl) rfl) <|
   ils_cons rfl (iop_eqbx rfl rfl (lb rfl) Try.underlying4 (svB rfl) (svB rfl) hx5) <|
   ils_cons rfl (mvB rfl rfl rfl rfl) <|
   ils_guard rfl rfl (.one rfl) rfl (by decide) (fun hb => (faR 6 rfl rfl rfl Try.underlying29 rfl ti4 (lb rfl) rfl rfl)) <|
   ils_guard rfl rfl (.one rfl) rfl (by decide) (fun hb => (iop_load_rs (d := .bool _) rfl rfl (lb rfl) Try.underlying4 ag4 ti4 (by decide) (svcR rfl hb) rfl (nle rfl) rfl)) <|
   ils_guard rfl rfl (.one rfl) rfl (by decide) (fun hb => (faR 6 rfl rfl rfl Try.underlying29 rfl ti4 (lb rfl) rfl rfl)) <|
   ils_guard rfl rfl (.one rfl) rfl (by decide) (fun hb => (iop_load_rs (d := .bool _) rfl rfl (lb rfl) Try.underlying4 ag4 ti4 (by decide) (svcR rfl hb) rfl (nle rfl) rfl)) <|
   ils_guard rfl rfl (.one rfl) rfl (by decide) (fun hb => (iop_eqbx rfl rfl (lb rfl) Try.underlying4 (svcB rfl hb) (svcB rfl hb) hx6)) <|
   ils_cons rfl (iop_andx rfl rfl (lb rfl) (svB rfl) rfl rfl hx7) <|
   ils_cons rfl (mvB rfl rfl rfl rfl) <|
   ils_guard rfl rfl (.one rfl) rfl (by decide) (fun hb => (faR 7 rfl rfl rfl Try.underlying29 rfl ti4 (lb rfl) rfl rfl)) <|
   ils_guard rfl rfl (.one rfl) rfl (by decide) (fun hb => (iop_load_rs (d := .bool _) rfl rfl (lb rfl) Try.underlying4 ag4 ti4 (by decide) (svcR rfl hb) rfl (nle rfl) rfl)) <|
   ils_guard rfl rfl (.one rfl) rfl (by decide) (fun hb => (faR 7 rfl rfl rfl Try.underlying29 rfl ti4 (lb rfl) rfl rfl)) <|
   ils_guard rfl rfl (.one rfl) rfl (by decide) (fun hb => (iop_load_rs (d := .bool _) rfl rfl (lb rfl) Try.underlying4 ag4 ti4 (by decide) (svcR rfl hb) rfl (nle rfl) rfl)) <|
   ils_guard rfl rfl (.one rfl) rfl (by decide) (fun hb => (iop_eqbx rfl rfl (lb rfl) Try.underlying4 (svcB rfl hb) (svcB rfl hb) hx8)) <|
   ils_cons rfl (iop_andx rfl rfl (lb rfl) (svB rfl) rfl rfl hx9) <|
   ils_cons rfl (mvB rfl rfl rfl rfl) <|
   ils_guard rfl rfl (.one rfl) rfl (by decide) (fun hb => (faR 8 rfl rfl rfl Try.underlying29 rfl ti4 (lb rfl) rfl rfl)) <|
   ils_guard rfl rfl (.one rfl) rfl (by decide) (fun hb => (iop_load_rs (d := .bool _) rfl rfl (lb rfl) Try.underlying4 ag4 ti4 (by decide) (svcR rfl hb) rfl (nle rfl) rfl)) <|
   ils_guard rfl rfl (.one rfl) rfl (by decide) (fun hb => (faR 8 rfl rfl rfl Try.underlying29 rfl ti4 (lb rfl) rfl rfl)) <|
   ils_guard rfl rfl (.one rfl) rfl (by decide) (fun hb => (iop_load_rs (d := .bool _) rfl rfl (lb rfl) Try.underlying4 ag4 ti4 (by decide) (svcR rfl hb) rfl (nle rfl) rfl)) <|
   ils_guard rfl rfl (.one rfl) rfl (by decide) (fun hb => (iop_eqbx rfl rfl (lb rfl) Try.underlying4 (svcB rfl hb) (svcB rfl hb) hx10)) <|
   ils_cons rfl (iop_andx rfl rfl (lb rfl) (svB rfl) rfl rfl hx11) <|
   ils_cons rfl (asB rfl rfl rfl rfl) <|
   ils_end ?_)
  obtain ⟨x12, hx12, h⟩ := bnd_e h
  obtain ⟨x13, hx13, h⟩ := bnd_e h
  obtain ⟨x14, hx14, h⟩ := bnd_e h
  obtain ⟨x15, hx15, h⟩ := bnd_e h
  obtain ⟨x16, hx16, h⟩ := bnd_e h
  obtain ⟨x17, hx17, h⟩ := bnd_e h
  refine iwp_reg (ils_cons rfl (mvB rfl rfl rfl rfl) <|
   ils_cons rfl (mvB rfl rfl rfl rfl) <|
   ils_guard rfl rfl (.one rfl) rfl (by decide) (fun hb => (faR 0 rfl rfl rfl Try.underlying29 rfl ti3 (lb rfl) rfl rfl)) <|
   ils_guard rfl rfl (.one rfl) rfl (by decide) (fun hb => (iop_load_rs (d := .int _ _) rfl rfl (lb rfl) Try.underlying3 ag3 ti3 (by decide) (svcR rfl hb) rfl (nle rfl) rfl)) <|
   ils_guard rfl rfl (.one rfl) rfl (by decide) (fun hb => (faR 0 rfl rfl rfl Try.underlying29 rfl ti3 (lb rfl) rfl rfl)) <|
   ils_guard rfl rfl (.one rfl) rfl (by decide) (fun hb => (iop_load_rs (d := .int _ _) rfl rfl (lb rfl) Try.underlying3 ag3 ti3 (by decide) (svcR rfl hb) rfl (nle rfl) rfl)) <|
   ils_guard rfl rfl (.one rfl) rfl (by decide) (fun hb => (iop_cmpx rfl rfl (lb rfl) (svcI rfl hb) (svcI rfl hb) rfl hx12)) <|
   ils_cons rfl (iop_andx rfl rfl (lb rfl) (svB rfl) rfl rfl hx13) <|
   ils_cons rfl (mvB rfl rfl rfl rfl) <|
   ils_guard rfl rfl (.one rfl) rfl (by decide) (fun hb => (faR 1 rfl rfl rfl Try.underlying29 rfl ti9 (lb rfl) rfl rfl)) <|
   ils_guard rfl rfl (.one rfl) rfl (by decide) (fun hb => (iop_load_rs (d := .str _) rfl rfl (lb rfl) Try.underlying9 ag9 ti9 (by decide) (svcR rfl hb) rfl (nle rfl) rfl)) <|
   ils_guard rfl rfl (.one rfl) rfl (by decide) (fun hb => (faR 1 rfl rfl rfl Try.underlying29 rfl ti9 (lb rfl) rfl rfl)) <|
   ils_guard rfl rfl (.one rfl) rfl (by decide) (fun hb => (iop_load_rs (d := .str _) rfl rfl (lb rfl) Try.underlying9 ag9 ti9 (by decide) (svcR rfl hb) rfl (nle rfl) rfl)) <|
   ils_guard rfl rfl (.one rfl) rfl (by decide) (fun hb => (iop_strx rfl rfl (lb rfl) (svc (d := .str _) rfl hb) (svc (d := .str _) rfl hb) rfl hx14)) <|
   ils_cons rfl (iop_andx rfl rfl (lb rfl) (svB rfl) rfl rfl hx15) <|
   ils_cons rfl (mvB rfl rfl rfl rfl) <|
   ils_guard rfl rfl (.one rfl) rfl (by decide) (fun hb => (faR 2 rfl rfl rfl Try.underlying29 rfl ti3 (lb rfl) rfl rfl)) <|
   ils_guard rfl rfl (.one rfl) rfl (by decide) (fun hb => (iop_load_rs (d := .int _ _) rfl rfl (lb rfl) Try.underlying3 ag3 ti3 (by decide) (svcR rfl hb) rfl (nle rfl) rfl)) <|
   ils_guard rfl rfl (.one rfl) rfl (by decide) (fun hb => (faR 2 rfl rfl rfl Try.underlying29 rfl ti3 (lb rfl) rfl rfl)) <|
   ils_guard rfl rfl (.one rfl) rfl (by decide) (fun hb => (iop_load_rs (d := .int _ _) rfl rfl (lb rfl) Try.underlying3 ag3 ti3 (by decide) (svcR rfl hb) rfl (nle rfl) rfl)) <|
   ils_guard rfl rfl (.one rfl) rfl (by decide) (fun hb => (iop_cmpx rfl rfl (lb rfl) (svcI rfl hb) (svcI rfl hb) rfl hx16)) <|
   ils_cons rfl (iop_andx rfl rfl (lb rfl) (svB rfl) rfl rfl hx17) <|
   ils_cons rfl (asB rfl rfl rfl rfl) <|
   ils_end ?_)
  refine iwp_ret ?_
  obtain rfl := Option.some.inj h
  refine ⟨.inr rfl, (.cons (sv rfl) .nil)⟩

theorem p_sennitlaw23_awake  (r : Bool) (h : sennitlaw23_awake = some r) : PureAt Try.prog 6 [] (.bool r) := by
 refine pure_of_iwp (rs := [.bool r]) Try.func6 rfl Try.ntmps6 (nle rfl) rfl fun O hO => ?_
 show IWP _ _ _ _ ⟨[], []⟩ _
 unfold sennitlaw23_awake at h
 refine iwp_reg (ils_cons rfl (iop_assign rfl rfl (lb rfl) (sv (d := .bool false) rfl)) <|
  ils_end ?_)
 obtain ⟨x1, hx1, h⟩ := bno_e h
 obtain ⟨x2, hx2, h⟩ := bno_e h
 refine iwp_reg (ils_cons rfl (iop_call (r := .agg q3) rfl rfl (lb rfl) cl7 .nil rfl (p_sbuf_New  _ hx1)) <|
  ils_cons rfl (iop_call (r := .tuple q9) rfl rfl (lb rfl) cl9 (.cons (svA q3 rfl) (.cons (sv (d := .str [97, 98, 99]) rfl) .nil)) rfl (p_sbuf_Write _ _ _ hx2)) <|
  ils_cons rfl (iop_move rfl rfl (lb rfl) (sv (d := .tuple q9) rfl)) <|
  ils_cons rfl (iop_extract (d := .agg q3) rfl rfl (lb rfl) (sv (d := .tuple q9) rfl) rfl) <|
  ils_cons rfl (iop_extract (d := .int _ _) rfl rfl (lb rfl) (sv (d := .tuple q9) rfl) rfl) <|
  ils_cons rfl (iop_allocS (cs := q5) (cs' := (w11 0 [] 0 ([] : List T_sbuf_Piece) ([] : List T_ivals_Ival) false false false false)) 0 rfl rfl (lb rfl) rfl ti29 rfl rfl (.k (.k (.k (.cons (.nils _) (.cons (.nils _) (.all _))))))) <|
  ils_cons rfl (stA q3 q3 ti29 rfl rfl rfl rfl rfl rfl rfl rfl (nle rfl) rfl) <|
  ils_cons rfl (asI rfl rfl rfl rfl) <|
  ils_end ?_)
 obtain ⟨x3, hx3, h⟩ := bno_e h
 refine iwp_reg (ils_cons rfl (lra q3 la29 rfl rfl rfl rfl rfl (nle rfl) rfl) <|
  ils_cons rfl (iop_call (r := .agg q3) rfl rfl (lb rfl) cl15 (.cons (svA q3 rfl) .nil) rfl (p_sbuf_Close _ _ hx3)) <|
  ils_cons rfl (stA q3 q3 ti29 rfl rfl rfl rfl rfl rfl rfl rfl (nle rfl) rfl) <|
  ils_end ?_)
 obtain ⟨x4, hx4, h⟩ := bno_e h
 refine iwp_reg (ils_cons rfl (lra q3 la29 rfl rfl rfl rfl rfl (nle rfl) rfl) <|
  ils_cons rfl (iop_call (r := .tuple q8) rfl rfl (lb rfl) cl11 (.cons (svA q3 rfl) (.cons (sv (d := .int _ 0) rfl) (.cons (sv (d := .int _ 9) rfl) (.cons (sv (d := .int _ 9) rfl) .nil)))) rfl (p_sbuf_Pick _ _ _ _ _ hx4)) <|
  ils_cons rfl (iop_move rfl rfl (lb rfl) (sv (d := .tuple q8) rfl)) <|
  ils_cons rfl (iop_extract (d := .agg q3) rfl rfl (lb rfl) (sv (d := .tuple q8) rfl) rfl) <|
  ils_cons rfl (iop_extract (d := .agg q6) rfl rfl (lb rfl) (sv (d := .tuple q8) rfl) rfl) <|
  ils_cons rfl (iop_extract (d := .str _) rfl rfl (lb rfl) (sv (d := .tuple q8) rfl) rfl) <|
  ils_cons rfl (iop_extract (d := .bool _) rfl rfl (lb rfl) (sv (d := .tuple q8) rfl) rfl) <|
  ils_cons rfl (iop_allocS (cs := q5) (cs' := (w11 0 [] 0 ([] : List T_sbuf_Piece) ([] : List T_ivals_Ival) false false false false)) 1 rfl rfl (lb rfl) rfl ti29 rfl rfl (.k (.k (.k (.cons (.nils _) (.cons (.nils _) (.all _))))))) <|
  ils_cons rfl (iop_allocS (cs := q6) (cs' := (w14 0 0 0 false)) 2 rfl rfl (lb rfl) rfl ti39 rfl rfl (.all _)) <|
  ils_cons rfl (stA q3 q3 ti29 rfl rfl rfl rfl rfl rfl rfl rfl (nle rfl) rfl) <|
  ils_cons rfl (stA q6 q6 ti39 rfl rfl rfl rfl rfl rfl rfl rfl (nle rfl) rfl) <|
  ils_cons rfl (iop_assign rfl rfl (lb rfl) (sv (d := .str _) rfl)) <|
  ils_cons rfl (asB rfl rfl rfl rfl) <|
  ils_end ?_)
 obtain ⟨x5, hx5, h⟩ := bno_e h
 refine iwp_reg (ils_cons rfl (lra q3 la29 rfl rfl rfl rfl rfl (nle rfl) rfl) <|
  ils_cons rfl (iop_call (r := .agg q3) rfl rfl (lb rfl) cl14 (.cons (svA q3 rfl) (.cons (sv (d := .int _ 0) rfl) .nil)) rfl (p_sbuf_Dead _ _ _ hx5)) <|
  ils_cons rfl (iop_allocS (cs := q5) (cs' := (w11 0 [] 0 ([] : List T_sbuf_Piece) ([] : List T_ivals_Ival) false false false false)) 3 rfl rfl (lb rfl) rfl ti29 rfl rfl (.k (.k (.k (.cons (.nils _) (.cons (.nils _) (.all _))))))) <|
  ils_cons rfl (stA q3 q3 ti29 rfl rfl rfl rfl rfl rfl rfl rfl (nle rfl) rfl) <|
  ils_end ?_)
 obtain ⟨x6, hx6, h⟩ := bno_e h
 refine iwp_reg (ils_cons rfl (lra q3 la29 rfl rfl rfl rfl rfl (nle rfl) rfl) <|
  ils_cons rfl (iop_call (r := .tuple q8) rfl rfl (lb rfl) cl11 (.cons (svA q3 rfl) (.cons (sv (d := .int _ 1) rfl) (.cons (sv (d := .int _ 2) rfl) (.cons (sv (d := .int _ 0) rfl) .nil)))) rfl (p_sbuf_Pick _ _ _ _ _ hx6)) <|
  ils_cons rfl (iop_move rfl rfl (lb rfl) (sv (d := .tuple q8) rfl)) <|
  ils_cons rfl (iop_extract (d := .agg q3) rfl rfl (lb rfl) (sv (d := .tuple q8) rfl) rfl) <|
  ils_cons rfl (iop_extract (d := .agg q6) rfl rfl (lb rfl) (sv (d := .tuple q8) rfl) rfl) <|
  ils_cons rfl (iop_extract (d := .str _) rfl rfl (lb rfl) (sv (d := .tuple q8) rfl) rfl) <|
  ils_cons rfl (iop_extract (d := .bool _) rfl rfl (lb rfl) (sv (d := .tuple q8) rfl) rfl) <|
  ils_cons rfl (iop_allocS (cs := q5) (cs' := (w11 0 [] 0 ([] : List T_sbuf_Piece) ([] : List T_ivals_Ival) false false false false)) 4 rfl rfl (lb rfl) rfl ti29 rfl rfl (.k (.k (.k (.cons (.nils _) (.cons (.nils _) (.all _))))))) <|
  ils_cons rfl (iop_allocS (cs := q6) (cs' := (w14 0 0 0 false)) 5 rfl rfl (lb rfl) rfl ti39 rfl rfl (.all _)) <|
  ils_cons rfl (stA q3 q3 ti29 rfl rfl rfl rfl rfl rfl rfl rfl (nle rfl) rfl) <|
  ils_cons rfl (stA q6 q6 ti39 rfl rfl rfl rfl rfl rfl rfl rfl (nle rfl) rfl) <|
  ils_cons rfl (iop_assign rfl rfl (lb rfl) (sv (d := .str _) rfl)) <|
  ils_cons rfl (asB rfl rfl rfl rfl) <|
  ils_end ?_)
 obtain ⟨x7, hx7, h⟩ := bno_e h
 refine iwp_reg (ils_cons rfl (lra q3 la29 rfl rfl rfl rfl rfl (nle rfl) rfl) <|
  ils_cons rfl (iop_call (r := .tuple q8) rfl rfl (lb rfl) cl11 (.cons (svA q3 rfl) (.cons (sv (d := .int _ 2) rfl) (.cons (sv (d := .int _ 2) rfl) (.cons (sv (d := .int _ 0) rfl) .nil)))) rfl (p_sbuf_Pick _ _ _ _ _ hx7)) <|
  ils_cons rfl (iop_move rfl rfl (lb rfl) (sv (d := .tuple q8) rfl)) <|
  ils_cons rfl (iop_extract (d := .agg q3) rfl rfl (lb rfl) (sv (d := .tuple q8) rfl) rfl) <|
  ils_cons rfl (iop_extract (d := .agg q6) rfl rfl (lb rfl) (sv (d := .tuple q8) rfl) rfl) <|
  ils_cons rfl (iop_extract (d := .str _) rfl rfl (lb rfl) (sv (d := .tuple q8) rfl) rfl) <|
  ils_cons rfl (iop_extract (d := .bool _) rfl rfl (lb rfl) (sv (d := .tuple q8) rfl) rfl) <|
  ils_cons rfl (iop_allocS (cs := q5) (cs' := (w11 0 [] 0 ([] : List T_sbuf_Piece) ([] : List T_ivals_Ival) false false false false)) 6 rfl rfl (lb rfl) rfl ti29 rfl rfl (.k (.k (.k (.cons (.nils _) (.cons (.nils _) (.all _))))))) <|
  ils_cons rfl (iop_allocS (cs := q6) (cs' := (w14 0 0 0 false)) 7 rfl rfl (lb rfl) rfl ti39 rfl rfl (.all _)) <|
  ils_cons rfl (stA q3 q3 ti29 rfl rfl rfl rfl rfl rfl rfl rfl (nle rfl) rfl) <|
  ils_cons rfl (stA q6 q6 ti39 rfl rfl rfl rfl rfl rfl rfl rfl (nle rfl) rfl) <|
  ils_cons rfl (iop_assign rfl rfl (lb rfl) (sv (d := .str _) rfl)) <|
  ils_cons rfl (asB rfl rfl rfl rfl) <|
  ils_end ?_)
 obtain ⟨x8, hx8, h⟩ := bno_e h
 refine iwp_reg (ils_cons rfl (lra q3 la29 rfl rfl rfl rfl rfl (nle rfl) rfl) <|
  ils_cons rfl (iop_call (r := .agg q3) rfl rfl (lb rfl) cl17 (.cons (svA q3 rfl) (.cons (sv (d := .int _ 3) rfl) (.cons (sv (d := .bool true) rfl) .nil))) rfl (p_sbuf_Came _ _ _ _ hx8)) <|
  ils_cons rfl (iop_allocS (cs := q5) (cs' := (w11 0 [] 0 ([] : List T_sbuf_Piece) ([] : List T_ivals_Ival) false false false false)) 8 rfl rfl (lb rfl) rfl ti29 rfl rfl (.k (.k (.k (.cons (.nils _) (.cons (.nils _) (.all _))))))) <|
  ils_cons rfl (stA q3 q3 ti29 rfl rfl rfl rfl rfl rfl rfl rfl (nle rfl) rfl) <|
  ils_end ?_)
 obtain ⟨x9, hx9, h⟩ := bnd_e h
 obtain ⟨x10, hx10, h⟩ := bnd_e h
 obtain ⟨x11, hx11, h⟩ := bnd_e h
 obtain ⟨x12, hx12, h⟩ := bnd_e h
 obtain ⟨x13, hx13, h⟩ := bnd_e h
 obtain ⟨x14, hx14, h⟩ := bnd_e h
 obtain ⟨x15, hx15, h⟩ := bnd_e h
 obtain ⟨x16, hx16, h⟩ := bnd_e h
 obtain ⟨x17, hx17, h⟩ := bnd_e h
 obtain ⟨x18, hx18, h⟩ := bnd_e h
 obtain ⟨x19, hx19, h⟩ := bnd_e h
 obtain ⟨x20, hx20, h⟩ := bnd_e h
 obtain ⟨x21, hx21, h⟩ := bnd_e h
 obtain ⟨x22, hx22, h⟩ := bnd_e h
 obtain ⟨x23, hx23, h⟩ := bnd_e h
 obtain ⟨x24, hx24, h⟩ := bnd_e h
 obtain ⟨x25, hx25, h⟩ := bnd_e h
 obtain ⟨x26, hx26, h⟩ := bnd_e h
 obtain ⟨x27, hx27, h⟩ := bnd_e h
 obtain ⟨x28, hx28, h⟩ := bnd_e h
 obtain ⟨x29, hx29, h⟩ := bnd_e h
 obtain ⟨x30, hx30, h⟩ := bno_e h
 obtain ⟨x31, hx31, h⟩ := bnd_e h
 obtain ⟨x32, hx32, h⟩ := bnd_e h
 obtain ⟨x33, hx33, h⟩ := bnd_e h
 obtain ⟨x34, hx34, h⟩ := bno_e h
 obtain ⟨x35, hx35, h⟩ := bnd_e h
 obtain ⟨x36, hx36, h⟩ := bno_e h
 obtain ⟨x37, hx37, h⟩ := bnd_e h
 obtain ⟨x38, hx38, h⟩ := bno_e h
 obtain ⟨x39, hx39, h⟩ := bnd_e h
 obtain ⟨x40, hx40, h⟩ := bno_e h
 obtain ⟨x41, hx41, h⟩ := bnd_e h
 obtain ⟨x42, hx42, h⟩ := bnd_e h
 obtain ⟨x43, hx43, h⟩ := bno_e h
 obtain ⟨x44, hx44, h⟩ := bno_e h
 obtain ⟨x45, hx45, h⟩ := bnd_e h
 obtain ⟨x46, hx46, h⟩ := bnd_e h
 obtain ⟨x47, hx47, h⟩ := bno_e h
 obtain ⟨x48, hx48, h⟩ := bnd_e h
 obtain ⟨x49, hx49, h⟩ := bnd_e h
 obtain ⟨x50, hx50, h⟩ := bno_e h
 obtain ⟨x51, hx51, h⟩ := bnd_e h
 obtain ⟨x52, hx52, h⟩ := bnd_e h
 obtain ⟨x53, hx53, h⟩ := bno_e h
 obtain ⟨x54, hx54, h⟩ := bnd_e h
 obtain ⟨x55, hx55, h⟩ := bno_e h
 obtain ⟨x56, hx56, h⟩ := bnd_e h
 obtain ⟨x57, hx57, h⟩ := bnd_e h
 obtain ⟨x58, hx58, h⟩ := bnd_e h
 obtain ⟨x59, hx59, h⟩ := bnd_e h
 obtain ⟨x60, hx60, h⟩ := bnd_e h
 obtain ⟨x61, hx61, h⟩ := bnd_e h
 refine iwp_reg (ils_cons rfl (mvI rfl rfl rfl rfl) <|
  ils_cons rfl (iop_cmpx rfl rfl (lb rfl) (svI rfl) (sv (d := .int _ 3) rfl) rfl hx9) <|
  ils_cons rfl (mvB rfl rfl rfl rfl) <|
  ils_guard rfl rfl (.one rfl) rfl (by decide) (fun hb => (lra q6 la39 rfl rfl rfl rfl rfl (nle rfl) rfl)) <|
  ils_guard rfl rfl (.one rfl) rfl (by decide) (fun hb => (iop_build_struct (cs := q6) rfl rfl (lb rfl) Try.underlying39 ti39 pl39 rfl (.cons (sv (d := .int _ 3) rfl) (.cons (sv (d := .bool true) rfl) .nil)) rfl)) <|
  ils_guard rfl rfl (.one rfl) rfl (by decide) (fun hb => (iop_eqs rfl rfl (lb rfl) Try.underlying39 st39.1 st39.2 (svcA (v1 x4.2.1) rfl hb) (svcA (w14 0 3 0 true) rfl hb) (congrArg some hx10))) <|
  ils_cons rfl (iop_andx rfl rfl (lb rfl) (svB rfl) rfl rfl hx11) <|
  ils_cons rfl (mvB rfl rfl rfl rfl) <|
  ils_guard rfl rfl (.one rfl) rfl (by decide) (fun hb => (iop_move rfl rfl (lb rfl) (sv (d := .str _) rfl))) <|
  ils_guard rfl rfl (.one rfl) rfl (by decide) (fun hb => (iop_strx rfl rfl (lb rfl) (svc (d := .str _) rfl hb) (sv (d := .str [97, 98, 99]) rfl) rfl hx12)) <|
  ils_cons rfl (iop_andx rfl rfl (lb rfl) (svB rfl) rfl rfl hx13) <|
  ils_cons rfl (mvB rfl rfl rfl rfl) <|
  ils_guard rfl rfl (.one rfl) rfl (by decide) (fun hb => (mvB rfl rfl rfl rfl)) <|
  ils_cons rfl (iop_andx rfl rfl (lb rfl) (svB rfl) rfl rfl hx14) <|
  ils_cons rfl (mvB rfl rfl rfl rfl) <|
  ils_guard rfl rfl (.one rfl) rfl (by decide) (fun hb => (faR 7 rfl rfl rfl Try.underlying29 rfl ti4 (lb rfl) rfl rfl)) <|
  ils_guard rfl rfl (.one rfl) rfl (by decide) (fun hb => (iop_load_rs (d := .bool _) rfl rfl (lb rfl) Try.underlying4 ag4 ti4 (by decide) (svcR rfl hb) rfl (nle rfl) rfl)) <|
  ils_cons rfl (iop_andx rfl rfl (lb rfl) (svB rfl) rfl rfl hx15) <|
  ils_cons rfl (mvB rfl rfl rfl rfl) <|
  ils_guard rfl rfl (.one rfl) rfl (by decide) (fun hb => (faR 4 rfl rfl rfl Try.underlying29 rfl ti27 (lb rfl) rfl rfl)) <|
  ils_guard rfl rfl (.one rfl) rfl (by decide) (fun hb => (iop_load_rs (d := .slice _ _) rfl rfl (lb rfl) Try.underlying27 ag27 ti27 (by decide) (svcR rfl hb) rfl (nle rfl) rfl)) <|
  ils_guard rfl rfl (.one rfl) rfl (by decide) (fun hb => (iop_lenT E_ivals_Ival (l := x5.Lost) rfl rfl (lb rfl) Try.underlying27 (svcL rfl hb))) <|
  ils_guard rfl rfl (.one rfl) rfl (by decide) (fun hb => (iop_cmpx rfl rfl (lb rfl) (svcI rfl hb) (sv (d := .int _ 1) rfl) rfl hx16)) <|
  ils_cons rfl (iop_andx rfl rfl (lb rfl) (svB rfl) rfl rfl hx17) <|
  ils_cons rfl (mvB rfl rfl rfl rfl) <|
  ils_guard rfl rfl (.one rfl) rfl (by decide) (fun hb => (lra q6 la39 rfl rfl rfl rfl rfl (nle rfl) rfl)) <|
  ils_guard rfl rfl (.one rfl) rfl (by decide) (fun hb => (iop_build_struct (cs := q6) rfl rfl (lb rfl) Try.underlying39 ti39 pl39 rfl (.cons (sv (d := .int _ 2) rfl) (.cons (sv (d := .int _ 1) rfl) .nil)) rfl)) <|
  ils_guard rfl rfl (.one rfl) rfl (by decide) (fun hb => (iop_eqs rfl rfl (lb rfl) Try.underlying39 st39.1 st39.2 (svcA (v1 x6.2.1) rfl hb) (svcA (w14 0 2 1 false) rfl hb) (congrArg some hx18))) <|
  ils_cons rfl (iop_andx rfl rfl (lb rfl) (svB rfl) rfl rfl hx19) <|
  ils_cons rfl (mvB rfl rfl rfl rfl) <|
  ils_guard rfl rfl (.one rfl) rfl (by decide) (fun hb => (iop_move rfl rfl (lb rfl) (sv (d := .str _) rfl))) <|
  ils_guard rfl rfl (.one rfl) rfl (by decide) (fun hb => (iop_strx rfl rfl (lb rfl) (svc (d := .str _) rfl hb) (sv (d := .str [97, 98]) rfl) rfl hx20)) <|
  ils_cons rfl (iop_andx rfl rfl (lb rfl) (svB rfl) rfl rfl hx21) <|
  ils_cons rfl (mvB rfl rfl rfl rfl) <|
  ils_guard rfl rfl (.one rfl) rfl (by decide) (fun hb => (mvB rfl rfl rfl rfl)) <|
  ils_cons rfl (iop_andx rfl rfl (lb rfl) (svB rfl) rfl rfl hx22) <|
  ils_cons rfl (mvB rfl rfl rfl rfl) <|
  ils_guard rfl rfl (.one rfl) rfl (by decide) (fun hb => (lra q6 la39 rfl rfl rfl rfl rfl (nle rfl) rfl)) <|
  ils_guard rfl rfl (.one rfl) rfl (by decide) (fun hb => (iop_build_struct (cs := q6) rfl rfl (lb rfl) Try.underlying39 ti39 pl39 rfl (.cons (sv (d := .int _ 2) rfl) (.cons (sv (d := .int _ 3) rfl) (.cons (sv (d := .int _ 2) rfl) (.cons (sv (d := .bool true) rfl) .nil)))) rfl)) <|
  ils_guard rfl rfl (.one rfl) rfl (by decide) (fun hb => (iop_eqs rfl rfl (lb rfl) Try.underlying39 st39.1 st39.2 (svcA (v1 x7.2.1) rfl hb) (svcA (w14 2 3 2 true) rfl hb) (congrArg some hx23))) <|
  ils_cons rfl (iop_andx rfl rfl (lb rfl) (svB rfl) rfl rfl hx24) <|
  ils_cons rfl (mvB rfl rfl rfl rfl) <|
  ils_guard rfl rfl (.one rfl) rfl (by decide) (fun hb => (iop_move rfl rfl (lb rfl) (sv (d := .str _) rfl))) <|
  ils_guard rfl rfl (.one rfl) rfl (by decide) (fun hb => (iop_strx rfl rfl (lb rfl) (svc (d := .str _) rfl hb) (sv (d := .str [99]) rfl) rfl hx25)) <|
  ils_cons rfl (iop_andx rfl rfl (lb rfl) (svB rfl) rfl rfl hx26) <|
  ils_cons rfl (mvB rfl rfl rfl rfl) <|
  ils_guard rfl rfl (.one rfl) rfl (by decide) (fun hb => (mvB rfl rfl rfl rfl)) <|
  ils_cons rfl (iop_andx rfl rfl (lb rfl) (svB rfl) rfl rfl hx27) <|
  ils_cons rfl (mvB rfl rfl rfl rfl) <|
  ils_guard rfl rfl (.one rfl) rfl (by decide) (fun hb => (faR 3 rfl rfl rfl Try.underlying29 rfl ti25 (lb rfl) rfl rfl)) <|
  ils_guard rfl rfl (.one rfl) rfl (by decide) (fun hb => (iop_load_rs (d := .slice _ _) rfl rfl (lb rfl) Try.underlying25 ag25 ti25 (by decide) (svcR rfl hb) rfl (nle rfl) rfl)) <|
  ils_guard rfl rfl (.one rfl) rfl (by decide) (fun hb => (iop_lenT E_sbuf_Piece (l := x7.1.Pieces) rfl rfl (lb rfl) Try.underlying25 (svcL rfl hb))) <|
  ils_guard rfl rfl (.one rfl) rfl (by decide) (fun hb => (iop_cmpx rfl rfl (lb rfl) (svcI rfl hb) (sv (d := .int _ 2) rfl) rfl hx28)) <|
  ils_cons rfl (iop_andx rfl rfl (lb rfl) (svB rfl) rfl rfl hx29) <|
  ils_cons rfl (mvB rfl rfl rfl rfl) <|
  ils_guard rfl rfl (.one rfl) rfl (by decide) (fun hb => (lra q3 la29 rfl rfl rfl rfl rfl (nle rfl) rfl)) <|
  ils_guard rfl rfl (.one rfl) rfl (by decide) (fun hb => (iop_call (r := .bool _) rfl rfl (lb rfl) cl16 (.cons (svcA (v0 x8) rfl hb) .nil) rfl (p_sbuf_Over _ _ (gd_t hx30 hb)))) <|
  ils_cons rfl (iop_andx rfl rfl (lb rfl) (svB rfl) rfl rfl hx31) <|
  ils_cons rfl (mvB rfl rfl rfl rfl) <|
  ils_guard rfl rfl (.one rfl) rfl (by decide) (fun hb => (faR 0 rfl rfl rfl Try.underlying29 rfl ti3 (lb rfl) rfl rfl)) <|
  ils_guard rfl rfl (.one rfl) rfl (by decide) (fun hb => (iop_load_rs (d := .int _ _) rfl rfl (lb rfl) Try.underlying3 ag3 ti3 (by decide) (svcR rfl hb) rfl (nle rfl) rfl)) <|
  ils_guard rfl rfl (.one rfl) rfl (by decide) (fun hb => (iop_cmpx rfl rfl (lb rfl) (svcI rfl hb) (sv (d := .int _ 3) rfl) rfl hx32)) <|
  ils_cons rfl (iop_andx rfl rfl (lb rfl) (svB rfl) rfl rfl hx33) <|
  ils_cons rfl (mvB rfl rfl rfl rfl) <|
  ils_guard rfl rfl (.one rfl) rfl (by decide) (fun hb => (lra q3 la29 rfl rfl rfl rfl rfl (nle rfl) rfl)) <|
  ils_guard rfl rfl (.one rfl) rfl (by decide) (fun hb => (iop_call (r := .bool _) rfl rfl (lb rfl) cl16 (.cons (svcA (v0 x7.1) rfl hb) .nil) rfl (p_sbuf_Over _ _ (gd_t hx34 hb)))) <|
  ils_guard rfl rfl (.one rfl) rfl (by decide) (fun hb => (iop_not rfl rfl (lb rfl) (svcB rfl hb))) <|
  ils_cons rfl (iop_andx rfl rfl (lb rfl) (svB rfl) rfl rfl hx35) <|
  ils_cons rfl (mvB rfl rfl rfl rfl) <|
  ils_guard rfl rfl (.one rfl) rfl (by decide) (fun hb => (lra q3 la29 rfl rfl rfl rfl rfl (nle rfl) rfl)) <|
  ils_guard rfl rfl (.one rfl) rfl (by decide) (fun hb => (iop_call (r := .bool _) rfl rfl (lb rfl) cl12 (.cons (svcA (v0 x5) rfl hb) (.cons (sv (d := .int _ 0) rfl) .nil)) rfl (p_sbuf_Want _ _ _ (gd_t hx36 hb)))) <|
  ils_cons rfl (iop_andx rfl rfl (lb rfl) (svB rfl) rfl rfl hx37) <|
  ils_cons rfl (mvB rfl rfl rfl rfl) <|
  ils_guard rfl rfl (.one rfl) rfl (by decide) (fun hb => (lra q3 la29 rfl rfl rfl rfl rfl (nle rfl) rfl)) <|
  ils_guard rfl rfl (.one rfl) rfl (by decide) (fun hb => (iop_call (r := .bool _) rfl rfl (lb rfl) cl12 (.cons (svcA (v0 x7.1) rfl hb) (.cons (sv (d := .int _ 9) rfl) .nil)) rfl (p_sbuf_Want _ _ _ (gd_t hx38 hb)))) <|
  ils_guard rfl rfl (.one rfl) rfl (by decide) (fun hb => (iop_not rfl rfl (lb rfl) (svcB rfl hb))) <|
  ils_cons rfl (iop_andx rfl rfl (lb rfl) (svB rfl) rfl rfl hx39) <|
  ils_cons rfl (mvB rfl rfl rfl rfl) <|
  ils_guard rfl rfl (.one rfl) rfl (by decide) (fun hb => (lra q3 la29 rfl rfl rfl rfl rfl (nle rfl) rfl)) <|
  ils_guard rfl rfl (.one rfl) rfl (by decide) (fun hb => (iop_call (r := .int _ _) rfl rfl (lb rfl) cl10 (.cons (svcA (v0 x4.1) rfl hb) .nil) rfl (p_sbuf_Room _ _ (gd_t hx40 hb)))) <|
  ils_guard rfl rfl (.one rfl) rfl (by decide) (fun hb => (iop_cmpx rfl rfl (lb rfl) (svcI rfl hb) (sv (d := .int _ 0) rfl) rfl hx41)) <|
  ils_cons rfl (iop_andx rfl rfl (lb rfl) (svB rfl) rfl rfl hx42) <|
  ils_cons rfl (mvB rfl rfl rfl rfl) <|
  ils_guard rfl rfl (.one rfl) rfl (by decide) (fun hb => (iop_call (r := .agg q3) rfl rfl (lb rfl) cl7 .nil rfl (p_sbuf_New  _ (gd_t hx43 hb)))) <|
  ils_guard rfl rfl (.one rfl) rfl (by decide) (fun hb => (iop_call (r := .int _ _) rfl rfl (lb rfl) cl10 (.cons (svcA (v0 x43) rfl hb) .nil) rfl (p_sbuf_Room _ _ (gd_t hx44 hb)))) <|
  ils_guard rfl rfl (.one rfl) rfl (by decide) (fun hb => (iop_cmpx rfl rfl (lb rfl) (svcI rfl hb) (sv (d := .int _ 4096) rfl) rfl hx45)) <|
  ils_cons rfl (iop_andx rfl rfl (lb rfl) (svB rfl) rfl rfl hx46) <|
  ils_cons rfl (mvB rfl rfl rfl rfl) <|
  ils_guard rfl rfl (.one rfl) rfl (by decide) (fun hb => (lra q3 la29 rfl rfl rfl rfl rfl (nle rfl) rfl)) <|
  ils_guard rfl rfl (.one rfl) rfl (by decide) (fun hb => (iop_call (r := .int _ _) rfl rfl (lb rfl) cl13 (.cons (svcA (v0 x8) rfl hb) .nil) rfl (p_sbuf_Check _ _ (gd_t hx47 hb)))) <|
  ils_guard rfl rfl (.one rfl) rfl (by decide) (fun hb => (iop_cmpx rfl rfl (lb rfl) (svcI rfl hb) (sv (d := .int _ 0) rfl) rfl hx48)) <|
  ils_cons rfl (iop_andx rfl rfl (lb rfl) (svB rfl) rfl rfl hx49) <|
  ils_cons rfl (mvB rfl rfl rfl rfl) <|
  ils_guard rfl rfl (.one rfl) rfl (by decide) (fun hb => (iop_sub (d' := .agg (w11 0 [] 0 ([] : List T_sbuf_Piece) ([] : List T_ivals_Ival) false true false false)) (iop_build_struct (cs := q5) rfl rfl (lb rfl) Try.underlying29 ti29 pl29 rfl (.cons (sv (d := .bool true) rfl) .nil) rfl) (.agg (.k (.k (.k (.cons (.nils _) (.cons (.nils _) (.all _))))))))) <|
  ils_guard rfl rfl (.one rfl) rfl (by decide) (fun hb => (iop_call (r := .int _ _) rfl rfl (lb rfl) cl13 (.cons (svc (d := .agg (w11 0 [] 0 ([] : List T_sbuf_Piece) ([] : List T_ivals_Ival) false true false false)) rfl hb) .nil) rfl (p_sbuf_Check _ _ (gd_t hx50 hb)))) <|
  ils_guard rfl rfl (.one rfl) rfl (by decide) (fun hb => (iop_cmpx rfl rfl (lb rfl) (svcI rfl hb) (sv (d := .int _ 9) rfl) rfl hx51)) <|
  ils_cons rfl (iop_andx rfl rfl (lb rfl) (svB rfl) rfl rfl hx52) <|
  ils_cons rfl (mvB rfl rfl rfl rfl) <|
  ils_guard rfl rfl (.one rfl) rfl (by decide) (fun hb => (lra q3 la29 rfl rfl rfl rfl rfl (nle rfl) rfl)) <|
  ils_guard rfl rfl (.one rfl) rfl (by decide) (fun hb => (lra q3 la29 rfl rfl rfl rfl rfl (nle rfl) rfl)) <|
  ils_guard rfl rfl (.one rfl) rfl (by decide) (fun hb => (iop_call (r := .bool _) rfl rfl (lb rfl) cl18 (.cons (svcA (v0 x7.1) rfl hb) (.cons (svcA (v0 x8) rfl hb) .nil)) rfl (p_sbuf_Same _ _ _ (gd_t hx53 hb)))) <|
  ils_guard rfl rfl (.one rfl) rfl (by decide) (fun hb => (iop_not rfl rfl (lb rfl) (svcB rfl hb))) <|
  ils_cons rfl (iop_andx rfl rfl (lb rfl) (svB rfl) rfl rfl hx54) <|
  ils_cons rfl (mvB rfl rfl rfl rfl) <|
  ils_guard rfl rfl (.one rfl) rfl (by decide) (fun hb => (lra q3 la29 rfl rfl rfl rfl rfl (nle rfl) rfl)) <|
  ils_guard rfl rfl (.one rfl) rfl (by decide) (fun hb => (lra q3 la29 rfl rfl rfl rfl rfl (nle rfl) rfl)) <|
  ils_guard rfl rfl (.one rfl) rfl (by decide) (fun hb => (iop_call (r := .bool _) rfl rfl (lb rfl) cl18 (.cons (svcA (v0 x8) rfl hb) (.cons (svcA (v0 x8) rfl hb) .nil)) rfl (p_sbuf_Same _ _ _ (gd_t hx55 hb)))) <|
  ils_cons rfl (iop_andx rfl rfl (lb rfl) (svB rfl) rfl rfl hx56) <|
  ils_cons rfl (mvB rfl rfl rfl rfl) <|
  ils_cons rfl (iop_pickc rfl rfl (lb rfl) (svB rfl) rfl rfl hx57) <|
  ils_cons rfl (mvB rfl rfl rfl rfl) <|
  ils_cons rfl (iop_pickc rfl rfl (lb rfl) (svB rfl) rfl rfl hx58) <|
  ils_cons rfl (mvB rfl rfl rfl rfl) <|
  ils_cons rfl (iop_pickc rfl rfl (lb rfl) (svB rfl) rfl rfl hx59) <|
  ils_cons rfl (mvB rfl rfl rfl rfl) <|
  ils_cons rfl (iop_pickc rfl rfl (lb rfl) (svB rfl) rfl rfl hx60) <|
  ils_cons rfl (mvB rfl rfl rfl rfl) <|
  ils_cons rfl (iop_pickc rfl rfl (lb rfl) (svB rfl) rfl rfl hx61) <|
  ils_cons rfl (asB rfl rfl rfl rfl) <|
  ils_end ?_)
 refine iwp_ret ?_
 obtain rfl := Option.some.inj h
 refine ⟨.inr rfl, (.cons (sv rfl) .nil)⟩

theorem p_sennitlaw23_done (a0 : T_sbuf_State) (a1 : T_sennitlaw23_Act) (a2 : Int) (r : T_sbuf_State) (h : sennitlaw23_done a0 a1 a2 = some r) : PureAt Try.prog 8 [.agg (v0 a0), .agg (v2 a1), .int .i64 a2] (.agg (v0 r)) := by
 refine pure_of_iwp (rs := [.agg (v0 r)]) Try.func8 rfl Try.ntmps8 (nle rfl) rfl fun O hO => ?_
 show IWP _ _ _ _ ⟨[(0, .agg (v0 a0)), (1, .agg (v2 a1)), (2, .int .i64 a2)], []⟩ _
 unfold sennitlaw23_done at h
 refine iwp_reg (ils_cons rfl (iop_box' (cs := q3) 0 rfl rfl (lb rfl) rfl (svA q3 rfl) rfl rfl) <|
  ils_cons rfl (iop_box' (cs := q6) 1 rfl rfl (lb rfl) rfl (svA q6 rfl) rfl rfl) <|
  ils_cons rfl (iop_allocS (cs := q5) (cs' := (w11 0 [] 0 ([] : List T_sbuf_Piece) ([] : List T_ivals_Ival) false false false false)) 2 rfl rfl (lb rfl) rfl ti29 rfl rfl (.k (.k (.k (.cons (.nils _) (.cons (.nils _) (.all _))))))) <|
  ils_end ?_)
 refine iwp_seq ?_
 obtain ⟨x1, hx1, h⟩ := bno_e h
 refine iwp_reg (ils_cons rfl (faR 0 rfl rfl rfl Try.underlying34 rfl ti5 (lb rfl) rfl rfl) <|
  ils_cons rfl (iop_load_rs (d := .int _ _) rfl rfl (lb rfl) Try.underlying5 ag5 ti5 (by decide) (svR rfl) rfl (nle rfl) rfl) <|
  ils_cons rfl (iop_remx rfl rfl (lb rfl) (svI rfl) (sv (d := .int _ 5) rfl) hx1) <|
  ils_end ?_)
 refine iwp_block ?_
 obtain ⟨x2, hx2, h⟩ := bnd_e h
 refine iwp_reg (ils_cons rfl (iop_cmpx rfl rfl (lb rfl) (svI rfl) (sv (d := .int _ 1) rfl) rfl hx2) <|
  ils_cons rfl (asB rfl rfl rfl rfl) <|
  ils_end ?_)
 refine iwp_cond (b := _) rfl (fun hc3 => ?_) (fun hc3 => ?_)
 ·
  replace h := bif_t h hc3
  obtain ⟨x4, hx4, h⟩ := bno_e h
  obtain ⟨x5, hx5, h⟩ := bnd_e h
  obtain ⟨x6, hx6, h⟩ := bnd_e h
  obtain ⟨x7, hx7, h⟩ := bno_e h
  refine iwp_region (ils_cons rfl (lra q3 la29 rfl rfl rfl rfl rfl (nle rfl) rfl) <|
   ils_cons rfl (faR 2 rfl rfl rfl Try.underlying34 rfl ti5 (lb rfl) rfl rfl) <|
   ils_cons rfl (iop_load_rs (d := .int _ _) rfl rfl (lb rfl) Try.underlying5 ag5 ti5 (by decide) (svR rfl) rfl (nle rfl) rfl) <|
   ils_cons rfl (iop_remx rfl rfl (lb rfl) (svI rfl) (sv (d := .int _ 4) rfl) hx4) <|
   ils_cons rfl (iop_int_conv rfl rfl (lb rfl) ⟨_, Try.underlying5⟩ Try.underlying3 (svI rfl) hx5) <|
   ils_cons rfl (faR 1 rfl rfl rfl Try.underlying34 rfl ti5 (lb rfl) rfl rfl) <|
   ils_cons rfl (iop_load_rs (d := .int _ _) rfl rfl (lb rfl) Try.underlying5 ag5 ti5 (by decide) (svR rfl) rfl (nle rfl) rfl) <|
   ils_cons rfl (iop_int_conv rfl rfl (lb rfl) ⟨_, Try.underlying5⟩ Try.underlying3 (svI rfl) hx6) <|
   ils_cons rfl (mvI rfl rfl rfl rfl) <|
   ils_cons rfl (iop_call (r := .tuple q8) rfl rfl (lb rfl) cl11 (.cons (svA q3 rfl) (.cons (svI rfl) (.cons (svI rfl) (.cons (svI rfl) .nil)))) rfl (p_sbuf_Pick _ _ _ _ _ hx7)) <|
   ils_cons rfl (iop_move rfl rfl (lb rfl) (sv (d := .tuple q8) rfl)) <|
   ils_cons rfl (iop_extract (d := .agg q3) rfl rfl (lb rfl) (sv (d := .tuple q8) rfl) rfl) <|
   ils_cons rfl (iop_extract (d := .agg q6) rfl rfl (lb rfl) (sv (d := .tuple q8) rfl) rfl) <|
   ils_cons rfl (iop_extract (d := .str _) rfl rfl (lb rfl) (sv (d := .tuple q8) rfl) rfl) <|
   ils_cons rfl (iop_extract (d := .bool _) rfl rfl (lb rfl) (sv (d := .tuple q8) rfl) rfl) <|
   ils_cons rfl (stA q3 q3 ti29 rfl rfl rfl rfl rfl rfl rfl rfl (nle rfl) rfl) <|
   ils_nil ?_)
  refine blockQ_n ?_
  refine thenQ_n ?_
  refine iwp_reg (ils_cons rfl (lra q3 la29 rfl rfl rfl rfl rfl (nle rfl) rfl) <|
   ils_cons rfl (stA q3 q3 ti29 rfl rfl rfl rfl rfl rfl rfl rfl (nle rfl) rfl) <|
   ils_end ?_)
  refine iwp_ret ?_
  obtain rfl := Option.some.inj h
  refine ⟨.inr rfl, (.cons (rva la29 rfl rfl (nle rfl) rfl) .nil)⟩
 ·
  replace h := bif_f h hc3
  obtain ⟨x8, hx8, h⟩ := bnd_e h
  refine iwp_reg (ils_cons rfl (iop_cmpx rfl rfl (lb rfl) (svI rfl) (sv (d := .int _ 2) rfl) rfl hx8) <|
   ils_cons rfl (asB rfl rfl rfl rfl) <|
   ils_end ?_)
  refine iwp_cond (b := _) rfl (fun hc9 => ?_) (fun hc9 => ?_)
  ·
   replace h := bif_t h hc9
   obtain ⟨x10, hx10, h⟩ := bnd_e h
   obtain ⟨x11, hx11, h⟩ := bnd_e h
   obtain ⟨x12, hx12, h⟩ := bno_e h
   refine iwp_region (ils_cons rfl (lra q3 la29 rfl rfl rfl rfl rfl (nle rfl) rfl) <|
    ils_cons rfl (faR 0 rfl rfl rfl Try.underlying29 rfl ti3 (lb rfl) rfl rfl) <|
    ils_cons rfl (iop_load_rs (d := .int _ _) rfl rfl (lb rfl) Try.underlying3 ag3 ti3 (by decide) (svR rfl) rfl (nle rfl) rfl) <|
    ils_cons rfl (faR 1 rfl rfl rfl Try.underlying34 rfl ti5 (lb rfl) rfl rfl) <|
    ils_cons rfl (iop_load_rs (d := .int _ _) rfl rfl (lb rfl) Try.underlying5 ag5 ti5 (by decide) (svR rfl) rfl (nle rfl) rfl) <|
    ils_cons rfl (iop_int_conv rfl rfl (lb rfl) ⟨_, Try.underlying5⟩ Try.underlying3 (svI rfl) hx10) <|
    ils_cons rfl (iop_intx rfl rfl (lb rfl) (svI rfl) (svI rfl) rfl hx11) <|
    ils_cons rfl (faR 3 rfl rfl rfl Try.underlying34 rfl ti4 (lb rfl) rfl rfl) <|
    ils_cons rfl (iop_load_rs (d := .bool _) rfl rfl (lb rfl) Try.underlying4 ag4 ti4 (by decide) (svR rfl) rfl (nle rfl) rfl) <|
    ils_cons rfl (iop_call (r := .agg q3) rfl rfl (lb rfl) cl17 (.cons (svA q3 rfl) (.cons (svI rfl) (.cons (svB rfl) .nil))) rfl (p_sbuf_Came _ _ _ _ hx12)) <|
    ils_cons rfl (stA q3 q3 ti29 rfl rfl rfl rfl rfl rfl rfl rfl (nle rfl) rfl) <|
    ils_nil ?_)
   refine blockQ_n ?_
   refine thenQ_n ?_
   refine iwp_reg (ils_cons rfl (lra q3 la29 rfl rfl rfl rfl rfl (nle rfl) rfl) <|
    ils_cons rfl (stA q3 q3 ti29 rfl rfl rfl rfl rfl rfl rfl rfl (nle rfl) rfl) <|
    ils_end ?_)
   refine iwp_ret ?_
   obtain rfl := Option.some.inj h
   refine ⟨.inr rfl, (.cons (rva la29 rfl rfl (nle rfl) rfl) .nil)⟩
  ·
   replace h := bif_f h hc9
   obtain ⟨x13, hx13, h⟩ := bnd_e h
   refine iwp_reg (ils_cons rfl (iop_cmpx rfl rfl (lb rfl) (svI rfl) (sv (d := .int _ 3) rfl) rfl hx13) <|
    ils_cons rfl (asB rfl rfl rfl rfl) <|
    ils_end ?_)
   refine iwp_cond (b := _) rfl (fun hc14 => ?_) (fun hc14 => ?_)
   ·
    replace h := bif_t h hc14
    obtain ⟨x15, hx15, h⟩ := bno_e h
    obtain ⟨x16, hx16, h⟩ := bnd_e h
    obtain ⟨x17, hx17, h⟩ := bno_e h
    refine iwp_region (ils_cons rfl (lra q3 la29 rfl rfl rfl rfl rfl (nle rfl) rfl) <|
     ils_cons rfl (faR 2 rfl rfl rfl Try.underlying34 rfl ti5 (lb rfl) rfl rfl) <|
     ils_cons rfl (iop_load_rs (d := .int _ _) rfl rfl (lb rfl) Try.underlying5 ag5 ti5 (by decide) (svR rfl) rfl (nle rfl) rfl) <|
     ils_cons rfl (iop_remx rfl rfl (lb rfl) (svI rfl) (sv (d := .int _ 4) rfl) hx15) <|
     ils_cons rfl (iop_int_conv rfl rfl (lb rfl) ⟨_, Try.underlying5⟩ Try.underlying3 (svI rfl) hx16) <|
     ils_cons rfl (iop_call (r := .agg q3) rfl rfl (lb rfl) cl14 (.cons (svA q3 rfl) (.cons (svI rfl) .nil)) rfl (p_sbuf_Dead _ _ _ hx17)) <|
     ils_cons rfl (stA q3 q3 ti29 rfl rfl rfl rfl rfl rfl rfl rfl (nle rfl) rfl) <|
     ils_nil ?_)
    refine blockQ_n ?_
    refine thenQ_n ?_
    refine iwp_reg (ils_cons rfl (lra q3 la29 rfl rfl rfl rfl rfl (nle rfl) rfl) <|
     ils_cons rfl (stA q3 q3 ti29 rfl rfl rfl rfl rfl rfl rfl rfl (nle rfl) rfl) <|
     ils_end ?_)
    refine iwp_ret ?_
    obtain rfl := Option.some.inj h
    refine ⟨.inr rfl, (.cons (rva la29 rfl rfl (nle rfl) rfl) .nil)⟩
   ·
    replace h := bif_f h hc14
    obtain ⟨x18, hx18, h⟩ := bnd_e h
    refine iwp_reg (ils_cons rfl (iop_cmpx rfl rfl (lb rfl) (svI rfl) (sv (d := .int _ 4) rfl) rfl hx18) <|
     ils_cons rfl (asB rfl rfl rfl rfl) <|
     ils_end ?_)
    refine iwp_cond (b := _) rfl (fun hc19 => ?_) (fun hc19 => ?_)
    ·
     replace h := bif_t h hc19
     refine iwp_reg (ils_cons rfl (faR 3 rfl rfl rfl Try.underlying34 rfl ti4 (lb rfl) rfl rfl) <|
      ils_cons rfl (iop_load_rs (d := .bool _) rfl rfl (lb rfl) Try.underlying4 ag4 ti4 (by decide) (svR rfl) rfl (nle rfl) rfl) <|
      ils_end ?_)
     refine iwp_cond (b := _) rfl (fun hc20 => ?_) (fun hc20 => ?_)
     ·
      replace h := bif_t h hc20
      obtain ⟨x21, hx21, h⟩ := bno_e h
      refine iwp_region (ils_cons rfl (lra q3 la29 rfl rfl rfl rfl rfl (nle rfl) rfl) <|
       ils_cons rfl (iop_call (r := .agg q3) rfl rfl (lb rfl) cl15 (.cons (svA q3 rfl) .nil) rfl (p_sbuf_Close _ _ hx21)) <|
       ils_cons rfl (stA q3 q3 ti29 rfl rfl rfl rfl rfl rfl rfl rfl (nle rfl) rfl) <|
       ils_nil ?_)
      refine blockQ_n ?_
      refine thenQ_n ?_
      refine iwp_reg (ils_cons rfl (lra q3 la29 rfl rfl rfl rfl rfl (nle rfl) rfl) <|
       ils_cons rfl (stA q3 q3 ti29 rfl rfl rfl rfl rfl rfl rfl rfl (nle rfl) rfl) <|
       ils_end ?_)
      refine iwp_ret ?_
      obtain rfl := Option.some.inj h
      refine ⟨.inr rfl, (.cons (rva la29 rfl rfl (nle rfl) rfl) .nil)⟩
     ·
      replace h := bif_f h hc20
      refine iwp_skip ?_
      refine blockQ_n ?_
      refine thenQ_n ?_
      refine iwp_reg (ils_cons rfl (lra q3 la29 rfl rfl rfl rfl rfl (nle rfl) rfl) <|
       ils_cons rfl (stA q3 q3 ti29 rfl rfl rfl rfl rfl rfl rfl rfl (nle rfl) rfl) <|
       ils_end ?_)
      refine iwp_ret ?_
      obtain rfl := Option.some.inj h
      refine ⟨.inr rfl, (.cons (rva la29 rfl rfl (nle rfl) rfl) .nil)⟩
    ·
     replace h := bif_f h hc19
     refine iwp_skip ?_
     refine blockQ_n ?_
     refine thenQ_n ?_
     refine iwp_reg (ils_cons rfl (lra q3 la29 rfl rfl rfl rfl rfl (nle rfl) rfl) <|
      ils_cons rfl (stA q3 q3 ti29 rfl rfl rfl rfl rfl rfl rfl rfl (nle rfl) rfl) <|
      ils_end ?_)
     refine iwp_ret ?_
     obtain rfl := Option.some.inj h
     refine ⟨.inr rfl, (.cons (rva la29 rfl rfl (nle rfl) rfl) .nil)⟩

theorem p_sennitlaw23_SbufTwice (a0 : (List T_sennitlaw23_Act)) (a1 : Int) (a2 : Int) (r : Bool) (h : sennitlaw23_SbufTwice a0 a1 a2 = some r) : PureAt Try.prog 5 [.slice false (a0.map E_sennitlaw23_Act.d), .int .u8 a1, .int .u8 a2] (.bool r) := by
 refine pure_of_iwp (rs := [.bool r]) Try.func5 rfl Try.ntmps5 (nle rfl) rfl fun O hO => ?_
 show IWP _ _ _ _ ⟨[(0, .slice false (a0.map E_sennitlaw23_Act.d)), (1, .int .u8 a1), (2, .int .u8 a2)], []⟩ _
 unfold sennitlaw23_SbufTwice at h
 refine iwp_reg (ils_cons rfl (iop_assign rfl rfl (lb rfl) (sv (d := .bool false) rfl)) <|
  ils_end ?_)
 refine iwp_seq ?_
 obtain ⟨x1, hx1, h⟩ := bnd_e h
 refine iwp_reg (ils_cons rfl (mvL rfl rfl rfl rfl) <|
  ils_cons rfl (iop_lenT E_sennitlaw23_Act (l := a0) rfl rfl (lb rfl) Try.underlying22 (svL rfl)) <|
  ils_cons rfl (iop_cmpx rfl rfl (lb rfl) (svI rfl) (sv (d := .int _ 60) rfl) rfl hx1) <|
  ils_end ?_)
 refine iwp_cond (b := _) rfl (fun hc2 => ?_) (fun hc2 => ?_)
 ·
  replace h := bif_t h hc2
  obtain ⟨x3, hx3, h⟩ := bno_e h
  refine iwp_reg (ils_cons rfl (iop_call (r := .bool _) rfl rfl (lb rfl) cl6 .nil rfl (p_sennitlaw23_awake  _ hx3)) <|
   ils_cons rfl (asB rfl rfl rfl rfl) <|
   ils_end ?_)
  refine iwp_ret ?_
  refine thenQ_r ?_
  obtain rfl := Option.some.inj h
  refine ⟨.inr rfl, (.cons (sv rfl) .nil)⟩
 ·
  replace h := bif_f h hc2
  refine iwp_skip ?_
  refine thenQ_n ?_
  obtain ⟨x4, hx4, h⟩ := bno_e h
  refine iwp_reg (ils_cons rfl (iop_call (r := .agg q3) rfl rfl (lb rfl) cl7 .nil rfl (p_sbuf_New  _ hx4)) <|
   ils_cons rfl (iop_allocS (cs := q5) (cs' := (w11 0 [] 0 ([] : List T_sbuf_Piece) ([] : List T_ivals_Ival) false false false false)) 0 rfl rfl (lb rfl) rfl ti29 rfl rfl (.k (.k (.k (.cons (.nils _) (.cons (.nils _) (.all _))))))) <|
   ils_cons rfl (stA q3 q3 ti29 rfl rfl rfl rfl rfl rfl rfl rfl (nle rfl) rfl) <|
   ils_end ?_)
  refine iwp_seq ?_
  refine iwp_reg (ils_cons rfl (iop_assign rfl rfl (lb rfl) (sv (d := .int _ 0) rfl)) <|
   ils_end ?_)
  refine iwp_block ?_
  refine iwp_loopP (α := Nat × Int × Int × (List UInt8) × Int × (List T_sbuf_Piece) × (List T_ivals_Ival) × Bool × Bool × Bool × Bool) (fun z => ⟨[(0, .slice false (a0.map E_sennitlaw23_Act.d)), (1, .int .u8 a1), (2, .int .u8 a2), (7, .ref 0 0), (8, .int .i64 z.2.1)], [(0, .blk 29 (w11 z.2.2.1 z.2.2.2.1 z.2.2.2.2.1 z.2.2.2.2.2.1 z.2.2.2.2.2.2.1 z.2.2.2.2.2.2.2.1 z.2.2.2.2.2.2.2.2.1 z.2.2.2.2.2.2.2.2.2.1 z.2.2.2.2.2.2.2.2.2.2))]⟩) (fun z => sennitlaw23_SbufTwice_L0 a0 a1 a2 z.1 z.2.1 z.2.2.1 z.2.2.2.1 z.2.2.2.2.1 z.2.2.2.2.2.1 z.2.2.2.2.2.2.1 z.2.2.2.2.2.2.2.1 z.2.2.2.2.2.2.2.2.1 z.2.2.2.2.2.2.2.2.2.1 z.2.2.2.2.2.2.2.2.2.2 = some r) (fun z => z.1) (fuel, 0, x4.Base, x4.Data, x4.Next, x4.Pieces, x4.Lost, x4.Closed, x4.Sent, x4.Again, x4.Done) (fun i => i) ⟨(.sames rfl rfl), (.cons (.blk rfl rfl rfl) .nil), nd_of [0] rfl (by decide), fun _ _ => rfl⟩ ?_ ?_
  ·exact h
  ·
   rintro ⟨n0, v37, v38, v39, v40, v41, v42, v43, v44, v45, v46⟩ h
   cases n0 with
   | zero => exact absurd h (by unfold sennitlaw23_SbufTwice_L0; exact nofun)
   | succ n0 =>
    unfold sennitlaw23_SbufTwice_L0 at h
    refine iwp_seq ?_
    obtain ⟨x79, hx79, h⟩ := bnd_e h
    refine iwp_reg (ils_cons rfl (mvI rfl rfl rfl rfl) <|
     ils_cons rfl (mvL rfl rfl rfl rfl) <|
     ils_cons rfl (iop_lenT E_sennitlaw23_Act (l := a0) rfl rfl (lb rfl) Try.underlying22 (svL rfl)) <|
     ils_cons rfl (iop_cmpx rfl rfl (lb rfl) (svI rfl) (svI rfl) rfl hx79) <|
     ils_end ?_)
    refine iwp_cond (b := _) rfl (fun hc80 => ?_) (fun hc80 => ?_)
    ·
     replace h := bif_t h hc80
     refine iwp_skip ?_
     refine thenQ_n ?_
     refine iwp_seq ?_
     refine iwp_block ?_
     refine iwp_join (α := Int × (List UInt8) × Int × (List T_sbuf_Piece) × (List T_ivals_Ival) × Bool × Bool × Bool × Bool) (fun z => ⟨[(0, .slice false (a0.map E_sennitlaw23_Act.d)), (1, .int .u8 a1), (2, .int .u8 a2), (7, .ref 0 0), (8, .int .i64 v37)], [(0, .blk 29 (w11 z.1 z.2.1 z.2.2.1 z.2.2.2.1 z.2.2.2.2.1 z.2.2.2.2.2.1 z.2.2.2.2.2.2.1 z.2.2.2.2.2.2.2.1 z.2.2.2.2.2.2.2.2))]⟩) (fun z => sennitlaw23_SbufTwice_J1 a0 v37 (sennitlaw23_SbufTwice_L0 a0 a1 a2 n0) z.1 z.2.1 z.2.2.1 z.2.2.2.1 z.2.2.2.2.1 z.2.2.2.2.2.1 z.2.2.2.2.2.2.1 z.2.2.2.2.2.2.2.1 z.2.2.2.2.2.2.2.2 = some r) ?_ ?_
     ·
      obtain ⟨x102, hx102, h⟩ := bno_e h
      obtain ⟨x103, hx103, h⟩ := bno_e h
      obtain ⟨x104, hx104, h⟩ := bnd_e h
      refine iwp_reg (ils_cons rfl (mvL rfl rfl rfl rfl) <|
       ils_cons rfl (mvI rfl rfl rfl rfl) <|
       ils_cons rfl (iop_idxT E_sennitlaw23_Act (cs := q6) rfl rfl (lb rfl) Try.underlying22 ti34 (svL rfl) (svI rfl) hx102 rfl rfl) <|
       ils_cons rfl (iop_fieldAddr_fptr (cs' := [.int _ _]) rfl rfl (lb rfl) Try.underlying34 rfl ti5 (by decide) (sv (d := .fptr q6) rfl) rfl) <|
       ils_cons rfl (iop_load_fs rfl rfl (lb rfl) Try.underlying5 ag5 ti5 (by decide) (sv (d := .fptr [.int _ _]) rfl) (nle rfl)) <|
       ils_cons rfl (iop_remx rfl rfl (lb rfl) (svI rfl) (sv (d := .int _ 5) rfl) hx103) <|
       ils_cons rfl (iop_cmpx rfl rfl (lb rfl) (svI rfl) (sv (d := .int _ 0) rfl) rfl hx104) <|
       ils_end ?_)
      refine iwp_cond (b := _) rfl (fun hc105 => ?_) (fun hc105 => ?_)
      ·
       replace h := bif_t h hc105
       obtain ⟨x106, hx106, h⟩ := bno_e h
       obtain ⟨x107, hx107, h⟩ := bno_e h
       obtain ⟨x108, hx108, h⟩ := bnd_e h
       obtain ⟨x109, hx109, h⟩ := bno_e h
       obtain ⟨x110, hx110, h⟩ := bno_e h
       refine iwp_draw rfl [⟨[7], [0], [(33, .agg (w11 v38 v39 v40 v41 v42 v43 v44 v45 v46))], []⟩,
        ⟨[0], [], [(34, .slice false (a0.map E_sennitlaw23_Act.d))], []⟩,
        ⟨[8], [], [(35, .int .i64 v37)], []⟩,
        ⟨[34, 35], [], [(36, .fptr (v2 x106))], []⟩,
        ⟨[36], [], [(37, .fptr [.int .u8 x106.N])], []⟩,
        ⟨[37], [], [(38, .int .u8 x106.N)], []⟩,
        ⟨[38], [], [(39, .int .u8 x107)], []⟩,
        ⟨[39], [], [(40, .int .i64 x108)], []⟩,
        ⟨[40], [1], [(41, .osl 1 eByte.sz x109.length)], [(1, .blk 5 (D.flat (x109.map eByte.d)))]⟩,
        ⟨[41], [1], [(42, .str x109)], []⟩,
        ⟨[33, 42], [], [(43, .tuple [.agg (v0 x110.1), .int .i64 x110.2])], []⟩,
        ⟨[43], [], [(32, .tuple [.agg (v0 x110.1), .int .i64 x110.2])], []⟩,
        ⟨[32], [], [(44, .agg (v0 x110.1))], []⟩,
        ⟨[32], [], [(45, .int .i64 x110.2)], []⟩,
        ⟨[7, 44], [0], [], [(0, .blk 29 (v0 x110.1))]⟩] rfl ?_ (by kernel_rfl) ?_
       ·refine .cons (lop rfl rfl fun S hA => (iop_load_ra (cs := q3) rfl rfl (lb rfl) Try.underlying29 ag29 ti29 (by decide) (svaR hA rfl rfl) (agi hA rfl rfl) (nle rfl) rfl)) ?_
        refine .cons (lop rfl rfl fun S hA => (iop_move rfl rfl (lb rfl) (svaL hA rfl rfl))) ?_
        refine .cons (lop rfl rfl fun S hA => (iop_move rfl rfl (lb rfl) (svaI hA rfl rfl))) ?_
        refine .cons (lop rfl rfl fun S hA => (iop_idxT E_sennitlaw23_Act (cs := q6) rfl rfl (lb rfl) Try.underlying22 ti34 (svaL hA rfl rfl) (svaI hA rfl rfl) hx106 rfl rfl)) ?_
        refine .cons (lop rfl rfl fun S hA => (iop_fieldAddr_fptr (cs' := [.int _ _]) rfl rfl (lb rfl) Try.underlying34 rfl ti5 (by decide) (sv (d := .fptr q6) (agr hA rfl rfl)) rfl)) ?_
        refine .cons (lop rfl rfl fun S hA => (iop_load_fs rfl rfl (lb rfl) Try.underlying5 ag5 ti5 (by decide) (sv (d := .fptr [.int _ _]) (agr hA rfl rfl)) (nle rfl))) ?_
        refine .cons (lop rfl rfl fun S hA => (iop_remx rfl rfl (lb rfl) (svaI hA rfl rfl) (sv (d := .int _ 60) rfl) hx107)) ?_
        refine .cons (lop rfl rfl fun S hA => (iop_int_conv rfl rfl (lb rfl) ⟨_, Try.underlying5⟩ Try.underlying3 (svaI hA rfl rfl) hx108)) ?_
        refine .cons (lop rfl rfl fun S hA => (iop_makeT eByte.toEnc0 (0 : UInt8) 1 rfl rfl (lb rfl) Try.underlying31 ti5 rfl (agi hA rfl rfl) (svaI hA rfl rfl) hx109 (.all _))) ?_
        refine .cons (lop rfl rfl fun S hA => (iop_bytes_strO rfl rfl (lb rfl) Try.underlying31 Try.underlying5 Try.underlying9 (agr hA rfl rfl) rfl (agi hA rfl rfl))) ?_
        refine .cons (lop rfl rfl fun S hA => (iop_call (r := .tuple q9) rfl rfl (lb rfl) cl9 (.cons (svaA q3 hA rfl rfl) (.cons (sv (d := .str _) (agr hA rfl rfl)) .nil)) rfl (p_sbuf_Write _ _ _ hx110))) ?_
        refine .cons (lop rfl rfl fun S hA => (iop_move rfl rfl (lb rfl) (sv (d := .tuple q9) (agr hA rfl rfl)))) ?_
        refine .cons (lop rfl rfl fun S hA => (iop_extract (d := .agg q3) rfl rfl (lb rfl) (sv (d := .tuple q9) (agr hA rfl rfl)) rfl)) ?_
        refine .cons (lop rfl rfl fun S hA => (iop_extract (d := .int _ _) rfl rfl (lb rfl) (sv (d := .tuple q9) (agr hA rfl rfl)) rfl)) ?_
        refine .cons (lop rfl rfl fun S hA => (iop_store (ds' := q3) rfl rfl ti29 (svaR hA rfl rfl) (agi hA rfl rfl) (svaA q3 hA rfl rfl) rfl rfl rfl (nle rfl) rfl)) ?_
        exact .nil
       refine thenQ_n ⟨(x110.1.Base, x110.1.Data, x110.1.Next, x110.1.Pieces, x110.1.Lost, x110.1.Closed, x110.1.Sent, x110.1.Again, x110.1.Done), (fun i => i), ⟨(.sames rfl rfl), (.cons (.blk rfl rfl rfl) .nil), nd_of [0] rfl (by decide), fun _ _ => rfl⟩, ?_⟩
       exact h
      ·
       replace h := bif_f h hc105
       refine iwp_skip ?_
       refine thenQ_n ⟨(v38, v39, v40, v41, v42, v43, v44, v45, v46), (fun i => i), ⟨(.sames rfl rfl), (.cons (.blk rfl rfl rfl) .nil), nd_of [0] rfl (by decide), fun _ _ => rfl⟩, ?_⟩
       exact h
     ·
      rintro ⟨v90, v91, v92, v93, v94, v95, v96, v97, v98⟩ h
      unfold sennitlaw23_SbufTwice_J1 at h
      obtain ⟨x99, hx99, h⟩ := bno_e h
      obtain ⟨x100, hx100, h⟩ := bno_e h
      refine iwp_draw rfl [⟨[7], [0], [(46, .agg (w11 v90 v91 v92 v93 v94 v95 v96 v97 v98))], []⟩,
       ⟨[0], [], [(47, .slice false (a0.map E_sennitlaw23_Act.d))], []⟩,
       ⟨[8], [], [(48, .int .i64 v37)], []⟩,
       ⟨[47, 48], [], [(49, .fptr (v2 x99))], []⟩,
       ⟨[49], [], [(50, .agg (v2 x99))], []⟩,
       ⟨[46, 50], [], [(51, .agg (v0 x100))], []⟩,
       ⟨[7, 51], [0], [], [(0, .blk 29 (v0 x100))]⟩] rfl ?_ (by kernel_rfl) ?_
      ·refine .cons (lop rfl rfl fun S hA => (iop_load_ra (cs := q3) rfl rfl (lb rfl) Try.underlying29 ag29 ti29 (by decide) (svaR hA rfl rfl) (agi hA rfl rfl) (nle rfl) rfl)) ?_
       refine .cons (lop rfl rfl fun S hA => (iop_move rfl rfl (lb rfl) (svaL hA rfl rfl))) ?_
       refine .cons (lop rfl rfl fun S hA => (iop_move rfl rfl (lb rfl) (svaI hA rfl rfl))) ?_
       refine .cons (lop rfl rfl fun S hA => (iop_idxT E_sennitlaw23_Act (cs := q6) rfl rfl (lb rfl) Try.underlying22 ti34 (svaL hA rfl rfl) (svaI hA rfl rfl) hx99 rfl rfl)) ?_
       refine .cons (lop rfl rfl fun S hA => (iop_load_fa (cs := q6) rfl rfl (lb rfl) Try.underlying34 ag34 ti34 (by decide) (sv (d := .fptr q6) (agr hA rfl rfl)) (nle rfl) rfl)) ?_
       refine .cons (lop rfl rfl fun S hA => (iop_call (r := .agg q3) rfl rfl (lb rfl) cl8 (.cons (svaA q3 hA rfl rfl) (.cons (svaA q6 hA rfl rfl) (.cons (sv (d := .int _ 1000) rfl) .nil))) rfl (p_sennitlaw23_done _ _ _ _ hx100))) ?_
       refine .cons (lop rfl rfl fun S hA => (iop_store (ds' := q3) rfl rfl ti29 (svaR hA rfl rfl) (agi hA rfl rfl) (svaA q3 hA rfl rfl) rfl rfl rfl (nle rfl) rfl)) ?_
       exact .nil
      refine blockQ_n ?_
      refine thenQ_n ?_
      obtain ⟨x101, hx101, h⟩ := bnd_e h
      refine iwp_region (ils_cons rfl (mvI rfl rfl rfl rfl) <|
       ils_cons rfl (iop_intx rfl rfl (lb rfl) (svI rfl) (sv (d := .int _ 1) rfl) rfl hx101) <|
       ils_cons rfl (asI rfl rfl rfl rfl) <|
       ils_nil ?_)
      refine thenQ_n ⟨(n0, x101, x100.Base, x100.Data, x100.Next, x100.Pieces, x100.Lost, x100.Closed, x100.Sent, x100.Again, x100.Done), (fun i => i), ⟨(.sames rfl rfl), (.cons (.blk rfl rfl rfl) .nil), nd_of [0] rfl (by decide), fun _ _ => rfl⟩, ?_, ?_⟩
      exact h
      exact Nat.lt_succ_self _
    ·
     replace h := bif_f h hc80
     refine iwp_exit ?_
     refine thenQ_e ?_
     refine thenQ_e ?_
     refine blockQ_e ?_
     refine thenQ_n ?_
     obtain ⟨x111, hx111, h⟩ := bno_e h
     obtain ⟨x112, hx112, h⟩ := bnd_e h
     refine iwp_reg (ils_cons rfl (mvI rfl rfl rfl rfl) <|
      ils_cons rfl (iop_remx rfl rfl (lb rfl) (svI rfl) (sv (d := .int _ 4) rfl) hx111) <|
      ils_cons rfl (iop_int_conv rfl rfl (lb rfl) ⟨_, Try.underlying5⟩ Try.underlying3 (svI rfl) hx112) <|
      ils_cons rfl (asI rfl rfl rfl rfl) <|
      ils_end ?_)
     obtain ⟨x113, hx113, h⟩ := bno_e h
     refine iwp_reg (ils_cons rfl (lra q3 la29 rfl rfl rfl rfl rfl (nle rfl) rfl) <|
      ils_cons rfl (mvI rfl rfl rfl rfl) <|
      ils_cons rfl (iop_call (r := .agg q3) rfl rfl (lb rfl) cl14 (.cons (svA q3 rfl) (.cons (svI rfl) .nil)) rfl (p_sbuf_Dead _ _ _ hx113)) <|
      ils_cons rfl (iop_allocS (cs := q5) (cs' := (w11 0 [] 0 ([] : List T_sbuf_Piece) ([] : List T_ivals_Ival) false false false false)) 1 rfl rfl (lb rfl) rfl ti29 rfl rfl (.k (.k (.k (.cons (.nils _) (.cons (.nils _) (.all _))))))) <|
      ils_cons rfl (stA q3 q3 ti29 rfl rfl rfl rfl rfl rfl rfl rfl (nle rfl) rfl) <|
      ils_end ?_)
     obtain ⟨x114, hx114, h⟩ := bnd_e h
     obtain ⟨x115, hx115, h⟩ := bnd_e h
     obtain ⟨x116, hx116, h⟩ := bno_e h
     refine iwp_reg (ils_cons rfl (lra q3 la29 rfl rfl rfl rfl rfl (nle rfl) rfl) <|
      ils_cons rfl (faR 0 rfl rfl rfl Try.underlying29 rfl ti3 (lb rfl) rfl rfl) <|
      ils_cons rfl (iop_load_rs (d := .int _ _) rfl rfl (lb rfl) Try.underlying3 ag3 ti3 (by decide) (svR rfl) rfl (nle rfl) rfl) <|
      ils_cons rfl (mvI rfl rfl rfl rfl) <|
      ils_cons rfl (iop_int_conv rfl rfl (lb rfl) ⟨_, Try.underlying5⟩ Try.underlying3 (svI rfl) hx114) <|
      ils_cons rfl (iop_intx rfl rfl (lb rfl) (svI rfl) (svI rfl) rfl hx115) <|
      ils_cons rfl (iop_call (r := .agg q3) rfl rfl (lb rfl) cl17 (.cons (svA q3 rfl) (.cons (svI rfl) (.cons (sv (d := .bool false) rfl) .nil))) rfl (p_sbuf_Came _ _ _ _ hx116)) <|
      ils_cons rfl (iop_allocS (cs := q5) (cs' := (w11 0 [] 0 ([] : List T_sbuf_Piece) ([] : List T_ivals_Ival) false false false false)) 2 rfl rfl (lb rfl) rfl ti29 rfl rfl (.k (.k (.k (.cons (.nils _) (.cons (.nils _) (.all _))))))) <|
      ils_cons rfl (stA q3 q3 ti29 rfl rfl rfl rfl rfl rfl rfl rfl (nle rfl) rfl) <|
      ils_end ?_)
     obtain ⟨x117, hx117, h⟩ := bno_e h
     obtain ⟨x118, hx118, h⟩ := bno_e h
     refine iwp_drw rfl [⟨[7], [0], [(65, .agg (w11 v38 v39 v40 v41 v42 v43 v44 v45 v46))], []⟩,
      ⟨[9], [], [(66, .int .i64 x112)], []⟩,
      ⟨[65, 66], [], [(67, .agg (v0 x117))], []⟩,
      ⟨[7], [], [(68, .ref 0 2)], []⟩,
      ⟨[68], [0], [(69, .int .i64 v40)], []⟩,
      ⟨[67, 69], [], [(70, .agg (v0 x118))], []⟩,
      ⟨[], [3], [(12, .ref 3 0)], [(3, .blk 29 (w11 0 [] 0 ([] : List T_sbuf_Piece) ([] : List T_ivals_Ival) false false false false))]⟩,
      ⟨[12, 70], [3], [], [(3, .blk 29 (v0 x118))]⟩] rfl ?_ (by kernel_rfl) ?_
     ·refine .cons (lop rfl rfl fun S hA => (iop_load_ra (cs := q3) rfl rfl (lb rfl) Try.underlying29 ag29 ti29 (by decide) (svaR hA rfl rfl) (agi hA rfl rfl) (nle rfl) rfl)) ?_
      refine .cons (lop rfl rfl fun S hA => (iop_move rfl rfl (lb rfl) (svaI hA rfl rfl))) ?_
      refine .cons (lop rfl rfl fun S hA => (iop_call (r := .agg q3) rfl rfl (lb rfl) cl14 (.cons (svaA q3 hA rfl rfl) (.cons (svaI hA rfl rfl) .nil)) rfl (p_sbuf_Dead _ _ _ hx117))) ?_
      refine .cons (lop rfl rfl fun S hA => (iop_fieldAddr_ref rfl rfl (lb rfl) Try.underlying29 rfl ti3 (by decide) (svaR hA rfl rfl) (off' := 2) rfl)) ?_
      refine .cons (lop rfl rfl fun S hA => (iop_load_rs (d := .int _ _) rfl rfl (lb rfl) Try.underlying3 ag3 ti3 (by decide) (svaR hA rfl rfl) (agi hA rfl rfl) (nle rfl) rfl)) ?_
      refine .cons (lop rfl rfl fun S hA => (iop_call (r := .agg q3) rfl rfl (lb rfl) cl17 (.cons (svaA q3 hA rfl rfl) (.cons (svaI hA rfl rfl) (.cons (sv (d := .bool false) rfl) .nil))) rfl (p_sbuf_Came _ _ _ _ hx118))) ?_
      refine .cons (lop rfl rfl fun S hA => (iop_allocS (cs := q5) (cs' := (w11 0 [] 0 ([] : List T_sbuf_Piece) ([] : List T_ivals_Ival) false false false false)) 3 rfl rfl (lb rfl) (agi hA rfl rfl) ti29 rfl rfl (.k (.k (.k (.cons (.nils _) (.cons (.nils _) (.all _)))))))) ?_
      refine .cons (lop rfl rfl fun S hA => (iop_store (ds' := q3) rfl rfl ti29 (svaR hA rfl rfl) (agi hA rfl rfl) (svaA q3 hA rfl rfl) rfl rfl rfl (nle rfl) rfl)) ?_
      exact .nil
     obtain ⟨x119, hx119, h⟩ := bno_e h
     obtain ⟨x120, hx120, h⟩ := bno_e h
     refine iwp_reg (ils_cons rfl (lra q3 la29 rfl rfl rfl rfl rfl (nle rfl) rfl) <|
      ils_cons rfl (faR 2 rfl rfl rfl Try.underlying29 rfl ti3 (lb rfl) rfl rfl) <|
      ils_cons rfl (iop_load_rs (d := .int _ _) rfl rfl (lb rfl) Try.underlying3 ag3 ti3 (by decide) (svR rfl) rfl (nle rfl) rfl) <|
      ils_cons rfl (iop_call (r := .agg q3) rfl rfl (lb rfl) cl17 (.cons (svA q3 rfl) (.cons (svI rfl) (.cons (sv (d := .bool false) rfl) .nil))) rfl (p_sbuf_Came _ _ _ _ hx119)) <|
      ils_cons rfl (mvI rfl rfl rfl rfl) <|
      ils_cons rfl (iop_call (r := .agg q3) rfl rfl (lb rfl) cl14 (.cons (svA q3 rfl) (.cons (svI rfl) .nil)) rfl (p_sbuf_Dead _ _ _ hx120)) <|
      ils_cons rfl (iop_allocS (cs := q5) (cs' := (w11 0 [] 0 ([] : List T_sbuf_Piece) ([] : List T_ivals_Ival) false false false false)) 4 rfl rfl (lb rfl) rfl ti29 rfl rfl (.k (.k (.k (.cons (.nils _) (.cons (.nils _) (.all _))))))) <|
      ils_cons rfl (stA q3 q3 ti29 rfl rfl rfl rfl rfl rfl rfl rfl (nle rfl) rfl) <|
      ils_end ?_)
     obtain ⟨x121, hx121, h⟩ := bno_e h
     obtain ⟨x122, hx122, h⟩ := bno_e h
     obtain ⟨x123, hx123, h⟩ := bnd_e h
     obtain ⟨x124, hx124, h⟩ := bnd_e h
     obtain ⟨x125, hx125, h⟩ := bno_e h
     obtain ⟨x126, hx126, h⟩ := bno_e h
     obtain ⟨x127, hx127, h⟩ := bnd_e h
     obtain ⟨x128, hx128, h⟩ := bno_e h
     obtain ⟨x129, hx129, h⟩ := bnd_e h
     obtain ⟨x130, hx130, h⟩ := bnd_e h
     obtain ⟨x131, hx131, h⟩ := bnd_e h
     obtain ⟨x132, hx132, h⟩ := bno_e h
     obtain ⟨x133, hx133, h⟩ := bnd_e h
     obtain ⟨x134, hx134, h⟩ := bnd_e h
     obtain ⟨x135, hx135, h⟩ := bno_e h
     obtain ⟨x136, hx136, h⟩ := bnd_e h
     refine iwp_drw rfl [⟨[10], [1], [(77, .agg (v0 x113))], []⟩,
      ⟨[9], [], [(78, .int .i64 x112)], []⟩,
      ⟨[77, 78], [], [(79, .agg (v0 x121))], []⟩,
      ⟨[10], [1], [(80, .agg (v0 x113))], []⟩,
      ⟨[79, 80], [], [(81, .bool x122)], []⟩,
      ⟨[81], [], [(82, .bool x122)], []⟩,
      ⟨[11, 82], [2], [(83, .cnd (x122 == true) (.agg (v0 x116)))], []⟩,
      ⟨[7, 82], [], [(84, .cnd (x122 == true) (.ref 0 0))], []⟩,
      ⟨[82, 84], [0], [(85, .cnd (x122 == true) (.int .i64 v38))], []⟩,
      ⟨[2, 82], [], [(86, .cnd (x122 == true) (.int .u8 a2))], []⟩,
      ⟨[82, 86], [], [(87, .cnd (x122 == true) (.int .i64 x123))], []⟩,
      ⟨[82, 85, 87], [], [(88, .cnd (x122 == true) (.int .i64 x124))], []⟩,
      ⟨[82, 83, 88], [], [(89, .cnd (x122 == true) (.agg (v0 x125)))], []⟩,
      ⟨[11, 82], [2], [(90, .cnd (x122 == true) (.agg (v0 x116)))], []⟩,
      ⟨[82, 89, 90], [], [(91, .cnd (x122 == true) (.bool x126))], []⟩,
      ⟨[82, 91], [], [(92, .bool x127)], []⟩,
      ⟨[92], [], [(93, .bool x127)], []⟩,
      ⟨[12, 93], [3], [(94, .cnd (x127 == true) (.agg (v0 x118)))], []⟩,
      ⟨[13, 93], [4], [(95, .cnd (x127 == true) (.agg (v0 x120)))], []⟩,
      ⟨[93, 94, 95], [], [(96, .cnd (x127 == true) (.bool x128))], []⟩,
      ⟨[93, 96], [], [(97, .bool x129)], []⟩,
      ⟨[97], [], [(98, .bool x129)], []⟩,
      ⟨[12, 98], [], [(99, .cnd (x129 == true) (.ref 3 0))], []⟩,
      ⟨[98, 99], [3], [(100, .cnd (x129 == true) (.int .i64 x118.Base))], []⟩,
      ⟨[7, 98], [], [(101, .cnd (x129 == true) (.ref 0 2))], []⟩,
      ⟨[98, 101], [0], [(102, .cnd (x129 == true) (.int .i64 v40))], []⟩,
      ⟨[98, 100, 102], [], [(103, .cnd (x129 == true) (.bool x130))], []⟩,
      ⟨[98, 103], [], [(104, .bool x131)], []⟩,
      ⟨[104], [], [(105, .bool x131)], []⟩,
      ⟨[12, 105], [3], [(106, .cnd (x131 == true) (.agg (v0 x118)))], []⟩,
      ⟨[105, 106], [], [(107, .cnd (x131 == true) (.int .i64 x132))], []⟩,
      ⟨[105, 107], [], [(108, .cnd (x131 == true) (.bool x133))], []⟩,
      ⟨[105, 108], [], [(109, .bool x134)], []⟩,
      ⟨[109], [], [(110, .bool x134)], []⟩,
      ⟨[110], [], [(111, .cnd (x134 == true) (.bool x135))], []⟩,
      ⟨[110, 111], [], [(112, .bool x136)], []⟩,
      ⟨[112], [], [(6, .bool x136)], []⟩] rfl ?_ (by kernel_rfl) ?_
     ·refine .cons (lop rfl rfl fun S hA => (iop_load_ra (cs := q3) rfl rfl (lb rfl) Try.underlying29 ag29 ti29 (by decide) (svaR hA rfl rfl) (agi hA rfl rfl) (nle rfl) rfl)) ?_
      refine .cons (lop rfl rfl fun S hA => (iop_move rfl rfl (lb rfl) (svaI hA rfl rfl))) ?_
      refine .cons (lop rfl rfl fun S hA => (iop_call (r := .agg q3) rfl rfl (lb rfl) cl14 (.cons (svaA q3 hA rfl rfl) (.cons (svaI hA rfl rfl) .nil)) rfl (p_sbuf_Dead _ _ _ hx121))) ?_
      refine .cons (lop rfl rfl fun S hA => (iop_load_ra (cs := q3) rfl rfl (lb rfl) Try.underlying29 ag29 ti29 (by decide) (svaR hA rfl rfl) (agi hA rfl rfl) (nle rfl) rfl)) ?_
      refine .cons (lop rfl rfl fun S hA => (iop_call (r := .bool _) rfl rfl (lb rfl) cl18 (.cons (svaA q3 hA rfl rfl) (.cons (svaA q3 hA rfl rfl) .nil)) rfl (p_sbuf_Same _ _ _ hx122))) ?_
      refine .cons (lop rfl rfl fun S hA => (iop_move rfl rfl (lb rfl) (svaB hA rfl rfl))) ?_
      refine .cons (lopg rfl rfl rfl rfl (by decide) (fun S hA => grd1 hA rfl rfl) (fun S hA hb => (iop_load_ra (cs := q3) rfl rfl (lb rfl) Try.underlying29 ag29 ti29 (by decide) (svaR hA rfl rfl) (agi hA rfl rfl) (nle rfl) rfl))) ?_
      refine .cons (lopg rfl rfl rfl rfl (by decide) (fun S hA => grd1 hA rfl rfl) (fun S hA hb => (iop_fieldAddr_ref rfl rfl (lb rfl) Try.underlying29 rfl ti3 (by decide) (svaR hA rfl rfl) (off' := 0) rfl))) ?_
      refine .cons (lopg rfl rfl rfl rfl (by decide) (fun S hA => grd1 hA rfl rfl) (fun S hA hb => (iop_load_rs (d := .int _ _) rfl rfl (lb rfl) Try.underlying3 ag3 ti3 (by decide) (svc (d := .ref _ _) (agr hA rfl rfl) hb) (agi hA rfl rfl) (nle rfl) rfl))) ?_
      refine .cons (lopg rfl rfl rfl rfl (by decide) (fun S hA => grd1 hA rfl rfl) (fun S hA hb => (iop_move rfl rfl (lb rfl) (svaI hA rfl rfl)))) ?_
      refine .cons (lopg rfl rfl rfl rfl (by decide) (fun S hA => grd1 hA rfl rfl) (fun S hA hb => (iop_int_conv rfl rfl (lb rfl) ⟨_, Try.underlying5⟩ Try.underlying3 (svc (d := .int _ _) (agr hA rfl rfl) hb) hx123))) ?_
      refine .cons (lopg rfl rfl rfl rfl (by decide) (fun S hA => grd1 hA rfl rfl) (fun S hA hb => (iop_intx rfl rfl (lb rfl) (svc (d := .int _ _) (agr hA rfl rfl) hb) (svc (d := .int _ _) (agr hA rfl rfl) hb) rfl hx124))) ?_
      refine .cons (lopg rfl rfl rfl rfl (by decide) (fun S hA => grd1 hA rfl rfl) (fun S hA hb => (iop_call (r := .agg q3) rfl rfl (lb rfl) cl17 (.cons (svc (d := .agg (v0 x116)) (agr hA rfl rfl) hb) (.cons (svc (d := .int _ _) (agr hA rfl rfl) hb) (.cons (sv (d := .bool false) rfl) .nil))) rfl (p_sbuf_Came _ _ _ _ (gd_t hx125 hb))))) ?_
      refine .cons (lopg rfl rfl rfl rfl (by decide) (fun S hA => grd1 hA rfl rfl) (fun S hA hb => (iop_load_ra (cs := q3) rfl rfl (lb rfl) Try.underlying29 ag29 ti29 (by decide) (svaR hA rfl rfl) (agi hA rfl rfl) (nle rfl) rfl))) ?_
      refine .cons (lopg rfl rfl rfl rfl (by decide) (fun S hA => grd1 hA rfl rfl) (fun S hA hb => (iop_call (r := .bool _) rfl rfl (lb rfl) cl18 (.cons (svc (d := .agg (v0 x125)) (agr hA rfl rfl) hb) (.cons (svc (d := .agg (v0 x116)) (agr hA rfl rfl) hb) .nil)) rfl (p_sbuf_Same _ _ _ (gd_t hx126 hb))))) ?_
      refine .cons (lop rfl rfl fun S hA => (iop_andx rfl rfl (lb rfl) (svaB hA rfl rfl) (agr hA rfl rfl) rfl hx127)) ?_
      refine .cons (lop rfl rfl fun S hA => (iop_move rfl rfl (lb rfl) (svaB hA rfl rfl))) ?_
      refine .cons (lopg rfl rfl rfl rfl (by decide) (fun S hA => grd1 hA rfl rfl) (fun S hA hb => (iop_load_ra (cs := q3) rfl rfl (lb rfl) Try.underlying29 ag29 ti29 (by decide) (svaR hA rfl rfl) (agi hA rfl rfl) (nle rfl) rfl))) ?_
      refine .cons (lopg rfl rfl rfl rfl (by decide) (fun S hA => grd1 hA rfl rfl) (fun S hA hb => (iop_load_ra (cs := q3) rfl rfl (lb rfl) Try.underlying29 ag29 ti29 (by decide) (svaR hA rfl rfl) (agi hA rfl rfl) (nle rfl) rfl))) ?_
      refine .cons (lopg rfl rfl rfl rfl (by decide) (fun S hA => grd1 hA rfl rfl) (fun S hA hb => (iop_call (r := .bool _) rfl rfl (lb rfl) cl18 (.cons (svc (d := .agg (v0 x118)) (agr hA rfl rfl) hb) (.cons (svc (d := .agg (v0 x120)) (agr hA rfl rfl) hb) .nil)) rfl (p_sbuf_Same _ _ _ (gd_t hx128 hb))))) ?_
      refine .cons (lop rfl rfl fun S hA => (iop_andx rfl rfl (lb rfl) (svaB hA rfl rfl) (agr hA rfl rfl) rfl hx129)) ?_
      refine .cons (lop rfl rfl fun S hA => (iop_move rfl rfl (lb rfl) (svaB hA rfl rfl))) ?_
      refine .cons (lopg rfl rfl rfl rfl (by decide) (fun S hA => grd1 hA rfl rfl) (fun S hA hb => (iop_fieldAddr_ref rfl rfl (lb rfl) Try.underlying29 rfl ti3 (by decide) (svaR hA rfl rfl) (off' := 0) rfl))) ?_
      refine .cons (lopg rfl rfl rfl rfl (by decide) (fun S hA => grd1 hA rfl rfl) (fun S hA hb => (iop_load_rs (d := .int _ _) rfl rfl (lb rfl) Try.underlying3 ag3 ti3 (by decide) (svc (d := .ref _ _) (agr hA rfl rfl) hb) (agi hA rfl rfl) (nle rfl) rfl))) ?_
      refine .cons (lopg rfl rfl rfl rfl (by decide) (fun S hA => grd1 hA rfl rfl) (fun S hA hb => (iop_fieldAddr_ref rfl rfl (lb rfl) Try.underlying29 rfl ti3 (by decide) (svaR hA rfl rfl) (off' := 2) rfl))) ?_
      refine .cons (lopg rfl rfl rfl rfl (by decide) (fun S hA => grd1 hA rfl rfl) (fun S hA hb => (iop_load_rs (d := .int _ _) rfl rfl (lb rfl) Try.underlying3 ag3 ti3 (by decide) (svc (d := .ref _ _) (agr hA rfl rfl) hb) (agi hA rfl rfl) (nle rfl) rfl))) ?_
      refine .cons (lopg rfl rfl rfl rfl (by decide) (fun S hA => grd1 hA rfl rfl) (fun S hA hb => (iop_cmpx rfl rfl (lb rfl) (svc (d := .int _ _) (agr hA rfl rfl) hb) (svc (d := .int _ _) (agr hA rfl rfl) hb) rfl hx130))) ?_
      refine .cons (lop rfl rfl fun S hA => (iop_andx rfl rfl (lb rfl) (svaB hA rfl rfl) (agr hA rfl rfl) rfl hx131)) ?_
      refine .cons (lop rfl rfl fun S hA => (iop_move rfl rfl (lb rfl) (svaB hA rfl rfl))) ?_
      refine .cons (lopg rfl rfl rfl rfl (by decide) (fun S hA => grd1 hA rfl rfl) (fun S hA hb => (iop_load_ra (cs := q3) rfl rfl (lb rfl) Try.underlying29 ag29 ti29 (by decide) (svaR hA rfl rfl) (agi hA rfl rfl) (nle rfl) rfl))) ?_
      refine .cons (lopg rfl rfl rfl rfl (by decide) (fun S hA => grd1 hA rfl rfl) (fun S hA hb => (iop_call (r := .int _ _) rfl rfl (lb rfl) cl13 (.cons (svc (d := .agg (v0 x118)) (agr hA rfl rfl) hb) .nil) rfl (p_sbuf_Check _ _ (gd_t hx132 hb))))) ?_
      refine .cons (lopg rfl rfl rfl rfl (by decide) (fun S hA => grd1 hA rfl rfl) (fun S hA hb => (iop_cmpx rfl rfl (lb rfl) (svc (d := .int _ _) (agr hA rfl rfl) hb) (sv (d := .int _ 0) rfl) rfl hx133))) ?_
      refine .cons (lop rfl rfl fun S hA => (iop_andx rfl rfl (lb rfl) (svaB hA rfl rfl) (agr hA rfl rfl) rfl hx134)) ?_
      refine .cons (lop rfl rfl fun S hA => (iop_move rfl rfl (lb rfl) (svaB hA rfl rfl))) ?_
      refine .cons (lopg rfl rfl rfl rfl (by decide) (fun S hA => grd1 hA rfl rfl) (fun S hA hb => (iop_call (r := .bool _) rfl rfl (lb rfl) cl6 .nil rfl (p_sennitlaw23_awake  _ (gd_t hx135 hb))))) ?_
      refine .cons (lop rfl rfl fun S hA => (iop_andx rfl rfl (lb rfl) (svaB hA rfl rfl) (agr hA rfl rfl) rfl hx136)) ?_
      refine .cons (lop rfl rfl fun S hA => (iop_assign rfl rfl (lb rfl) (svaB hA rfl rfl))) ?_
      exact .nil
     refine iwp_ret ?_
     obtain rfl := Option.some.inj h
     refine ⟨.inr rfl, (.cons (sv rfl) .nil)⟩
end Go.Proofs.Ytppjcpddodefeaa
