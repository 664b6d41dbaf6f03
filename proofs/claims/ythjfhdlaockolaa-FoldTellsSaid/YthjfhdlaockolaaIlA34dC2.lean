/-
  A part of the proof: rules and plain facts. No condition.
-/
import Derived.Test.YthjfhdlaockolaaProg
import Derived.KernelRfl
import Derived.Test.YthjfhdlaockolaaIlA34dD
import Derived.Test.YthjfhdlaockolaaIlA34dC1
set_option linter.all false
set_option linter.unusedSimpArgs false
set_option linter.unusedVariables false
set_option maxRecDepth 8000
set_option maxHeartbeats 2000000
open Go Go.IL Go.Fn Go.Proofs
namespace Go.Proofs.Ythjfhdlaockolaa
theorem ti86 : TI Try.prog 86 (some (.nilFunc)) 1 8 := by unfold TI; kernel_rfl
theorem ti121 : TI Try.prog 121 (some (.int .u64 0)) 1 8 := by unfold TI; kernel_rfl
theorem ag86 : aggOf Try.prog 86 = false := by kernel_rfl
theorem ag121 : aggOf Try.prog 121 = false := by kernel_rfl
theorem cl56 : Callable Try.prog 56 := ⟨Try.f56, Try.func56, rfl, rfl⟩
theorem cl74 : Callable Try.prog 74 := ⟨Try.f74, Try.func74, rfl, rfl⟩
theorem cl75 : Callable Try.prog 75 := ⟨Try.f75, Try.func75, rfl, rfl⟩
theorem cl81 : Callable Try.prog 81 := ⟨Try.f81, Try.func81, rfl, rfl⟩
theorem cl82 : Callable Try.prog 82 := ⟨Try.f82, Try.func82, rfl, rfl⟩
theorem cl83 : Callable Try.prog 83 := ⟨Try.f83, Try.func83, rfl, rfl⟩
theorem cl84 : Callable Try.prog 84 := ⟨Try.f84, Try.func84, rfl, rfl⟩
theorem cl85 : Callable Try.prog 85 := ⟨Try.f85, Try.func85, rfl, rfl⟩
theorem cl86 : Callable Try.prog 86 := ⟨Try.f86, Try.func86, rfl, rfl⟩
theorem cl87 : Callable Try.prog 87 := ⟨Try.f87, Try.func87, rfl, rfl⟩
theorem cl88 : Callable Try.prog 88 := ⟨Try.f88, Try.func88, rfl, rfl⟩
theorem cl89 : Callable Try.prog 89 := ⟨Try.f89, Try.func89, rfl, rfl⟩
theorem cl91 : Callable Try.prog 91 := ⟨Try.f91, Try.func91, rfl, rfl⟩
theorem cl93 : Callable Try.prog 93 := ⟨Try.f93, Try.func93, rfl, rfl⟩
theorem cl94 : Callable Try.prog 94 := ⟨Try.f94, Try.func94, rfl, rfl⟩
theorem cl95 : Callable Try.prog 95 := ⟨Try.f95, Try.func95, rfl, rfl⟩
theorem cl96 : Callable Try.prog 96 := ⟨Try.f96, Try.func96, rfl, rfl⟩
theorem cl97 : Callable Try.prog 97 := ⟨Try.f97, Try.func97, rfl, rfl⟩
theorem cl98 : Callable Try.prog 98 := ⟨Try.f98, Try.func98, rfl, rfl⟩
theorem cl100 : Callable Try.prog 100 := ⟨Try.f100, Try.func100, rfl, rfl⟩



theorem p_fold_Below_1_h_v2 (nr : Nat) : ∀ (a0 : Int) (a1 : T_fold_State) (a2 : (List Int)) (r : (List Int)) (h : fold_Below_1_h_v2 nr a0 a1 a2 = some r), FnH Try.prog 56 [.int .i64 a0, .ref 1000 0, .ref 1001 0, .ref 1002 0] [(1000, .blk 32 (v0 a1)), (1001, .blk 23 [.osl 1003 (eInt .i64).sz a2.length]), (1002, .blk 86 [.fn 56 [.ref 1000 0, .ref 1001 0, .ref 1002 0]]), (1003, .blk 3 (D.flat (a2.map (eInt .i64).d)))] (retD []) [(1000, .blk 32 (v0 a1)), (1001, .blk 23 [.osl 0 (eInt .i64).sz r.length]), (1002, .blk 86 [.fn 56 [.ref 1000 0, .ref 1001 0, .ref 1002 0]]), (0, .blk 3 (D.flat (r.map (eInt .i64).d)))] := by
 induction nr with
 | zero => intro a0 a1 a2 r h; cases h
 | succ nr ih =>
 intro a0 a1 a2 r h
 replace h : fold_Below_1_h_v2_B (fold_Below_1_h_v2 nr) a0 a1 a2 = some r := h
 refine fnh_of_iwp (rs := []) Try.func56 rfl Try.ntmps56 (nle rfl) fun O hO => ?_
 show IWP _ _ _ _ ⟨[(0, .int .i64 a0), (1, .ref 1000 0), (2, .ref 1001 0), (3, .ref 1002 0)], [(1000, .blk 32 (v0 a1)), (1001, .blk 23 [.osl 1003 (eInt .i64).sz a2.length]), (1002, .blk 86 [.fn 56 [.ref 1000 0, .ref 1001 0, .ref 1002 0]]), (1003, .blk 3 (D.flat (a2.map (eInt .i64).d)))]⟩ _
 unfold fold_Below_1_h_v2_B at h
 refine iwp_reg (ils_cons rfl (faR 2 rfl rfl rfl Try.underlying32 rfl ti30 (lb rfl) rfl rfl) <|
  ils_cons rfl (lrL la30 rfl rfl rfl rfl rfl (nle rfl) rfl) <|
  ils_cons rfl (iop_lenT E_ptree_Node (l := a1.Nodes) rfl rfl (lb rfl) Try.underlying30 (svL rfl)) <|
  ils_cons rfl (iop_move rfl rfl (lb rfl) (sv (d := .int _ 0) rfl)) <|
  ils_end ?_)
 refine iwp_block ?_
 refine iwp_loopP (α := Nat × Int × (List Int)) (fun z => ⟨[(0, .int .i64 a0), (2, .ref 1001 0), (3, .ref 1002 0), (8, .slice false (a1.Nodes.map E_ptree_Node.d)), (9, .int .i64 (a1.Nodes.length : Int)), (10, .int .i64 z.2.1)], [(1001, .blk 23 [.osl 21 (eInt .i64).sz z.2.2.length]), (1002, .blk 86 [.fn 56 [.ref 1000 0, .ref 1001 0, .ref 1002 0]]), (1000, .blk 32 (v0 a1)), (21, .blk 3 (D.flat (z.2.2.map (eInt .i64).d)))]⟩) (fun z => fold_Below_1_h_v2_L0 (fold_Below_1_h_v2 nr) a0 a1 z.1 z.2.1 z.2.2 = some r) (fun z => z.1) (fuel, 0, a2) (fun i => if i = 21 then 1003 else i) ⟨(.sames rfl rfl), (.cons (.blk rfl rfl rfl) (.cons (.blk rfl rfl rfl) (.cons (.blk rfl rfl rfl) (.cons (EntW.lst rfl) .nil)))), nd_of [1001, 1002, 1000, 1003] rfl (by decide), (fun i hi => by first | rfl | (show (if _ then _ else _) = _; (repeat' split) <;> omega))⟩ ?_ ?_
 ·exact h
 ·
  rintro ⟨n0, v10, v11⟩ h
  cases n0 with
  | zero => exact absurd h (by unfold fold_Below_1_h_v2_L0; exact nofun)
  | succ n0 =>
   unfold fold_Below_1_h_v2_L0 at h
   obtain ⟨x21, hx21, h⟩ := bnd_e h
   refine iwp_reg (ils_cons rfl (iop_cmpx rfl rfl (lb rfl) (svI rfl) (svI rfl) rfl hx21) <|
    ils_end ?_)
   refine iwp_seq ?_
   refine iwp_cond (b := _) rfl (fun hc22 => ?_) (fun hc22 => ?_)
   ·
    replace h := bif_t h hc22
    refine iwp_skip ?_
    refine thenQ_n ?_
    refine iwp_seq ?_
    refine iwp_block ?_
    obtain ⟨x23, hx23, h⟩ := bno_e h
    refine iwp_reg (ils_cons rfl (iop_idxT E_ptree_Node (cs := q8) rfl rfl (lb rfl) Try.underlying30 ti56 (svL rfl) (svI rfl) hx23 rfl rfl) <|
     ils_cons rfl (iop_load_fa (cs := q8) rfl rfl (lb rfl) Try.underlying56 ag56 ti56 (by decide) (sv (d := .fptr q8) rfl) (nle rfl) rfl) <|
     ils_cons rfl (iop_allocS (cs := q8) (cs' := (w16 0 0 0 false)) 22 rfl rfl (lb rfl) rfl ti56 rfl rfl (.all _)) <|
     ils_cons rfl (stA q8 q8 ti56 rfl rfl rfl rfl rfl rfl rfl rfl (nle rfl) rfl) <|
     ils_end ?_)
    obtain ⟨x24, hx24, h⟩ := bnd_e h
    refine iwp_reg (ils_cons rfl (faR 1 rfl rfl rfl Try.underlying56 rfl ti3 (lb rfl) rfl rfl) <|
     ils_cons rfl (iop_load_rs (d := .int _ _) rfl rfl (lb rfl) Try.underlying3 ag3 ti3 (by decide) (svR rfl) rfl (nle rfl) rfl) <|
     ils_cons rfl (mvI rfl rfl rfl rfl) <|
     ils_cons rfl (iop_cmpx rfl rfl (lb rfl) (svI rfl) (svI rfl) rfl hx24) <|
     ils_end ?_)
    refine iwp_cond (b := _) rfl (fun hc25 => ?_) (fun hc25 => ?_)
    ·
     replace h := bif_t h hc25
     obtain ⟨x26, hx26, h⟩ := bno_e h
     refine iwp_reg (ils_cons rfl (iop_load_rs (d := .osl _ _ _) rfl rfl (lb rfl) Try.underlying23 ag23 ti23 (by decide) (svR rfl) rfl (nle rfl) rfl) <|
      ils_cons rfl (faR 0 rfl rfl rfl Try.underlying56 rfl ti3 (lb rfl) rfl rfl) <|
      ils_cons rfl (iop_load_rs (d := .int _ _) rfl rfl (lb rfl) Try.underlying3 ag3 ti3 (by decide) (svR rfl) rfl (nle rfl) rfl) <|
      ils_cons rfl (iop_bsO (eInt .i64).toEnc0 ([x23.ID] : (List Int)) 23 rfl rfl (lb rfl) Try.underlying23 ti3 rfl (.cons (svI rfl) .nil) rfl rfl (by decide)) <|
      ils_cons rfl (iop_appO (eInt .i64).toEnc0 24 rfl rfl (lb rfl) Try.underlying23 ti3 rfl rfl rfl rfl rfl (src_O (eInt .i64).toEnc0 rfl rfl rfl) hx26) <|
      ils_cons rfl (iop_store (ds' := [.osl _ _ _]) rfl rfl ti23 (svR rfl) rfl (sv (d := .osl _ _ _) rfl) rfl rfl rfl (nle rfl) rfl) <|
      ils_end ?_)
     obtain ⟨x27, hx27, h⟩ := bno_e h
     refine iwp_region (ils_cons rfl (iop_load_rs (d := .fn 56 q11) rfl rfl (lb rfl) Try.underlying86 ag86 ti86 (by decide) (svR rfl) rfl (nle rfl) rfl) <|
      ils_cons rfl (faR 0 rfl rfl rfl Try.underlying56 rfl ti3 (lb rfl) rfl rfl) <|
      ils_cons rfl (iop_load_rs (d := .int _ _) rfl rfl (lb rfl) Try.underlying3 ag3 ti3 (by decide) (svR rfl) rfl (nle rfl) rfl) <|
      ils_cons rfl (iop_callvh2 (r' := .tuple []) (H1' := [(1000, .blk 32 (v0 a1)), (1001, .blk 23 [.osl 25 (eInt .i64).sz x27.length]), (1002, .blk 86 [.fn 56 [.ref 1000 0, .ref 1001 0, .ref 1002 0]]), (25, .blk 3 (D.flat (x27.map (eInt .i64).d)))]) 25 [1000, 1001, 1002, 24] rfl rfl (lb rfl) cl56 (sv (d := .fn 56 q11) rfl) (.cons (svI rfl) .nil) rfl rfl ⟨rfl, rfl, by decide, rfl, List.forall_mem_cons.2 ⟨⟨rfl, rfl, rfl, rfl⟩, List.forall_mem_cons.2 ⟨⟨rfl, rfl, rfl, rfl⟩, List.forall_mem_cons.2 ⟨⟨rfl, rfl, rfl, rfl⟩, List.forall_mem_cons.2 ⟨⟨rfl, rfl, (handL (eInt .i64) rfl), (handLr (eInt .i64))⟩, List.forall_mem_nil _⟩⟩⟩⟩⟩ (ih _ _ _ _ hx27) rfl rfl (List.forall_mem_cons.2 ⟨⟨rfl, rfl⟩, List.forall_mem_cons.2 ⟨⟨rfl, rfl⟩, List.forall_mem_cons.2 ⟨⟨rfl, rfl⟩, List.forall_mem_cons.2 ⟨⟨rfl, (handLr (eInt .i64))⟩, List.forall_mem_nil _⟩⟩⟩⟩) (by simp only [List.map_cons, List.map_nil, Ent.ren, renL_flat, renL_ref]; rfl)) <|
      ils_nil ?_)
     refine blockQ_n ?_
     refine thenQ_n ?_
     obtain ⟨x28, hx28, h⟩ := bnd_e h
     refine iwp_region (ils_cons rfl (iop_intx rfl rfl (lb rfl) (svI rfl) (sv (d := .int _ 1) rfl) rfl hx28) <|
      ils_cons rfl (mvI rfl rfl rfl rfl) <|
      ils_nil ?_)
     refine thenQ_n ⟨(n0, x28, x27), (fun i => if i = 21 then 25 else i), ⟨(.sames rfl rfl), (.cons (.blk rfl rfl rfl) (.cons (.blk rfl rfl rfl) (.cons (.blk rfl rfl rfl) (.cons (EntW.lst rfl) .nil)))), nd_of [1001, 1002, 1000, 25] rfl (by decide), (fun i hi => by first | rfl | (show (if _ then _ else _) = _; (repeat' split) <;> omega))⟩, ?_, ?_⟩
     exact h
     exact Nat.lt_succ_self _
    ·
     replace h := bif_f h hc25
     refine iwp_skip ?_
     refine blockQ_n ?_
     refine thenQ_n ?_
     obtain ⟨x29, hx29, h⟩ := bnd_e h
     refine iwp_region (ils_cons rfl (iop_intx rfl rfl (lb rfl) (svI rfl) (sv (d := .int _ 1) rfl) rfl hx29) <|
      ils_cons rfl (mvI rfl rfl rfl rfl) <|
      ils_nil ?_)
     refine thenQ_n ⟨(n0, x29, v11), (fun i => i), ⟨(.sames rfl rfl), (.cons (.blk rfl rfl rfl) (.cons (.blk rfl rfl rfl) (.cons (.blk rfl rfl rfl) (.cons (EntW.lst rfl) .nil)))), nd_of [1001, 1002, 1000, 21] rfl (by decide), fun _ _ => rfl⟩, ?_, ?_⟩
     exact h
     exact Nat.lt_succ_self _
   ·
    replace h := bif_f h hc22
    refine iwp_exit ?_
    refine thenQ_e ?_
    refine thenQ_e ?_
    refine blockQ_e ?_
    obtain rfl := Option.some.inj h
    refine ⟨.inl rfl, (fun i => if i = 0 then 21 else i), ⟨.nil, (.cons (.blk rfl rfl rfl) (.cons (.blk rfl rfl rfl) (.cons (.blk rfl rfl rfl) (.cons (EntW.lst rfl) .nil)))), nd_of [1000, 1001, 1002, 21] rfl (by decide), (fun i hi => by first | rfl | (show (if _ then _ else _) = _; (repeat' split) <;> omega))⟩, .nil, rfl⟩

theorem p_fold_Below_1_h (a0 : Int) (a1 : T_fold_State) (r : (List Int)) (h : fold_Below_1_h a0 a1 = some r) : FnH Try.prog 56 [.int .i64 a0, .ref 1000 0, .ref 1001 0, .ref 1002 0] [(1000, .blk 32 (v0 a1)), (1001, .blk 23 [.nils]), (1002, .blk 86 [.fn 56 [.ref 1000 0, .ref 1001 0, .ref 1002 0]])] (retD []) [(1000, .blk 32 (v0 a1)), (1001, .blk 23 [.osl 0 (eInt .i64).sz r.length]), (1002, .blk 86 [.fn 56 [.ref 1000 0, .ref 1001 0, .ref 1002 0]]), (0, .blk 3 (D.flat (r.map (eInt .i64).d)))] := by
 refine fnh_of_iwp (rs := []) Try.func56 rfl Try.ntmps56 (nle rfl) fun O hO => ?_
 show IWP _ _ _ _ ⟨[(0, .int .i64 a0), (1, .ref 1000 0), (2, .ref 1001 0), (3, .ref 1002 0)], [(1000, .blk 32 (v0 a1)), (1001, .blk 23 [.nils]), (1002, .blk 86 [.fn 56 [.ref 1000 0, .ref 1001 0, .ref 1002 0]])]⟩ _
 unfold fold_Below_1_h at h
 refine iwp_reg (ils_cons rfl (faR 2 rfl rfl rfl Try.underlying32 rfl ti30 (lb rfl) rfl rfl) <|
  ils_cons rfl (lrL la30 rfl rfl rfl rfl rfl (nle rfl) rfl) <|
  ils_cons rfl (iop_lenT E_ptree_Node (l := a1.Nodes) rfl rfl (lb rfl) Try.underlying30 (svL rfl)) <|
  ils_cons rfl (iop_move rfl rfl (lb rfl) (sv (d := .int _ 0) rfl)) <|
  ils_end ?_)
 refine iwp_block ?_
 refine iwp_loopP (α := Nat × Int × (List Int)) (fun z => ⟨[(0, .int .i64 a0), (2, .ref 1001 0), (3, .ref 1002 0), (8, .slice false (a1.Nodes.map E_ptree_Node.d)), (9, .int .i64 (a1.Nodes.length : Int)), (10, .int .i64 z.2.1)], [(1001, .blk 23 [.osl 21 (eInt .i64).sz z.2.2.length]), (1002, .blk 86 [.fn 56 [.ref 1000 0, .ref 1001 0, .ref 1002 0]]), (1000, .blk 32 (v0 a1)), (21, .blk 3 (D.flat (z.2.2.map (eInt .i64).d)))]⟩) (fun z => fold_Below_1_h_L0 a0 a1 z.1 z.2.1 z.2.2 = some r) (fun z => z.1) (fuel, 0, ([] : (List Int))) (fun i => if i = 21 then 71 else i) ⟨(.sames rfl rfl), (.cons (.sub rfl (.nilo .nil) rfl) (.cons (.blk rfl rfl rfl) (.cons (.blk rfl rfl rfl) (.cons (.nilb rfl) .nil)))), nd_of [1001, 1002, 1000, 71] rfl (by decide), (fun i hi => by first | rfl | (show (if _ then _ else _) = _; (repeat' split) <;> omega))⟩ ?_ ?_
 ·exact h
 ·
  rintro ⟨n0, v10, v11⟩ h
  cases n0 with
  | zero => exact absurd h (by unfold fold_Below_1_h_L0; exact nofun)
  | succ n0 =>
   unfold fold_Below_1_h_L0 at h
   obtain ⟨x21, hx21, h⟩ := bnd_e h
   refine iwp_reg (ils_cons rfl (iop_cmpx rfl rfl (lb rfl) (svI rfl) (svI rfl) rfl hx21) <|
    ils_end ?_)
   refine iwp_seq ?_
   refine iwp_cond (b := _) rfl (fun hc22 => ?_) (fun hc22 => ?_)
   ·
    replace h := bif_t h hc22
    refine iwp_skip ?_
    refine thenQ_n ?_
    refine iwp_seq ?_
    refine iwp_block ?_
    obtain ⟨x23, hx23, h⟩ := bno_e h
    refine iwp_reg (ils_cons rfl (iop_idxT E_ptree_Node (cs := q8) rfl rfl (lb rfl) Try.underlying30 ti56 (svL rfl) (svI rfl) hx23 rfl rfl) <|
     ils_cons rfl (iop_load_fa (cs := q8) rfl rfl (lb rfl) Try.underlying56 ag56 ti56 (by decide) (sv (d := .fptr q8) rfl) (nle rfl) rfl) <|
     ils_cons rfl (iop_allocS (cs := q8) (cs' := (w16 0 0 0 false)) 22 rfl rfl (lb rfl) rfl ti56 rfl rfl (.all _)) <|
     ils_cons rfl (stA q8 q8 ti56 rfl rfl rfl rfl rfl rfl rfl rfl (nle rfl) rfl) <|
     ils_end ?_)
    obtain ⟨x24, hx24, h⟩ := bnd_e h
    refine iwp_reg (ils_cons rfl (faR 1 rfl rfl rfl Try.underlying56 rfl ti3 (lb rfl) rfl rfl) <|
     ils_cons rfl (iop_load_rs (d := .int _ _) rfl rfl (lb rfl) Try.underlying3 ag3 ti3 (by decide) (svR rfl) rfl (nle rfl) rfl) <|
     ils_cons rfl (mvI rfl rfl rfl rfl) <|
     ils_cons rfl (iop_cmpx rfl rfl (lb rfl) (svI rfl) (svI rfl) rfl hx24) <|
     ils_end ?_)
    refine iwp_cond (b := _) rfl (fun hc25 => ?_) (fun hc25 => ?_)
    ·
     replace h := bif_t h hc25
     obtain ⟨x26, hx26, h⟩ := bno_e h
     refine iwp_reg (ils_cons rfl (iop_load_rs (d := .osl _ _ _) rfl rfl (lb rfl) Try.underlying23 ag23 ti23 (by decide) (svR rfl) rfl (nle rfl) rfl) <|
      ils_cons rfl (faR 0 rfl rfl rfl Try.underlying56 rfl ti3 (lb rfl) rfl rfl) <|
      ils_cons rfl (iop_load_rs (d := .int _ _) rfl rfl (lb rfl) Try.underlying3 ag3 ti3 (by decide) (svR rfl) rfl (nle rfl) rfl) <|
      ils_cons rfl (iop_bsO (eInt .i64).toEnc0 ([x23.ID] : (List Int)) 23 rfl rfl (lb rfl) Try.underlying23 ti3 rfl (.cons (svI rfl) .nil) rfl rfl (by decide)) <|
      ils_cons rfl (iop_appO (eInt .i64).toEnc0 24 rfl rfl (lb rfl) Try.underlying23 ti3 rfl rfl rfl rfl rfl (src_O (eInt .i64).toEnc0 rfl rfl rfl) hx26) <|
      ils_cons rfl (iop_store (ds' := [.osl _ _ _]) rfl rfl ti23 (svR rfl) rfl (sv (d := .osl _ _ _) rfl) rfl rfl rfl (nle rfl) rfl) <|
      ils_end ?_)
     obtain ⟨x27, hx27, h⟩ := bno_e h
     refine iwp_region (ils_cons rfl (iop_load_rs (d := .fn 56 q11) rfl rfl (lb rfl) Try.underlying86 ag86 ti86 (by decide) (svR rfl) rfl (nle rfl) rfl) <|
      ils_cons rfl (faR 0 rfl rfl rfl Try.underlying56 rfl ti3 (lb rfl) rfl rfl) <|
      ils_cons rfl (iop_load_rs (d := .int _ _) rfl rfl (lb rfl) Try.underlying3 ag3 ti3 (by decide) (svR rfl) rfl (nle rfl) rfl) <|
      ils_cons rfl (iop_callvh2 (r' := .tuple []) (H1' := [(1000, .blk 32 (v0 a1)), (1001, .blk 23 [.osl 25 (eInt .i64).sz x27.length]), (1002, .blk 86 [.fn 56 [.ref 1000 0, .ref 1001 0, .ref 1002 0]]), (25, .blk 3 (D.flat (x27.map (eInt .i64).d)))]) 25 [1000, 1001, 1002, 24] rfl rfl (lb rfl) cl56 (sv (d := .fn 56 q11) rfl) (.cons (svI rfl) .nil) rfl rfl ⟨rfl, rfl, by decide, rfl, List.forall_mem_cons.2 ⟨⟨rfl, rfl, rfl, rfl⟩, List.forall_mem_cons.2 ⟨⟨rfl, rfl, rfl, rfl⟩, List.forall_mem_cons.2 ⟨⟨rfl, rfl, rfl, rfl⟩, List.forall_mem_cons.2 ⟨⟨rfl, rfl, (handL (eInt .i64) rfl), (handLr (eInt .i64))⟩, List.forall_mem_nil _⟩⟩⟩⟩⟩ (p_fold_Below_1_h_v2 _ _ _ _ _ hx27) rfl rfl (List.forall_mem_cons.2 ⟨⟨rfl, rfl⟩, List.forall_mem_cons.2 ⟨⟨rfl, rfl⟩, List.forall_mem_cons.2 ⟨⟨rfl, rfl⟩, List.forall_mem_cons.2 ⟨⟨rfl, (handLr (eInt .i64))⟩, List.forall_mem_nil _⟩⟩⟩⟩) (by simp only [List.map_cons, List.map_nil, Ent.ren, renL_flat, renL_ref]; rfl)) <|
      ils_nil ?_)
     refine blockQ_n ?_
     refine thenQ_n ?_
     obtain ⟨x28, hx28, h⟩ := bnd_e h
     refine iwp_region (ils_cons rfl (iop_intx rfl rfl (lb rfl) (svI rfl) (sv (d := .int _ 1) rfl) rfl hx28) <|
      ils_cons rfl (mvI rfl rfl rfl rfl) <|
      ils_nil ?_)
     refine thenQ_n ⟨(n0, x28, x27), (fun i => if i = 21 then 25 else i), ⟨(.sames rfl rfl), (.cons (.blk rfl rfl rfl) (.cons (.blk rfl rfl rfl) (.cons (.blk rfl rfl rfl) (.cons (EntW.lst rfl) .nil)))), nd_of [1001, 1002, 1000, 25] rfl (by decide), (fun i hi => by first | rfl | (show (if _ then _ else _) = _; (repeat' split) <;> omega))⟩, ?_, ?_⟩
     exact h
     exact Nat.lt_succ_self _
    ·
     replace h := bif_f h hc25
     refine iwp_skip ?_
     refine blockQ_n ?_
     refine thenQ_n ?_
     obtain ⟨x29, hx29, h⟩ := bnd_e h
     refine iwp_region (ils_cons rfl (iop_intx rfl rfl (lb rfl) (svI rfl) (sv (d := .int _ 1) rfl) rfl hx29) <|
      ils_cons rfl (mvI rfl rfl rfl rfl) <|
      ils_nil ?_)
     refine thenQ_n ⟨(n0, x29, v11), (fun i => i), ⟨(.sames rfl rfl), (.cons (.blk rfl rfl rfl) (.cons (.blk rfl rfl rfl) (.cons (.blk rfl rfl rfl) (.cons (EntW.lst rfl) .nil)))), nd_of [1001, 1002, 1000, 21] rfl (by decide), fun _ _ => rfl⟩, ?_, ?_⟩
     exact h
     exact Nat.lt_succ_self _
   ·
    replace h := bif_f h hc22
    refine iwp_exit ?_
    refine thenQ_e ?_
    refine thenQ_e ?_
    refine blockQ_e ?_
    obtain rfl := Option.some.inj h
    refine ⟨.inl rfl, (fun i => if i = 0 then 21 else i), ⟨.nil, (.cons (.blk rfl rfl rfl) (.cons (.blk rfl rfl rfl) (.cons (.blk rfl rfl rfl) (.cons (EntW.lst rfl) .nil)))), nd_of [1000, 1001, 1002, 21] rfl (by decide), (fun i hi => by first | rfl | (show (if _ then _ else _) = _; (repeat' split) <;> omega))⟩, .nil, rfl⟩

theorem p_math_bits_Len64 (a0 : Int) (r : Int) (h : math_bits_Len64 a0 = some r) : PureAt Try.prog 91 [.int .u64 a0] (.int .i64 r) := by
 refine pure_of_iwp (rs := [.int .i64 r]) Try.func91 rfl Try.ntmps91 (nle rfl) rfl fun O hO => ?_
 show IWP _ _ _ _ ⟨[(0, .int .u64 a0)], []⟩ _
 unfold math_bits_Len64 at h
 refine iwp_reg (ils_cons rfl (iop_assign rfl rfl (lb rfl) (sv (d := .int _ 0) rfl)) <|
  ils_end ?_)
 refine iwp_join (α := Int × Int) (fun z => ⟨[(0, .int .u64 z.1), (2, .int .i64 z.2)], []⟩) (fun z => math_bits_Len64_J0 z.1 z.2 = some r) ?_ ?_
 ·
  obtain ⟨x30, hx30, h⟩ := bnd_e h
  refine iwp_reg (ils_cons rfl (mvI rfl rfl rfl rfl) <|
   ils_cons rfl (iop_cmpx rfl rfl (lb rfl) (svI rfl) (sv (d := .int _ 4294967296) rfl) rfl hx30) <|
   ils_end ?_)
  refine iwp_cond (b := _) rfl (fun hc31 => ?_) (fun hc31 => ?_)
  ·
   replace h := bif_t h hc31
   obtain ⟨x32, hx32, h⟩ := bno_e h
   refine iwp_reg (ils_cons rfl (mvI rfl rfl rfl rfl) <|
    ils_cons rfl (iop_shrx rfl rfl (lb rfl) (svI rfl) (sv (d := .int _ 32) rfl) hx32) <|
    ils_cons rfl (asI rfl rfl rfl rfl) <|
    ils_end ?_)
   refine iwp_region (ils_cons rfl (iop_assign rfl rfl (lb rfl) (sv (d := .int _ 32) rfl)) <|
    ils_nil ?_)
   refine thenQ_n ⟨(x32, 32), (fun i => i), ⟨(.sames rfl rfl), .nil, nd_of [] rfl (by decide), fun _ _ => rfl⟩, ?_⟩
   exact h
  ·
   replace h := bif_f h hc31
   refine iwp_skip ?_
   refine thenQ_n ⟨(a0, 0), (fun i => i), ⟨(.sames rfl rfl), .nil, nd_of [] rfl (by decide), fun _ _ => rfl⟩, ?_⟩
   exact h
 ·
  rintro ⟨v4, v5⟩ h
  unfold math_bits_Len64_J0 at h
  refine iwp_join (α := Int × Int) (fun z => ⟨[(0, .int .u64 z.1), (2, .int .i64 z.2)], []⟩) (fun z => math_bits_Len64_J1 z.1 z.2 = some r) ?_ ?_
  ·
   obtain ⟨x26, hx26, h⟩ := bnd_e h
   refine iwp_reg (ils_cons rfl (mvI rfl rfl rfl rfl) <|
    ils_cons rfl (iop_cmpx rfl rfl (lb rfl) (svI rfl) (sv (d := .int _ 65536) rfl) rfl hx26) <|
    ils_end ?_)
   refine iwp_cond (b := _) rfl (fun hc27 => ?_) (fun hc27 => ?_)
   ·
    replace h := bif_t h hc27
    obtain ⟨x28, hx28, h⟩ := bno_e h
    refine iwp_reg (ils_cons rfl (mvI rfl rfl rfl rfl) <|
     ils_cons rfl (iop_shrx rfl rfl (lb rfl) (svI rfl) (sv (d := .int _ 16) rfl) hx28) <|
     ils_cons rfl (asI rfl rfl rfl rfl) <|
     ils_end ?_)
    obtain ⟨x29, hx29, h⟩ := bnd_e h
    refine iwp_region (ils_cons rfl (mvI rfl rfl rfl rfl) <|
     ils_cons rfl (iop_intx rfl rfl (lb rfl) (svI rfl) (sv (d := .int _ 16) rfl) rfl hx29) <|
     ils_cons rfl (asI rfl rfl rfl rfl) <|
     ils_nil ?_)
    refine thenQ_n ⟨(x28, x29), (fun i => i), ⟨(.sames rfl rfl), .nil, nd_of [] rfl (by decide), fun _ _ => rfl⟩, ?_⟩
    exact h
   ·
    replace h := bif_f h hc27
    refine iwp_skip ?_
    refine thenQ_n ⟨(v4, v5), (fun i => i), ⟨(.sames rfl rfl), .nil, nd_of [] rfl (by decide), fun _ _ => rfl⟩, ?_⟩
    exact h
  ·
   rintro ⟨v10, v11⟩ h
   unfold math_bits_Len64_J1 at h
   refine iwp_join (α := Int × Int) (fun z => ⟨[(0, .int .u64 z.1), (2, .int .i64 z.2)], []⟩) (fun z => math_bits_Len64_J2 z.1 z.2 = some r) ?_ ?_
   ·
    obtain ⟨x22, hx22, h⟩ := bnd_e h
    refine iwp_reg (ils_cons rfl (mvI rfl rfl rfl rfl) <|
     ils_cons rfl (iop_cmpx rfl rfl (lb rfl) (svI rfl) (sv (d := .int _ 256) rfl) rfl hx22) <|
     ils_end ?_)
    refine iwp_cond (b := _) rfl (fun hc23 => ?_) (fun hc23 => ?_)
    ·
     replace h := bif_t h hc23
     obtain ⟨x24, hx24, h⟩ := bno_e h
     refine iwp_reg (ils_cons rfl (mvI rfl rfl rfl rfl) <|
      ils_cons rfl (iop_shrx rfl rfl (lb rfl) (svI rfl) (sv (d := .int _ 8) rfl) hx24) <|
      ils_cons rfl (asI rfl rfl rfl rfl) <|
      ils_end ?_)
     obtain ⟨x25, hx25, h⟩ := bnd_e h
     refine iwp_region (ils_cons rfl (mvI rfl rfl rfl rfl) <|
      ils_cons rfl (iop_intx rfl rfl (lb rfl) (svI rfl) (sv (d := .int _ 8) rfl) rfl hx25) <|
      ils_cons rfl (asI rfl rfl rfl rfl) <|
      ils_nil ?_)
     refine thenQ_n ⟨(x24, x25), (fun i => i), ⟨(.sames rfl rfl), .nil, nd_of [] rfl (by decide), fun _ _ => rfl⟩, ?_⟩
     exact h
    ·
     replace h := bif_f h hc23
     refine iwp_skip ?_
     refine thenQ_n ⟨(v10, v11), (fun i => i), ⟨(.sames rfl rfl), .nil, nd_of [] rfl (by decide), fun _ _ => rfl⟩, ?_⟩
     exact h
   ·
    rintro ⟨v16, v17⟩ h
    unfold math_bits_Len64_J2 at h
    obtain ⟨x18, hx18, h⟩ := bnd_e h
    obtain ⟨x19, hx19, h⟩ := bno_e h
    obtain ⟨x20, hx20, h⟩ := bnd_e h
    obtain ⟨x21, hx21, h⟩ := bnd_e h
    refine iwp_reg (ils_cons rfl (mvI rfl rfl rfl rfl) <|
     ils_cons rfl (mvI rfl rfl rfl rfl) <|
     ils_cons rfl (iop_int_conv rfl rfl (lb rfl) ⟨_, Try.underlying120⟩ Try.underlying5 (svI rfl) hx18) <|
     ils_cons rfl (iop_str_at rfl rfl (lb rfl) Try.underlying9 (sv (d := .str [0, 1, 2, 2, 3, 3, 3, 3, 4, 4, 4, 4, 4, 4, 4, 4, 5, 5, 5, 5, 5, 5, 5, 5, 5, 5, 5, 5, 5, 5, 5, 5, 6, 6, 6, 6, 6, 6, 6, 6, 6, 6, 6, 6, 6, 6, 6, 6, 6, 6, 6, 6, 6, 6, 6, 6, 6, 6, 6, 6, 6, 6, 6, 6, 7, 7, 7, 7, 7, 7, 7, 7, 7, 7, 7, 7, 7, 7, 7, 7, 7, 7, 7, 7, 7, 7, 7, 7, 7, 7, 7, 7, 7, 7, 7, 7, 7, 7, 7, 7, 7, 7, 7, 7, 7, 7, 7, 7, 7, 7, 7, 7, 7, 7, 7, 7, 7, 7, 7, 7, 7, 7, 7, 7, 7, 7, 7, 7, 8, 8, 8, 8, 8, 8, 8, 8, 8, 8, 8, 8, 8, 8, 8, 8, 8, 8, 8, 8, 8, 8, 8, 8, 8, 8, 8, 8, 8, 8, 8, 8, 8, 8, 8, 8, 8, 8, 8, 8, 8, 8, 8, 8, 8, 8, 8, 8, 8, 8, 8, 8, 8, 8, 8, 8, 8, 8, 8, 8, 8, 8, 8, 8, 8, 8, 8, 8, 8, 8, 8, 8, 8, 8, 8, 8, 8, 8, 8, 8, 8, 8, 8, 8, 8, 8, 8, 8, 8, 8, 8, 8, 8, 8, 8, 8, 8, 8, 8, 8, 8, 8, 8, 8, 8, 8, 8, 8, 8, 8, 8, 8, 8, 8, 8, 8, 8, 8, 8, 8, 8, 8, 8, 8, 8, 8, 8, 8]) rfl) (svI rfl) hx19) <|
     ils_cons rfl (iop_int_conv rfl rfl (lb rfl) ⟨_, Try.underlying5⟩ Try.underlying3 (svI rfl) hx20) <|
     ils_cons rfl (iop_intx rfl rfl (lb rfl) (svI rfl) (svI rfl) rfl hx21) <|
     ils_cons rfl (asI rfl rfl rfl rfl) <|
     ils_end ?_)
    refine iwp_ret ?_
    obtain rfl := Option.some.inj h
    refine ⟨.inr rfl, (.cons (sv rfl) .nil)⟩

theorem p_math_bits_Len (a0 : Int) (r : Int) (h : math_bits_Len a0 = some r) : PureAt Try.prog 75 [.int .u64 a0] (.int .i64 r) := by
 refine pure_of_iwp (rs := [.int .i64 r]) Try.func75 rfl Try.ntmps75 (nle rfl) rfl fun O hO => ?_
 show IWP _ _ _ _ ⟨[(0, .int .u64 a0)], []⟩ _
 unfold math_bits_Len at h
 refine iwp_reg (ils_cons rfl (iop_assign rfl rfl (lb rfl) (sv (d := .int _ 0) rfl)) <|
  ils_end ?_)
 refine iwp_seq ?_
 refine iwp_cond_f rfl rfl ?_
 refine iwp_skip ?_
 refine thenQ_n ?_
 obtain ⟨x1, hx1, h⟩ := bno_e h
 refine iwp_reg (ils_cons rfl (mvI rfl rfl rfl rfl) <|
  ils_cons rfl (iop_call (r := .int _ _) rfl rfl (lb rfl) cl91 (.cons (svI rfl) .nil) rfl (p_math_bits_Len64 _ _ hx1)) <|
  ils_cons rfl (asI rfl rfl rfl rfl) <|
  ils_end ?_)
 refine iwp_ret ?_
 obtain rfl := Option.some.inj h
 refine ⟨.inr rfl, (.cons (sv rfl) .nil)⟩

theorem p_cmp_isNaN_int (a0 : Int) (r : Bool) (h : cmp_isNaN_int a0 = some r) : PureAt Try.prog 98 [.int .i64 a0] (.bool r) := by
 refine pure_of_iwp (rs := [.bool r]) Try.func98 rfl Try.ntmps98 (nle rfl) rfl fun O hO => ?_
 show IWP _ _ _ _ ⟨[(0, .int .i64 a0)], []⟩ _
 unfold cmp_isNaN_int at h
 refine iwp_reg (ils_cons rfl (iop_assign rfl rfl (lb rfl) (sv (d := .bool false) rfl)) <|
  ils_end ?_)
 obtain ⟨x1, hx1, h⟩ := bnd_e h
 refine iwp_reg (ils_cons rfl (mvI rfl rfl rfl rfl) <|
  ils_cons rfl (mvI rfl rfl rfl rfl) <|
  ils_cons rfl (iop_cmpx rfl rfl (lb rfl) (svI rfl) (svI rfl) rfl hx1) <|
  ils_cons rfl (asB rfl rfl rfl rfl) <|
  ils_end ?_)
 refine iwp_ret ?_
 obtain rfl := Option.some.inj h
 refine ⟨.inr rfl, (.cons (sv rfl) .nil)⟩

theorem p_cmp_Less_int (a0 : Int) (a1 : Int) (r : Bool) (h : cmp_Less_int a0 a1 = some r) : PureAt Try.prog 87 [.int .i64 a0, .int .i64 a1] (.bool r) := by
 refine pure_of_iwp (rs := [.bool r]) Try.func87 rfl Try.ntmps87 (nle rfl) rfl fun O hO => ?_
 show IWP _ _ _ _ ⟨[(0, .int .i64 a0), (1, .int .i64 a1)], []⟩ _
 unfold cmp_Less_int at h
 refine iwp_reg (ils_cons rfl (iop_assign rfl rfl (lb rfl) (sv (d := .bool false) rfl)) <|
  ils_end ?_)
 obtain ⟨x1, hx1, h⟩ := bno_e h
 obtain ⟨x2, hx2, h⟩ := bno_e h
 obtain ⟨x3, hx3, h⟩ := bnd_e h
 obtain ⟨x4, hx4, h⟩ := bnd_e h
 obtain ⟨x5, hx5, h⟩ := bnd_e h
 refine iwp_reg (ils_cons rfl (mvI rfl rfl rfl rfl) <|
  ils_cons rfl (iop_call (r := .bool _) rfl rfl (lb rfl) cl98 (.cons (svI rfl) .nil) rfl (p_cmp_isNaN_int _ _ hx1)) <|
  ils_cons rfl (mvB rfl rfl rfl rfl) <|
  ils_guard rfl rfl (.one rfl) rfl (by decide) (fun hb => (mvI rfl rfl rfl rfl)) <|
  ils_guard rfl rfl (.one rfl) rfl (by decide) (fun hb => (iop_call (r := .bool _) rfl rfl (lb rfl) cl98 (.cons (svcI rfl hb) .nil) rfl (p_cmp_isNaN_int _ _ (gd_t hx2 hb)))) <|
  ils_guard rfl rfl (.one rfl) rfl (by decide) (fun hb => (iop_not rfl rfl (lb rfl) (svcB rfl hb))) <|
  ils_cons rfl (iop_andx rfl rfl (lb rfl) (svB rfl) rfl rfl hx3) <|
  ils_cons rfl (mvB rfl rfl rfl rfl) <|
  ils_guard rfl rfl (.one rfl) rfl (by decide) (fun hb => (mvI rfl rfl rfl rfl)) <|
  ils_guard rfl rfl (.one rfl) rfl (by decide) (fun hb => (mvI rfl rfl rfl rfl)) <|
  ils_guard rfl rfl (.one rfl) rfl (by decide) (fun hb => (iop_cmpx rfl rfl (lb rfl) (svcI rfl hb) (svcI rfl hb) rfl hx4)) <|
  ils_cons rfl (iop_orx rfl rfl (lb rfl) (svB rfl) rfl rfl hx5) <|
  ils_cons rfl (asB rfl rfl rfl rfl) <|
  ils_end ?_)
 refine iwp_ret ?_
 obtain rfl := Option.some.inj h
 refine ⟨.inr rfl, (.cons (sv rfl) .nil)⟩

theorem p_slices_insertionSortOrdered_int_h (a0 : Int) (a1 : Int) (a2 : (List Int)) (r : (List Int)) (h : slices_insertionSortOrdered_int_h a0 a1 a2 = some r) : FnH Try.prog 81 [.osl 1000 (eInt .i64).sz a2.length, .int .i64 a0, .int .i64 a1] [(1000, .blk 3 (D.flat (a2.map (eInt .i64).d)))] (retD []) [(1000, .blk 3 (D.flat (r.map (eInt .i64).d)))] := by
 refine fnh_of_iwp (rs := []) Try.func81 rfl Try.ntmps81 (nle rfl) fun O hO => ?_
 show IWP _ _ _ _ ⟨[(0, .osl 1000 (eInt .i64).sz a2.length), (1, .int .i64 a0), (2, .int .i64 a1)], [(1000, .blk 3 (D.flat (a2.map (eInt .i64).d)))]⟩ _
 unfold slices_insertionSortOrdered_int_h at h
 obtain ⟨x1, hx1, h⟩ := bnd_e h
 refine iwp_reg (ils_cons rfl (mvI rfl rfl rfl rfl) <|
  ils_cons rfl (iop_intx rfl rfl (lb rfl) (svI rfl) (sv (d := .int _ 1) rfl) rfl hx1) <|
  ils_cons rfl (asI rfl rfl rfl rfl) <|
  ils_end ?_)
 refine iwp_block ?_
 refine iwp_loopP (α := Nat × (List Int) × Int) (fun z => ⟨[(0, .osl 1000 (eInt .i64).sz z.2.1.length), (1, .int .i64 a0), (2, .int .i64 a1), (6, .int .i64 z.2.2)], [(1000, .blk 3 (D.flat (z.2.1.map (eInt .i64).d)))]⟩) (fun z => slices_insertionSortOrdered_int_h_L0 a0 a1 z.1 z.2.1 z.2.2 = some r) (fun z => z.1) (fuel, a2, x1) (fun i => i) ⟨(.sames rfl rfl), (.cons (EntW.lst rfl) .nil), nd_of [1000] rfl (by decide), fun _ _ => rfl⟩ ?_ ?_
 ·exact h
 ·
  rintro ⟨n0, v73, v74⟩ h
  cases n0 with
  | zero => exact absurd h (by unfold slices_insertionSortOrdered_int_h_L0; exact nofun)
  | succ n0 =>
   unfold slices_insertionSortOrdered_int_h_L0 at h
   refine iwp_seq ?_
   obtain ⟨x146, hx146, h⟩ := bnd_e h
   refine iwp_reg (ils_cons rfl (mvI rfl rfl rfl rfl) <|
    ils_cons rfl (mvI rfl rfl rfl rfl) <|
    ils_cons rfl (iop_cmpx rfl rfl (lb rfl) (svI rfl) (svI rfl) rfl hx146) <|
    ils_end ?_)
   refine iwp_cond (b := _) rfl (fun hc147 => ?_) (fun hc147 => ?_)
   ·
    replace h := bif_t h hc147
    refine iwp_skip ?_
    refine thenQ_n ?_
    refine iwp_seq ?_
    refine iwp_block ?_
    refine iwp_reg (ils_cons rfl (mvI rfl rfl rfl rfl) <|
     ils_cons rfl (asI rfl rfl rfl rfl) <|
     ils_end ?_)
    refine iwp_block ?_
    refine iwp_loopP (α := Nat × (List Int) × Int) (fun z => ⟨[(0, .osl 1000 (eInt .i64).sz z.2.1.length), (1, .int .i64 a0), (2, .int .i64 a1), (6, .int .i64 v74), (7, .int .i64 z.2.2)], [(1000, .blk 3 (D.flat (z.2.1.map (eInt .i64).d)))]⟩) (fun z => slices_insertionSortOrdered_int_h_L1 a0 v74 (slices_insertionSortOrdered_int_h_L0 a0 a1 n0) z.1 z.2.1 z.2.2 = some r) (fun z => z.1) (fuel, v73, v74) (fun i => i) ⟨(.sames rfl rfl), (.cons (EntW.lst rfl) .nil), nd_of [1000] rfl (by decide), fun _ _ => rfl⟩ ?_ ?_
    ·exact h
    ·
     rintro ⟨n1, v170, v171⟩ h
     cases n1 with
     | zero => exact absurd h (by unfold slices_insertionSortOrdered_int_h_L1; exact nofun)
     | succ n1 =>
      unfold slices_insertionSortOrdered_int_h_L1 at h
      refine iwp_seq ?_
      obtain ⟨x194, hx194, h⟩ := bnd_e h
      obtain ⟨x195, hx195, h⟩ := bno_e h
      obtain ⟨x196, hx196, h⟩ := bno_e h
      obtain ⟨x197, hx197, h⟩ := bnd_e h
      obtain ⟨x198, hx198, h⟩ := bno_e h
      obtain ⟨x199, hx199, h⟩ := bno_e h
      obtain ⟨x200, hx200, h⟩ := bno_e h
      obtain ⟨x201, hx201, h⟩ := bnd_e h
      refine iwp_drw rfl [⟨[7], [], [(16, .int .i64 v171)], []⟩,
       ⟨[1], [], [(17, .int .i64 a0)], []⟩,
       ⟨[16, 17], [], [(18, .bool x194)], []⟩,
       ⟨[18], [], [(19, .bool x194)], []⟩,
       ⟨[0, 19], [], [(20, .cnd (x194 == true) (.osl 1000 (eInt .i64).sz v170.length))], []⟩,
       ⟨[7, 19], [], [(21, .cnd (x194 == true) (.int .i64 v171))], []⟩,
       ⟨[19, 20, 21], [], [(22, .cnd (x194 == true) (.ref 1000 (((v171 : Int).toNat) * (eInt .i64).sz + 0)))], []⟩,
       ⟨[19, 22], [1000], [(23, .cnd (x194 == true) (.int .i64 x196))], []⟩,
       ⟨[0, 19], [], [(24, .cnd (x194 == true) (.osl 1000 (eInt .i64).sz v170.length))], []⟩,
       ⟨[7, 19], [], [(25, .cnd (x194 == true) (.int .i64 v171))], []⟩,
       ⟨[19, 25], [], [(26, .cnd (x194 == true) (.int .i64 x197))], []⟩,
       ⟨[19, 24, 26], [], [(27, .cnd (x194 == true) (.ref 1000 (((x197 : Int).toNat) * (eInt .i64).sz + 0)))], []⟩,
       ⟨[19, 27], [1000], [(28, .cnd (x194 == true) (.int .i64 x199))], []⟩,
       ⟨[19, 23, 28], [], [(29, .cnd (x194 == true) (.bool x200))], []⟩,
       ⟨[19, 29], [], [(30, .bool x201)], []⟩] rfl ?_ (by kernel_rfl) ?_
      ·refine .cons (lop rfl rfl fun S hA => (iop_move rfl rfl (lb rfl) (svaI hA rfl rfl))) ?_
       refine .cons (lop rfl rfl fun S hA => (iop_move rfl rfl (lb rfl) (svaI hA rfl rfl))) ?_
       refine .cons (lop rfl rfl fun S hA => (iop_cmpx rfl rfl (lb rfl) (svaI hA rfl rfl) (svaI hA rfl rfl) rfl hx194)) ?_
       refine .cons (lop rfl rfl fun S hA => (iop_move rfl rfl (lb rfl) (svaB hA rfl rfl))) ?_
       refine .cons (lopg rfl rfl rfl rfl (by decide) (fun S hA => grd1 hA rfl rfl) (fun S hA hb => (iop_move rfl rfl (lb rfl) (sv (d := .osl _ _ _) (agr hA rfl rfl))))) ?_
       refine .cons (lopg rfl rfl rfl rfl (by decide) (fun S hA => grd1 hA rfl rfl) (fun S hA hb => (iop_move rfl rfl (lb rfl) (svaI hA rfl rfl)))) ?_
       refine .cons (lopg rfl rfl rfl rfl (by decide) (fun S hA => grd1 hA rfl rfl) (fun S hA hb => (iop_idxO (eInt .i64).toEnc0 rfl rfl (lb rfl) Try.underlying23 ti3 (svc (d := .osl _ _ _) (agr hA rfl rfl) hb) rfl (svc (d := .int _ _) (agr hA rfl rfl) hb) (gd_t hx195 hb)))) ?_
       refine .cons (lopg rfl rfl rfl rfl (by decide) (fun S hA => grd1 hA rfl rfl) (fun S hA hb => (iop_loadEs (eInt .i64).toEnc0 (d := .int _ _) rfl rfl (lb rfl) Try.underlying3 ag3 ti3 (by decide) (svc (d := .ref _ _) (agr hA rfl rfl) hb) (agi hA rfl rfl) (gd_t hx196 hb) (nle rfl) rfl))) ?_
       refine .cons (lopg rfl rfl rfl rfl (by decide) (fun S hA => grd1 hA rfl rfl) (fun S hA hb => (iop_move rfl rfl (lb rfl) (sv (d := .osl _ _ _) (agr hA rfl rfl))))) ?_
       refine .cons (lopg rfl rfl rfl rfl (by decide) (fun S hA => grd1 hA rfl rfl) (fun S hA hb => (iop_move rfl rfl (lb rfl) (svaI hA rfl rfl)))) ?_
       refine .cons (lopg rfl rfl rfl rfl (by decide) (fun S hA => grd1 hA rfl rfl) (fun S hA hb => (iop_intx rfl rfl (lb rfl) (svc (d := .int _ _) (agr hA rfl rfl) hb) (sv (d := .int _ 1) rfl) rfl hx197))) ?_
       refine .cons (lopg rfl rfl rfl rfl (by decide) (fun S hA => grd1 hA rfl rfl) (fun S hA hb => (iop_idxO (eInt .i64).toEnc0 rfl rfl (lb rfl) Try.underlying23 ti3 (svc (d := .osl _ _ _) (agr hA rfl rfl) hb) rfl (svc (d := .int _ _) (agr hA rfl rfl) hb) (gd_t hx198 hb)))) ?_
       refine .cons (lopg rfl rfl rfl rfl (by decide) (fun S hA => grd1 hA rfl rfl) (fun S hA hb => (iop_loadEs (eInt .i64).toEnc0 (d := .int _ _) rfl rfl (lb rfl) Try.underlying3 ag3 ti3 (by decide) (svc (d := .ref _ _) (agr hA rfl rfl) hb) (agi hA rfl rfl) (gd_t hx199 hb) (nle rfl) rfl))) ?_
       refine .cons (lopg rfl rfl rfl rfl (by decide) (fun S hA => grd1 hA rfl rfl) (fun S hA hb => (iop_call (r := .bool _) rfl rfl (lb rfl) cl87 (.cons (svc (d := .int _ _) (agr hA rfl rfl) hb) (.cons (svc (d := .int _ _) (agr hA rfl rfl) hb) .nil)) rfl (p_cmp_Less_int _ _ _ (gd_t hx200 hb))))) ?_
       refine .cons (lop rfl rfl fun S hA => (iop_andx rfl rfl (lb rfl) (svaB hA rfl rfl) (agr hA rfl rfl) rfl hx201)) ?_
       exact .nil
      refine iwp_cond (b := _) rfl (fun hc202 => ?_) (fun hc202 => ?_)
      ·
       replace h := bif_t h hc202
       refine iwp_skip ?_
       refine thenQ_n ?_
       refine iwp_seq ?_
       refine iwp_block ?_
       obtain ⟨x203, hx203, h⟩ := bnd_e h
       obtain ⟨x204, hx204, h⟩ := bnd_e h
       obtain ⟨x205, hx205, h⟩ := bno_e h
       obtain ⟨x206, hx206, h⟩ := bno_e h
       obtain ⟨x207, hx207, h⟩ := bno_e h
       obtain ⟨x208, hx208, h⟩ := bno_e h
       obtain ⟨x209, hx209, h⟩ := bno_e h
       obtain ⟨x210, hx210, h⟩ := bno_e h
       obtain ⟨x211, hx211, h⟩ := bnd_e h
       obtain ⟨x212, hx212, h⟩ := bno_e h
       obtain ⟨x213, hx213, h⟩ := bno_e h
       obtain ⟨x214, hx214, h⟩ := bnd_e h
       refine iwp_draw rfl [⟨[0], [], [(33, .osl 1000 (eInt .i64).sz v170.length)], []⟩,
        ⟨[7], [], [(34, .int .i64 v171)], []⟩,
        ⟨[0], [], [(35, .osl 1000 (eInt .i64).sz v170.length)], []⟩,
        ⟨[7], [], [(36, .int .i64 v171)], []⟩,
        ⟨[36], [], [(37, .int .i64 x203)], []⟩,
        ⟨[0], [], [(38, .osl 1000 (eInt .i64).sz v170.length)], []⟩,
        ⟨[7], [], [(39, .int .i64 v171)], []⟩,
        ⟨[39], [], [(40, .int .i64 x204)], []⟩,
        ⟨[38, 40], [], [(41, .ref 1000 (((x204 : Int).toNat) * (eInt .i64).sz + 0))], []⟩,
        ⟨[41], [1000], [(42, .int .i64 x206)], []⟩,
        ⟨[0], [], [(43, .osl 1000 (eInt .i64).sz v170.length)], []⟩,
        ⟨[7], [], [(44, .int .i64 v171)], []⟩,
        ⟨[43, 44], [], [(45, .ref 1000 (((v171 : Int).toNat) * (eInt .i64).sz + 0))], []⟩,
        ⟨[45], [1000], [(46, .int .i64 x208)], []⟩,
        ⟨[33, 34], [], [(47, .ref 1000 (((v171 : Int).toNat) * (eInt .i64).sz + 0))], []⟩,
        ⟨[42, 47], [1000], [], [(1000, .blk 3 (D.flat (x211.map (eInt .i64).d)))]⟩,
        ⟨[35, 37], [], [(48, .ref 1000 (((x203 : Int).toNat) * (eInt .i64).sz + 0))], []⟩,
        ⟨[46, 48], [1000], [], [(1000, .blk 3 (D.flat (x214.map (eInt .i64).d)))]⟩] rfl ?_ (by kernel_rfl) ?_
       ·refine .cons (lop rfl rfl fun S hA => (iop_move rfl rfl (lb rfl) (sv (d := .osl _ _ _) (agr hA rfl rfl)))) ?_
        refine .cons (lop rfl rfl fun S hA => (iop_move rfl rfl (lb rfl) (svaI hA rfl rfl))) ?_
        refine .cons (lop rfl rfl fun S hA => (iop_move rfl rfl (lb rfl) (sv (d := .osl _ _ _) (agr hA rfl rfl)))) ?_
        refine .cons (lop rfl rfl fun S hA => (iop_move rfl rfl (lb rfl) (svaI hA rfl rfl))) ?_
        refine .cons (lop rfl rfl fun S hA => (iop_intx rfl rfl (lb rfl) (svaI hA rfl rfl) (sv (d := .int _ 1) rfl) rfl hx203)) ?_
        refine .cons (lop rfl rfl fun S hA => (iop_move rfl rfl (lb rfl) (sv (d := .osl _ _ _) (agr hA rfl rfl)))) ?_
        refine .cons (lop rfl rfl fun S hA => (iop_move rfl rfl (lb rfl) (svaI hA rfl rfl))) ?_
        refine .cons (lop rfl rfl fun S hA => (iop_intx rfl rfl (lb rfl) (svaI hA rfl rfl) (sv (d := .int _ 1) rfl) rfl hx204)) ?_
        refine .cons (lop rfl rfl fun S hA => (iop_idxO (eInt .i64).toEnc0 rfl rfl (lb rfl) Try.underlying23 ti3 (sv (d := .osl _ _ _) (agr hA rfl rfl)) rfl (svaI hA rfl rfl) hx205)) ?_
        refine .cons (lop rfl rfl fun S hA => (iop_loadEs (eInt .i64).toEnc0 (d := .int _ _) rfl rfl (lb rfl) Try.underlying3 ag3 ti3 (by decide) (svaR hA rfl rfl) (agi hA rfl rfl) hx206 (nle rfl) rfl)) ?_
        refine .cons (lop rfl rfl fun S hA => (iop_move rfl rfl (lb rfl) (sv (d := .osl _ _ _) (agr hA rfl rfl)))) ?_
        refine .cons (lop rfl rfl fun S hA => (iop_move rfl rfl (lb rfl) (svaI hA rfl rfl))) ?_
        refine .cons (lop rfl rfl fun S hA => (iop_idxO (eInt .i64).toEnc0 rfl rfl (lb rfl) Try.underlying23 ti3 (sv (d := .osl _ _ _) (agr hA rfl rfl)) rfl (svaI hA rfl rfl) hx207)) ?_
        refine .cons (lop rfl rfl fun S hA => (iop_loadEs (eInt .i64).toEnc0 (d := .int _ _) rfl rfl (lb rfl) Try.underlying3 ag3 ti3 (by decide) (svaR hA rfl rfl) (agi hA rfl rfl) hx208 (nle rfl) rfl)) ?_
        refine .cons (lop rfl rfl fun S hA => (iop_idxO (eInt .i64).toEnc0 rfl rfl (lb rfl) Try.underlying23 ti3 (sv (d := .osl _ _ _) (agr hA rfl rfl)) rfl (svaI hA rfl rfl) hx209)) ?_
        refine .cons (lop rfl rfl fun S hA => (iop_storeE (eInt .i64).toEnc0 (a' := x206) rfl rfl ti3 (svaR hA rfl rfl) (agi hA rfl rfl) (svaI hA rfl rfl) rfl rfl rfl hx210 (nle rfl) rfl hx211)) ?_
        refine .cons (lop rfl rfl fun S hA => (iop_idxO (eInt .i64).toEnc0 rfl rfl (lb rfl) Try.underlying23 ti3 (sv (d := .osl _ _ _) (agr hA rfl rfl)) (len_set hx211 rfl) (svaI hA rfl rfl) hx212)) ?_
        refine .cons (lop rfl rfl fun S hA => (iop_storeE (eInt .i64).toEnc0 (a' := x208) rfl rfl ti3 (svaR hA rfl rfl) (agi hA rfl rfl) (svaI hA rfl rfl) rfl rfl rfl hx213 (nle rfl) rfl hx214)) ?_
        exact .nil
       refine blockQ_n ?_
       refine thenQ_n ?_
       obtain ⟨x215, hx215, h⟩ := bnd_e h
       refine iwp_region (ils_cons rfl (mvI rfl rfl rfl rfl) <|
        ils_cons rfl (iop_intx rfl rfl (lb rfl) (svI rfl) (sv (d := .int _ 1) rfl) rfl hx215) <|
        ils_cons rfl (asI rfl rfl rfl rfl) <|
        ils_nil ?_)
       refine thenQ_n ⟨(n1, x214, x215), (fun i => i), ⟨(.cons (.same (congrArg (D.osl _ _) (len_set hx214 (len_set hx211 rfl)).symm) rfl) (.sames rfl rfl)), (.cons (EntW.lst rfl) .nil), nd_of [1000] rfl (by decide), fun _ _ => rfl⟩, ?_, ?_⟩
       exact h
       exact Nat.lt_succ_self _
      ·
       replace h := bif_f h hc202
       refine iwp_exit ?_
       refine thenQ_e ?_
       refine thenQ_e ?_
       refine blockQ_e ?_
       refine blockQ_n ?_
       refine thenQ_n ?_
       obtain ⟨x216, hx216, h⟩ := bnd_e h
       refine iwp_region (ils_cons rfl (mvI rfl rfl rfl rfl) <|
        ils_cons rfl (iop_intx rfl rfl (lb rfl) (svI rfl) (sv (d := .int _ 1) rfl) rfl hx216) <|
        ils_cons rfl (asI rfl rfl rfl rfl) <|
        ils_nil ?_)
       refine thenQ_n ⟨(n0, v170, x216), (fun i => i), ⟨(.sames rfl rfl), (.cons (EntW.lst rfl) .nil), nd_of [1000] rfl (by decide), fun _ _ => rfl⟩, ?_, ?_⟩
       exact h
       exact Nat.lt_succ_self _
   ·
    replace h := bif_f h hc147
    refine iwp_exit ?_
    refine thenQ_e ?_
    refine thenQ_e ?_
    refine blockQ_e ?_
    obtain rfl := Option.some.inj h
    refine ⟨.inl rfl, (fun i => i), ⟨.nil, (.cons (EntW.lst rfl) .nil), nd_of [1000] rfl (by decide), fun _ _ => rfl⟩, .nil, rfl⟩

theorem p_slices_siftDownOrdered_int_h (a0 : Int) (a1 : Int) (a2 : Int) (a3 : (List Int)) (r : (List Int)) (h : slices_siftDownOrdered_int_h a0 a1 a2 a3 = some r) : FnH Try.prog 93 (w17 (.osl 1000 (eInt .i64).sz a3.length) a0 a1 a2) [(1000, .blk 3 (D.flat (a3.map (eInt .i64).d)))] (retD []) [(1000, .blk 3 (D.flat (r.map (eInt .i64).d)))] := by
 refine fnh_of_iwp (rs := []) Try.func93 rfl Try.ntmps93 (nle rfl) fun O hO => ?_
 show IWP _ _ _ _ ⟨[(0, .osl 1000 (eInt .i64).sz a3.length), (1, .int .i64 a0), (2, .int .i64 a1), (3, .int .i64 a2)], [(1000, .blk 3 (D.flat (a3.map (eInt .i64).d)))]⟩ _
 unfold slices_siftDownOrdered_int_h at h
 refine iwp_reg (ils_cons rfl (mvI rfl rfl rfl rfl) <|
  ils_cons rfl (asI rfl rfl rfl rfl) <|
  ils_end ?_)
 refine iwp_block ?_
 refine iwp_loopP (α := Nat × (List Int) × Int) (fun z => ⟨[(0, .osl 1000 (eInt .i64).sz z.2.1.length), (2, .int .i64 a1), (3, .int .i64 a2), (8, .int .i64 z.2.2)], [(1000, .blk 3 (D.flat (z.2.1.map (eInt .i64).d)))]⟩) (fun z => slices_siftDownOrdered_int_h_L0 a1 a2 z.1 z.2.1 z.2.2 = some r) (fun z => z.1) (fuel, a3, a0) (fun i => i) ⟨(.sames rfl rfl), (.cons (EntW.lst rfl) .nil), nd_of [1000] rfl (by decide), fun _ _ => rfl⟩ ?_ ?_
 ·exact h
 ·
  rintro ⟨n0, v54, v55⟩ h
  cases n0 with
  | zero => exact absurd h (by unfold slices_siftDownOrdered_int_h_L0; exact nofun)
  | succ n0 =>
   unfold slices_siftDownOrdered_int_h_L0 at h
   refine iwp_block ?_
   obtain ⟨x109, hx109, h⟩ := bnd_e h
   obtain ⟨x110, hx110, h⟩ := bnd_e h
   refine iwp_reg (ils_cons rfl (mvI rfl rfl rfl rfl) <|
    ils_cons rfl (iop_intx rfl rfl (lb rfl) (sv (d := .int _ 2) rfl) (svI rfl) rfl hx109) <|
    ils_cons rfl (iop_intx rfl rfl (lb rfl) (svI rfl) (sv (d := .int _ 1) rfl) rfl hx110) <|
    ils_cons rfl (asI rfl rfl rfl rfl) <|
    ils_end ?_)
   refine iwp_seq ?_
   obtain ⟨x111, hx111, h⟩ := bnd_e h
   refine iwp_reg (ils_cons rfl (mvI rfl rfl rfl rfl) <|
    ils_cons rfl (mvI rfl rfl rfl rfl) <|
    ils_cons rfl (iop_cmpx rfl rfl (lb rfl) (svI rfl) (svI rfl) rfl hx111) <|
    ils_end ?_)
   refine iwp_cond (b := _) rfl (fun hc112 => ?_) (fun hc112 => ?_)
   ·
    replace h := bif_t h hc112
    refine iwp_exit ?_
    refine thenQ_e ?_
    refine blockQ_x rfl ?_
    refine thenQ_e ?_
    refine blockQ_e ?_
    obtain rfl := Option.some.inj h
    refine ⟨.inl rfl, (fun i => i), ⟨.nil, (.cons (EntW.lst rfl) .nil), nd_of [1000] rfl (by decide), fun _ _ => rfl⟩, .nil, rfl⟩
   ·
    replace h := bif_f h hc112
    refine iwp_skip ?_
    refine thenQ_n ?_
    refine iwp_join (α := Int) (fun z => ⟨[(0, .osl 1000 (eInt .i64).sz v54.length), (2, .int .i64 a1), (3, .int .i64 a2), (8, .int .i64 v55), (9, .int .i64 z)], [(1000, .blk 3 (D.flat (v54.map (eInt .i64).d)))]⟩) (fun z => slices_siftDownOrdered_int_h_J1 a2 v54 v55 (slices_siftDownOrdered_int_h_L0 a1 a2 n0) z = some r) ?_ ?_
    ·
     obtain ⟨x149, hx149, h⟩ := bnd_e h
     obtain ⟨x150, hx150, h⟩ := bnd_e h
     obtain ⟨x151, hx151, h⟩ := bnd_e h
     obtain ⟨x152, hx152, h⟩ := bno_e h
     obtain ⟨x153, hx153, h⟩ := bno_e h
     obtain ⟨x154, hx154, h⟩ := bnd_e h
     obtain ⟨x155, hx155, h⟩ := bnd_e h
     obtain ⟨x156, hx156, h⟩ := bno_e h
     obtain ⟨x157, hx157, h⟩ := bno_e h
     obtain ⟨x158, hx158, h⟩ := bno_e h
     obtain ⟨x159, hx159, h⟩ := bnd_e h
     refine iwp_drw rfl [⟨[9], [], [(17, .int .i64 x110)], []⟩,
      ⟨[17], [], [(18, .int .i64 x149)], []⟩,
      ⟨[2], [], [(19, .int .i64 a1)], []⟩,
      ⟨[18, 19], [], [(20, .bool x150)], []⟩,
      ⟨[20], [], [(21, .bool x150)], []⟩,
      ⟨[0, 21], [], [(22, .cnd (x150 == true) (.osl 1000 (eInt .i64).sz v54.length))], []⟩,
      ⟨[3, 21], [], [(23, .cnd (x150 == true) (.int .i64 a2))], []⟩,
      ⟨[9, 21], [], [(24, .cnd (x150 == true) (.int .i64 x110))], []⟩,
      ⟨[21, 23, 24], [], [(25, .cnd (x150 == true) (.int .i64 x151))], []⟩,
      ⟨[21, 22, 25], [], [(26, .cnd (x150 == true) (.ref 1000 (((x151 : Int).toNat) * (eInt .i64).sz + 0)))], []⟩,
      ⟨[21, 26], [1000], [(27, .cnd (x150 == true) (.int .i64 x153))], []⟩,
      ⟨[0, 21], [], [(28, .cnd (x150 == true) (.osl 1000 (eInt .i64).sz v54.length))], []⟩,
      ⟨[3, 21], [], [(29, .cnd (x150 == true) (.int .i64 a2))], []⟩,
      ⟨[9, 21], [], [(30, .cnd (x150 == true) (.int .i64 x110))], []⟩,
      ⟨[21, 29, 30], [], [(31, .cnd (x150 == true) (.int .i64 x154))], []⟩,
      ⟨[21, 31], [], [(32, .cnd (x150 == true) (.int .i64 x155))], []⟩,
      ⟨[21, 28, 32], [], [(33, .cnd (x150 == true) (.ref 1000 (((x155 : Int).toNat) * (eInt .i64).sz + 0)))], []⟩,
      ⟨[21, 33], [1000], [(34, .cnd (x150 == true) (.int .i64 x157))], []⟩,
      ⟨[21, 27, 34], [], [(35, .cnd (x150 == true) (.bool x158))], []⟩,
      ⟨[21, 35], [], [(36, .bool x159)], []⟩] rfl ?_ (by kernel_rfl) ?_
     ·refine .cons (lop rfl rfl fun S hA => (iop_move rfl rfl (lb rfl) (svaI hA rfl rfl))) ?_
      refine .cons (lop rfl rfl fun S hA => (iop_intx rfl rfl (lb rfl) (svaI hA rfl rfl) (sv (d := .int _ 1) rfl) rfl hx149)) ?_
      refine .cons (lop rfl rfl fun S hA => (iop_move rfl rfl (lb rfl) (svaI hA rfl rfl))) ?_
      refine .cons (lop rfl rfl fun S hA => (iop_cmpx rfl rfl (lb rfl) (svaI hA rfl rfl) (svaI hA rfl rfl) rfl hx150)) ?_
      refine .cons (lop rfl rfl fun S hA => (iop_move rfl rfl (lb rfl) (svaB hA rfl rfl))) ?_
      refine .cons (lopg rfl rfl rfl rfl (by decide) (fun S hA => grd1 hA rfl rfl) (fun S hA hb => (iop_move rfl rfl (lb rfl) (sv (d := .osl _ _ _) (agr hA rfl rfl))))) ?_
      refine .cons (lopg rfl rfl rfl rfl (by decide) (fun S hA => grd1 hA rfl rfl) (fun S hA hb => (iop_move rfl rfl (lb rfl) (svaI hA rfl rfl)))) ?_
      refine .cons (lopg rfl rfl rfl rfl (by decide) (fun S hA => grd1 hA rfl rfl) (fun S hA hb => (iop_move rfl rfl (lb rfl) (svaI hA rfl rfl)))) ?_
      refine .cons (lopg rfl rfl rfl rfl (by decide) (fun S hA => grd1 hA rfl rfl) (fun S hA hb => (iop_intx rfl rfl (lb rfl) (svc (d := .int _ _) (agr hA rfl rfl) hb) (svc (d := .int _ _) (agr hA rfl rfl) hb) rfl hx151))) ?_
      refine .cons (lopg rfl rfl rfl rfl (by decide) (fun S hA => grd1 hA rfl rfl) (fun S hA hb => (iop_idxO (eInt .i64).toEnc0 rfl rfl (lb rfl) Try.underlying23 ti3 (svc (d := .osl _ _ _) (agr hA rfl rfl) hb) rfl (svc (d := .int _ _) (agr hA rfl rfl) hb) (gd_t hx152 hb)))) ?_
      refine .cons (lopg rfl rfl rfl rfl (by decide) (fun S hA => grd1 hA rfl rfl) (fun S hA hb => (iop_loadEs (eInt .i64).toEnc0 (d := .int _ _) rfl rfl (lb rfl) Try.underlying3 ag3 ti3 (by decide) (svc (d := .ref _ _) (agr hA rfl rfl) hb) (agi hA rfl rfl) (gd_t hx153 hb) (nle rfl) rfl))) ?_
      refine .cons (lopg rfl rfl rfl rfl (by decide) (fun S hA => grd1 hA rfl rfl) (fun S hA hb => (iop_move rfl rfl (lb rfl) (sv (d := .osl _ _ _) (agr hA rfl rfl))))) ?_
      refine .cons (lopg rfl rfl rfl rfl (by decide) (fun S hA => grd1 hA rfl rfl) (fun S hA hb => (iop_move rfl rfl (lb rfl) (svaI hA rfl rfl)))) ?_
      refine .cons (lopg rfl rfl rfl rfl (by decide) (fun S hA => grd1 hA rfl rfl) (fun S hA hb => (iop_move rfl rfl (lb rfl) (svaI hA rfl rfl)))) ?_
      refine .cons (lopg rfl rfl rfl rfl (by decide) (fun S hA => grd1 hA rfl rfl) (fun S hA hb => (iop_intx rfl rfl (lb rfl) (svc (d := .int _ _) (agr hA rfl rfl) hb) (svc (d := .int _ _) (agr hA rfl rfl) hb) rfl hx154))) ?_
      refine .cons (lopg rfl rfl rfl rfl (by decide) (fun S hA => grd1 hA rfl rfl) (fun S hA hb => (iop_intx rfl rfl (lb rfl) (svc (d := .int _ _) (agr hA rfl rfl) hb) (sv (d := .int _ 1) rfl) rfl hx155))) ?_
      refine .cons (lopg rfl rfl rfl rfl (by decide) (fun S hA => grd1 hA rfl rfl) (fun S hA hb => (iop_idxO (eInt .i64).toEnc0 rfl rfl (lb rfl) Try.underlying23 ti3 (svc (d := .osl _ _ _) (agr hA rfl rfl) hb) rfl (svc (d := .int _ _) (agr hA rfl rfl) hb) (gd_t hx156 hb)))) ?_
      refine .cons (lopg rfl rfl rfl rfl (by decide) (fun S hA => grd1 hA rfl rfl) (fun S hA hb => (iop_loadEs (eInt .i64).toEnc0 (d := .int _ _) rfl rfl (lb rfl) Try.underlying3 ag3 ti3 (by decide) (svc (d := .ref _ _) (agr hA rfl rfl) hb) (agi hA rfl rfl) (gd_t hx157 hb) (nle rfl) rfl))) ?_
      refine .cons (lopg rfl rfl rfl rfl (by decide) (fun S hA => grd1 hA rfl rfl) (fun S hA hb => (iop_call (r := .bool _) rfl rfl (lb rfl) cl87 (.cons (svc (d := .int _ _) (agr hA rfl rfl) hb) (.cons (svc (d := .int _ _) (agr hA rfl rfl) hb) .nil)) rfl (p_cmp_Less_int _ _ _ (gd_t hx158 hb))))) ?_
      refine .cons (lop rfl rfl fun S hA => (iop_andx rfl rfl (lb rfl) (svaB hA rfl rfl) (agr hA rfl rfl) rfl hx159)) ?_
      exact .nil
     refine iwp_cond (b := _) rfl (fun hc160 => ?_) (fun hc160 => ?_)
     ·
      replace h := bif_t h hc160
      obtain ⟨x161, hx161, h⟩ := bnd_e h
      refine iwp_region (ils_cons rfl (mvI rfl rfl rfl rfl) <|
       ils_cons rfl (iop_intx rfl rfl (lb rfl) (svI rfl) (sv (d := .int _ 1) rfl) rfl hx161) <|
       ils_cons rfl (asI rfl rfl rfl rfl) <|
       ils_nil ?_)
      refine thenQ_n ⟨x161, (fun i => i), ⟨(.sames rfl rfl), (.cons (EntW.lst rfl) .nil), nd_of [1000] rfl (by decide), fun _ _ => rfl⟩, ?_⟩
      exact h
     ·
      replace h := bif_f h hc160
      refine iwp_skip ?_
      refine thenQ_n ⟨x110, (fun i => i), ⟨(.sames rfl rfl), (.cons (EntW.lst rfl) .nil), nd_of [1000] rfl (by decide), fun _ _ => rfl⟩, ?_⟩
      exact h
    ·
     rintro v126 h
     unfold slices_siftDownOrdered_int_h_J1 at h
     refine iwp_seq ?_
     obtain ⟨x127, hx127, h⟩ := bnd_e h
     obtain ⟨x128, hx128, h⟩ := bno_e h
     obtain ⟨x129, hx129, h⟩ := bno_e h
     obtain ⟨x130, hx130, h⟩ := bnd_e h
     obtain ⟨x131, hx131, h⟩ := bno_e h
     obtain ⟨x132, hx132, h⟩ := bno_e h
     obtain ⟨x133, hx133, h⟩ := bno_e h
     refine iwp_drw rfl [⟨[0], [], [(39, .osl 1000 (eInt .i64).sz v54.length)], []⟩,
      ⟨[3], [], [(40, .int .i64 a2)], []⟩,
      ⟨[8], [], [(41, .int .i64 v55)], []⟩,
      ⟨[40, 41], [], [(42, .int .i64 x127)], []⟩,
      ⟨[39, 42], [], [(43, .ref 1000 (((x127 : Int).toNat) * (eInt .i64).sz + 0))], []⟩,
      ⟨[43], [1000], [(44, .int .i64 x129)], []⟩,
      ⟨[0], [], [(45, .osl 1000 (eInt .i64).sz v54.length)], []⟩,
      ⟨[3], [], [(46, .int .i64 a2)], []⟩,
      ⟨[9], [], [(47, .int .i64 v126)], []⟩,
      ⟨[46, 47], [], [(48, .int .i64 x130)], []⟩,
      ⟨[45, 48], [], [(49, .ref 1000 (((x130 : Int).toNat) * (eInt .i64).sz + 0))], []⟩,
      ⟨[49], [1000], [(50, .int .i64 x132)], []⟩,
      ⟨[44, 50], [], [(51, .bool x133)], []⟩,
      ⟨[51], [], [(52, .bool (!x133))], []⟩] rfl ?_ (by kernel_rfl) ?_
     ·refine .cons (lop rfl rfl fun S hA => (iop_move rfl rfl (lb rfl) (sv (d := .osl _ _ _) (agr hA rfl rfl)))) ?_
      refine .cons (lop rfl rfl fun S hA => (iop_move rfl rfl (lb rfl) (svaI hA rfl rfl))) ?_
      refine .cons (lop rfl rfl fun S hA => (iop_move rfl rfl (lb rfl) (svaI hA rfl rfl))) ?_
      refine .cons (lop rfl rfl fun S hA => (iop_intx rfl rfl (lb rfl) (svaI hA rfl rfl) (svaI hA rfl rfl) rfl hx127)) ?_
      refine .cons (lop rfl rfl fun S hA => (iop_idxO (eInt .i64).toEnc0 rfl rfl (lb rfl) Try.underlying23 ti3 (sv (d := .osl _ _ _) (agr hA rfl rfl)) rfl (svaI hA rfl rfl) hx128)) ?_
      refine .cons (lop rfl rfl fun S hA => (iop_loadEs (eInt .i64).toEnc0 (d := .int _ _) rfl rfl (lb rfl) Try.underlying3 ag3 ti3 (by decide) (svaR hA rfl rfl) (agi hA rfl rfl) hx129 (nle rfl) rfl)) ?_
      refine .cons (lop rfl rfl fun S hA => (iop_move rfl rfl (lb rfl) (sv (d := .osl _ _ _) (agr hA rfl rfl)))) ?_
      refine .cons (lop rfl rfl fun S hA => (iop_move rfl rfl (lb rfl) (svaI hA rfl rfl))) ?_
      refine .cons (lop rfl rfl fun S hA => (iop_move rfl rfl (lb rfl) (svaI hA rfl rfl))) ?_
      refine .cons (lop rfl rfl fun S hA => (iop_intx rfl rfl (lb rfl) (svaI hA rfl rfl) (svaI hA rfl rfl) rfl hx130)) ?_
      refine .cons (lop rfl rfl fun S hA => (iop_idxO (eInt .i64).toEnc0 rfl rfl (lb rfl) Try.underlying23 ti3 (sv (d := .osl _ _ _) (agr hA rfl rfl)) rfl (svaI hA rfl rfl) hx131)) ?_
      refine .cons (lop rfl rfl fun S hA => (iop_loadEs (eInt .i64).toEnc0 (d := .int _ _) rfl rfl (lb rfl) Try.underlying3 ag3 ti3 (by decide) (svaR hA rfl rfl) (agi hA rfl rfl) hx132 (nle rfl) rfl)) ?_
      refine .cons (lop rfl rfl fun S hA => (iop_call (r := .bool _) rfl rfl (lb rfl) cl87 (.cons (svaI hA rfl rfl) (.cons (svaI hA rfl rfl) .nil)) rfl (p_cmp_Less_int _ _ _ hx133))) ?_
      refine .cons (lop rfl rfl fun S hA => (iop_not rfl rfl (lb rfl) (svaB hA rfl rfl))) ?_
      exact .nil
     refine iwp_cond (b := _) rfl (fun hc134 => ?_) (fun hc134 => ?_)
     ·
      replace h := bif_t h hc134
      refine iwp_ret ?_
      refine thenQ_r ?_
      refine blockQ_r ?_
      refine thenQ_r ?_
      refine blockQ_r ?_
      obtain rfl := Option.some.inj h
      refine ⟨.inr rfl, (fun i => i), ⟨.nil, (.cons (EntW.lst rfl) .nil), nd_of [1000] rfl (by decide), fun _ _ => rfl⟩, .nil, rfl⟩
     ·
      replace h := bif_f h hc134
      refine iwp_skip ?_
      refine thenQ_n ?_
      obtain ⟨x135, hx135, h⟩ := bnd_e h
      obtain ⟨x136, hx136, h⟩ := bnd_e h
      obtain ⟨x137, hx137, h⟩ := bnd_e h
      obtain ⟨x138, hx138, h⟩ := bno_e h
      obtain ⟨x139, hx139, h⟩ := bno_e h
      obtain ⟨x140, hx140, h⟩ := bnd_e h
      obtain ⟨x141, hx141, h⟩ := bno_e h
      obtain ⟨x142, hx142, h⟩ := bno_e h
      obtain ⟨x143, hx143, h⟩ := bno_e h
      obtain ⟨x144, hx144, h⟩ := bno_e h
      obtain ⟨x145, hx145, h⟩ := bnd_e h
      obtain ⟨x146, hx146, h⟩ := bno_e h
      obtain ⟨x147, hx147, h⟩ := bno_e h
      obtain ⟨x148, hx148, h⟩ := bnd_e h
      refine iwp_drw rfl [⟨[0], [], [(53, .osl 1000 (eInt .i64).sz v54.length)], []⟩,
       ⟨[3], [], [(54, .int .i64 a2)], []⟩,
       ⟨[8], [], [(55, .int .i64 v55)], []⟩,
       ⟨[54, 55], [], [(56, .int .i64 x135)], []⟩,
       ⟨[0], [], [(57, .osl 1000 (eInt .i64).sz v54.length)], []⟩,
       ⟨[3], [], [(58, .int .i64 a2)], []⟩,
       ⟨[9], [], [(59, .int .i64 v126)], []⟩,
       ⟨[58, 59], [], [(60, .int .i64 x136)], []⟩,
       ⟨[0], [], [(61, .osl 1000 (eInt .i64).sz v54.length)], []⟩,
       ⟨[3], [], [(62, .int .i64 a2)], []⟩,
       ⟨[9], [], [(63, .int .i64 v126)], []⟩,
       ⟨[62, 63], [], [(64, .int .i64 x137)], []⟩,
       ⟨[61, 64], [], [(65, .ref 1000 (((x137 : Int).toNat) * (eInt .i64).sz + 0))], []⟩,
       ⟨[65], [1000], [(66, .int .i64 x139)], []⟩,
       ⟨[0], [], [(67, .osl 1000 (eInt .i64).sz v54.length)], []⟩,
       ⟨[3], [], [(68, .int .i64 a2)], []⟩,
       ⟨[8], [], [(69, .int .i64 v55)], []⟩,
       ⟨[68, 69], [], [(70, .int .i64 x140)], []⟩,
       ⟨[67, 70], [], [(71, .ref 1000 (((x140 : Int).toNat) * (eInt .i64).sz + 0))], []⟩,
       ⟨[71], [1000], [(72, .int .i64 x142)], []⟩,
       ⟨[53, 56], [], [(73, .ref 1000 (((x135 : Int).toNat) * (eInt .i64).sz + 0))], []⟩,
       ⟨[66, 73], [1000], [], [(1000, .blk 3 (D.flat (x145.map (eInt .i64).d)))]⟩,
       ⟨[57, 60], [], [(74, .ref 1000 (((x136 : Int).toNat) * (eInt .i64).sz + 0))], []⟩,
       ⟨[72, 74], [1000], [], [(1000, .blk 3 (D.flat (x148.map (eInt .i64).d)))]⟩] rfl ?_ (by kernel_rfl) ?_
      ·refine .cons (lop rfl rfl fun S hA => (iop_move rfl rfl (lb rfl) (sv (d := .osl _ _ _) (agr hA rfl rfl)))) ?_
       refine .cons (lop rfl rfl fun S hA => (iop_move rfl rfl (lb rfl) (svaI hA rfl rfl))) ?_
       refine .cons (lop rfl rfl fun S hA => (iop_move rfl rfl (lb rfl) (svaI hA rfl rfl))) ?_
       refine .cons (lop rfl rfl fun S hA => (iop_intx rfl rfl (lb rfl) (svaI hA rfl rfl) (svaI hA rfl rfl) rfl hx135)) ?_
       refine .cons (lop rfl rfl fun S hA => (iop_move rfl rfl (lb rfl) (sv (d := .osl _ _ _) (agr hA rfl rfl)))) ?_
       refine .cons (lop rfl rfl fun S hA => (iop_move rfl rfl (lb rfl) (svaI hA rfl rfl))) ?_
       refine .cons (lop rfl rfl fun S hA => (iop_move rfl rfl (lb rfl) (svaI hA rfl rfl))) ?_
       refine .cons (lop rfl rfl fun S hA => (iop_intx rfl rfl (lb rfl) (svaI hA rfl rfl) (svaI hA rfl rfl) rfl hx136)) ?_
       refine .cons (lop rfl rfl fun S hA => (iop_move rfl rfl (lb rfl) (sv (d := .osl _ _ _) (agr hA rfl rfl)))) ?_
       refine .cons (lop rfl rfl fun S hA => (iop_move rfl rfl (lb rfl) (svaI hA rfl rfl))) ?_
       refine .cons (lop rfl rfl fun S hA => (iop_move rfl rfl (lb rfl) (svaI hA rfl rfl))) ?_
       refine .cons (lop rfl rfl fun S hA => (iop_intx rfl rfl (lb rfl) (svaI hA rfl rfl) (svaI hA rfl rfl) rfl hx137)) ?_
       refine .cons (lop rfl rfl fun S hA => (iop_idxO (eInt .i64).toEnc0 rfl rfl (lb rfl) Try.underlying23 ti3 (sv (d := .osl _ _ _) (agr hA rfl rfl)) rfl (svaI hA rfl rfl) hx138)) ?_
       refine .cons (lop rfl rfl fun S hA => (iop_loadEs (eInt .i64).toEnc0 (d := .int _ _) rfl rfl (lb rfl) Try.underlying3 ag3 ti3 (by decide) (svaR hA rfl rfl) (agi hA rfl rfl) hx139 (nle rfl) rfl)) ?_
       refine .cons (lop rfl rfl fun S hA => (iop_move rfl rfl (lb rfl) (sv (d := .osl _ _ _) (agr hA rfl rfl)))) ?_
       refine .cons (lop rfl rfl fun S hA => (iop_move rfl rfl (lb rfl) (svaI hA rfl rfl))) ?_
       refine .cons (lop rfl rfl fun S hA => (iop_move rfl rfl (lb rfl) (svaI hA rfl rfl))) ?_
       refine .cons (lop rfl rfl fun S hA => (iop_intx rfl rfl (lb rfl) (svaI hA rfl rfl) (svaI hA rfl rfl) rfl hx140)) ?_
       refine .cons (lop rfl rfl fun S hA => (iop_idxO (eInt .i64).toEnc0 rfl rfl (lb rfl) Try.underlying23 ti3 (sv (d := .osl _ _ _) (agr hA rfl rfl)) rfl (svaI hA rfl rfl) hx141)) ?_
       refine .cons (lop rfl rfl fun S hA => (iop_loadEs (eInt .i64).toEnc0 (d := .int _ _) rfl rfl (lb rfl) Try.underlying3 ag3 ti3 (by decide) (svaR hA rfl rfl) (agi hA rfl rfl) hx142 (nle rfl) rfl)) ?_
       refine .cons (lop rfl rfl fun S hA => (iop_idxO (eInt .i64).toEnc0 rfl rfl (lb rfl) Try.underlying23 ti3 (sv (d := .osl _ _ _) (agr hA rfl rfl)) rfl (svaI hA rfl rfl) hx143)) ?_
       refine .cons (lop rfl rfl fun S hA => (iop_storeE (eInt .i64).toEnc0 (a' := x139) rfl rfl ti3 (svaR hA rfl rfl) (agi hA rfl rfl) (svaI hA rfl rfl) rfl rfl rfl hx144 (nle rfl) rfl hx145)) ?_
       refine .cons (lop rfl rfl fun S hA => (iop_idxO (eInt .i64).toEnc0 rfl rfl (lb rfl) Try.underlying23 ti3 (sv (d := .osl _ _ _) (agr hA rfl rfl)) (len_set hx145 rfl) (svaI hA rfl rfl) hx146)) ?_
       refine .cons (lop rfl rfl fun S hA => (iop_storeE (eInt .i64).toEnc0 (a' := x142) rfl rfl ti3 (svaR hA rfl rfl) (agi hA rfl rfl) (svaI hA rfl rfl) rfl rfl rfl hx147 (nle rfl) rfl hx148)) ?_
       exact .nil
      refine iwp_region (ils_cons rfl (mvI rfl rfl rfl rfl) <|
       ils_cons rfl (asI rfl rfl rfl rfl) <|
       ils_nil ?_)
      refine blockQ_n ?_
      refine thenQ_n ⟨(n0, x148, v126), (fun i => i), ⟨(.cons (.same (congrArg (D.osl _ _) (len_set hx148 (len_set hx145 rfl)).symm) rfl) (.sames rfl rfl)), (.cons (EntW.lst rfl) .nil), nd_of [1000] rfl (by decide), fun _ _ => rfl⟩, ?_, ?_⟩
      exact h
      exact Nat.lt_succ_self _

theorem p_slices_heapSortOrdered_int_h (a0 : Int) (a1 : Int) (a2 : (List Int)) (r : (List Int)) (h : slices_heapSortOrdered_int_h a0 a1 a2 = some r) : FnH Try.prog 82 [.osl 1000 (eInt .i64).sz a2.length, .int .i64 a0, .int .i64 a1] [(1000, .blk 3 (D.flat (a2.map (eInt .i64).d)))] (retD []) [(1000, .blk 3 (D.flat (r.map (eInt .i64).d)))] := by
 refine fnh_of_iwp (rs := []) Try.func82 rfl Try.ntmps82 (nle rfl) fun O hO => ?_
 show IWP _ _ _ _ ⟨[(0, .osl 1000 (eInt .i64).sz a2.length), (1, .int .i64 a0), (2, .int .i64 a1)], [(1000, .blk 3 (D.flat (a2.map (eInt .i64).d)))]⟩ _
 unfold slices_heapSortOrdered_int_h at h
 refine iwp_reg (ils_cons rfl (mvI rfl rfl rfl rfl) <|
  ils_cons rfl (asI rfl rfl rfl rfl) <|
  ils_end ?_)
 refine iwp_reg (ils_cons rfl (iop_assign rfl rfl (lb rfl) (sv (d := .int _ 0) rfl)) <|
  ils_end ?_)
 obtain ⟨x1, hx1, h⟩ := bnd_e h
 refine iwp_reg (ils_cons rfl (mvI rfl rfl rfl rfl) <|
  ils_cons rfl (mvI rfl rfl rfl rfl) <|
  ils_cons rfl (iop_intx rfl rfl (lb rfl) (svI rfl) (svI rfl) rfl hx1) <|
  ils_cons rfl (asI rfl rfl rfl rfl) <|
  ils_end ?_)
 refine iwp_seq ?_
 obtain ⟨x2, hx2, h⟩ := bnd_e h
 obtain ⟨x3, hx3, h⟩ := bno_e h
 refine iwp_reg (ils_cons rfl (mvI rfl rfl rfl rfl) <|
  ils_cons rfl (iop_intx rfl rfl (lb rfl) (svI rfl) (sv (d := .int _ 1) rfl) rfl hx2) <|
  ils_cons rfl (iop_quox rfl rfl (lb rfl) (svI rfl) (sv (d := .int _ 2) rfl) hx3) <|
  ils_cons rfl (asI rfl rfl rfl rfl) <|
  ils_end ?_)
 refine iwp_block ?_
 refine iwp_loopP (α := Nat × (List Int) × Int) (fun z => ⟨[(0, .osl 1000 (eInt .i64).sz z.2.1.length), (6, .int .i64 a0), (7, .int .i64 0), (8, .int .i64 x1), (9, .int .i64 z.2.2)], [(1000, .blk 3 (D.flat (z.2.1.map (eInt .i64).d)))]⟩) (fun z => slices_heapSortOrdered_int_h_L0 a0 x1 z.1 z.2.1 z.2.2 = some r) (fun z => z.1) (fuel, a2, x3) (fun i => i) ⟨(.sames rfl rfl), (.cons (EntW.lst rfl) .nil), nd_of [1000] rfl (by decide), fun _ _ => rfl⟩ ?_ ?_
 ·exact h
 ·
  rintro ⟨n0, v9, v10⟩ h
  cases n0 with
  | zero => exact absurd h (by unfold slices_heapSortOrdered_int_h_L0; exact nofun)
  | succ n0 =>
   unfold slices_heapSortOrdered_int_h_L0 at h
   refine iwp_seq ?_
   obtain ⟨x16, hx16, h⟩ := bnd_e h
   refine iwp_reg (ils_cons rfl (mvI rfl rfl rfl rfl) <|
    ils_cons rfl (iop_cmpx rfl rfl (lb rfl) (svI rfl) (sv (d := .int _ 0) rfl) rfl hx16) <|
    ils_end ?_)
   refine iwp_cond (b := _) rfl (fun hc17 => ?_) (fun hc17 => ?_)
   ·
    replace h := bif_t h hc17
    refine iwp_skip ?_
    refine thenQ_n ?_
    refine iwp_seq ?_
    refine iwp_block ?_
    obtain ⟨x18, hx18, h⟩ := bno_e h
    obtain ⟨hk19, h⟩ := chk_e h
    refine iwp_region (ils_cons rfl (iop_move rfl rfl (lb rfl) (sv (d := .osl _ _ _) rfl)) <|
     ils_cons rfl (mvI rfl rfl rfl rfl) <|
     ils_cons rfl (mvI rfl rfl rfl rfl) <|
     ils_cons rfl (mvI rfl rfl rfl rfl) <|
     ils_cons rfl (iop_callh2 (r' := .tuple []) (H1' := [(1000, .blk 3 (D.flat (x18.map (eInt .i64).d)))]) 0 [1000] rfl rfl (lb rfl) cl93 (.cons (sv (d := .osl _ _ _) rfl) (.cons (svI rfl) (.cons (svI rfl) (.cons (svI rfl) .nil)))) rfl rfl ⟨rfl, rfl, by decide, rfl, List.forall_mem_cons.2 ⟨⟨rfl, rfl, (handL (eInt .i64) rfl), (handLr (eInt .i64))⟩, List.forall_mem_nil _⟩⟩ (p_slices_siftDownOrdered_int_h _ _ _ _ _ hx18) rfl rfl (List.forall_mem_cons.2 ⟨⟨rfl, (handLr (eInt .i64))⟩, List.forall_mem_nil _⟩) (by simp only [List.map_cons, List.map_nil, Ent.ren, renL_flat, renL_ref]; rfl)) <|
     ils_nil ?_)
    refine blockQ_n ?_
    refine thenQ_n ?_
    obtain ⟨x20, hx20, h⟩ := bnd_e h
    refine iwp_region (ils_cons rfl (mvI rfl rfl rfl rfl) <|
     ils_cons rfl (iop_intx rfl rfl (lb rfl) (svI rfl) (sv (d := .int _ 1) rfl) rfl hx20) <|
     ils_cons rfl (asI rfl rfl rfl rfl) <|
     ils_nil ?_)
    refine thenQ_n ⟨(n0, x18, x20), (fun i => i), ⟨(.cons (.same (congrArg (D.osl _ _) hk19.symm) rfl) (.sames rfl rfl)), (.cons (EntW.lst rfl) .nil), nd_of [1000] rfl (by decide), fun _ _ => rfl⟩, ?_, ?_⟩
    exact h
    exact Nat.lt_succ_self _
   ·
    replace h := bif_f h hc17
    refine iwp_exit ?_
    refine thenQ_e ?_
    refine thenQ_e ?_
    refine blockQ_e ?_
    refine thenQ_n ?_
    obtain ⟨x21, hx21, h⟩ := bnd_e h
    refine iwp_reg (ils_cons rfl (mvI rfl rfl rfl rfl) <|
     ils_cons rfl (iop_intx rfl rfl (lb rfl) (svI rfl) (sv (d := .int _ 1) rfl) rfl hx21) <|
     ils_cons rfl (asI rfl rfl rfl rfl) <|
     ils_end ?_)
    refine iwp_block ?_
    refine iwp_loopP (α := Nat × (List Int) × Int) (fun z => ⟨[(0, .osl 1000 (eInt .i64).sz z.2.1.length), (6, .int .i64 a0), (7, .int .i64 0), (10, .int .i64 z.2.2)], [(1000, .blk 3 (D.flat (z.2.1.map (eInt .i64).d)))]⟩) (fun z => slices_heapSortOrdered_int_h_L1 a0 z.1 z.2.1 z.2.2 = some r) (fun z => z.1) (fuel, v9, x21) (fun i => i) ⟨(.sames rfl rfl), (.cons (EntW.lst rfl) .nil), nd_of [1000] rfl (by decide), fun _ _ => rfl⟩ ?_ ?_
    ·exact h
    ·
     rintro ⟨n1, v39, v40⟩ h
     cases n1 with
     | zero => exact absurd h (by unfold slices_heapSortOrdered_int_h_L1; exact nofun)
     | succ n1 =>
      unfold slices_heapSortOrdered_int_h_L1 at h
      refine iwp_seq ?_
      obtain ⟨x58, hx58, h⟩ := bnd_e h
      refine iwp_reg (ils_cons rfl (mvI rfl rfl rfl rfl) <|
       ils_cons rfl (iop_cmpx rfl rfl (lb rfl) (svI rfl) (sv (d := .int _ 0) rfl) rfl hx58) <|
       ils_end ?_)
      refine iwp_cond (b := _) rfl (fun hc59 => ?_) (fun hc59 => ?_)
      ·
       replace h := bif_t h hc59
       refine iwp_skip ?_
       refine thenQ_n ?_
       refine iwp_seq ?_
       refine iwp_block ?_
       obtain ⟨x60, hx60, h⟩ := bnd_e h
       obtain ⟨x61, hx61, h⟩ := bnd_e h
       obtain ⟨x62, hx62, h⟩ := bno_e h
       obtain ⟨x63, hx63, h⟩ := bno_e h
       obtain ⟨x64, hx64, h⟩ := bno_e h
       obtain ⟨x65, hx65, h⟩ := bno_e h
       obtain ⟨x66, hx66, h⟩ := bno_e h
       obtain ⟨x67, hx67, h⟩ := bno_e h
       obtain ⟨x68, hx68, h⟩ := bnd_e h
       obtain ⟨x69, hx69, h⟩ := bno_e h
       obtain ⟨x70, hx70, h⟩ := bno_e h
       obtain ⟨x71, hx71, h⟩ := bnd_e h
       refine iwp_drw rfl [⟨[0], [], [(33, .osl 1000 (eInt .i64).sz v39.length)], []⟩,
        ⟨[6], [], [(34, .int .i64 a0)], []⟩,
        ⟨[0], [], [(35, .osl 1000 (eInt .i64).sz v39.length)], []⟩,
        ⟨[6], [], [(36, .int .i64 a0)], []⟩,
        ⟨[10], [], [(37, .int .i64 v40)], []⟩,
        ⟨[36, 37], [], [(38, .int .i64 x60)], []⟩,
        ⟨[0], [], [(39, .osl 1000 (eInt .i64).sz v39.length)], []⟩,
        ⟨[6], [], [(40, .int .i64 a0)], []⟩,
        ⟨[10], [], [(41, .int .i64 v40)], []⟩,
        ⟨[40, 41], [], [(42, .int .i64 x61)], []⟩,
        ⟨[39, 42], [], [(43, .ref 1000 (((x61 : Int).toNat) * (eInt .i64).sz + 0))], []⟩,
        ⟨[43], [1000], [(44, .int .i64 x63)], []⟩,
        ⟨[0], [], [(45, .osl 1000 (eInt .i64).sz v39.length)], []⟩,
        ⟨[6], [], [(46, .int .i64 a0)], []⟩,
        ⟨[45, 46], [], [(47, .ref 1000 (((a0 : Int).toNat) * (eInt .i64).sz + 0))], []⟩,
        ⟨[47], [1000], [(48, .int .i64 x65)], []⟩,
        ⟨[33, 34], [], [(49, .ref 1000 (((a0 : Int).toNat) * (eInt .i64).sz + 0))], []⟩,
        ⟨[44, 49], [1000], [], [(1000, .blk 3 (D.flat (x68.map (eInt .i64).d)))]⟩,
        ⟨[35, 38], [], [(50, .ref 1000 (((x60 : Int).toNat) * (eInt .i64).sz + 0))], []⟩,
        ⟨[48, 50], [1000], [], [(1000, .blk 3 (D.flat (x71.map (eInt .i64).d)))]⟩] rfl ?_ (by kernel_rfl) ?_
       ·refine .cons (lop rfl rfl fun S hA => (iop_move rfl rfl (lb rfl) (sv (d := .osl _ _ _) (agr hA rfl rfl)))) ?_
        refine .cons (lop rfl rfl fun S hA => (iop_move rfl rfl (lb rfl) (svaI hA rfl rfl))) ?_
        refine .cons (lop rfl rfl fun S hA => (iop_move rfl rfl (lb rfl) (sv (d := .osl _ _ _) (agr hA rfl rfl)))) ?_
        refine .cons (lop rfl rfl fun S hA => (iop_move rfl rfl (lb rfl) (svaI hA rfl rfl))) ?_
        refine .cons (lop rfl rfl fun S hA => (iop_move rfl rfl (lb rfl) (svaI hA rfl rfl))) ?_
        refine .cons (lop rfl rfl fun S hA => (iop_intx rfl rfl (lb rfl) (svaI hA rfl rfl) (svaI hA rfl rfl) rfl hx60)) ?_
        refine .cons (lop rfl rfl fun S hA => (iop_move rfl rfl (lb rfl) (sv (d := .osl _ _ _) (agr hA rfl rfl)))) ?_
        refine .cons (lop rfl rfl fun S hA => (iop_move rfl rfl (lb rfl) (svaI hA rfl rfl))) ?_
        refine .cons (lop rfl rfl fun S hA => (iop_move rfl rfl (lb rfl) (svaI hA rfl rfl))) ?_
        refine .cons (lop rfl rfl fun S hA => (iop_intx rfl rfl (lb rfl) (svaI hA rfl rfl) (svaI hA rfl rfl) rfl hx61)) ?_
        refine .cons (lop rfl rfl fun S hA => (iop_idxO (eInt .i64).toEnc0 rfl rfl (lb rfl) Try.underlying23 ti3 (sv (d := .osl _ _ _) (agr hA rfl rfl)) rfl (svaI hA rfl rfl) hx62)) ?_
        refine .cons (lop rfl rfl fun S hA => (iop_loadEs (eInt .i64).toEnc0 (d := .int _ _) rfl rfl (lb rfl) Try.underlying3 ag3 ti3 (by decide) (svaR hA rfl rfl) (agi hA rfl rfl) hx63 (nle rfl) rfl)) ?_
        refine .cons (lop rfl rfl fun S hA => (iop_move rfl rfl (lb rfl) (sv (d := .osl _ _ _) (agr hA rfl rfl)))) ?_
        refine .cons (lop rfl rfl fun S hA => (iop_move rfl rfl (lb rfl) (svaI hA rfl rfl))) ?_
        refine .cons (lop rfl rfl fun S hA => (iop_idxO (eInt .i64).toEnc0 rfl rfl (lb rfl) Try.underlying23 ti3 (sv (d := .osl _ _ _) (agr hA rfl rfl)) rfl (svaI hA rfl rfl) hx64)) ?_
        refine .cons (lop rfl rfl fun S hA => (iop_loadEs (eInt .i64).toEnc0 (d := .int _ _) rfl rfl (lb rfl) Try.underlying3 ag3 ti3 (by decide) (svaR hA rfl rfl) (agi hA rfl rfl) hx65 (nle rfl) rfl)) ?_
        refine .cons (lop rfl rfl fun S hA => (iop_idxO (eInt .i64).toEnc0 rfl rfl (lb rfl) Try.underlying23 ti3 (sv (d := .osl _ _ _) (agr hA rfl rfl)) rfl (svaI hA rfl rfl) hx66)) ?_
        refine .cons (lop rfl rfl fun S hA => (iop_storeE (eInt .i64).toEnc0 (a' := x63) rfl rfl ti3 (svaR hA rfl rfl) (agi hA rfl rfl) (svaI hA rfl rfl) rfl rfl rfl hx67 (nle rfl) rfl hx68)) ?_
        refine .cons (lop rfl rfl fun S hA => (iop_idxO (eInt .i64).toEnc0 rfl rfl (lb rfl) Try.underlying23 ti3 (sv (d := .osl _ _ _) (agr hA rfl rfl)) (len_set hx68 rfl) (svaI hA rfl rfl) hx69)) ?_
        refine .cons (lop rfl rfl fun S hA => (iop_storeE (eInt .i64).toEnc0 (a' := x65) rfl rfl ti3 (svaR hA rfl rfl) (agi hA rfl rfl) (svaI hA rfl rfl) rfl rfl rfl hx70 (nle rfl) rfl hx71)) ?_
        exact .nil
       obtain ⟨x72, hx72, h⟩ := bno_e h
       obtain ⟨hk73, h⟩ := chk_e h
       refine iwp_region (ils_cons rfl (iop_move rfl rfl (lb rfl) (sv (d := .osl _ _ _) rfl)) <|
        ils_cons rfl (mvI rfl rfl rfl rfl) <|
        ils_cons rfl (mvI rfl rfl rfl rfl) <|
        ils_cons rfl (mvI rfl rfl rfl rfl) <|
        ils_cons rfl (iop_callh2 (r' := .tuple []) (H1' := [(1000, .blk 3 (D.flat (x72.map (eInt .i64).d)))]) 0 [1000] rfl rfl (lb rfl) cl93 (.cons (sv (congrArg (D.osl _ _) (len_set hx71 (len_set hx68 rfl)).symm)) (.cons (svI rfl) (.cons (svI rfl) (.cons (svI rfl) .nil)))) rfl rfl ⟨rfl, rfl, by decide, rfl, List.forall_mem_cons.2 ⟨⟨rfl, rfl, (handL (eInt .i64) rfl), (handLr (eInt .i64))⟩, List.forall_mem_nil _⟩⟩ (p_slices_siftDownOrdered_int_h _ _ _ _ _ hx72) rfl rfl (List.forall_mem_cons.2 ⟨⟨rfl, (handLr (eInt .i64))⟩, List.forall_mem_nil _⟩) (by simp only [List.map_cons, List.map_nil, Ent.ren, renL_flat, renL_ref]; rfl)) <|
        ils_nil ?_)
       refine blockQ_n ?_
       refine thenQ_n ?_
       obtain ⟨x74, hx74, h⟩ := bnd_e h
       refine iwp_region (ils_cons rfl (mvI rfl rfl rfl rfl) <|
        ils_cons rfl (iop_intx rfl rfl (lb rfl) (svI rfl) (sv (d := .int _ 1) rfl) rfl hx74) <|
        ils_cons rfl (asI rfl rfl rfl rfl) <|
        ils_nil ?_)
       refine thenQ_n ⟨(n1, x72, x74), (fun i => i), ⟨(.cons (.same (congrArg (D.osl _ _) hk73.symm) rfl) (.sames rfl rfl)), (.cons (EntW.lst rfl) .nil), nd_of [1000] rfl (by decide), fun _ _ => rfl⟩, ?_, ?_⟩
       exact h
       exact Nat.lt_succ_self _
      ·
       replace h := bif_f h hc59
       refine iwp_exit ?_
       refine thenQ_e ?_
       refine thenQ_e ?_
       refine blockQ_e ?_
       obtain rfl := Option.some.inj h
       refine ⟨.inl rfl, (fun i => i), ⟨.nil, (.cons (EntW.lst rfl) .nil), nd_of [1000] rfl (by decide), fun _ _ => rfl⟩, .nil, rfl⟩

theorem p_slices_nextPowerOfTwo (a0 : Int) (r : Int) (h : slices_nextPowerOfTwo a0 = some r) : PureAt Try.prog 94 [.int .i64 a0] (.int .u64 r) := by
 refine pure_of_iwp (rs := [.int .u64 r]) Try.func94 rfl Try.ntmps94 (nle rfl) rfl fun O hO => ?_
 show IWP _ _ _ _ ⟨[(0, .int .i64 a0)], []⟩ _
 unfold slices_nextPowerOfTwo at h
 refine iwp_reg (ils_cons rfl (iop_assign rfl rfl (lb rfl) (sv (d := .int _ 0) rfl)) <|
  ils_end ?_)
 obtain ⟨x1, hx1, h⟩ := bnd_e h
 obtain ⟨x2, hx2, h⟩ := bno_e h
 obtain ⟨x3, hx3, h⟩ := bno_e h
 refine iwp_reg (ils_cons rfl (mvI rfl rfl rfl rfl) <|
  ils_cons rfl (iop_int_conv rfl rfl (lb rfl) ⟨_, Try.underlying3⟩ Try.underlying105 (svI rfl) hx1) <|
  ils_cons rfl (iop_call (r := .int _ _) rfl rfl (lb rfl) cl75 (.cons (svI rfl) .nil) rfl (p_math_bits_Len _ _ hx2)) <|
  ils_cons rfl (iop_shlx rfl rfl (lb rfl) (sv (d := .int _ 1) rfl) (svI rfl) hx3) <|
  ils_cons rfl (asI rfl rfl rfl rfl) <|
  ils_end ?_)
 refine iwp_ret ?_
 obtain rfl := Option.some.inj h
 refine ⟨.inr rfl, (.cons (sv rfl) .nil)⟩

theorem p_slices_xorshift_Next_h (a0 : Int) (r : (Int × Int)) (h : slices_xorshift_Next_h a0 = some r) : FnH Try.prog 95 [.ref 1000 0] [(1000, .blk 121 [.int .u64 a0])] (.int .u64 r.1) [(1000, .blk 121 [.int .u64 r.2])] := by
 refine fnh_of_iwp (rs := [.int .u64 r.1]) Try.func95 rfl Try.ntmps95 (nle rfl) fun O hO => ?_
 show IWP _ _ _ _ ⟨[(0, .ref 1000 0)], [(1000, .blk 121 [.int .u64 a0])]⟩ _
 unfold slices_xorshift_Next_h at h
 refine iwp_reg (ils_cons rfl (iop_assign rfl rfl (lb rfl) (sv (d := .int _ 0) rfl)) <|
  ils_end ?_)
 obtain ⟨x1, hx1, h⟩ := bno_e h
 obtain ⟨x2, hx2, h⟩ := bnd_e h
 refine iwp_drw rfl [⟨[0], [], [(3, .ref 1000 0)], []⟩,
  ⟨[3], [], [(4, .ref 1000 0)], []⟩,
  ⟨[4], [1000], [(5, .int .u64 a0)], []⟩,
  ⟨[0], [], [(6, .ref 1000 0)], []⟩,
  ⟨[6], [], [(7, .ref 1000 0)], []⟩,
  ⟨[7], [1000], [(8, .int .u64 a0)], []⟩,
  ⟨[8], [], [(9, .int .u64 x1)], []⟩,
  ⟨[5, 9], [], [(10, .int .u64 x2)], []⟩,
  ⟨[3], [], [(11, .ref 1000 0)], []⟩,
  ⟨[10, 11], [1000], [], [(1000, .blk 121 [.int .u64 x2])]⟩] rfl ?_ (by kernel_rfl) ?_
 ·refine .cons (lop rfl rfl fun S hA => (iop_move rfl rfl (lb rfl) (svaR hA rfl rfl))) ?_
  refine .cons (lop rfl rfl fun S hA => (iop_nilCheck_ref rfl rfl (lb rfl) (svaR hA rfl rfl))) ?_
  refine .cons (lop rfl rfl fun S hA => (iop_load_rs (d := .int _ _) rfl rfl (lb rfl) Try.underlying121 ag121 ti121 (by decide) (svaR hA rfl rfl) (agi hA rfl rfl) (nle rfl) rfl)) ?_
  refine .cons (lop rfl rfl fun S hA => (iop_move rfl rfl (lb rfl) (svaR hA rfl rfl))) ?_
  refine .cons (lop rfl rfl fun S hA => (iop_nilCheck_ref rfl rfl (lb rfl) (svaR hA rfl rfl))) ?_
  refine .cons (lop rfl rfl fun S hA => (iop_load_rs (d := .int _ _) rfl rfl (lb rfl) Try.underlying121 ag121 ti121 (by decide) (svaR hA rfl rfl) (agi hA rfl rfl) (nle rfl) rfl)) ?_
  refine .cons (lop rfl rfl fun S hA => (iop_shlx rfl rfl (lb rfl) (svaI hA rfl rfl) (sv (d := .int _ 13) rfl) hx1)) ?_
  refine .cons (lop rfl rfl fun S hA => (iop_intx rfl rfl (lb rfl) (svaI hA rfl rfl) (svaI hA rfl rfl) rfl hx2)) ?_
  refine .cons (lop rfl rfl fun S hA => (iop_nilCheck_ref rfl rfl (lb rfl) (svaR hA rfl rfl))) ?_
  refine .cons (lop rfl rfl fun S hA => (iop_store (ds' := [.int _ _]) rfl rfl ti121 (svaR hA rfl rfl) (agi hA rfl rfl) (svaI hA rfl rfl) rfl rfl rfl (nle rfl) rfl)) ?_
  exact .nil
 obtain ⟨x3, hx3, h⟩ := bno_e h
 obtain ⟨x4, hx4, h⟩ := bnd_e h
 refine iwp_drw rfl [⟨[0], [], [(12, .ref 1000 0)], []⟩,
  ⟨[12], [], [(13, .ref 1000 0)], []⟩,
  ⟨[13], [1000], [(14, .int .u64 x2)], []⟩,
  ⟨[0], [], [(15, .ref 1000 0)], []⟩,
  ⟨[15], [], [(16, .ref 1000 0)], []⟩,
  ⟨[16], [1000], [(17, .int .u64 x2)], []⟩,
  ⟨[17], [], [(18, .int .u64 x3)], []⟩,
  ⟨[14, 18], [], [(19, .int .u64 x4)], []⟩,
  ⟨[12], [], [(20, .ref 1000 0)], []⟩,
  ⟨[19, 20], [1000], [], [(1000, .blk 121 [.int .u64 x4])]⟩] rfl ?_ (by kernel_rfl) ?_
 ·refine .cons (lop rfl rfl fun S hA => (iop_move rfl rfl (lb rfl) (svaR hA rfl rfl))) ?_
  refine .cons (lop rfl rfl fun S hA => (iop_nilCheck_ref rfl rfl (lb rfl) (svaR hA rfl rfl))) ?_
  refine .cons (lop rfl rfl fun S hA => (iop_load_rs (d := .int _ _) rfl rfl (lb rfl) Try.underlying121 ag121 ti121 (by decide) (svaR hA rfl rfl) (agi hA rfl rfl) (nle rfl) rfl)) ?_
  refine .cons (lop rfl rfl fun S hA => (iop_move rfl rfl (lb rfl) (svaR hA rfl rfl))) ?_
  refine .cons (lop rfl rfl fun S hA => (iop_nilCheck_ref rfl rfl (lb rfl) (svaR hA rfl rfl))) ?_
  refine .cons (lop rfl rfl fun S hA => (iop_load_rs (d := .int _ _) rfl rfl (lb rfl) Try.underlying121 ag121 ti121 (by decide) (svaR hA rfl rfl) (agi hA rfl rfl) (nle rfl) rfl)) ?_
  refine .cons (lop rfl rfl fun S hA => (iop_shrx rfl rfl (lb rfl) (svaI hA rfl rfl) (sv (d := .int _ 7) rfl) hx3)) ?_
  refine .cons (lop rfl rfl fun S hA => (iop_intx rfl rfl (lb rfl) (svaI hA rfl rfl) (svaI hA rfl rfl) rfl hx4)) ?_
  refine .cons (lop rfl rfl fun S hA => (iop_nilCheck_ref rfl rfl (lb rfl) (svaR hA rfl rfl))) ?_
  refine .cons (lop rfl rfl fun S hA => (iop_store (ds' := [.int _ _]) rfl rfl ti121 (svaR hA rfl rfl) (agi hA rfl rfl) (svaI hA rfl rfl) rfl rfl rfl (nle rfl) rfl)) ?_
  exact .nil
 obtain ⟨x5, hx5, h⟩ := bno_e h
 obtain ⟨x6, hx6, h⟩ := bnd_e h
 refine iwp_drw rfl [⟨[0], [], [(21, .ref 1000 0)], []⟩,
  ⟨[21], [], [(22, .ref 1000 0)], []⟩,
  ⟨[22], [1000], [(23, .int .u64 x4)], []⟩,
  ⟨[0], [], [(24, .ref 1000 0)], []⟩,
  ⟨[24], [], [(25, .ref 1000 0)], []⟩,
  ⟨[25], [1000], [(26, .int .u64 x4)], []⟩,
  ⟨[26], [], [(27, .int .u64 x5)], []⟩,
  ⟨[23, 27], [], [(28, .int .u64 x6)], []⟩,
  ⟨[21], [], [(29, .ref 1000 0)], []⟩,
  ⟨[28, 29], [1000], [], [(1000, .blk 121 [.int .u64 x6])]⟩] rfl ?_ (by kernel_rfl) ?_
 ·refine .cons (lop rfl rfl fun S hA => (iop_move rfl rfl (lb rfl) (svaR hA rfl rfl))) ?_
  refine .cons (lop rfl rfl fun S hA => (iop_nilCheck_ref rfl rfl (lb rfl) (svaR hA rfl rfl))) ?_
  refine .cons (lop rfl rfl fun S hA => (iop_load_rs (d := .int _ _) rfl rfl (lb rfl) Try.underlying121 ag121 ti121 (by decide) (svaR hA rfl rfl) (agi hA rfl rfl) (nle rfl) rfl)) ?_
  refine .cons (lop rfl rfl fun S hA => (iop_move rfl rfl (lb rfl) (svaR hA rfl rfl))) ?_
  refine .cons (lop rfl rfl fun S hA => (iop_nilCheck_ref rfl rfl (lb rfl) (svaR hA rfl rfl))) ?_
  refine .cons (lop rfl rfl fun S hA => (iop_load_rs (d := .int _ _) rfl rfl (lb rfl) Try.underlying121 ag121 ti121 (by decide) (svaR hA rfl rfl) (agi hA rfl rfl) (nle rfl) rfl)) ?_
  refine .cons (lop rfl rfl fun S hA => (iop_shlx rfl rfl (lb rfl) (svaI hA rfl rfl) (sv (d := .int _ 17) rfl) hx5)) ?_
  refine .cons (lop rfl rfl fun S hA => (iop_intx rfl rfl (lb rfl) (svaI hA rfl rfl) (svaI hA rfl rfl) rfl hx6)) ?_
  refine .cons (lop rfl rfl fun S hA => (iop_nilCheck_ref rfl rfl (lb rfl) (svaR hA rfl rfl))) ?_
  refine .cons (lop rfl rfl fun S hA => (iop_store (ds' := [.int _ _]) rfl rfl ti121 (svaR hA rfl rfl) (agi hA rfl rfl) (svaI hA rfl rfl) rfl rfl rfl (nle rfl) rfl)) ?_
  exact .nil
 refine iwp_reg (ils_cons rfl (mvR rfl rfl rfl rfl) <|
  ils_cons rfl (iop_nilCheck_ref rfl rfl (lb rfl) (svR rfl)) <|
  ils_cons rfl (iop_load_rs (d := .int _ _) rfl rfl (lb rfl) Try.underlying121 ag121 ti121 (by decide) (svR rfl) rfl (nle rfl) rfl) <|
  ils_cons rfl (asI rfl rfl rfl rfl) <|
  ils_end ?_)
 refine iwp_ret ?_
 obtain rfl := Option.some.inj h
 refine ⟨.inr rfl, (fun i => i), ⟨.nil, (.cons (.blk rfl rfl rfl) .nil), nd_of [1000] rfl (by decide), fun _ _ => rfl⟩, (.cons (sv rfl) .nil), rfl⟩

theorem p_slices_breakPatternsOrdered_int_h (a0 : Int) (a1 : Int) (a2 : (List Int)) (r : (List Int)) (h : slices_breakPatternsOrdered_int_h a0 a1 a2 = some r) : FnH Try.prog 83 [.osl 1000 (eInt .i64).sz a2.length, .int .i64 a0, .int .i64 a1] [(1000, .blk 3 (D.flat (a2.map (eInt .i64).d)))] (retD []) [(1000, .blk 3 (D.flat (r.map (eInt .i64).d)))] := by
 refine fnh_of_iwp (rs := []) Try.func83 rfl Try.ntmps83 (nle rfl) fun O hO => ?_
 show IWP _ _ _ _ ⟨[(0, .osl 1000 (eInt .i64).sz a2.length), (1, .int .i64 a0), (2, .int .i64 a1)], [(1000, .blk 3 (D.flat (a2.map (eInt .i64).d)))]⟩ _
 unfold slices_breakPatternsOrdered_int_h at h
 obtain ⟨x1, hx1, h⟩ := bnd_e h
 refine iwp_reg (ils_cons rfl (mvI rfl rfl rfl rfl) <|
  ils_cons rfl (mvI rfl rfl rfl rfl) <|
  ils_cons rfl (iop_intx rfl rfl (lb rfl) (svI rfl) (svI rfl) rfl hx1) <|
  ils_cons rfl (asI rfl rfl rfl rfl) <|
  ils_end ?_)
 obtain ⟨x2, hx2, h⟩ := bnd_e h
 refine iwp_reg (ils_cons rfl (mvI rfl rfl rfl rfl) <|
  ils_cons rfl (iop_cmpx rfl rfl (lb rfl) (svI rfl) (sv (d := .int _ 8) rfl) rfl hx2) <|
  ils_end ?_)
 refine iwp_cond (b := _) rfl (fun hc3 => ?_) (fun hc3 => ?_)
 ·
  replace h := bif_t h hc3
  obtain ⟨x4, hx4, h⟩ := bnd_e h
  refine iwp_reg (ils_cons rfl (mvI rfl rfl rfl rfl) <|
   ils_cons rfl (iop_int_conv rfl rfl (lb rfl) ⟨_, Try.underlying3⟩ Try.underlying121 (svI rfl) hx4) <|
   ils_cons rfl (iop_allocS (cs := [.int _ _]) (cs' := [.int .u64 0]) 0 rfl rfl (lb rfl) rfl ti121 rfl rfl (.all _)) <|
   ils_cons rfl (iop_store (ds' := [.int _ _]) rfl rfl ti121 (svR rfl) rfl (svI rfl) rfl rfl rfl (nle rfl) rfl) <|
   ils_end ?_)
  obtain ⟨x5, hx5, h⟩ := bno_e h
  refine iwp_reg (ils_cons rfl (mvI rfl rfl rfl rfl) <|
   ils_cons rfl (iop_call (r := .int _ _) rfl rfl (lb rfl) cl94 (.cons (svI rfl) .nil) rfl (p_slices_nextPowerOfTwo _ _ hx5)) <|
   ils_cons rfl (asI rfl rfl rfl rfl) <|
   ils_end ?_)
  obtain ⟨x6, hx6, h⟩ := bno_e h
  obtain ⟨x7, hx7, h⟩ := bnd_e h
  obtain ⟨x8, hx8, h⟩ := bnd_e h
  obtain ⟨x9, hx9, h⟩ := bnd_e h
  refine iwp_reg (ils_cons rfl (mvI rfl rfl rfl rfl) <|
   ils_cons rfl (mvI rfl rfl rfl rfl) <|
   ils_cons rfl (iop_quox rfl rfl (lb rfl) (svI rfl) (sv (d := .int _ 4) rfl) hx6) <|
   ils_cons rfl (iop_intx rfl rfl (lb rfl) (svI rfl) (sv (d := .int _ 2) rfl) rfl hx7) <|
   ils_cons rfl (iop_intx rfl rfl (lb rfl) (svI rfl) (svI rfl) rfl hx8) <|
   ils_cons rfl (iop_intx rfl rfl (lb rfl) (svI rfl) (sv (d := .int _ 1) rfl) rfl hx9) <|
   ils_cons rfl (asI rfl rfl rfl rfl) <|
   ils_end ?_)
  refine iwp_block ?_
  refine iwp_loopP (α := Nat × (List Int) × Int × Int) (fun z => ⟨[(0, .osl 1000 (eInt .i64).sz z.2.1.length), (1, .int .i64 a0), (6, .int .i64 x1), (7, .ref 0 0), (8, .int .u64 x5), (9, .int .i64 z.2.2.1)], [(1000, .blk 3 (D.flat (z.2.1.map (eInt .i64).d))), (0, .blk 121 [.int .u64 z.2.2.2])]⟩) (fun z => slices_breakPatternsOrdered_int_h_L0 a0 x1 x5 z.1 z.2.1 z.2.2.1 z.2.2.2 = some r) (fun z => z.1) (fuel, a2, x9, x4) (fun i => i) ⟨(.sames rfl rfl), (.cons (EntW.lst rfl) (.cons (.blk rfl rfl rfl) .nil)), nd_of [1000, 0] rfl (by decide), fun _ _ => rfl⟩ ?_ ?_
  ·exact h
  ·
   rintro ⟨n0, v40, v41, v42⟩ h
   cases n0 with
   | zero => exact absurd h (by unfold slices_breakPatternsOrdered_int_h_L0; exact nofun)
   | succ n0 =>
    unfold slices_breakPatternsOrdered_int_h_L0 at h
    refine iwp_seq ?_
    obtain ⟨x73, hx73, h⟩ := bno_e h
    obtain ⟨x74, hx74, h⟩ := bnd_e h
    obtain ⟨x75, hx75, h⟩ := bnd_e h
    obtain ⟨x76, hx76, h⟩ := bnd_e h
    obtain ⟨x77, hx77, h⟩ := bnd_e h
    refine iwp_reg (ils_cons rfl (mvI rfl rfl rfl rfl) <|
     ils_cons rfl (mvI rfl rfl rfl rfl) <|
     ils_cons rfl (mvI rfl rfl rfl rfl) <|
     ils_cons rfl (iop_quox rfl rfl (lb rfl) (svI rfl) (sv (d := .int _ 4) rfl) hx73) <|
     ils_cons rfl (iop_intx rfl rfl (lb rfl) (svI rfl) (sv (d := .int _ 2) rfl) rfl hx74) <|
     ils_cons rfl (iop_intx rfl rfl (lb rfl) (svI rfl) (svI rfl) rfl hx75) <|
     ils_cons rfl (iop_intx rfl rfl (lb rfl) (svI rfl) (sv (d := .int _ 1) rfl) rfl hx76) <|
     ils_cons rfl (iop_cmpx rfl rfl (lb rfl) (svI rfl) (svI rfl) rfl hx77) <|
     ils_end ?_)
    refine iwp_cond (b := _) rfl (fun hc78 => ?_) (fun hc78 => ?_)
    ·
     replace h := bif_t h hc78
     refine iwp_skip ?_
     refine thenQ_n ?_
     refine iwp_seq ?_
     refine iwp_block ?_
     obtain ⟨x79, hx79, h⟩ := bno_e h
     obtain ⟨x80, hx80, h⟩ := bnd_e h
     obtain ⟨x81, hx81, h⟩ := bnd_e h
     obtain ⟨x82, hx82, h⟩ := bnd_e h
     refine iwp_reg (ils_cons rfl (iop_callh2 (r' := .int .u64 x79.1) (H1' := [(0, .blk 121 [.int .u64 x79.2])]) 1 [0] rfl rfl (lb rfl) cl95 (.cons (svR rfl) .nil) rfl rfl ⟨rfl, rfl, by decide, rfl, List.forall_mem_cons.2 ⟨⟨rfl, rfl, rfl, rfl⟩, List.forall_mem_nil _⟩⟩ (p_slices_xorshift_Next_h _ _ hx79) rfl rfl (List.forall_mem_cons.2 ⟨⟨rfl, rfl⟩, List.forall_mem_nil _⟩) rfl) <|
      ils_cons rfl (mvI rfl rfl rfl rfl) <|
      ils_cons rfl (iop_intx rfl rfl (lb rfl) (svI rfl) (sv (d := .int _ 1) rfl) rfl hx80) <|
      ils_cons rfl (iop_intx rfl rfl (lb rfl) (svI rfl) (svI rfl) rfl hx81) <|
      ils_cons rfl (iop_int_conv rfl rfl (lb rfl) ⟨_, Try.underlying105⟩ Try.underlying3 (svI rfl) hx82) <|
      ils_cons rfl (asI rfl rfl rfl rfl) <|
      ils_end ?_)
     refine iwp_join (α := Int) (fun z => ⟨[(0, .osl 1000 (eInt .i64).sz v40.length), (1, .int .i64 a0), (6, .int .i64 x1), (7, .ref 0 0), (8, .int .u64 x5), (9, .int .i64 v41), (10, .int .i64 z)], [(1000, .blk 3 (D.flat (v40.map (eInt .i64).d))), (0, .blk 121 [.int .u64 x79.2])]⟩) (fun z => slices_breakPatternsOrdered_int_h_J1 a0 v40 v41 (slices_breakPatternsOrdered_int_h_L0 a0 x1 x5 n0) x79 z = some r) ?_ ?_
     ·
      obtain ⟨x100, hx100, h⟩ := bnd_e h
      refine iwp_reg (ils_cons rfl (mvI rfl rfl rfl rfl) <|
       ils_cons rfl (mvI rfl rfl rfl rfl) <|
       ils_cons rfl (iop_cmpx rfl rfl (lb rfl) (svI rfl) (svI rfl) rfl hx100) <|
       ils_end ?_)
      refine iwp_cond (b := _) rfl (fun hc101 => ?_) (fun hc101 => ?_)
      ·
       replace h := bif_t h hc101
       obtain ⟨x102, hx102, h⟩ := bnd_e h
       refine iwp_region (ils_cons rfl (mvI rfl rfl rfl rfl) <|
        ils_cons rfl (mvI rfl rfl rfl rfl) <|
        ils_cons rfl (iop_intx rfl rfl (lb rfl) (svI rfl) (svI rfl) rfl hx102) <|
        ils_cons rfl (asI rfl rfl rfl rfl) <|
        ils_nil ?_)
       refine thenQ_n ⟨x102, (fun i => i), ⟨(.sames rfl rfl), (.cons (EntW.lst rfl) (.cons (.blk rfl rfl rfl) .nil)), nd_of [1000, 0] rfl (by decide), fun _ _ => rfl⟩, ?_⟩
       exact h
      ·
       replace h := bif_f h hc101
       refine iwp_skip ?_
       refine thenQ_n ⟨x82, (fun i => i), ⟨(.sames rfl rfl), (.cons (EntW.lst rfl) (.cons (.blk rfl rfl rfl) .nil)), nd_of [1000, 0] rfl (by decide), fun _ _ => rfl⟩, ?_⟩
       exact h
     ·
      rintro v86 h
      unfold slices_breakPatternsOrdered_int_h_J1 at h
      obtain ⟨x87, hx87, h⟩ := bnd_e h
      obtain ⟨x88, hx88, h⟩ := bnd_e h
      obtain ⟨x89, hx89, h⟩ := bno_e h
      obtain ⟨x90, hx90, h⟩ := bno_e h
      obtain ⟨x91, hx91, h⟩ := bno_e h
      obtain ⟨x92, hx92, h⟩ := bno_e h
      obtain ⟨x93, hx93, h⟩ := bno_e h
      obtain ⟨x94, hx94, h⟩ := bno_e h
      obtain ⟨x95, hx95, h⟩ := bnd_e h
      obtain ⟨x96, hx96, h⟩ := bno_e h
      obtain ⟨x97, hx97, h⟩ := bno_e h
      obtain ⟨x98, hx98, h⟩ := bnd_e h
      refine iwp_draw rfl [⟨[0], [], [(47, .osl 1000 (eInt .i64).sz v40.length)], []⟩,
       ⟨[9], [], [(48, .int .i64 v41)], []⟩,
       ⟨[0], [], [(49, .osl 1000 (eInt .i64).sz v40.length)], []⟩,
       ⟨[1], [], [(50, .int .i64 a0)], []⟩,
       ⟨[10], [], [(51, .int .i64 v86)], []⟩,
       ⟨[50, 51], [], [(52, .int .i64 x87)], []⟩,
       ⟨[0], [], [(53, .osl 1000 (eInt .i64).sz v40.length)], []⟩,
       ⟨[1], [], [(54, .int .i64 a0)], []⟩,
       ⟨[10], [], [(55, .int .i64 v86)], []⟩,
       ⟨[54, 55], [], [(56, .int .i64 x88)], []⟩,
       ⟨[53, 56], [], [(57, .ref 1000 (((x88 : Int).toNat) * (eInt .i64).sz + 0))], []⟩,
       ⟨[57], [1000], [(58, .int .i64 x90)], []⟩,
       ⟨[0], [], [(59, .osl 1000 (eInt .i64).sz v40.length)], []⟩,
       ⟨[9], [], [(60, .int .i64 v41)], []⟩,
       ⟨[59, 60], [], [(61, .ref 1000 (((v41 : Int).toNat) * (eInt .i64).sz + 0))], []⟩,
       ⟨[61], [1000], [(62, .int .i64 x92)], []⟩,
       ⟨[47, 48], [], [(63, .ref 1000 (((v41 : Int).toNat) * (eInt .i64).sz + 0))], []⟩,
       ⟨[58, 63], [1000], [], [(1000, .blk 3 (D.flat (x95.map (eInt .i64).d)))]⟩,
       ⟨[49, 52], [], [(64, .ref 1000 (((x87 : Int).toNat) * (eInt .i64).sz + 0))], []⟩,
       ⟨[62, 64], [1000], [], [(1000, .blk 3 (D.flat (x98.map (eInt .i64).d)))]⟩] rfl ?_ (by kernel_rfl) ?_
      ·refine .cons (lop rfl rfl fun S hA => (iop_move rfl rfl (lb rfl) (sv (d := .osl _ _ _) (agr hA rfl rfl)))) ?_
       refine .cons (lop rfl rfl fun S hA => (iop_move rfl rfl (lb rfl) (svaI hA rfl rfl))) ?_
       refine .cons (lop rfl rfl fun S hA => (iop_move rfl rfl (lb rfl) (sv (d := .osl _ _ _) (agr hA rfl rfl)))) ?_
       refine .cons (lop rfl rfl fun S hA => (iop_move rfl rfl (lb rfl) (svaI hA rfl rfl))) ?_
       refine .cons (lop rfl rfl fun S hA => (iop_move rfl rfl (lb rfl) (svaI hA rfl rfl))) ?_
       refine .cons (lop rfl rfl fun S hA => (iop_intx rfl rfl (lb rfl) (svaI hA rfl rfl) (svaI hA rfl rfl) rfl hx87)) ?_
       refine .cons (lop rfl rfl fun S hA => (iop_move rfl rfl (lb rfl) (sv (d := .osl _ _ _) (agr hA rfl rfl)))) ?_
       refine .cons (lop rfl rfl fun S hA => (iop_move rfl rfl (lb rfl) (svaI hA rfl rfl))) ?_
       refine .cons (lop rfl rfl fun S hA => (iop_move rfl rfl (lb rfl) (svaI hA rfl rfl))) ?_
       refine .cons (lop rfl rfl fun S hA => (iop_intx rfl rfl (lb rfl) (svaI hA rfl rfl) (svaI hA rfl rfl) rfl hx88)) ?_
       refine .cons (lop rfl rfl fun S hA => (iop_idxO (eInt .i64).toEnc0 rfl rfl (lb rfl) Try.underlying23 ti3 (sv (d := .osl _ _ _) (agr hA rfl rfl)) rfl (svaI hA rfl rfl) hx89)) ?_
       refine .cons (lop rfl rfl fun S hA => (iop_loadEs (eInt .i64).toEnc0 (d := .int _ _) rfl rfl (lb rfl) Try.underlying3 ag3 ti3 (by decide) (svaR hA rfl rfl) (agi hA rfl rfl) hx90 (nle rfl) rfl)) ?_
       refine .cons (lop rfl rfl fun S hA => (iop_move rfl rfl (lb rfl) (sv (d := .osl _ _ _) (agr hA rfl rfl)))) ?_
       refine .cons (lop rfl rfl fun S hA => (iop_move rfl rfl (lb rfl) (svaI hA rfl rfl))) ?_
       refine .cons (lop rfl rfl fun S hA => (iop_idxO (eInt .i64).toEnc0 rfl rfl (lb rfl) Try.underlying23 ti3 (sv (d := .osl _ _ _) (agr hA rfl rfl)) rfl (svaI hA rfl rfl) hx91)) ?_
       refine .cons (lop rfl rfl fun S hA => (iop_loadEs (eInt .i64).toEnc0 (d := .int _ _) rfl rfl (lb rfl) Try.underlying3 ag3 ti3 (by decide) (svaR hA rfl rfl) (agi hA rfl rfl) hx92 (nle rfl) rfl)) ?_
       refine .cons (lop rfl rfl fun S hA => (iop_idxO (eInt .i64).toEnc0 rfl rfl (lb rfl) Try.underlying23 ti3 (sv (d := .osl _ _ _) (agr hA rfl rfl)) rfl (svaI hA rfl rfl) hx93)) ?_
       refine .cons (lop rfl rfl fun S hA => (iop_storeE (eInt .i64).toEnc0 (a' := x90) rfl rfl ti3 (svaR hA rfl rfl) (agi hA rfl rfl) (svaI hA rfl rfl) rfl rfl rfl hx94 (nle rfl) rfl hx95)) ?_
       refine .cons (lop rfl rfl fun S hA => (iop_idxO (eInt .i64).toEnc0 rfl rfl (lb rfl) Try.underlying23 ti3 (sv (d := .osl _ _ _) (agr hA rfl rfl)) (len_set hx95 rfl) (svaI hA rfl rfl) hx96)) ?_
       refine .cons (lop rfl rfl fun S hA => (iop_storeE (eInt .i64).toEnc0 (a' := x92) rfl rfl ti3 (svaR hA rfl rfl) (agi hA rfl rfl) (svaI hA rfl rfl) rfl rfl rfl hx97 (nle rfl) rfl hx98)) ?_
       exact .nil
      refine blockQ_n ?_
      refine thenQ_n ?_
      obtain ⟨x99, hx99, h⟩ := bnd_e h
      refine iwp_region (ils_cons rfl (mvI rfl rfl rfl rfl) <|
       ils_cons rfl (iop_intx rfl rfl (lb rfl) (svI rfl) (sv (d := .int _ 1) rfl) rfl hx99) <|
       ils_cons rfl (asI rfl rfl rfl rfl) <|
       ils_nil ?_)
      refine thenQ_n ⟨(n0, x98, x99, x79.2), (fun i => i), ⟨(.cons (.same (congrArg (D.osl _ _) (len_set hx98 (len_set hx95 rfl)).symm) rfl) (.sames rfl rfl)), (.cons (EntW.lst rfl) (.cons (.blk rfl rfl rfl) .nil)), nd_of [1000, 0] rfl (by decide), fun _ _ => rfl⟩, ?_, ?_⟩
      exact h
      exact Nat.lt_succ_self _
    ·
     replace h := bif_f h hc78
     refine iwp_exit ?_
     refine thenQ_e ?_
     refine thenQ_e ?_
     refine blockQ_e ?_
     obtain rfl := Option.some.inj h
     refine ⟨.inl rfl, (fun i => i), ⟨.nil, (.cons (EntW.lst rfl) .nil), nd_of [1000] rfl (by decide), fun _ _ => rfl⟩, .nil, rfl⟩
 ·
  replace h := bif_f h hc3
  refine iwp_skip ?_
  obtain rfl := Option.some.inj h
  refine ⟨.inl rfl, (fun i => i), ⟨.nil, (.cons (EntW.lst rfl) .nil), nd_of [1000] rfl (by decide), fun _ _ => rfl⟩, .nil, rfl⟩

theorem p_slices_order2Ordered_int_h (a0 : (List Int)) (a1 : Int) (a2 : Int) (a3 : Int) (r : (Int × Int × Int)) (h : slices_order2Ordered_int_h a0 a1 a2 a3 = some r) : FnH Try.prog 100 [.slice false (a0.map (eInt .i64).d), .int .i64 a1, .int .i64 a2, .ref 1000 0] [(1000, .blk 3 [.int .i64 a3])] (retD [.int .i64 r.1, .int .i64 r.2.1]) [(1000, .blk 3 [.int .i64 r.2.2])] := by
 refine fnh_of_iwp (rs := [.int .i64 r.1, .int .i64 r.2.1]) Try.func100 rfl Try.ntmps100 (nle rfl) fun O hO => ?_
 show IWP _ _ _ _ ⟨[(0, .slice false (a0.map (eInt .i64).d)), (1, .int .i64 a1), (2, .int .i64 a2), (3, .ref 1000 0)], [(1000, .blk 3 [.int .i64 a3])]⟩ _
 unfold slices_order2Ordered_int_h at h
 refine iwp_reg (ils_cons rfl (iop_assign rfl rfl (lb rfl) (sv (d := .int _ 0) rfl)) <|
  ils_cons rfl (iop_assign rfl rfl (lb rfl) (sv (d := .int _ 0) rfl)) <|
  ils_end ?_)
 refine iwp_seq ?_
 obtain ⟨x1, hx1, h⟩ := bno_e h
 obtain ⟨x2, hx2, h⟩ := bno_e h
 obtain ⟨x3, hx3, h⟩ := bno_e h
 refine iwp_drw rfl [⟨[0], [], [(10, .slice false (a0.map (eInt .i64).d))], []⟩,
  ⟨[2], [], [(11, .int .i64 a2)], []⟩,
  ⟨[10, 11], [], [(12, .fptr [.int .i64 x1])], []⟩,
  ⟨[12], [], [(13, .int .i64 x1)], []⟩,
  ⟨[0], [], [(14, .slice false (a0.map (eInt .i64).d))], []⟩,
  ⟨[1], [], [(15, .int .i64 a1)], []⟩,
  ⟨[14, 15], [], [(16, .fptr [.int .i64 x2])], []⟩,
  ⟨[16], [], [(17, .int .i64 x2)], []⟩,
  ⟨[13, 17], [], [(18, .bool x3)], []⟩] rfl ?_ (by kernel_rfl) ?_
 ·refine .cons (lop rfl rfl fun S hA => (iop_move rfl rfl (lb rfl) (svaL hA rfl rfl))) ?_
  refine .cons (lop rfl rfl fun S hA => (iop_move rfl rfl (lb rfl) (svaI hA rfl rfl))) ?_
  refine .cons (lop rfl rfl fun S hA => (iop_idxT (eInt .i64) (cs := [.int _ _]) rfl rfl (lb rfl) Try.underlying23 ti3 (svaL hA rfl rfl) (svaI hA rfl rfl) hx1 rfl rfl)) ?_
  refine .cons (lop rfl rfl fun S hA => (iop_load_fs rfl rfl (lb rfl) Try.underlying3 ag3 ti3 (by decide) (sv (d := .fptr [.int _ _]) (agr hA rfl rfl)) (nle rfl))) ?_
  refine .cons (lop rfl rfl fun S hA => (iop_move rfl rfl (lb rfl) (svaL hA rfl rfl))) ?_
  refine .cons (lop rfl rfl fun S hA => (iop_move rfl rfl (lb rfl) (svaI hA rfl rfl))) ?_
  refine .cons (lop rfl rfl fun S hA => (iop_idxT (eInt .i64) (cs := [.int _ _]) rfl rfl (lb rfl) Try.underlying23 ti3 (svaL hA rfl rfl) (svaI hA rfl rfl) hx2 rfl rfl)) ?_
  refine .cons (lop rfl rfl fun S hA => (iop_load_fs rfl rfl (lb rfl) Try.underlying3 ag3 ti3 (by decide) (sv (d := .fptr [.int _ _]) (agr hA rfl rfl)) (nle rfl))) ?_
  refine .cons (lop rfl rfl fun S hA => (iop_call (r := .bool _) rfl rfl (lb rfl) cl87 (.cons (svaI hA rfl rfl) (.cons (svaI hA rfl rfl) .nil)) rfl (p_cmp_Less_int _ _ _ hx3))) ?_
  exact .nil
 refine iwp_cond (b := _) rfl (fun hc4 => ?_) (fun hc4 => ?_)
 ·
  replace h := bif_t h hc4
  obtain ⟨x5, hx5, h⟩ := bnd_e h
  refine iwp_reg (ils_cons rfl (mvR rfl rfl rfl rfl) <|
   ils_cons rfl (iop_nilCheck_ref rfl rfl (lb rfl) (svR rfl)) <|
   ils_cons rfl (iop_load_rs (d := .int _ _) rfl rfl (lb rfl) Try.underlying3 ag3 ti3 (by decide) (svR rfl) rfl (nle rfl) rfl) <|
   ils_cons rfl (iop_intx rfl rfl (lb rfl) (svI rfl) (sv (d := .int _ 1) rfl) rfl hx5) <|
   ils_cons rfl (iop_nilCheck_ref rfl rfl (lb rfl) (svR rfl)) <|
   ils_cons rfl (iop_store (ds' := [.int _ _]) rfl rfl ti3 (svR rfl) rfl (svI rfl) rfl rfl rfl (nle rfl) rfl) <|
   ils_end ?_)
  refine iwp_reg (ils_cons rfl (mvI rfl rfl rfl rfl) <|
   ils_cons rfl (mvI rfl rfl rfl rfl) <|
   ils_cons rfl (asI rfl rfl rfl rfl) <|
   ils_cons rfl (asI rfl rfl rfl rfl) <|
   ils_end ?_)
  refine iwp_ret ?_
  refine thenQ_r ?_
  obtain rfl := Option.some.inj h
  refine ⟨.inr rfl, (fun i => i), ⟨.nil, (.cons (.blk rfl rfl rfl) .nil), nd_of [1000] rfl (by decide), fun _ _ => rfl⟩, (.cons (sv rfl) (.cons (sv rfl) .nil)), rfl⟩
 ·
  replace h := bif_f h hc4
  refine iwp_skip ?_
  refine thenQ_n ?_
  refine iwp_reg (ils_cons rfl (mvI rfl rfl rfl rfl) <|
   ils_cons rfl (mvI rfl rfl rfl rfl) <|
   ils_cons rfl (asI rfl rfl rfl rfl) <|
   ils_cons rfl (asI rfl rfl rfl rfl) <|
   ils_end ?_)
  refine iwp_ret ?_
  obtain rfl := Option.some.inj h
  refine ⟨.inr rfl, (fun i => i), ⟨.nil, (.cons (.blk rfl rfl rfl) .nil), nd_of [1000] rfl (by decide), fun _ _ => rfl⟩, (.cons (sv rfl) (.cons (sv rfl) .nil)), rfl⟩

theorem p_slices_medianOrdered_int_h (a0 : (List Int)) (a1 : Int) (a2 : Int) (a3 : Int) (a4 : Int) (r : (Int × Int)) (h : slices_medianOrdered_int_h a0 a1 a2 a3 a4 = some r) : FnH Try.prog 97 [.slice false (a0.map (eInt .i64).d), .int .i64 a1, .int .i64 a2, .int .i64 a3, .ref 1000 0] [(1000, .blk 3 [.int .i64 a4])] (.int .i64 r.1) [(1000, .blk 3 [.int .i64 r.2])] := by
 refine fnh_of_iwp (rs := [.int .i64 r.1]) Try.func97 rfl Try.ntmps97 (nle rfl) fun O hO => ?_
 show IWP _ _ _ _ ⟨[(0, .slice false (a0.map (eInt .i64).d)), (1, .int .i64 a1), (2, .int .i64 a2), (3, .int .i64 a3), (4, .ref 1000 0)], [(1000, .blk 3 [.int .i64 a4])]⟩ _
 unfold slices_medianOrdered_int_h at h
 refine iwp_reg (ils_cons rfl (iop_assign rfl rfl (lb rfl) (sv (d := .int _ 0) rfl)) <|
  ils_end ?_)
 obtain ⟨x1, hx1, h⟩ := bno_e h
 refine iwp_reg (ils_cons rfl (mvL rfl rfl rfl rfl) <|
  ils_cons rfl (mvI rfl rfl rfl rfl) <|
  ils_cons rfl (mvI rfl rfl rfl rfl) <|
  ils_cons rfl (mvR rfl rfl rfl rfl) <|
  ils_cons rfl (iop_callh2 (r' := .tuple [.int .i64 x1.1, .int .i64 x1.2.1]) (H1' := [(1000, .blk 3 [.int .i64 x1.2.2])]) 0 [1000] rfl rfl (lb rfl) cl100 (.cons (svL rfl) (.cons (svI rfl) (.cons (svI rfl) (.cons (svR rfl) .nil)))) rfl rfl ⟨rfl, rfl, by decide, rfl, List.forall_mem_cons.2 ⟨⟨rfl, rfl, rfl, rfl⟩, List.forall_mem_nil _⟩⟩ (p_slices_order2Ordered_int_h _ _ _ _ _ hx1) rfl rfl (List.forall_mem_cons.2 ⟨⟨rfl, rfl⟩, List.forall_mem_nil _⟩) rfl) <|
  ils_cons rfl (iop_move rfl rfl (lb rfl) (sv (d := .tuple q12) rfl)) <|
  ils_cons rfl (iop_extract (d := .int _ _) rfl rfl (lb rfl) (sv (d := .tuple q12) rfl) rfl) <|
  ils_cons rfl (iop_extract (d := .int _ _) rfl rfl (lb rfl) (sv (d := .tuple q12) rfl) rfl) <|
  ils_cons rfl (asI rfl rfl rfl rfl) <|
  ils_cons rfl (asI rfl rfl rfl rfl) <|
  ils_end ?_)
 obtain ⟨x2, hx2, h⟩ := bno_e h
 refine iwp_reg (ils_cons rfl (mvL rfl rfl rfl rfl) <|
  ils_cons rfl (mvI rfl rfl rfl rfl) <|
  ils_cons rfl (mvI rfl rfl rfl rfl) <|
  ils_cons rfl (mvR rfl rfl rfl rfl) <|
  ils_cons rfl (iop_callh2 (r' := .tuple [.int .i64 x2.1, .int .i64 x2.2.1]) (H1' := [(1000, .blk 3 [.int .i64 x2.2.2])]) 0 [1000] rfl rfl (lb rfl) cl100 (.cons (svL rfl) (.cons (svI rfl) (.cons (svI rfl) (.cons (svR rfl) .nil)))) rfl rfl ⟨rfl, rfl, by decide, rfl, List.forall_mem_cons.2 ⟨⟨rfl, rfl, rfl, rfl⟩, List.forall_mem_nil _⟩⟩ (p_slices_order2Ordered_int_h _ _ _ _ _ hx2) rfl rfl (List.forall_mem_cons.2 ⟨⟨rfl, rfl⟩, List.forall_mem_nil _⟩) rfl) <|
  ils_cons rfl (iop_move rfl rfl (lb rfl) (sv (d := .tuple q12) rfl)) <|
  ils_cons rfl (iop_extract (d := .int _ _) rfl rfl (lb rfl) (sv (d := .tuple q12) rfl) rfl) <|
  ils_cons rfl (iop_extract (d := .int _ _) rfl rfl (lb rfl) (sv (d := .tuple q12) rfl) rfl) <|
  ils_cons rfl (asI rfl rfl rfl rfl) <|
  ils_cons rfl (asI rfl rfl rfl rfl) <|
  ils_end ?_)
 obtain ⟨x3, hx3, h⟩ := bno_e h
 refine iwp_reg (ils_cons rfl (mvL rfl rfl rfl rfl) <|
  ils_cons rfl (mvI rfl rfl rfl rfl) <|
  ils_cons rfl (mvI rfl rfl rfl rfl) <|
  ils_cons rfl (mvR rfl rfl rfl rfl) <|
  ils_cons rfl (iop_callh2 (r' := .tuple [.int .i64 x3.1, .int .i64 x3.2.1]) (H1' := [(1000, .blk 3 [.int .i64 x3.2.2])]) 0 [1000] rfl rfl (lb rfl) cl100 (.cons (svL rfl) (.cons (svI rfl) (.cons (svI rfl) (.cons (svR rfl) .nil)))) rfl rfl ⟨rfl, rfl, by decide, rfl, List.forall_mem_cons.2 ⟨⟨rfl, rfl, rfl, rfl⟩, List.forall_mem_nil _⟩⟩ (p_slices_order2Ordered_int_h _ _ _ _ _ hx3) rfl rfl (List.forall_mem_cons.2 ⟨⟨rfl, rfl⟩, List.forall_mem_nil _⟩) rfl) <|
  ils_cons rfl (iop_move rfl rfl (lb rfl) (sv (d := .tuple q12) rfl)) <|
  ils_cons rfl (iop_extract (d := .int _ _) rfl rfl (lb rfl) (sv (d := .tuple q12) rfl) rfl) <|
  ils_cons rfl (iop_extract (d := .int _ _) rfl rfl (lb rfl) (sv (d := .tuple q12) rfl) rfl) <|
  ils_cons rfl (asI rfl rfl rfl rfl) <|
  ils_cons rfl (asI rfl rfl rfl rfl) <|
  ils_end ?_)
 refine iwp_reg (ils_cons rfl (mvI rfl rfl rfl rfl) <|
  ils_cons rfl (asI rfl rfl rfl rfl) <|
  ils_end ?_)
 refine iwp_ret ?_
 obtain rfl := Option.some.inj h
 refine ⟨.inr rfl, (fun i => i), ⟨.nil, (.cons (.blk rfl rfl rfl) .nil), nd_of [1000] rfl (by decide), fun _ _ => rfl⟩, (.cons (sv rfl) .nil), rfl⟩

theorem p_slices_medianAdjacentOrdered_int_h (a0 : (List Int)) (a1 : Int) (a2 : Int) (r : (Int × Int)) (h : slices_medianAdjacentOrdered_int_h a0 a1 a2 = some r) : FnH Try.prog 96 [.slice false (a0.map (eInt .i64).d), .int .i64 a1, .ref 1000 0] [(1000, .blk 3 [.int .i64 a2])] (.int .i64 r.1) [(1000, .blk 3 [.int .i64 r.2])] := by
 refine fnh_of_iwp (rs := [.int .i64 r.1]) Try.func96 rfl Try.ntmps96 (nle rfl) fun O hO => ?_
 show IWP _ _ _ _ ⟨[(0, .slice false (a0.map (eInt .i64).d)), (1, .int .i64 a1), (2, .ref 1000 0)], [(1000, .blk 3 [.int .i64 a2])]⟩ _
 unfold slices_medianAdjacentOrdered_int_h at h
 refine iwp_reg (ils_cons rfl (iop_assign rfl rfl (lb rfl) (sv (d := .int _ 0) rfl)) <|
  ils_end ?_)
 obtain ⟨x1, hx1, h⟩ := bnd_e h
 obtain ⟨x2, hx2, h⟩ := bnd_e h
 obtain ⟨x3, hx3, h⟩ := bno_e h
 refine iwp_reg (ils_cons rfl (mvL rfl rfl rfl rfl) <|
  ils_cons rfl (mvI rfl rfl rfl rfl) <|
  ils_cons rfl (iop_intx rfl rfl (lb rfl) (svI rfl) (sv (d := .int _ 1) rfl) rfl hx1) <|
  ils_cons rfl (mvI rfl rfl rfl rfl) <|
  ils_cons rfl (mvI rfl rfl rfl rfl) <|
  ils_cons rfl (iop_intx rfl rfl (lb rfl) (svI rfl) (sv (d := .int _ 1) rfl) rfl hx2) <|
  ils_cons rfl (mvR rfl rfl rfl rfl) <|
  ils_cons rfl (iop_callh2 (r' := .int .i64 x3.1) (H1' := [(1000, .blk 3 [.int .i64 x3.2])]) 0 [1000] rfl rfl (lb rfl) cl97 (.cons (svL rfl) (.cons (svI rfl) (.cons (svI rfl) (.cons (svI rfl) (.cons (svR rfl) .nil))))) rfl rfl ⟨rfl, rfl, by decide, rfl, List.forall_mem_cons.2 ⟨⟨rfl, rfl, rfl, rfl⟩, List.forall_mem_nil _⟩⟩ (p_slices_medianOrdered_int_h _ _ _ _ _ _ hx3) rfl rfl (List.forall_mem_cons.2 ⟨⟨rfl, rfl⟩, List.forall_mem_nil _⟩) rfl) <|
  ils_cons rfl (asI rfl rfl rfl rfl) <|
  ils_end ?_)
 refine iwp_ret ?_
 obtain rfl := Option.some.inj h
 refine ⟨.inr rfl, (fun i => i), ⟨.nil, (.cons (.blk rfl rfl rfl) .nil), nd_of [1000] rfl (by decide), fun _ _ => rfl⟩, (.cons (sv rfl) .nil), rfl⟩

theorem p_slices_choosePivotOrdered_int (a0 : (List Int)) (a1 : Int) (a2 : Int) (r : (Int × Int)) (h : slices_choosePivotOrdered_int a0 a1 a2 = some r) : PureAt Try.prog 84 [.slice false (a0.map (eInt .i64).d), .int .i64 a1, .int .i64 a2] (retD [.int .i64 r.1, .int .i64 r.2]) := by
 refine pure_of_iwp (rs := [.int .i64 r.1, .int .i64 r.2]) Try.func84 rfl Try.ntmps84 (nle rfl) rfl fun O hO => ?_
 show IWP _ _ _ _ ⟨[(0, .slice false (a0.map (eInt .i64).d)), (1, .int .i64 a1), (2, .int .i64 a2)], []⟩ _
 unfold slices_choosePivotOrdered_int at h
 refine iwp_reg (ils_cons rfl (iop_assign rfl rfl (lb rfl) (sv (d := .int _ 0) rfl)) <|
  ils_cons rfl (iop_assign rfl rfl (lb rfl) (sv (d := .int _ 0) rfl)) <|
  ils_end ?_)
 obtain ⟨x1, hx1, h⟩ := bnd_e h
 refine iwp_reg (ils_cons rfl (mvI rfl rfl rfl rfl) <|
  ils_cons rfl (mvI rfl rfl rfl rfl) <|
  ils_cons rfl (iop_intx rfl rfl (lb rfl) (svI rfl) (svI rfl) rfl hx1) <|
  ils_cons rfl (asI rfl rfl rfl rfl) <|
  ils_end ?_)
 refine iwp_reg (ils_cons rfl (iop_allocS (cs := [.int _ _]) (cs' := [.int .i64 0]) 0 rfl rfl (lb rfl) rfl ti3 rfl rfl (.all _)) <|
  ils_end ?_)
 obtain ⟨x2, hx2, h⟩ := bno_e h
 obtain ⟨x3, hx3, h⟩ := bnd_e h
 obtain ⟨x4, hx4, h⟩ := bnd_e h
 refine iwp_reg (ils_cons rfl (mvI rfl rfl rfl rfl) <|
  ils_cons rfl (mvI rfl rfl rfl rfl) <|
  ils_cons rfl (iop_quox rfl rfl (lb rfl) (svI rfl) (sv (d := .int _ 4) rfl) hx2) <|
  ils_cons rfl (iop_intx rfl rfl (lb rfl) (svI rfl) (sv (d := .int _ 1) rfl) rfl hx3) <|
  ils_cons rfl (iop_intx rfl rfl (lb rfl) (svI rfl) (svI rfl) rfl hx4) <|
  ils_cons rfl (asI rfl rfl rfl rfl) <|
  ils_end ?_)
 obtain ⟨x5, hx5, h⟩ := bno_e h
 obtain ⟨x6, hx6, h⟩ := bnd_e h
 obtain ⟨x7, hx7, h⟩ := bnd_e h
 refine iwp_reg (ils_cons rfl (mvI rfl rfl rfl rfl) <|
  ils_cons rfl (mvI rfl rfl rfl rfl) <|
  ils_cons rfl (iop_quox rfl rfl (lb rfl) (svI rfl) (sv (d := .int _ 4) rfl) hx5) <|
  ils_cons rfl (iop_intx rfl rfl (lb rfl) (svI rfl) (sv (d := .int _ 2) rfl) rfl hx6) <|
  ils_cons rfl (iop_intx rfl rfl (lb rfl) (svI rfl) (svI rfl) rfl hx7) <|
  ils_cons rfl (asI rfl rfl rfl rfl) <|
  ils_end ?_)
 obtain ⟨x8, hx8, h⟩ := bno_e h
 obtain ⟨x9, hx9, h⟩ := bnd_e h
 obtain ⟨x10, hx10, h⟩ := bnd_e h
 refine iwp_reg (ils_cons rfl (mvI rfl rfl rfl rfl) <|
  ils_cons rfl (mvI rfl rfl rfl rfl) <|
  ils_cons rfl (iop_quox rfl rfl (lb rfl) (svI rfl) (sv (d := .int _ 4) rfl) hx8) <|
  ils_cons rfl (iop_intx rfl rfl (lb rfl) (svI rfl) (sv (d := .int _ 3) rfl) rfl hx9) <|
  ils_cons rfl (iop_intx rfl rfl (lb rfl) (svI rfl) (svI rfl) rfl hx10) <|
  ils_cons rfl (asI rfl rfl rfl rfl) <|
  ils_end ?_)
 refine iwp_join (α := Int × Int) (fun z => ⟨[(9, .ref 0 0), (11, .int .i64 z.1)], [(0, .blk 3 [.int .i64 z.2])]⟩) (fun z => slices_choosePivotOrdered_int_J1 z.1 z.2 = some r) ?_ ?_
 ·
  obtain ⟨x34, hx34, h⟩ := bnd_e h
  refine iwp_reg (ils_cons rfl (mvI rfl rfl rfl rfl) <|
   ils_cons rfl (iop_cmpx rfl rfl (lb rfl) (svI rfl) (sv (d := .int _ 8) rfl) rfl hx34) <|
   ils_end ?_)
  refine iwp_cond (b := _) rfl (fun hc35 => ?_) (fun hc35 => ?_)
  ·
   replace h := bif_t h hc35
   refine iwp_join (α := Int × Int × Int × Int) (fun z => ⟨[(0, .slice false (a0.map (eInt .i64).d)), (9, .ref 0 0), (10, .int .i64 z.1), (11, .int .i64 z.2.1), (12, .int .i64 z.2.2.1)], [(0, .blk 3 [.int .i64 z.2.2.2])]⟩) (fun z => slices_choosePivotOrdered_int_J2 a0 z.1 z.2.1 z.2.2.1 z.2.2.2 = some r) ?_ ?_
   ·
    obtain ⟨x46, hx46, h⟩ := bnd_e h
    refine iwp_reg (ils_cons rfl (mvI rfl rfl rfl rfl) <|
     ils_cons rfl (iop_cmpx rfl rfl (lb rfl) (svI rfl) (sv (d := .int _ 50) rfl) rfl hx46) <|
     ils_end ?_)
    refine iwp_cond (b := _) rfl (fun hc47 => ?_) (fun hc47 => ?_)
    ·
     replace h := bif_t h hc47
     obtain ⟨x48, hx48, h⟩ := bno_e h
     refine iwp_reg (ils_cons rfl (mvL rfl rfl rfl rfl) <|
      ils_cons rfl (mvI rfl rfl rfl rfl) <|
      ils_cons rfl (iop_callh2 (r' := .int .i64 x48.1) (H1' := [(0, .blk 3 [.int .i64 x48.2])]) 1 [0] rfl rfl (lb rfl) cl96 (.cons (svL rfl) (.cons (svI rfl) (.cons (svR rfl) .nil))) rfl rfl ⟨rfl, rfl, by decide, rfl, List.forall_mem_cons.2 ⟨⟨rfl, rfl, rfl, rfl⟩, List.forall_mem_nil _⟩⟩ (p_slices_medianAdjacentOrdered_int_h _ _ _ _ hx48) rfl rfl (List.forall_mem_cons.2 ⟨⟨rfl, rfl⟩, List.forall_mem_nil _⟩) rfl) <|
      ils_cons rfl (asI rfl rfl rfl rfl) <|
      ils_end ?_)
     obtain ⟨x49, hx49, h⟩ := bno_e h
     refine iwp_reg (ils_cons rfl (mvL rfl rfl rfl rfl) <|
      ils_cons rfl (mvI rfl rfl rfl rfl) <|
      ils_cons rfl (iop_callh2 (r' := .int .i64 x49.1) (H1' := [(0, .blk 3 [.int .i64 x49.2])]) 1 [0] rfl rfl (lb rfl) cl96 (.cons (svL rfl) (.cons (svI rfl) (.cons (svR rfl) .nil))) rfl rfl ⟨rfl, rfl, by decide, rfl, List.forall_mem_cons.2 ⟨⟨rfl, rfl, rfl, rfl⟩, List.forall_mem_nil _⟩⟩ (p_slices_medianAdjacentOrdered_int_h _ _ _ _ hx49) rfl rfl (List.forall_mem_cons.2 ⟨⟨rfl, rfl⟩, List.forall_mem_nil _⟩) rfl) <|
      ils_cons rfl (asI rfl rfl rfl rfl) <|
      ils_end ?_)
     obtain ⟨x50, hx50, h⟩ := bno_e h
     refine iwp_region (ils_cons rfl (mvL rfl rfl rfl rfl) <|
      ils_cons rfl (mvI rfl rfl rfl rfl) <|
      ils_cons rfl (iop_callh2 (r' := .int .i64 x50.1) (H1' := [(0, .blk 3 [.int .i64 x50.2])]) 1 [0] rfl rfl (lb rfl) cl96 (.cons (svL rfl) (.cons (svI rfl) (.cons (svR rfl) .nil))) rfl rfl ⟨rfl, rfl, by decide, rfl, List.forall_mem_cons.2 ⟨⟨rfl, rfl, rfl, rfl⟩, List.forall_mem_nil _⟩⟩ (p_slices_medianAdjacentOrdered_int_h _ _ _ _ hx50) rfl rfl (List.forall_mem_cons.2 ⟨⟨rfl, rfl⟩, List.forall_mem_nil _⟩) rfl) <|
      ils_cons rfl (asI rfl rfl rfl rfl) <|
      ils_nil ?_)
     refine thenQ_n ⟨(x48.1, x49.1, x50.1, x50.2), (fun i => i), ⟨(.sames rfl rfl), (.cons (.blk rfl rfl rfl) .nil), nd_of [0] rfl (by decide), fun _ _ => rfl⟩, ?_⟩
     exact h
    ·
     replace h := bif_f h hc47
     refine iwp_skip ?_
     refine thenQ_n ⟨(x4, x7, x10, 0), (fun i => i), ⟨(.sames rfl rfl), (.cons (.blk rfl rfl rfl) .nil), nd_of [0] rfl (by decide), fun _ _ => rfl⟩, ?_⟩
     exact h
   ·
    rintro ⟨v41, v42, v43, v44⟩ h
    unfold slices_choosePivotOrdered_int_J2 at h
    obtain ⟨x45, hx45, h⟩ := bno_e h
    refine iwp_region (ils_cons rfl (mvL rfl rfl rfl rfl) <|
     ils_cons rfl (mvI rfl rfl rfl rfl) <|
     ils_cons rfl (mvI rfl rfl rfl rfl) <|
     ils_cons rfl (mvI rfl rfl rfl rfl) <|
     ils_cons rfl (iop_callh2 (r' := .int .i64 x45.1) (H1' := [(0, .blk 3 [.int .i64 x45.2])]) 1 [0] rfl rfl (lb rfl) cl97 (.cons (svL rfl) (.cons (svI rfl) (.cons (svI rfl) (.cons (svI rfl) (.cons (svR rfl) .nil))))) rfl rfl ⟨rfl, rfl, by decide, rfl, List.forall_mem_cons.2 ⟨⟨rfl, rfl, rfl, rfl⟩, List.forall_mem_nil _⟩⟩ (p_slices_medianOrdered_int_h _ _ _ _ _ _ hx45) rfl rfl (List.forall_mem_cons.2 ⟨⟨rfl, rfl⟩, List.forall_mem_nil _⟩) rfl) <|
     ils_cons rfl (asI rfl rfl rfl rfl) <|
     ils_nil ?_)
    refine thenQ_n ⟨(x45.1, x45.2), (fun i => i), ⟨(.sames rfl rfl), (.cons (.blk rfl rfl rfl) .nil), nd_of [0] rfl (by decide), fun _ _ => rfl⟩, ?_⟩
    exact h
  ·
   replace h := bif_f h hc35
   refine iwp_skip ?_
   refine thenQ_n ⟨(x7, 0), (fun i => i), ⟨(.sames rfl rfl), (.cons (.blk rfl rfl rfl) .nil), nd_of [0] rfl (by decide), fun _ _ => rfl⟩, ?_⟩
   exact h
 ·
  rintro ⟨v28, v29⟩ h
  unfold slices_choosePivotOrdered_int_J1 at h
  refine iwp_reg (ils_cons rfl (iop_load_rs (d := .int _ _) rfl rfl (lb rfl) Try.underlying3 ag3 ti3 (by decide) (svR rfl) rfl (nle rfl) rfl) <|
   ils_end ?_)
  refine iwp_block ?_
  obtain ⟨x30, hx30, h⟩ := bnd_e h
  refine iwp_reg (ils_cons rfl (iop_cmpx rfl rfl (lb rfl) (svI rfl) (sv (d := .int _ 0) rfl) rfl hx30) <|
   ils_cons rfl (asB rfl rfl rfl rfl) <|
   ils_end ?_)
  refine iwp_cond (b := _) rfl (fun hc31 => ?_) (fun hc31 => ?_)
  ·
   replace h := bif_t h hc31
   refine iwp_reg (ils_cons rfl (mvI rfl rfl rfl rfl) <|
    ils_cons rfl (asI rfl rfl rfl rfl) <|
    ils_cons rfl (iop_assign rfl rfl (lb rfl) (sv (d := .int _ 1) rfl)) <|
    ils_end ?_)
   refine iwp_ret ?_
   refine blockQ_r ?_
   obtain rfl := Option.some.inj h
   refine ⟨.inr rfl, (.cons (sv rfl) (.cons (sv rfl) .nil))⟩
  ·
   replace h := bif_f h hc31
   obtain ⟨x32, hx32, h⟩ := bnd_e h
   refine iwp_reg (ils_cons rfl (iop_cmpx rfl rfl (lb rfl) (svI rfl) (sv (d := .int _ 12) rfl) rfl hx32) <|
    ils_cons rfl (asB rfl rfl rfl rfl) <|
    ils_end ?_)
   refine iwp_cond (b := _) rfl (fun hc33 => ?_) (fun hc33 => ?_)
   ·
    replace h := bif_t h hc33
    refine iwp_reg (ils_cons rfl (mvI rfl rfl rfl rfl) <|
     ils_cons rfl (asI rfl rfl rfl rfl) <|
     ils_cons rfl (iop_assign rfl rfl (lb rfl) (sv (d := .int _ 2) rfl)) <|
     ils_end ?_)
    refine iwp_ret ?_
    refine blockQ_r ?_
    obtain rfl := Option.some.inj h
    refine ⟨.inr rfl, (.cons (sv rfl) (.cons (sv rfl) .nil))⟩
   ·
    replace h := bif_f h hc33
    refine iwp_reg (ils_cons rfl (mvI rfl rfl rfl rfl) <|
     ils_cons rfl (asI rfl rfl rfl rfl) <|
     ils_cons rfl (iop_assign rfl rfl (lb rfl) (sv (d := .int _ 0) rfl)) <|
     ils_end ?_)
    refine iwp_ret ?_
    refine blockQ_r ?_
    obtain rfl := Option.some.inj h
    refine ⟨.inr rfl, (.cons (sv rfl) (.cons (sv rfl) .nil))⟩

theorem p_slices_reverseRangeOrdered_int_h (a0 : Int) (a1 : Int) (a2 : (List Int)) (r : (List Int)) (h : slices_reverseRangeOrdered_int_h a0 a1 a2 = some r) : FnH Try.prog 85 [.osl 1000 (eInt .i64).sz a2.length, .int .i64 a0, .int .i64 a1] [(1000, .blk 3 (D.flat (a2.map (eInt .i64).d)))] (retD []) [(1000, .blk 3 (D.flat (r.map (eInt .i64).d)))] := by
 refine fnh_of_iwp (rs := []) Try.func85 rfl Try.ntmps85 (nle rfl) fun O hO => ?_
 show IWP _ _ _ _ ⟨[(0, .osl 1000 (eInt .i64).sz a2.length), (1, .int .i64 a0), (2, .int .i64 a1)], [(1000, .blk 3 (D.flat (a2.map (eInt .i64).d)))]⟩ _
 unfold slices_reverseRangeOrdered_int_h at h
 refine iwp_reg (ils_cons rfl (mvI rfl rfl rfl rfl) <|
  ils_cons rfl (asI rfl rfl rfl rfl) <|
  ils_end ?_)
 obtain ⟨x1, hx1, h⟩ := bnd_e h
 refine iwp_reg (ils_cons rfl (mvI rfl rfl rfl rfl) <|
  ils_cons rfl (iop_intx rfl rfl (lb rfl) (svI rfl) (sv (d := .int _ 1) rfl) rfl hx1) <|
  ils_cons rfl (asI rfl rfl rfl rfl) <|
  ils_end ?_)
 refine iwp_block ?_
 refine iwp_loopP (α := Nat × (List Int) × Int × Int) (fun z => ⟨[(0, .osl 1000 (eInt .i64).sz z.2.1.length), (6, .int .i64 z.2.2.1), (7, .int .i64 z.2.2.2)], [(1000, .blk 3 (D.flat (z.2.1.map (eInt .i64).d)))]⟩) (fun z => slices_reverseRangeOrdered_int_h_L0 z.1 z.2.1 z.2.2.1 z.2.2.2 = some r) (fun z => z.1) (fuel, a2, a0, x1) (fun i => i) ⟨(.sames rfl rfl), (.cons (EntW.lst rfl) .nil), nd_of [1000] rfl (by decide), fun _ _ => rfl⟩ ?_ ?_
 ·exact h
 ·
  rintro ⟨n0, v16, v17, v18⟩ h
  cases n0 with
  | zero => exact absurd h (by unfold slices_reverseRangeOrdered_int_h_L0; exact nofun)
  | succ n0 =>
   unfold slices_reverseRangeOrdered_int_h_L0 at h
   refine iwp_seq ?_
   obtain ⟨x33, hx33, h⟩ := bnd_e h
   refine iwp_reg (ils_cons rfl (mvI rfl rfl rfl rfl) <|
    ils_cons rfl (mvI rfl rfl rfl rfl) <|
    ils_cons rfl (iop_cmpx rfl rfl (lb rfl) (svI rfl) (svI rfl) rfl hx33) <|
    ils_end ?_)
   refine iwp_cond (b := _) rfl (fun hc34 => ?_) (fun hc34 => ?_)
   ·
    replace h := bif_t h hc34
    refine iwp_skip ?_
    refine thenQ_n ?_
    refine iwp_block ?_
    obtain ⟨x35, hx35, h⟩ := bno_e h
    obtain ⟨x36, hx36, h⟩ := bno_e h
    obtain ⟨x37, hx37, h⟩ := bno_e h
    obtain ⟨x38, hx38, h⟩ := bno_e h
    obtain ⟨x39, hx39, h⟩ := bno_e h
    obtain ⟨x40, hx40, h⟩ := bno_e h
    obtain ⟨x41, hx41, h⟩ := bnd_e h
    obtain ⟨x42, hx42, h⟩ := bno_e h
    obtain ⟨x43, hx43, h⟩ := bno_e h
    obtain ⟨x44, hx44, h⟩ := bnd_e h
    refine iwp_drw rfl [⟨[0], [], [(14, .osl 1000 (eInt .i64).sz v16.length)], []⟩,
     ⟨[6], [], [(15, .int .i64 v17)], []⟩,
     ⟨[0], [], [(16, .osl 1000 (eInt .i64).sz v16.length)], []⟩,
     ⟨[7], [], [(17, .int .i64 v18)], []⟩,
     ⟨[0], [], [(18, .osl 1000 (eInt .i64).sz v16.length)], []⟩,
     ⟨[7], [], [(19, .int .i64 v18)], []⟩,
     ⟨[18, 19], [], [(20, .ref 1000 (((v18 : Int).toNat) * (eInt .i64).sz + 0))], []⟩,
     ⟨[20], [1000], [(21, .int .i64 x36)], []⟩,
     ⟨[0], [], [(22, .osl 1000 (eInt .i64).sz v16.length)], []⟩,
     ⟨[6], [], [(23, .int .i64 v17)], []⟩,
     ⟨[22, 23], [], [(24, .ref 1000 (((v17 : Int).toNat) * (eInt .i64).sz + 0))], []⟩,
     ⟨[24], [1000], [(25, .int .i64 x38)], []⟩,
     ⟨[14, 15], [], [(26, .ref 1000 (((v17 : Int).toNat) * (eInt .i64).sz + 0))], []⟩,
     ⟨[21, 26], [1000], [], [(1000, .blk 3 (D.flat (x41.map (eInt .i64).d)))]⟩,
     ⟨[16, 17], [], [(27, .ref 1000 (((v18 : Int).toNat) * (eInt .i64).sz + 0))], []⟩,
     ⟨[25, 27], [1000], [], [(1000, .blk 3 (D.flat (x44.map (eInt .i64).d)))]⟩] rfl ?_ (by kernel_rfl) ?_
    ·refine .cons (lop rfl rfl fun S hA => (iop_move rfl rfl (lb rfl) (sv (d := .osl _ _ _) (agr hA rfl rfl)))) ?_
     refine .cons (lop rfl rfl fun S hA => (iop_move rfl rfl (lb rfl) (svaI hA rfl rfl))) ?_
     refine .cons (lop rfl rfl fun S hA => (iop_move rfl rfl (lb rfl) (sv (d := .osl _ _ _) (agr hA rfl rfl)))) ?_
     refine .cons (lop rfl rfl fun S hA => (iop_move rfl rfl (lb rfl) (svaI hA rfl rfl))) ?_
     refine .cons (lop rfl rfl fun S hA => (iop_move rfl rfl (lb rfl) (sv (d := .osl _ _ _) (agr hA rfl rfl)))) ?_
     refine .cons (lop rfl rfl fun S hA => (iop_move rfl rfl (lb rfl) (svaI hA rfl rfl))) ?_
     refine .cons (lop rfl rfl fun S hA => (iop_idxO (eInt .i64).toEnc0 rfl rfl (lb rfl) Try.underlying23 ti3 (sv (d := .osl _ _ _) (agr hA rfl rfl)) rfl (svaI hA rfl rfl) hx35)) ?_
     refine .cons (lop rfl rfl fun S hA => (iop_loadEs (eInt .i64).toEnc0 (d := .int _ _) rfl rfl (lb rfl) Try.underlying3 ag3 ti3 (by decide) (svaR hA rfl rfl) (agi hA rfl rfl) hx36 (nle rfl) rfl)) ?_
     refine .cons (lop rfl rfl fun S hA => (iop_move rfl rfl (lb rfl) (sv (d := .osl _ _ _) (agr hA rfl rfl)))) ?_
     refine .cons (lop rfl rfl fun S hA => (iop_move rfl rfl (lb rfl) (svaI hA rfl rfl))) ?_
     refine .cons (lop rfl rfl fun S hA => (iop_idxO (eInt .i64).toEnc0 rfl rfl (lb rfl) Try.underlying23 ti3 (sv (d := .osl _ _ _) (agr hA rfl rfl)) rfl (svaI hA rfl rfl) hx37)) ?_
     refine .cons (lop rfl rfl fun S hA => (iop_loadEs (eInt .i64).toEnc0 (d := .int _ _) rfl rfl (lb rfl) Try.underlying3 ag3 ti3 (by decide) (svaR hA rfl rfl) (agi hA rfl rfl) hx38 (nle rfl) rfl)) ?_
     refine .cons (lop rfl rfl fun S hA => (iop_idxO (eInt .i64).toEnc0 rfl rfl (lb rfl) Try.underlying23 ti3 (sv (d := .osl _ _ _) (agr hA rfl rfl)) rfl (svaI hA rfl rfl) hx39)) ?_
     refine .cons (lop rfl rfl fun S hA => (iop_storeE (eInt .i64).toEnc0 (a' := x36) rfl rfl ti3 (svaR hA rfl rfl) (agi hA rfl rfl) (svaI hA rfl rfl) rfl rfl rfl hx40 (nle rfl) rfl hx41)) ?_
     refine .cons (lop rfl rfl fun S hA => (iop_idxO (eInt .i64).toEnc0 rfl rfl (lb rfl) Try.underlying23 ti3 (sv (d := .osl _ _ _) (agr hA rfl rfl)) (len_set hx41 rfl) (svaI hA rfl rfl) hx42)) ?_
     refine .cons (lop rfl rfl fun S hA => (iop_storeE (eInt .i64).toEnc0 (a' := x38) rfl rfl ti3 (svaR hA rfl rfl) (agi hA rfl rfl) (svaI hA rfl rfl) rfl rfl rfl hx43 (nle rfl) rfl hx44)) ?_
     exact .nil
    obtain ⟨x45, hx45, h⟩ := bnd_e h
    refine iwp_reg (ils_cons rfl (mvI rfl rfl rfl rfl) <|
     ils_cons rfl (iop_intx rfl rfl (lb rfl) (svI rfl) (sv (d := .int _ 1) rfl) rfl hx45) <|
     ils_cons rfl (asI rfl rfl rfl rfl) <|
     ils_end ?_)
    obtain ⟨x46, hx46, h⟩ := bnd_e h
    refine iwp_region (ils_cons rfl (mvI rfl rfl rfl rfl) <|
     ils_cons rfl (iop_intx rfl rfl (lb rfl) (svI rfl) (sv (d := .int _ 1) rfl) rfl hx46) <|
     ils_cons rfl (asI rfl rfl rfl rfl) <|
     ils_nil ?_)
    refine blockQ_n ?_
    refine thenQ_n ⟨(n0, x44, x45, x46), (fun i => i), ⟨(.cons (.same (congrArg (D.osl _ _) (len_set hx44 (len_set hx41 rfl)).symm) rfl) (.sames rfl rfl)), (.cons (EntW.lst rfl) .nil), nd_of [1000] rfl (by decide), fun _ _ => rfl⟩, ?_, ?_⟩
    exact h
    exact Nat.lt_succ_self _
   ·
    replace h := bif_f h hc34
    refine iwp_exit ?_
    refine thenQ_e ?_
    refine thenQ_e ?_
    refine blockQ_e ?_
    obtain rfl := Option.some.inj h
    refine ⟨.inl rfl, (fun i => i), ⟨.nil, (.cons (EntW.lst rfl) .nil), nd_of [1000] rfl (by decide), fun _ _ => rfl⟩, .nil, rfl⟩

theorem p_slices_partialInsertionSortOrdered_int_h (a0 : Int) (a1 : Int) (a2 : (List Int)) (r : (Bool × (List Int))) (h : slices_partialInsertionSortOrdered_int_h a0 a1 a2 = some r) : FnH Try.prog 86 [.osl 1000 (eInt .i64).sz a2.length, .int .i64 a0, .int .i64 a1] [(1000, .blk 3 (D.flat (a2.map (eInt .i64).d)))] (.bool r.1) [(1000, .blk 3 (D.flat (r.2.map (eInt .i64).d)))] := by
 refine fnh_of_iwp (rs := [.bool r.1]) Try.func86 rfl Try.ntmps86 (nle rfl) fun O hO => ?_
 show IWP _ _ _ _ ⟨[(0, .osl 1000 (eInt .i64).sz a2.length), (1, .int .i64 a0), (2, .int .i64 a1)], [(1000, .blk 3 (D.flat (a2.map (eInt .i64).d)))]⟩ _
 unfold slices_partialInsertionSortOrdered_int_h at h
 refine iwp_reg (ils_cons rfl (iop_assign rfl rfl (lb rfl) (sv (d := .bool false) rfl)) <|
  ils_end ?_)
 obtain ⟨x1, hx1, h⟩ := bnd_e h
 refine iwp_reg (ils_cons rfl (mvI rfl rfl rfl rfl) <|
  ils_cons rfl (iop_intx rfl rfl (lb rfl) (svI rfl) (sv (d := .int _ 1) rfl) rfl hx1) <|
  ils_cons rfl (asI rfl rfl rfl rfl) <|
  ils_end ?_)
 refine iwp_seq ?_
 refine iwp_reg (ils_cons rfl (iop_assign rfl rfl (lb rfl) (sv (d := .int _ 0) rfl)) <|
  ils_end ?_)
 refine iwp_block ?_
 refine iwp_loopP (α := Nat × (List Int) × Int × Int) (fun z => ⟨[(0, .osl 1000 (eInt .i64).sz z.2.1.length), (1, .int .i64 a0), (2, .int .i64 a1), (7, .int .i64 z.2.2.1), (8, .int .i64 z.2.2.2)], [(1000, .blk 3 (D.flat (z.2.1.map (eInt .i64).d)))]⟩) (fun z => slices_partialInsertionSortOrdered_int_h_L0 a0 a1 z.1 z.2.1 z.2.2.1 z.2.2.2 = some r) (fun z => z.1) (fuel, a2, x1, 0) (fun i => i) ⟨(.sames rfl rfl), (.cons (EntW.lst rfl) .nil), nd_of [1000] rfl (by decide), fun _ _ => rfl⟩ ?_ ?_
 ·exact h
 ·
  rintro ⟨n0, v272, v273, v274⟩ h
  cases n0 with
  | zero => exact absurd h (by unfold slices_partialInsertionSortOrdered_int_h_L0; exact nofun)
  | succ n0 =>
   unfold slices_partialInsertionSortOrdered_int_h_L0 at h
   refine iwp_seq ?_
   obtain ⟨x545, hx545, h⟩ := bnd_e h
   refine iwp_reg (ils_cons rfl (mvI rfl rfl rfl rfl) <|
    ils_cons rfl (iop_cmpx rfl rfl (lb rfl) (svI rfl) (sv (d := .int _ 5) rfl) rfl hx545) <|
    ils_end ?_)
   refine iwp_cond (b := _) rfl (fun hc546 => ?_) (fun hc546 => ?_)
   ·
    replace h := bif_t h hc546
    refine iwp_skip ?_
    refine thenQ_n ?_
    refine iwp_seq ?_
    refine iwp_block ?_
    refine iwp_seq ?_
    refine iwp_block ?_
    refine iwp_loopP (α := Nat × Int) (fun z => ⟨[(0, .osl 1000 (eInt .i64).sz v272.length), (1, .int .i64 a0), (2, .int .i64 a1), (7, .int .i64 z.2), (8, .int .i64 v274)], [(1000, .blk 3 (D.flat (v272.map (eInt .i64).d)))]⟩) (fun z => slices_partialInsertionSortOrdered_int_h_L1 a0 a1 v272 v274 (slices_partialInsertionSortOrdered_int_h_L0 a0 a1 n0) z.1 z.2 = some r) (fun z => z.1) (fuel, v273) (fun i => i) ⟨(.sames rfl rfl), (.cons (EntW.lst rfl) .nil), nd_of [1000] rfl (by decide), fun _ _ => rfl⟩ ?_ ?_
    ·exact h
    ·
     rintro ⟨n1, v557⟩ h
     cases n1 with
     | zero => exact absurd h (by unfold slices_partialInsertionSortOrdered_int_h_L1; exact nofun)
     | succ n1 =>
      unfold slices_partialInsertionSortOrdered_int_h_L1 at h
      refine iwp_seq ?_
      obtain ⟨x568, hx568, h⟩ := bnd_e h
      obtain ⟨x569, hx569, h⟩ := bno_e h
      obtain ⟨x570, hx570, h⟩ := bno_e h
      obtain ⟨x571, hx571, h⟩ := bnd_e h
      obtain ⟨x572, hx572, h⟩ := bno_e h
      obtain ⟨x573, hx573, h⟩ := bno_e h
      obtain ⟨x574, hx574, h⟩ := bno_e h
      obtain ⟨x575, hx575, h⟩ := bnd_e h
      refine iwp_drw rfl [⟨[7], [], [(17, .int .i64 v557)], []⟩,
       ⟨[2], [], [(18, .int .i64 a1)], []⟩,
       ⟨[17, 18], [], [(19, .bool x568)], []⟩,
       ⟨[19], [], [(20, .bool x568)], []⟩,
       ⟨[0, 20], [], [(21, .cnd (x568 == true) (.osl 1000 (eInt .i64).sz v272.length))], []⟩,
       ⟨[7, 20], [], [(22, .cnd (x568 == true) (.int .i64 v557))], []⟩,
       ⟨[20, 21, 22], [], [(23, .cnd (x568 == true) (.ref 1000 (((v557 : Int).toNat) * (eInt .i64).sz + 0)))], []⟩,
       ⟨[20, 23], [1000], [(24, .cnd (x568 == true) (.int .i64 x570))], []⟩,
       ⟨[0, 20], [], [(25, .cnd (x568 == true) (.osl 1000 (eInt .i64).sz v272.length))], []⟩,
       ⟨[7, 20], [], [(26, .cnd (x568 == true) (.int .i64 v557))], []⟩,
       ⟨[20, 26], [], [(27, .cnd (x568 == true) (.int .i64 x571))], []⟩,
       ⟨[20, 25, 27], [], [(28, .cnd (x568 == true) (.ref 1000 (((x571 : Int).toNat) * (eInt .i64).sz + 0)))], []⟩,
       ⟨[20, 28], [1000], [(29, .cnd (x568 == true) (.int .i64 x573))], []⟩,
       ⟨[20, 24, 29], [], [(30, .cnd (x568 == true) (.bool x574))], []⟩,
       ⟨[20, 30], [], [(31, .cnd (x568 == true) (.bool (!x574)))], []⟩,
       ⟨[20, 31], [], [(32, .bool x575)], []⟩] rfl ?_ (by kernel_rfl) ?_
      ·refine .cons (lop rfl rfl fun S hA => (iop_move rfl rfl (lb rfl) (svaI hA rfl rfl))) ?_
       refine .cons (lop rfl rfl fun S hA => (iop_move rfl rfl (lb rfl) (svaI hA rfl rfl))) ?_
       refine .cons (lop rfl rfl fun S hA => (iop_cmpx rfl rfl (lb rfl) (svaI hA rfl rfl) (svaI hA rfl rfl) rfl hx568)) ?_
       refine .cons (lop rfl rfl fun S hA => (iop_move rfl rfl (lb rfl) (svaB hA rfl rfl))) ?_
       refine .cons (lopg rfl rfl rfl rfl (by decide) (fun S hA => grd1 hA rfl rfl) (fun S hA hb => (iop_move rfl rfl (lb rfl) (sv (d := .osl _ _ _) (agr hA rfl rfl))))) ?_
       refine .cons (lopg rfl rfl rfl rfl (by decide) (fun S hA => grd1 hA rfl rfl) (fun S hA hb => (iop_move rfl rfl (lb rfl) (svaI hA rfl rfl)))) ?_
       refine .cons (lopg rfl rfl rfl rfl (by decide) (fun S hA => grd1 hA rfl rfl) (fun S hA hb => (iop_idxO (eInt .i64).toEnc0 rfl rfl (lb rfl) Try.underlying23 ti3 (svc (d := .osl _ _ _) (agr hA rfl rfl) hb) rfl (svc (d := .int _ _) (agr hA rfl rfl) hb) (gd_t hx569 hb)))) ?_
       refine .cons (lopg rfl rfl rfl rfl (by decide) (fun S hA => grd1 hA rfl rfl) (fun S hA hb => (iop_loadEs (eInt .i64).toEnc0 (d := .int _ _) rfl rfl (lb rfl) Try.underlying3 ag3 ti3 (by decide) (svc (d := .ref _ _) (agr hA rfl rfl) hb) (agi hA rfl rfl) (gd_t hx570 hb) (nle rfl) rfl))) ?_
       refine .cons (lopg rfl rfl rfl rfl (by decide) (fun S hA => grd1 hA rfl rfl) (fun S hA hb => (iop_move rfl rfl (lb rfl) (sv (d := .osl _ _ _) (agr hA rfl rfl))))) ?_
       refine .cons (lopg rfl rfl rfl rfl (by decide) (fun S hA => grd1 hA rfl rfl) (fun S hA hb => (iop_move rfl rfl (lb rfl) (svaI hA rfl rfl)))) ?_
       refine .cons (lopg rfl rfl rfl rfl (by decide) (fun S hA => grd1 hA rfl rfl) (fun S hA hb => (iop_intx rfl rfl (lb rfl) (svc (d := .int _ _) (agr hA rfl rfl) hb) (sv (d := .int _ 1) rfl) rfl hx571))) ?_
       refine .cons (lopg rfl rfl rfl rfl (by decide) (fun S hA => grd1 hA rfl rfl) (fun S hA hb => (iop_idxO (eInt .i64).toEnc0 rfl rfl (lb rfl) Try.underlying23 ti3 (svc (d := .osl _ _ _) (agr hA rfl rfl) hb) rfl (svc (d := .int _ _) (agr hA rfl rfl) hb) (gd_t hx572 hb)))) ?_
       refine .cons (lopg rfl rfl rfl rfl (by decide) (fun S hA => grd1 hA rfl rfl) (fun S hA hb => (iop_loadEs (eInt .i64).toEnc0 (d := .int _ _) rfl rfl (lb rfl) Try.underlying3 ag3 ti3 (by decide) (svc (d := .ref _ _) (agr hA rfl rfl) hb) (agi hA rfl rfl) (gd_t hx573 hb) (nle rfl) rfl))) ?_
       refine .cons (lopg rfl rfl rfl rfl (by decide) (fun S hA => grd1 hA rfl rfl) (fun S hA hb => (iop_call (r := .bool _) rfl rfl (lb rfl) cl87 (.cons (svc (d := .int _ _) (agr hA rfl rfl) hb) (.cons (svc (d := .int _ _) (agr hA rfl rfl) hb) .nil)) rfl (p_cmp_Less_int _ _ _ (gd_t hx574 hb))))) ?_
       refine .cons (lopg rfl rfl rfl rfl (by decide) (fun S hA => grd1 hA rfl rfl) (fun S hA hb => (iop_not rfl rfl (lb rfl) (svc (d := .bool _) (agr hA rfl rfl) hb)))) ?_
       refine .cons (lop rfl rfl fun S hA => (iop_andx rfl rfl (lb rfl) (svaB hA rfl rfl) (agr hA rfl rfl) rfl hx575)) ?_
       exact .nil
      refine iwp_cond (b := _) rfl (fun hc576 => ?_) (fun hc576 => ?_)
      ·
       replace h := bif_t h hc576
       refine iwp_skip ?_
       refine thenQ_n ?_
       refine iwp_block ?_
       obtain ⟨x577, hx577, h⟩ := bnd_e h
       refine iwp_region (ils_cons rfl (mvI rfl rfl rfl rfl) <|
        ils_cons rfl (iop_intx rfl rfl (lb rfl) (svI rfl) (sv (d := .int _ 1) rfl) rfl hx577) <|
        ils_cons rfl (asI rfl rfl rfl rfl) <|
        ils_nil ?_)
       refine blockQ_n ?_
       refine thenQ_n ⟨(n1, x577), (fun i => i), ⟨(.sames rfl rfl), (.cons (EntW.lst rfl) .nil), nd_of [1000] rfl (by decide), fun _ _ => rfl⟩, ?_, ?_⟩
       exact h
       exact Nat.lt_succ_self _
      ·
       replace h := bif_f h hc576
       refine iwp_exit ?_
       refine thenQ_e ?_
       refine thenQ_e ?_
       refine blockQ_e ?_
       refine thenQ_n ?_
       refine iwp_seq ?_
       obtain ⟨x578, hx578, h⟩ := bnd_e h
       refine iwp_reg (ils_cons rfl (mvI rfl rfl rfl rfl) <|
        ils_cons rfl (mvI rfl rfl rfl rfl) <|
        ils_cons rfl (iop_cmpx rfl rfl (lb rfl) (svI rfl) (svI rfl) rfl hx578) <|
        ils_end ?_)
       refine iwp_cond (b := _) rfl (fun hc579 => ?_) (fun hc579 => ?_)
       ·
        replace h := bif_t h hc579
        refine iwp_reg (ils_cons rfl (iop_assign rfl rfl (lb rfl) (sv (d := .bool true) rfl)) <|
         ils_end ?_)
        refine iwp_ret ?_
        refine thenQ_r ?_
        refine blockQ_r ?_
        refine thenQ_r ?_
        refine thenQ_r ?_
        refine blockQ_r ?_
        refine thenQ_r ?_
        obtain rfl := Option.some.inj h
        refine ⟨.inr rfl, (fun i => i), ⟨.nil, (.cons (EntW.lst rfl) .nil), nd_of [1000] rfl (by decide), fun _ _ => rfl⟩, (.cons (sv rfl) .nil), rfl⟩
       ·
        replace h := bif_f h hc579
        refine iwp_skip ?_
        refine thenQ_n ?_
        refine iwp_seq ?_
        obtain ⟨x580, hx580, h⟩ := bnd_e h
        obtain ⟨x581, hx581, h⟩ := bnd_e h
        refine iwp_reg (ils_cons rfl (mvI rfl rfl rfl rfl) <|
         ils_cons rfl (mvI rfl rfl rfl rfl) <|
         ils_cons rfl (iop_intx rfl rfl (lb rfl) (svI rfl) (svI rfl) rfl hx580) <|
         ils_cons rfl (iop_cmpx rfl rfl (lb rfl) (svI rfl) (sv (d := .int _ 50) rfl) rfl hx581) <|
         ils_end ?_)
        refine iwp_cond (b := _) rfl (fun hc582 => ?_) (fun hc582 => ?_)
        ·
         replace h := bif_t h hc582
         refine iwp_reg (ils_cons rfl (iop_assign rfl rfl (lb rfl) (sv (d := .bool false) rfl)) <|
          ils_end ?_)
         refine iwp_ret ?_
         refine thenQ_r ?_
         refine blockQ_r ?_
         refine thenQ_r ?_
         refine thenQ_r ?_
         refine blockQ_r ?_
         refine thenQ_r ?_
         obtain rfl := Option.some.inj h
         refine ⟨.inr rfl, (fun i => i), ⟨.nil, (.cons (EntW.lst rfl) .nil), nd_of [1000] rfl (by decide), fun _ _ => rfl⟩, (.cons (sv rfl) .nil), rfl⟩
        ·
         replace h := bif_f h hc582
         refine iwp_skip ?_
         refine thenQ_n ?_
         obtain ⟨x583, hx583, h⟩ := bnd_e h
         obtain ⟨x584, hx584, h⟩ := bnd_e h
         obtain ⟨x585, hx585, h⟩ := bno_e h
         obtain ⟨x586, hx586, h⟩ := bno_e h
         obtain ⟨x587, hx587, h⟩ := bno_e h
         obtain ⟨x588, hx588, h⟩ := bno_e h
         obtain ⟨x589, hx589, h⟩ := bno_e h
         obtain ⟨x590, hx590, h⟩ := bno_e h
         obtain ⟨x591, hx591, h⟩ := bnd_e h
         obtain ⟨x592, hx592, h⟩ := bno_e h
         obtain ⟨x593, hx593, h⟩ := bno_e h
         obtain ⟨x594, hx594, h⟩ := bnd_e h
         refine iwp_drw rfl [⟨[0], [], [(42, .osl 1000 (eInt .i64).sz v272.length)], []⟩,
          ⟨[7], [], [(43, .int .i64 v557)], []⟩,
          ⟨[0], [], [(44, .osl 1000 (eInt .i64).sz v272.length)], []⟩,
          ⟨[7], [], [(45, .int .i64 v557)], []⟩,
          ⟨[45], [], [(46, .int .i64 x583)], []⟩,
          ⟨[0], [], [(47, .osl 1000 (eInt .i64).sz v272.length)], []⟩,
          ⟨[7], [], [(48, .int .i64 v557)], []⟩,
          ⟨[48], [], [(49, .int .i64 x584)], []⟩,
          ⟨[47, 49], [], [(50, .ref 1000 (((x584 : Int).toNat) * (eInt .i64).sz + 0))], []⟩,
          ⟨[50], [1000], [(51, .int .i64 x586)], []⟩,
          ⟨[0], [], [(52, .osl 1000 (eInt .i64).sz v272.length)], []⟩,
          ⟨[7], [], [(53, .int .i64 v557)], []⟩,
          ⟨[52, 53], [], [(54, .ref 1000 (((v557 : Int).toNat) * (eInt .i64).sz + 0))], []⟩,
          ⟨[54], [1000], [(55, .int .i64 x588)], []⟩,
          ⟨[42, 43], [], [(56, .ref 1000 (((v557 : Int).toNat) * (eInt .i64).sz + 0))], []⟩,
          ⟨[51, 56], [1000], [], [(1000, .blk 3 (D.flat (x591.map (eInt .i64).d)))]⟩,
          ⟨[44, 46], [], [(57, .ref 1000 (((x583 : Int).toNat) * (eInt .i64).sz + 0))], []⟩,
          ⟨[55, 57], [1000], [], [(1000, .blk 3 (D.flat (x594.map (eInt .i64).d)))]⟩] rfl ?_ (by kernel_rfl) ?_
         ·refine .cons (lop rfl rfl fun S hA => (iop_move rfl rfl (lb rfl) (sv (d := .osl _ _ _) (agr hA rfl rfl)))) ?_
          refine .cons (lop rfl rfl fun S hA => (iop_move rfl rfl (lb rfl) (svaI hA rfl rfl))) ?_
          refine .cons (lop rfl rfl fun S hA => (iop_move rfl rfl (lb rfl) (sv (d := .osl _ _ _) (agr hA rfl rfl)))) ?_
          refine .cons (lop rfl rfl fun S hA => (iop_move rfl rfl (lb rfl) (svaI hA rfl rfl))) ?_
          refine .cons (lop rfl rfl fun S hA => (iop_intx rfl rfl (lb rfl) (svaI hA rfl rfl) (sv (d := .int _ 1) rfl) rfl hx583)) ?_
          refine .cons (lop rfl rfl fun S hA => (iop_move rfl rfl (lb rfl) (sv (d := .osl _ _ _) (agr hA rfl rfl)))) ?_
          refine .cons (lop rfl rfl fun S hA => (iop_move rfl rfl (lb rfl) (svaI hA rfl rfl))) ?_
          refine .cons (lop rfl rfl fun S hA => (iop_intx rfl rfl (lb rfl) (svaI hA rfl rfl) (sv (d := .int _ 1) rfl) rfl hx584)) ?_
          refine .cons (lop rfl rfl fun S hA => (iop_idxO (eInt .i64).toEnc0 rfl rfl (lb rfl) Try.underlying23 ti3 (sv (d := .osl _ _ _) (agr hA rfl rfl)) rfl (svaI hA rfl rfl) hx585)) ?_
          refine .cons (lop rfl rfl fun S hA => (iop_loadEs (eInt .i64).toEnc0 (d := .int _ _) rfl rfl (lb rfl) Try.underlying3 ag3 ti3 (by decide) (svaR hA rfl rfl) (agi hA rfl rfl) hx586 (nle rfl) rfl)) ?_
          refine .cons (lop rfl rfl fun S hA => (iop_move rfl rfl (lb rfl) (sv (d := .osl _ _ _) (agr hA rfl rfl)))) ?_
          refine .cons (lop rfl rfl fun S hA => (iop_move rfl rfl (lb rfl) (svaI hA rfl rfl))) ?_
          refine .cons (lop rfl rfl fun S hA => (iop_idxO (eInt .i64).toEnc0 rfl rfl (lb rfl) Try.underlying23 ti3 (sv (d := .osl _ _ _) (agr hA rfl rfl)) rfl (svaI hA rfl rfl) hx587)) ?_
          refine .cons (lop rfl rfl fun S hA => (iop_loadEs (eInt .i64).toEnc0 (d := .int _ _) rfl rfl (lb rfl) Try.underlying3 ag3 ti3 (by decide) (svaR hA rfl rfl) (agi hA rfl rfl) hx588 (nle rfl) rfl)) ?_
          refine .cons (lop rfl rfl fun S hA => (iop_idxO (eInt .i64).toEnc0 rfl rfl (lb rfl) Try.underlying23 ti3 (sv (d := .osl _ _ _) (agr hA rfl rfl)) rfl (svaI hA rfl rfl) hx589)) ?_
          refine .cons (lop rfl rfl fun S hA => (iop_storeE (eInt .i64).toEnc0 (a' := x586) rfl rfl ti3 (svaR hA rfl rfl) (agi hA rfl rfl) (svaI hA rfl rfl) rfl rfl rfl hx590 (nle rfl) rfl hx591)) ?_
          refine .cons (lop rfl rfl fun S hA => (iop_idxO (eInt .i64).toEnc0 rfl rfl (lb rfl) Try.underlying23 ti3 (sv (d := .osl _ _ _) (agr hA rfl rfl)) (len_set hx591 rfl) (svaI hA rfl rfl) hx592)) ?_
          refine .cons (lop rfl rfl fun S hA => (iop_storeE (eInt .i64).toEnc0 (a' := x588) rfl rfl ti3 (svaR hA rfl rfl) (agi hA rfl rfl) (svaI hA rfl rfl) rfl rfl rfl hx593 (nle rfl) rfl hx594)) ?_
          exact .nil
         refine iwp_join (α := (List Int)) (fun z => ⟨[(0, .osl 1000 (eInt .i64).sz z.length), (1, .int .i64 a0), (2, .int .i64 a1), (7, .int .i64 v557), (8, .int .i64 v274)], [(1000, .blk 3 (D.flat (z.map (eInt .i64).d)))]⟩) (fun z => slices_partialInsertionSortOrdered_int_h_J3 a1 v274 (slices_partialInsertionSortOrdered_int_h_L0 a0 a1 n0) v557 z = some r) ?_ ?_
         ·
          obtain ⟨x743, hx743, h⟩ := bnd_e h
          obtain ⟨x744, hx744, h⟩ := bnd_e h
          refine iwp_reg (ils_cons rfl (mvI rfl rfl rfl rfl) <|
           ils_cons rfl (mvI rfl rfl rfl rfl) <|
           ils_cons rfl (iop_intx rfl rfl (lb rfl) (svI rfl) (svI rfl) rfl hx743) <|
           ils_cons rfl (iop_cmpx rfl rfl (lb rfl) (svI rfl) (sv (d := .int _ 2) rfl) rfl hx744) <|
           ils_end ?_)
          refine iwp_cond (b := _) rfl (fun hc745 => ?_) (fun hc745 => ?_)
          ·
           replace h := bif_t h hc745
           obtain ⟨x746, hx746, h⟩ := bnd_e h
           refine iwp_reg (ils_cons rfl (mvI rfl rfl rfl rfl) <|
            ils_cons rfl (iop_intx rfl rfl (lb rfl) (svI rfl) (sv (d := .int _ 1) rfl) rfl hx746) <|
            ils_cons rfl (asI rfl rfl rfl rfl) <|
            ils_end ?_)
           refine iwp_block ?_
           refine iwp_loopP (α := Nat × (List Int) × Int) (fun z => ⟨[(0, .osl 1000 (eInt .i64).sz z.2.1.length), (1, .int .i64 a0), (2, .int .i64 a1), (7, .int .i64 v557), (8, .int .i64 v274), (9, .int .i64 z.2.2)], [(1000, .blk 3 (D.flat (z.2.1.map (eInt .i64).d)))]⟩) (fun z => slices_partialInsertionSortOrdered_int_h_L5 a1 v274 (slices_partialInsertionSortOrdered_int_h_L0 a0 a1 n0) v557 z.1 z.2.1 z.2.2 = some r) (fun z => z.1) (fuel, x594, x746) (fun i => i) ⟨(.cons (.same (congrArg (D.osl _ _) (len_set hx594 (len_set hx591 rfl)).symm) rfl) (.sames rfl rfl)), (.cons (EntW.lst rfl) .nil), nd_of [1000] rfl (by decide), fun _ _ => rfl⟩ ?_ ?_
           ·exact h
           ·
            rintro ⟨n5, v769, v770⟩ h
            cases n5 with
            | zero => exact absurd h (by unfold slices_partialInsertionSortOrdered_int_h_L5; exact nofun)
            | succ n5 =>
             unfold slices_partialInsertionSortOrdered_int_h_L5 at h
             refine iwp_seq ?_
             obtain ⟨x793, hx793, h⟩ := bnd_e h
             refine iwp_reg (ils_cons rfl (mvI rfl rfl rfl rfl) <|
              ils_cons rfl (iop_cmpx rfl rfl (lb rfl) (svI rfl) (sv (d := .int _ 1) rfl) rfl hx793) <|
              ils_end ?_)
             refine iwp_cond (b := _) rfl (fun hc794 => ?_) (fun hc794 => ?_)
             ·
              replace h := bif_t h hc794
              refine iwp_skip ?_
              refine thenQ_n ?_
              refine iwp_seq ?_
              refine iwp_block ?_
              refine iwp_seq ?_
              obtain ⟨x795, hx795, h⟩ := bno_e h
              obtain ⟨x796, hx796, h⟩ := bno_e h
              obtain ⟨x797, hx797, h⟩ := bnd_e h
              obtain ⟨x798, hx798, h⟩ := bno_e h
              obtain ⟨x799, hx799, h⟩ := bno_e h
              obtain ⟨x800, hx800, h⟩ := bno_e h
              refine iwp_drw rfl [⟨[0], [], [(68, .osl 1000 (eInt .i64).sz v769.length)], []⟩,
               ⟨[9], [], [(69, .int .i64 v770)], []⟩,
               ⟨[68, 69], [], [(70, .ref 1000 (((v770 : Int).toNat) * (eInt .i64).sz + 0))], []⟩,
               ⟨[70], [1000], [(71, .int .i64 x796)], []⟩,
               ⟨[0], [], [(72, .osl 1000 (eInt .i64).sz v769.length)], []⟩,
               ⟨[9], [], [(73, .int .i64 v770)], []⟩,
               ⟨[73], [], [(74, .int .i64 x797)], []⟩,
               ⟨[72, 74], [], [(75, .ref 1000 (((x797 : Int).toNat) * (eInt .i64).sz + 0))], []⟩,
               ⟨[75], [1000], [(76, .int .i64 x799)], []⟩,
               ⟨[71, 76], [], [(77, .bool x800)], []⟩,
               ⟨[77], [], [(78, .bool (!x800))], []⟩] rfl ?_ (by kernel_rfl) ?_
              ·refine .cons (lop rfl rfl fun S hA => (iop_move rfl rfl (lb rfl) (sv (d := .osl _ _ _) (agr hA rfl rfl)))) ?_
               refine .cons (lop rfl rfl fun S hA => (iop_move rfl rfl (lb rfl) (svaI hA rfl rfl))) ?_
               refine .cons (lop rfl rfl fun S hA => (iop_idxO (eInt .i64).toEnc0 rfl rfl (lb rfl) Try.underlying23 ti3 (sv (d := .osl _ _ _) (agr hA rfl rfl)) rfl (svaI hA rfl rfl) hx795)) ?_
               refine .cons (lop rfl rfl fun S hA => (iop_loadEs (eInt .i64).toEnc0 (d := .int _ _) rfl rfl (lb rfl) Try.underlying3 ag3 ti3 (by decide) (svaR hA rfl rfl) (agi hA rfl rfl) hx796 (nle rfl) rfl)) ?_
               refine .cons (lop rfl rfl fun S hA => (iop_move rfl rfl (lb rfl) (sv (d := .osl _ _ _) (agr hA rfl rfl)))) ?_
               refine .cons (lop rfl rfl fun S hA => (iop_move rfl rfl (lb rfl) (svaI hA rfl rfl))) ?_
               refine .cons (lop rfl rfl fun S hA => (iop_intx rfl rfl (lb rfl) (svaI hA rfl rfl) (sv (d := .int _ 1) rfl) rfl hx797)) ?_
               refine .cons (lop rfl rfl fun S hA => (iop_idxO (eInt .i64).toEnc0 rfl rfl (lb rfl) Try.underlying23 ti3 (sv (d := .osl _ _ _) (agr hA rfl rfl)) rfl (svaI hA rfl rfl) hx798)) ?_
               refine .cons (lop rfl rfl fun S hA => (iop_loadEs (eInt .i64).toEnc0 (d := .int _ _) rfl rfl (lb rfl) Try.underlying3 ag3 ti3 (by decide) (svaR hA rfl rfl) (agi hA rfl rfl) hx799 (nle rfl) rfl)) ?_
               refine .cons (lop rfl rfl fun S hA => (iop_call (r := .bool _) rfl rfl (lb rfl) cl87 (.cons (svaI hA rfl rfl) (.cons (svaI hA rfl rfl) .nil)) rfl (p_cmp_Less_int _ _ _ hx800))) ?_
               refine .cons (lop rfl rfl fun S hA => (iop_not rfl rfl (lb rfl) (svaB hA rfl rfl))) ?_
               exact .nil
              refine iwp_cond (b := _) rfl (fun hc801 => ?_) (fun hc801 => ?_)
              ·
               replace h := bif_t h hc801
               refine iwp_exit ?_
               refine thenQ_e ?_
               refine blockQ_x rfl ?_
               refine thenQ_e ?_
               refine thenQ_e ?_
               refine blockQ_e ?_
               refine thenQ_n ⟨v769, (fun i => i), ⟨(.sames rfl rfl), (.cons (EntW.lst rfl) .nil), nd_of [1000] rfl (by decide), fun _ _ => rfl⟩, ?_⟩
               exact h
              ·
               replace h := bif_f h hc801
               refine iwp_skip ?_
               refine thenQ_n ?_
               obtain ⟨x802, hx802, h⟩ := bnd_e h
               obtain ⟨x803, hx803, h⟩ := bnd_e h
               obtain ⟨x804, hx804, h⟩ := bno_e h
               obtain ⟨x805, hx805, h⟩ := bno_e h
               obtain ⟨x806, hx806, h⟩ := bno_e h
               obtain ⟨x807, hx807, h⟩ := bno_e h
               obtain ⟨x808, hx808, h⟩ := bno_e h
               obtain ⟨x809, hx809, h⟩ := bno_e h
               obtain ⟨x810, hx810, h⟩ := bnd_e h
               obtain ⟨x811, hx811, h⟩ := bno_e h
               obtain ⟨x812, hx812, h⟩ := bno_e h
               obtain ⟨x813, hx813, h⟩ := bnd_e h
               refine iwp_draw rfl [⟨[0], [], [(79, .osl 1000 (eInt .i64).sz v769.length)], []⟩,
                ⟨[9], [], [(80, .int .i64 v770)], []⟩,
                ⟨[0], [], [(81, .osl 1000 (eInt .i64).sz v769.length)], []⟩,
                ⟨[9], [], [(82, .int .i64 v770)], []⟩,
                ⟨[82], [], [(83, .int .i64 x802)], []⟩,
                ⟨[0], [], [(84, .osl 1000 (eInt .i64).sz v769.length)], []⟩,
                ⟨[9], [], [(85, .int .i64 v770)], []⟩,
                ⟨[85], [], [(86, .int .i64 x803)], []⟩,
                ⟨[84, 86], [], [(87, .ref 1000 (((x803 : Int).toNat) * (eInt .i64).sz + 0))], []⟩,
                ⟨[87], [1000], [(88, .int .i64 x805)], []⟩,
                ⟨[0], [], [(89, .osl 1000 (eInt .i64).sz v769.length)], []⟩,
                ⟨[9], [], [(90, .int .i64 v770)], []⟩,
                ⟨[89, 90], [], [(91, .ref 1000 (((v770 : Int).toNat) * (eInt .i64).sz + 0))], []⟩,
                ⟨[91], [1000], [(92, .int .i64 x807)], []⟩,
                ⟨[79, 80], [], [(93, .ref 1000 (((v770 : Int).toNat) * (eInt .i64).sz + 0))], []⟩,
                ⟨[88, 93], [1000], [], [(1000, .blk 3 (D.flat (x810.map (eInt .i64).d)))]⟩,
                ⟨[81, 83], [], [(94, .ref 1000 (((x802 : Int).toNat) * (eInt .i64).sz + 0))], []⟩,
                ⟨[92, 94], [1000], [], [(1000, .blk 3 (D.flat (x813.map (eInt .i64).d)))]⟩] rfl ?_ (by kernel_rfl) ?_
               ·refine .cons (lop rfl rfl fun S hA => (iop_move rfl rfl (lb rfl) (sv (d := .osl _ _ _) (agr hA rfl rfl)))) ?_
                refine .cons (lop rfl rfl fun S hA => (iop_move rfl rfl (lb rfl) (svaI hA rfl rfl))) ?_
                refine .cons (lop rfl rfl fun S hA => (iop_move rfl rfl (lb rfl) (sv (d := .osl _ _ _) (agr hA rfl rfl)))) ?_
                refine .cons (lop rfl rfl fun S hA => (iop_move rfl rfl (lb rfl) (svaI hA rfl rfl))) ?_
                refine .cons (lop rfl rfl fun S hA => (iop_intx rfl rfl (lb rfl) (svaI hA rfl rfl) (sv (d := .int _ 1) rfl) rfl hx802)) ?_
                refine .cons (lop rfl rfl fun S hA => (iop_move rfl rfl (lb rfl) (sv (d := .osl _ _ _) (agr hA rfl rfl)))) ?_
                refine .cons (lop rfl rfl fun S hA => (iop_move rfl rfl (lb rfl) (svaI hA rfl rfl))) ?_
                refine .cons (lop rfl rfl fun S hA => (iop_intx rfl rfl (lb rfl) (svaI hA rfl rfl) (sv (d := .int _ 1) rfl) rfl hx803)) ?_
                refine .cons (lop rfl rfl fun S hA => (iop_idxO (eInt .i64).toEnc0 rfl rfl (lb rfl) Try.underlying23 ti3 (sv (d := .osl _ _ _) (agr hA rfl rfl)) rfl (svaI hA rfl rfl) hx804)) ?_
                refine .cons (lop rfl rfl fun S hA => (iop_loadEs (eInt .i64).toEnc0 (d := .int _ _) rfl rfl (lb rfl) Try.underlying3 ag3 ti3 (by decide) (svaR hA rfl rfl) (agi hA rfl rfl) hx805 (nle rfl) rfl)) ?_
                refine .cons (lop rfl rfl fun S hA => (iop_move rfl rfl (lb rfl) (sv (d := .osl _ _ _) (agr hA rfl rfl)))) ?_
                refine .cons (lop rfl rfl fun S hA => (iop_move rfl rfl (lb rfl) (svaI hA rfl rfl))) ?_
                refine .cons (lop rfl rfl fun S hA => (iop_idxO (eInt .i64).toEnc0 rfl rfl (lb rfl) Try.underlying23 ti3 (sv (d := .osl _ _ _) (agr hA rfl rfl)) rfl (svaI hA rfl rfl) hx806)) ?_
                refine .cons (lop rfl rfl fun S hA => (iop_loadEs (eInt .i64).toEnc0 (d := .int _ _) rfl rfl (lb rfl) Try.underlying3 ag3 ti3 (by decide) (svaR hA rfl rfl) (agi hA rfl rfl) hx807 (nle rfl) rfl)) ?_
                refine .cons (lop rfl rfl fun S hA => (iop_idxO (eInt .i64).toEnc0 rfl rfl (lb rfl) Try.underlying23 ti3 (sv (d := .osl _ _ _) (agr hA rfl rfl)) rfl (svaI hA rfl rfl) hx808)) ?_
                refine .cons (lop rfl rfl fun S hA => (iop_storeE (eInt .i64).toEnc0 (a' := x805) rfl rfl ti3 (svaR hA rfl rfl) (agi hA rfl rfl) (svaI hA rfl rfl) rfl rfl rfl hx809 (nle rfl) rfl hx810)) ?_
                refine .cons (lop rfl rfl fun S hA => (iop_idxO (eInt .i64).toEnc0 rfl rfl (lb rfl) Try.underlying23 ti3 (sv (d := .osl _ _ _) (agr hA rfl rfl)) (len_set hx810 rfl) (svaI hA rfl rfl) hx811)) ?_
                refine .cons (lop rfl rfl fun S hA => (iop_storeE (eInt .i64).toEnc0 (a' := x807) rfl rfl ti3 (svaR hA rfl rfl) (agi hA rfl rfl) (svaI hA rfl rfl) rfl rfl rfl hx812 (nle rfl) rfl hx813)) ?_
                exact .nil
               refine blockQ_n ?_
               refine thenQ_n ?_
               obtain ⟨x814, hx814, h⟩ := bnd_e h
               refine iwp_region (ils_cons rfl (mvI rfl rfl rfl rfl) <|
                ils_cons rfl (iop_intx rfl rfl (lb rfl) (svI rfl) (sv (d := .int _ 1) rfl) rfl hx814) <|
                ils_cons rfl (asI rfl rfl rfl rfl) <|
                ils_nil ?_)
               refine thenQ_n ⟨(n5, x813, x814), (fun i => i), ⟨(.cons (.same (congrArg (D.osl _ _) (len_set hx813 (len_set hx810 rfl)).symm) rfl) (.sames rfl rfl)), (.cons (EntW.lst rfl) .nil), nd_of [1000] rfl (by decide), fun _ _ => rfl⟩, ?_, ?_⟩
               exact h
               exact Nat.lt_succ_self _
             ·
              replace h := bif_f h hc794
              refine iwp_exit ?_
              refine thenQ_e ?_
              refine thenQ_e ?_
              refine blockQ_e ?_
              refine thenQ_n ⟨v769, (fun i => i), ⟨(.sames rfl rfl), (.cons (EntW.lst rfl) .nil), nd_of [1000] rfl (by decide), fun _ _ => rfl⟩, ?_⟩
              exact h
          ·
           replace h := bif_f h hc745
           refine iwp_skip ?_
           refine thenQ_n ⟨x594, (fun i => i), ⟨(.cons (.same (congrArg (D.osl _ _) (len_set hx594 (len_set hx591 rfl)).symm) rfl) (.sames rfl rfl)), (.cons (EntW.lst rfl) .nil), nd_of [1000] rfl (by decide), fun _ _ => rfl⟩, ?_⟩
           exact h
         ·
          rintro v667 h
          unfold slices_partialInsertionSortOrdered_int_h_J3 at h
          obtain ⟨x668, hx668, h⟩ := bnd_e h
          obtain ⟨x669, hx669, h⟩ := bnd_e h
          refine iwp_reg (ils_cons rfl (mvI rfl rfl rfl rfl) <|
           ils_cons rfl (mvI rfl rfl rfl rfl) <|
           ils_cons rfl (iop_intx rfl rfl (lb rfl) (svI rfl) (svI rfl) rfl hx668) <|
           ils_cons rfl (iop_cmpx rfl rfl (lb rfl) (svI rfl) (sv (d := .int _ 2) rfl) rfl hx669) <|
           ils_end ?_)
          refine iwp_cond (b := _) rfl (fun hc670 => ?_) (fun hc670 => ?_)
          ·
           replace h := bif_t h hc670
           obtain ⟨x671, hx671, h⟩ := bnd_e h
           refine iwp_reg (ils_cons rfl (mvI rfl rfl rfl rfl) <|
            ils_cons rfl (iop_intx rfl rfl (lb rfl) (svI rfl) (sv (d := .int _ 1) rfl) rfl hx671) <|
            ils_cons rfl (asI rfl rfl rfl rfl) <|
            ils_end ?_)
           refine iwp_block ?_
           refine iwp_loopP (α := Nat × (List Int) × Int) (fun z => ⟨[(0, .osl 1000 (eInt .i64).sz z.2.1.length), (1, .int .i64 a0), (2, .int .i64 a1), (7, .int .i64 v557), (8, .int .i64 v274), (10, .int .i64 z.2.2)], [(1000, .blk 3 (D.flat (z.2.1.map (eInt .i64).d)))]⟩) (fun z => slices_partialInsertionSortOrdered_int_h_L4 a1 v274 (slices_partialInsertionSortOrdered_int_h_L0 a0 a1 n0) v557 z.1 z.2.1 z.2.2 = some r) (fun z => z.1) (fuel, v667, x671) (fun i => i) ⟨(.sames rfl rfl), (.cons (EntW.lst rfl) .nil), nd_of [1000] rfl (by decide), fun _ _ => rfl⟩ ?_ ?_
           ·exact h
           ·
            rintro ⟨n4, v694, v695⟩ h
            cases n4 with
            | zero => exact absurd h (by unfold slices_partialInsertionSortOrdered_int_h_L4; exact nofun)
            | succ n4 =>
             unfold slices_partialInsertionSortOrdered_int_h_L4 at h
             refine iwp_seq ?_
             obtain ⟨x718, hx718, h⟩ := bnd_e h
             refine iwp_reg (ils_cons rfl (mvI rfl rfl rfl rfl) <|
              ils_cons rfl (mvI rfl rfl rfl rfl) <|
              ils_cons rfl (iop_cmpx rfl rfl (lb rfl) (svI rfl) (svI rfl) rfl hx718) <|
              ils_end ?_)
             refine iwp_cond (b := _) rfl (fun hc719 => ?_) (fun hc719 => ?_)
             ·
              replace h := bif_t h hc719
              refine iwp_skip ?_
              refine thenQ_n ?_
              refine iwp_seq ?_
              refine iwp_block ?_
              refine iwp_seq ?_
              obtain ⟨x720, hx720, h⟩ := bno_e h
              obtain ⟨x721, hx721, h⟩ := bno_e h
              obtain ⟨x722, hx722, h⟩ := bnd_e h
              obtain ⟨x723, hx723, h⟩ := bno_e h
              obtain ⟨x724, hx724, h⟩ := bno_e h
              obtain ⟨x725, hx725, h⟩ := bno_e h
              refine iwp_drw rfl [⟨[0], [], [(106, .osl 1000 (eInt .i64).sz v694.length)], []⟩,
               ⟨[10], [], [(107, .int .i64 v695)], []⟩,
               ⟨[106, 107], [], [(108, .ref 1000 (((v695 : Int).toNat) * (eInt .i64).sz + 0))], []⟩,
               ⟨[108], [1000], [(109, .int .i64 x721)], []⟩,
               ⟨[0], [], [(110, .osl 1000 (eInt .i64).sz v694.length)], []⟩,
               ⟨[10], [], [(111, .int .i64 v695)], []⟩,
               ⟨[111], [], [(112, .int .i64 x722)], []⟩,
               ⟨[110, 112], [], [(113, .ref 1000 (((x722 : Int).toNat) * (eInt .i64).sz + 0))], []⟩,
               ⟨[113], [1000], [(114, .int .i64 x724)], []⟩,
               ⟨[109, 114], [], [(115, .bool x725)], []⟩,
               ⟨[115], [], [(116, .bool (!x725))], []⟩] rfl ?_ (by kernel_rfl) ?_
              ·refine .cons (lop rfl rfl fun S hA => (iop_move rfl rfl (lb rfl) (sv (d := .osl _ _ _) (agr hA rfl rfl)))) ?_
               refine .cons (lop rfl rfl fun S hA => (iop_move rfl rfl (lb rfl) (svaI hA rfl rfl))) ?_
               refine .cons (lop rfl rfl fun S hA => (iop_idxO (eInt .i64).toEnc0 rfl rfl (lb rfl) Try.underlying23 ti3 (sv (d := .osl _ _ _) (agr hA rfl rfl)) rfl (svaI hA rfl rfl) hx720)) ?_
               refine .cons (lop rfl rfl fun S hA => (iop_loadEs (eInt .i64).toEnc0 (d := .int _ _) rfl rfl (lb rfl) Try.underlying3 ag3 ti3 (by decide) (svaR hA rfl rfl) (agi hA rfl rfl) hx721 (nle rfl) rfl)) ?_
               refine .cons (lop rfl rfl fun S hA => (iop_move rfl rfl (lb rfl) (sv (d := .osl _ _ _) (agr hA rfl rfl)))) ?_
               refine .cons (lop rfl rfl fun S hA => (iop_move rfl rfl (lb rfl) (svaI hA rfl rfl))) ?_
               refine .cons (lop rfl rfl fun S hA => (iop_intx rfl rfl (lb rfl) (svaI hA rfl rfl) (sv (d := .int _ 1) rfl) rfl hx722)) ?_
               refine .cons (lop rfl rfl fun S hA => (iop_idxO (eInt .i64).toEnc0 rfl rfl (lb rfl) Try.underlying23 ti3 (sv (d := .osl _ _ _) (agr hA rfl rfl)) rfl (svaI hA rfl rfl) hx723)) ?_
               refine .cons (lop rfl rfl fun S hA => (iop_loadEs (eInt .i64).toEnc0 (d := .int _ _) rfl rfl (lb rfl) Try.underlying3 ag3 ti3 (by decide) (svaR hA rfl rfl) (agi hA rfl rfl) hx724 (nle rfl) rfl)) ?_
               refine .cons (lop rfl rfl fun S hA => (iop_call (r := .bool _) rfl rfl (lb rfl) cl87 (.cons (svaI hA rfl rfl) (.cons (svaI hA rfl rfl) .nil)) rfl (p_cmp_Less_int _ _ _ hx725))) ?_
               refine .cons (lop rfl rfl fun S hA => (iop_not rfl rfl (lb rfl) (svaB hA rfl rfl))) ?_
               exact .nil
              refine iwp_cond (b := _) rfl (fun hc726 => ?_) (fun hc726 => ?_)
              ·
               replace h := bif_t h hc726
               refine iwp_exit ?_
               refine thenQ_e ?_
               refine blockQ_x rfl ?_
               refine thenQ_e ?_
               refine thenQ_e ?_
               refine blockQ_e ?_
               refine blockQ_n ?_
               refine thenQ_n ?_
               obtain ⟨x727, hx727, h⟩ := bnd_e h
               refine iwp_region (ils_cons rfl (mvI rfl rfl rfl rfl) <|
                ils_cons rfl (iop_intx rfl rfl (lb rfl) (svI rfl) (sv (d := .int _ 1) rfl) rfl hx727) <|
                ils_cons rfl (asI rfl rfl rfl rfl) <|
                ils_nil ?_)
               refine thenQ_n ⟨(n0, v694, v557, x727), (fun i => i), ⟨(.sames rfl rfl), (.cons (EntW.lst rfl) .nil), nd_of [1000] rfl (by decide), fun _ _ => rfl⟩, ?_, ?_⟩
               exact h
               exact Nat.lt_succ_self _
              ·
               replace h := bif_f h hc726
               refine iwp_skip ?_
               refine thenQ_n ?_
               obtain ⟨x728, hx728, h⟩ := bnd_e h
               obtain ⟨x729, hx729, h⟩ := bnd_e h
               obtain ⟨x730, hx730, h⟩ := bno_e h
               obtain ⟨x731, hx731, h⟩ := bno_e h
               obtain ⟨x732, hx732, h⟩ := bno_e h
               obtain ⟨x733, hx733, h⟩ := bno_e h
               obtain ⟨x734, hx734, h⟩ := bno_e h
               obtain ⟨x735, hx735, h⟩ := bno_e h
               obtain ⟨x736, hx736, h⟩ := bnd_e h
               obtain ⟨x737, hx737, h⟩ := bno_e h
               obtain ⟨x738, hx738, h⟩ := bno_e h
               obtain ⟨x739, hx739, h⟩ := bnd_e h
               refine iwp_draw rfl [⟨[0], [], [(117, .osl 1000 (eInt .i64).sz v694.length)], []⟩,
                ⟨[10], [], [(118, .int .i64 v695)], []⟩,
                ⟨[0], [], [(119, .osl 1000 (eInt .i64).sz v694.length)], []⟩,
                ⟨[10], [], [(120, .int .i64 v695)], []⟩,
                ⟨[120], [], [(121, .int .i64 x728)], []⟩,
                ⟨[0], [], [(122, .osl 1000 (eInt .i64).sz v694.length)], []⟩,
                ⟨[10], [], [(123, .int .i64 v695)], []⟩,
                ⟨[123], [], [(124, .int .i64 x729)], []⟩,
                ⟨[122, 124], [], [(125, .ref 1000 (((x729 : Int).toNat) * (eInt .i64).sz + 0))], []⟩,
                ⟨[125], [1000], [(126, .int .i64 x731)], []⟩,
                ⟨[0], [], [(127, .osl 1000 (eInt .i64).sz v694.length)], []⟩,
                ⟨[10], [], [(128, .int .i64 v695)], []⟩,
                ⟨[127, 128], [], [(129, .ref 1000 (((v695 : Int).toNat) * (eInt .i64).sz + 0))], []⟩,
                ⟨[129], [1000], [(130, .int .i64 x733)], []⟩,
                ⟨[117, 118], [], [(131, .ref 1000 (((v695 : Int).toNat) * (eInt .i64).sz + 0))], []⟩,
                ⟨[126, 131], [1000], [], [(1000, .blk 3 (D.flat (x736.map (eInt .i64).d)))]⟩,
                ⟨[119, 121], [], [(132, .ref 1000 (((x728 : Int).toNat) * (eInt .i64).sz + 0))], []⟩,
                ⟨[130, 132], [1000], [], [(1000, .blk 3 (D.flat (x739.map (eInt .i64).d)))]⟩] rfl ?_ (by kernel_rfl) ?_
               ·refine .cons (lop rfl rfl fun S hA => (iop_move rfl rfl (lb rfl) (sv (d := .osl _ _ _) (agr hA rfl rfl)))) ?_
                refine .cons (lop rfl rfl fun S hA => (iop_move rfl rfl (lb rfl) (svaI hA rfl rfl))) ?_
                refine .cons (lop rfl rfl fun S hA => (iop_move rfl rfl (lb rfl) (sv (d := .osl _ _ _) (agr hA rfl rfl)))) ?_
                refine .cons (lop rfl rfl fun S hA => (iop_move rfl rfl (lb rfl) (svaI hA rfl rfl))) ?_
                refine .cons (lop rfl rfl fun S hA => (iop_intx rfl rfl (lb rfl) (svaI hA rfl rfl) (sv (d := .int _ 1) rfl) rfl hx728)) ?_
                refine .cons (lop rfl rfl fun S hA => (iop_move rfl rfl (lb rfl) (sv (d := .osl _ _ _) (agr hA rfl rfl)))) ?_
                refine .cons (lop rfl rfl fun S hA => (iop_move rfl rfl (lb rfl) (svaI hA rfl rfl))) ?_
                refine .cons (lop rfl rfl fun S hA => (iop_intx rfl rfl (lb rfl) (svaI hA rfl rfl) (sv (d := .int _ 1) rfl) rfl hx729)) ?_
                refine .cons (lop rfl rfl fun S hA => (iop_idxO (eInt .i64).toEnc0 rfl rfl (lb rfl) Try.underlying23 ti3 (sv (d := .osl _ _ _) (agr hA rfl rfl)) rfl (svaI hA rfl rfl) hx730)) ?_
                refine .cons (lop rfl rfl fun S hA => (iop_loadEs (eInt .i64).toEnc0 (d := .int _ _) rfl rfl (lb rfl) Try.underlying3 ag3 ti3 (by decide) (svaR hA rfl rfl) (agi hA rfl rfl) hx731 (nle rfl) rfl)) ?_
                refine .cons (lop rfl rfl fun S hA => (iop_move rfl rfl (lb rfl) (sv (d := .osl _ _ _) (agr hA rfl rfl)))) ?_
                refine .cons (lop rfl rfl fun S hA => (iop_move rfl rfl (lb rfl) (svaI hA rfl rfl))) ?_
                refine .cons (lop rfl rfl fun S hA => (iop_idxO (eInt .i64).toEnc0 rfl rfl (lb rfl) Try.underlying23 ti3 (sv (d := .osl _ _ _) (agr hA rfl rfl)) rfl (svaI hA rfl rfl) hx732)) ?_
                refine .cons (lop rfl rfl fun S hA => (iop_loadEs (eInt .i64).toEnc0 (d := .int _ _) rfl rfl (lb rfl) Try.underlying3 ag3 ti3 (by decide) (svaR hA rfl rfl) (agi hA rfl rfl) hx733 (nle rfl) rfl)) ?_
                refine .cons (lop rfl rfl fun S hA => (iop_idxO (eInt .i64).toEnc0 rfl rfl (lb rfl) Try.underlying23 ti3 (sv (d := .osl _ _ _) (agr hA rfl rfl)) rfl (svaI hA rfl rfl) hx734)) ?_
                refine .cons (lop rfl rfl fun S hA => (iop_storeE (eInt .i64).toEnc0 (a' := x731) rfl rfl ti3 (svaR hA rfl rfl) (agi hA rfl rfl) (svaI hA rfl rfl) rfl rfl rfl hx735 (nle rfl) rfl hx736)) ?_
                refine .cons (lop rfl rfl fun S hA => (iop_idxO (eInt .i64).toEnc0 rfl rfl (lb rfl) Try.underlying23 ti3 (sv (d := .osl _ _ _) (agr hA rfl rfl)) (len_set hx736 rfl) (svaI hA rfl rfl) hx737)) ?_
                refine .cons (lop rfl rfl fun S hA => (iop_storeE (eInt .i64).toEnc0 (a' := x733) rfl rfl ti3 (svaR hA rfl rfl) (agi hA rfl rfl) (svaI hA rfl rfl) rfl rfl rfl hx738 (nle rfl) rfl hx739)) ?_
                exact .nil
               refine blockQ_n ?_
               refine thenQ_n ?_
               obtain ⟨x740, hx740, h⟩ := bnd_e h
               refine iwp_region (ils_cons rfl (mvI rfl rfl rfl rfl) <|
                ils_cons rfl (iop_intx rfl rfl (lb rfl) (svI rfl) (sv (d := .int _ 1) rfl) rfl hx740) <|
                ils_cons rfl (asI rfl rfl rfl rfl) <|
                ils_nil ?_)
               refine thenQ_n ⟨(n4, x739, x740), (fun i => i), ⟨(.cons (.same (congrArg (D.osl _ _) (len_set hx739 (len_set hx736 rfl)).symm) rfl) (.sames rfl rfl)), (.cons (EntW.lst rfl) .nil), nd_of [1000] rfl (by decide), fun _ _ => rfl⟩, ?_, ?_⟩
               exact h
               exact Nat.lt_succ_self _
             ·
              replace h := bif_f h hc719
              refine iwp_exit ?_
              refine thenQ_e ?_
              refine thenQ_e ?_
              refine blockQ_e ?_
              refine blockQ_n ?_
              refine thenQ_n ?_
              obtain ⟨x741, hx741, h⟩ := bnd_e h
              refine iwp_region (ils_cons rfl (mvI rfl rfl rfl rfl) <|
               ils_cons rfl (iop_intx rfl rfl (lb rfl) (svI rfl) (sv (d := .int _ 1) rfl) rfl hx741) <|
               ils_cons rfl (asI rfl rfl rfl rfl) <|
               ils_nil ?_)
              refine thenQ_n ⟨(n0, v694, v557, x741), (fun i => i), ⟨(.sames rfl rfl), (.cons (EntW.lst rfl) .nil), nd_of [1000] rfl (by decide), fun _ _ => rfl⟩, ?_, ?_⟩
              exact h
              exact Nat.lt_succ_self _
          ·
           replace h := bif_f h hc670
           refine iwp_skip ?_
           refine blockQ_n ?_
           refine thenQ_n ?_
           obtain ⟨x742, hx742, h⟩ := bnd_e h
           refine iwp_region (ils_cons rfl (mvI rfl rfl rfl rfl) <|
            ils_cons rfl (iop_intx rfl rfl (lb rfl) (svI rfl) (sv (d := .int _ 1) rfl) rfl hx742) <|
            ils_cons rfl (asI rfl rfl rfl rfl) <|
            ils_nil ?_)
           refine thenQ_n ⟨(n0, v667, v557, x742), (fun i => i), ⟨(.sames rfl rfl), (.cons (EntW.lst rfl) .nil), nd_of [1000] rfl (by decide), fun _ _ => rfl⟩, ?_, ?_⟩
           exact h
           exact Nat.lt_succ_self _
   ·
    replace h := bif_f h hc546
    refine iwp_exit ?_
    refine thenQ_e ?_
    refine thenQ_e ?_
    refine blockQ_e ?_
    refine thenQ_n ?_
    refine iwp_reg (ils_cons rfl (iop_assign rfl rfl (lb rfl) (sv (d := .bool false) rfl)) <|
     ils_end ?_)
    refine iwp_ret ?_
    obtain rfl := Option.some.inj h
    refine ⟨.inr rfl, (fun i => i), ⟨.nil, (.cons (EntW.lst rfl) .nil), nd_of [1000] rfl (by decide), fun _ _ => rfl⟩, (.cons (sv rfl) .nil), rfl⟩

theorem p_slices_partitionEqualOrdered_int_h (a0 : Int) (a1 : Int) (a2 : Int) (a3 : (List Int)) (r : (Int × (List Int))) (h : slices_partitionEqualOrdered_int_h a0 a1 a2 a3 = some r) : FnH Try.prog 88 (w17 (.osl 1000 (eInt .i64).sz a3.length) a0 a1 a2) [(1000, .blk 3 (D.flat (a3.map (eInt .i64).d)))] (.int .i64 r.1) [(1000, .blk 3 (D.flat (r.2.map (eInt .i64).d)))] := by
 refine fnh_of_iwp (rs := [.int .i64 r.1]) Try.func88 rfl Try.ntmps88 (nle rfl) fun O hO => ?_
 show IWP _ _ _ _ ⟨[(0, .osl 1000 (eInt .i64).sz a3.length), (1, .int .i64 a0), (2, .int .i64 a1), (3, .int .i64 a2)], [(1000, .blk 3 (D.flat (a3.map (eInt .i64).d)))]⟩ _
 unfold slices_partitionEqualOrdered_int_h at h
 refine iwp_reg (ils_cons rfl (iop_assign rfl rfl (lb rfl) (sv (d := .int _ 0) rfl)) <|
  ils_end ?_)
 obtain ⟨x1, hx1, h⟩ := bno_e h
 obtain ⟨x2, hx2, h⟩ := bno_e h
 obtain ⟨x3, hx3, h⟩ := bno_e h
 obtain ⟨x4, hx4, h⟩ := bno_e h
 obtain ⟨x5, hx5, h⟩ := bno_e h
 obtain ⟨x6, hx6, h⟩ := bno_e h
 obtain ⟨x7, hx7, h⟩ := bnd_e h
 obtain ⟨x8, hx8, h⟩ := bno_e h
 obtain ⟨x9, hx9, h⟩ := bno_e h
 obtain ⟨x10, hx10, h⟩ := bnd_e h
 refine iwp_drw rfl [⟨[0], [], [(11, .osl 1000 (eInt .i64).sz a3.length)], []⟩,
  ⟨[1], [], [(12, .int .i64 a0)], []⟩,
  ⟨[0], [], [(13, .osl 1000 (eInt .i64).sz a3.length)], []⟩,
  ⟨[3], [], [(14, .int .i64 a2)], []⟩,
  ⟨[0], [], [(15, .osl 1000 (eInt .i64).sz a3.length)], []⟩,
  ⟨[3], [], [(16, .int .i64 a2)], []⟩,
  ⟨[15, 16], [], [(17, .ref 1000 (((a2 : Int).toNat) * (eInt .i64).sz + 0))], []⟩,
  ⟨[17], [1000], [(18, .int .i64 x2)], []⟩,
  ⟨[0], [], [(19, .osl 1000 (eInt .i64).sz a3.length)], []⟩,
  ⟨[1], [], [(20, .int .i64 a0)], []⟩,
  ⟨[19, 20], [], [(21, .ref 1000 (((a0 : Int).toNat) * (eInt .i64).sz + 0))], []⟩,
  ⟨[21], [1000], [(22, .int .i64 x4)], []⟩,
  ⟨[11, 12], [], [(23, .ref 1000 (((a0 : Int).toNat) * (eInt .i64).sz + 0))], []⟩,
  ⟨[18, 23], [1000], [], [(1000, .blk 3 (D.flat (x7.map (eInt .i64).d)))]⟩,
  ⟨[13, 14], [], [(24, .ref 1000 (((a2 : Int).toNat) * (eInt .i64).sz + 0))], []⟩,
  ⟨[22, 24], [1000], [], [(1000, .blk 3 (D.flat (x10.map (eInt .i64).d)))]⟩] rfl ?_ (by kernel_rfl) ?_
 ·refine .cons (lop rfl rfl fun S hA => (iop_move rfl rfl (lb rfl) (sv (d := .osl _ _ _) (agr hA rfl rfl)))) ?_
  refine .cons (lop rfl rfl fun S hA => (iop_move rfl rfl (lb rfl) (svaI hA rfl rfl))) ?_
  refine .cons (lop rfl rfl fun S hA => (iop_move rfl rfl (lb rfl) (sv (d := .osl _ _ _) (agr hA rfl rfl)))) ?_
  refine .cons (lop rfl rfl fun S hA => (iop_move rfl rfl (lb rfl) (svaI hA rfl rfl))) ?_
  refine .cons (lop rfl rfl fun S hA => (iop_move rfl rfl (lb rfl) (sv (d := .osl _ _ _) (agr hA rfl rfl)))) ?_
  refine .cons (lop rfl rfl fun S hA => (iop_move rfl rfl (lb rfl) (svaI hA rfl rfl))) ?_
  refine .cons (lop rfl rfl fun S hA => (iop_idxO (eInt .i64).toEnc0 rfl rfl (lb rfl) Try.underlying23 ti3 (sv (d := .osl _ _ _) (agr hA rfl rfl)) rfl (svaI hA rfl rfl) hx1)) ?_
  refine .cons (lop rfl rfl fun S hA => (iop_loadEs (eInt .i64).toEnc0 (d := .int _ _) rfl rfl (lb rfl) Try.underlying3 ag3 ti3 (by decide) (svaR hA rfl rfl) (agi hA rfl rfl) hx2 (nle rfl) rfl)) ?_
  refine .cons (lop rfl rfl fun S hA => (iop_move rfl rfl (lb rfl) (sv (d := .osl _ _ _) (agr hA rfl rfl)))) ?_
  refine .cons (lop rfl rfl fun S hA => (iop_move rfl rfl (lb rfl) (svaI hA rfl rfl))) ?_
  refine .cons (lop rfl rfl fun S hA => (iop_idxO (eInt .i64).toEnc0 rfl rfl (lb rfl) Try.underlying23 ti3 (sv (d := .osl _ _ _) (agr hA rfl rfl)) rfl (svaI hA rfl rfl) hx3)) ?_
  refine .cons (lop rfl rfl fun S hA => (iop_loadEs (eInt .i64).toEnc0 (d := .int _ _) rfl rfl (lb rfl) Try.underlying3 ag3 ti3 (by decide) (svaR hA rfl rfl) (agi hA rfl rfl) hx4 (nle rfl) rfl)) ?_
  refine .cons (lop rfl rfl fun S hA => (iop_idxO (eInt .i64).toEnc0 rfl rfl (lb rfl) Try.underlying23 ti3 (sv (d := .osl _ _ _) (agr hA rfl rfl)) rfl (svaI hA rfl rfl) hx5)) ?_
  refine .cons (lop rfl rfl fun S hA => (iop_storeE (eInt .i64).toEnc0 (a' := x2) rfl rfl ti3 (svaR hA rfl rfl) (agi hA rfl rfl) (svaI hA rfl rfl) rfl rfl rfl hx6 (nle rfl) rfl hx7)) ?_
  refine .cons (lop rfl rfl fun S hA => (iop_idxO (eInt .i64).toEnc0 rfl rfl (lb rfl) Try.underlying23 ti3 (sv (d := .osl _ _ _) (agr hA rfl rfl)) (len_set hx7 rfl) (svaI hA rfl rfl) hx8)) ?_
  refine .cons (lop rfl rfl fun S hA => (iop_storeE (eInt .i64).toEnc0 (a' := x4) rfl rfl ti3 (svaR hA rfl rfl) (agi hA rfl rfl) (svaI hA rfl rfl) rfl rfl rfl hx9 (nle rfl) rfl hx10)) ?_
  exact .nil
 obtain ⟨x11, hx11, h⟩ := bnd_e h
 obtain ⟨x12, hx12, h⟩ := bnd_e h
 refine iwp_reg (ils_cons rfl (mvI rfl rfl rfl rfl) <|
  ils_cons rfl (iop_intx rfl rfl (lb rfl) (svI rfl) (sv (d := .int _ 1) rfl) rfl hx11) <|
  ils_cons rfl (mvI rfl rfl rfl rfl) <|
  ils_cons rfl (iop_intx rfl rfl (lb rfl) (svI rfl) (sv (d := .int _ 1) rfl) rfl hx12) <|
  ils_cons rfl (asI rfl rfl rfl rfl) <|
  ils_cons rfl (asI rfl rfl rfl rfl) <|
  ils_end ?_)
 refine iwp_seq ?_
 refine iwp_block ?_
 refine iwp_loopP (α := Nat × (List Int) × Int × Int) (fun z => ⟨[(0, .osl 1000 (eInt .i64).sz z.2.1.length), (1, .int .i64 a0), (9, .int .i64 z.2.2.1), (10, .int .i64 z.2.2.2)], [(1000, .blk 3 (D.flat (z.2.1.map (eInt .i64).d)))]⟩) (fun z => slices_partitionEqualOrdered_int_h_L0 a0 z.1 z.2.1 z.2.2.1 z.2.2.2 = some r) (fun z => z.1) (fuel, x10, x11, x12) (fun i => i) ⟨(.cons (.same (congrArg (D.osl _ _) (len_set hx10 (len_set hx7 rfl)).symm) rfl) (.sames rfl rfl)), (.cons (EntW.lst rfl) .nil), nd_of [1000] rfl (by decide), fun _ _ => rfl⟩ ?_ ?_
 ·exact h
 ·
  rintro ⟨n0, v83, v84, v85⟩ h
  cases n0 with
  | zero => exact absurd h (by unfold slices_partitionEqualOrdered_int_h_L0; exact nofun)
  | succ n0 =>
   unfold slices_partitionEqualOrdered_int_h_L0 at h
   refine iwp_block ?_
   refine iwp_seq ?_
   refine iwp_block ?_
   refine iwp_loopP (α := Nat × Int) (fun z => ⟨[(0, .osl 1000 (eInt .i64).sz v83.length), (1, .int .i64 a0), (9, .int .i64 z.2), (10, .int .i64 v85)], [(1000, .blk 3 (D.flat (v83.map (eInt .i64).d)))]⟩) (fun z => slices_partitionEqualOrdered_int_h_L1 a0 v83 v85 (slices_partitionEqualOrdered_int_h_L0 a0 n0) z.1 z.2 = some r) (fun z => z.1) (fuel, v84) (fun i => i) ⟨(.sames rfl rfl), (.cons (EntW.lst rfl) .nil), nd_of [1000] rfl (by decide), fun _ _ => rfl⟩ ?_ ?_
   ·exact h
   ·
    rintro ⟨n1, v165⟩ h
    cases n1 with
    | zero => exact absurd h (by unfold slices_partitionEqualOrdered_int_h_L1; exact nofun)
    | succ n1 =>
     unfold slices_partitionEqualOrdered_int_h_L1 at h
     refine iwp_seq ?_
     obtain ⟨x175, hx175, h⟩ := bnd_e h
     obtain ⟨x176, hx176, h⟩ := bno_e h
     obtain ⟨x177, hx177, h⟩ := bno_e h
     obtain ⟨x178, hx178, h⟩ := bno_e h
     obtain ⟨x179, hx179, h⟩ := bno_e h
     obtain ⟨x180, hx180, h⟩ := bno_e h
     obtain ⟨x181, hx181, h⟩ := bnd_e h
     refine iwp_drw rfl [⟨[9], [], [(29, .int .i64 v165)], []⟩,
      ⟨[10], [], [(30, .int .i64 v85)], []⟩,
      ⟨[29, 30], [], [(31, .bool x175)], []⟩,
      ⟨[31], [], [(32, .bool x175)], []⟩,
      ⟨[0, 32], [], [(33, .cnd (x175 == true) (.osl 1000 (eInt .i64).sz v83.length))], []⟩,
      ⟨[1, 32], [], [(34, .cnd (x175 == true) (.int .i64 a0))], []⟩,
      ⟨[32, 33, 34], [], [(35, .cnd (x175 == true) (.ref 1000 (((a0 : Int).toNat) * (eInt .i64).sz + 0)))], []⟩,
      ⟨[32, 35], [1000], [(36, .cnd (x175 == true) (.int .i64 x177))], []⟩,
      ⟨[0, 32], [], [(37, .cnd (x175 == true) (.osl 1000 (eInt .i64).sz v83.length))], []⟩,
      ⟨[9, 32], [], [(38, .cnd (x175 == true) (.int .i64 v165))], []⟩,
      ⟨[32, 37, 38], [], [(39, .cnd (x175 == true) (.ref 1000 (((v165 : Int).toNat) * (eInt .i64).sz + 0)))], []⟩,
      ⟨[32, 39], [1000], [(40, .cnd (x175 == true) (.int .i64 x179))], []⟩,
      ⟨[32, 36, 40], [], [(41, .cnd (x175 == true) (.bool x180))], []⟩,
      ⟨[32, 41], [], [(42, .cnd (x175 == true) (.bool (!x180)))], []⟩,
      ⟨[32, 42], [], [(43, .bool x181)], []⟩] rfl ?_ (by kernel_rfl) ?_
     ·refine .cons (lop rfl rfl fun S hA => (iop_move rfl rfl (lb rfl) (svaI hA rfl rfl))) ?_
      refine .cons (lop rfl rfl fun S hA => (iop_move rfl rfl (lb rfl) (svaI hA rfl rfl))) ?_
      refine .cons (lop rfl rfl fun S hA => (iop_cmpx rfl rfl (lb rfl) (svaI hA rfl rfl) (svaI hA rfl rfl) rfl hx175)) ?_
      refine .cons (lop rfl rfl fun S hA => (iop_move rfl rfl (lb rfl) (svaB hA rfl rfl))) ?_
      refine .cons (lopg rfl rfl rfl rfl (by decide) (fun S hA => grd1 hA rfl rfl) (fun S hA hb => (iop_move rfl rfl (lb rfl) (sv (d := .osl _ _ _) (agr hA rfl rfl))))) ?_
      refine .cons (lopg rfl rfl rfl rfl (by decide) (fun S hA => grd1 hA rfl rfl) (fun S hA hb => (iop_move rfl rfl (lb rfl) (svaI hA rfl rfl)))) ?_
      refine .cons (lopg rfl rfl rfl rfl (by decide) (fun S hA => grd1 hA rfl rfl) (fun S hA hb => (iop_idxO (eInt .i64).toEnc0 rfl rfl (lb rfl) Try.underlying23 ti3 (svc (d := .osl _ _ _) (agr hA rfl rfl) hb) rfl (svc (d := .int _ _) (agr hA rfl rfl) hb) (gd_t hx176 hb)))) ?_
      refine .cons (lopg rfl rfl rfl rfl (by decide) (fun S hA => grd1 hA rfl rfl) (fun S hA hb => (iop_loadEs (eInt .i64).toEnc0 (d := .int _ _) rfl rfl (lb rfl) Try.underlying3 ag3 ti3 (by decide) (svc (d := .ref _ _) (agr hA rfl rfl) hb) (agi hA rfl rfl) (gd_t hx177 hb) (nle rfl) rfl))) ?_
      refine .cons (lopg rfl rfl rfl rfl (by decide) (fun S hA => grd1 hA rfl rfl) (fun S hA hb => (iop_move rfl rfl (lb rfl) (sv (d := .osl _ _ _) (agr hA rfl rfl))))) ?_
      refine .cons (lopg rfl rfl rfl rfl (by decide) (fun S hA => grd1 hA rfl rfl) (fun S hA hb => (iop_move rfl rfl (lb rfl) (svaI hA rfl rfl)))) ?_
      refine .cons (lopg rfl rfl rfl rfl (by decide) (fun S hA => grd1 hA rfl rfl) (fun S hA hb => (iop_idxO (eInt .i64).toEnc0 rfl rfl (lb rfl) Try.underlying23 ti3 (svc (d := .osl _ _ _) (agr hA rfl rfl) hb) rfl (svc (d := .int _ _) (agr hA rfl rfl) hb) (gd_t hx178 hb)))) ?_
      refine .cons (lopg rfl rfl rfl rfl (by decide) (fun S hA => grd1 hA rfl rfl) (fun S hA hb => (iop_loadEs (eInt .i64).toEnc0 (d := .int _ _) rfl rfl (lb rfl) Try.underlying3 ag3 ti3 (by decide) (svc (d := .ref _ _) (agr hA rfl rfl) hb) (agi hA rfl rfl) (gd_t hx179 hb) (nle rfl) rfl))) ?_
      refine .cons (lopg rfl rfl rfl rfl (by decide) (fun S hA => grd1 hA rfl rfl) (fun S hA hb => (iop_call (r := .bool _) rfl rfl (lb rfl) cl87 (.cons (svc (d := .int _ _) (agr hA rfl rfl) hb) (.cons (svc (d := .int _ _) (agr hA rfl rfl) hb) .nil)) rfl (p_cmp_Less_int _ _ _ (gd_t hx180 hb))))) ?_
      refine .cons (lopg rfl rfl rfl rfl (by decide) (fun S hA => grd1 hA rfl rfl) (fun S hA hb => (iop_not rfl rfl (lb rfl) (svc (d := .bool _) (agr hA rfl rfl) hb)))) ?_
      refine .cons (lop rfl rfl fun S hA => (iop_andx rfl rfl (lb rfl) (svaB hA rfl rfl) (agr hA rfl rfl) rfl hx181)) ?_
      exact .nil
     refine iwp_cond (b := _) rfl (fun hc182 => ?_) (fun hc182 => ?_)
     ·
      replace h := bif_t h hc182
      refine iwp_skip ?_
      refine thenQ_n ?_
      refine iwp_block ?_
      obtain ⟨x183, hx183, h⟩ := bnd_e h
      refine iwp_region (ils_cons rfl (mvI rfl rfl rfl rfl) <|
       ils_cons rfl (iop_intx rfl rfl (lb rfl) (svI rfl) (sv (d := .int _ 1) rfl) rfl hx183) <|
       ils_cons rfl (asI rfl rfl rfl rfl) <|
       ils_nil ?_)
      refine blockQ_n ?_
      refine thenQ_n ⟨(n1, x183), (fun i => i), ⟨(.sames rfl rfl), (.cons (EntW.lst rfl) .nil), nd_of [1000] rfl (by decide), fun _ _ => rfl⟩, ?_, ?_⟩
      exact h
      exact Nat.lt_succ_self _
     ·
      replace h := bif_f h hc182
      refine iwp_exit ?_
      refine thenQ_e ?_
      refine thenQ_e ?_
      refine blockQ_e ?_
      refine thenQ_n ?_
      refine iwp_seq ?_
      refine iwp_block ?_
      refine iwp_loopP (α := Nat × Int) (fun z => ⟨[(0, .osl 1000 (eInt .i64).sz v83.length), (1, .int .i64 a0), (9, .int .i64 v165), (10, .int .i64 z.2)], [(1000, .blk 3 (D.flat (v83.map (eInt .i64).d)))]⟩) (fun z => slices_partitionEqualOrdered_int_h_L2 a0 v83 (slices_partitionEqualOrdered_int_h_L0 a0 n0) v165 z.1 z.2 = some r) (fun z => z.1) (fuel, v85) (fun i => i) ⟨(.sames rfl rfl), (.cons (EntW.lst rfl) .nil), nd_of [1000] rfl (by decide), fun _ _ => rfl⟩ ?_ ?_
      ·exact h
      ·
       rintro ⟨n2, v193⟩ h
       cases n2 with
       | zero => exact absurd h (by unfold slices_partitionEqualOrdered_int_h_L2; exact nofun)
       | succ n2 =>
        unfold slices_partitionEqualOrdered_int_h_L2 at h
        refine iwp_seq ?_
        obtain ⟨x203, hx203, h⟩ := bnd_e h
        obtain ⟨x204, hx204, h⟩ := bno_e h
        obtain ⟨x205, hx205, h⟩ := bno_e h
        obtain ⟨x206, hx206, h⟩ := bno_e h
        obtain ⟨x207, hx207, h⟩ := bno_e h
        obtain ⟨x208, hx208, h⟩ := bno_e h
        obtain ⟨x209, hx209, h⟩ := bnd_e h
        refine iwp_drw rfl [⟨[9], [], [(46, .int .i64 v165)], []⟩,
         ⟨[10], [], [(47, .int .i64 v193)], []⟩,
         ⟨[46, 47], [], [(48, .bool x203)], []⟩,
         ⟨[48], [], [(49, .bool x203)], []⟩,
         ⟨[0, 49], [], [(50, .cnd (x203 == true) (.osl 1000 (eInt .i64).sz v83.length))], []⟩,
         ⟨[1, 49], [], [(51, .cnd (x203 == true) (.int .i64 a0))], []⟩,
         ⟨[49, 50, 51], [], [(52, .cnd (x203 == true) (.ref 1000 (((a0 : Int).toNat) * (eInt .i64).sz + 0)))], []⟩,
         ⟨[49, 52], [1000], [(53, .cnd (x203 == true) (.int .i64 x205))], []⟩,
         ⟨[0, 49], [], [(54, .cnd (x203 == true) (.osl 1000 (eInt .i64).sz v83.length))], []⟩,
         ⟨[10, 49], [], [(55, .cnd (x203 == true) (.int .i64 v193))], []⟩,
         ⟨[49, 54, 55], [], [(56, .cnd (x203 == true) (.ref 1000 (((v193 : Int).toNat) * (eInt .i64).sz + 0)))], []⟩,
         ⟨[49, 56], [1000], [(57, .cnd (x203 == true) (.int .i64 x207))], []⟩,
         ⟨[49, 53, 57], [], [(58, .cnd (x203 == true) (.bool x208))], []⟩,
         ⟨[49, 58], [], [(59, .bool x209)], []⟩] rfl ?_ (by kernel_rfl) ?_
        ·refine .cons (lop rfl rfl fun S hA => (iop_move rfl rfl (lb rfl) (svaI hA rfl rfl))) ?_
         refine .cons (lop rfl rfl fun S hA => (iop_move rfl rfl (lb rfl) (svaI hA rfl rfl))) ?_
         refine .cons (lop rfl rfl fun S hA => (iop_cmpx rfl rfl (lb rfl) (svaI hA rfl rfl) (svaI hA rfl rfl) rfl hx203)) ?_
         refine .cons (lop rfl rfl fun S hA => (iop_move rfl rfl (lb rfl) (svaB hA rfl rfl))) ?_
         refine .cons (lopg rfl rfl rfl rfl (by decide) (fun S hA => grd1 hA rfl rfl) (fun S hA hb => (iop_move rfl rfl (lb rfl) (sv (d := .osl _ _ _) (agr hA rfl rfl))))) ?_
         refine .cons (lopg rfl rfl rfl rfl (by decide) (fun S hA => grd1 hA rfl rfl) (fun S hA hb => (iop_move rfl rfl (lb rfl) (svaI hA rfl rfl)))) ?_
         refine .cons (lopg rfl rfl rfl rfl (by decide) (fun S hA => grd1 hA rfl rfl) (fun S hA hb => (iop_idxO (eInt .i64).toEnc0 rfl rfl (lb rfl) Try.underlying23 ti3 (svc (d := .osl _ _ _) (agr hA rfl rfl) hb) rfl (svc (d := .int _ _) (agr hA rfl rfl) hb) (gd_t hx204 hb)))) ?_
         refine .cons (lopg rfl rfl rfl rfl (by decide) (fun S hA => grd1 hA rfl rfl) (fun S hA hb => (iop_loadEs (eInt .i64).toEnc0 (d := .int _ _) rfl rfl (lb rfl) Try.underlying3 ag3 ti3 (by decide) (svc (d := .ref _ _) (agr hA rfl rfl) hb) (agi hA rfl rfl) (gd_t hx205 hb) (nle rfl) rfl))) ?_
         refine .cons (lopg rfl rfl rfl rfl (by decide) (fun S hA => grd1 hA rfl rfl) (fun S hA hb => (iop_move rfl rfl (lb rfl) (sv (d := .osl _ _ _) (agr hA rfl rfl))))) ?_
         refine .cons (lopg rfl rfl rfl rfl (by decide) (fun S hA => grd1 hA rfl rfl) (fun S hA hb => (iop_move rfl rfl (lb rfl) (svaI hA rfl rfl)))) ?_
         refine .cons (lopg rfl rfl rfl rfl (by decide) (fun S hA => grd1 hA rfl rfl) (fun S hA hb => (iop_idxO (eInt .i64).toEnc0 rfl rfl (lb rfl) Try.underlying23 ti3 (svc (d := .osl _ _ _) (agr hA rfl rfl) hb) rfl (svc (d := .int _ _) (agr hA rfl rfl) hb) (gd_t hx206 hb)))) ?_
         refine .cons (lopg rfl rfl rfl rfl (by decide) (fun S hA => grd1 hA rfl rfl) (fun S hA hb => (iop_loadEs (eInt .i64).toEnc0 (d := .int _ _) rfl rfl (lb rfl) Try.underlying3 ag3 ti3 (by decide) (svc (d := .ref _ _) (agr hA rfl rfl) hb) (agi hA rfl rfl) (gd_t hx207 hb) (nle rfl) rfl))) ?_
         refine .cons (lopg rfl rfl rfl rfl (by decide) (fun S hA => grd1 hA rfl rfl) (fun S hA hb => (iop_call (r := .bool _) rfl rfl (lb rfl) cl87 (.cons (svc (d := .int _ _) (agr hA rfl rfl) hb) (.cons (svc (d := .int _ _) (agr hA rfl rfl) hb) .nil)) rfl (p_cmp_Less_int _ _ _ (gd_t hx208 hb))))) ?_
         refine .cons (lop rfl rfl fun S hA => (iop_andx rfl rfl (lb rfl) (svaB hA rfl rfl) (agr hA rfl rfl) rfl hx209)) ?_
         exact .nil
        refine iwp_cond (b := _) rfl (fun hc210 => ?_) (fun hc210 => ?_)
        ·
         replace h := bif_t h hc210
         refine iwp_skip ?_
         refine thenQ_n ?_
         refine iwp_block ?_
         obtain ⟨x211, hx211, h⟩ := bnd_e h
         refine iwp_region (ils_cons rfl (mvI rfl rfl rfl rfl) <|
          ils_cons rfl (iop_intx rfl rfl (lb rfl) (svI rfl) (sv (d := .int _ 1) rfl) rfl hx211) <|
          ils_cons rfl (asI rfl rfl rfl rfl) <|
          ils_nil ?_)
         refine blockQ_n ?_
         refine thenQ_n ⟨(n2, x211), (fun i => i), ⟨(.sames rfl rfl), (.cons (EntW.lst rfl) .nil), nd_of [1000] rfl (by decide), fun _ _ => rfl⟩, ?_, ?_⟩
         exact h
         exact Nat.lt_succ_self _
        ·
         replace h := bif_f h hc210
         refine iwp_exit ?_
         refine thenQ_e ?_
         refine thenQ_e ?_
         refine blockQ_e ?_
         refine thenQ_n ?_
         refine iwp_seq ?_
         obtain ⟨x212, hx212, h⟩ := bnd_e h
         refine iwp_reg (ils_cons rfl (mvI rfl rfl rfl rfl) <|
          ils_cons rfl (mvI rfl rfl rfl rfl) <|
          ils_cons rfl (iop_cmpx rfl rfl (lb rfl) (svI rfl) (svI rfl) rfl hx212) <|
          ils_end ?_)
         refine iwp_cond (b := _) rfl (fun hc213 => ?_) (fun hc213 => ?_)
         ·
          replace h := bif_t h hc213
          refine iwp_exit ?_
          refine thenQ_e ?_
          refine blockQ_x rfl ?_
          refine thenQ_e ?_
          refine blockQ_e ?_
          refine thenQ_n ?_
          refine iwp_reg (ils_cons rfl (mvI rfl rfl rfl rfl) <|
           ils_cons rfl (asI rfl rfl rfl rfl) <|
           ils_end ?_)
          refine iwp_ret ?_
          obtain rfl := Option.some.inj h
          refine ⟨.inr rfl, (fun i => i), ⟨.nil, (.cons (EntW.lst rfl) .nil), nd_of [1000] rfl (by decide), fun _ _ => rfl⟩, (.cons (sv rfl) .nil), rfl⟩
         ·
          replace h := bif_f h hc213
          refine iwp_skip ?_
          refine thenQ_n ?_
          obtain ⟨x214, hx214, h⟩ := bno_e h
          obtain ⟨x215, hx215, h⟩ := bno_e h
          obtain ⟨x216, hx216, h⟩ := bno_e h
          obtain ⟨x217, hx217, h⟩ := bno_e h
          obtain ⟨x218, hx218, h⟩ := bno_e h
          obtain ⟨x219, hx219, h⟩ := bno_e h
          obtain ⟨x220, hx220, h⟩ := bnd_e h
          obtain ⟨x221, hx221, h⟩ := bno_e h
          obtain ⟨x222, hx222, h⟩ := bno_e h
          obtain ⟨x223, hx223, h⟩ := bnd_e h
          refine iwp_drw rfl [⟨[0], [], [(65, .osl 1000 (eInt .i64).sz v83.length)], []⟩,
           ⟨[9], [], [(66, .int .i64 v165)], []⟩,
           ⟨[0], [], [(67, .osl 1000 (eInt .i64).sz v83.length)], []⟩,
           ⟨[10], [], [(68, .int .i64 v193)], []⟩,
           ⟨[0], [], [(69, .osl 1000 (eInt .i64).sz v83.length)], []⟩,
           ⟨[10], [], [(70, .int .i64 v193)], []⟩,
           ⟨[69, 70], [], [(71, .ref 1000 (((v193 : Int).toNat) * (eInt .i64).sz + 0))], []⟩,
           ⟨[71], [1000], [(72, .int .i64 x215)], []⟩,
           ⟨[0], [], [(73, .osl 1000 (eInt .i64).sz v83.length)], []⟩,
           ⟨[9], [], [(74, .int .i64 v165)], []⟩,
           ⟨[73, 74], [], [(75, .ref 1000 (((v165 : Int).toNat) * (eInt .i64).sz + 0))], []⟩,
           ⟨[75], [1000], [(76, .int .i64 x217)], []⟩,
           ⟨[65, 66], [], [(77, .ref 1000 (((v165 : Int).toNat) * (eInt .i64).sz + 0))], []⟩,
           ⟨[72, 77], [1000], [], [(1000, .blk 3 (D.flat (x220.map (eInt .i64).d)))]⟩,
           ⟨[67, 68], [], [(78, .ref 1000 (((v193 : Int).toNat) * (eInt .i64).sz + 0))], []⟩,
           ⟨[76, 78], [1000], [], [(1000, .blk 3 (D.flat (x223.map (eInt .i64).d)))]⟩] rfl ?_ (by kernel_rfl) ?_
          ·refine .cons (lop rfl rfl fun S hA => (iop_move rfl rfl (lb rfl) (sv (d := .osl _ _ _) (agr hA rfl rfl)))) ?_
           refine .cons (lop rfl rfl fun S hA => (iop_move rfl rfl (lb rfl) (svaI hA rfl rfl))) ?_
           refine .cons (lop rfl rfl fun S hA => (iop_move rfl rfl (lb rfl) (sv (d := .osl _ _ _) (agr hA rfl rfl)))) ?_
           refine .cons (lop rfl rfl fun S hA => (iop_move rfl rfl (lb rfl) (svaI hA rfl rfl))) ?_
           refine .cons (lop rfl rfl fun S hA => (iop_move rfl rfl (lb rfl) (sv (d := .osl _ _ _) (agr hA rfl rfl)))) ?_
           refine .cons (lop rfl rfl fun S hA => (iop_move rfl rfl (lb rfl) (svaI hA rfl rfl))) ?_
           refine .cons (lop rfl rfl fun S hA => (iop_idxO (eInt .i64).toEnc0 rfl rfl (lb rfl) Try.underlying23 ti3 (sv (d := .osl _ _ _) (agr hA rfl rfl)) rfl (svaI hA rfl rfl) hx214)) ?_
           refine .cons (lop rfl rfl fun S hA => (iop_loadEs (eInt .i64).toEnc0 (d := .int _ _) rfl rfl (lb rfl) Try.underlying3 ag3 ti3 (by decide) (svaR hA rfl rfl) (agi hA rfl rfl) hx215 (nle rfl) rfl)) ?_
           refine .cons (lop rfl rfl fun S hA => (iop_move rfl rfl (lb rfl) (sv (d := .osl _ _ _) (agr hA rfl rfl)))) ?_
           refine .cons (lop rfl rfl fun S hA => (iop_move rfl rfl (lb rfl) (svaI hA rfl rfl))) ?_
           refine .cons (lop rfl rfl fun S hA => (iop_idxO (eInt .i64).toEnc0 rfl rfl (lb rfl) Try.underlying23 ti3 (sv (d := .osl _ _ _) (agr hA rfl rfl)) rfl (svaI hA rfl rfl) hx216)) ?_
           refine .cons (lop rfl rfl fun S hA => (iop_loadEs (eInt .i64).toEnc0 (d := .int _ _) rfl rfl (lb rfl) Try.underlying3 ag3 ti3 (by decide) (svaR hA rfl rfl) (agi hA rfl rfl) hx217 (nle rfl) rfl)) ?_
           refine .cons (lop rfl rfl fun S hA => (iop_idxO (eInt .i64).toEnc0 rfl rfl (lb rfl) Try.underlying23 ti3 (sv (d := .osl _ _ _) (agr hA rfl rfl)) rfl (svaI hA rfl rfl) hx218)) ?_
           refine .cons (lop rfl rfl fun S hA => (iop_storeE (eInt .i64).toEnc0 (a' := x215) rfl rfl ti3 (svaR hA rfl rfl) (agi hA rfl rfl) (svaI hA rfl rfl) rfl rfl rfl hx219 (nle rfl) rfl hx220)) ?_
           refine .cons (lop rfl rfl fun S hA => (iop_idxO (eInt .i64).toEnc0 rfl rfl (lb rfl) Try.underlying23 ti3 (sv (d := .osl _ _ _) (agr hA rfl rfl)) (len_set hx220 rfl) (svaI hA rfl rfl) hx221)) ?_
           refine .cons (lop rfl rfl fun S hA => (iop_storeE (eInt .i64).toEnc0 (a' := x217) rfl rfl ti3 (svaR hA rfl rfl) (agi hA rfl rfl) (svaI hA rfl rfl) rfl rfl rfl hx222 (nle rfl) rfl hx223)) ?_
           exact .nil
          obtain ⟨x224, hx224, h⟩ := bnd_e h
          refine iwp_reg (ils_cons rfl (mvI rfl rfl rfl rfl) <|
           ils_cons rfl (iop_intx rfl rfl (lb rfl) (svI rfl) (sv (d := .int _ 1) rfl) rfl hx224) <|
           ils_cons rfl (asI rfl rfl rfl rfl) <|
           ils_end ?_)
          obtain ⟨x225, hx225, h⟩ := bnd_e h
          refine iwp_region (ils_cons rfl (mvI rfl rfl rfl rfl) <|
           ils_cons rfl (iop_intx rfl rfl (lb rfl) (svI rfl) (sv (d := .int _ 1) rfl) rfl hx225) <|
           ils_cons rfl (asI rfl rfl rfl rfl) <|
           ils_nil ?_)
          refine blockQ_n ?_
          refine thenQ_n ⟨(n0, x223, x224, x225), (fun i => i), ⟨(.cons (.same (congrArg (D.osl _ _) (len_set hx223 (len_set hx220 rfl)).symm) rfl) (.sames rfl rfl)), (.cons (EntW.lst rfl) .nil), nd_of [1000] rfl (by decide), fun _ _ => rfl⟩, ?_, ?_⟩
          exact h
          exact Nat.lt_succ_self _

theorem p_slices_partitionOrdered_int_h (a0 : Int) (a1 : Int) (a2 : Int) (a3 : (List Int)) (r : (Int × Bool × (List Int))) (h : slices_partitionOrdered_int_h a0 a1 a2 a3 = some r) : FnH Try.prog 89 (w17 (.osl 1000 (eInt .i64).sz a3.length) a0 a1 a2) [(1000, .blk 3 (D.flat (a3.map (eInt .i64).d)))] (retD [.int .i64 r.1, .bool r.2.1]) [(1000, .blk 3 (D.flat (r.2.2.map (eInt .i64).d)))] := by
 refine fnh_of_iwp (rs := [.int .i64 r.1, .bool r.2.1]) Try.func89 rfl Try.ntmps89 (nle rfl) fun O hO => ?_
 show IWP _ _ _ _ ⟨[(0, .osl 1000 (eInt .i64).sz a3.length), (1, .int .i64 a0), (2, .int .i64 a1), (3, .int .i64 a2)], [(1000, .blk 3 (D.flat (a3.map (eInt .i64).d)))]⟩ _
 unfold slices_partitionOrdered_int_h at h
 refine iwp_reg (ils_cons rfl (iop_assign rfl rfl (lb rfl) (sv (d := .int _ 0) rfl)) <|
  ils_cons rfl (iop_assign rfl rfl (lb rfl) (sv (d := .bool false) rfl)) <|
  ils_end ?_)
 obtain ⟨x1, hx1, h⟩ := bno_e h
 obtain ⟨x2, hx2, h⟩ := bno_e h
 obtain ⟨x3, hx3, h⟩ := bno_e h
 obtain ⟨x4, hx4, h⟩ := bno_e h
 obtain ⟨x5, hx5, h⟩ := bno_e h
 obtain ⟨x6, hx6, h⟩ := bno_e h
 obtain ⟨x7, hx7, h⟩ := bnd_e h
 obtain ⟨x8, hx8, h⟩ := bno_e h
 obtain ⟨x9, hx9, h⟩ := bno_e h
 obtain ⟨x10, hx10, h⟩ := bnd_e h
 refine iwp_drw rfl [⟨[0], [], [(12, .osl 1000 (eInt .i64).sz a3.length)], []⟩,
  ⟨[1], [], [(13, .int .i64 a0)], []⟩,
  ⟨[0], [], [(14, .osl 1000 (eInt .i64).sz a3.length)], []⟩,
  ⟨[3], [], [(15, .int .i64 a2)], []⟩,
  ⟨[0], [], [(16, .osl 1000 (eInt .i64).sz a3.length)], []⟩,
  ⟨[3], [], [(17, .int .i64 a2)], []⟩,
  ⟨[16, 17], [], [(18, .ref 1000 (((a2 : Int).toNat) * (eInt .i64).sz + 0))], []⟩,
  ⟨[18], [1000], [(19, .int .i64 x2)], []⟩,
  ⟨[0], [], [(20, .osl 1000 (eInt .i64).sz a3.length)], []⟩,
  ⟨[1], [], [(21, .int .i64 a0)], []⟩,
  ⟨[20, 21], [], [(22, .ref 1000 (((a0 : Int).toNat) * (eInt .i64).sz + 0))], []⟩,
  ⟨[22], [1000], [(23, .int .i64 x4)], []⟩,
  ⟨[12, 13], [], [(24, .ref 1000 (((a0 : Int).toNat) * (eInt .i64).sz + 0))], []⟩,
  ⟨[19, 24], [1000], [], [(1000, .blk 3 (D.flat (x7.map (eInt .i64).d)))]⟩,
  ⟨[14, 15], [], [(25, .ref 1000 (((a2 : Int).toNat) * (eInt .i64).sz + 0))], []⟩,
  ⟨[23, 25], [1000], [], [(1000, .blk 3 (D.flat (x10.map (eInt .i64).d)))]⟩] rfl ?_ (by kernel_rfl) ?_
 ·refine .cons (lop rfl rfl fun S hA => (iop_move rfl rfl (lb rfl) (sv (d := .osl _ _ _) (agr hA rfl rfl)))) ?_
  refine .cons (lop rfl rfl fun S hA => (iop_move rfl rfl (lb rfl) (svaI hA rfl rfl))) ?_
  refine .cons (lop rfl rfl fun S hA => (iop_move rfl rfl (lb rfl) (sv (d := .osl _ _ _) (agr hA rfl rfl)))) ?_
  refine .cons (lop rfl rfl fun S hA => (iop_move rfl rfl (lb rfl) (svaI hA rfl rfl))) ?_
  refine .cons (lop rfl rfl fun S hA => (iop_move rfl rfl (lb rfl) (sv (d := .osl _ _ _) (agr hA rfl rfl)))) ?_
  refine .cons (lop rfl rfl fun S hA => (iop_move rfl rfl (lb rfl) (svaI hA rfl rfl))) ?_
  refine .cons (lop rfl rfl fun S hA => (iop_idxO (eInt .i64).toEnc0 rfl rfl (lb rfl) Try.underlying23 ti3 (sv (d := .osl _ _ _) (agr hA rfl rfl)) rfl (svaI hA rfl rfl) hx1)) ?_
  refine .cons (lop rfl rfl fun S hA => (iop_loadEs (eInt .i64).toEnc0 (d := .int _ _) rfl rfl (lb rfl) Try.underlying3 ag3 ti3 (by decide) (svaR hA rfl rfl) (agi hA rfl rfl) hx2 (nle rfl) rfl)) ?_
  refine .cons (lop rfl rfl fun S hA => (iop_move rfl rfl (lb rfl) (sv (d := .osl _ _ _) (agr hA rfl rfl)))) ?_
  refine .cons (lop rfl rfl fun S hA => (iop_move rfl rfl (lb rfl) (svaI hA rfl rfl))) ?_
  refine .cons (lop rfl rfl fun S hA => (iop_idxO (eInt .i64).toEnc0 rfl rfl (lb rfl) Try.underlying23 ti3 (sv (d := .osl _ _ _) (agr hA rfl rfl)) rfl (svaI hA rfl rfl) hx3)) ?_
  refine .cons (lop rfl rfl fun S hA => (iop_loadEs (eInt .i64).toEnc0 (d := .int _ _) rfl rfl (lb rfl) Try.underlying3 ag3 ti3 (by decide) (svaR hA rfl rfl) (agi hA rfl rfl) hx4 (nle rfl) rfl)) ?_
  refine .cons (lop rfl rfl fun S hA => (iop_idxO (eInt .i64).toEnc0 rfl rfl (lb rfl) Try.underlying23 ti3 (sv (d := .osl _ _ _) (agr hA rfl rfl)) rfl (svaI hA rfl rfl) hx5)) ?_
  refine .cons (lop rfl rfl fun S hA => (iop_storeE (eInt .i64).toEnc0 (a' := x2) rfl rfl ti3 (svaR hA rfl rfl) (agi hA rfl rfl) (svaI hA rfl rfl) rfl rfl rfl hx6 (nle rfl) rfl hx7)) ?_
  refine .cons (lop rfl rfl fun S hA => (iop_idxO (eInt .i64).toEnc0 rfl rfl (lb rfl) Try.underlying23 ti3 (sv (d := .osl _ _ _) (agr hA rfl rfl)) (len_set hx7 rfl) (svaI hA rfl rfl) hx8)) ?_
  refine .cons (lop rfl rfl fun S hA => (iop_storeE (eInt .i64).toEnc0 (a' := x4) rfl rfl ti3 (svaR hA rfl rfl) (agi hA rfl rfl) (svaI hA rfl rfl) rfl rfl rfl hx9 (nle rfl) rfl hx10)) ?_
  exact .nil
 obtain ⟨x11, hx11, h⟩ := bnd_e h
 obtain ⟨x12, hx12, h⟩ := bnd_e h
 refine iwp_reg (ils_cons rfl (mvI rfl rfl rfl rfl) <|
  ils_cons rfl (iop_intx rfl rfl (lb rfl) (svI rfl) (sv (d := .int _ 1) rfl) rfl hx11) <|
  ils_cons rfl (mvI rfl rfl rfl rfl) <|
  ils_cons rfl (iop_intx rfl rfl (lb rfl) (svI rfl) (sv (d := .int _ 1) rfl) rfl hx12) <|
  ils_cons rfl (asI rfl rfl rfl rfl) <|
  ils_cons rfl (asI rfl rfl rfl rfl) <|
  ils_end ?_)
 refine iwp_seq ?_
 refine iwp_block ?_
 refine iwp_loopP (α := Nat × Int) (fun z => ⟨[(0, .osl 1000 (eInt .i64).sz x10.length), (1, .int .i64 a0), (10, .int .i64 z.2), (11, .int .i64 x12)], [(1000, .blk 3 (D.flat (x10.map (eInt .i64).d)))]⟩) (fun z => slices_partitionOrdered_int_h_L0 a0 x10 x12 z.1 z.2 = some r) (fun z => z.1) (fuel, x11) (fun i => i) ⟨(.cons (.same (congrArg (D.osl _ _) (len_set hx10 (len_set hx7 rfl)).symm) rfl) (.sames rfl rfl)), (.cons (EntW.lst rfl) .nil), nd_of [1000] rfl (by decide), fun _ _ => rfl⟩ ?_ ?_
 ·exact h
 ·
  rintro ⟨n0, v22⟩ h
  cases n0 with
  | zero => exact absurd h (by unfold slices_partitionOrdered_int_h_L0; exact nofun)
  | succ n0 =>
   unfold slices_partitionOrdered_int_h_L0 at h
   refine iwp_seq ?_
   obtain ⟨x32, hx32, h⟩ := bnd_e h
   obtain ⟨x33, hx33, h⟩ := bno_e h
   obtain ⟨x34, hx34, h⟩ := bno_e h
   obtain ⟨x35, hx35, h⟩ := bno_e h
   obtain ⟨x36, hx36, h⟩ := bno_e h
   obtain ⟨x37, hx37, h⟩ := bno_e h
   obtain ⟨x38, hx38, h⟩ := bnd_e h
   refine iwp_drw rfl [⟨[10], [], [(30, .int .i64 v22)], []⟩,
    ⟨[11], [], [(31, .int .i64 x12)], []⟩,
    ⟨[30, 31], [], [(32, .bool x32)], []⟩,
    ⟨[32], [], [(33, .bool x32)], []⟩,
    ⟨[0, 33], [], [(34, .cnd (x32 == true) (.osl 1000 (eInt .i64).sz x10.length))], []⟩,
    ⟨[10, 33], [], [(35, .cnd (x32 == true) (.int .i64 v22))], []⟩,
    ⟨[33, 34, 35], [], [(36, .cnd (x32 == true) (.ref 1000 (((v22 : Int).toNat) * (eInt .i64).sz + 0)))], []⟩,
    ⟨[33, 36], [1000], [(37, .cnd (x32 == true) (.int .i64 x34))], []⟩,
    ⟨[0, 33], [], [(38, .cnd (x32 == true) (.osl 1000 (eInt .i64).sz x10.length))], []⟩,
    ⟨[1, 33], [], [(39, .cnd (x32 == true) (.int .i64 a0))], []⟩,
    ⟨[33, 38, 39], [], [(40, .cnd (x32 == true) (.ref 1000 (((a0 : Int).toNat) * (eInt .i64).sz + 0)))], []⟩,
    ⟨[33, 40], [1000], [(41, .cnd (x32 == true) (.int .i64 x36))], []⟩,
    ⟨[33, 37, 41], [], [(42, .cnd (x32 == true) (.bool x37))], []⟩,
    ⟨[33, 42], [], [(43, .bool x38)], []⟩] rfl ?_ (by kernel_rfl) ?_
   ·refine .cons (lop rfl rfl fun S hA => (iop_move rfl rfl (lb rfl) (svaI hA rfl rfl))) ?_
    refine .cons (lop rfl rfl fun S hA => (iop_move rfl rfl (lb rfl) (svaI hA rfl rfl))) ?_
    refine .cons (lop rfl rfl fun S hA => (iop_cmpx rfl rfl (lb rfl) (svaI hA rfl rfl) (svaI hA rfl rfl) rfl hx32)) ?_
    refine .cons (lop rfl rfl fun S hA => (iop_move rfl rfl (lb rfl) (svaB hA rfl rfl))) ?_
    refine .cons (lopg rfl rfl rfl rfl (by decide) (fun S hA => grd1 hA rfl rfl) (fun S hA hb => (iop_move rfl rfl (lb rfl) (sv (d := .osl _ _ _) (agr hA rfl rfl))))) ?_
    refine .cons (lopg rfl rfl rfl rfl (by decide) (fun S hA => grd1 hA rfl rfl) (fun S hA hb => (iop_move rfl rfl (lb rfl) (svaI hA rfl rfl)))) ?_
    refine .cons (lopg rfl rfl rfl rfl (by decide) (fun S hA => grd1 hA rfl rfl) (fun S hA hb => (iop_idxO (eInt .i64).toEnc0 rfl rfl (lb rfl) Try.underlying23 ti3 (svc (d := .osl _ _ _) (agr hA rfl rfl) hb) rfl (svc (d := .int _ _) (agr hA rfl rfl) hb) (gd_t hx33 hb)))) ?_
    refine .cons (lopg rfl rfl rfl rfl (by decide) (fun S hA => grd1 hA rfl rfl) (fun S hA hb => (iop_loadEs (eInt .i64).toEnc0 (d := .int _ _) rfl rfl (lb rfl) Try.underlying3 ag3 ti3 (by decide) (svc (d := .ref _ _) (agr hA rfl rfl) hb) (agi hA rfl rfl) (gd_t hx34 hb) (nle rfl) rfl))) ?_
    refine .cons (lopg rfl rfl rfl rfl (by decide) (fun S hA => grd1 hA rfl rfl) (fun S hA hb => (iop_move rfl rfl (lb rfl) (sv (d := .osl _ _ _) (agr hA rfl rfl))))) ?_
    refine .cons (lopg rfl rfl rfl rfl (by decide) (fun S hA => grd1 hA rfl rfl) (fun S hA hb => (iop_move rfl rfl (lb rfl) (svaI hA rfl rfl)))) ?_
    refine .cons (lopg rfl rfl rfl rfl (by decide) (fun S hA => grd1 hA rfl rfl) (fun S hA hb => (iop_idxO (eInt .i64).toEnc0 rfl rfl (lb rfl) Try.underlying23 ti3 (svc (d := .osl _ _ _) (agr hA rfl rfl) hb) rfl (svc (d := .int _ _) (agr hA rfl rfl) hb) (gd_t hx35 hb)))) ?_
    refine .cons (lopg rfl rfl rfl rfl (by decide) (fun S hA => grd1 hA rfl rfl) (fun S hA hb => (iop_loadEs (eInt .i64).toEnc0 (d := .int _ _) rfl rfl (lb rfl) Try.underlying3 ag3 ti3 (by decide) (svc (d := .ref _ _) (agr hA rfl rfl) hb) (agi hA rfl rfl) (gd_t hx36 hb) (nle rfl) rfl))) ?_
    refine .cons (lopg rfl rfl rfl rfl (by decide) (fun S hA => grd1 hA rfl rfl) (fun S hA hb => (iop_call (r := .bool _) rfl rfl (lb rfl) cl87 (.cons (svc (d := .int _ _) (agr hA rfl rfl) hb) (.cons (svc (d := .int _ _) (agr hA rfl rfl) hb) .nil)) rfl (p_cmp_Less_int _ _ _ (gd_t hx37 hb))))) ?_
    refine .cons (lop rfl rfl fun S hA => (iop_andx rfl rfl (lb rfl) (svaB hA rfl rfl) (agr hA rfl rfl) rfl hx38)) ?_
    exact .nil
   refine iwp_cond (b := _) rfl (fun hc39 => ?_) (fun hc39 => ?_)
   ·
    replace h := bif_t h hc39
    refine iwp_skip ?_
    refine thenQ_n ?_
    refine iwp_block ?_
    obtain ⟨x40, hx40, h⟩ := bnd_e h
    refine iwp_region (ils_cons rfl (mvI rfl rfl rfl rfl) <|
     ils_cons rfl (iop_intx rfl rfl (lb rfl) (svI rfl) (sv (d := .int _ 1) rfl) rfl hx40) <|
     ils_cons rfl (asI rfl rfl rfl rfl) <|
     ils_nil ?_)
    refine blockQ_n ?_
    refine thenQ_n ⟨(n0, x40), (fun i => i), ⟨(.sames rfl rfl), (.cons (EntW.lst rfl) .nil), nd_of [1000] rfl (by decide), fun _ _ => rfl⟩, ?_, ?_⟩
    exact h
    exact Nat.lt_succ_self _
   ·
    replace h := bif_f h hc39
    refine iwp_exit ?_
    refine thenQ_e ?_
    refine thenQ_e ?_
    refine blockQ_e ?_
    refine thenQ_n ?_
    refine iwp_seq ?_
    refine iwp_block ?_
    refine iwp_loopP (α := Nat × Int) (fun z => ⟨[(0, .osl 1000 (eInt .i64).sz x10.length), (1, .int .i64 a0), (10, .int .i64 v22), (11, .int .i64 z.2)], [(1000, .blk 3 (D.flat (x10.map (eInt .i64).d)))]⟩) (fun z => slices_partitionOrdered_int_h_L1 a0 x10 v22 z.1 z.2 = some r) (fun z => z.1) (fuel, x12) (fun i => i) ⟨(.sames rfl rfl), (.cons (EntW.lst rfl) .nil), nd_of [1000] rfl (by decide), fun _ _ => rfl⟩ ?_ ?_
    ·exact h
    ·
     rintro ⟨n1, v50⟩ h
     cases n1 with
     | zero => exact absurd h (by unfold slices_partitionOrdered_int_h_L1; exact nofun)
     | succ n1 =>
      unfold slices_partitionOrdered_int_h_L1 at h
      refine iwp_seq ?_
      obtain ⟨x60, hx60, h⟩ := bnd_e h
      obtain ⟨x61, hx61, h⟩ := bno_e h
      obtain ⟨x62, hx62, h⟩ := bno_e h
      obtain ⟨x63, hx63, h⟩ := bno_e h
      obtain ⟨x64, hx64, h⟩ := bno_e h
      obtain ⟨x65, hx65, h⟩ := bno_e h
      obtain ⟨x66, hx66, h⟩ := bnd_e h
      refine iwp_drw rfl [⟨[10], [], [(46, .int .i64 v22)], []⟩,
       ⟨[11], [], [(47, .int .i64 v50)], []⟩,
       ⟨[46, 47], [], [(48, .bool x60)], []⟩,
       ⟨[48], [], [(49, .bool x60)], []⟩,
       ⟨[0, 49], [], [(50, .cnd (x60 == true) (.osl 1000 (eInt .i64).sz x10.length))], []⟩,
       ⟨[11, 49], [], [(51, .cnd (x60 == true) (.int .i64 v50))], []⟩,
       ⟨[49, 50, 51], [], [(52, .cnd (x60 == true) (.ref 1000 (((v50 : Int).toNat) * (eInt .i64).sz + 0)))], []⟩,
       ⟨[49, 52], [1000], [(53, .cnd (x60 == true) (.int .i64 x62))], []⟩,
       ⟨[0, 49], [], [(54, .cnd (x60 == true) (.osl 1000 (eInt .i64).sz x10.length))], []⟩,
       ⟨[1, 49], [], [(55, .cnd (x60 == true) (.int .i64 a0))], []⟩,
       ⟨[49, 54, 55], [], [(56, .cnd (x60 == true) (.ref 1000 (((a0 : Int).toNat) * (eInt .i64).sz + 0)))], []⟩,
       ⟨[49, 56], [1000], [(57, .cnd (x60 == true) (.int .i64 x64))], []⟩,
       ⟨[49, 53, 57], [], [(58, .cnd (x60 == true) (.bool x65))], []⟩,
       ⟨[49, 58], [], [(59, .cnd (x60 == true) (.bool (!x65)))], []⟩,
       ⟨[49, 59], [], [(60, .bool x66)], []⟩] rfl ?_ (by kernel_rfl) ?_
      ·refine .cons (lop rfl rfl fun S hA => (iop_move rfl rfl (lb rfl) (svaI hA rfl rfl))) ?_
       refine .cons (lop rfl rfl fun S hA => (iop_move rfl rfl (lb rfl) (svaI hA rfl rfl))) ?_
       refine .cons (lop rfl rfl fun S hA => (iop_cmpx rfl rfl (lb rfl) (svaI hA rfl rfl) (svaI hA rfl rfl) rfl hx60)) ?_
       refine .cons (lop rfl rfl fun S hA => (iop_move rfl rfl (lb rfl) (svaB hA rfl rfl))) ?_
       refine .cons (lopg rfl rfl rfl rfl (by decide) (fun S hA => grd1 hA rfl rfl) (fun S hA hb => (iop_move rfl rfl (lb rfl) (sv (d := .osl _ _ _) (agr hA rfl rfl))))) ?_
       refine .cons (lopg rfl rfl rfl rfl (by decide) (fun S hA => grd1 hA rfl rfl) (fun S hA hb => (iop_move rfl rfl (lb rfl) (svaI hA rfl rfl)))) ?_
       refine .cons (lopg rfl rfl rfl rfl (by decide) (fun S hA => grd1 hA rfl rfl) (fun S hA hb => (iop_idxO (eInt .i64).toEnc0 rfl rfl (lb rfl) Try.underlying23 ti3 (svc (d := .osl _ _ _) (agr hA rfl rfl) hb) rfl (svc (d := .int _ _) (agr hA rfl rfl) hb) (gd_t hx61 hb)))) ?_
       refine .cons (lopg rfl rfl rfl rfl (by decide) (fun S hA => grd1 hA rfl rfl) (fun S hA hb => (iop_loadEs (eInt .i64).toEnc0 (d := .int _ _) rfl rfl (lb rfl) Try.underlying3 ag3 ti3 (by decide) (svc (d := .ref _ _) (agr hA rfl rfl) hb) (agi hA rfl rfl) (gd_t hx62 hb) (nle rfl) rfl))) ?_
       refine .cons (lopg rfl rfl rfl rfl (by decide) (fun S hA => grd1 hA rfl rfl) (fun S hA hb => (iop_move rfl rfl (lb rfl) (sv (d := .osl _ _ _) (agr hA rfl rfl))))) ?_
       refine .cons (lopg rfl rfl rfl rfl (by decide) (fun S hA => grd1 hA rfl rfl) (fun S hA hb => (iop_move rfl rfl (lb rfl) (svaI hA rfl rfl)))) ?_
       refine .cons (lopg rfl rfl rfl rfl (by decide) (fun S hA => grd1 hA rfl rfl) (fun S hA hb => (iop_idxO (eInt .i64).toEnc0 rfl rfl (lb rfl) Try.underlying23 ti3 (svc (d := .osl _ _ _) (agr hA rfl rfl) hb) rfl (svc (d := .int _ _) (agr hA rfl rfl) hb) (gd_t hx63 hb)))) ?_
       refine .cons (lopg rfl rfl rfl rfl (by decide) (fun S hA => grd1 hA rfl rfl) (fun S hA hb => (iop_loadEs (eInt .i64).toEnc0 (d := .int _ _) rfl rfl (lb rfl) Try.underlying3 ag3 ti3 (by decide) (svc (d := .ref _ _) (agr hA rfl rfl) hb) (agi hA rfl rfl) (gd_t hx64 hb) (nle rfl) rfl))) ?_
       refine .cons (lopg rfl rfl rfl rfl (by decide) (fun S hA => grd1 hA rfl rfl) (fun S hA hb => (iop_call (r := .bool _) rfl rfl (lb rfl) cl87 (.cons (svc (d := .int _ _) (agr hA rfl rfl) hb) (.cons (svc (d := .int _ _) (agr hA rfl rfl) hb) .nil)) rfl (p_cmp_Less_int _ _ _ (gd_t hx65 hb))))) ?_
       refine .cons (lopg rfl rfl rfl rfl (by decide) (fun S hA => grd1 hA rfl rfl) (fun S hA hb => (iop_not rfl rfl (lb rfl) (svc (d := .bool _) (agr hA rfl rfl) hb)))) ?_
       refine .cons (lop rfl rfl fun S hA => (iop_andx rfl rfl (lb rfl) (svaB hA rfl rfl) (agr hA rfl rfl) rfl hx66)) ?_
       exact .nil
      refine iwp_cond (b := _) rfl (fun hc67 => ?_) (fun hc67 => ?_)
      ·
       replace h := bif_t h hc67
       refine iwp_skip ?_
       refine thenQ_n ?_
       refine iwp_block ?_
       obtain ⟨x68, hx68, h⟩ := bnd_e h
       refine iwp_region (ils_cons rfl (mvI rfl rfl rfl rfl) <|
        ils_cons rfl (iop_intx rfl rfl (lb rfl) (svI rfl) (sv (d := .int _ 1) rfl) rfl hx68) <|
        ils_cons rfl (asI rfl rfl rfl rfl) <|
        ils_nil ?_)
       refine blockQ_n ?_
       refine thenQ_n ⟨(n1, x68), (fun i => i), ⟨(.sames rfl rfl), (.cons (EntW.lst rfl) .nil), nd_of [1000] rfl (by decide), fun _ _ => rfl⟩, ?_, ?_⟩
       exact h
       exact Nat.lt_succ_self _
      ·
       replace h := bif_f h hc67
       refine iwp_exit ?_
       refine thenQ_e ?_
       refine thenQ_e ?_
       refine blockQ_e ?_
       refine thenQ_n ?_
       refine iwp_seq ?_
       obtain ⟨x69, hx69, h⟩ := bnd_e h
       refine iwp_reg (ils_cons rfl (mvI rfl rfl rfl rfl) <|
        ils_cons rfl (mvI rfl rfl rfl rfl) <|
        ils_cons rfl (iop_cmpx rfl rfl (lb rfl) (svI rfl) (svI rfl) rfl hx69) <|
        ils_end ?_)
       refine iwp_cond (b := _) rfl (fun hc70 => ?_) (fun hc70 => ?_)
       ·
        replace h := bif_t h hc70
        obtain ⟨x71, hx71, h⟩ := bno_e h
        obtain ⟨x72, hx72, h⟩ := bno_e h
        obtain ⟨x73, hx73, h⟩ := bno_e h
        obtain ⟨x74, hx74, h⟩ := bno_e h
        obtain ⟨x75, hx75, h⟩ := bno_e h
        obtain ⟨x76, hx76, h⟩ := bno_e h
        obtain ⟨x77, hx77, h⟩ := bnd_e h
        obtain ⟨x78, hx78, h⟩ := bno_e h
        obtain ⟨x79, hx79, h⟩ := bno_e h
        obtain ⟨x80, hx80, h⟩ := bnd_e h
        refine iwp_drw rfl [⟨[0], [], [(66, .osl 1000 (eInt .i64).sz x10.length)], []⟩,
         ⟨[11], [], [(67, .int .i64 v50)], []⟩,
         ⟨[0], [], [(68, .osl 1000 (eInt .i64).sz x10.length)], []⟩,
         ⟨[1], [], [(69, .int .i64 a0)], []⟩,
         ⟨[0], [], [(70, .osl 1000 (eInt .i64).sz x10.length)], []⟩,
         ⟨[1], [], [(71, .int .i64 a0)], []⟩,
         ⟨[70, 71], [], [(72, .ref 1000 (((a0 : Int).toNat) * (eInt .i64).sz + 0))], []⟩,
         ⟨[72], [1000], [(73, .int .i64 x72)], []⟩,
         ⟨[0], [], [(74, .osl 1000 (eInt .i64).sz x10.length)], []⟩,
         ⟨[11], [], [(75, .int .i64 v50)], []⟩,
         ⟨[74, 75], [], [(76, .ref 1000 (((v50 : Int).toNat) * (eInt .i64).sz + 0))], []⟩,
         ⟨[76], [1000], [(77, .int .i64 x74)], []⟩,
         ⟨[66, 67], [], [(78, .ref 1000 (((v50 : Int).toNat) * (eInt .i64).sz + 0))], []⟩,
         ⟨[73, 78], [1000], [], [(1000, .blk 3 (D.flat (x77.map (eInt .i64).d)))]⟩,
         ⟨[68, 69], [], [(79, .ref 1000 (((a0 : Int).toNat) * (eInt .i64).sz + 0))], []⟩,
         ⟨[77, 79], [1000], [], [(1000, .blk 3 (D.flat (x80.map (eInt .i64).d)))]⟩] rfl ?_ (by kernel_rfl) ?_
        ·refine .cons (lop rfl rfl fun S hA => (iop_move rfl rfl (lb rfl) (sv (d := .osl _ _ _) (agr hA rfl rfl)))) ?_
         refine .cons (lop rfl rfl fun S hA => (iop_move rfl rfl (lb rfl) (svaI hA rfl rfl))) ?_
         refine .cons (lop rfl rfl fun S hA => (iop_move rfl rfl (lb rfl) (sv (d := .osl _ _ _) (agr hA rfl rfl)))) ?_
         refine .cons (lop rfl rfl fun S hA => (iop_move rfl rfl (lb rfl) (svaI hA rfl rfl))) ?_
         refine .cons (lop rfl rfl fun S hA => (iop_move rfl rfl (lb rfl) (sv (d := .osl _ _ _) (agr hA rfl rfl)))) ?_
         refine .cons (lop rfl rfl fun S hA => (iop_move rfl rfl (lb rfl) (svaI hA rfl rfl))) ?_
         refine .cons (lop rfl rfl fun S hA => (iop_idxO (eInt .i64).toEnc0 rfl rfl (lb rfl) Try.underlying23 ti3 (sv (d := .osl _ _ _) (agr hA rfl rfl)) rfl (svaI hA rfl rfl) hx71)) ?_
         refine .cons (lop rfl rfl fun S hA => (iop_loadEs (eInt .i64).toEnc0 (d := .int _ _) rfl rfl (lb rfl) Try.underlying3 ag3 ti3 (by decide) (svaR hA rfl rfl) (agi hA rfl rfl) hx72 (nle rfl) rfl)) ?_
         refine .cons (lop rfl rfl fun S hA => (iop_move rfl rfl (lb rfl) (sv (d := .osl _ _ _) (agr hA rfl rfl)))) ?_
         refine .cons (lop rfl rfl fun S hA => (iop_move rfl rfl (lb rfl) (svaI hA rfl rfl))) ?_
         refine .cons (lop rfl rfl fun S hA => (iop_idxO (eInt .i64).toEnc0 rfl rfl (lb rfl) Try.underlying23 ti3 (sv (d := .osl _ _ _) (agr hA rfl rfl)) rfl (svaI hA rfl rfl) hx73)) ?_
         refine .cons (lop rfl rfl fun S hA => (iop_loadEs (eInt .i64).toEnc0 (d := .int _ _) rfl rfl (lb rfl) Try.underlying3 ag3 ti3 (by decide) (svaR hA rfl rfl) (agi hA rfl rfl) hx74 (nle rfl) rfl)) ?_
         refine .cons (lop rfl rfl fun S hA => (iop_idxO (eInt .i64).toEnc0 rfl rfl (lb rfl) Try.underlying23 ti3 (sv (d := .osl _ _ _) (agr hA rfl rfl)) rfl (svaI hA rfl rfl) hx75)) ?_
         refine .cons (lop rfl rfl fun S hA => (iop_storeE (eInt .i64).toEnc0 (a' := x72) rfl rfl ti3 (svaR hA rfl rfl) (agi hA rfl rfl) (svaI hA rfl rfl) rfl rfl rfl hx76 (nle rfl) rfl hx77)) ?_
         refine .cons (lop rfl rfl fun S hA => (iop_idxO (eInt .i64).toEnc0 rfl rfl (lb rfl) Try.underlying23 ti3 (sv (d := .osl _ _ _) (agr hA rfl rfl)) (len_set hx77 rfl) (svaI hA rfl rfl) hx78)) ?_
         refine .cons (lop rfl rfl fun S hA => (iop_storeE (eInt .i64).toEnc0 (a' := x74) rfl rfl ti3 (svaR hA rfl rfl) (agi hA rfl rfl) (svaI hA rfl rfl) rfl rfl rfl hx79 (nle rfl) rfl hx80)) ?_
         exact .nil
        refine iwp_reg (ils_cons rfl (mvI rfl rfl rfl rfl) <|
         ils_cons rfl (asI rfl rfl rfl rfl) <|
         ils_cons rfl (iop_assign rfl rfl (lb rfl) (sv (d := .bool true) rfl)) <|
         ils_end ?_)
        refine iwp_ret ?_
        refine thenQ_r ?_
        obtain rfl := Option.some.inj h
        refine ⟨.inr rfl, (fun i => i), ⟨.nil, (.cons (EntW.lst rfl) .nil), nd_of [1000] rfl (by decide), fun _ _ => rfl⟩, (.cons (sv rfl) (.cons (sv rfl) .nil)), rfl⟩
       ·
        replace h := bif_f h hc70
        refine iwp_skip ?_
        refine thenQ_n ?_
        obtain ⟨x81, hx81, h⟩ := bno_e h
        obtain ⟨x82, hx82, h⟩ := bno_e h
        obtain ⟨x83, hx83, h⟩ := bno_e h
        obtain ⟨x84, hx84, h⟩ := bno_e h
        obtain ⟨x85, hx85, h⟩ := bno_e h
        obtain ⟨x86, hx86, h⟩ := bno_e h
        obtain ⟨x87, hx87, h⟩ := bnd_e h
        obtain ⟨x88, hx88, h⟩ := bno_e h
        obtain ⟨x89, hx89, h⟩ := bno_e h
        obtain ⟨x90, hx90, h⟩ := bnd_e h
        refine iwp_drw rfl [⟨[0], [], [(81, .osl 1000 (eInt .i64).sz x10.length)], []⟩,
         ⟨[10], [], [(82, .int .i64 v22)], []⟩,
         ⟨[0], [], [(83, .osl 1000 (eInt .i64).sz x10.length)], []⟩,
         ⟨[11], [], [(84, .int .i64 v50)], []⟩,
         ⟨[0], [], [(85, .osl 1000 (eInt .i64).sz x10.length)], []⟩,
         ⟨[11], [], [(86, .int .i64 v50)], []⟩,
         ⟨[85, 86], [], [(87, .ref 1000 (((v50 : Int).toNat) * (eInt .i64).sz + 0))], []⟩,
         ⟨[87], [1000], [(88, .int .i64 x82)], []⟩,
         ⟨[0], [], [(89, .osl 1000 (eInt .i64).sz x10.length)], []⟩,
         ⟨[10], [], [(90, .int .i64 v22)], []⟩,
         ⟨[89, 90], [], [(91, .ref 1000 (((v22 : Int).toNat) * (eInt .i64).sz + 0))], []⟩,
         ⟨[91], [1000], [(92, .int .i64 x84)], []⟩,
         ⟨[81, 82], [], [(93, .ref 1000 (((v22 : Int).toNat) * (eInt .i64).sz + 0))], []⟩,
         ⟨[88, 93], [1000], [], [(1000, .blk 3 (D.flat (x87.map (eInt .i64).d)))]⟩,
         ⟨[83, 84], [], [(94, .ref 1000 (((v50 : Int).toNat) * (eInt .i64).sz + 0))], []⟩,
         ⟨[92, 94], [1000], [], [(1000, .blk 3 (D.flat (x90.map (eInt .i64).d)))]⟩] rfl ?_ (by kernel_rfl) ?_
        ·refine .cons (lop rfl rfl fun S hA => (iop_move rfl rfl (lb rfl) (sv (d := .osl _ _ _) (agr hA rfl rfl)))) ?_
         refine .cons (lop rfl rfl fun S hA => (iop_move rfl rfl (lb rfl) (svaI hA rfl rfl))) ?_
         refine .cons (lop rfl rfl fun S hA => (iop_move rfl rfl (lb rfl) (sv (d := .osl _ _ _) (agr hA rfl rfl)))) ?_
         refine .cons (lop rfl rfl fun S hA => (iop_move rfl rfl (lb rfl) (svaI hA rfl rfl))) ?_
         refine .cons (lop rfl rfl fun S hA => (iop_move rfl rfl (lb rfl) (sv (d := .osl _ _ _) (agr hA rfl rfl)))) ?_
         refine .cons (lop rfl rfl fun S hA => (iop_move rfl rfl (lb rfl) (svaI hA rfl rfl))) ?_
         refine .cons (lop rfl rfl fun S hA => (iop_idxO (eInt .i64).toEnc0 rfl rfl (lb rfl) Try.underlying23 ti3 (sv (d := .osl _ _ _) (agr hA rfl rfl)) rfl (svaI hA rfl rfl) hx81)) ?_
         refine .cons (lop rfl rfl fun S hA => (iop_loadEs (eInt .i64).toEnc0 (d := .int _ _) rfl rfl (lb rfl) Try.underlying3 ag3 ti3 (by decide) (svaR hA rfl rfl) (agi hA rfl rfl) hx82 (nle rfl) rfl)) ?_
         refine .cons (lop rfl rfl fun S hA => (iop_move rfl rfl (lb rfl) (sv (d := .osl _ _ _) (agr hA rfl rfl)))) ?_
         refine .cons (lop rfl rfl fun S hA => (iop_move rfl rfl (lb rfl) (svaI hA rfl rfl))) ?_
         refine .cons (lop rfl rfl fun S hA => (iop_idxO (eInt .i64).toEnc0 rfl rfl (lb rfl) Try.underlying23 ti3 (sv (d := .osl _ _ _) (agr hA rfl rfl)) rfl (svaI hA rfl rfl) hx83)) ?_
         refine .cons (lop rfl rfl fun S hA => (iop_loadEs (eInt .i64).toEnc0 (d := .int _ _) rfl rfl (lb rfl) Try.underlying3 ag3 ti3 (by decide) (svaR hA rfl rfl) (agi hA rfl rfl) hx84 (nle rfl) rfl)) ?_
         refine .cons (lop rfl rfl fun S hA => (iop_idxO (eInt .i64).toEnc0 rfl rfl (lb rfl) Try.underlying23 ti3 (sv (d := .osl _ _ _) (agr hA rfl rfl)) rfl (svaI hA rfl rfl) hx85)) ?_
         refine .cons (lop rfl rfl fun S hA => (iop_storeE (eInt .i64).toEnc0 (a' := x82) rfl rfl ti3 (svaR hA rfl rfl) (agi hA rfl rfl) (svaI hA rfl rfl) rfl rfl rfl hx86 (nle rfl) rfl hx87)) ?_
         refine .cons (lop rfl rfl fun S hA => (iop_idxO (eInt .i64).toEnc0 rfl rfl (lb rfl) Try.underlying23 ti3 (sv (d := .osl _ _ _) (agr hA rfl rfl)) (len_set hx87 rfl) (svaI hA rfl rfl) hx88)) ?_
         refine .cons (lop rfl rfl fun S hA => (iop_storeE (eInt .i64).toEnc0 (a' := x84) rfl rfl ti3 (svaR hA rfl rfl) (agi hA rfl rfl) (svaI hA rfl rfl) rfl rfl rfl hx89 (nle rfl) rfl hx90)) ?_
         exact .nil
        obtain ⟨x91, hx91, h⟩ := bnd_e h
        refine iwp_reg (ils_cons rfl (mvI rfl rfl rfl rfl) <|
         ils_cons rfl (iop_intx rfl rfl (lb rfl) (svI rfl) (sv (d := .int _ 1) rfl) rfl hx91) <|
         ils_cons rfl (asI rfl rfl rfl rfl) <|
         ils_end ?_)
        obtain ⟨x92, hx92, h⟩ := bnd_e h
        refine iwp_reg (ils_cons rfl (mvI rfl rfl rfl rfl) <|
         ils_cons rfl (iop_intx rfl rfl (lb rfl) (svI rfl) (sv (d := .int _ 1) rfl) rfl hx92) <|
         ils_cons rfl (asI rfl rfl rfl rfl) <|
         ils_end ?_)
        refine iwp_seq ?_
        refine iwp_block ?_
        refine iwp_loopP (α := Nat × (List Int) × Int × Int) (fun z => ⟨[(0, .osl 1000 (eInt .i64).sz z.2.1.length), (1, .int .i64 a0), (10, .int .i64 z.2.2.1), (11, .int .i64 z.2.2.2)], [(1000, .blk 3 (D.flat (z.2.1.map (eInt .i64).d)))]⟩) (fun z => slices_partitionOrdered_int_h_L2 a0 z.1 z.2.1 z.2.2.1 z.2.2.2 = some r) (fun z => z.1) (fuel, x90, x91, x92) (fun i => i) ⟨(.cons (.same (congrArg (D.osl _ _) (len_set hx90 (len_set hx87 rfl)).symm) rfl) (.sames rfl rfl)), (.cons (EntW.lst rfl) .nil), nd_of [1000] rfl (by decide), fun _ _ => rfl⟩ ?_ ?_
        ·exact h
        ·
         rintro ⟨n2, v163, v164, v165⟩ h
         cases n2 with
         | zero => exact absurd h (by unfold slices_partitionOrdered_int_h_L2; exact nofun)
         | succ n2 =>
          unfold slices_partitionOrdered_int_h_L2 at h
          refine iwp_block ?_
          refine iwp_seq ?_
          refine iwp_block ?_
          refine iwp_loopP (α := Nat × Int) (fun z => ⟨[(0, .osl 1000 (eInt .i64).sz v163.length), (1, .int .i64 a0), (10, .int .i64 z.2), (11, .int .i64 v165)], [(1000, .blk 3 (D.flat (v163.map (eInt .i64).d)))]⟩) (fun z => slices_partitionOrdered_int_h_L3 a0 v163 v165 (slices_partitionOrdered_int_h_L2 a0 n2) z.1 z.2 = some r) (fun z => z.1) (fuel, v164) (fun i => i) ⟨(.sames rfl rfl), (.cons (EntW.lst rfl) .nil), nd_of [1000] rfl (by decide), fun _ _ => rfl⟩ ?_ ?_
          ·exact h
          ·
           rintro ⟨n3, v245⟩ h
           cases n3 with
           | zero => exact absurd h (by unfold slices_partitionOrdered_int_h_L3; exact nofun)
           | succ n3 =>
            unfold slices_partitionOrdered_int_h_L3 at h
            refine iwp_seq ?_
            obtain ⟨x255, hx255, h⟩ := bnd_e h
            obtain ⟨x256, hx256, h⟩ := bno_e h
            obtain ⟨x257, hx257, h⟩ := bno_e h
            obtain ⟨x258, hx258, h⟩ := bno_e h
            obtain ⟨x259, hx259, h⟩ := bno_e h
            obtain ⟨x260, hx260, h⟩ := bno_e h
            obtain ⟨x261, hx261, h⟩ := bnd_e h
            refine iwp_drw rfl [⟨[10], [], [(99, .int .i64 v245)], []⟩,
             ⟨[11], [], [(100, .int .i64 v165)], []⟩,
             ⟨[99, 100], [], [(101, .bool x255)], []⟩,
             ⟨[101], [], [(102, .bool x255)], []⟩,
             ⟨[0, 102], [], [(103, .cnd (x255 == true) (.osl 1000 (eInt .i64).sz v163.length))], []⟩,
             ⟨[10, 102], [], [(104, .cnd (x255 == true) (.int .i64 v245))], []⟩,
             ⟨[102, 103, 104], [], [(105, .cnd (x255 == true) (.ref 1000 (((v245 : Int).toNat) * (eInt .i64).sz + 0)))], []⟩,
             ⟨[102, 105], [1000], [(106, .cnd (x255 == true) (.int .i64 x257))], []⟩,
             ⟨[0, 102], [], [(107, .cnd (x255 == true) (.osl 1000 (eInt .i64).sz v163.length))], []⟩,
             ⟨[1, 102], [], [(108, .cnd (x255 == true) (.int .i64 a0))], []⟩,
             ⟨[102, 107, 108], [], [(109, .cnd (x255 == true) (.ref 1000 (((a0 : Int).toNat) * (eInt .i64).sz + 0)))], []⟩,
             ⟨[102, 109], [1000], [(110, .cnd (x255 == true) (.int .i64 x259))], []⟩,
             ⟨[102, 106, 110], [], [(111, .cnd (x255 == true) (.bool x260))], []⟩,
             ⟨[102, 111], [], [(112, .bool x261)], []⟩] rfl ?_ (by kernel_rfl) ?_
            ·refine .cons (lop rfl rfl fun S hA => (iop_move rfl rfl (lb rfl) (svaI hA rfl rfl))) ?_
             refine .cons (lop rfl rfl fun S hA => (iop_move rfl rfl (lb rfl) (svaI hA rfl rfl))) ?_
             refine .cons (lop rfl rfl fun S hA => (iop_cmpx rfl rfl (lb rfl) (svaI hA rfl rfl) (svaI hA rfl rfl) rfl hx255)) ?_
             refine .cons (lop rfl rfl fun S hA => (iop_move rfl rfl (lb rfl) (svaB hA rfl rfl))) ?_
             refine .cons (lopg rfl rfl rfl rfl (by decide) (fun S hA => grd1 hA rfl rfl) (fun S hA hb => (iop_move rfl rfl (lb rfl) (sv (d := .osl _ _ _) (agr hA rfl rfl))))) ?_
             refine .cons (lopg rfl rfl rfl rfl (by decide) (fun S hA => grd1 hA rfl rfl) (fun S hA hb => (iop_move rfl rfl (lb rfl) (svaI hA rfl rfl)))) ?_
             refine .cons (lopg rfl rfl rfl rfl (by decide) (fun S hA => grd1 hA rfl rfl) (fun S hA hb => (iop_idxO (eInt .i64).toEnc0 rfl rfl (lb rfl) Try.underlying23 ti3 (svc (d := .osl _ _ _) (agr hA rfl rfl) hb) rfl (svc (d := .int _ _) (agr hA rfl rfl) hb) (gd_t hx256 hb)))) ?_
             refine .cons (lopg rfl rfl rfl rfl (by decide) (fun S hA => grd1 hA rfl rfl) (fun S hA hb => (iop_loadEs (eInt .i64).toEnc0 (d := .int _ _) rfl rfl (lb rfl) Try.underlying3 ag3 ti3 (by decide) (svc (d := .ref _ _) (agr hA rfl rfl) hb) (agi hA rfl rfl) (gd_t hx257 hb) (nle rfl) rfl))) ?_
             refine .cons (lopg rfl rfl rfl rfl (by decide) (fun S hA => grd1 hA rfl rfl) (fun S hA hb => (iop_move rfl rfl (lb rfl) (sv (d := .osl _ _ _) (agr hA rfl rfl))))) ?_
             refine .cons (lopg rfl rfl rfl rfl (by decide) (fun S hA => grd1 hA rfl rfl) (fun S hA hb => (iop_move rfl rfl (lb rfl) (svaI hA rfl rfl)))) ?_
             refine .cons (lopg rfl rfl rfl rfl (by decide) (fun S hA => grd1 hA rfl rfl) (fun S hA hb => (iop_idxO (eInt .i64).toEnc0 rfl rfl (lb rfl) Try.underlying23 ti3 (svc (d := .osl _ _ _) (agr hA rfl rfl) hb) rfl (svc (d := .int _ _) (agr hA rfl rfl) hb) (gd_t hx258 hb)))) ?_
             refine .cons (lopg rfl rfl rfl rfl (by decide) (fun S hA => grd1 hA rfl rfl) (fun S hA hb => (iop_loadEs (eInt .i64).toEnc0 (d := .int _ _) rfl rfl (lb rfl) Try.underlying3 ag3 ti3 (by decide) (svc (d := .ref _ _) (agr hA rfl rfl) hb) (agi hA rfl rfl) (gd_t hx259 hb) (nle rfl) rfl))) ?_
             refine .cons (lopg rfl rfl rfl rfl (by decide) (fun S hA => grd1 hA rfl rfl) (fun S hA hb => (iop_call (r := .bool _) rfl rfl (lb rfl) cl87 (.cons (svc (d := .int _ _) (agr hA rfl rfl) hb) (.cons (svc (d := .int _ _) (agr hA rfl rfl) hb) .nil)) rfl (p_cmp_Less_int _ _ _ (gd_t hx260 hb))))) ?_
             refine .cons (lop rfl rfl fun S hA => (iop_andx rfl rfl (lb rfl) (svaB hA rfl rfl) (agr hA rfl rfl) rfl hx261)) ?_
             exact .nil
            refine iwp_cond (b := _) rfl (fun hc262 => ?_) (fun hc262 => ?_)
            ·
             replace h := bif_t h hc262
             refine iwp_skip ?_
             refine thenQ_n ?_
             refine iwp_block ?_
             obtain ⟨x263, hx263, h⟩ := bnd_e h
             refine iwp_region (ils_cons rfl (mvI rfl rfl rfl rfl) <|
              ils_cons rfl (iop_intx rfl rfl (lb rfl) (svI rfl) (sv (d := .int _ 1) rfl) rfl hx263) <|
              ils_cons rfl (asI rfl rfl rfl rfl) <|
              ils_nil ?_)
             refine blockQ_n ?_
             refine thenQ_n ⟨(n3, x263), (fun i => i), ⟨(.sames rfl rfl), (.cons (EntW.lst rfl) .nil), nd_of [1000] rfl (by decide), fun _ _ => rfl⟩, ?_, ?_⟩
             exact h
             exact Nat.lt_succ_self _
            ·
             replace h := bif_f h hc262
             refine iwp_exit ?_
             refine thenQ_e ?_
             refine thenQ_e ?_
             refine blockQ_e ?_
             refine thenQ_n ?_
             refine iwp_seq ?_
             refine iwp_block ?_
             refine iwp_loopP (α := Nat × Int) (fun z => ⟨[(0, .osl 1000 (eInt .i64).sz v163.length), (1, .int .i64 a0), (10, .int .i64 v245), (11, .int .i64 z.2)], [(1000, .blk 3 (D.flat (v163.map (eInt .i64).d)))]⟩) (fun z => slices_partitionOrdered_int_h_L4 a0 v163 (slices_partitionOrdered_int_h_L2 a0 n2) v245 z.1 z.2 = some r) (fun z => z.1) (fuel, v165) (fun i => i) ⟨(.sames rfl rfl), (.cons (EntW.lst rfl) .nil), nd_of [1000] rfl (by decide), fun _ _ => rfl⟩ ?_ ?_
             ·exact h
             ·
              rintro ⟨n4, v273⟩ h
              cases n4 with
              | zero => exact absurd h (by unfold slices_partitionOrdered_int_h_L4; exact nofun)
              | succ n4 =>
               unfold slices_partitionOrdered_int_h_L4 at h
               refine iwp_seq ?_
               obtain ⟨x283, hx283, h⟩ := bnd_e h
               obtain ⟨x284, hx284, h⟩ := bno_e h
               obtain ⟨x285, hx285, h⟩ := bno_e h
               obtain ⟨x286, hx286, h⟩ := bno_e h
               obtain ⟨x287, hx287, h⟩ := bno_e h
               obtain ⟨x288, hx288, h⟩ := bno_e h
               obtain ⟨x289, hx289, h⟩ := bnd_e h
               refine iwp_drw rfl [⟨[10], [], [(115, .int .i64 v245)], []⟩,
                ⟨[11], [], [(116, .int .i64 v273)], []⟩,
                ⟨[115, 116], [], [(117, .bool x283)], []⟩,
                ⟨[117], [], [(118, .bool x283)], []⟩,
                ⟨[0, 118], [], [(119, .cnd (x283 == true) (.osl 1000 (eInt .i64).sz v163.length))], []⟩,
                ⟨[11, 118], [], [(120, .cnd (x283 == true) (.int .i64 v273))], []⟩,
                ⟨[118, 119, 120], [], [(121, .cnd (x283 == true) (.ref 1000 (((v273 : Int).toNat) * (eInt .i64).sz + 0)))], []⟩,
                ⟨[118, 121], [1000], [(122, .cnd (x283 == true) (.int .i64 x285))], []⟩,
                ⟨[0, 118], [], [(123, .cnd (x283 == true) (.osl 1000 (eInt .i64).sz v163.length))], []⟩,
                ⟨[1, 118], [], [(124, .cnd (x283 == true) (.int .i64 a0))], []⟩,
                ⟨[118, 123, 124], [], [(125, .cnd (x283 == true) (.ref 1000 (((a0 : Int).toNat) * (eInt .i64).sz + 0)))], []⟩,
                ⟨[118, 125], [1000], [(126, .cnd (x283 == true) (.int .i64 x287))], []⟩,
                ⟨[118, 122, 126], [], [(127, .cnd (x283 == true) (.bool x288))], []⟩,
                ⟨[118, 127], [], [(128, .cnd (x283 == true) (.bool (!x288)))], []⟩,
                ⟨[118, 128], [], [(129, .bool x289)], []⟩] rfl ?_ (by kernel_rfl) ?_
               ·refine .cons (lop rfl rfl fun S hA => (iop_move rfl rfl (lb rfl) (svaI hA rfl rfl))) ?_
                refine .cons (lop rfl rfl fun S hA => (iop_move rfl rfl (lb rfl) (svaI hA rfl rfl))) ?_
                refine .cons (lop rfl rfl fun S hA => (iop_cmpx rfl rfl (lb rfl) (svaI hA rfl rfl) (svaI hA rfl rfl) rfl hx283)) ?_
                refine .cons (lop rfl rfl fun S hA => (iop_move rfl rfl (lb rfl) (svaB hA rfl rfl))) ?_
                refine .cons (lopg rfl rfl rfl rfl (by decide) (fun S hA => grd1 hA rfl rfl) (fun S hA hb => (iop_move rfl rfl (lb rfl) (sv (d := .osl _ _ _) (agr hA rfl rfl))))) ?_
                refine .cons (lopg rfl rfl rfl rfl (by decide) (fun S hA => grd1 hA rfl rfl) (fun S hA hb => (iop_move rfl rfl (lb rfl) (svaI hA rfl rfl)))) ?_
                refine .cons (lopg rfl rfl rfl rfl (by decide) (fun S hA => grd1 hA rfl rfl) (fun S hA hb => (iop_idxO (eInt .i64).toEnc0 rfl rfl (lb rfl) Try.underlying23 ti3 (svc (d := .osl _ _ _) (agr hA rfl rfl) hb) rfl (svc (d := .int _ _) (agr hA rfl rfl) hb) (gd_t hx284 hb)))) ?_
                refine .cons (lopg rfl rfl rfl rfl (by decide) (fun S hA => grd1 hA rfl rfl) (fun S hA hb => (iop_loadEs (eInt .i64).toEnc0 (d := .int _ _) rfl rfl (lb rfl) Try.underlying3 ag3 ti3 (by decide) (svc (d := .ref _ _) (agr hA rfl rfl) hb) (agi hA rfl rfl) (gd_t hx285 hb) (nle rfl) rfl))) ?_
                refine .cons (lopg rfl rfl rfl rfl (by decide) (fun S hA => grd1 hA rfl rfl) (fun S hA hb => (iop_move rfl rfl (lb rfl) (sv (d := .osl _ _ _) (agr hA rfl rfl))))) ?_
                refine .cons (lopg rfl rfl rfl rfl (by decide) (fun S hA => grd1 hA rfl rfl) (fun S hA hb => (iop_move rfl rfl (lb rfl) (svaI hA rfl rfl)))) ?_
                refine .cons (lopg rfl rfl rfl rfl (by decide) (fun S hA => grd1 hA rfl rfl) (fun S hA hb => (iop_idxO (eInt .i64).toEnc0 rfl rfl (lb rfl) Try.underlying23 ti3 (svc (d := .osl _ _ _) (agr hA rfl rfl) hb) rfl (svc (d := .int _ _) (agr hA rfl rfl) hb) (gd_t hx286 hb)))) ?_
                refine .cons (lopg rfl rfl rfl rfl (by decide) (fun S hA => grd1 hA rfl rfl) (fun S hA hb => (iop_loadEs (eInt .i64).toEnc0 (d := .int _ _) rfl rfl (lb rfl) Try.underlying3 ag3 ti3 (by decide) (svc (d := .ref _ _) (agr hA rfl rfl) hb) (agi hA rfl rfl) (gd_t hx287 hb) (nle rfl) rfl))) ?_
                refine .cons (lopg rfl rfl rfl rfl (by decide) (fun S hA => grd1 hA rfl rfl) (fun S hA hb => (iop_call (r := .bool _) rfl rfl (lb rfl) cl87 (.cons (svc (d := .int _ _) (agr hA rfl rfl) hb) (.cons (svc (d := .int _ _) (agr hA rfl rfl) hb) .nil)) rfl (p_cmp_Less_int _ _ _ (gd_t hx288 hb))))) ?_
                refine .cons (lopg rfl rfl rfl rfl (by decide) (fun S hA => grd1 hA rfl rfl) (fun S hA hb => (iop_not rfl rfl (lb rfl) (svc (d := .bool _) (agr hA rfl rfl) hb)))) ?_
                refine .cons (lop rfl rfl fun S hA => (iop_andx rfl rfl (lb rfl) (svaB hA rfl rfl) (agr hA rfl rfl) rfl hx289)) ?_
                exact .nil
               refine iwp_cond (b := _) rfl (fun hc290 => ?_) (fun hc290 => ?_)
               ·
                replace h := bif_t h hc290
                refine iwp_skip ?_
                refine thenQ_n ?_
                refine iwp_block ?_
                obtain ⟨x291, hx291, h⟩ := bnd_e h
                refine iwp_region (ils_cons rfl (mvI rfl rfl rfl rfl) <|
                 ils_cons rfl (iop_intx rfl rfl (lb rfl) (svI rfl) (sv (d := .int _ 1) rfl) rfl hx291) <|
                 ils_cons rfl (asI rfl rfl rfl rfl) <|
                 ils_nil ?_)
                refine blockQ_n ?_
                refine thenQ_n ⟨(n4, x291), (fun i => i), ⟨(.sames rfl rfl), (.cons (EntW.lst rfl) .nil), nd_of [1000] rfl (by decide), fun _ _ => rfl⟩, ?_, ?_⟩
                exact h
                exact Nat.lt_succ_self _
               ·
                replace h := bif_f h hc290
                refine iwp_exit ?_
                refine thenQ_e ?_
                refine thenQ_e ?_
                refine blockQ_e ?_
                refine thenQ_n ?_
                refine iwp_seq ?_
                obtain ⟨x292, hx292, h⟩ := bnd_e h
                refine iwp_reg (ils_cons rfl (mvI rfl rfl rfl rfl) <|
                 ils_cons rfl (mvI rfl rfl rfl rfl) <|
                 ils_cons rfl (iop_cmpx rfl rfl (lb rfl) (svI rfl) (svI rfl) rfl hx292) <|
                 ils_end ?_)
                refine iwp_cond (b := _) rfl (fun hc293 => ?_) (fun hc293 => ?_)
                ·
                 replace h := bif_t h hc293
                 refine iwp_exit ?_
                 refine thenQ_e ?_
                 refine blockQ_x rfl ?_
                 refine thenQ_e ?_
                 refine blockQ_e ?_
                 refine thenQ_n ?_
                 obtain ⟨x294, hx294, h⟩ := bno_e h
                 obtain ⟨x295, hx295, h⟩ := bno_e h
                 obtain ⟨x296, hx296, h⟩ := bno_e h
                 obtain ⟨x297, hx297, h⟩ := bno_e h
                 obtain ⟨x298, hx298, h⟩ := bno_e h
                 obtain ⟨x299, hx299, h⟩ := bno_e h
                 obtain ⟨x300, hx300, h⟩ := bnd_e h
                 obtain ⟨x301, hx301, h⟩ := bno_e h
                 obtain ⟨x302, hx302, h⟩ := bno_e h
                 obtain ⟨x303, hx303, h⟩ := bnd_e h
                 refine iwp_drw rfl [⟨[0], [], [(153, .osl 1000 (eInt .i64).sz v163.length)], []⟩,
                  ⟨[11], [], [(154, .int .i64 v273)], []⟩,
                  ⟨[0], [], [(155, .osl 1000 (eInt .i64).sz v163.length)], []⟩,
                  ⟨[1], [], [(156, .int .i64 a0)], []⟩,
                  ⟨[0], [], [(157, .osl 1000 (eInt .i64).sz v163.length)], []⟩,
                  ⟨[1], [], [(158, .int .i64 a0)], []⟩,
                  ⟨[157, 158], [], [(159, .ref 1000 (((a0 : Int).toNat) * (eInt .i64).sz + 0))], []⟩,
                  ⟨[159], [1000], [(160, .int .i64 x295)], []⟩,
                  ⟨[0], [], [(161, .osl 1000 (eInt .i64).sz v163.length)], []⟩,
                  ⟨[11], [], [(162, .int .i64 v273)], []⟩,
                  ⟨[161, 162], [], [(163, .ref 1000 (((v273 : Int).toNat) * (eInt .i64).sz + 0))], []⟩,
                  ⟨[163], [1000], [(164, .int .i64 x297)], []⟩,
                  ⟨[153, 154], [], [(165, .ref 1000 (((v273 : Int).toNat) * (eInt .i64).sz + 0))], []⟩,
                  ⟨[160, 165], [1000], [], [(1000, .blk 3 (D.flat (x300.map (eInt .i64).d)))]⟩,
                  ⟨[155, 156], [], [(166, .ref 1000 (((a0 : Int).toNat) * (eInt .i64).sz + 0))], []⟩,
                  ⟨[164, 166], [1000], [], [(1000, .blk 3 (D.flat (x303.map (eInt .i64).d)))]⟩] rfl ?_ (by kernel_rfl) ?_
                 ·refine .cons (lop rfl rfl fun S hA => (iop_move rfl rfl (lb rfl) (sv (d := .osl _ _ _) (agr hA rfl rfl)))) ?_
                  refine .cons (lop rfl rfl fun S hA => (iop_move rfl rfl (lb rfl) (svaI hA rfl rfl))) ?_
                  refine .cons (lop rfl rfl fun S hA => (iop_move rfl rfl (lb rfl) (sv (d := .osl _ _ _) (agr hA rfl rfl)))) ?_
                  refine .cons (lop rfl rfl fun S hA => (iop_move rfl rfl (lb rfl) (svaI hA rfl rfl))) ?_
                  refine .cons (lop rfl rfl fun S hA => (iop_move rfl rfl (lb rfl) (sv (d := .osl _ _ _) (agr hA rfl rfl)))) ?_
                  refine .cons (lop rfl rfl fun S hA => (iop_move rfl rfl (lb rfl) (svaI hA rfl rfl))) ?_
                  refine .cons (lop rfl rfl fun S hA => (iop_idxO (eInt .i64).toEnc0 rfl rfl (lb rfl) Try.underlying23 ti3 (sv (d := .osl _ _ _) (agr hA rfl rfl)) rfl (svaI hA rfl rfl) hx294)) ?_
                  refine .cons (lop rfl rfl fun S hA => (iop_loadEs (eInt .i64).toEnc0 (d := .int _ _) rfl rfl (lb rfl) Try.underlying3 ag3 ti3 (by decide) (svaR hA rfl rfl) (agi hA rfl rfl) hx295 (nle rfl) rfl)) ?_
                  refine .cons (lop rfl rfl fun S hA => (iop_move rfl rfl (lb rfl) (sv (d := .osl _ _ _) (agr hA rfl rfl)))) ?_
                  refine .cons (lop rfl rfl fun S hA => (iop_move rfl rfl (lb rfl) (svaI hA rfl rfl))) ?_
                  refine .cons (lop rfl rfl fun S hA => (iop_idxO (eInt .i64).toEnc0 rfl rfl (lb rfl) Try.underlying23 ti3 (sv (d := .osl _ _ _) (agr hA rfl rfl)) rfl (svaI hA rfl rfl) hx296)) ?_
                  refine .cons (lop rfl rfl fun S hA => (iop_loadEs (eInt .i64).toEnc0 (d := .int _ _) rfl rfl (lb rfl) Try.underlying3 ag3 ti3 (by decide) (svaR hA rfl rfl) (agi hA rfl rfl) hx297 (nle rfl) rfl)) ?_
                  refine .cons (lop rfl rfl fun S hA => (iop_idxO (eInt .i64).toEnc0 rfl rfl (lb rfl) Try.underlying23 ti3 (sv (d := .osl _ _ _) (agr hA rfl rfl)) rfl (svaI hA rfl rfl) hx298)) ?_
                  refine .cons (lop rfl rfl fun S hA => (iop_storeE (eInt .i64).toEnc0 (a' := x295) rfl rfl ti3 (svaR hA rfl rfl) (agi hA rfl rfl) (svaI hA rfl rfl) rfl rfl rfl hx299 (nle rfl) rfl hx300)) ?_
                  refine .cons (lop rfl rfl fun S hA => (iop_idxO (eInt .i64).toEnc0 rfl rfl (lb rfl) Try.underlying23 ti3 (sv (d := .osl _ _ _) (agr hA rfl rfl)) (len_set hx300 rfl) (svaI hA rfl rfl) hx301)) ?_
                  refine .cons (lop rfl rfl fun S hA => (iop_storeE (eInt .i64).toEnc0 (a' := x297) rfl rfl ti3 (svaR hA rfl rfl) (agi hA rfl rfl) (svaI hA rfl rfl) rfl rfl rfl hx302 (nle rfl) rfl hx303)) ?_
                  exact .nil
                 refine iwp_reg (ils_cons rfl (mvI rfl rfl rfl rfl) <|
                  ils_cons rfl (asI rfl rfl rfl rfl) <|
                  ils_cons rfl (iop_assign rfl rfl (lb rfl) (sv (d := .bool false) rfl)) <|
                  ils_end ?_)
                 refine iwp_ret ?_
                 obtain rfl := Option.some.inj h
                 refine ⟨.inr rfl, (fun i => i), ⟨.nil, (.cons (EntW.lst rfl) .nil), nd_of [1000] rfl (by decide), fun _ _ => rfl⟩, (.cons (sv rfl) (.cons (sv rfl) .nil)), rfl⟩
                ·
                 replace h := bif_f h hc293
                 refine iwp_skip ?_
                 refine thenQ_n ?_
                 obtain ⟨x304, hx304, h⟩ := bno_e h
                 obtain ⟨x305, hx305, h⟩ := bno_e h
                 obtain ⟨x306, hx306, h⟩ := bno_e h
                 obtain ⟨x307, hx307, h⟩ := bno_e h
                 obtain ⟨x308, hx308, h⟩ := bno_e h
                 obtain ⟨x309, hx309, h⟩ := bno_e h
                 obtain ⟨x310, hx310, h⟩ := bnd_e h
                 obtain ⟨x311, hx311, h⟩ := bno_e h
                 obtain ⟨x312, hx312, h⟩ := bno_e h
                 obtain ⟨x313, hx313, h⟩ := bnd_e h
                 refine iwp_drw rfl [⟨[0], [], [(135, .osl 1000 (eInt .i64).sz v163.length)], []⟩,
                  ⟨[10], [], [(136, .int .i64 v245)], []⟩,
                  ⟨[0], [], [(137, .osl 1000 (eInt .i64).sz v163.length)], []⟩,
                  ⟨[11], [], [(138, .int .i64 v273)], []⟩,
                  ⟨[0], [], [(139, .osl 1000 (eInt .i64).sz v163.length)], []⟩,
                  ⟨[11], [], [(140, .int .i64 v273)], []⟩,
                  ⟨[139, 140], [], [(141, .ref 1000 (((v273 : Int).toNat) * (eInt .i64).sz + 0))], []⟩,
                  ⟨[141], [1000], [(142, .int .i64 x305)], []⟩,
                  ⟨[0], [], [(143, .osl 1000 (eInt .i64).sz v163.length)], []⟩,
                  ⟨[10], [], [(144, .int .i64 v245)], []⟩,
                  ⟨[143, 144], [], [(145, .ref 1000 (((v245 : Int).toNat) * (eInt .i64).sz + 0))], []⟩,
                  ⟨[145], [1000], [(146, .int .i64 x307)], []⟩,
                  ⟨[135, 136], [], [(147, .ref 1000 (((v245 : Int).toNat) * (eInt .i64).sz + 0))], []⟩,
                  ⟨[142, 147], [1000], [], [(1000, .blk 3 (D.flat (x310.map (eInt .i64).d)))]⟩,
                  ⟨[137, 138], [], [(148, .ref 1000 (((v273 : Int).toNat) * (eInt .i64).sz + 0))], []⟩,
                  ⟨[146, 148], [1000], [], [(1000, .blk 3 (D.flat (x313.map (eInt .i64).d)))]⟩] rfl ?_ (by kernel_rfl) ?_
                 ·refine .cons (lop rfl rfl fun S hA => (iop_move rfl rfl (lb rfl) (sv (d := .osl _ _ _) (agr hA rfl rfl)))) ?_
                  refine .cons (lop rfl rfl fun S hA => (iop_move rfl rfl (lb rfl) (svaI hA rfl rfl))) ?_
                  refine .cons (lop rfl rfl fun S hA => (iop_move rfl rfl (lb rfl) (sv (d := .osl _ _ _) (agr hA rfl rfl)))) ?_
                  refine .cons (lop rfl rfl fun S hA => (iop_move rfl rfl (lb rfl) (svaI hA rfl rfl))) ?_
                  refine .cons (lop rfl rfl fun S hA => (iop_move rfl rfl (lb rfl) (sv (d := .osl _ _ _) (agr hA rfl rfl)))) ?_
                  refine .cons (lop rfl rfl fun S hA => (iop_move rfl rfl (lb rfl) (svaI hA rfl rfl))) ?_
                  refine .cons (lop rfl rfl fun S hA => (iop_idxO (eInt .i64).toEnc0 rfl rfl (lb rfl) Try.underlying23 ti3 (sv (d := .osl _ _ _) (agr hA rfl rfl)) rfl (svaI hA rfl rfl) hx304)) ?_
                  refine .cons (lop rfl rfl fun S hA => (iop_loadEs (eInt .i64).toEnc0 (d := .int _ _) rfl rfl (lb rfl) Try.underlying3 ag3 ti3 (by decide) (svaR hA rfl rfl) (agi hA rfl rfl) hx305 (nle rfl) rfl)) ?_
                  refine .cons (lop rfl rfl fun S hA => (iop_move rfl rfl (lb rfl) (sv (d := .osl _ _ _) (agr hA rfl rfl)))) ?_
                  refine .cons (lop rfl rfl fun S hA => (iop_move rfl rfl (lb rfl) (svaI hA rfl rfl))) ?_
                  refine .cons (lop rfl rfl fun S hA => (iop_idxO (eInt .i64).toEnc0 rfl rfl (lb rfl) Try.underlying23 ti3 (sv (d := .osl _ _ _) (agr hA rfl rfl)) rfl (svaI hA rfl rfl) hx306)) ?_
                  refine .cons (lop rfl rfl fun S hA => (iop_loadEs (eInt .i64).toEnc0 (d := .int _ _) rfl rfl (lb rfl) Try.underlying3 ag3 ti3 (by decide) (svaR hA rfl rfl) (agi hA rfl rfl) hx307 (nle rfl) rfl)) ?_
                  refine .cons (lop rfl rfl fun S hA => (iop_idxO (eInt .i64).toEnc0 rfl rfl (lb rfl) Try.underlying23 ti3 (sv (d := .osl _ _ _) (agr hA rfl rfl)) rfl (svaI hA rfl rfl) hx308)) ?_
                  refine .cons (lop rfl rfl fun S hA => (iop_storeE (eInt .i64).toEnc0 (a' := x305) rfl rfl ti3 (svaR hA rfl rfl) (agi hA rfl rfl) (svaI hA rfl rfl) rfl rfl rfl hx309 (nle rfl) rfl hx310)) ?_
                  refine .cons (lop rfl rfl fun S hA => (iop_idxO (eInt .i64).toEnc0 rfl rfl (lb rfl) Try.underlying23 ti3 (sv (d := .osl _ _ _) (agr hA rfl rfl)) (len_set hx310 rfl) (svaI hA rfl rfl) hx311)) ?_
                  refine .cons (lop rfl rfl fun S hA => (iop_storeE (eInt .i64).toEnc0 (a' := x307) rfl rfl ti3 (svaR hA rfl rfl) (agi hA rfl rfl) (svaI hA rfl rfl) rfl rfl rfl hx312 (nle rfl) rfl hx313)) ?_
                  exact .nil
                 obtain ⟨x314, hx314, h⟩ := bnd_e h
                 refine iwp_reg (ils_cons rfl (mvI rfl rfl rfl rfl) <|
                  ils_cons rfl (iop_intx rfl rfl (lb rfl) (svI rfl) (sv (d := .int _ 1) rfl) rfl hx314) <|
                  ils_cons rfl (asI rfl rfl rfl rfl) <|
                  ils_end ?_)
                 obtain ⟨x315, hx315, h⟩ := bnd_e h
                 refine iwp_region (ils_cons rfl (mvI rfl rfl rfl rfl) <|
                  ils_cons rfl (iop_intx rfl rfl (lb rfl) (svI rfl) (sv (d := .int _ 1) rfl) rfl hx315) <|
                  ils_cons rfl (asI rfl rfl rfl rfl) <|
                  ils_nil ?_)
                 refine blockQ_n ?_
                 refine thenQ_n ⟨(n2, x313, x314, x315), (fun i => i), ⟨(.cons (.same (congrArg (D.osl _ _) (len_set hx313 (len_set hx310 rfl)).symm) rfl) (.sames rfl rfl)), (.cons (EntW.lst rfl) .nil), nd_of [1000] rfl (by decide), fun _ _ => rfl⟩, ?_, ?_⟩
                 exact h
                 exact Nat.lt_succ_self _

theorem p_slices_pdqsortOrdered_int_h (nr : Nat) : ∀ (a0 : Int) (a1 : Int) (a2 : Int) (a3 : (List Int)) (r : (List Int)) (h : slices_pdqsortOrdered_int_h nr a0 a1 a2 a3 = some r), FnH Try.prog 74 (w17 (.osl 1000 (eInt .i64).sz a3.length) a0 a1 a2) [(1000, .blk 3 (D.flat (a3.map (eInt .i64).d)))] (retD []) [(1000, .blk 3 (D.flat (r.map (eInt .i64).d)))] := by
 induction nr with
 | zero => intro a0 a1 a2 a3 r h; cases h
 | succ nr ih =>
 intro a0 a1 a2 a3 r h
 replace h : slices_pdqsortOrdered_int_h_B (slices_pdqsortOrdered_int_h nr) a0 a1 a2 a3 = some r := h
 refine fnh_of_iwp (rs := []) Try.func74 rfl Try.ntmps74 (nle rfl) fun O hO => ?_
 show IWP _ _ _ _ ⟨[(0, .osl 1000 (eInt .i64).sz a3.length), (1, .int .i64 a0), (2, .int .i64 a1), (3, .int .i64 a2)], [(1000, .blk 3 (D.flat (a3.map (eInt .i64).d)))]⟩ _
 unfold slices_pdqsortOrdered_int_h_B at h
 refine iwp_reg (ils_cons rfl (iop_assign rfl rfl (lb rfl) (sv (d := .bool true) rfl)) <|
  ils_end ?_)
 refine iwp_reg (ils_cons rfl (iop_assign rfl rfl (lb rfl) (sv (d := .bool true) rfl)) <|
  ils_end ?_)
 refine iwp_block ?_
 refine iwp_loopP (α := Nat × (List Int) × Int × Int × Int × Bool × Bool) (fun z => ⟨[(0, .osl 1000 (eInt .i64).sz z.2.1.length), (1, .int .i64 z.2.2.1), (2, .int .i64 z.2.2.2.1), (3, .int .i64 z.2.2.2.2.1), (8, .bool z.2.2.2.2.2.1), (9, .bool z.2.2.2.2.2.2)], [(1000, .blk 3 (D.flat (z.2.1.map (eInt .i64).d)))]⟩) (fun z => slices_pdqsortOrdered_int_h_L0 (slices_pdqsortOrdered_int_h nr) z.1 z.2.1 z.2.2.1 z.2.2.2.1 z.2.2.2.2.1 z.2.2.2.2.2.1 z.2.2.2.2.2.2 = some r) (fun z => z.1) (fuel, a3, a0, a1, a2, true, true) (fun i => i) ⟨(.sames rfl rfl), (.cons (EntW.lst rfl) .nil), nd_of [1000] rfl (by decide), fun _ _ => rfl⟩ ?_ ?_
 ·exact h
 ·
  rintro ⟨n0, v79, v80, v81, v82, v83, v84⟩ h
  cases n0 with
  | zero => exact absurd h (by unfold slices_pdqsortOrdered_int_h_L0; exact nofun)
  | succ n0 =>
   unfold slices_pdqsortOrdered_int_h_L0 at h
   refine iwp_block ?_
   obtain ⟨x163, hx163, h⟩ := bnd_e h
   refine iwp_reg (ils_cons rfl (mvI rfl rfl rfl rfl) <|
    ils_cons rfl (mvI rfl rfl rfl rfl) <|
    ils_cons rfl (iop_intx rfl rfl (lb rfl) (svI rfl) (svI rfl) rfl hx163) <|
    ils_cons rfl (asI rfl rfl rfl rfl) <|
    ils_end ?_)
   refine iwp_seq ?_
   obtain ⟨x164, hx164, h⟩ := bnd_e h
   refine iwp_reg (ils_cons rfl (mvI rfl rfl rfl rfl) <|
    ils_cons rfl (iop_cmpx rfl rfl (lb rfl) (svI rfl) (sv (d := .int _ 12) rfl) rfl hx164) <|
    ils_end ?_)
   refine iwp_cond (b := _) rfl (fun hc165 => ?_) (fun hc165 => ?_)
   ·
    replace h := bif_t h hc165
    obtain ⟨x166, hx166, h⟩ := bno_e h
    obtain ⟨hk167, h⟩ := chk_e h
    refine iwp_reg (ils_cons rfl (iop_move rfl rfl (lb rfl) (sv (d := .osl _ _ _) rfl)) <|
     ils_cons rfl (mvI rfl rfl rfl rfl) <|
     ils_cons rfl (mvI rfl rfl rfl rfl) <|
     ils_cons rfl (iop_callh2 (r' := .tuple []) (H1' := [(1000, .blk 3 (D.flat (x166.map (eInt .i64).d)))]) 0 [1000] rfl rfl (lb rfl) cl81 (.cons (sv (d := .osl _ _ _) rfl) (.cons (svI rfl) (.cons (svI rfl) .nil))) rfl rfl ⟨rfl, rfl, by decide, rfl, List.forall_mem_cons.2 ⟨⟨rfl, rfl, (handL (eInt .i64) rfl), (handLr (eInt .i64))⟩, List.forall_mem_nil _⟩⟩ (p_slices_insertionSortOrdered_int_h _ _ _ _ hx166) rfl rfl (List.forall_mem_cons.2 ⟨⟨rfl, (handLr (eInt .i64))⟩, List.forall_mem_nil _⟩) (by simp only [List.map_cons, List.map_nil, Ent.ren, renL_flat, renL_ref]; rfl)) <|
     ils_end ?_)
    refine iwp_ret ?_
    refine thenQ_r ?_
    refine blockQ_r ?_
    refine thenQ_r ?_
    refine blockQ_r ?_
    obtain rfl := Option.some.inj h
    refine ⟨.inr rfl, (fun i => i), ⟨.nil, (.cons (EntW.lst rfl) .nil), nd_of [1000] rfl (by decide), fun _ _ => rfl⟩, .nil, rfl⟩
   ·
    replace h := bif_f h hc165
    refine iwp_skip ?_
    refine thenQ_n ?_
    refine iwp_seq ?_
    obtain ⟨x168, hx168, h⟩ := bnd_e h
    refine iwp_reg (ils_cons rfl (mvI rfl rfl rfl rfl) <|
     ils_cons rfl (iop_cmpx rfl rfl (lb rfl) (svI rfl) (sv (d := .int _ 0) rfl) rfl hx168) <|
     ils_end ?_)
    refine iwp_cond (b := _) rfl (fun hc169 => ?_) (fun hc169 => ?_)
    ·
     replace h := bif_t h hc169
     obtain ⟨x170, hx170, h⟩ := bno_e h
     obtain ⟨hk171, h⟩ := chk_e h
     refine iwp_reg (ils_cons rfl (iop_move rfl rfl (lb rfl) (sv (d := .osl _ _ _) rfl)) <|
      ils_cons rfl (mvI rfl rfl rfl rfl) <|
      ils_cons rfl (mvI rfl rfl rfl rfl) <|
      ils_cons rfl (iop_callh2 (r' := .tuple []) (H1' := [(1000, .blk 3 (D.flat (x170.map (eInt .i64).d)))]) 0 [1000] rfl rfl (lb rfl) cl82 (.cons (sv (d := .osl _ _ _) rfl) (.cons (svI rfl) (.cons (svI rfl) .nil))) rfl rfl ⟨rfl, rfl, by decide, rfl, List.forall_mem_cons.2 ⟨⟨rfl, rfl, (handL (eInt .i64) rfl), (handLr (eInt .i64))⟩, List.forall_mem_nil _⟩⟩ (p_slices_heapSortOrdered_int_h _ _ _ _ hx170) rfl rfl (List.forall_mem_cons.2 ⟨⟨rfl, (handLr (eInt .i64))⟩, List.forall_mem_nil _⟩) (by simp only [List.map_cons, List.map_nil, Ent.ren, renL_flat, renL_ref]; rfl)) <|
      ils_end ?_)
     refine iwp_ret ?_
     refine thenQ_r ?_
     refine blockQ_r ?_
     refine thenQ_r ?_
     refine blockQ_r ?_
     obtain rfl := Option.some.inj h
     refine ⟨.inr rfl, (fun i => i), ⟨.nil, (.cons (EntW.lst rfl) .nil), nd_of [1000] rfl (by decide), fun _ _ => rfl⟩, .nil, rfl⟩
    ·
     replace h := bif_f h hc169
     refine iwp_skip ?_
     refine thenQ_n ?_
     refine iwp_join (α := (List Int) × Int) (fun z => ⟨[(0, .osl 1000 (eInt .i64).sz z.1.length), (1, .int .i64 v80), (2, .int .i64 v81), (3, .int .i64 z.2), (8, .bool v83), (9, .bool v84), (10, .int .i64 x163)], [(1000, .blk 3 (D.flat (z.1.map (eInt .i64).d)))]⟩) (fun z => slices_pdqsortOrdered_int_h_J1 (slices_pdqsortOrdered_int_h nr) v80 v81 v83 v84 (slices_pdqsortOrdered_int_h_L0 (slices_pdqsortOrdered_int_h nr) n0) x163 z.1 z.2 = some r) ?_ ?_
     ·
      refine iwp_reg (ils_cons rfl (mvB rfl rfl rfl rfl) <|
       ils_cons rfl (iop_not rfl rfl (lb rfl) (svB rfl)) <|
       ils_end ?_)
      refine iwp_cond (b := _) rfl (fun hc237 => ?_) (fun hc237 => ?_)
      ·
       replace h := bif_t h hc237
       obtain ⟨x238, hx238, h⟩ := bno_e h
       obtain ⟨hk239, h⟩ := chk_e h
       refine iwp_reg (ils_cons rfl (iop_move rfl rfl (lb rfl) (sv (d := .osl _ _ _) rfl)) <|
        ils_cons rfl (mvI rfl rfl rfl rfl) <|
        ils_cons rfl (mvI rfl rfl rfl rfl) <|
        ils_cons rfl (iop_callh2 (r' := .tuple []) (H1' := [(1000, .blk 3 (D.flat (x238.map (eInt .i64).d)))]) 0 [1000] rfl rfl (lb rfl) cl83 (.cons (sv (d := .osl _ _ _) rfl) (.cons (svI rfl) (.cons (svI rfl) .nil))) rfl rfl ⟨rfl, rfl, by decide, rfl, List.forall_mem_cons.2 ⟨⟨rfl, rfl, (handL (eInt .i64) rfl), (handLr (eInt .i64))⟩, List.forall_mem_nil _⟩⟩ (p_slices_breakPatternsOrdered_int_h _ _ _ _ hx238) rfl rfl (List.forall_mem_cons.2 ⟨⟨rfl, (handLr (eInt .i64))⟩, List.forall_mem_nil _⟩) (by simp only [List.map_cons, List.map_nil, Ent.ren, renL_flat, renL_ref]; rfl)) <|
        ils_end ?_)
       obtain ⟨x240, hx240, h⟩ := bnd_e h
       refine iwp_region (ils_cons rfl (mvI rfl rfl rfl rfl) <|
        ils_cons rfl (iop_intx rfl rfl (lb rfl) (svI rfl) (sv (d := .int _ 1) rfl) rfl hx240) <|
        ils_cons rfl (asI rfl rfl rfl rfl) <|
        ils_nil ?_)
       refine thenQ_n ⟨(x238, x240), (fun i => i), ⟨(.cons (.same (congrArg (D.osl _ _) hk239.symm) rfl) (.sames rfl rfl)), (.cons (EntW.lst rfl) .nil), nd_of [1000] rfl (by decide), fun _ _ => rfl⟩, ?_⟩
       exact h
      ·
       replace h := bif_f h hc237
       refine iwp_skip ?_
       refine thenQ_n ⟨(v79, v82), (fun i => i), ⟨(.sames rfl rfl), (.cons (EntW.lst rfl) .nil), nd_of [1000] rfl (by decide), fun _ _ => rfl⟩, ?_⟩
       exact h
     ·
      rintro ⟨v176, v177⟩ h
      unfold slices_pdqsortOrdered_int_h_J1 at h
      obtain ⟨x178, hx178, h⟩ := bno_e h
      refine iwp_reg (ils_cons rfl (iop_move rfl rfl (lb rfl) (sv (d := .osl _ _ _) rfl)) <|
       ils_cons rfl (mvI rfl rfl rfl rfl) <|
       ils_cons rfl (mvI rfl rfl rfl rfl) <|
       ils_cons rfl (iop_callp (r := .tuple [.int .i64 x178.1, .int .i64 x178.2]) rfl rfl (lb rfl) cl84 (.cons (sv (d := .osl _ _ _) rfl) (.cons (svI rfl) (.cons (svI rfl) .nil))) (.cons (FDT (eInt .i64) rfl rfl) (.all _)) rfl rfl (p_slices_choosePivotOrdered_int _ _ _ _ hx178)) <|
       ils_cons rfl (iop_move rfl rfl (lb rfl) (sv (d := .tuple q12) rfl)) <|
       ils_cons rfl (iop_extract (d := .int _ _) rfl rfl (lb rfl) (sv (d := .tuple q12) rfl) rfl) <|
       ils_cons rfl (iop_extract (d := .int _ _) rfl rfl (lb rfl) (sv (d := .tuple q12) rfl) rfl) <|
       ils_cons rfl (asI rfl rfl rfl rfl) <|
       ils_cons rfl (asI rfl rfl rfl rfl) <|
       ils_end ?_)
      refine iwp_join (α := (List Int) × Int × Int) (fun z => ⟨[(0, .osl 1000 (eInt .i64).sz z.1.length), (1, .int .i64 v80), (2, .int .i64 v81), (3, .int .i64 v177), (8, .bool v83), (9, .bool v84), (10, .int .i64 x163), (11, .int .i64 z.2.1), (12, .int .i64 z.2.2)], [(1000, .blk 3 (D.flat (z.1.map (eInt .i64).d)))]⟩) (fun z => slices_pdqsortOrdered_int_h_J2 (slices_pdqsortOrdered_int_h nr) v80 v81 v83 v84 (slices_pdqsortOrdered_int_h_L0 (slices_pdqsortOrdered_int_h nr) n0) x163 v177 z.1 z.2.1 z.2.2 = some r) ?_ ?_
      ·
       obtain ⟨x230, hx230, h⟩ := bnd_e h
       refine iwp_reg (ils_cons rfl (mvI rfl rfl rfl rfl) <|
        ils_cons rfl (iop_cmpx rfl rfl (lb rfl) (svI rfl) (sv (d := .int _ 2) rfl) rfl hx230) <|
        ils_end ?_)
       refine iwp_cond (b := _) rfl (fun hc231 => ?_) (fun hc231 => ?_)
       ·
        replace h := bif_t h hc231
        obtain ⟨x232, hx232, h⟩ := bno_e h
        obtain ⟨hk233, h⟩ := chk_e h
        refine iwp_reg (ils_cons rfl (iop_move rfl rfl (lb rfl) (sv (d := .osl _ _ _) rfl)) <|
         ils_cons rfl (mvI rfl rfl rfl rfl) <|
         ils_cons rfl (mvI rfl rfl rfl rfl) <|
         ils_cons rfl (iop_callh2 (r' := .tuple []) (H1' := [(1000, .blk 3 (D.flat (x232.map (eInt .i64).d)))]) 0 [1000] rfl rfl (lb rfl) cl85 (.cons (sv (d := .osl _ _ _) rfl) (.cons (svI rfl) (.cons (svI rfl) .nil))) rfl rfl ⟨rfl, rfl, by decide, rfl, List.forall_mem_cons.2 ⟨⟨rfl, rfl, (handL (eInt .i64) rfl), (handLr (eInt .i64))⟩, List.forall_mem_nil _⟩⟩ (p_slices_reverseRangeOrdered_int_h _ _ _ _ hx232) rfl rfl (List.forall_mem_cons.2 ⟨⟨rfl, (handLr (eInt .i64))⟩, List.forall_mem_nil _⟩) (by simp only [List.map_cons, List.map_nil, Ent.ren, renL_flat, renL_ref]; rfl)) <|
         ils_end ?_)
        obtain ⟨x234, hx234, h⟩ := bnd_e h
        obtain ⟨x235, hx235, h⟩ := bnd_e h
        obtain ⟨x236, hx236, h⟩ := bnd_e h
        refine iwp_reg (ils_cons rfl (mvI rfl rfl rfl rfl) <|
         ils_cons rfl (iop_intx rfl rfl (lb rfl) (svI rfl) (sv (d := .int _ 1) rfl) rfl hx234) <|
         ils_cons rfl (mvI rfl rfl rfl rfl) <|
         ils_cons rfl (mvI rfl rfl rfl rfl) <|
         ils_cons rfl (iop_intx rfl rfl (lb rfl) (svI rfl) (svI rfl) rfl hx235) <|
         ils_cons rfl (iop_intx rfl rfl (lb rfl) (svI rfl) (svI rfl) rfl hx236) <|
         ils_cons rfl (asI rfl rfl rfl rfl) <|
         ils_end ?_)
        refine iwp_region (ils_cons rfl (iop_assign rfl rfl (lb rfl) (sv (d := .int _ 1) rfl)) <|
         ils_nil ?_)
        refine thenQ_n ⟨(x232, x236, 1), (fun i => i), ⟨(.cons (.same (congrArg (D.osl _ _) hk233.symm) rfl) (.sames rfl rfl)), (.cons (EntW.lst rfl) .nil), nd_of [1000] rfl (by decide), fun _ _ => rfl⟩, ?_⟩
        exact h
       ·
        replace h := bif_f h hc231
        refine iwp_skip ?_
        refine thenQ_n ⟨(v176, x178.1, x178.2), (fun i => i), ⟨(.sames rfl rfl), (.cons (EntW.lst rfl) .nil), nd_of [1000] rfl (by decide), fun _ _ => rfl⟩, ?_⟩
        exact h
      ·
       rintro ⟨v186, v187, v188⟩ h
       unfold slices_pdqsortOrdered_int_h_J2 at h
       refine iwp_join (α := (List Int)) (fun z => ⟨[(0, .osl 1000 (eInt .i64).sz z.length), (1, .int .i64 v80), (2, .int .i64 v81), (3, .int .i64 v177), (8, .bool v83), (9, .bool v84), (10, .int .i64 x163), (11, .int .i64 v187)], [(1000, .blk 3 (D.flat (z.map (eInt .i64).d)))]⟩) (fun z => slices_pdqsortOrdered_int_h_J3 (slices_pdqsortOrdered_int_h nr) v80 v81 v83 v84 (slices_pdqsortOrdered_int_h_L0 (slices_pdqsortOrdered_int_h nr) n0) x163 v177 v187 z = some r) ?_ ?_
       ·
        obtain ⟨x223, hx223, h⟩ := bnd_e h
        obtain ⟨x224, hx224, h⟩ := bnd_e h
        obtain ⟨x225, hx225, h⟩ := bnd_e h
        refine iwp_reg (ils_cons rfl (mvB rfl rfl rfl rfl) <|
         ils_cons rfl (mvB rfl rfl rfl rfl) <|
         ils_guard rfl rfl (.one rfl) rfl (by decide) (fun hb => (mvB rfl rfl rfl rfl)) <|
         ils_cons rfl (iop_andx rfl rfl (lb rfl) (svB rfl) rfl rfl hx223) <|
         ils_cons rfl (mvB rfl rfl rfl rfl) <|
         ils_guard rfl rfl (.one rfl) rfl (by decide) (fun hb => (mvI rfl rfl rfl rfl)) <|
         ils_guard rfl rfl (.one rfl) rfl (by decide) (fun hb => (iop_cmpx rfl rfl (lb rfl) (svcI rfl hb) (sv (d := .int _ 1) rfl) rfl hx224)) <|
         ils_cons rfl (iop_andx rfl rfl (lb rfl) (svB rfl) rfl rfl hx225) <|
         ils_end ?_)
        refine iwp_cond (b := _) rfl (fun hc226 => ?_) (fun hc226 => ?_)
        ·
         replace h := bif_t h hc226
         obtain ⟨x227, hx227, h⟩ := bno_e h
         obtain ⟨hk228, h⟩ := chk_e h
         refine iwp_reg (ils_cons rfl (iop_move rfl rfl (lb rfl) (sv (d := .osl _ _ _) rfl)) <|
          ils_cons rfl (mvI rfl rfl rfl rfl) <|
          ils_cons rfl (mvI rfl rfl rfl rfl) <|
          ils_cons rfl (iop_callh2 (r' := .bool x227.1) (H1' := [(1000, .blk 3 (D.flat (x227.2.map (eInt .i64).d)))]) 0 [1000] rfl rfl (lb rfl) cl86 (.cons (sv (d := .osl _ _ _) rfl) (.cons (svI rfl) (.cons (svI rfl) .nil))) rfl rfl ⟨rfl, rfl, by decide, rfl, List.forall_mem_cons.2 ⟨⟨rfl, rfl, (handL (eInt .i64) rfl), (handLr (eInt .i64))⟩, List.forall_mem_nil _⟩⟩ (p_slices_partialInsertionSortOrdered_int_h _ _ _ _ hx227) rfl rfl (List.forall_mem_cons.2 ⟨⟨rfl, (handLr (eInt .i64))⟩, List.forall_mem_nil _⟩) (by simp only [List.map_cons, List.map_nil, Ent.ren, renL_flat, renL_ref]; rfl)) <|
          ils_end ?_)
         refine iwp_cond (b := _) rfl (fun hc229 => ?_) (fun hc229 => ?_)
         ·
          replace h := bif_t h hc229
          refine iwp_ret ?_
          refine thenQ_r ?_
          refine blockQ_r ?_
          refine thenQ_r ?_
          refine blockQ_r ?_
          obtain rfl := Option.some.inj h
          refine ⟨.inr rfl, (fun i => i), ⟨.nil, (.cons (EntW.lst rfl) .nil), nd_of [1000] rfl (by decide), fun _ _ => rfl⟩, .nil, rfl⟩
         ·
          replace h := bif_f h hc229
          refine iwp_skip ?_
          refine thenQ_n ⟨x227.2, (fun i => i), ⟨(.cons (.same (congrArg (D.osl _ _) hk228.symm) rfl) (.sames rfl rfl)), (.cons (EntW.lst rfl) .nil), nd_of [1000] rfl (by decide), fun _ _ => rfl⟩, ?_⟩
          exact h
        ·
         replace h := bif_f h hc226
         refine iwp_skip ?_
         refine thenQ_n ⟨v186, (fun i => i), ⟨(.sames rfl rfl), (.cons (EntW.lst rfl) .nil), nd_of [1000] rfl (by decide), fun _ _ => rfl⟩, ?_⟩
         exact h
       ·
        rintro v196 h
        unfold slices_pdqsortOrdered_int_h_J3 at h
        refine iwp_seq ?_
        obtain ⟨x197, hx197, h⟩ := bnd_e h
        obtain ⟨x198, hx198, h⟩ := bnd_e h
        obtain ⟨x199, hx199, h⟩ := bno_e h
        obtain ⟨x200, hx200, h⟩ := bno_e h
        obtain ⟨x201, hx201, h⟩ := bno_e h
        obtain ⟨x202, hx202, h⟩ := bno_e h
        obtain ⟨x203, hx203, h⟩ := bno_e h
        obtain ⟨x204, hx204, h⟩ := bnd_e h
        refine iwp_drw rfl [⟨[1], [], [(73, .int .i64 v80)], []⟩,
         ⟨[73], [], [(74, .bool x197)], []⟩,
         ⟨[74], [], [(75, .bool x197)], []⟩,
         ⟨[0, 75], [], [(76, .cnd (x197 == true) (.osl 1000 (eInt .i64).sz v196.length))], []⟩,
         ⟨[1, 75], [], [(77, .cnd (x197 == true) (.int .i64 v80))], []⟩,
         ⟨[75, 77], [], [(78, .cnd (x197 == true) (.int .i64 x198))], []⟩,
         ⟨[75, 76, 78], [], [(79, .cnd (x197 == true) (.ref 1000 (((x198 : Int).toNat) * (eInt .i64).sz + 0)))], []⟩,
         ⟨[75, 79], [1000], [(80, .cnd (x197 == true) (.int .i64 x200))], []⟩,
         ⟨[0, 75], [], [(81, .cnd (x197 == true) (.osl 1000 (eInt .i64).sz v196.length))], []⟩,
         ⟨[11, 75], [], [(82, .cnd (x197 == true) (.int .i64 v187))], []⟩,
         ⟨[75, 81, 82], [], [(83, .cnd (x197 == true) (.ref 1000 (((v187 : Int).toNat) * (eInt .i64).sz + 0)))], []⟩,
         ⟨[75, 83], [1000], [(84, .cnd (x197 == true) (.int .i64 x202))], []⟩,
         ⟨[75, 80, 84], [], [(85, .cnd (x197 == true) (.bool x203))], []⟩,
         ⟨[75, 85], [], [(86, .cnd (x197 == true) (.bool (!x203)))], []⟩,
         ⟨[75, 86], [], [(87, .bool x204)], []⟩] rfl ?_ (by kernel_rfl) ?_
        ·refine .cons (lop rfl rfl fun S hA => (iop_move rfl rfl (lb rfl) (svaI hA rfl rfl))) ?_
         refine .cons (lop rfl rfl fun S hA => (iop_cmpx rfl rfl (lb rfl) (svaI hA rfl rfl) (sv (d := .int _ 0) rfl) rfl hx197)) ?_
         refine .cons (lop rfl rfl fun S hA => (iop_move rfl rfl (lb rfl) (svaB hA rfl rfl))) ?_
         refine .cons (lopg rfl rfl rfl rfl (by decide) (fun S hA => grd1 hA rfl rfl) (fun S hA hb => (iop_move rfl rfl (lb rfl) (sv (d := .osl _ _ _) (agr hA rfl rfl))))) ?_
         refine .cons (lopg rfl rfl rfl rfl (by decide) (fun S hA => grd1 hA rfl rfl) (fun S hA hb => (iop_move rfl rfl (lb rfl) (svaI hA rfl rfl)))) ?_
         refine .cons (lopg rfl rfl rfl rfl (by decide) (fun S hA => grd1 hA rfl rfl) (fun S hA hb => (iop_intx rfl rfl (lb rfl) (svc (d := .int _ _) (agr hA rfl rfl) hb) (sv (d := .int _ 1) rfl) rfl hx198))) ?_
         refine .cons (lopg rfl rfl rfl rfl (by decide) (fun S hA => grd1 hA rfl rfl) (fun S hA hb => (iop_idxO (eInt .i64).toEnc0 rfl rfl (lb rfl) Try.underlying23 ti3 (svc (d := .osl _ _ _) (agr hA rfl rfl) hb) rfl (svc (d := .int _ _) (agr hA rfl rfl) hb) (gd_t hx199 hb)))) ?_
         refine .cons (lopg rfl rfl rfl rfl (by decide) (fun S hA => grd1 hA rfl rfl) (fun S hA hb => (iop_loadEs (eInt .i64).toEnc0 (d := .int _ _) rfl rfl (lb rfl) Try.underlying3 ag3 ti3 (by decide) (svc (d := .ref _ _) (agr hA rfl rfl) hb) (agi hA rfl rfl) (gd_t hx200 hb) (nle rfl) rfl))) ?_
         refine .cons (lopg rfl rfl rfl rfl (by decide) (fun S hA => grd1 hA rfl rfl) (fun S hA hb => (iop_move rfl rfl (lb rfl) (sv (d := .osl _ _ _) (agr hA rfl rfl))))) ?_
         refine .cons (lopg rfl rfl rfl rfl (by decide) (fun S hA => grd1 hA rfl rfl) (fun S hA hb => (iop_move rfl rfl (lb rfl) (svaI hA rfl rfl)))) ?_
         refine .cons (lopg rfl rfl rfl rfl (by decide) (fun S hA => grd1 hA rfl rfl) (fun S hA hb => (iop_idxO (eInt .i64).toEnc0 rfl rfl (lb rfl) Try.underlying23 ti3 (svc (d := .osl _ _ _) (agr hA rfl rfl) hb) rfl (svc (d := .int _ _) (agr hA rfl rfl) hb) (gd_t hx201 hb)))) ?_
         refine .cons (lopg rfl rfl rfl rfl (by decide) (fun S hA => grd1 hA rfl rfl) (fun S hA hb => (iop_loadEs (eInt .i64).toEnc0 (d := .int _ _) rfl rfl (lb rfl) Try.underlying3 ag3 ti3 (by decide) (svc (d := .ref _ _) (agr hA rfl rfl) hb) (agi hA rfl rfl) (gd_t hx202 hb) (nle rfl) rfl))) ?_
         refine .cons (lopg rfl rfl rfl rfl (by decide) (fun S hA => grd1 hA rfl rfl) (fun S hA hb => (iop_call (r := .bool _) rfl rfl (lb rfl) cl87 (.cons (svc (d := .int _ _) (agr hA rfl rfl) hb) (.cons (svc (d := .int _ _) (agr hA rfl rfl) hb) .nil)) rfl (p_cmp_Less_int _ _ _ (gd_t hx203 hb))))) ?_
         refine .cons (lopg rfl rfl rfl rfl (by decide) (fun S hA => grd1 hA rfl rfl) (fun S hA hb => (iop_not rfl rfl (lb rfl) (svc (d := .bool _) (agr hA rfl rfl) hb)))) ?_
         refine .cons (lop rfl rfl fun S hA => (iop_andx rfl rfl (lb rfl) (svaB hA rfl rfl) (agr hA rfl rfl) rfl hx204)) ?_
         exact .nil
        refine iwp_cond (b := _) rfl (fun hc205 => ?_) (fun hc205 => ?_)
        ·
         replace h := bif_t h hc205
         obtain ⟨x206, hx206, h⟩ := bno_e h
         obtain ⟨hk207, h⟩ := chk_e h
         refine iwp_reg (ils_cons rfl (iop_move rfl rfl (lb rfl) (sv (d := .osl _ _ _) rfl)) <|
          ils_cons rfl (mvI rfl rfl rfl rfl) <|
          ils_cons rfl (mvI rfl rfl rfl rfl) <|
          ils_cons rfl (mvI rfl rfl rfl rfl) <|
          ils_cons rfl (iop_callh2 (r' := .int .i64 x206.1) (H1' := [(1000, .blk 3 (D.flat (x206.2.map (eInt .i64).d)))]) 0 [1000] rfl rfl (lb rfl) cl88 (.cons (sv (d := .osl _ _ _) rfl) (.cons (svI rfl) (.cons (svI rfl) (.cons (svI rfl) .nil)))) rfl rfl ⟨rfl, rfl, by decide, rfl, List.forall_mem_cons.2 ⟨⟨rfl, rfl, (handL (eInt .i64) rfl), (handLr (eInt .i64))⟩, List.forall_mem_nil _⟩⟩ (p_slices_partitionEqualOrdered_int_h _ _ _ _ _ hx206) rfl rfl (List.forall_mem_cons.2 ⟨⟨rfl, (handLr (eInt .i64))⟩, List.forall_mem_nil _⟩) (by simp only [List.map_cons, List.map_nil, Ent.ren, renL_flat, renL_ref]; rfl)) <|
          ils_cons rfl (asI rfl rfl rfl rfl) <|
          ils_end ?_)
         refine iwp_reg (ils_cons rfl (mvI rfl rfl rfl rfl) <|
          ils_cons rfl (asI rfl rfl rfl rfl) <|
          ils_end ?_)
         refine iwp_exit ?_
         refine thenQ_e ?_
         refine blockQ_e ?_
         refine thenQ_n ⟨(n0, x206.2, x206.1, v81, v177, v83, v84), (fun i => i), ⟨(.cons (.same (congrArg (D.osl _ _) hk207.symm) rfl) (.sames rfl rfl)), (.cons (EntW.lst rfl) .nil), nd_of [1000] rfl (by decide), fun _ _ => rfl⟩, ?_, ?_⟩
         exact h
         exact Nat.lt_succ_self _
        ·
         replace h := bif_f h hc205
         refine iwp_skip ?_
         refine thenQ_n ?_
         obtain ⟨x208, hx208, h⟩ := bno_e h
         obtain ⟨hk209, h⟩ := chk_e h
         refine iwp_reg (ils_cons rfl (iop_move rfl rfl (lb rfl) (sv (d := .osl _ _ _) rfl)) <|
          ils_cons rfl (mvI rfl rfl rfl rfl) <|
          ils_cons rfl (mvI rfl rfl rfl rfl) <|
          ils_cons rfl (mvI rfl rfl rfl rfl) <|
          ils_cons rfl (iop_callh2 (r' := .tuple [.int .i64 x208.1, .bool x208.2.1]) (H1' := [(1000, .blk 3 (D.flat (x208.2.2.map (eInt .i64).d)))]) 0 [1000] rfl rfl (lb rfl) cl89 (.cons (sv (d := .osl _ _ _) rfl) (.cons (svI rfl) (.cons (svI rfl) (.cons (svI rfl) .nil)))) rfl rfl ⟨rfl, rfl, by decide, rfl, List.forall_mem_cons.2 ⟨⟨rfl, rfl, (handL (eInt .i64) rfl), (handLr (eInt .i64))⟩, List.forall_mem_nil _⟩⟩ (p_slices_partitionOrdered_int_h _ _ _ _ _ hx208) rfl rfl (List.forall_mem_cons.2 ⟨⟨rfl, (handLr (eInt .i64))⟩, List.forall_mem_nil _⟩) (by simp only [List.map_cons, List.map_nil, Ent.ren, renL_flat, renL_ref]; rfl)) <|
          ils_cons rfl (iop_move rfl rfl (lb rfl) (sv (d := .tuple q13) rfl)) <|
          ils_cons rfl (iop_extract (d := .int _ _) rfl rfl (lb rfl) (sv (d := .tuple q13) rfl) rfl) <|
          ils_cons rfl (iop_extract (d := .bool _) rfl rfl (lb rfl) (sv (d := .tuple q13) rfl) rfl) <|
          ils_cons rfl (asI rfl rfl rfl rfl) <|
          ils_cons rfl (asB rfl rfl rfl rfl) <|
          ils_end ?_)
         refine iwp_reg (ils_cons rfl (mvB rfl rfl rfl rfl) <|
          ils_cons rfl (asB rfl rfl rfl rfl) <|
          ils_end ?_)
         obtain ⟨x210, hx210, h⟩ := bnd_e h
         obtain ⟨x211, hx211, h⟩ := bnd_e h
         refine iwp_reg (ils_cons rfl (mvI rfl rfl rfl rfl) <|
          ils_cons rfl (mvI rfl rfl rfl rfl) <|
          ils_cons rfl (iop_intx rfl rfl (lb rfl) (svI rfl) (svI rfl) rfl hx210) <|
          ils_cons rfl (mvI rfl rfl rfl rfl) <|
          ils_cons rfl (mvI rfl rfl rfl rfl) <|
          ils_cons rfl (iop_intx rfl rfl (lb rfl) (svI rfl) (svI rfl) rfl hx211) <|
          ils_cons rfl (asI rfl rfl rfl rfl) <|
          ils_cons rfl (asI rfl rfl rfl rfl) <|
          ils_end ?_)
         obtain ⟨x212, hx212, h⟩ := bno_e h
         refine iwp_reg (ils_cons rfl (mvI rfl rfl rfl rfl) <|
          ils_cons rfl (iop_quox rfl rfl (lb rfl) (svI rfl) (sv (d := .int _ 8) rfl) hx212) <|
          ils_cons rfl (asI rfl rfl rfl rfl) <|
          ils_end ?_)
         obtain ⟨x213, hx213, h⟩ := bnd_e h
         refine iwp_reg (ils_cons rfl (mvI rfl rfl rfl rfl) <|
          ils_cons rfl (mvI rfl rfl rfl rfl) <|
          ils_cons rfl (iop_cmpx rfl rfl (lb rfl) (svI rfl) (svI rfl) rfl hx213) <|
          ils_end ?_)
         refine iwp_cond (b := _) rfl (fun hc214 => ?_) (fun hc214 => ?_)
         ·
          replace h := bif_t h hc214
          obtain ⟨x215, hx215, h⟩ := bnd_e h
          refine iwp_reg (ils_cons rfl (mvI rfl rfl rfl rfl) <|
           ils_cons rfl (mvI rfl rfl rfl rfl) <|
           ils_cons rfl (iop_cmpx rfl rfl (lb rfl) (svI rfl) (svI rfl) rfl hx215) <|
           ils_cons rfl (asB rfl rfl rfl rfl) <|
           ils_end ?_)
          obtain ⟨x216, hx216, h⟩ := bno_e h
          obtain ⟨hk217, h⟩ := chk_e h
          refine iwp_reg (ils_cons rfl (iop_move rfl rfl (lb rfl) (sv (d := .osl _ _ _) rfl)) <|
           ils_cons rfl (mvI rfl rfl rfl rfl) <|
           ils_cons rfl (mvI rfl rfl rfl rfl) <|
           ils_cons rfl (mvI rfl rfl rfl rfl) <|
           ils_cons rfl (iop_callh2 (r' := .tuple []) (H1' := [(1000, .blk 3 (D.flat (x216.map (eInt .i64).d)))]) 0 [1000] rfl rfl (lb rfl) cl74 (.cons (sv (congrArg (D.osl _ _) hk209.symm)) (.cons (svI rfl) (.cons (svI rfl) (.cons (svI rfl) .nil)))) rfl rfl ⟨rfl, rfl, by decide, rfl, List.forall_mem_cons.2 ⟨⟨rfl, rfl, (handL (eInt .i64) rfl), (handLr (eInt .i64))⟩, List.forall_mem_nil _⟩⟩ (ih _ _ _ _ _ hx216) rfl rfl (List.forall_mem_cons.2 ⟨⟨rfl, (handLr (eInt .i64))⟩, List.forall_mem_nil _⟩) (by simp only [List.map_cons, List.map_nil, Ent.ren, renL_flat, renL_ref]; rfl)) <|
           ils_end ?_)
          obtain ⟨x218, hx218, h⟩ := bnd_e h
          refine iwp_region (ils_cons rfl (mvI rfl rfl rfl rfl) <|
           ils_cons rfl (iop_intx rfl rfl (lb rfl) (svI rfl) (sv (d := .int _ 1) rfl) rfl hx218) <|
           ils_cons rfl (asI rfl rfl rfl rfl) <|
           ils_nil ?_)
          refine blockQ_n ?_
          refine thenQ_n ⟨(n0, x216, x218, v81, v177, x215, x208.2.1), (fun i => i), ⟨(.cons (.same (congrArg (D.osl _ _) hk217.symm) rfl) (.sames rfl rfl)), (.cons (EntW.lst rfl) .nil), nd_of [1000] rfl (by decide), fun _ _ => rfl⟩, ?_, ?_⟩
          exact h
          exact Nat.lt_succ_self _
         ·
          replace h := bif_f h hc214
          obtain ⟨x219, hx219, h⟩ := bnd_e h
          refine iwp_reg (ils_cons rfl (mvI rfl rfl rfl rfl) <|
           ils_cons rfl (mvI rfl rfl rfl rfl) <|
           ils_cons rfl (iop_cmpx rfl rfl (lb rfl) (svI rfl) (svI rfl) rfl hx219) <|
           ils_cons rfl (asB rfl rfl rfl rfl) <|
           ils_end ?_)
          obtain ⟨x220, hx220, h⟩ := bnd_e h
          obtain ⟨x221, hx221, h⟩ := bno_e h
          obtain ⟨hk222, h⟩ := chk_e h
          refine iwp_reg (ils_cons rfl (iop_move rfl rfl (lb rfl) (sv (d := .osl _ _ _) rfl)) <|
           ils_cons rfl (mvI rfl rfl rfl rfl) <|
           ils_cons rfl (iop_intx rfl rfl (lb rfl) (svI rfl) (sv (d := .int _ 1) rfl) rfl hx220) <|
           ils_cons rfl (mvI rfl rfl rfl rfl) <|
           ils_cons rfl (mvI rfl rfl rfl rfl) <|
           ils_cons rfl (iop_callh2 (r' := .tuple []) (H1' := [(1000, .blk 3 (D.flat (x221.map (eInt .i64).d)))]) 0 [1000] rfl rfl (lb rfl) cl74 (.cons (sv (congrArg (D.osl _ _) hk209.symm)) (.cons (svI rfl) (.cons (svI rfl) (.cons (svI rfl) .nil)))) rfl rfl ⟨rfl, rfl, by decide, rfl, List.forall_mem_cons.2 ⟨⟨rfl, rfl, (handL (eInt .i64) rfl), (handLr (eInt .i64))⟩, List.forall_mem_nil _⟩⟩ (ih _ _ _ _ _ hx221) rfl rfl (List.forall_mem_cons.2 ⟨⟨rfl, (handLr (eInt .i64))⟩, List.forall_mem_nil _⟩) (by simp only [List.map_cons, List.map_nil, Ent.ren, renL_flat, renL_ref]; rfl)) <|
           ils_end ?_)
          refine iwp_region (ils_cons rfl (mvI rfl rfl rfl rfl) <|
           ils_cons rfl (asI rfl rfl rfl rfl) <|
           ils_nil ?_)
          refine blockQ_n ?_
          refine thenQ_n ⟨(n0, x221, v80, x208.1, v177, x219, x208.2.1), (fun i => i), ⟨(.cons (.same (congrArg (D.osl _ _) hk222.symm) rfl) (.sames rfl rfl)), (.cons (EntW.lst rfl) .nil), nd_of [1000] rfl (by decide), fun _ _ => rfl⟩, ?_, ?_⟩
          exact h
          exact Nat.lt_succ_self _

theorem p_slices_Sort_int_int_h (a0 : (List Int)) (r : (List Int)) (h : slices_Sort_int_int_h a0 = some r) : FnH Try.prog 57 [.osl 1000 (eInt .i64).sz a0.length] [(1000, .blk 3 (D.flat (a0.map (eInt .i64).d)))] (retD []) [(1000, .blk 3 (D.flat (r.map (eInt .i64).d)))] := by
 refine fnh_of_iwp (rs := []) Try.func57 rfl Try.ntmps57 (nle rfl) fun O hO => ?_
 show IWP _ _ _ _ ⟨[(0, .osl 1000 (eInt .i64).sz a0.length)], [(1000, .blk 3 (D.flat (a0.map (eInt .i64).d)))]⟩ _
 unfold slices_Sort_int_int_h at h
 refine iwp_reg (ils_cons rfl (iop_move rfl rfl (lb rfl) (sv (d := .osl _ _ _) rfl)) <|
  ils_cons rfl (iop_lenO rfl rfl (lb rfl) Try.underlying23 (sv (d := .osl _ _ _) rfl)) <|
  ils_cons rfl (asI rfl rfl rfl rfl) <|
  ils_end ?_)
 obtain ⟨x1, hx1, h⟩ := bnd_e h
 obtain ⟨x2, hx2, h⟩ := bno_e h
 obtain ⟨x3, hx3, h⟩ := bno_e h
 obtain ⟨hk4, h⟩ := chk_e h
 refine iwp_region (ils_cons rfl (iop_move rfl rfl (lb rfl) (sv (d := .osl _ _ _) rfl)) <|
  ils_cons rfl (mvI rfl rfl rfl rfl) <|
  ils_cons rfl (mvI rfl rfl rfl rfl) <|
  ils_cons rfl (iop_int_conv rfl rfl (lb rfl) ⟨_, Try.underlying3⟩ Try.underlying105 (svI rfl) hx1) <|
  ils_cons rfl (iop_call (r := .int _ _) rfl rfl (lb rfl) cl75 (.cons (svI rfl) .nil) rfl (p_math_bits_Len _ _ hx2)) <|
  ils_cons rfl (iop_callh2 (r' := .tuple []) (H1' := [(1000, .blk 3 (D.flat (x3.map (eInt .i64).d)))]) 0 [1000] rfl rfl (lb rfl) cl74 (.cons (sv (d := .osl _ _ _) rfl) (.cons (sv (d := .int _ 0) rfl) (.cons (svI rfl) (.cons (svI rfl) .nil)))) rfl rfl ⟨rfl, rfl, by decide, rfl, List.forall_mem_cons.2 ⟨⟨rfl, rfl, (handL (eInt .i64) rfl), (handLr (eInt .i64))⟩, List.forall_mem_nil _⟩⟩ (p_slices_pdqsortOrdered_int_h _ _ _ _ _ _ hx3) rfl rfl (List.forall_mem_cons.2 ⟨⟨rfl, (handLr (eInt .i64))⟩, List.forall_mem_nil _⟩) (by simp only [List.map_cons, List.map_nil, Ent.ren, renL_flat, renL_ref]; rfl)) <|
  ils_nil ?_)
 obtain rfl := Option.some.inj h
 refine ⟨.inl rfl, (fun i => i), ⟨.nil, (.cons (EntW.lst rfl) .nil), nd_of [1000] rfl (by decide), fun _ _ => rfl⟩, .nil, rfl⟩
end Go.Proofs.Ythjfhdlaockolaa
