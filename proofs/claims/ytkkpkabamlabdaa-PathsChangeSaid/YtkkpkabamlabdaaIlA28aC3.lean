/-
  A part of the proof: rules and plain facts. No condition.
-/
import Derived.Test.YtkkpkabamlabdaaProg
import Derived.KernelRfl
import Derived.Test.YtkkpkabamlabdaaIlA28aD
import Derived.Test.YtkkpkabamlabdaaIlA28aC2
set_option linter.all false
set_option linter.unusedSimpArgs false
set_option linter.unusedVariables false
set_option maxRecDepth 8000
set_option maxHeartbeats 2000000
open Go Go.IL Go.Fn Go.Proofs
namespace Go.Proofs.Ytkkpkabamlabdaa
theorem cl7 : Callable Try.prog 7 := ⟨Try.f7, Try.func7, rfl, rfl⟩
theorem cl8 : Callable Try.prog 8 := ⟨Try.f8, Try.func8, rfl, rfl⟩
theorem cl9 : Callable Try.prog 9 := ⟨Try.f9, Try.func9, rfl, rfl⟩
theorem cl11 : Callable Try.prog 11 := ⟨Try.f11, Try.func11, rfl, rfl⟩
theorem cl13 : Callable Try.prog 13 := ⟨Try.f13, Try.func13, rfl, rfl⟩
theorem cl15 : Callable Try.prog 15 := ⟨Try.f15, Try.func15, rfl, rfl⟩
theorem cl17 : Callable Try.prog 17 := ⟨Try.f17, Try.func17, rfl, rfl⟩
theorem cl18 : Callable Try.prog 18 := ⟨Try.f18, Try.func18, rfl, rfl⟩
theorem cl19 : Callable Try.prog 19 := ⟨Try.f19, Try.func19, rfl, rfl⟩
theorem cl22 : Callable Try.prog 22 := ⟨Try.f22, Try.func22, rfl, rfl⟩
theorem cl24 : Callable Try.prog 24 := ⟨Try.f24, Try.func24, rfl, rfl⟩



theorem p_sennitlaw28_PathsChange (a0 : T_paths_State) (a1 : T_anon28) (a2 : Int) (r : Bool) (h : sennitlaw28_PathsChange a0 a1 a2 = some r) : PureAt Try.prog 3 [.agg (v0 a0), .agg (v2 a1), .int .i64 a2] (.bool r) := by
 refine pure_of_iwp (rs := [.bool r]) Try.func3 rfl Try.ntmps3 (nle rfl) rfl fun O hO => ?_
 show IWP _ _ _ _ ⟨[(0, .agg (v0 a0)), (1, .agg (v2 a1)), (2, .int .i64 a2)], []⟩ _
 unfold sennitlaw28_PathsChange at h
 refine iwp_reg (ils_cons rfl (iop_box' (cs := q3) 0 rfl rfl (lb rfl) rfl (svA q3 rfl) rfl rfl) <|
  ils_cons rfl (iop_box' (cs := [.int _ _, .int _ _, .int _ _]) 1 rfl rfl (lb rfl) rfl (sv (d := .agg [.int _ _, .int _ _, .int _ _]) rfl) rfl rfl) <|
  ils_cons rfl (iop_assign rfl rfl (lb rfl) (sv (d := .bool false) rfl)) <|
  ils_end ?_)
 refine iwp_seq ?_
 obtain ⟨x1, hx1, h⟩ := bno_e h
 refine iwp_reg (ils_cons rfl (lra q3 la27 rfl rfl rfl rfl rfl (nle rfl) rfl) <|
  ils_cons rfl (iop_call (r := .bool _) rfl rfl (lb rfl) cl7 (.cons (svA q3 rfl) .nil) rfl (p_sennitlaw28_few _ _ hx1)) <|
  ils_cons rfl (iop_not rfl rfl (lb rfl) (svB rfl)) <|
  ils_end ?_)
 refine iwp_cond (b := _) rfl (fun hc2 => ?_) (fun hc2 => ?_)
 ·
  replace h := bif_t h hc2
  obtain ⟨x3, hx3, h⟩ := bno_e h
  refine iwp_reg (ils_cons rfl (iop_call (r := .bool _) rfl rfl (lb rfl) cl8 .nil rfl (p_sennitlaw28_awake  _ hx3)) <|
   ils_cons rfl (asB rfl rfl rfl rfl) <|
   ils_end ?_)
  refine iwp_ret ?_
  refine thenQ_r ?_
  obtain rfl := Option.some.inj h
  refine ⟨.inr rfl, (.cons (sv rfl) .nil)⟩
 ·
  replace h := bif_f h hc2
  refine iwp_skip ?_
  refine thenQ_n ?_
  obtain ⟨x4, hx4, h⟩ := bno_e h
  refine iwp_reg (ils_cons rfl (lra q3 la27 rfl rfl rfl rfl rfl (nle rfl) rfl) <|
   ils_cons rfl (iop_call (r := .agg q3) rfl rfl (lb rfl) cl9 (.cons (svA q3 rfl) .nil) rfl (p_sennitlaw28_own _ _ hx4)) <|
   ils_cons rfl (iop_allocS (cs := q5) (cs' := (w13 false false 0 0 false false 0 0 false false 0 0 false false 0 0 0 ([] : List T_paths_Bind))) 2 rfl rfl (lb rfl) rfl ti35 rfl rfl (.k4 (.k (.k4 (.k (.k4 (.k (.k (.k (.cons (.nils _) .nil)))))))))) <|
   ils_cons rfl (stA q3 q3 ti35 rfl rfl rfl rfl rfl rfl rfl rfl (nle rfl) rfl) <|
   ils_end ?_)
  obtain ⟨x5, hx5, h⟩ := bno_e h
  refine iwp_reg (ils_cons rfl (lra q3 la35 rfl rfl rfl rfl rfl (nle rfl) rfl) <|
   ils_cons rfl (iop_index_ref rfl rfl (lb rfl) Try.underlying28 ti3 (svR rfl) (sv (d := .int _ 0) rfl) (by decide) (by decide) (off' := 0) rfl) <|
   ils_cons rfl (iop_load_rs (d := .int _ _) rfl rfl (lb rfl) Try.underlying3 ag3 ti3 (by decide) (svR rfl) rfl (nle rfl) rfl) <|
   ils_cons rfl (iop_call (r := .tuple q12) rfl rfl (lb rfl) cl10 (.cons (svA q3 rfl) (.cons (svI rfl) .nil)) rfl (p_paths_Rise _ _ _ hx5)) <|
   ils_cons rfl (iop_move rfl rfl (lb rfl) (sv (d := .tuple q12) rfl)) <|
   ils_cons rfl (iop_extract (d := .agg q3) rfl rfl (lb rfl) (sv (d := .tuple q12) rfl) rfl) <|
   ils_cons rfl (iop_extract (d := .bool _) rfl rfl (lb rfl) (sv (d := .tuple q12) rfl) rfl) <|
   ils_cons rfl (iop_allocS (cs := q5) (cs' := (w13 false false 0 0 false false 0 0 false false 0 0 false false 0 0 0 ([] : List T_paths_Bind))) 3 rfl rfl (lb rfl) rfl ti35 rfl rfl (.k4 (.k (.k4 (.k (.k4 (.k (.k (.k (.cons (.nils _) .nil)))))))))) <|
   ils_cons rfl (stA q3 q3 ti35 rfl rfl rfl rfl rfl rfl rfl rfl (nle rfl) rfl) <|
   ils_cons rfl (asB rfl rfl rfl rfl) <|
   ils_end ?_)
  obtain ⟨x6, hx6, h⟩ := bno_e h
  refine iwp_reg (ils_cons rfl (lra q3 la27 rfl rfl rfl rfl rfl (nle rfl) rfl) <|
   ils_cons rfl (iop_index_ref rfl rfl (lb rfl) Try.underlying28 ti3 (svR rfl) (sv (d := .int _ 0) rfl) (by decide) (by decide) (off' := 0) rfl) <|
   ils_cons rfl (iop_load_rs (d := .int _ _) rfl rfl (lb rfl) Try.underlying3 ag3 ti3 (by decide) (svR rfl) rfl (nle rfl) rfl) <|
   ils_cons rfl (iop_call (r := .tuple q12) rfl rfl (lb rfl) cl11 (.cons (svA q3 rfl) (.cons (svI rfl) .nil)) rfl (p_sennitref28_Rise _ _ _ hx6)) <|
   ils_cons rfl (iop_move rfl rfl (lb rfl) (sv (d := .tuple q12) rfl)) <|
   ils_cons rfl (iop_extract (d := .agg q3) rfl rfl (lb rfl) (sv (d := .tuple q12) rfl) rfl) <|
   ils_cons rfl (iop_extract (d := .bool _) rfl rfl (lb rfl) (sv (d := .tuple q12) rfl) rfl) <|
   ils_cons rfl (iop_allocS (cs := q5) (cs' := (w13 false false 0 0 false false 0 0 false false 0 0 false false 0 0 0 ([] : List T_paths_Bind))) 4 rfl rfl (lb rfl) rfl ti27 rfl rfl (.k4 (.k (.k4 (.k (.k4 (.k (.k (.k (.cons (.nils _) .nil)))))))))) <|
   ils_cons rfl (stA q3 q3 ti27 rfl rfl rfl rfl rfl rfl rfl rfl (nle rfl) rfl) <|
   ils_cons rfl (asB rfl rfl rfl rfl) <|
   ils_end ?_)
  obtain ⟨x7, hx7, h⟩ := bno_e h
  refine iwp_reg (ils_cons rfl (lra q3 la35 rfl rfl rfl rfl rfl (nle rfl) rfl) <|
   ils_cons rfl (iop_index_ref rfl rfl (lb rfl) Try.underlying28 ti3 (svR rfl) (sv (d := .int _ 0) rfl) (by decide) (by decide) (off' := 0) rfl) <|
   ils_cons rfl (iop_load_rs (d := .int _ _) rfl rfl (lb rfl) Try.underlying3 ag3 ti3 (by decide) (svR rfl) rfl (nle rfl) rfl) <|
   ils_cons rfl (iop_call (r := .tuple q10) rfl rfl (lb rfl) cl12 (.cons (svA q3 rfl) (.cons (svI rfl) .nil)) rfl (p_paths_Fall _ _ _ hx7)) <|
   ils_cons rfl (iop_move rfl rfl (lb rfl) (sv (d := .tuple q10) rfl)) <|
   ils_cons rfl (iop_extract (d := .agg q3) rfl rfl (lb rfl) (sv (d := .tuple q10) rfl) rfl) <|
   ils_cons rfl (iop_extract (d := .slice _ _) rfl rfl (lb rfl) (sv (d := .tuple q10) rfl) rfl) <|
   ils_cons rfl (iop_extract (d := .bool _) rfl rfl (lb rfl) (sv (d := .tuple q10) rfl) rfl) <|
   ils_cons rfl (iop_allocS (cs := q5) (cs' := (w13 false false 0 0 false false 0 0 false false 0 0 false false 0 0 0 ([] : List T_paths_Bind))) 5 rfl rfl (lb rfl) rfl ti35 rfl rfl (.k4 (.k (.k4 (.k (.k4 (.k (.k (.k (.cons (.nils _) .nil)))))))))) <|
   ils_cons rfl (stA q3 q3 ti35 rfl rfl rfl rfl rfl rfl rfl rfl (nle rfl) rfl) <|
   ils_cons rfl (iop_assign rfl rfl (lb rfl) (svL rfl)) <|
   ils_cons rfl (asB rfl rfl rfl rfl) <|
   ils_end ?_)
  obtain ⟨x8, hx8, h⟩ := bno_e h
  refine iwp_reg (ils_cons rfl (lra q3 la27 rfl rfl rfl rfl rfl (nle rfl) rfl) <|
   ils_cons rfl (iop_index_ref rfl rfl (lb rfl) Try.underlying28 ti3 (svR rfl) (sv (d := .int _ 0) rfl) (by decide) (by decide) (off' := 0) rfl) <|
   ils_cons rfl (iop_load_rs (d := .int _ _) rfl rfl (lb rfl) Try.underlying3 ag3 ti3 (by decide) (svR rfl) rfl (nle rfl) rfl) <|
   ils_cons rfl (iop_call (r := .tuple q10) rfl rfl (lb rfl) cl13 (.cons (svA q3 rfl) (.cons (svI rfl) .nil)) rfl (p_sennitref28_Fall _ _ _ hx8)) <|
   ils_cons rfl (iop_move rfl rfl (lb rfl) (sv (d := .tuple q10) rfl)) <|
   ils_cons rfl (iop_extract (d := .agg q3) rfl rfl (lb rfl) (sv (d := .tuple q10) rfl) rfl) <|
   ils_cons rfl (iop_extract (d := .slice _ _) rfl rfl (lb rfl) (sv (d := .tuple q10) rfl) rfl) <|
   ils_cons rfl (iop_extract (d := .bool _) rfl rfl (lb rfl) (sv (d := .tuple q10) rfl) rfl) <|
   ils_cons rfl (iop_allocS (cs := q5) (cs' := (w13 false false 0 0 false false 0 0 false false 0 0 false false 0 0 0 ([] : List T_paths_Bind))) 6 rfl rfl (lb rfl) rfl ti27 rfl rfl (.k4 (.k (.k4 (.k (.k4 (.k (.k (.k (.cons (.nils _) .nil)))))))))) <|
   ils_cons rfl (stA q3 q3 ti27 rfl rfl rfl rfl rfl rfl rfl rfl (nle rfl) rfl) <|
   ils_cons rfl (iop_assign rfl rfl (lb rfl) (svL rfl)) <|
   ils_cons rfl (asB rfl rfl rfl rfl) <|
   ils_end ?_)
  obtain ⟨x9, hx9, h⟩ := bno_e h
  refine iwp_reg (ils_cons rfl (lra q3 la35 rfl rfl rfl rfl rfl (nle rfl) rfl) <|
   ils_cons rfl (mvI rfl rfl rfl rfl) <|
   ils_cons rfl (iop_call (r := .tuple q11) rfl rfl (lb rfl) cl14 (.cons (svA q3 rfl) (.cons (svI rfl) .nil)) rfl (p_paths_Choose _ _ _ hx9)) <|
   ils_cons rfl (iop_move rfl rfl (lb rfl) (sv (d := .tuple q11) rfl)) <|
   ils_cons rfl (iop_extract (d := .agg q3) rfl rfl (lb rfl) (sv (d := .tuple q11) rfl) rfl) <|
   ils_cons rfl (iop_extract (d := .int _ _) rfl rfl (lb rfl) (sv (d := .tuple q11) rfl) rfl) <|
   ils_cons rfl (iop_allocS (cs := q5) (cs' := (w13 false false 0 0 false false 0 0 false false 0 0 false false 0 0 0 ([] : List T_paths_Bind))) 7 rfl rfl (lb rfl) rfl ti35 rfl rfl (.k4 (.k (.k4 (.k (.k4 (.k (.k (.k (.cons (.nils _) .nil)))))))))) <|
   ils_cons rfl (stA q3 q3 ti35 rfl rfl rfl rfl rfl rfl rfl rfl (nle rfl) rfl) <|
   ils_cons rfl (asI rfl rfl rfl rfl) <|
   ils_end ?_)
  obtain ⟨x10, hx10, h⟩ := bno_e h
  refine iwp_reg (ils_cons rfl (lra q3 la27 rfl rfl rfl rfl rfl (nle rfl) rfl) <|
   ils_cons rfl (mvI rfl rfl rfl rfl) <|
   ils_cons rfl (iop_call (r := .tuple q11) rfl rfl (lb rfl) cl15 (.cons (svA q3 rfl) (.cons (svI rfl) .nil)) rfl (p_sennitref28_Choose _ _ _ hx10)) <|
   ils_cons rfl (iop_move rfl rfl (lb rfl) (sv (d := .tuple q11) rfl)) <|
   ils_cons rfl (iop_extract (d := .agg q3) rfl rfl (lb rfl) (sv (d := .tuple q11) rfl) rfl) <|
   ils_cons rfl (iop_extract (d := .int _ _) rfl rfl (lb rfl) (sv (d := .tuple q11) rfl) rfl) <|
   ils_cons rfl (iop_allocS (cs := q5) (cs' := (w13 false false 0 0 false false 0 0 false false 0 0 false false 0 0 0 ([] : List T_paths_Bind))) 8 rfl rfl (lb rfl) rfl ti27 rfl rfl (.k4 (.k (.k4 (.k (.k4 (.k (.k (.k (.cons (.nils _) .nil)))))))))) <|
   ils_cons rfl (stA q3 q3 ti27 rfl rfl rfl rfl rfl rfl rfl rfl (nle rfl) rfl) <|
   ils_cons rfl (asI rfl rfl rfl rfl) <|
   ils_end ?_)
  obtain ⟨x11, hx11, h⟩ := bno_e h
  refine iwp_reg (ils_cons rfl (lra q3 la35 rfl rfl rfl rfl rfl (nle rfl) rfl) <|
   ils_cons rfl (iop_call (r := .tuple q11) rfl rfl (lb rfl) cl16 (.cons (svA q3 rfl) .nil) rfl (p_paths_Pin _ _ hx11)) <|
   ils_cons rfl (iop_move rfl rfl (lb rfl) (sv (d := .tuple q11) rfl)) <|
   ils_cons rfl (iop_extract (d := .agg q3) rfl rfl (lb rfl) (sv (d := .tuple q11) rfl) rfl) <|
   ils_cons rfl (iop_extract (d := .int _ _) rfl rfl (lb rfl) (sv (d := .tuple q11) rfl) rfl) <|
   ils_cons rfl (iop_allocS (cs := q5) (cs' := (w13 false false 0 0 false false 0 0 false false 0 0 false false 0 0 0 ([] : List T_paths_Bind))) 9 rfl rfl (lb rfl) rfl ti35 rfl rfl (.k4 (.k (.k4 (.k (.k4 (.k (.k (.k (.cons (.nils _) .nil)))))))))) <|
   ils_cons rfl (stA q3 q3 ti35 rfl rfl rfl rfl rfl rfl rfl rfl (nle rfl) rfl) <|
   ils_cons rfl (asI rfl rfl rfl rfl) <|
   ils_end ?_)
  obtain ⟨x12, hx12, h⟩ := bno_e h
  refine iwp_reg (ils_cons rfl (lra q3 la27 rfl rfl rfl rfl rfl (nle rfl) rfl) <|
   ils_cons rfl (iop_call (r := .tuple q11) rfl rfl (lb rfl) cl17 (.cons (svA q3 rfl) .nil) rfl (p_sennitref28_Pin _ _ hx12)) <|
   ils_cons rfl (iop_move rfl rfl (lb rfl) (sv (d := .tuple q11) rfl)) <|
   ils_cons rfl (iop_extract (d := .agg q3) rfl rfl (lb rfl) (sv (d := .tuple q11) rfl) rfl) <|
   ils_cons rfl (iop_extract (d := .int _ _) rfl rfl (lb rfl) (sv (d := .tuple q11) rfl) rfl) <|
   ils_cons rfl (iop_allocS (cs := q5) (cs' := (w13 false false 0 0 false false 0 0 false false 0 0 false false 0 0 0 ([] : List T_paths_Bind))) 10 rfl rfl (lb rfl) rfl ti27 rfl rfl (.k4 (.k (.k4 (.k (.k4 (.k (.k (.k (.cons (.nils _) .nil)))))))))) <|
   ils_cons rfl (stA q3 q3 ti27 rfl rfl rfl rfl rfl rfl rfl rfl (nle rfl) rfl) <|
   ils_cons rfl (asI rfl rfl rfl rfl) <|
   ils_end ?_)
  obtain ⟨x13, hx13, h⟩ := bno_e h
  obtain ⟨x14, hx14, h⟩ := bno_e h
  obtain ⟨x15, hx15, h⟩ := bnd_e h
  obtain ⟨x16, hx16, h⟩ := bnd_e h
  obtain ⟨x17, hx17, h⟩ := bno_e h
  obtain ⟨x18, hx18, h⟩ := bno_e h
  obtain ⟨x19, hx19, h⟩ := bnd_e h
  obtain ⟨x20, hx20, h⟩ := bno_e h
  obtain ⟨x21, hx21, h⟩ := bnd_e h
  obtain ⟨x22, hx22, h⟩ := bnd_e h
  obtain ⟨x23, hx23, h⟩ := bnd_e h
  obtain ⟨x24, hx24, h⟩ := bno_e h
  obtain ⟨x25, hx25, h⟩ := bno_e h
  obtain ⟨x26, hx26, h⟩ := bnd_e h
  obtain ⟨x27, hx27, h⟩ := bnd_e h
  obtain ⟨x28, hx28, h⟩ := bnd_e h
  obtain ⟨x29, hx29, h⟩ := bno_e h
  obtain ⟨x30, hx30, h⟩ := bno_e h
  obtain ⟨x31, hx31, h⟩ := bnd_e h
  obtain ⟨x32, hx32, h⟩ := bnd_e h
  obtain ⟨x33, hx33, h⟩ := bnd_e h
  obtain ⟨x34, hx34, h⟩ := bno_e h
  obtain ⟨x35, hx35, h⟩ := bno_e h
  obtain ⟨x36, hx36, h⟩ := bno_e h
  obtain ⟨x37, hx37, h⟩ := bno_e h
  obtain ⟨x38, hx38, h⟩ := bnd_e h
  obtain ⟨x39, hx39, h⟩ := bno_e h
  obtain ⟨x40, hx40, h⟩ := bno_e h
  obtain ⟨x41, hx41, h⟩ := bno_e h
  obtain ⟨x42, hx42, h⟩ := bno_e h
  obtain ⟨x43, hx43, h⟩ := bnd_e h
  obtain ⟨x44, hx44, h⟩ := bno_e h
  obtain ⟨x45, hx45, h⟩ := bno_e h
  obtain ⟨x46, hx46, h⟩ := bnd_e h
  obtain ⟨x47, hx47, h⟩ := bno_e h
  obtain ⟨x48, hx48, h⟩ := bnd_e h
  refine iwp_drw rfl [⟨[8], [3], [(84, .agg (v0 x5.1))], []⟩,
   ⟨[84], [], [(85, .agg (v0 x13))], []⟩,
   ⟨[10], [4], [(86, .agg (v0 x6.1))], []⟩,
   ⟨[85, 86], [], [(87, .bool x14)], []⟩,
   ⟨[87], [], [(88, .bool x14)], []⟩,
   ⟨[9, 88], [], [(89, .cnd (x14 == true) (.bool x5.2))], []⟩,
   ⟨[11, 88], [], [(90, .cnd (x14 == true) (.bool x6.2))], []⟩,
   ⟨[88, 89, 90], [], [(91, .cnd (x14 == true) (.bool x15))], []⟩,
   ⟨[88, 91], [], [(92, .bool x16)], []⟩,
   ⟨[92], [], [(93, .bool x16)], []⟩,
   ⟨[12, 93], [5], [(94, .cnd (x16 == true) (.agg (v0 x7.1)))], []⟩,
   ⟨[93, 94], [], [(95, .cnd (x16 == true) (.agg (v0 x17)))], []⟩,
   ⟨[15, 93], [6], [(96, .cnd (x16 == true) (.agg (v0 x8.1)))], []⟩,
   ⟨[93, 95, 96], [], [(97, .cnd (x16 == true) (.bool x18))], []⟩,
   ⟨[93, 97], [], [(98, .bool x19)], []⟩,
   ⟨[98], [], [(99, .bool x19)], []⟩,
   ⟨[13, 99], [], [(100, .cnd (x19 == true) (.slice false (x7.2.1.map (eInt .i64).d)))], []⟩,
   ⟨[16, 99], [], [(101, .cnd (x19 == true) (.slice false (x8.2.1.map (eInt .i64).d)))], []⟩,
   ⟨[99, 100, 101], [], [(102, .cnd (x19 == true) (.bool x20))], []⟩,
   ⟨[99, 102], [], [(103, .bool x21)], []⟩,
   ⟨[103], [], [(104, .bool x21)], []⟩,
   ⟨[14, 104], [], [(105, .cnd (x21 == true) (.bool x7.2.2))], []⟩,
   ⟨[17, 104], [], [(106, .cnd (x21 == true) (.bool x8.2.2))], []⟩,
   ⟨[104, 105, 106], [], [(107, .cnd (x21 == true) (.bool x22))], []⟩,
   ⟨[104, 107], [], [(108, .bool x23)], []⟩,
   ⟨[108], [], [(109, .bool x23)], []⟩,
   ⟨[18, 109], [7], [(110, .cnd (x23 == true) (.agg (v0 x9.1)))], []⟩,
   ⟨[109, 110], [], [(111, .cnd (x23 == true) (.agg (v0 x24)))], []⟩,
   ⟨[20, 109], [8], [(112, .cnd (x23 == true) (.agg (v0 x10.1)))], []⟩,
   ⟨[109, 111, 112], [], [(113, .cnd (x23 == true) (.bool x25))], []⟩,
   ⟨[109, 113], [], [(114, .bool x26)], []⟩,
   ⟨[114], [], [(115, .bool x26)], []⟩,
   ⟨[19, 115], [], [(116, .cnd (x26 == true) (.int .i64 x9.2))], []⟩,
   ⟨[21, 115], [], [(117, .cnd (x26 == true) (.int .i64 x10.2))], []⟩,
   ⟨[115, 116, 117], [], [(118, .cnd (x26 == true) (.bool x27))], []⟩,
   ⟨[115, 118], [], [(119, .bool x28)], []⟩,
   ⟨[119], [], [(120, .bool x28)], []⟩,
   ⟨[22, 120], [9], [(121, .cnd (x28 == true) (.agg (v0 x11.1)))], []⟩,
   ⟨[120, 121], [], [(122, .cnd (x28 == true) (.agg (v0 x29)))], []⟩,
   ⟨[24, 120], [10], [(123, .cnd (x28 == true) (.agg (v0 x12.1)))], []⟩,
   ⟨[120, 122, 123], [], [(124, .cnd (x28 == true) (.bool x30))], []⟩,
   ⟨[120, 124], [], [(125, .bool x31)], []⟩,
   ⟨[125], [], [(126, .bool x31)], []⟩,
   ⟨[23, 126], [], [(127, .cnd (x31 == true) (.int .i64 x11.2))], []⟩,
   ⟨[25, 126], [], [(128, .cnd (x31 == true) (.int .i64 x12.2))], []⟩,
   ⟨[126, 127, 128], [], [(129, .cnd (x31 == true) (.bool x32))], []⟩,
   ⟨[126, 129], [], [(130, .bool x33)], []⟩,
   ⟨[130], [], [(131, .bool x33)], []⟩,
   ⟨[7, 131], [2], [(132, .cnd (x33 == true) (.agg (v0 x4)))], []⟩,
   ⟨[4, 131], [], [(133, .cnd (x33 == true) (.ref 1 0))], []⟩,
   ⟨[131, 133], [1], [(134, .cnd (x33 == true) (.int .i64 a1.c0))], []⟩,
   ⟨[4, 131], [], [(135, .cnd (x33 == true) (.ref 1 1))], []⟩,
   ⟨[131, 135], [1], [(136, .cnd (x33 == true) (.int .i64 a1.c1))], []⟩,
   ⟨[4, 131], [], [(137, .cnd (x33 == true) (.ref 1 2))], []⟩,
   ⟨[131, 137], [1], [(138, .cnd (x33 == true) (.int .i64 a1.c2))], []⟩,
   ⟨[131, 132, 134, 136, 138], [], [(139, .cnd (x33 == true) (.agg (v0 x34)))], []⟩,
   ⟨[131, 139], [], [(140, .cnd (x33 == true) (.agg (v0 x35)))], []⟩,
   ⟨[3, 131], [0], [(141, .cnd (x33 == true) (.agg (v0 a0)))], []⟩,
   ⟨[4, 131], [], [(142, .cnd (x33 == true) (.ref 1 0))], []⟩,
   ⟨[131, 142], [1], [(143, .cnd (x33 == true) (.int .i64 a1.c0))], []⟩,
   ⟨[4, 131], [], [(144, .cnd (x33 == true) (.ref 1 1))], []⟩,
   ⟨[131, 144], [1], [(145, .cnd (x33 == true) (.int .i64 a1.c1))], []⟩,
   ⟨[4, 131], [], [(146, .cnd (x33 == true) (.ref 1 2))], []⟩,
   ⟨[131, 146], [1], [(147, .cnd (x33 == true) (.int .i64 a1.c2))], []⟩,
   ⟨[131, 141, 143, 145, 147], [], [(148, .cnd (x33 == true) (.agg (v0 x36)))], []⟩,
   ⟨[131, 140, 148], [], [(149, .cnd (x33 == true) (.bool x37))], []⟩,
   ⟨[131, 149], [], [(150, .bool x38)], []⟩,
   ⟨[150], [], [(151, .bool x38)], []⟩,
   ⟨[7, 151], [2], [(152, .cnd (x38 == true) (.agg (v0 x4)))], []⟩,
   ⟨[2, 151], [], [(153, .cnd (x38 == true) (.int .i64 a2))], []⟩,
   ⟨[151, 152, 153], [], [(154, .cnd (x38 == true) (.agg (v0 x39)))], []⟩,
   ⟨[151, 154], [], [(155, .cnd (x38 == true) (.agg (v0 x40)))], []⟩,
   ⟨[3, 151], [0], [(156, .cnd (x38 == true) (.agg (v0 a0)))], []⟩,
   ⟨[2, 151], [], [(157, .cnd (x38 == true) (.int .i64 a2))], []⟩,
   ⟨[151, 156, 157], [], [(158, .cnd (x38 == true) (.agg (v0 x41)))], []⟩,
   ⟨[151, 155, 158], [], [(159, .cnd (x38 == true) (.bool x42))], []⟩,
   ⟨[151, 159], [], [(160, .bool x43)], []⟩,
   ⟨[160], [], [(161, .bool x43)], []⟩,
   ⟨[7, 161], [2], [(162, .cnd (x43 == true) (.agg (v0 x4)))], []⟩,
   ⟨[161, 162], [], [(163, .cnd (x43 == true) (.agg (v0 x44)))], []⟩,
   ⟨[3, 161], [0], [(164, .cnd (x43 == true) (.agg (v0 a0)))], []⟩,
   ⟨[161, 163, 164], [], [(165, .cnd (x43 == true) (.bool x45))], []⟩,
   ⟨[161, 165], [], [(166, .bool x46)], []⟩,
   ⟨[166], [], [(167, .bool x46)], []⟩,
   ⟨[167], [], [(168, .cnd (x46 == true) (.bool x47))], []⟩,
   ⟨[167, 168], [], [(169, .bool x48)], []⟩,
   ⟨[169], [], [(6, .bool x48)], []⟩] rfl ?_ (by kernel_rfl) ?_
  ·refine .cons (lop rfl rfl fun S hA => (iop_load_ra (cs := q3) rfl rfl (lb rfl) Try.underlying35 ag35 ti35 (by decide) (svaR hA rfl rfl) (agi hA rfl rfl) (nle rfl) rfl)) ?_
   refine .cons (lop rfl rfl fun S hA => (iop_call (r := .agg q3) rfl rfl (lb rfl) cl19 (.cons (svaA q3 hA rfl rfl) .nil) rfl (p_sennitlaw28_Back _ _ hx13))) ?_
   refine .cons (lop rfl rfl fun S hA => (iop_load_ra (cs := q3) rfl rfl (lb rfl) Try.underlying27 ag27 ti27 (by decide) (svaR hA rfl rfl) (agi hA rfl rfl) (nle rfl) rfl)) ?_
   refine .cons (lop rfl rfl fun S hA => (iop_call (r := .bool _) rfl rfl (lb rfl) cl18 (.cons (svaA q3 hA rfl rfl) (.cons (svaA q3 hA rfl rfl) .nil)) rfl (p_sennitref28_Same _ _ _ hx14))) ?_
   refine .cons (lop rfl rfl fun S hA => (iop_move rfl rfl (lb rfl) (svaB hA rfl rfl))) ?_
   refine .cons (lopg rfl rfl rfl rfl (by decide) (fun S hA => grd1 hA rfl rfl) (fun S hA hb => (iop_move rfl rfl (lb rfl) (svaB hA rfl rfl)))) ?_
   refine .cons (lopg rfl rfl rfl rfl (by decide) (fun S hA => grd1 hA rfl rfl) (fun S hA hb => (iop_move rfl rfl (lb rfl) (svaB hA rfl rfl)))) ?_
   refine .cons (lopg rfl rfl rfl rfl (by decide) (fun S hA => grd1 hA rfl rfl) (fun S hA hb => (iop_eqbx rfl rfl (lb rfl) Try.underlying4 (svc (d := .bool _) (agr hA rfl rfl) hb) (svc (d := .bool _) (agr hA rfl rfl) hb) hx15))) ?_
   refine .cons (lop rfl rfl fun S hA => (iop_andx rfl rfl (lb rfl) (svaB hA rfl rfl) (agr hA rfl rfl) rfl hx16)) ?_
   refine .cons (lop rfl rfl fun S hA => (iop_move rfl rfl (lb rfl) (svaB hA rfl rfl))) ?_
   refine .cons (lopg rfl rfl rfl rfl (by decide) (fun S hA => grd1 hA rfl rfl) (fun S hA hb => (iop_load_ra (cs := q3) rfl rfl (lb rfl) Try.underlying35 ag35 ti35 (by decide) (svaR hA rfl rfl) (agi hA rfl rfl) (nle rfl) rfl))) ?_
   refine .cons (lopg rfl rfl rfl rfl (by decide) (fun S hA => grd1 hA rfl rfl) (fun S hA hb => (iop_call (r := .agg q3) rfl rfl (lb rfl) cl19 (.cons (svc (d := .agg (v0 x7.1)) (agr hA rfl rfl) hb) .nil) rfl (p_sennitlaw28_Back _ _ (gd_t hx17 hb))))) ?_
   refine .cons (lopg rfl rfl rfl rfl (by decide) (fun S hA => grd1 hA rfl rfl) (fun S hA hb => (iop_load_ra (cs := q3) rfl rfl (lb rfl) Try.underlying27 ag27 ti27 (by decide) (svaR hA rfl rfl) (agi hA rfl rfl) (nle rfl) rfl))) ?_
   refine .cons (lopg rfl rfl rfl rfl (by decide) (fun S hA => grd1 hA rfl rfl) (fun S hA hb => (iop_call (r := .bool _) rfl rfl (lb rfl) cl18 (.cons (svc (d := .agg (v0 x17)) (agr hA rfl rfl) hb) (.cons (svc (d := .agg (v0 x8.1)) (agr hA rfl rfl) hb) .nil)) rfl (p_sennitref28_Same _ _ _ (gd_t hx18 hb))))) ?_
   refine .cons (lop rfl rfl fun S hA => (iop_andx rfl rfl (lb rfl) (svaB hA rfl rfl) (agr hA rfl rfl) rfl hx19)) ?_
   refine .cons (lop rfl rfl fun S hA => (iop_move rfl rfl (lb rfl) (svaB hA rfl rfl))) ?_
   refine .cons (lopg rfl rfl rfl rfl (by decide) (fun S hA => grd1 hA rfl rfl) (fun S hA hb => (iop_move rfl rfl (lb rfl) (svaL hA rfl rfl)))) ?_
   refine .cons (lopg rfl rfl rfl rfl (by decide) (fun S hA => grd1 hA rfl rfl) (fun S hA hb => (iop_move rfl rfl (lb rfl) (svaL hA rfl rfl)))) ?_
   refine .cons (lopg rfl rfl rfl rfl (by decide) (fun S hA => grd1 hA rfl rfl) (fun S hA hb => (iop_call (r := .bool _) rfl rfl (lb rfl) cl20 (.cons (svc (d := .slice _ _) (agr hA rfl rfl) hb) (.cons (svc (d := .slice _ _) (agr hA rfl rfl) hb) .nil)) rfl (p_sennitref28_SameInts _ _ _ (gd_t hx20 hb))))) ?_
   refine .cons (lop rfl rfl fun S hA => (iop_andx rfl rfl (lb rfl) (svaB hA rfl rfl) (agr hA rfl rfl) rfl hx21)) ?_
   refine .cons (lop rfl rfl fun S hA => (iop_move rfl rfl (lb rfl) (svaB hA rfl rfl))) ?_
   refine .cons (lopg rfl rfl rfl rfl (by decide) (fun S hA => grd1 hA rfl rfl) (fun S hA hb => (iop_move rfl rfl (lb rfl) (svaB hA rfl rfl)))) ?_
   refine .cons (lopg rfl rfl rfl rfl (by decide) (fun S hA => grd1 hA rfl rfl) (fun S hA hb => (iop_move rfl rfl (lb rfl) (svaB hA rfl rfl)))) ?_
   refine .cons (lopg rfl rfl rfl rfl (by decide) (fun S hA => grd1 hA rfl rfl) (fun S hA hb => (iop_eqbx rfl rfl (lb rfl) Try.underlying4 (svc (d := .bool _) (agr hA rfl rfl) hb) (svc (d := .bool _) (agr hA rfl rfl) hb) hx22))) ?_
   refine .cons (lop rfl rfl fun S hA => (iop_andx rfl rfl (lb rfl) (svaB hA rfl rfl) (agr hA rfl rfl) rfl hx23)) ?_
   refine .cons (lop rfl rfl fun S hA => (iop_move rfl rfl (lb rfl) (svaB hA rfl rfl))) ?_
   refine .cons (lopg rfl rfl rfl rfl (by decide) (fun S hA => grd1 hA rfl rfl) (fun S hA hb => (iop_load_ra (cs := q3) rfl rfl (lb rfl) Try.underlying35 ag35 ti35 (by decide) (svaR hA rfl rfl) (agi hA rfl rfl) (nle rfl) rfl))) ?_
   refine .cons (lopg rfl rfl rfl rfl (by decide) (fun S hA => grd1 hA rfl rfl) (fun S hA hb => (iop_call (r := .agg q3) rfl rfl (lb rfl) cl19 (.cons (svc (d := .agg (v0 x9.1)) (agr hA rfl rfl) hb) .nil) rfl (p_sennitlaw28_Back _ _ (gd_t hx24 hb))))) ?_
   refine .cons (lopg rfl rfl rfl rfl (by decide) (fun S hA => grd1 hA rfl rfl) (fun S hA hb => (iop_load_ra (cs := q3) rfl rfl (lb rfl) Try.underlying27 ag27 ti27 (by decide) (svaR hA rfl rfl) (agi hA rfl rfl) (nle rfl) rfl))) ?_
   refine .cons (lopg rfl rfl rfl rfl (by decide) (fun S hA => grd1 hA rfl rfl) (fun S hA hb => (iop_call (r := .bool _) rfl rfl (lb rfl) cl18 (.cons (svc (d := .agg (v0 x24)) (agr hA rfl rfl) hb) (.cons (svc (d := .agg (v0 x10.1)) (agr hA rfl rfl) hb) .nil)) rfl (p_sennitref28_Same _ _ _ (gd_t hx25 hb))))) ?_
   refine .cons (lop rfl rfl fun S hA => (iop_andx rfl rfl (lb rfl) (svaB hA rfl rfl) (agr hA rfl rfl) rfl hx26)) ?_
   refine .cons (lop rfl rfl fun S hA => (iop_move rfl rfl (lb rfl) (svaB hA rfl rfl))) ?_
   refine .cons (lopg rfl rfl rfl rfl (by decide) (fun S hA => grd1 hA rfl rfl) (fun S hA hb => (iop_move rfl rfl (lb rfl) (svaI hA rfl rfl)))) ?_
   refine .cons (lopg rfl rfl rfl rfl (by decide) (fun S hA => grd1 hA rfl rfl) (fun S hA hb => (iop_move rfl rfl (lb rfl) (svaI hA rfl rfl)))) ?_
   refine .cons (lopg rfl rfl rfl rfl (by decide) (fun S hA => grd1 hA rfl rfl) (fun S hA hb => (iop_cmpx rfl rfl (lb rfl) (svc (d := .int _ _) (agr hA rfl rfl) hb) (svc (d := .int _ _) (agr hA rfl rfl) hb) rfl hx27))) ?_
   refine .cons (lop rfl rfl fun S hA => (iop_andx rfl rfl (lb rfl) (svaB hA rfl rfl) (agr hA rfl rfl) rfl hx28)) ?_
   refine .cons (lop rfl rfl fun S hA => (iop_move rfl rfl (lb rfl) (svaB hA rfl rfl))) ?_
   refine .cons (lopg rfl rfl rfl rfl (by decide) (fun S hA => grd1 hA rfl rfl) (fun S hA hb => (iop_load_ra (cs := q3) rfl rfl (lb rfl) Try.underlying35 ag35 ti35 (by decide) (svaR hA rfl rfl) (agi hA rfl rfl) (nle rfl) rfl))) ?_
   refine .cons (lopg rfl rfl rfl rfl (by decide) (fun S hA => grd1 hA rfl rfl) (fun S hA hb => (iop_call (r := .agg q3) rfl rfl (lb rfl) cl19 (.cons (svc (d := .agg (v0 x11.1)) (agr hA rfl rfl) hb) .nil) rfl (p_sennitlaw28_Back _ _ (gd_t hx29 hb))))) ?_
   refine .cons (lopg rfl rfl rfl rfl (by decide) (fun S hA => grd1 hA rfl rfl) (fun S hA hb => (iop_load_ra (cs := q3) rfl rfl (lb rfl) Try.underlying27 ag27 ti27 (by decide) (svaR hA rfl rfl) (agi hA rfl rfl) (nle rfl) rfl))) ?_
   refine .cons (lopg rfl rfl rfl rfl (by decide) (fun S hA => grd1 hA rfl rfl) (fun S hA hb => (iop_call (r := .bool _) rfl rfl (lb rfl) cl18 (.cons (svc (d := .agg (v0 x29)) (agr hA rfl rfl) hb) (.cons (svc (d := .agg (v0 x12.1)) (agr hA rfl rfl) hb) .nil)) rfl (p_sennitref28_Same _ _ _ (gd_t hx30 hb))))) ?_
   refine .cons (lop rfl rfl fun S hA => (iop_andx rfl rfl (lb rfl) (svaB hA rfl rfl) (agr hA rfl rfl) rfl hx31)) ?_
   refine .cons (lop rfl rfl fun S hA => (iop_move rfl rfl (lb rfl) (svaB hA rfl rfl))) ?_
   refine .cons (lopg rfl rfl rfl rfl (by decide) (fun S hA => grd1 hA rfl rfl) (fun S hA hb => (iop_move rfl rfl (lb rfl) (svaI hA rfl rfl)))) ?_
   refine .cons (lopg rfl rfl rfl rfl (by decide) (fun S hA => grd1 hA rfl rfl) (fun S hA hb => (iop_move rfl rfl (lb rfl) (svaI hA rfl rfl)))) ?_
   refine .cons (lopg rfl rfl rfl rfl (by decide) (fun S hA => grd1 hA rfl rfl) (fun S hA hb => (iop_cmpx rfl rfl (lb rfl) (svc (d := .int _ _) (agr hA rfl rfl) hb) (svc (d := .int _ _) (agr hA rfl rfl) hb) rfl hx32))) ?_
   refine .cons (lop rfl rfl fun S hA => (iop_andx rfl rfl (lb rfl) (svaB hA rfl rfl) (agr hA rfl rfl) rfl hx33)) ?_
   refine .cons (lop rfl rfl fun S hA => (iop_move rfl rfl (lb rfl) (svaB hA rfl rfl))) ?_
   refine .cons (lopg rfl rfl rfl rfl (by decide) (fun S hA => grd1 hA rfl rfl) (fun S hA hb => (iop_load_ra (cs := q3) rfl rfl (lb rfl) Try.underlying35 ag35 ti35 (by decide) (svaR hA rfl rfl) (agi hA rfl rfl) (nle rfl) rfl))) ?_
   refine .cons (lopg rfl rfl rfl rfl (by decide) (fun S hA => grd1 hA rfl rfl) (fun S hA hb => (iop_index_ref rfl rfl (lb rfl) Try.underlying28 ti3 (svaR hA rfl rfl) (sv (d := .int _ 0) rfl) (by decide) (by decide) (off' := 0) rfl))) ?_
   refine .cons (lopg rfl rfl rfl rfl (by decide) (fun S hA => grd1 hA rfl rfl) (fun S hA hb => (iop_load_rs (d := .int _ _) rfl rfl (lb rfl) Try.underlying3 ag3 ti3 (by decide) (svc (d := .ref _ _) (agr hA rfl rfl) hb) (agi hA rfl rfl) (nle rfl) rfl))) ?_
   refine .cons (lopg rfl rfl rfl rfl (by decide) (fun S hA => grd1 hA rfl rfl) (fun S hA hb => (iop_index_ref rfl rfl (lb rfl) Try.underlying28 ti3 (svaR hA rfl rfl) (sv (d := .int _ 1) rfl) (by decide) (by decide) (off' := 1) rfl))) ?_
   refine .cons (lopg rfl rfl rfl rfl (by decide) (fun S hA => grd1 hA rfl rfl) (fun S hA hb => (iop_load_rs (d := .int _ _) rfl rfl (lb rfl) Try.underlying3 ag3 ti3 (by decide) (svc (d := .ref _ _) (agr hA rfl rfl) hb) (agi hA rfl rfl) (nle rfl) rfl))) ?_
   refine .cons (lopg rfl rfl rfl rfl (by decide) (fun S hA => grd1 hA rfl rfl) (fun S hA hb => (iop_index_ref rfl rfl (lb rfl) Try.underlying28 ti3 (svaR hA rfl rfl) (sv (d := .int _ 2) rfl) (by decide) (by decide) (off' := 2) rfl))) ?_
   refine .cons (lopg rfl rfl rfl rfl (by decide) (fun S hA => grd1 hA rfl rfl) (fun S hA hb => (iop_load_rs (d := .int _ _) rfl rfl (lb rfl) Try.underlying3 ag3 ti3 (by decide) (svc (d := .ref _ _) (agr hA rfl rfl) hb) (agi hA rfl rfl) (nle rfl) rfl))) ?_
   refine .cons (lopg rfl rfl rfl rfl (by decide) (fun S hA => grd1 hA rfl rfl) (fun S hA hb => (iop_call (r := .agg q3) rfl rfl (lb rfl) cl21 (.cons (svc (d := .agg (v0 x4)) (agr hA rfl rfl) hb) (.cons (svc (d := .int _ _) (agr hA rfl rfl) hb) (.cons (svc (d := .int _ _) (agr hA rfl rfl) hb) (.cons (svc (d := .int _ _) (agr hA rfl rfl) hb) .nil)))) rfl (p_paths_Note _ _ _ _ _ (gd_t hx34 hb))))) ?_
   refine .cons (lopg rfl rfl rfl rfl (by decide) (fun S hA => grd1 hA rfl rfl) (fun S hA hb => (iop_call (r := .agg q3) rfl rfl (lb rfl) cl19 (.cons (svc (d := .agg (v0 x34)) (agr hA rfl rfl) hb) .nil) rfl (p_sennitlaw28_Back _ _ (gd_t hx35 hb))))) ?_
   refine .cons (lopg rfl rfl rfl rfl (by decide) (fun S hA => grd1 hA rfl rfl) (fun S hA hb => (iop_load_ra (cs := q3) rfl rfl (lb rfl) Try.underlying27 ag27 ti27 (by decide) (svaR hA rfl rfl) (agi hA rfl rfl) (nle rfl) rfl))) ?_
   refine .cons (lopg rfl rfl rfl rfl (by decide) (fun S hA => grd1 hA rfl rfl) (fun S hA hb => (iop_index_ref rfl rfl (lb rfl) Try.underlying28 ti3 (svaR hA rfl rfl) (sv (d := .int _ 0) rfl) (by decide) (by decide) (off' := 0) rfl))) ?_
   refine .cons (lopg rfl rfl rfl rfl (by decide) (fun S hA => grd1 hA rfl rfl) (fun S hA hb => (iop_load_rs (d := .int _ _) rfl rfl (lb rfl) Try.underlying3 ag3 ti3 (by decide) (svc (d := .ref _ _) (agr hA rfl rfl) hb) (agi hA rfl rfl) (nle rfl) rfl))) ?_
   refine .cons (lopg rfl rfl rfl rfl (by decide) (fun S hA => grd1 hA rfl rfl) (fun S hA hb => (iop_index_ref rfl rfl (lb rfl) Try.underlying28 ti3 (svaR hA rfl rfl) (sv (d := .int _ 1) rfl) (by decide) (by decide) (off' := 1) rfl))) ?_
   refine .cons (lopg rfl rfl rfl rfl (by decide) (fun S hA => grd1 hA rfl rfl) (fun S hA hb => (iop_load_rs (d := .int _ _) rfl rfl (lb rfl) Try.underlying3 ag3 ti3 (by decide) (svc (d := .ref _ _) (agr hA rfl rfl) hb) (agi hA rfl rfl) (nle rfl) rfl))) ?_
   refine .cons (lopg rfl rfl rfl rfl (by decide) (fun S hA => grd1 hA rfl rfl) (fun S hA hb => (iop_index_ref rfl rfl (lb rfl) Try.underlying28 ti3 (svaR hA rfl rfl) (sv (d := .int _ 2) rfl) (by decide) (by decide) (off' := 2) rfl))) ?_
   refine .cons (lopg rfl rfl rfl rfl (by decide) (fun S hA => grd1 hA rfl rfl) (fun S hA hb => (iop_load_rs (d := .int _ _) rfl rfl (lb rfl) Try.underlying3 ag3 ti3 (by decide) (svc (d := .ref _ _) (agr hA rfl rfl) hb) (agi hA rfl rfl) (nle rfl) rfl))) ?_
   refine .cons (lopg rfl rfl rfl rfl (by decide) (fun S hA => grd1 hA rfl rfl) (fun S hA hb => (iop_call (r := .agg q3) rfl rfl (lb rfl) cl22 (.cons (svc (d := .agg (v0 a0)) (agr hA rfl rfl) hb) (.cons (svc (d := .int _ _) (agr hA rfl rfl) hb) (.cons (svc (d := .int _ _) (agr hA rfl rfl) hb) (.cons (svc (d := .int _ _) (agr hA rfl rfl) hb) .nil)))) rfl (p_sennitref28_Note _ _ _ _ _ (gd_t hx36 hb))))) ?_
   refine .cons (lopg rfl rfl rfl rfl (by decide) (fun S hA => grd1 hA rfl rfl) (fun S hA hb => (iop_call (r := .bool _) rfl rfl (lb rfl) cl18 (.cons (svc (d := .agg (v0 x35)) (agr hA rfl rfl) hb) (.cons (svc (d := .agg (v0 x36)) (agr hA rfl rfl) hb) .nil)) rfl (p_sennitref28_Same _ _ _ (gd_t hx37 hb))))) ?_
   refine .cons (lop rfl rfl fun S hA => (iop_andx rfl rfl (lb rfl) (svaB hA rfl rfl) (agr hA rfl rfl) rfl hx38)) ?_
   refine .cons (lop rfl rfl fun S hA => (iop_move rfl rfl (lb rfl) (svaB hA rfl rfl))) ?_
   refine .cons (lopg rfl rfl rfl rfl (by decide) (fun S hA => grd1 hA rfl rfl) (fun S hA hb => (iop_load_ra (cs := q3) rfl rfl (lb rfl) Try.underlying35 ag35 ti35 (by decide) (svaR hA rfl rfl) (agi hA rfl rfl) (nle rfl) rfl))) ?_
   refine .cons (lopg rfl rfl rfl rfl (by decide) (fun S hA => grd1 hA rfl rfl) (fun S hA hb => (iop_move rfl rfl (lb rfl) (svaI hA rfl rfl)))) ?_
   refine .cons (lopg rfl rfl rfl rfl (by decide) (fun S hA => grd1 hA rfl rfl) (fun S hA hb => (iop_call (r := .agg q3) rfl rfl (lb rfl) cl23 (.cons (svc (d := .agg (v0 x4)) (agr hA rfl rfl) hb) (.cons (svc (d := .int _ _) (agr hA rfl rfl) hb) .nil)) rfl (p_paths_Free _ _ _ (gd_t hx39 hb))))) ?_
   refine .cons (lopg rfl rfl rfl rfl (by decide) (fun S hA => grd1 hA rfl rfl) (fun S hA hb => (iop_call (r := .agg q3) rfl rfl (lb rfl) cl19 (.cons (svc (d := .agg (v0 x39)) (agr hA rfl rfl) hb) .nil) rfl (p_sennitlaw28_Back _ _ (gd_t hx40 hb))))) ?_
   refine .cons (lopg rfl rfl rfl rfl (by decide) (fun S hA => grd1 hA rfl rfl) (fun S hA hb => (iop_load_ra (cs := q3) rfl rfl (lb rfl) Try.underlying27 ag27 ti27 (by decide) (svaR hA rfl rfl) (agi hA rfl rfl) (nle rfl) rfl))) ?_
   refine .cons (lopg rfl rfl rfl rfl (by decide) (fun S hA => grd1 hA rfl rfl) (fun S hA hb => (iop_move rfl rfl (lb rfl) (svaI hA rfl rfl)))) ?_
   refine .cons (lopg rfl rfl rfl rfl (by decide) (fun S hA => grd1 hA rfl rfl) (fun S hA hb => (iop_call (r := .agg q3) rfl rfl (lb rfl) cl24 (.cons (svc (d := .agg (v0 a0)) (agr hA rfl rfl) hb) (.cons (svc (d := .int _ _) (agr hA rfl rfl) hb) .nil)) rfl (p_sennitref28_Free _ _ _ (gd_t hx41 hb))))) ?_
   refine .cons (lopg rfl rfl rfl rfl (by decide) (fun S hA => grd1 hA rfl rfl) (fun S hA hb => (iop_call (r := .bool _) rfl rfl (lb rfl) cl18 (.cons (svc (d := .agg (v0 x40)) (agr hA rfl rfl) hb) (.cons (svc (d := .agg (v0 x41)) (agr hA rfl rfl) hb) .nil)) rfl (p_sennitref28_Same _ _ _ (gd_t hx42 hb))))) ?_
   refine .cons (lop rfl rfl fun S hA => (iop_andx rfl rfl (lb rfl) (svaB hA rfl rfl) (agr hA rfl rfl) rfl hx43)) ?_
   refine .cons (lop rfl rfl fun S hA => (iop_move rfl rfl (lb rfl) (svaB hA rfl rfl))) ?_
   refine .cons (lopg rfl rfl rfl rfl (by decide) (fun S hA => grd1 hA rfl rfl) (fun S hA hb => (iop_load_ra (cs := q3) rfl rfl (lb rfl) Try.underlying35 ag35 ti35 (by decide) (svaR hA rfl rfl) (agi hA rfl rfl) (nle rfl) rfl))) ?_
   refine .cons (lopg rfl rfl rfl rfl (by decide) (fun S hA => grd1 hA rfl rfl) (fun S hA hb => (iop_call (r := .agg q3) rfl rfl (lb rfl) cl19 (.cons (svc (d := .agg (v0 x4)) (agr hA rfl rfl) hb) .nil) rfl (p_sennitlaw28_Back _ _ (gd_t hx44 hb))))) ?_
   refine .cons (lopg rfl rfl rfl rfl (by decide) (fun S hA => grd1 hA rfl rfl) (fun S hA hb => (iop_load_ra (cs := q3) rfl rfl (lb rfl) Try.underlying27 ag27 ti27 (by decide) (svaR hA rfl rfl) (agi hA rfl rfl) (nle rfl) rfl))) ?_
   refine .cons (lopg rfl rfl rfl rfl (by decide) (fun S hA => grd1 hA rfl rfl) (fun S hA hb => (iop_call (r := .bool _) rfl rfl (lb rfl) cl18 (.cons (svc (d := .agg (v0 x44)) (agr hA rfl rfl) hb) (.cons (svc (d := .agg (v0 a0)) (agr hA rfl rfl) hb) .nil)) rfl (p_sennitref28_Same _ _ _ (gd_t hx45 hb))))) ?_
   refine .cons (lop rfl rfl fun S hA => (iop_andx rfl rfl (lb rfl) (svaB hA rfl rfl) (agr hA rfl rfl) rfl hx46)) ?_
   refine .cons (lop rfl rfl fun S hA => (iop_move rfl rfl (lb rfl) (svaB hA rfl rfl))) ?_
   refine .cons (lopg rfl rfl rfl rfl (by decide) (fun S hA => grd1 hA rfl rfl) (fun S hA hb => (iop_call (r := .bool _) rfl rfl (lb rfl) cl8 .nil rfl (p_sennitlaw28_awake  _ (gd_t hx47 hb))))) ?_
   refine .cons (lop rfl rfl fun S hA => (iop_andx rfl rfl (lb rfl) (svaB hA rfl rfl) (agr hA rfl rfl) rfl hx48)) ?_
   refine .cons (lop rfl rfl fun S hA => (iop_assign rfl rfl (lb rfl) (svaB hA rfl rfl))) ?_
   exact .nil
  refine iwp_ret ?_
  obtain rfl := Option.some.inj h
  refine ⟨.inr rfl, (.cons (sv rfl) .nil)⟩
end Go.Proofs.Ytkkpkabamlabdaa
