/-
  A part of the proof: rules and plain facts. No condition.
-/
import Derived.Test.YtkmnhcjjaadmbaaProg
import Derived.KernelRfl
import Derived.Test.YtkmnhcjjaadmbaaIlAr
import Derived.Test.YtkmnhcjjaadmbaaIlA27C1
set_option linter.all false
set_option linter.unusedSimpArgs false
set_option linter.unusedVariables false
open Go Go.IL Go.Fn Go.Proofs
namespace Go.Proofs.Ytkmnhcjjaadmbaa
theorem ti4 : TI Try.prog 4 (some (.bool false)) 1 1 := by unfold TI; kernel_rfl
theorem ti44 : TI Try.prog 44 (some (.agg #[.bool false, .bool false, .bool false, .bool false, .bool false, .bool false, .bool false, .bool false, .bool false, .bool false, .bool false, .bool false, .bool false, .bool false, .bool false, .bool false, .bool false, .bool false, .bool false, .bool false, .bool false, .bool false, .bool false, .bool false, .bool false, .bool false, .bool false, .bool false, .bool false, .bool false, .bool false, .bool false, .bool false, .bool false, .bool false, .bool false, .bool false, .bool false, .bool false, .bool false, .bool false, .bool false, .bool false, .bool false, .bool false, .bool false, .bool false, .bool false, .bool false, .bool false, .bool false, .bool false, .bool false, .bool false, .bool false, .bool false, .bool false, .bool false, .bool false, .bool false])) 60 60 := by unfold TI; kernel_rfl
theorem ag4 : aggOf Try.prog 4 = false := by kernel_rfl
theorem cl21 : Callable Try.prog 21 := ⟨Try.f21, Try.func21, rfl, rfl⟩
theorem cl23 : Callable Try.prog 23 := ⟨Try.f23, Try.func23, rfl, rfl⟩
theorem cl26 : Callable Try.prog 26 := ⟨Try.f26, Try.func26, rfl, rfl⟩
theorem cl28 : Callable Try.prog 28 := ⟨Try.f28, Try.func28, rfl, rfl⟩

set_option maxRecDepth 8000 in
set_option maxHeartbeats 2000000 in
theorem p_sennitref27_Order (a0 : (List Nat)) (r : (List Int)) (h : sennitref27_Order a0 = some r) : PureAt Try.prog 26 [.slice false (a0.map (eFlt .f64).d)] (.slice false (r.map (eInt .i64).d)) := by
  refine pure_of_iwp (rs := [.slice false (r.map (eInt .i64).d)]) Try.func26 rfl Try.ntmps26 (nle rfl) rfl fun O hO => ?_
  show IWP _ _ _ _ ⟨[(0, .slice false (a0.map (eFlt .f64).d))], []⟩ _
  unfold sennitref27_Order at h
  refine iwp_reg (ils_cons rfl (iop_assign rfl rfl (by decide) (sv (d := .nils) rfl)) <|
    ils_end ?_)
  refine iwp_reg (ils_cons rfl (iop_assign rfl rfl (by decide) (sv (d := .nils) rfl)) <|
    ils_end ?_)
  refine iwp_seq ?_
  refine iwp_reg (ils_cons rfl (iop_assign rfl rfl (by decide) (sv (d := .int _ 0) rfl)) <|
    ils_end ?_)
  refine iwp_block ?_
  refine iwp_loopP (α := Nat × (List Int) × Int) (fun z => ⟨[(0, .slice false (a0.map (eFlt .f64).d)), (3, .gsl 21 (eInt .i64).sz (z.2.1.map (eInt .i64).d)), (4, .int .i64 z.2.2)], [(21, .tail 3 (eInt .i64).sz z.2.1.length)]⟩) (fun z => sennitref27_Order_L0 a0 z.1 z.2.1 z.2.2 = some r) (fun z => z.1) (fuel, ([] : (List Int)), 0) (fun i => if i = 21 then 71 else i) ⟨(.cons (.same rfl rfl) (.cons (.nils rfl) (.cons (.same rfl rfl) .nil))), (.cons (.nils rfl) .nil), nd_of [71] rfl (by decide), (fun i hi => by first | rfl | (show (if _ then _ else _) = _; (repeat' split) <;> omega))⟩ ?_ ?_
  · exact h
  ·
    rintro ⟨n0, v40, v41⟩ h
    cases n0 with
    | zero => exact absurd h (by unfold sennitref27_Order_L0; exact nofun)
    | succ n0 =>
      unfold sennitref27_Order_L0 at h
      refine iwp_seq ?_
      obtain ⟨x81, hx81, h⟩ := bnd_e h
      refine iwp_reg (ils_cons rfl (iop_move rfl rfl (by decide) (sv (d := .int _ _) rfl)) <|
        ils_cons rfl (iop_move rfl rfl (by decide) (sv (d := .slice _ _) rfl)) <|
        ils_cons rfl (iop_lenT (eFlt .f64) (l := a0) rfl rfl (by decide) Try.underlying35 (sv (d := .slice _ _) rfl)) <|
        ils_cons rfl (iop_cmpx rfl rfl (by decide) (sv (d := .int _ _) rfl) (sv (d := .int _ _) rfl) rfl hx81) <|
        ils_end ?_)
      refine iwp_cond (b := _) rfl (fun hc82 => ?_) (fun hc82 => ?_)
      ·
        replace h := bif_t h hc82
        refine iwp_skip ?_
        refine thenQ_n ?_
        refine iwp_seq ?_
        refine iwp_block ?_
        refine iwp_reg (ils_cons rfl (iop_move rfl rfl (by decide) (sv (d := .gsl _ _ _) rfl)) <|
          ils_cons rfl (iop_lenT (eInt .i64) (l := v40) rfl rfl (by decide) Try.underlying39 (svg rfl)) <|
          ils_cons rfl (iop_assign rfl rfl (by decide) (sv (d := .int _ _) rfl)) <|
          ils_end ?_)
        refine iwp_seq ?_
        refine iwp_block ?_
        refine iwp_loopP (α := Nat × Int) (fun z => ⟨[(0, .slice false (a0.map (eFlt .f64).d)), (3, .gsl 21 (eInt .i64).sz (v40.map (eInt .i64).d)), (4, .int .i64 v41), (5, .int .i64 z.2)], [(21, .tail 3 (eInt .i64).sz v40.length)]⟩) (fun z => sennitref27_Order_L1 a0 v40 v41 (sennitref27_Order_L0 a0 n0) z.1 z.2 = some r) (fun z => z.1) (fuel, (v40.length : Int)) (fun i => i) ⟨(.cons (.same rfl rfl) (.cons (.same rfl rfl) (.cons (.same rfl rfl) (.cons (.same rfl rfl) .nil)))), (.cons (.tail rfl) .nil), nd_of [21] rfl (by decide), (fun i hi => by first | rfl | (show (if _ then _ else _) = _; (repeat' split) <;> omega))⟩ ?_ ?_
        · exact h
        ·
          rintro ⟨n1, v93⟩ h
          cases n1 with
          | zero => exact absurd h (by unfold sennitref27_Order_L1; exact nofun)
          | succ n1 =>
            unfold sennitref27_Order_L1 at h
            refine iwp_seq ?_
            obtain ⟨x104, hx104, h⟩ := bnd_e h
            obtain ⟨x105, hx105, h⟩ := bno_e h
            obtain ⟨x106, hx106, h⟩ := bnd_e h
            obtain ⟨x107, hx107, h⟩ := bno_e h
            obtain ⟨x108, hx108, h⟩ := bno_e h
            obtain ⟨x109, hx109, h⟩ := bno_e h
            obtain ⟨x110, hx110, h⟩ := bnd_e h
            obtain ⟨x111, hx111, h⟩ := bnd_e h
            refine iwp_drw rfl [⟨[5], [], [(15, .int .i64 v93)], []⟩,
              ⟨[15], [], [(16, .bool x104)], []⟩,
              ⟨[16], [], [(17, .bool x104)], []⟩,
              ⟨[0, 17], [], [(18, .cnd (x104 == true) (.slice false (a0.map (eFlt .f64).d)))], []⟩,
              ⟨[4, 17], [], [(19, .cnd (x104 == true) (.int .i64 v41))], []⟩,
              ⟨[17, 18, 19], [], [(20, .cnd (x104 == true) (.fptr [.float .f64 x105]))], []⟩,
              ⟨[17, 20], [], [(21, .cnd (x104 == true) (.float .f64 x105))], []⟩,
              ⟨[0, 17], [], [(22, .cnd (x104 == true) (.slice false (a0.map (eFlt .f64).d)))], []⟩,
              ⟨[3, 17], [], [(23, .cnd (x104 == true) (.gsl 21 (eInt .i64).sz (v40.map (eInt .i64).d)))], []⟩,
              ⟨[5, 17], [], [(24, .cnd (x104 == true) (.int .i64 v93))], []⟩,
              ⟨[17, 24], [], [(25, .cnd (x104 == true) (.int .i64 x106))], []⟩,
              ⟨[17, 23, 25], [], [(26, .cnd (x104 == true) (.fptr [.int .i64 x107]))], []⟩,
              ⟨[17, 26], [], [(27, .cnd (x104 == true) (.int .i64 x107))], []⟩,
              ⟨[17, 22, 27], [], [(28, .cnd (x104 == true) (.fptr [.float .f64 x108]))], []⟩,
              ⟨[17, 28], [], [(29, .cnd (x104 == true) (.float .f64 x108))], []⟩,
              ⟨[17, 21, 29], [], [(30, .cnd (x104 == true) (.int .i64 x109))], []⟩,
              ⟨[17, 30], [], [(31, .cnd (x104 == true) (.bool x110))], []⟩,
              ⟨[17, 31], [], [(32, .bool x111)], []⟩] rfl ?_ (by kernel_rfl) ?_
            · refine .cons (lop rfl rfl fun S hA => (iop_move rfl rfl (by decide) (sv (d := .int _ _) (agr hA rfl rfl)))) ?_
              refine .cons (lop rfl rfl fun S hA => (iop_cmpx rfl rfl (by decide) (sv (d := .int _ _) (agr hA rfl rfl)) (sv (d := .int _ 0) rfl) rfl hx104)) ?_
              refine .cons (lop rfl rfl fun S hA => (iop_move rfl rfl (by decide) (sv (d := .bool _) (agr hA rfl rfl)))) ?_
              refine .cons (lopg rfl rfl rfl rfl (by decide) (fun S hA => grd1 hA rfl rfl) (fun S hA hb => (iop_move rfl rfl (by decide) (sv (d := .slice _ _) (agr hA rfl rfl))))) ?_
              refine .cons (lopg rfl rfl rfl rfl (by decide) (fun S hA => grd1 hA rfl rfl) (fun S hA hb => (iop_move rfl rfl (by decide) (sv (d := .int _ _) (agr hA rfl rfl))))) ?_
              refine .cons (lopg rfl rfl rfl rfl (by decide) (fun S hA => grd1 hA rfl rfl) (fun S hA hb => (iop_idxT (eFlt .f64) (cs := [.float _ _]) rfl rfl (by decide) Try.underlying35 ti24 (svc (d := .slice _ _) (agr hA rfl rfl) hb) (svc (d := .int _ _) (agr hA rfl rfl) hb) (gd_t hx105 hb) rfl rfl))) ?_
              refine .cons (lopg rfl rfl rfl rfl (by decide) (fun S hA => grd1 hA rfl rfl) (fun S hA hb => (iop_load_fs rfl rfl (by decide) Try.underlying24 ag24 ti24 (by decide) (svc (d := .fptr [.float _ _]) (agr hA rfl rfl) hb) (nle rfl)))) ?_
              refine .cons (lopg rfl rfl rfl rfl (by decide) (fun S hA => grd1 hA rfl rfl) (fun S hA hb => (iop_move rfl rfl (by decide) (sv (d := .slice _ _) (agr hA rfl rfl))))) ?_
              refine .cons (lopg rfl rfl rfl rfl (by decide) (fun S hA => grd1 hA rfl rfl) (fun S hA hb => (iop_move rfl rfl (by decide) (sv (d := .gsl _ _ _) (agr hA rfl rfl))))) ?_
              refine .cons (lopg rfl rfl rfl rfl (by decide) (fun S hA => grd1 hA rfl rfl) (fun S hA hb => (iop_move rfl rfl (by decide) (sv (d := .int _ _) (agr hA rfl rfl))))) ?_
              refine .cons (lopg rfl rfl rfl rfl (by decide) (fun S hA => grd1 hA rfl rfl) (fun S hA hb => (iop_intx rfl rfl (by decide) (svc (d := .int _ _) (agr hA rfl rfl) hb) (sv (d := .int _ 1) rfl) rfl hx106))) ?_
              refine .cons (lopg rfl rfl rfl rfl (by decide) (fun S hA => grd1 hA rfl rfl) (fun S hA hb => (iop_idxT (eInt .i64) (cs := [.int _ _]) rfl rfl (by decide) Try.underlying39 ti3 (SV.gsls (svc (d := .gsl 21 (eInt .i64).sz (v40.map (eInt .i64).d)) (agr hA rfl rfl) hb)) (svc (d := .int _ _) (agr hA rfl rfl) hb) (gd_t hx107 hb) rfl rfl))) ?_
              refine .cons (lopg rfl rfl rfl rfl (by decide) (fun S hA => grd1 hA rfl rfl) (fun S hA hb => (iop_load_fs rfl rfl (by decide) Try.underlying3 ag3 ti3 (by decide) (svc (d := .fptr [.int _ _]) (agr hA rfl rfl) hb) (nle rfl)))) ?_
              refine .cons (lopg rfl rfl rfl rfl (by decide) (fun S hA => grd1 hA rfl rfl) (fun S hA hb => (iop_idxT (eFlt .f64) (cs := [.float _ _]) rfl rfl (by decide) Try.underlying35 ti24 (svc (d := .slice _ _) (agr hA rfl rfl) hb) (svc (d := .int _ _) (agr hA rfl rfl) hb) (gd_t hx108 hb) rfl rfl))) ?_
              refine .cons (lopg rfl rfl rfl rfl (by decide) (fun S hA => grd1 hA rfl rfl) (fun S hA hb => (iop_load_fs rfl rfl (by decide) Try.underlying24 ag24 ti24 (by decide) (svc (d := .fptr [.float _ _]) (agr hA rfl rfl) hb) (nle rfl)))) ?_
              refine .cons (lopg rfl rfl rfl rfl (by decide) (fun S hA => grd1 hA rfl rfl) (fun S hA hb => (iop_call (r := .int _ _) rfl rfl (by decide) cl15 (.cons (svc (d := .float _ _) (agr hA rfl rfl) hb) (.cons (svc (d := .float _ _) (agr hA rfl rfl) hb) .nil)) rfl (p_sennitref27_Compare _ _ _ (gd_t hx109 hb))))) ?_
              refine .cons (lopg rfl rfl rfl rfl (by decide) (fun S hA => grd1 hA rfl rfl) (fun S hA hb => (iop_cmpx rfl rfl (by decide) (svc (d := .int _ _) (agr hA rfl rfl) hb) (sv (d := .int _ 0) rfl) rfl hx110))) ?_
              refine .cons (lop rfl rfl fun S hA => (iop_andx rfl rfl (by decide) (sv (d := .bool _) (agr hA rfl rfl)) (agr hA rfl rfl) rfl hx111)) ?_
              exact .nil
            refine iwp_cond (b := _) rfl (fun hc112 => ?_) (fun hc112 => ?_)
            ·
              replace h := bif_t h hc112
              refine iwp_skip ?_
              refine thenQ_n ?_
              refine iwp_block ?_
              obtain ⟨x113, hx113, h⟩ := bnd_e h
              refine iwp_region (ils_cons rfl (iop_move rfl rfl (by decide) (sv (d := .int _ _) rfl)) <|
                ils_cons rfl (iop_intx rfl rfl (by decide) (sv (d := .int _ _) rfl) (sv (d := .int _ 1) rfl) rfl hx113) <|
                ils_cons rfl (iop_assign rfl rfl (by decide) (sv (d := .int _ _) rfl)) <|
                ils_nil ?_)
              refine blockQ_n ?_
              refine thenQ_n ⟨(n1, x113), (fun i => i), ⟨(.cons (.same rfl rfl) (.cons (.same rfl rfl) (.cons (.same rfl rfl) (.cons (.same rfl rfl) .nil)))), (.cons (.tail rfl) .nil), nd_of [21] rfl (by decide), (fun i hi => by first | rfl | (show (if _ then _ else _) = _; (repeat' split) <;> omega))⟩, ?_, ?_⟩
              exact h
              exact Nat.lt_succ_self _
            ·
              replace h := bif_f h hc112
              refine iwp_exit ?_
              refine thenQ_e ?_
              refine thenQ_e ?_
              refine blockQ_e ?_
              refine thenQ_n ?_
              refine iwp_reg (ils_cons rfl (iop_assign rfl rfl (by decide) (sv (d := .nils) rfl)) <|
                ils_end ?_)
              obtain ⟨x114, hx114, h⟩ := bno_e h
              obtain ⟨x115, hx115, h⟩ := bno_e h
              obtain ⟨x116, hx116, h⟩ := bno_e h
              obtain ⟨x117, hx117, h⟩ := bno_e h
              obtain ⟨x118, hx118, h⟩ := bno_e h
              refine iwp_draw rfl [⟨[6], [], [(35, .nils)], []⟩,
                ⟨[3], [], [(36, .gsl 21 (eInt .i64).sz (v40.map (eInt .i64).d))], []⟩,
                ⟨[5], [], [(37, .int .i64 v93)], []⟩,
                ⟨[36, 37], [], [(38, .slice false (x114.map (eInt .i64).d))], []⟩,
                ⟨[35, 38], [22], [(39, .gsl 22 (eInt .i64).sz (x115.map (eInt .i64).d))], [(22, .tail 3 (eInt .i64).sz x115.length)]⟩,
                ⟨[4], [], [(40, .int .i64 v41)], []⟩,
                ⟨[40], [23], [(41, .gsl 23 (eInt .i64).sz (([v41] : (List Int)).map (eInt .i64).d))], [(23, .tail 3 (eInt .i64).sz ([v41] : (List Int)).length)]⟩,
                ⟨[39, 41], [22, 24], [(42, .gsl 24 (eInt .i64).sz (x116.map (eInt .i64).d))], [(24, .tail 3 (eInt .i64).sz x116.length), (22, .none)]⟩,
                ⟨[3], [], [(43, .gsl 21 (eInt .i64).sz (v40.map (eInt .i64).d))], []⟩,
                ⟨[5], [], [(44, .int .i64 v93)], []⟩,
                ⟨[43, 44], [], [(45, .slice false (x117.map (eInt .i64).d))], []⟩,
                ⟨[42, 45], [24, 25], [(46, .gsl 25 (eInt .i64).sz (x118.map (eInt .i64).d))], [(25, .tail 3 (eInt .i64).sz x118.length), (24, .none)]⟩,
                ⟨[46], [], [(3, .gsl 25 (eInt .i64).sz (x118.map (eInt .i64).d))], []⟩] rfl ?_ (by kernel_rfl) ?_
              · refine .cons (lop rfl rfl fun S hA => (iop_move rfl rfl (by decide) (sv (d := .nils) (agr hA rfl rfl)))) ?_
                refine .cons (lop rfl rfl fun S hA => (iop_move rfl rfl (by decide) (sv (d := .gsl _ _ _) (agr hA rfl rfl)))) ?_
                refine .cons (lop rfl rfl fun S hA => (iop_move rfl rfl (by decide) (sv (d := .int _ _) (agr hA rfl rfl)))) ?_
                refine .cons (lop rfl rfl fun S hA => (iop_cutT (eInt .i64) rfl rfl (by decide) Try.underlying39 ti3 (svg (agr hA rfl rfl)) rfl ⟨_, (sv (d := .int _ _) (agr hA rfl rfl))⟩ hx114)) ?_
                refine .cons (lop rfl rfl fun S hA => (iop_appTn (eInt .i64) (ys := x114) 22 rfl rfl (by decide) Try.underlying39 ti3 rfl (agr hA rfl rfl) (agi hA rfl rfl) (sv (d := .slice _ _) (agr hA rfl rfl)) hx115)) ?_
                refine .cons (lop rfl rfl fun S hA => (iop_move rfl rfl (by decide) (sv (d := .int _ _) (agr hA rfl rfl)))) ?_
                refine .cons (lop rfl rfl fun S hA => (iop_bsT (eInt .i64) ([v41] : (List Int)) 23 rfl rfl (by decide) Try.underlying39 ti3 (agi hA rfl rfl) (.cons (sv (d := .int _ _) (agr hA rfl rfl)) .nil) rfl rfl (by decide))) ?_
                refine .cons (lop rfl rfl fun S hA => (iop_appT (eInt .i64) 24 rfl rfl (by decide) Try.underlying39 ti3 rfl (agr hA rfl rfl) (agi hA rfl rfl) (agi hA rfl rfl) (svg (agr hA rfl rfl)) hx116)) ?_
                refine .cons (lop rfl rfl fun S hA => (iop_move rfl rfl (by decide) (sv (d := .gsl _ _ _) (agr hA rfl rfl)))) ?_
                refine .cons (lop rfl rfl fun S hA => (iop_move rfl rfl (by decide) (sv (d := .int _ _) (agr hA rfl rfl)))) ?_
                refine .cons (lop rfl rfl fun S hA => (iop_cutT (eInt .i64) rfl rfl (by decide) Try.underlying39 ti3 (svg (agr hA rfl rfl)) ⟨_, (sv (d := .int _ _) (agr hA rfl rfl))⟩ rfl hx117)) ?_
                refine .cons (lop rfl rfl fun S hA => (iop_appT (eInt .i64) 25 rfl rfl (by decide) Try.underlying39 ti3 rfl (agr hA rfl rfl) (agi hA rfl rfl) (agi hA rfl rfl) (sv (d := .slice _ _) (agr hA rfl rfl)) hx118)) ?_
                refine .cons (lop rfl rfl fun S hA => (iop_assign rfl rfl (by decide) (sv (d := .gsl _ _ _) (agr hA rfl rfl)))) ?_
                exact .nil
              refine blockQ_n ?_
              refine thenQ_n ?_
              obtain ⟨x119, hx119, h⟩ := bnd_e h
              refine iwp_region (ils_cons rfl (iop_move rfl rfl (by decide) (sv (d := .int _ _) rfl)) <|
                ils_cons rfl (iop_intx rfl rfl (by decide) (sv (d := .int _ _) rfl) (sv (d := .int _ 1) rfl) rfl hx119) <|
                ils_cons rfl (iop_assign rfl rfl (by decide) (sv (d := .int _ _) rfl)) <|
                ils_nil ?_)
              refine thenQ_n ⟨(n0, x118, x119), (fun i => if i = 21 then 25 else i), ⟨(.cons (.same rfl rfl) (.cons (.same rfl rfl) (.cons (.same rfl rfl) .nil))), (.cons (.tail rfl) .nil), nd_of [25] rfl (by decide), (fun i hi => by first | rfl | (show (if _ then _ else _) = _; (repeat' split) <;> omega))⟩, ?_, ?_⟩
              exact h
              exact Nat.lt_succ_self _
      ·
        replace h := bif_f h hc82
        refine iwp_exit ?_
        refine thenQ_e ?_
        refine thenQ_e ?_
        refine blockQ_e ?_
        refine thenQ_n ?_
        refine iwp_reg (ils_cons rfl (iop_move rfl rfl (by decide) (sv (d := .gsl _ _ _) rfl)) <|
          ils_cons rfl (iop_assign rfl rfl (by decide) (sv (d := .gsl _ _ _) rfl)) <|
          ils_end ?_)
        refine iwp_ret ?_
        obtain rfl := Option.some.inj h
        refine ⟨.inr rfl, (.cons (svg_of rfl rfl) .nil)⟩

set_option maxRecDepth 8000 in
set_option maxHeartbeats 2000000 in
theorem p_sennitref27_Fold (a0 : (List Nat)) (r : Nat) (h : sennitref27_Fold a0 = some r) : PureAt Try.prog 28 [.slice false (a0.map (eFlt .f64).d)] (.float .f64 r) := by
  refine pure_of_iwp (rs := [.float .f64 r]) Try.func28 rfl Try.ntmps28 (nle rfl) rfl fun O hO => ?_
  show IWP _ _ _ _ ⟨[(0, .slice false (a0.map (eFlt .f64).d))], []⟩ _
  unfold sennitref27_Fold at h
  refine iwp_reg (ils_cons rfl (iop_assign rfl rfl (by decide) (sv (d := .float _ _) rfl)) <|
    ils_end ?_)
  obtain ⟨x1, hx1, h⟩ := bnd_e h
  refine iwp_reg (ils_cons rfl (iop_ffrom rfl rfl (by decide) ex29 (sv (d := .int _ 9221120237041090561) rfl) hx1) <|
    ils_cons rfl (iop_assign rfl rfl (by decide) (sv (d := .float _ _) rfl)) <|
    ils_end ?_)
  refine iwp_seq ?_
  refine iwp_reg (ils_cons rfl (iop_assign rfl rfl (by decide) (sv (d := .int _ 0) rfl)) <|
    ils_end ?_)
  refine iwp_block ?_
  refine iwp_loopP (α := Nat × Nat × Int) (fun z => ⟨[(0, .slice false (a0.map (eFlt .f64).d)), (3, .float .f64 z.2.1), (4, .int .i64 z.2.2)], []⟩) (fun z => sennitref27_Fold_L0 a0 z.1 z.2.1 z.2.2 = some r) (fun z => z.1) (fuel, x1, 0) (fun i => i) ⟨(.cons (.same rfl rfl) (.cons (.same rfl rfl) (.cons (.same rfl rfl) .nil))), .nil, nd_of [] rfl (by decide), (fun i hi => by first | rfl | (show (if _ then _ else _) = _; (repeat' split) <;> omega))⟩ ?_ ?_
  · exact h
  ·
    rintro ⟨n0, v7, v8⟩ h
    cases n0 with
    | zero => exact absurd h (by unfold sennitref27_Fold_L0; exact nofun)
    | succ n0 =>
      unfold sennitref27_Fold_L0 at h
      refine iwp_seq ?_
      obtain ⟨x14, hx14, h⟩ := bnd_e h
      refine iwp_reg (ils_cons rfl (iop_move rfl rfl (by decide) (sv (d := .int _ _) rfl)) <|
        ils_cons rfl (iop_move rfl rfl (by decide) (sv (d := .slice _ _) rfl)) <|
        ils_cons rfl (iop_lenT (eFlt .f64) (l := a0) rfl rfl (by decide) Try.underlying35 (sv (d := .slice _ _) rfl)) <|
        ils_cons rfl (iop_cmpx rfl rfl (by decide) (sv (d := .int _ _) rfl) (sv (d := .int _ _) rfl) rfl hx14) <|
        ils_end ?_)
      refine iwp_cond (b := _) rfl (fun hc15 => ?_) (fun hc15 => ?_)
      ·
        replace h := bif_t h hc15
        refine iwp_skip ?_
        refine thenQ_n ?_
        refine iwp_seq ?_
        refine iwp_block ?_
        obtain ⟨x16, hx16, h⟩ := bno_e h
        obtain ⟨x17, hx17, h⟩ := bno_e h
        refine iwp_region (ils_cons rfl (iop_move rfl rfl (by decide) (sv (d := .float _ _) rfl)) <|
          ils_cons rfl (iop_move rfl rfl (by decide) (sv (d := .slice _ _) rfl)) <|
          ils_cons rfl (iop_move rfl rfl (by decide) (sv (d := .int _ _) rfl)) <|
          ils_cons rfl (iop_idxT (eFlt .f64) (cs := [.float _ _]) rfl rfl (by decide) Try.underlying35 ti24 (sv (d := .slice _ _) rfl) (sv (d := .int _ _) rfl) hx16 rfl rfl) <|
          ils_cons rfl (iop_load_fs rfl rfl (by decide) Try.underlying24 ag24 ti24 (by decide) (sv (d := .fptr [.float _ _]) rfl) (nle rfl)) <|
          ils_cons rfl (iop_call (r := .float _ _) rfl rfl (by decide) cl17 (.cons (sv (d := .float _ _) rfl) (.cons (sv (d := .float _ _) rfl) .nil)) rfl (p_sennitref27_Smooth _ _ _ hx17)) <|
          ils_cons rfl (iop_assign rfl rfl (by decide) (sv (d := .float _ _) rfl)) <|
          ils_nil ?_)
        refine blockQ_n ?_
        refine thenQ_n ?_
        obtain ⟨x18, hx18, h⟩ := bnd_e h
        refine iwp_region (ils_cons rfl (iop_move rfl rfl (by decide) (sv (d := .int _ _) rfl)) <|
          ils_cons rfl (iop_intx rfl rfl (by decide) (sv (d := .int _ _) rfl) (sv (d := .int _ 1) rfl) rfl hx18) <|
          ils_cons rfl (iop_assign rfl rfl (by decide) (sv (d := .int _ _) rfl)) <|
          ils_nil ?_)
        refine thenQ_n ⟨(n0, x17, x18), (fun i => i), ⟨(.cons (.same rfl rfl) (.cons (.same rfl rfl) (.cons (.same rfl rfl) .nil))), .nil, nd_of [] rfl (by decide), (fun i hi => by first | rfl | (show (if _ then _ else _) = _; (repeat' split) <;> omega))⟩, ?_, ?_⟩
        exact h
        exact Nat.lt_succ_self _
      ·
        replace h := bif_f h hc15
        refine iwp_exit ?_
        refine thenQ_e ?_
        refine thenQ_e ?_
        refine blockQ_e ?_
        refine thenQ_n ?_
        refine iwp_reg (ils_cons rfl (iop_move rfl rfl (by decide) (sv (d := .float _ _) rfl)) <|
          ils_cons rfl (iop_assign rfl rfl (by decide) (sv (d := .float _ _) rfl)) <|
          ils_end ?_)
        refine iwp_ret ?_
        obtain rfl := Option.some.inj h
        refine ⟨.inr rfl, (.cons (sv rfl) .nil)⟩

set_option maxRecDepth 8000 in
set_option maxHeartbeats 2000000 in
theorem p_sennitlaw27_GaugeOrders (a0 : (List Int)) (r : Bool) (h : sennitlaw27_GaugeOrders a0 = some r) : PureAt Try.prog 4 [.slice false (a0.map (eInt .u64).d)] (.bool r) := by
  refine pure_of_iwp (rs := [.bool r]) Try.func4 rfl Try.ntmps4 (nle rfl) rfl fun O hO => ?_
  show IWP _ _ _ _ ⟨[(0, .slice false (a0.map (eInt .u64).d))], []⟩ _
  unfold sennitlaw27_GaugeOrders at h
  refine iwp_reg (ils_cons rfl (iop_assign rfl rfl (by decide) (sv (d := .bool false) rfl)) <|
    ils_end ?_)
  refine iwp_seq ?_
  obtain ⟨x1, hx1, h⟩ := bnd_e h
  refine iwp_reg (ils_cons rfl (iop_move rfl rfl (by decide) (sv (d := .slice _ _) rfl)) <|
    ils_cons rfl (iop_lenT (eInt .u64) (l := a0) rfl rfl (by decide) Try.underlying34 (sv (d := .slice _ _) rfl)) <|
    ils_cons rfl (iop_cmpx rfl rfl (by decide) (sv (d := .int _ _) rfl) (sv (d := .int _ 60) rfl) rfl hx1) <|
    ils_end ?_)
  refine iwp_cond (b := _) rfl (fun hc2 => ?_) (fun hc2 => ?_)
  ·
    replace h := bif_t h hc2
    obtain ⟨x3, hx3, h⟩ := bno_e h
    refine iwp_reg (ils_cons rfl (iop_call (r := .bool _) rfl rfl (by decide) cl20 .nil rfl (p_sennitlaw27_awake  _ hx3)) <|
      ils_cons rfl (iop_assign rfl rfl (by decide) (sv (d := .bool _) rfl)) <|
      ils_end ?_)
    refine iwp_ret ?_
    refine thenQ_r ?_
    obtain rfl := Option.some.inj h
    refine ⟨.inr rfl, (.cons (sv rfl) .nil)⟩
  ·
    replace h := bif_f h hc2
    refine iwp_skip ?_
    refine thenQ_n ?_
    obtain ⟨x4, hx4, h⟩ := bno_e h
    refine iwp_reg (ils_cons rfl (iop_move rfl rfl (by decide) (sv (d := .slice _ _) rfl)) <|
      ils_cons rfl (iop_call (r := .slice _ _) rfl rfl (by decide) cl21 (.cons (sv (d := .slice _ _) rfl) .nil) rfl (p_sennitlaw27_of _ _ hx4)) <|
      ils_cons rfl (iop_assign rfl rfl (by decide) (sv (d := .slice _ _) rfl)) <|
      ils_end ?_)
    obtain ⟨x5, hx5, h⟩ := bno_e h
    obtain ⟨x6, hx6, h⟩ := bno_e h
    obtain ⟨x7, hx7, h⟩ := bnd_e h
    obtain ⟨x8, hx8, h⟩ := bno_e h
    obtain ⟨x9, hx9, h⟩ := bno_e h
    obtain ⟨x10, hx10, h⟩ := bno_e h
    obtain ⟨x11, hx11, h⟩ := bnd_e h
    obtain ⟨x12, hx12, h⟩ := bno_e h
    obtain ⟨x13, hx13, h⟩ := bno_e h
    obtain ⟨x14, hx14, h⟩ := bno_e h
    obtain ⟨x15, hx15, h⟩ := bno_e h
    obtain ⟨x16, hx16, h⟩ := bnd_e h
    obtain ⟨x17, hx17, h⟩ := bnd_e h
    obtain ⟨x18, hx18, h⟩ := bno_e h
    obtain ⟨x19, hx19, h⟩ := bnd_e h
    refine iwp_reg (ils_cons rfl (iop_move rfl rfl (by decide) (sv (d := .slice _ _) rfl)) <|
      ils_cons rfl (iop_call (r := .int _ _) rfl rfl (by decide) cl22 (.cons (sv (d := .slice _ _) rfl) .nil) rfl (p_gauge_Best _ _ hx5)) <|
      ils_cons rfl (iop_move rfl rfl (by decide) (sv (d := .slice _ _) rfl)) <|
      ils_cons rfl (iop_call (r := .int _ _) rfl rfl (by decide) cl23 (.cons (sv (d := .slice _ _) rfl) .nil) rfl (p_sennitref27_Best _ _ hx6)) <|
      ils_cons rfl (iop_cmpx rfl rfl (by decide) (sv (d := .int _ _) rfl) (sv (d := .int _ _) rfl) rfl hx7) <|
      ils_cons rfl (iop_move rfl rfl (by decide) (sv (d := .bool _) rfl)) <|
      ils_guard rfl rfl (.one rfl) rfl (by decide) (fun hb => (iop_move rfl rfl (by decide) (sv (d := .slice _ _) rfl))) <|
      ils_guard rfl rfl (.one rfl) rfl (by decide) (fun hb => (iop_call (r := .slice _ _) rfl rfl (by decide) cl25 (.cons (svc (d := .slice _ _) rfl hb) .nil) rfl (p_gauge_Order _ _ (gd_t hx8 hb)))) <|
      ils_guard rfl rfl (.one rfl) rfl (by decide) (fun hb => (iop_move rfl rfl (by decide) (sv (d := .slice _ _) rfl))) <|
      ils_guard rfl rfl (.one rfl) rfl (by decide) (fun hb => (iop_call (r := .slice _ _) rfl rfl (by decide) cl26 (.cons (svc (d := .slice _ _) rfl hb) .nil) rfl (p_sennitref27_Order _ _ (gd_t hx9 hb)))) <|
      ils_guard rfl rfl (.one rfl) rfl (by decide) (fun hb => (iop_call (r := .bool _) rfl rfl (by decide) cl24 (.cons (svc (d := .slice _ _) rfl hb) (.cons (svc (d := .slice _ _) rfl hb) .nil)) rfl (p_sennitref02_SameInts _ _ _ (gd_t hx10 hb)))) <|
      ils_cons rfl (iop_andx rfl rfl (by decide) (sv (d := .bool _) rfl) rfl rfl hx11) <|
      ils_cons rfl (iop_move rfl rfl (by decide) (sv (d := .bool _) rfl)) <|
      ils_guard rfl rfl (.one rfl) rfl (by decide) (fun hb => (iop_move rfl rfl (by decide) (sv (d := .slice _ _) rfl))) <|
      ils_guard rfl rfl (.one rfl) rfl (by decide) (fun hb => (iop_call (r := .float _ _) rfl rfl (by decide) cl27 (.cons (svc (d := .slice _ _) rfl hb) .nil) rfl (p_gauge_Fold _ _ (gd_t hx12 hb)))) <|
      ils_guard rfl rfl (.one rfl) rfl (by decide) (fun hb => (iop_call (r := .int _ _) rfl rfl (by decide) cl12 (.cons (svc (d := .float _ _) rfl hb) .nil) rfl (p_sennitref27_Bits _ _ (gd_t hx13 hb)))) <|
      ils_guard rfl rfl (.one rfl) rfl (by decide) (fun hb => (iop_move rfl rfl (by decide) (sv (d := .slice _ _) rfl))) <|
      ils_guard rfl rfl (.one rfl) rfl (by decide) (fun hb => (iop_call (r := .float _ _) rfl rfl (by decide) cl28 (.cons (svc (d := .slice _ _) rfl hb) .nil) rfl (p_sennitref27_Fold _ _ (gd_t hx14 hb)))) <|
      ils_guard rfl rfl (.one rfl) rfl (by decide) (fun hb => (iop_call (r := .int _ _) rfl rfl (by decide) cl12 (.cons (svc (d := .float _ _) rfl hb) .nil) rfl (p_sennitref27_Bits _ _ (gd_t hx15 hb)))) <|
      ils_guard rfl rfl (.one rfl) rfl (by decide) (fun hb => (iop_cmpx rfl rfl (by decide) (svc (d := .int _ _) rfl hb) (svc (d := .int _ _) rfl hb) rfl hx16)) <|
      ils_cons rfl (iop_andx rfl rfl (by decide) (sv (d := .bool _) rfl) rfl rfl hx17) <|
      ils_cons rfl (iop_move rfl rfl (by decide) (sv (d := .bool _) rfl)) <|
      ils_guard rfl rfl (.one rfl) rfl (by decide) (fun hb => (iop_call (r := .bool _) rfl rfl (by decide) cl20 .nil rfl (p_sennitlaw27_awake  _ (gd_t hx18 hb)))) <|
      ils_cons rfl (iop_andx rfl rfl (by decide) (sv (d := .bool _) rfl) rfl rfl hx19) <|
      ils_cons rfl (iop_assign rfl rfl (by decide) (sv (d := .bool _) rfl)) <|
      ils_end ?_)
    refine iwp_ret ?_
    obtain rfl := Option.some.inj h
    refine ⟨.inr rfl, (.cons (sv rfl) .nil)⟩

set_option maxRecDepth 8000 in
set_option maxHeartbeats 2000000 in
theorem p_sennitlaw27_GaugeBetween (a0 : Int) (a1 : Int) (r : Bool) (h : sennitlaw27_GaugeBetween a0 a1 = some r) : PureAt Try.prog 6 [.int .u32 a0, .int .u32 a1] (.bool r) := by
  refine pure_of_iwp (rs := [.bool r]) Try.func6 rfl Try.ntmps6 (nle rfl) rfl fun O hO => ?_
  show IWP _ _ _ _ ⟨[(0, .int .u32 a0), (1, .int .u32 a1)], []⟩ _
  unfold sennitlaw27_GaugeBetween at h
  refine iwp_reg (ils_cons rfl (iop_assign rfl rfl (by decide) (sv (d := .bool false) rfl)) <|
    ils_end ?_)
  obtain ⟨x1, hx1, h⟩ := bnd_e h
  obtain ⟨x2, hx2, h⟩ := bnd_e h
  refine iwp_reg (ils_cons rfl (iop_move rfl rfl (by decide) (sv (d := .int _ _) rfl)) <|
    ils_cons rfl (iop_fintx rfl rfl (by decide) ⟨_, Try.underlying46⟩ Try.underlying24 (sv (d := .int _ _) rfl) hx1) <|
    ils_cons rfl (iop_move rfl rfl (by decide) (sv (d := .int _ _) rfl)) <|
    ils_cons rfl (iop_fintx rfl rfl (by decide) ⟨_, Try.underlying46⟩ Try.underlying24 (sv (d := .int _ _) rfl) hx2) <|
    ils_cons rfl (iop_assign rfl rfl (by decide) (sv (d := .float _ _) rfl)) <|
    ils_cons rfl (iop_assign rfl rfl (by decide) (sv (d := .float _ _) rfl)) <|
    ils_end ?_)
  obtain ⟨x3, hx3, h⟩ := bno_e h
  refine iwp_reg (ils_cons rfl (iop_move rfl rfl (by decide) (sv (d := .float _ _) rfl)) <|
    ils_cons rfl (iop_move rfl rfl (by decide) (sv (d := .float _ _) rfl)) <|
    ils_cons rfl (iop_call (r := .float _ _) rfl rfl (by decide) cl16 (.cons (sv (d := .float _ _) rfl) (.cons (sv (d := .float _ _) rfl) .nil)) rfl (p_gauge_Smooth _ _ _ hx3)) <|
    ils_cons rfl (iop_assign rfl rfl (by decide) (sv (d := .float _ _) rfl)) <|
    ils_end ?_)
  obtain ⟨x4, hx4, h⟩ := bno_e h
  obtain ⟨x5, hx5, h⟩ := bno_e h
  refine iwp_reg (ils_cons rfl (iop_move rfl rfl (by decide) (sv (d := .float _ _) rfl)) <|
    ils_cons rfl (iop_move rfl rfl (by decide) (sv (d := .float _ _) rfl)) <|
    ils_cons rfl (iop_fmin rfl rfl (by decide) (sv (d := .float _ _) rfl) (sv (d := .float _ _) rfl) hx4) <|
    ils_cons rfl (iop_move rfl rfl (by decide) (sv (d := .float _ _) rfl)) <|
    ils_cons rfl (iop_move rfl rfl (by decide) (sv (d := .float _ _) rfl)) <|
    ils_cons rfl (iop_fmax rfl rfl (by decide) (sv (d := .float _ _) rfl) (sv (d := .float _ _) rfl) hx5) <|
    ils_cons rfl (iop_assign rfl rfl (by decide) (sv (d := .float _ _) rfl)) <|
    ils_cons rfl (iop_assign rfl rfl (by decide) (sv (d := .float _ _) rfl)) <|
    ils_end ?_)
  obtain ⟨x6, hx6, h⟩ := bno_e h
  obtain ⟨x7, hx7, h⟩ := bnd_e h
  obtain ⟨x8, hx8, h⟩ := bno_e h
  obtain ⟨x9, hx9, h⟩ := bnd_e h
  obtain ⟨x10, hx10, h⟩ := bnd_e h
  obtain ⟨x11, hx11, h⟩ := bnd_e h
  obtain ⟨x12, hx12, h⟩ := bno_e h
  obtain ⟨x13, hx13, h⟩ := bnd_e h
  obtain ⟨x14, hx14, h⟩ := bnd_e h
  obtain ⟨x15, hx15, h⟩ := bnd_e h
  obtain ⟨x16, hx16, h⟩ := bnd_e h
  obtain ⟨x17, hx17, h⟩ := bnd_e h
  obtain ⟨x18, hx18, h⟩ := bnd_e h
  obtain ⟨x19, hx19, h⟩ := bnd_e h
  obtain ⟨x20, hx20, h⟩ := bno_e h
  obtain ⟨x21, hx21, h⟩ := bnd_e h
  obtain ⟨x22, hx22, h⟩ := bnd_e h
  obtain ⟨x23, hx23, h⟩ := bno_e h
  obtain ⟨x24, hx24, h⟩ := bnd_e h
  refine iwp_reg (ils_cons rfl (iop_move rfl rfl (by decide) (sv (d := .float _ _) rfl)) <|
    ils_cons rfl (iop_move rfl rfl (by decide) (sv (d := .float _ _) rfl)) <|
    ils_cons rfl (iop_call (r := .int _ _) rfl rfl (by decide) cl14 (.cons (sv (d := .float _ _) rfl) (.cons (sv (d := .float _ _) rfl) .nil)) rfl (p_gauge_Compare _ _ _ hx6)) <|
    ils_cons rfl (iop_cmpx rfl rfl (by decide) (sv (d := .int _ _) rfl) (sv (d := .int _ 0) rfl) rfl hx7) <|
    ils_cons rfl (iop_move rfl rfl (by decide) (sv (d := .bool _) rfl)) <|
    ils_guard rfl rfl (.one rfl) rfl (by decide) (fun hb => (iop_move rfl rfl (by decide) (sv (d := .float _ _) rfl))) <|
    ils_guard rfl rfl (.one rfl) rfl (by decide) (fun hb => (iop_move rfl rfl (by decide) (sv (d := .float _ _) rfl))) <|
    ils_guard rfl rfl (.one rfl) rfl (by decide) (fun hb => (iop_call (r := .int _ _) rfl rfl (by decide) cl14 (.cons (svc (d := .float _ _) rfl hb) (.cons (svc (d := .float _ _) rfl hb) .nil)) rfl (p_gauge_Compare _ _ _ (gd_t hx8 hb)))) <|
    ils_guard rfl rfl (.one rfl) rfl (by decide) (fun hb => (iop_cmpx rfl rfl (by decide) (svc (d := .int _ _) rfl hb) (sv (d := .int _ 0) rfl) rfl hx9)) <|
    ils_cons rfl (iop_andx rfl rfl (by decide) (sv (d := .bool _) rfl) rfl rfl hx10) <|
    ils_cons rfl (iop_move rfl rfl (by decide) (sv (d := .bool _) rfl)) <|
    ils_guard rfl rfl (.one rfl) rfl (by decide) (fun hb => (iop_move rfl rfl (by decide) (sv (d := .int _ _) rfl))) <|
    ils_guard rfl rfl (.one rfl) rfl (by decide) (fun hb => (iop_move rfl rfl (by decide) (sv (d := .int _ _) rfl))) <|
    ils_guard rfl rfl (.one rfl) rfl (by decide) (fun hb => (iop_cmpx rfl rfl (by decide) (svc (d := .int _ _) rfl hb) (svc (d := .int _ _) rfl hb) rfl hx11)) <|
    ils_guard rfl rfl (.one rfl) rfl (by decide) (fun hb => (iop_move rfl rfl (by decide) (svc (d := .bool _) rfl hb))) <|
    ils_guard rfl rfl (.two rfl) rfl (by decide) (fun hb => (iop_move rfl rfl (by decide) (sv (d := .float _ _) rfl))) <|
    ils_guard rfl rfl (.two rfl) rfl (by decide) (fun hb => (iop_move rfl rfl (by decide) (sv (d := .float _ _) rfl))) <|
    ils_guard rfl rfl (.two rfl) rfl (by decide) (fun hb => (iop_call (r := .bool _) rfl rfl (by decide) cl13 (.cons (svc (d := .float _ _) rfl hb) (.cons (svc (d := .float _ _) rfl hb) .nil)) rfl (p_gauge_Same _ _ _ (gd_t hx12 hb)))) <|
    ils_guard rfl rfl (.one rfl) rfl (by decide) (fun hb => (iop_or2x rfl rfl (by decide) hb (svc (d := .bool _) rfl hb) rfl rfl hx13)) <|
    ils_cons rfl (iop_andx rfl rfl (by decide) (sv (d := .bool _) rfl) rfl rfl hx14) <|
    ils_cons rfl (iop_move rfl rfl (by decide) (sv (d := .bool _) rfl)) <|
    ils_guard rfl rfl (.one rfl) rfl (by decide) (fun hb => (iop_move rfl rfl (by decide) (sv (d := .float _ _) rfl))) <|
    ils_guard rfl rfl (.one rfl) rfl (by decide) (fun hb => (iop_move rfl rfl (by decide) (sv (d := .float _ _) rfl))) <|
    ils_guard rfl rfl (.one rfl) rfl (by decide) (fun hb => (iop_farx rfl rfl (by decide) (svc (d := .float _ _) rfl hb) (svc (d := .float _ _) rfl hb) rfl hx15)) <|
    ils_guard rfl rfl (.one rfl) rfl (by decide) (fun hb => (iop_farx rfl rfl (by decide) (sv (d := .float _ _) rfl) (svc (d := .float _ _) rfl hb) rfl hx16)) <|
    ils_guard rfl rfl (.one rfl) rfl (by decide) (fun hb => (iop_move rfl rfl (by decide) (sv (d := .float _ _) rfl))) <|
    ils_guard rfl rfl (.one rfl) rfl (by decide) (fun hb => (iop_move rfl rfl (by decide) (sv (d := .float _ _) rfl))) <|
    ils_guard rfl rfl (.one rfl) rfl (by decide) (fun hb => (iop_farx rfl rfl (by decide) (svc (d := .float _ _) rfl hb) (svc (d := .float _ _) rfl hb) rfl hx17)) <|
    ils_guard rfl rfl (.one rfl) rfl (by decide) (fun hb => (iop_fcmpx rfl rfl (by decide) (svc (d := .float _ _) rfl hb) (svc (d := .float _ _) rfl hb) rfl hx18)) <|
    ils_cons rfl (iop_andx rfl rfl (by decide) (sv (d := .bool _) rfl) rfl rfl hx19) <|
    ils_cons rfl (iop_move rfl rfl (by decide) (sv (d := .bool _) rfl)) <|
    ils_guard rfl rfl (.one rfl) rfl (by decide) (fun hb => (iop_move rfl rfl (by decide) (sv (d := .float _ _) rfl))) <|
    ils_guard rfl rfl (.one rfl) rfl (by decide) (fun hb => (iop_call (r := .int _ _) rfl rfl (by decide) cl9 (.cons (svc (d := .float _ _) rfl hb) .nil) rfl (p_gauge_Kind _ _ (gd_t hx20 hb)))) <|
    ils_guard rfl rfl (.one rfl) rfl (by decide) (fun hb => (iop_cmpx rfl rfl (by decide) (svc (d := .int _ _) rfl hb) (sv (d := .int _ 0) rfl) rfl hx21)) <|
    ils_cons rfl (iop_andx rfl rfl (by decide) (sv (d := .bool _) rfl) rfl rfl hx22) <|
    ils_cons rfl (iop_move rfl rfl (by decide) (sv (d := .bool _) rfl)) <|
    ils_guard rfl rfl (.one rfl) rfl (by decide) (fun hb => (iop_call (r := .bool _) rfl rfl (by decide) cl20 .nil rfl (p_sennitlaw27_awake  _ (gd_t hx23 hb)))) <|
    ils_cons rfl (iop_andx rfl rfl (by decide) (sv (d := .bool _) rfl) rfl rfl hx24) <|
    ils_cons rfl (iop_assign rfl rfl (by decide) (sv (d := .bool _) rfl)) <|
    ils_end ?_)
  refine iwp_ret ?_
  obtain rfl := Option.some.inj h
  refine ⟨.inr rfl, (.cons (sv rfl) .nil)⟩

set_option maxRecDepth 8000 in
set_option maxHeartbeats 2000000 in
theorem p_sennitlaw27_GaugeRates (a0 : Int) (a1 : Int) (r : Bool) (h : sennitlaw27_GaugeRates a0 a1 = some r) : PureAt Try.prog 7 [.int .u16 a0, .int .u16 a1] (.bool r) := by
  refine pure_of_iwp (rs := [.bool r]) Try.func7 rfl Try.ntmps7 (nle rfl) rfl fun O hO => ?_
  show IWP _ _ _ _ ⟨[(0, .int .u16 a0), (1, .int .u16 a1)], []⟩ _
  unfold sennitlaw27_GaugeRates at h
  refine iwp_reg (ils_cons rfl (iop_assign rfl rfl (by decide) (sv (d := .bool false) rfl)) <|
    ils_end ?_)
  obtain ⟨x1, hx1, h⟩ := bnd_e h
  obtain ⟨x2, hx2, h⟩ := bnd_e h
  refine iwp_reg (ils_cons rfl (iop_move rfl rfl (by decide) (sv (d := .int _ _) rfl)) <|
    ils_cons rfl (iop_int_conv rfl rfl (by decide) ⟨_, Try.underlying48⟩ Try.underlying3 (sv (d := .int _ _) rfl) hx1) <|
    ils_cons rfl (iop_move rfl rfl (by decide) (sv (d := .int _ _) rfl)) <|
    ils_cons rfl (iop_int_conv rfl rfl (by decide) ⟨_, Try.underlying48⟩ Try.underlying3 (sv (d := .int _ _) rfl) hx2) <|
    ils_cons rfl (iop_assign rfl rfl (by decide) (sv (d := .int _ _) rfl)) <|
    ils_cons rfl (iop_assign rfl rfl (by decide) (sv (d := .int _ _) rfl)) <|
    ils_end ?_)
  refine iwp_seq ?_
  obtain ⟨x3, hx3, h⟩ := bnd_e h
  obtain ⟨x4, hx4, h⟩ := bnd_e h
  obtain ⟨x5, hx5, h⟩ := bno_e h
  obtain ⟨x6, hx6, h⟩ := bnd_e h
  obtain ⟨x7, hx7, h⟩ := bnd_e h
  obtain ⟨x8, hx8, h⟩ := bnd_e h
  refine iwp_reg (ils_cons rfl (iop_move rfl rfl (by decide) (sv (d := .int _ _) rfl)) <|
    ils_cons rfl (iop_cmpx rfl rfl (by decide) (sv (d := .int _ _) rfl) (sv (d := .int _ 0) rfl) rfl hx3) <|
    ils_cons rfl (iop_move rfl rfl (by decide) (sv (d := .bool _) rfl)) <|
    ils_guard rfl rfl (.one rfl) rfl (by decide) (fun hb => (iop_move rfl rfl (by decide) (sv (d := .int _ _) rfl))) <|
    ils_guard rfl rfl (.one rfl) rfl (by decide) (fun hb => (iop_move rfl rfl (by decide) (sv (d := .int _ _) rfl))) <|
    ils_guard rfl rfl (.one rfl) rfl (by decide) (fun hb => (iop_intx rfl rfl (by decide) (svc (d := .int _ _) rfl hb) (svc (d := .int _ _) rfl hb) rfl hx4)) <|
    ils_guard rfl rfl (.one rfl) rfl (by decide) (fun hb => (iop_move rfl rfl (by decide) (sv (d := .int _ _) rfl))) <|
    ils_guard rfl rfl (.one rfl) rfl (by decide) (fun hb => (iop_call (r := .float _ _) rfl rfl (by decide) cl18 (.cons (svc (d := .int _ _) rfl hb) (.cons (svc (d := .int _ _) rfl hb) .nil)) rfl (p_gauge_Rate _ _ _ (gd_t hx5 hb)))) <|
    ils_guard rfl rfl (.one rfl) rfl (by decide) (fun hb => (iop_move rfl rfl (by decide) (sv (d := .int _ _) rfl))) <|
    ils_guard rfl rfl (.one rfl) rfl (by decide) (fun hb => (iop_fintx rfl rfl (by decide) ⟨_, Try.underlying3⟩ Try.underlying24 (svc (d := .int _ _) rfl hb) hx6)) <|
    ils_guard rfl rfl (.one rfl) rfl (by decide) (fun hb => (iop_fcmpx rfl rfl (by decide) (svc (d := .float _ _) rfl hb) (svc (d := .float _ _) rfl hb) rfl hx7)) <|
    ils_cons rfl (iop_andx rfl rfl (by decide) (sv (d := .bool _) rfl) rfl rfl hx8) <|
    ils_end ?_)
  refine iwp_cond (b := _) rfl (fun hc9 => ?_) (fun hc9 => ?_)
  ·
    replace h := bif_t h hc9
    refine iwp_reg (ils_cons rfl (iop_assign rfl rfl (by decide) (sv (d := .bool false) rfl)) <|
      ils_end ?_)
    refine iwp_ret ?_
    refine thenQ_r ?_
    obtain rfl := Option.some.inj h
    refine ⟨.inr rfl, (.cons (sv rfl) .nil)⟩
  ·
    replace h := bif_f h hc9
    refine iwp_skip ?_
    refine thenQ_n ?_
    obtain ⟨x10, hx10, h⟩ := bno_e h
    obtain ⟨x11, hx11, h⟩ := bno_e h
    refine iwp_reg (ils_cons rfl (iop_move rfl rfl (by decide) (sv (d := .int _ _) rfl)) <|
      ils_cons rfl (iop_call (r := .float _ _) rfl rfl (by decide) cl18 (.cons (sv (d := .int _ _) rfl) (.cons (sv (d := .int _ 0) rfl) .nil)) rfl (p_gauge_Rate _ _ _ hx10)) <|
      ils_cons rfl (iop_call (r := .int _ _) rfl rfl (by decide) cl9 (.cons (sv (d := .float _ _) rfl) .nil) rfl (p_gauge_Kind _ _ hx11)) <|
      ils_cons rfl (iop_assign rfl rfl (by decide) (sv (d := .int _ _) rfl)) <|
      ils_end ?_)
    obtain ⟨x12, hx12, h⟩ := bnd_e h
    obtain ⟨x13, hx13, h⟩ := bno_e h
    obtain ⟨x14, hx14, h⟩ := bno_e h
    refine iwp_reg (ils_cons rfl (iop_move rfl rfl (by decide) (sv (d := .int _ _) rfl)) <|
      ils_cons rfl (iop_neg rfl rfl (by decide) (sv (d := .int _ _) rfl) hx12) <|
      ils_cons rfl (iop_call (r := .float _ _) rfl rfl (by decide) cl18 (.cons (sv (d := .int _ _) rfl) (.cons (sv (d := .int _ 0) rfl) .nil)) rfl (p_gauge_Rate _ _ _ hx13)) <|
      ils_cons rfl (iop_call (r := .int _ _) rfl rfl (by decide) cl9 (.cons (sv (d := .float _ _) rfl) .nil) rfl (p_gauge_Kind _ _ hx14)) <|
      ils_cons rfl (iop_assign rfl rfl (by decide) (sv (d := .int _ _) rfl)) <|
      ils_end ?_)
    obtain ⟨x15, hx15, h⟩ := bnd_e h
    obtain ⟨x16, hx16, h⟩ := bnd_e h
    obtain ⟨x17, hx17, h⟩ := bnd_e h
    obtain ⟨x18, hx18, h⟩ := bnd_e h
    obtain ⟨x19, hx19, h⟩ := bnd_e h
    obtain ⟨x20, hx20, h⟩ := bnd_e h
    obtain ⟨x21, hx21, h⟩ := bnd_e h
    obtain ⟨x22, hx22, h⟩ := bnd_e h
    obtain ⟨x23, hx23, h⟩ := bnd_e h
    obtain ⟨x24, hx24, h⟩ := bnd_e h
    obtain ⟨x25, hx25, h⟩ := bnd_e h
    obtain ⟨x26, hx26, h⟩ := bnd_e h
    obtain ⟨x27, hx27, h⟩ := bnd_e h
    obtain ⟨x28, hx28, h⟩ := bno_e h
    obtain ⟨x29, hx29, h⟩ := bno_e h
    obtain ⟨x30, hx30, h⟩ := bno_e h
    obtain ⟨x31, hx31, h⟩ := bnd_e h
    obtain ⟨x32, hx32, h⟩ := bnd_e h
    obtain ⟨x33, hx33, h⟩ := bnd_e h
    obtain ⟨x34, hx34, h⟩ := bno_e h
    obtain ⟨x35, hx35, h⟩ := bnd_e h
    obtain ⟨x36, hx36, h⟩ := bno_e h
    obtain ⟨x37, hx37, h⟩ := bno_e h
    obtain ⟨x38, hx38, h⟩ := bnd_e h
    obtain ⟨x39, hx39, h⟩ := bnd_e h
    obtain ⟨x40, hx40, h⟩ := bno_e h
    obtain ⟨x41, hx41, h⟩ := bnd_e h
    refine iwp_reg (ils_cons rfl (iop_move rfl rfl (by decide) (sv (d := .int _ _) rfl)) <|
      ils_cons rfl (iop_cmpx rfl rfl (by decide) (sv (d := .int _ _) rfl) (sv (d := .int _ 0) rfl) rfl hx15) <|
      ils_cons rfl (iop_move rfl rfl (by decide) (sv (d := .int _ _) rfl)) <|
      ils_cons rfl (iop_cmpx rfl rfl (by decide) (sv (d := .int _ _) rfl) (sv (d := .int _ 0) rfl) rfl hx16) <|
      ils_cons rfl (iop_eqbx rfl rfl (by decide) Try.underlying4 (sv (d := .bool _) rfl) (sv (d := .bool _) rfl) hx17) <|
      ils_cons rfl (iop_move rfl rfl (by decide) (sv (d := .bool _) rfl)) <|
      ils_guard rfl rfl (.one rfl) rfl (by decide) (fun hb => (iop_move rfl rfl (by decide) (sv (d := .int _ _) rfl))) <|
      ils_guard rfl rfl (.one rfl) rfl (by decide) (fun hb => (iop_cmpx rfl rfl (by decide) (svc (d := .int _ _) rfl hb) (sv (d := .int _ 0) rfl) rfl hx18)) <|
      ils_guard rfl rfl (.one rfl) rfl (by decide) (fun hb => (iop_move rfl rfl (by decide) (sv (d := .int _ _) rfl))) <|
      ils_guard rfl rfl (.one rfl) rfl (by decide) (fun hb => (iop_cmpx rfl rfl (by decide) (svc (d := .int _ _) rfl hb) (sv (d := .int _ 6) rfl) rfl hx19)) <|
      ils_guard rfl rfl (.one rfl) rfl (by decide) (fun hb => (iop_eqbx rfl rfl (by decide) Try.underlying4 (svc (d := .bool _) rfl hb) (svc (d := .bool _) rfl hb) hx20)) <|
      ils_cons rfl (iop_andx rfl rfl (by decide) (sv (d := .bool _) rfl) rfl rfl hx21) <|
      ils_cons rfl (iop_move rfl rfl (by decide) (sv (d := .bool _) rfl)) <|
      ils_guard rfl rfl (.one rfl) rfl (by decide) (fun hb => (iop_move rfl rfl (by decide) (sv (d := .int _ _) rfl))) <|
      ils_guard rfl rfl (.one rfl) rfl (by decide) (fun hb => (iop_cmpx rfl rfl (by decide) (svc (d := .int _ _) rfl hb) (sv (d := .int _ 0) rfl) rfl hx22)) <|
      ils_guard rfl rfl (.one rfl) rfl (by decide) (fun hb => (iop_move rfl rfl (by decide) (sv (d := .int _ _) rfl))) <|
      ils_guard rfl rfl (.one rfl) rfl (by decide) (fun hb => (iop_cmpx rfl rfl (by decide) (svc (d := .int _ _) rfl hb) (sv (d := .int _ 1) rfl) rfl hx23)) <|
      ils_guard rfl rfl (.one rfl) rfl (by decide) (fun hb => (iop_eqbx rfl rfl (by decide) Try.underlying4 (svc (d := .bool _) rfl hb) (svc (d := .bool _) rfl hb) hx24)) <|
      ils_cons rfl (iop_andx rfl rfl (by decide) (sv (d := .bool _) rfl) rfl rfl hx25) <|
      ils_cons rfl (iop_move rfl rfl (by decide) (sv (d := .bool _) rfl)) <|
      ils_guard rfl rfl (.one rfl) rfl (by decide) (fun hb => (iop_move rfl rfl (by decide) (sv (d := .int _ _) rfl))) <|
      ils_guard rfl rfl (.one rfl) rfl (by decide) (fun hb => (iop_intx rfl rfl (by decide) (sv (d := .int _ 2) rfl) (svc (d := .int _ _) rfl hb) rfl hx26)) <|
      ils_guard rfl rfl (.one rfl) rfl (by decide) (fun hb => (iop_move rfl rfl (by decide) (sv (d := .int _ _) rfl))) <|
      ils_guard rfl rfl (.one rfl) rfl (by decide) (fun hb => (iop_intx rfl rfl (by decide) (sv (d := .int _ 2) rfl) (svc (d := .int _ _) rfl hb) rfl hx27)) <|
      ils_guard rfl rfl (.one rfl) rfl (by decide) (fun hb => (iop_call (r := .float _ _) rfl rfl (by decide) cl18 (.cons (svc (d := .int _ _) rfl hb) (.cons (svc (d := .int _ _) rfl hb) .nil)) rfl (p_gauge_Rate _ _ _ (gd_t hx28 hb)))) <|
      ils_guard rfl rfl (.one rfl) rfl (by decide) (fun hb => (iop_move rfl rfl (by decide) (sv (d := .int _ _) rfl))) <|
      ils_guard rfl rfl (.one rfl) rfl (by decide) (fun hb => (iop_move rfl rfl (by decide) (sv (d := .int _ _) rfl))) <|
      ils_guard rfl rfl (.one rfl) rfl (by decide) (fun hb => (iop_call (r := .float _ _) rfl rfl (by decide) cl18 (.cons (svc (d := .int _ _) rfl hb) (.cons (svc (d := .int _ _) rfl hb) .nil)) rfl (p_gauge_Rate _ _ _ (gd_t hx29 hb)))) <|
      ils_guard rfl rfl (.one rfl) rfl (by decide) (fun hb => (iop_call (r := .bool _) rfl rfl (by decide) cl13 (.cons (svc (d := .float _ _) rfl hb) (.cons (svc (d := .float _ _) rfl hb) .nil)) rfl (p_gauge_Same _ _ _ (gd_t hx30 hb)))) <|
      ils_cons rfl (iop_andx rfl rfl (by decide) (sv (d := .bool _) rfl) rfl rfl hx31) <|
      ils_cons rfl (iop_move rfl rfl (by decide) (sv (d := .bool _) rfl)) <|
      ils_guard rfl rfl (.one rfl) rfl (by decide) (fun hb => (iop_move rfl rfl (by decide) (sv (d := .int _ _) rfl))) <|
      ils_guard rfl rfl (.one rfl) rfl (by decide) (fun hb => (iop_intx rfl rfl (by decide) (svc (d := .int _ _) rfl hb) (sv (d := .int _ 1) rfl) rfl hx32)) <|
      ils_guard rfl rfl (.one rfl) rfl (by decide) (fun hb => (iop_move rfl rfl (by decide) (sv (d := .int _ _) rfl))) <|
      ils_guard rfl rfl (.one rfl) rfl (by decide) (fun hb => (iop_intx rfl rfl (by decide) (svc (d := .int _ _) rfl hb) (sv (d := .int _ 1) rfl) rfl hx33)) <|
      ils_guard rfl rfl (.one rfl) rfl (by decide) (fun hb => (iop_call (r := .float _ _) rfl rfl (by decide) cl18 (.cons (svc (d := .int _ _) rfl hb) (.cons (svc (d := .int _ _) rfl hb) .nil)) rfl (p_gauge_Rate _ _ _ (gd_t hx34 hb)))) <|
      ils_guard rfl rfl (.one rfl) rfl (by decide) (fun hb => (iop_move rfl rfl (by decide) (sv (d := .int _ _) rfl))) <|
      ils_guard rfl rfl (.one rfl) rfl (by decide) (fun hb => (iop_move rfl rfl (by decide) (sv (d := .int _ _) rfl))) <|
      ils_guard rfl rfl (.one rfl) rfl (by decide) (fun hb => (iop_intx rfl rfl (by decide) (svc (d := .int _ _) rfl hb) (sv (d := .int _ 1) rfl) rfl hx35)) <|
      ils_guard rfl rfl (.one rfl) rfl (by decide) (fun hb => (iop_call (r := .float _ _) rfl rfl (by decide) cl18 (.cons (svc (d := .int _ _) rfl hb) (.cons (svc (d := .int _ _) rfl hb) .nil)) rfl (p_gauge_Rate _ _ _ (gd_t hx36 hb)))) <|
      ils_guard rfl rfl (.one rfl) rfl (by decide) (fun hb => (iop_call (r := .int _ _) rfl rfl (by decide) cl14 (.cons (svc (d := .float _ _) rfl hb) (.cons (svc (d := .float _ _) rfl hb) .nil)) rfl (p_gauge_Compare _ _ _ (gd_t hx37 hb)))) <|
      ils_guard rfl rfl (.one rfl) rfl (by decide) (fun hb => (iop_cmpx rfl rfl (by decide) (svc (d := .int _ _) rfl hb) (sv (d := .int _ 1) rfl) rfl hx38)) <|
      ils_cons rfl (iop_andx rfl rfl (by decide) (sv (d := .bool _) rfl) rfl rfl hx39) <|
      ils_cons rfl (iop_move rfl rfl (by decide) (sv (d := .bool _) rfl)) <|
      ils_guard rfl rfl (.one rfl) rfl (by decide) (fun hb => (iop_call (r := .bool _) rfl rfl (by decide) cl20 .nil rfl (p_sennitlaw27_awake  _ (gd_t hx40 hb)))) <|
      ils_cons rfl (iop_andx rfl rfl (by decide) (sv (d := .bool _) rfl) rfl rfl hx41) <|
      ils_cons rfl (iop_assign rfl rfl (by decide) (sv (d := .bool _) rfl)) <|
      ils_end ?_)
    refine iwp_ret ?_
    obtain rfl := Option.some.inj h
    refine ⟨.inr rfl, (.cons (sv rfl) .nil)⟩

set_option maxRecDepth 8000 in
set_option maxHeartbeats 2000000 in
theorem p_sennitlaw27_GaugeOrder (a0 : T_anon43) (a1 : (List Int)) (r : Bool) (h : sennitlaw27_GaugeOrder a0 a1 = some r) : PureAt Try.prog 5 [.agg [.int .u64 a0.c0, .int .u64 a0.c1, .int .u64 a0.c2], .slice false (a1.map (eInt .u64).d)] (.bool r) := by
  refine pure_of_iwp (rs := [.bool r]) Try.func5 rfl Try.ntmps5 (nle rfl) rfl fun O hO => ?_
  show IWP _ _ _ _ ⟨[(0, .agg [.int .u64 a0.c0, .int .u64 a0.c1, .int .u64 a0.c2]), (1, .slice false (a1.map (eInt .u64).d))], []⟩ _
  unfold sennitlaw27_GaugeOrder at h
  refine iwp_reg (ils_cons rfl (iop_box' (cs := [.int _ _, .int _ _, .int _ _]) 0 rfl rfl (by decide) rfl (sv (d := .agg [.int _ _, .int _ _, .int _ _]) rfl) rfl rfl) <|
    ils_cons rfl (iop_assign rfl rfl (by decide) (sv (d := .bool false) rfl)) <|
    ils_end ?_)
  refine iwp_seq ?_
  obtain ⟨x1, hx1, h⟩ := bnd_e h
  refine iwp_reg (ils_cons rfl (iop_move rfl rfl (by decide) (sv (d := .slice _ _) rfl)) <|
    ils_cons rfl (iop_lenT (eInt .u64) (l := a1) rfl rfl (by decide) Try.underlying34 (sv (d := .slice _ _) rfl)) <|
    ils_cons rfl (iop_cmpx rfl rfl (by decide) (sv (d := .int _ _) rfl) (sv (d := .int _ 60) rfl) rfl hx1) <|
    ils_end ?_)
  refine iwp_cond (b := _) rfl (fun hc2 => ?_) (fun hc2 => ?_)
  ·
    replace h := bif_t h hc2
    obtain ⟨x3, hx3, h⟩ := bno_e h
    refine iwp_reg (ils_cons rfl (iop_call (r := .bool _) rfl rfl (by decide) cl20 .nil rfl (p_sennitlaw27_awake  _ hx3)) <|
      ils_cons rfl (iop_assign rfl rfl (by decide) (sv (d := .bool _) rfl)) <|
      ils_end ?_)
    refine iwp_ret ?_
    refine thenQ_r ?_
    obtain rfl := Option.some.inj h
    refine ⟨.inr rfl, (.cons (sv rfl) .nil)⟩
  ·
    replace h := bif_f h hc2
    refine iwp_skip ?_
    refine thenQ_n ?_
    obtain ⟨x4, hx4, h⟩ := bno_e h
    obtain ⟨x5, hx5, h⟩ := bno_e h
    obtain ⟨x6, hx6, h⟩ := bno_e h
    refine iwp_drw rfl [⟨[2], [], [(17, .ref 0 0)], []⟩,
      ⟨[17], [0], [(18, .int .u64 a0.c0)], []⟩,
      ⟨[18], [], [(19, .float .f64 x4)], []⟩,
      ⟨[2], [], [(20, .ref 0 1)], []⟩,
      ⟨[20], [0], [(21, .int .u64 a0.c1)], []⟩,
      ⟨[21], [], [(22, .float .f64 x5)], []⟩,
      ⟨[2], [], [(23, .ref 0 2)], []⟩,
      ⟨[23], [0], [(24, .int .u64 a0.c2)], []⟩,
      ⟨[24], [], [(25, .float .f64 x6)], []⟩,
      ⟨[19], [], [(5, .float .f64 x4)], []⟩,
      ⟨[22], [], [(6, .float .f64 x5)], []⟩,
      ⟨[25], [], [(7, .float .f64 x6)], []⟩] rfl ?_ (by kernel_rfl) ?_
    · refine .cons (lop rfl rfl fun S hA => (iop_index_ref rfl rfl (by decide) Try.underlying43 ti22 (sv (d := .ref _ _) (agr hA rfl rfl)) (sv (d := .int _ 0) rfl) (by decide) (by decide) (off' := 0) rfl)) ?_
      refine .cons (lop rfl rfl fun S hA => (iop_load_rs (d := .int _ _) rfl rfl (by decide) Try.underlying22 ag22 ti22 (by decide) (sv (d := .ref _ _) (agr hA rfl rfl)) (agi hA rfl rfl) (nle rfl) rfl)) ?_
      refine .cons (lop rfl rfl fun S hA => (iop_call (r := .float _ _) rfl rfl (by decide) cl8 (.cons (sv (d := .int _ _) (agr hA rfl rfl)) .nil) rfl (p_sennitref27_Of _ _ hx4))) ?_
      refine .cons (lop rfl rfl fun S hA => (iop_index_ref rfl rfl (by decide) Try.underlying43 ti22 (sv (d := .ref _ _) (agr hA rfl rfl)) (sv (d := .int _ 1) rfl) (by decide) (by decide) (off' := 1) rfl)) ?_
      refine .cons (lop rfl rfl fun S hA => (iop_load_rs (d := .int _ _) rfl rfl (by decide) Try.underlying22 ag22 ti22 (by decide) (sv (d := .ref _ _) (agr hA rfl rfl)) (agi hA rfl rfl) (nle rfl) rfl)) ?_
      refine .cons (lop rfl rfl fun S hA => (iop_call (r := .float _ _) rfl rfl (by decide) cl8 (.cons (sv (d := .int _ _) (agr hA rfl rfl)) .nil) rfl (p_sennitref27_Of _ _ hx5))) ?_
      refine .cons (lop rfl rfl fun S hA => (iop_index_ref rfl rfl (by decide) Try.underlying43 ti22 (sv (d := .ref _ _) (agr hA rfl rfl)) (sv (d := .int _ 2) rfl) (by decide) (by decide) (off' := 2) rfl)) ?_
      refine .cons (lop rfl rfl fun S hA => (iop_load_rs (d := .int _ _) rfl rfl (by decide) Try.underlying22 ag22 ti22 (by decide) (sv (d := .ref _ _) (agr hA rfl rfl)) (agi hA rfl rfl) (nle rfl) rfl)) ?_
      refine .cons (lop rfl rfl fun S hA => (iop_call (r := .float _ _) rfl rfl (by decide) cl8 (.cons (sv (d := .int _ _) (agr hA rfl rfl)) .nil) rfl (p_sennitref27_Of _ _ hx6))) ?_
      refine .cons (lop rfl rfl fun S hA => (iop_assign rfl rfl (by decide) (sv (d := .float _ _) (agr hA rfl rfl)))) ?_
      refine .cons (lop rfl rfl fun S hA => (iop_assign rfl rfl (by decide) (sv (d := .float _ _) (agr hA rfl rfl)))) ?_
      refine .cons (lop rfl rfl fun S hA => (iop_assign rfl rfl (by decide) (sv (d := .float _ _) (agr hA rfl rfl)))) ?_
      exact .nil
    refine iwp_seq ?_
    obtain ⟨x7, hx7, h⟩ := bno_e h
    obtain ⟨x8, hx8, h⟩ := bno_e h
    obtain ⟨x9, hx9, h⟩ := bnd_e h
    obtain ⟨x10, hx10, h⟩ := bnd_e h
    obtain ⟨x11, hx11, h⟩ := bno_e h
    obtain ⟨x12, hx12, h⟩ := bnd_e h
    obtain ⟨x13, hx13, h⟩ := bno_e h
    obtain ⟨x14, hx14, h⟩ := bnd_e h
    obtain ⟨x15, hx15, h⟩ := bnd_e h
    obtain ⟨x16, hx16, h⟩ := bno_e h
    obtain ⟨x17, hx17, h⟩ := bnd_e h
    obtain ⟨x18, hx18, h⟩ := bnd_e h
    obtain ⟨x19, hx19, h⟩ := bnd_e h
    refine iwp_reg (ils_cons rfl (iop_move rfl rfl (by decide) (sv (d := .float _ _) rfl)) <|
      ils_cons rfl (iop_move rfl rfl (by decide) (sv (d := .float _ _) rfl)) <|
      ils_cons rfl (iop_call (r := .int _ _) rfl rfl (by decide) cl14 (.cons (sv (d := .float _ _) rfl) (.cons (sv (d := .float _ _) rfl) .nil)) rfl (p_gauge_Compare _ _ _ hx7)) <|
      ils_cons rfl (iop_move rfl rfl (by decide) (sv (d := .float _ _) rfl)) <|
      ils_cons rfl (iop_move rfl rfl (by decide) (sv (d := .float _ _) rfl)) <|
      ils_cons rfl (iop_call (r := .int _ _) rfl rfl (by decide) cl14 (.cons (sv (d := .float _ _) rfl) (.cons (sv (d := .float _ _) rfl) .nil)) rfl (p_gauge_Compare _ _ _ hx8)) <|
      ils_cons rfl (iop_neg rfl rfl (by decide) (sv (d := .int _ _) rfl) hx9) <|
      ils_cons rfl (iop_cmpx rfl rfl (by decide) (sv (d := .int _ _) rfl) (sv (d := .int _ _) rfl) rfl hx10) <|
      ils_cons rfl (iop_move rfl rfl (by decide) (sv (d := .bool _) rfl)) <|
      ils_guard rfl rfl (.one rfl) rfl (by decide) (fun hb => (iop_move rfl rfl (by decide) (sv (d := .float _ _) rfl))) <|
      ils_guard rfl rfl (.one rfl) rfl (by decide) (fun hb => (iop_move rfl rfl (by decide) (sv (d := .float _ _) rfl))) <|
      ils_guard rfl rfl (.one rfl) rfl (by decide) (fun hb => (iop_call (r := .int _ _) rfl rfl (by decide) cl14 (.cons (svc (d := .float _ _) rfl hb) (.cons (svc (d := .float _ _) rfl hb) .nil)) rfl (p_gauge_Compare _ _ _ (gd_t hx11 hb)))) <|
      ils_guard rfl rfl (.one rfl) rfl (by decide) (fun hb => (iop_cmpx rfl rfl (by decide) (svc (d := .int _ _) rfl hb) (sv (d := .int _ 0) rfl) rfl hx12)) <|
      ils_guard rfl rfl (.one rfl) rfl (by decide) (fun hb => (iop_move rfl rfl (by decide) (svc (d := .bool _) rfl hb))) <|
      ils_guard rfl rfl (.two rfl) rfl (by decide) (fun hb => (iop_move rfl rfl (by decide) (sv (d := .float _ _) rfl))) <|
      ils_guard rfl rfl (.two rfl) rfl (by decide) (fun hb => (iop_move rfl rfl (by decide) (sv (d := .float _ _) rfl))) <|
      ils_guard rfl rfl (.two rfl) rfl (by decide) (fun hb => (iop_call (r := .int _ _) rfl rfl (by decide) cl14 (.cons (svc (d := .float _ _) rfl hb) (.cons (svc (d := .float _ _) rfl hb) .nil)) rfl (p_gauge_Compare _ _ _ (gd_t hx13 hb)))) <|
      ils_guard rfl rfl (.two rfl) rfl (by decide) (fun hb => (iop_cmpx rfl rfl (by decide) (svc (d := .int _ _) rfl hb) (sv (d := .int _ 0) rfl) rfl hx14)) <|
      ils_guard rfl rfl (.one rfl) rfl (by decide) (fun hb => (iop_and2x rfl rfl (by decide) hb (svc (d := .bool _) rfl hb) rfl rfl hx15)) <|
      ils_guard rfl rfl (.one rfl) rfl (by decide) (fun hb => (iop_move rfl rfl (by decide) (svc (d := .bool _) rfl hb))) <|
      ils_guard rfl rfl (.two rfl) rfl (by decide) (fun hb => (iop_move rfl rfl (by decide) (sv (d := .float _ _) rfl))) <|
      ils_guard rfl rfl (.two rfl) rfl (by decide) (fun hb => (iop_move rfl rfl (by decide) (sv (d := .float _ _) rfl))) <|
      ils_guard rfl rfl (.two rfl) rfl (by decide) (fun hb => (iop_call (r := .int _ _) rfl rfl (by decide) cl14 (.cons (svc (d := .float _ _) rfl hb) (.cons (svc (d := .float _ _) rfl hb) .nil)) rfl (p_gauge_Compare _ _ _ (gd_t hx16 hb)))) <|
      ils_guard rfl rfl (.two rfl) rfl (by decide) (fun hb => (iop_cmpx rfl rfl (by decide) (svc (d := .int _ _) rfl hb) (sv (d := .int _ 0) rfl) rfl hx17)) <|
      ils_guard rfl rfl (.one rfl) rfl (by decide) (fun hb => (iop_and2x rfl rfl (by decide) hb (svc (d := .bool _) rfl hb) rfl rfl hx18)) <|
      ils_cons rfl (iop_orx rfl rfl (by decide) (sv (d := .bool _) rfl) rfl rfl hx19) <|
      ils_end ?_)
    refine iwp_cond (b := _) rfl (fun hc20 => ?_) (fun hc20 => ?_)
    ·
      replace h := bif_t h hc20
      refine iwp_reg (ils_cons rfl (iop_assign rfl rfl (by decide) (sv (d := .bool false) rfl)) <|
        ils_end ?_)
      refine iwp_ret ?_
      refine thenQ_r ?_
      obtain rfl := Option.some.inj h
      refine ⟨.inr rfl, (.cons (sv rfl) .nil)⟩
    ·
      replace h := bif_f h hc20
      refine iwp_skip ?_
      refine thenQ_n ?_
      obtain ⟨x21, hx21, h⟩ := bno_e h
      refine iwp_reg (ils_cons rfl (iop_move rfl rfl (by decide) (sv (d := .slice _ _) rfl)) <|
        ils_cons rfl (iop_call (r := .slice _ _) rfl rfl (by decide) cl21 (.cons (sv (d := .slice _ _) rfl) .nil) rfl (p_sennitlaw27_of _ _ hx21)) <|
        ils_cons rfl (iop_assign rfl rfl (by decide) (sv (d := .slice _ _) rfl)) <|
        ils_end ?_)
      obtain ⟨x22, hx22, h⟩ := bno_e h
      refine iwp_reg (ils_cons rfl (iop_move rfl rfl (by decide) (sv (d := .slice _ _) rfl)) <|
        ils_cons rfl (iop_call (r := .slice _ _) rfl rfl (by decide) cl25 (.cons (sv (d := .slice _ _) rfl) .nil) rfl (p_gauge_Order _ _ hx22)) <|
        ils_cons rfl (iop_assign rfl rfl (by decide) (sv (d := .slice _ _) rfl)) <|
        ils_end ?_)
      refine iwp_seq ?_
      obtain ⟨x23, hx23, h⟩ := bnd_e h
      refine iwp_reg (ils_cons rfl (iop_move rfl rfl (by decide) (sv (d := .slice _ _) rfl)) <|
        ils_cons rfl (iop_lenT (eInt .i64) (l := x22) rfl rfl (by decide) Try.underlying39 (sv (d := .slice _ _) rfl)) <|
        ils_cons rfl (iop_move rfl rfl (by decide) (sv (d := .slice _ _) rfl)) <|
        ils_cons rfl (iop_lenT (eFlt .f64) (l := x21) rfl rfl (by decide) Try.underlying35 (sv (d := .slice _ _) rfl)) <|
        ils_cons rfl (iop_cmpx rfl rfl (by decide) (sv (d := .int _ _) rfl) (sv (d := .int _ _) rfl) rfl hx23) <|
        ils_end ?_)
      refine iwp_cond (b := _) rfl (fun hc24 => ?_) (fun hc24 => ?_)
      ·
        replace h := bif_t h hc24
        refine iwp_reg (ils_cons rfl (iop_assign rfl rfl (by decide) (sv (d := .bool false) rfl)) <|
          ils_end ?_)
        refine iwp_ret ?_
        refine thenQ_r ?_
        obtain rfl := Option.some.inj h
        refine ⟨.inr rfl, (.cons (sv rfl) .nil)⟩
      ·
        replace h := bif_f h hc24
        refine iwp_skip ?_
        refine thenQ_n ?_
        obtain ⟨x25, hx25, h⟩ := bnd_e h
        refine iwp_reg (ils_cons rfl (iop_eqE hx25 (iop_alloc_A eBool.toEnc0 (n := 60) (a := false) 1 rfl rfl (by decide) rfl ti44 rfl rfl)) <|
          ils_end ?_)
        refine iwp_seq ?_
        refine iwp_reg (ils_cons rfl (iop_assign rfl rfl (by decide) (sv (d := .int _ 0) rfl)) <|
          ils_end ?_)
        refine iwp_block ?_
        refine iwp_loopP (α := Nat × Int × (List Bool)) (fun z => ⟨[(8, .slice false (x21.map (eFlt .f64).d)), (9, .slice false (x22.map (eInt .i64).d)), (10, .ref 1 0), (11, .int .i64 z.2.1)], [(1, .blk 44 (D.flat (z.2.2.map eBool.d)))]⟩) (fun z => sennitlaw27_GaugeOrder_L0 x21 x22 z.1 z.2.1 z.2.2 = some r) (fun z => z.1) (fuel, 0, x25) (fun i => i) ⟨(.cons (.same rfl rfl) (.cons (.same rfl rfl) (.cons (.same rfl rfl) (.cons (.same rfl rfl) .nil)))), (.cons (EntW.lst rfl) .nil), nd_of [1] rfl (by decide), (fun i hi => by first | rfl | (show (if _ then _ else _) = _; (repeat' split) <;> omega))⟩ ?_ ?_
        · exact h
        ·
          rintro ⟨n0, v66, v67⟩ h
          cases n0 with
          | zero => exact absurd h (by unfold sennitlaw27_GaugeOrder_L0; exact nofun)
          | succ n0 =>
            unfold sennitlaw27_GaugeOrder_L0 at h
            refine iwp_seq ?_
            obtain ⟨x110, hx110, h⟩ := bnd_e h
            refine iwp_reg (ils_cons rfl (iop_move rfl rfl (by decide) (sv (d := .int _ _) rfl)) <|
              ils_cons rfl (iop_move rfl rfl (by decide) (sv (d := .slice _ _) rfl)) <|
              ils_cons rfl (iop_lenT (eInt .i64) (l := x22) rfl rfl (by decide) Try.underlying39 (sv (d := .slice _ _) rfl)) <|
              ils_cons rfl (iop_cmpx rfl rfl (by decide) (sv (d := .int _ _) rfl) (sv (d := .int _ _) rfl) rfl hx110) <|
              ils_end ?_)
            refine iwp_cond (b := _) rfl (fun hc111 => ?_) (fun hc111 => ?_)
            ·
              replace h := bif_t h hc111
              refine iwp_skip ?_
              refine thenQ_n ?_
              refine iwp_seq ?_
              refine iwp_block ?_
              refine iwp_seq ?_
              obtain ⟨x112, hx112, h⟩ := bno_e h
              obtain ⟨x113, hx113, h⟩ := bnd_e h
              obtain ⟨x114, hx114, h⟩ := bno_e h
              obtain ⟨x115, hx115, h⟩ := bnd_e h
              obtain ⟨x116, hx116, h⟩ := bnd_e h
              obtain ⟨x117, hx117, h⟩ := bno_e h
              obtain ⟨x118, hx118, h⟩ := bno_e h
              obtain ⟨hk119, h⟩ := chk_e h
              obtain ⟨x120, hx120, h⟩ := bno_e h
              obtain ⟨x121, hx121, h⟩ := bnd_e h
              refine iwp_reg (ils_cons rfl (iop_move rfl rfl (by decide) (sv (d := .slice _ _) rfl)) <|
                ils_cons rfl (iop_move rfl rfl (by decide) (sv (d := .int _ _) rfl)) <|
                ils_cons rfl (iop_idxT (eInt .i64) (cs := [.int _ _]) rfl rfl (by decide) Try.underlying39 ti3 (sv (d := .slice _ _) rfl) (sv (d := .int _ _) rfl) hx112 rfl rfl) <|
                ils_cons rfl (iop_load_fs rfl rfl (by decide) Try.underlying3 ag3 ti3 (by decide) (sv (d := .fptr [.int _ _]) rfl) (nle rfl)) <|
                ils_cons rfl (iop_cmpx rfl rfl (by decide) (sv (d := .int _ _) rfl) (sv (d := .int _ 0) rfl) rfl hx113) <|
                ils_cons rfl (iop_move rfl rfl (by decide) (sv (d := .bool _) rfl)) <|
                ils_guard rfl rfl (.one rfl) rfl (by decide) (fun hb => (iop_move rfl rfl (by decide) (sv (d := .slice _ _) rfl))) <|
                ils_guard rfl rfl (.one rfl) rfl (by decide) (fun hb => (iop_move rfl rfl (by decide) (sv (d := .int _ _) rfl))) <|
                ils_guard rfl rfl (.one rfl) rfl (by decide) (fun hb => (iop_idxT (eInt .i64) (cs := [.int _ _]) rfl rfl (by decide) Try.underlying39 ti3 (svc (d := .slice _ _) rfl hb) (svc (d := .int _ _) rfl hb) (gd_t hx114 hb) rfl rfl)) <|
                ils_guard rfl rfl (.one rfl) rfl (by decide) (fun hb => (iop_load_fs rfl rfl (by decide) Try.underlying3 ag3 ti3 (by decide) (svc (d := .fptr [.int _ _]) rfl hb) (nle rfl))) <|
                ils_guard rfl rfl (.one rfl) rfl (by decide) (fun hb => (iop_move rfl rfl (by decide) (sv (d := .slice _ _) rfl))) <|
                ils_guard rfl rfl (.one rfl) rfl (by decide) (fun hb => (iop_lenT (eFlt .f64) (l := x21) rfl rfl (by decide) Try.underlying35 (svc (d := .slice _ _) rfl hb))) <|
                ils_guard rfl rfl (.one rfl) rfl (by decide) (fun hb => (iop_cmpx rfl rfl (by decide) (svc (d := .int _ _) rfl hb) (svc (d := .int _ _) rfl hb) rfl hx115)) <|
                ils_cons rfl (iop_orx rfl rfl (by decide) (sv (d := .bool _) rfl) rfl rfl hx116) <|
                ils_cons rfl (iop_move rfl rfl (by decide) (sv (d := .bool _) rfl)) <|
                ils_guard rfl rfl (.one rfl) rfl (by decide) (fun hb => (iop_move rfl rfl (by decide) (sv (d := .slice _ _) rfl))) <|
                ils_guard rfl rfl (.one rfl) rfl (by decide) (fun hb => (iop_move rfl rfl (by decide) (sv (d := .int _ _) rfl))) <|
                ils_guard rfl rfl (.one rfl) rfl (by decide) (fun hb => (iop_idxT (eInt .i64) (cs := [.int _ _]) rfl rfl (by decide) Try.underlying39 ti3 (svc (d := .slice _ _) rfl hb) (svc (d := .int _ _) rfl hb) (gd_t hx117 hb) rfl rfl)) <|
                ils_guard rfl rfl (.one rfl) rfl (by decide) (fun hb => (iop_load_fs rfl rfl (by decide) Try.underlying3 ag3 ti3 (by decide) (svc (d := .fptr [.int _ _]) rfl hb) (nle rfl))) <|
                ils_guard rfl rfl (.one rfl) rfl (by decide) (fun hb => (iop_idxA eBool.toEnc0 rfl rfl (by decide) Try.underlying44 ti4 (sv (d := .ref _ _) rfl) (hk119 hb) (svc (d := .int _ _) rfl hb) (gd_t hx118 hb))) <|
                ils_guard rfl rfl (.one rfl) rfl (by decide) (fun hb => (iop_loadEs eBool.toEnc0 (d := .bool _) rfl rfl (by decide) Try.underlying4 ag4 ti4 (by decide) (svc (d := .ref _ _) rfl hb) rfl (gd_t hx120 hb) (nle rfl) rfl)) <|
                ils_cons rfl (iop_orx rfl rfl (by decide) (sv (d := .bool _) rfl) rfl rfl hx121) <|
                ils_end ?_)
              refine iwp_cond (b := _) rfl (fun hc122 => ?_) (fun hc122 => ?_)
              ·
                replace h := bif_t h hc122
                refine iwp_reg (ils_cons rfl (iop_assign rfl rfl (by decide) (sv (d := .bool false) rfl)) <|
                  ils_end ?_)
                refine iwp_ret ?_
                refine thenQ_r ?_
                refine blockQ_r ?_
                refine thenQ_r ?_
                refine thenQ_r ?_
                refine blockQ_r ?_
                refine thenQ_r ?_
                obtain rfl := Option.some.inj h
                refine ⟨.inr rfl, (.cons (sv rfl) .nil)⟩
              ·
                replace h := bif_f h hc122
                refine iwp_skip ?_
                refine thenQ_n ?_
                obtain ⟨x123, hx123, h⟩ := bno_e h
                obtain ⟨x124, hx124, h⟩ := bno_e h
                obtain ⟨hk125, h⟩ := chk_e h
                obtain ⟨x126, hx126, h⟩ := bno_e h
                obtain ⟨x127, hx127, h⟩ := bnd_e h
                refine iwp_reg (ils_cons rfl (iop_move rfl rfl (by decide) (sv (d := .slice _ _) rfl)) <|
                  ils_cons rfl (iop_move rfl rfl (by decide) (sv (d := .int _ _) rfl)) <|
                  ils_cons rfl (iop_idxT (eInt .i64) (cs := [.int _ _]) rfl rfl (by decide) Try.underlying39 ti3 (sv (d := .slice _ _) rfl) (sv (d := .int _ _) rfl) hx123 rfl rfl) <|
                  ils_cons rfl (iop_load_fs rfl rfl (by decide) Try.underlying3 ag3 ti3 (by decide) (sv (d := .fptr [.int _ _]) rfl) (nle rfl)) <|
                  ils_cons rfl (iop_idxA eBool.toEnc0 rfl rfl (by decide) Try.underlying44 ti4 (sv (d := .ref _ _) rfl) hk125 (sv (d := .int _ _) rfl) hx124) <|
                  ils_cons rfl (iop_storeE eBool.toEnc0 (a' := true) rfl rfl ti4 (sv (d := .ref _ _) rfl) rfl (sv (d := .bool true) rfl) rfl rfl rfl hx126 (nle rfl) rfl hx127) <|
                  ils_end ?_)
                obtain ⟨x128, hx128, h⟩ := bnd_e h
                obtain ⟨x129, hx129, h⟩ := bnd_e h
                obtain ⟨x130, hx130, h⟩ := bno_e h
                obtain ⟨x131, hx131, h⟩ := bno_e h
                obtain ⟨x132, hx132, h⟩ := bno_e h
                obtain ⟨x133, hx133, h⟩ := bno_e h
                obtain ⟨x134, hx134, h⟩ := bno_e h
                obtain ⟨x135, hx135, h⟩ := bnd_e h
                obtain ⟨x136, hx136, h⟩ := bnd_e h
                obtain ⟨x137, hx137, h⟩ := bno_e h
                obtain ⟨x138, hx138, h⟩ := bno_e h
                obtain ⟨x139, hx139, h⟩ := bno_e h
                obtain ⟨x140, hx140, h⟩ := bno_e h
                obtain ⟨x141, hx141, h⟩ := bno_e h
                obtain ⟨x142, hx142, h⟩ := bnd_e h
                obtain ⟨x143, hx143, h⟩ := bnd_e h
                obtain ⟨x144, hx144, h⟩ := bno_e h
                obtain ⟨x145, hx145, h⟩ := bno_e h
                obtain ⟨x146, hx146, h⟩ := bnd_e h
                obtain ⟨x147, hx147, h⟩ := bnd_e h
                obtain ⟨x148, hx148, h⟩ := bnd_e h
                obtain ⟨x149, hx149, h⟩ := bnd_e h
                refine iwp_drw rfl [⟨[11], [], [(94, .int .i64 v66)], []⟩,
                  ⟨[94], [], [(95, .bool x128)], []⟩,
                  ⟨[95], [], [(96, .bool x128)], []⟩,
                  ⟨[8, 96], [], [(97, .cnd (x128 == true) (.slice false (x21.map (eFlt .f64).d)))], []⟩,
                  ⟨[9, 96], [], [(98, .cnd (x128 == true) (.slice false (x22.map (eInt .i64).d)))], []⟩,
                  ⟨[11, 96], [], [(99, .cnd (x128 == true) (.int .i64 v66))], []⟩,
                  ⟨[96, 99], [], [(100, .cnd (x128 == true) (.int .i64 x129))], []⟩,
                  ⟨[96, 98, 100], [], [(101, .cnd (x128 == true) (.fptr [.int .i64 x130]))], []⟩,
                  ⟨[96, 101], [], [(102, .cnd (x128 == true) (.int .i64 x130))], []⟩,
                  ⟨[96, 97, 102], [], [(103, .cnd (x128 == true) (.fptr [.float .f64 x131]))], []⟩,
                  ⟨[96, 103], [], [(104, .cnd (x128 == true) (.float .f64 x131))], []⟩,
                  ⟨[8, 96], [], [(105, .cnd (x128 == true) (.slice false (x21.map (eFlt .f64).d)))], []⟩,
                  ⟨[9, 96], [], [(106, .cnd (x128 == true) (.slice false (x22.map (eInt .i64).d)))], []⟩,
                  ⟨[11, 96], [], [(107, .cnd (x128 == true) (.int .i64 v66))], []⟩,
                  ⟨[96, 106, 107], [], [(108, .cnd (x128 == true) (.fptr [.int .i64 x132]))], []⟩,
                  ⟨[96, 108], [], [(109, .cnd (x128 == true) (.int .i64 x132))], []⟩,
                  ⟨[96, 105, 109], [], [(110, .cnd (x128 == true) (.fptr [.float .f64 x133]))], []⟩,
                  ⟨[96, 110], [], [(111, .cnd (x128 == true) (.float .f64 x133))], []⟩,
                  ⟨[96, 104, 111], [], [(112, .cnd (x128 == true) (.int .i64 x134))], []⟩,
                  ⟨[96, 112], [], [(113, .cnd (x128 == true) (.bool x135))], []⟩,
                  ⟨[96, 113], [], [(114, .cnd (x128 == true) (.bool x135))], []⟩,
                  ⟨[8, 114], [], [(115, .cnd (((x128 == true) && (x135 == false))) (.slice false (x21.map (eFlt .f64).d)))], []⟩,
                  ⟨[9, 114], [], [(116, .cnd (((x128 == true) && (x135 == false))) (.slice false (x22.map (eInt .i64).d)))], []⟩,
                  ⟨[11, 114], [], [(117, .cnd (((x128 == true) && (x135 == false))) (.int .i64 v66))], []⟩,
                  ⟨[114, 117], [], [(118, .cnd (((x128 == true) && (x135 == false))) (.int .i64 x136))], []⟩,
                  ⟨[114, 116, 118], [], [(119, .cnd (((x128 == true) && (x135 == false))) (.fptr [.int .i64 x137]))], []⟩,
                  ⟨[114, 119], [], [(120, .cnd (((x128 == true) && (x135 == false))) (.int .i64 x137))], []⟩,
                  ⟨[114, 115, 120], [], [(121, .cnd (((x128 == true) && (x135 == false))) (.fptr [.float .f64 x138]))], []⟩,
                  ⟨[114, 121], [], [(122, .cnd (((x128 == true) && (x135 == false))) (.float .f64 x138))], []⟩,
                  ⟨[8, 114], [], [(123, .cnd (((x128 == true) && (x135 == false))) (.slice false (x21.map (eFlt .f64).d)))], []⟩,
                  ⟨[9, 114], [], [(124, .cnd (((x128 == true) && (x135 == false))) (.slice false (x22.map (eInt .i64).d)))], []⟩,
                  ⟨[11, 114], [], [(125, .cnd (((x128 == true) && (x135 == false))) (.int .i64 v66))], []⟩,
                  ⟨[114, 124, 125], [], [(126, .cnd (((x128 == true) && (x135 == false))) (.fptr [.int .i64 x139]))], []⟩,
                  ⟨[114, 126], [], [(127, .cnd (((x128 == true) && (x135 == false))) (.int .i64 x139))], []⟩,
                  ⟨[114, 123, 127], [], [(128, .cnd (((x128 == true) && (x135 == false))) (.fptr [.float .f64 x140]))], []⟩,
                  ⟨[114, 128], [], [(129, .cnd (((x128 == true) && (x135 == false))) (.float .f64 x140))], []⟩,
                  ⟨[114, 122, 129], [], [(130, .cnd (((x128 == true) && (x135 == false))) (.int .i64 x141))], []⟩,
                  ⟨[114, 130], [], [(131, .cnd (((x128 == true) && (x135 == false))) (.bool x142))], []⟩,
                  ⟨[114, 131], [], [(132, .cnd (((x128 == true) && (x135 == false))) (.bool x142))], []⟩,
                  ⟨[9, 132], [], [(133, .cnd ((((x128 == true) && (x135 == false)) && (x142 == true))) (.slice false (x22.map (eInt .i64).d)))], []⟩,
                  ⟨[11, 132], [], [(134, .cnd ((((x128 == true) && (x135 == false)) && (x142 == true))) (.int .i64 v66))], []⟩,
                  ⟨[132, 134], [], [(135, .cnd ((((x128 == true) && (x135 == false)) && (x142 == true))) (.int .i64 x143))], []⟩,
                  ⟨[132, 133, 135], [], [(136, .cnd ((((x128 == true) && (x135 == false)) && (x142 == true))) (.fptr [.int .i64 x144]))], []⟩,
                  ⟨[132, 136], [], [(137, .cnd ((((x128 == true) && (x135 == false)) && (x142 == true))) (.int .i64 x144))], []⟩,
                  ⟨[9, 132], [], [(138, .cnd ((((x128 == true) && (x135 == false)) && (x142 == true))) (.slice false (x22.map (eInt .i64).d)))], []⟩,
                  ⟨[11, 132], [], [(139, .cnd ((((x128 == true) && (x135 == false)) && (x142 == true))) (.int .i64 v66))], []⟩,
                  ⟨[132, 138, 139], [], [(140, .cnd ((((x128 == true) && (x135 == false)) && (x142 == true))) (.fptr [.int .i64 x145]))], []⟩,
                  ⟨[132, 140], [], [(141, .cnd ((((x128 == true) && (x135 == false)) && (x142 == true))) (.int .i64 x145))], []⟩,
                  ⟨[132, 137, 141], [], [(142, .cnd ((((x128 == true) && (x135 == false)) && (x142 == true))) (.bool x146))], []⟩,
                  ⟨[114, 132, 142], [], [(143, .cnd (((x128 == true) && (x135 == false))) (.bool x147))], []⟩,
                  ⟨[96, 114, 143], [], [(144, .cnd (x128 == true) (.bool x148))], []⟩,
                  ⟨[96, 144], [], [(145, .bool x149)], []⟩] rfl ?_ (by kernel_rfl) ?_
                · refine .cons (lop rfl rfl fun S hA => (iop_move rfl rfl (by decide) (sv (d := .int _ _) (agr hA rfl rfl)))) ?_
                  refine .cons (lop rfl rfl fun S hA => (iop_cmpx rfl rfl (by decide) (sv (d := .int _ _) (agr hA rfl rfl)) (sv (d := .int _ 0) rfl) rfl hx128)) ?_
                  refine .cons (lop rfl rfl fun S hA => (iop_move rfl rfl (by decide) (sv (d := .bool _) (agr hA rfl rfl)))) ?_
                  refine .cons (lopg rfl rfl rfl rfl (by decide) (fun S hA => grd1 hA rfl rfl) (fun S hA hb => (iop_move rfl rfl (by decide) (sv (d := .slice _ _) (agr hA rfl rfl))))) ?_
                  refine .cons (lopg rfl rfl rfl rfl (by decide) (fun S hA => grd1 hA rfl rfl) (fun S hA hb => (iop_move rfl rfl (by decide) (sv (d := .slice _ _) (agr hA rfl rfl))))) ?_
                  refine .cons (lopg rfl rfl rfl rfl (by decide) (fun S hA => grd1 hA rfl rfl) (fun S hA hb => (iop_move rfl rfl (by decide) (sv (d := .int _ _) (agr hA rfl rfl))))) ?_
                  refine .cons (lopg rfl rfl rfl rfl (by decide) (fun S hA => grd1 hA rfl rfl) (fun S hA hb => (iop_intx rfl rfl (by decide) (svc (d := .int _ _) (agr hA rfl rfl) hb) (sv (d := .int _ 1) rfl) rfl hx129))) ?_
                  refine .cons (lopg rfl rfl rfl rfl (by decide) (fun S hA => grd1 hA rfl rfl) (fun S hA hb => (iop_idxT (eInt .i64) (cs := [.int _ _]) rfl rfl (by decide) Try.underlying39 ti3 (svc (d := .slice _ _) (agr hA rfl rfl) hb) (svc (d := .int _ _) (agr hA rfl rfl) hb) (gd_t hx130 hb) rfl rfl))) ?_
                  refine .cons (lopg rfl rfl rfl rfl (by decide) (fun S hA => grd1 hA rfl rfl) (fun S hA hb => (iop_load_fs rfl rfl (by decide) Try.underlying3 ag3 ti3 (by decide) (svc (d := .fptr [.int _ _]) (agr hA rfl rfl) hb) (nle rfl)))) ?_
                  refine .cons (lopg rfl rfl rfl rfl (by decide) (fun S hA => grd1 hA rfl rfl) (fun S hA hb => (iop_idxT (eFlt .f64) (cs := [.float _ _]) rfl rfl (by decide) Try.underlying35 ti24 (svc (d := .slice _ _) (agr hA rfl rfl) hb) (svc (d := .int _ _) (agr hA rfl rfl) hb) (gd_t hx131 hb) rfl rfl))) ?_
                  refine .cons (lopg rfl rfl rfl rfl (by decide) (fun S hA => grd1 hA rfl rfl) (fun S hA hb => (iop_load_fs rfl rfl (by decide) Try.underlying24 ag24 ti24 (by decide) (svc (d := .fptr [.float _ _]) (agr hA rfl rfl) hb) (nle rfl)))) ?_
                  refine .cons (lopg rfl rfl rfl rfl (by decide) (fun S hA => grd1 hA rfl rfl) (fun S hA hb => (iop_move rfl rfl (by decide) (sv (d := .slice _ _) (agr hA rfl rfl))))) ?_
                  refine .cons (lopg rfl rfl rfl rfl (by decide) (fun S hA => grd1 hA rfl rfl) (fun S hA hb => (iop_move rfl rfl (by decide) (sv (d := .slice _ _) (agr hA rfl rfl))))) ?_
                  refine .cons (lopg rfl rfl rfl rfl (by decide) (fun S hA => grd1 hA rfl rfl) (fun S hA hb => (iop_move rfl rfl (by decide) (sv (d := .int _ _) (agr hA rfl rfl))))) ?_
                  refine .cons (lopg rfl rfl rfl rfl (by decide) (fun S hA => grd1 hA rfl rfl) (fun S hA hb => (iop_idxT (eInt .i64) (cs := [.int _ _]) rfl rfl (by decide) Try.underlying39 ti3 (svc (d := .slice _ _) (agr hA rfl rfl) hb) (svc (d := .int _ _) (agr hA rfl rfl) hb) (gd_t hx132 hb) rfl rfl))) ?_
                  refine .cons (lopg rfl rfl rfl rfl (by decide) (fun S hA => grd1 hA rfl rfl) (fun S hA hb => (iop_load_fs rfl rfl (by decide) Try.underlying3 ag3 ti3 (by decide) (svc (d := .fptr [.int _ _]) (agr hA rfl rfl) hb) (nle rfl)))) ?_
                  refine .cons (lopg rfl rfl rfl rfl (by decide) (fun S hA => grd1 hA rfl rfl) (fun S hA hb => (iop_idxT (eFlt .f64) (cs := [.float _ _]) rfl rfl (by decide) Try.underlying35 ti24 (svc (d := .slice _ _) (agr hA rfl rfl) hb) (svc (d := .int _ _) (agr hA rfl rfl) hb) (gd_t hx133 hb) rfl rfl))) ?_
                  refine .cons (lopg rfl rfl rfl rfl (by decide) (fun S hA => grd1 hA rfl rfl) (fun S hA hb => (iop_load_fs rfl rfl (by decide) Try.underlying24 ag24 ti24 (by decide) (svc (d := .fptr [.float _ _]) (agr hA rfl rfl) hb) (nle rfl)))) ?_
                  refine .cons (lopg rfl rfl rfl rfl (by decide) (fun S hA => grd1 hA rfl rfl) (fun S hA hb => (iop_call (r := .int _ _) rfl rfl (by decide) cl14 (.cons (svc (d := .float _ _) (agr hA rfl rfl) hb) (.cons (svc (d := .float _ _) (agr hA rfl rfl) hb) .nil)) rfl (p_gauge_Compare _ _ _ (gd_t hx134 hb))))) ?_
                  refine .cons (lopg rfl rfl rfl rfl (by decide) (fun S hA => grd1 hA rfl rfl) (fun S hA hb => (iop_cmpx rfl rfl (by decide) (svc (d := .int _ _) (agr hA rfl rfl) hb) (sv (d := .int _ 0) rfl) rfl hx135))) ?_
                  refine .cons (lopg rfl rfl rfl rfl (by decide) (fun S hA => grd1 hA rfl rfl) (fun S hA hb => (iop_move rfl rfl (by decide) (svc (d := .bool _) (agr hA rfl rfl) hb)))) ?_
                  refine .cons (lopg rfl rfl rfl rfl (by decide) (fun S hA => grd2 hA rfl rfl) (fun S hA hb => (iop_move rfl rfl (by decide) (sv (d := .slice _ _) (agr hA rfl rfl))))) ?_
                  refine .cons (lopg rfl rfl rfl rfl (by decide) (fun S hA => grd2 hA rfl rfl) (fun S hA hb => (iop_move rfl rfl (by decide) (sv (d := .slice _ _) (agr hA rfl rfl))))) ?_
                  refine .cons (lopg rfl rfl rfl rfl (by decide) (fun S hA => grd2 hA rfl rfl) (fun S hA hb => (iop_move rfl rfl (by decide) (sv (d := .int _ _) (agr hA rfl rfl))))) ?_
                  refine .cons (lopg rfl rfl rfl rfl (by decide) (fun S hA => grd2 hA rfl rfl) (fun S hA hb => (iop_intx rfl rfl (by decide) (svc (d := .int _ _) (agr hA rfl rfl) hb) (sv (d := .int _ 1) rfl) rfl hx136))) ?_
                  refine .cons (lopg rfl rfl rfl rfl (by decide) (fun S hA => grd2 hA rfl rfl) (fun S hA hb => (iop_idxT (eInt .i64) (cs := [.int _ _]) rfl rfl (by decide) Try.underlying39 ti3 (svc (d := .slice _ _) (agr hA rfl rfl) hb) (svc (d := .int _ _) (agr hA rfl rfl) hb) (gd_t hx137 hb) rfl rfl))) ?_
                  refine .cons (lopg rfl rfl rfl rfl (by decide) (fun S hA => grd2 hA rfl rfl) (fun S hA hb => (iop_load_fs rfl rfl (by decide) Try.underlying3 ag3 ti3 (by decide) (svc (d := .fptr [.int _ _]) (agr hA rfl rfl) hb) (nle rfl)))) ?_
                  refine .cons (lopg rfl rfl rfl rfl (by decide) (fun S hA => grd2 hA rfl rfl) (fun S hA hb => (iop_idxT (eFlt .f64) (cs := [.float _ _]) rfl rfl (by decide) Try.underlying35 ti24 (svc (d := .slice _ _) (agr hA rfl rfl) hb) (svc (d := .int _ _) (agr hA rfl rfl) hb) (gd_t hx138 hb) rfl rfl))) ?_
                  refine .cons (lopg rfl rfl rfl rfl (by decide) (fun S hA => grd2 hA rfl rfl) (fun S hA hb => (iop_load_fs rfl rfl (by decide) Try.underlying24 ag24 ti24 (by decide) (svc (d := .fptr [.float _ _]) (agr hA rfl rfl) hb) (nle rfl)))) ?_
                  refine .cons (lopg rfl rfl rfl rfl (by decide) (fun S hA => grd2 hA rfl rfl) (fun S hA hb => (iop_move rfl rfl (by decide) (sv (d := .slice _ _) (agr hA rfl rfl))))) ?_
                  refine .cons (lopg rfl rfl rfl rfl (by decide) (fun S hA => grd2 hA rfl rfl) (fun S hA hb => (iop_move rfl rfl (by decide) (sv (d := .slice _ _) (agr hA rfl rfl))))) ?_
                  refine .cons (lopg rfl rfl rfl rfl (by decide) (fun S hA => grd2 hA rfl rfl) (fun S hA hb => (iop_move rfl rfl (by decide) (sv (d := .int _ _) (agr hA rfl rfl))))) ?_
                  refine .cons (lopg rfl rfl rfl rfl (by decide) (fun S hA => grd2 hA rfl rfl) (fun S hA hb => (iop_idxT (eInt .i64) (cs := [.int _ _]) rfl rfl (by decide) Try.underlying39 ti3 (svc (d := .slice _ _) (agr hA rfl rfl) hb) (svc (d := .int _ _) (agr hA rfl rfl) hb) (gd_t hx139 hb) rfl rfl))) ?_
                  refine .cons (lopg rfl rfl rfl rfl (by decide) (fun S hA => grd2 hA rfl rfl) (fun S hA hb => (iop_load_fs rfl rfl (by decide) Try.underlying3 ag3 ti3 (by decide) (svc (d := .fptr [.int _ _]) (agr hA rfl rfl) hb) (nle rfl)))) ?_
                  refine .cons (lopg rfl rfl rfl rfl (by decide) (fun S hA => grd2 hA rfl rfl) (fun S hA hb => (iop_idxT (eFlt .f64) (cs := [.float _ _]) rfl rfl (by decide) Try.underlying35 ti24 (svc (d := .slice _ _) (agr hA rfl rfl) hb) (svc (d := .int _ _) (agr hA rfl rfl) hb) (gd_t hx140 hb) rfl rfl))) ?_
                  refine .cons (lopg rfl rfl rfl rfl (by decide) (fun S hA => grd2 hA rfl rfl) (fun S hA hb => (iop_load_fs rfl rfl (by decide) Try.underlying24 ag24 ti24 (by decide) (svc (d := .fptr [.float _ _]) (agr hA rfl rfl) hb) (nle rfl)))) ?_
                  refine .cons (lopg rfl rfl rfl rfl (by decide) (fun S hA => grd2 hA rfl rfl) (fun S hA hb => (iop_call (r := .int _ _) rfl rfl (by decide) cl14 (.cons (svc (d := .float _ _) (agr hA rfl rfl) hb) (.cons (svc (d := .float _ _) (agr hA rfl rfl) hb) .nil)) rfl (p_gauge_Compare _ _ _ (gd_t hx141 hb))))) ?_
                  refine .cons (lopg rfl rfl rfl rfl (by decide) (fun S hA => grd2 hA rfl rfl) (fun S hA hb => (iop_cmpx rfl rfl (by decide) (svc (d := .int _ _) (agr hA rfl rfl) hb) (sv (d := .int _ 0) rfl) rfl hx142))) ?_
                  refine .cons (lopg rfl rfl rfl rfl (by decide) (fun S hA => grd2 hA rfl rfl) (fun S hA hb => (iop_move rfl rfl (by decide) (svc (d := .bool _) (agr hA rfl rfl) hb)))) ?_
                  refine .cons (lopg rfl rfl rfl rfl (by decide) (fun S hA => grd2 hA rfl rfl) (fun S hA hb => (iop_move rfl rfl (by decide) (sv (d := .slice _ _) (agr hA rfl rfl))))) ?_
                  refine .cons (lopg rfl rfl rfl rfl (by decide) (fun S hA => grd2 hA rfl rfl) (fun S hA hb => (iop_move rfl rfl (by decide) (sv (d := .int _ _) (agr hA rfl rfl))))) ?_
                  refine .cons (lopg rfl rfl rfl rfl (by decide) (fun S hA => grd2 hA rfl rfl) (fun S hA hb => (iop_intx rfl rfl (by decide) (svc (d := .int _ _) (agr hA rfl rfl) hb) (sv (d := .int _ 1) rfl) rfl hx143))) ?_
                  refine .cons (lopg rfl rfl rfl rfl (by decide) (fun S hA => grd2 hA rfl rfl) (fun S hA hb => (iop_idxT (eInt .i64) (cs := [.int _ _]) rfl rfl (by decide) Try.underlying39 ti3 (svc (d := .slice _ _) (agr hA rfl rfl) hb) (svc (d := .int _ _) (agr hA rfl rfl) hb) (gd_t hx144 hb) rfl rfl))) ?_
                  refine .cons (lopg rfl rfl rfl rfl (by decide) (fun S hA => grd2 hA rfl rfl) (fun S hA hb => (iop_load_fs rfl rfl (by decide) Try.underlying3 ag3 ti3 (by decide) (svc (d := .fptr [.int _ _]) (agr hA rfl rfl) hb) (nle rfl)))) ?_
                  refine .cons (lopg rfl rfl rfl rfl (by decide) (fun S hA => grd2 hA rfl rfl) (fun S hA hb => (iop_move rfl rfl (by decide) (sv (d := .slice _ _) (agr hA rfl rfl))))) ?_
                  refine .cons (lopg rfl rfl rfl rfl (by decide) (fun S hA => grd2 hA rfl rfl) (fun S hA hb => (iop_move rfl rfl (by decide) (sv (d := .int _ _) (agr hA rfl rfl))))) ?_
                  refine .cons (lopg rfl rfl rfl rfl (by decide) (fun S hA => grd2 hA rfl rfl) (fun S hA hb => (iop_idxT (eInt .i64) (cs := [.int _ _]) rfl rfl (by decide) Try.underlying39 ti3 (svc (d := .slice _ _) (agr hA rfl rfl) hb) (svc (d := .int _ _) (agr hA rfl rfl) hb) (gd_t hx145 hb) rfl rfl))) ?_
                  refine .cons (lopg rfl rfl rfl rfl (by decide) (fun S hA => grd2 hA rfl rfl) (fun S hA hb => (iop_load_fs rfl rfl (by decide) Try.underlying3 ag3 ti3 (by decide) (svc (d := .fptr [.int _ _]) (agr hA rfl rfl) hb) (nle rfl)))) ?_
                  refine .cons (lopg rfl rfl rfl rfl (by decide) (fun S hA => grd2 hA rfl rfl) (fun S hA hb => (iop_cmpx rfl rfl (by decide) (svc (d := .int _ _) (agr hA rfl rfl) hb) (svc (d := .int _ _) (agr hA rfl rfl) hb) rfl hx146))) ?_
                  refine .cons (lopg rfl rfl rfl rfl (by decide) (fun S hA => grd2 hA rfl rfl) (fun S hA hb => (iop_and2x rfl rfl (by decide) hb (svc (d := .bool _) (agr hA rfl rfl) hb) (agr hA rfl rfl) rfl hx147))) ?_
                  refine .cons (lopg rfl rfl rfl rfl (by decide) (fun S hA => grd1 hA rfl rfl) (fun S hA hb => (iop_or2x rfl rfl (by decide) hb (svc (d := .bool _) (agr hA rfl rfl) hb) rfl (agr hA rfl rfl) hx148))) ?_
                  refine .cons (lop rfl rfl fun S hA => (iop_andx rfl rfl (by decide) (sv (d := .bool _) (agr hA rfl rfl)) (agr hA rfl rfl) rfl hx149)) ?_
                  exact .nil
                refine iwp_cond (b := _) rfl (fun hc150 => ?_) (fun hc150 => ?_)
                ·
                  replace h := bif_t h hc150
                  refine iwp_reg (ils_cons rfl (iop_assign rfl rfl (by decide) (sv (d := .bool false) rfl)) <|
                    ils_end ?_)
                  refine iwp_ret ?_
                  refine blockQ_r ?_
                  refine thenQ_r ?_
                  refine thenQ_r ?_
                  refine blockQ_r ?_
                  refine thenQ_r ?_
                  obtain rfl := Option.some.inj h
                  refine ⟨.inr rfl, (.cons (sv rfl) .nil)⟩
                ·
                  replace h := bif_f h hc150
                  refine iwp_skip ?_
                  refine blockQ_n ?_
                  refine thenQ_n ?_
                  obtain ⟨x151, hx151, h⟩ := bnd_e h
                  refine iwp_region (ils_cons rfl (iop_move rfl rfl (by decide) (sv (d := .int _ _) rfl)) <|
                    ils_cons rfl (iop_intx rfl rfl (by decide) (sv (d := .int _ _) rfl) (sv (d := .int _ 1) rfl) rfl hx151) <|
                    ils_cons rfl (iop_assign rfl rfl (by decide) (sv (d := .int _ _) rfl)) <|
                    ils_nil ?_)
                  refine thenQ_n ⟨(n0, x151, x127), (fun i => i), ⟨(.cons (.same rfl rfl) (.cons (.same rfl rfl) (.cons (.same rfl rfl) (.cons (.same rfl rfl) .nil)))), (.cons (EntW.lst rfl) .nil), nd_of [1] rfl (by decide), (fun i hi => by first | rfl | (show (if _ then _ else _) = _; (repeat' split) <;> omega))⟩, ?_, ?_⟩
                  exact h
                  exact Nat.lt_succ_self _
            ·
              replace h := bif_f h hc111
              refine iwp_exit ?_
              refine thenQ_e ?_
              refine thenQ_e ?_
              refine blockQ_e ?_
              refine thenQ_n ?_
              obtain ⟨x152, hx152, h⟩ := bno_e h
              refine iwp_reg (ils_cons rfl (iop_move rfl rfl (by decide) (sv (d := .slice _ _) rfl)) <|
                ils_cons rfl (iop_call (r := .int _ _) rfl rfl (by decide) cl22 (.cons (sv (d := .slice _ _) rfl) .nil) rfl (p_gauge_Best _ _ hx152)) <|
                ils_cons rfl (iop_assign rfl rfl (by decide) (sv (d := .int _ _) rfl)) <|
                ils_end ?_)
              obtain ⟨x153, hx153, h⟩ := bnd_e h
              obtain ⟨x154, hx154, h⟩ := bno_e h
              obtain ⟨x155, hx155, h⟩ := bnd_e h
              obtain ⟨x156, hx156, h⟩ := bnd_e h
              obtain ⟨x157, hx157, h⟩ := bnd_e h
              obtain ⟨x158, hx158, h⟩ := bnd_e h
              obtain ⟨x159, hx159, h⟩ := bnd_e h
              obtain ⟨x160, hx160, h⟩ := bno_e h
              obtain ⟨x161, hx161, h⟩ := bno_e h
              obtain ⟨x162, hx162, h⟩ := bno_e h
              obtain ⟨x163, hx163, h⟩ := bnd_e h
              obtain ⟨x164, hx164, h⟩ := bnd_e h
              obtain ⟨x165, hx165, h⟩ := bnd_e h
              obtain ⟨x166, hx166, h⟩ := bno_e h
              obtain ⟨x167, hx167, h⟩ := bnd_e h
              refine iwp_reg (ils_cons rfl (iop_move rfl rfl (by decide) (sv (d := .int _ _) rfl)) <|
                ils_cons rfl (iop_cmpx rfl rfl (by decide) (sv (d := .int _ _) rfl) (sv (d := .int _ 0) rfl) rfl hx153) <|
                ils_cons rfl (iop_move rfl rfl (by decide) (sv (d := .bool _) rfl)) <|
                ils_guard rfl rfl (.one rfl) rfl (by decide) (fun hb => (iop_move rfl rfl (by decide) (sv (d := .int _ _) rfl))) <|
                ils_guard rfl rfl (.one rfl) rfl (by decide) (fun hb => (iop_move rfl rfl (by decide) (sv (d := .slice _ _) rfl))) <|
                ils_guard rfl rfl (.one rfl) rfl (by decide) (fun hb => (iop_idxT (eInt .i64) (cs := [.int _ _]) rfl rfl (by decide) Try.underlying39 ti3 (svc (d := .slice _ _) rfl hb) (sv (d := .int _ 0) rfl) (gd_t hx154 hb) rfl rfl)) <|
                ils_guard rfl rfl (.one rfl) rfl (by decide) (fun hb => (iop_load_fs rfl rfl (by decide) Try.underlying3 ag3 ti3 (by decide) (svc (d := .fptr [.int _ _]) rfl hb) (nle rfl))) <|
                ils_guard rfl rfl (.one rfl) rfl (by decide) (fun hb => (iop_cmpx rfl rfl (by decide) (svc (d := .int _ _) rfl hb) (svc (d := .int _ _) rfl hb) rfl hx155)) <|
                ils_cons rfl (iop_orx rfl rfl (by decide) (sv (d := .bool _) rfl) rfl rfl hx156) <|
                ils_cons rfl (iop_move rfl rfl (by decide) (sv (d := .bool _) rfl)) <|
                ils_guard rfl rfl (.one rfl) rfl (by decide) (fun hb => (iop_move rfl rfl (by decide) (sv (d := .int _ _) rfl))) <|
                ils_guard rfl rfl (.one rfl) rfl (by decide) (fun hb => (iop_cmpx rfl rfl (by decide) (svc (d := .int _ _) rfl hb) (sv (d := .int _ 0) rfl) rfl hx157)) <|
                ils_guard rfl rfl (.one rfl) rfl (by decide) (fun hb => (iop_move rfl rfl (by decide) (svc (d := .bool _) rfl hb))) <|
                ils_guard rfl rfl (.two rfl) rfl (by decide) (fun hb => (iop_move rfl rfl (by decide) (sv (d := .slice _ _) rfl))) <|
                ils_guard rfl rfl (.two rfl) rfl (by decide) (fun hb => (iop_lenT (eInt .i64) (l := x22) rfl rfl (by decide) Try.underlying39 (svc (d := .slice _ _) rfl hb))) <|
                ils_guard rfl rfl (.two rfl) rfl (by decide) (fun hb => (iop_cmpx rfl rfl (by decide) (svc (d := .int _ _) rfl hb) (sv (d := .int _ 0) rfl) rfl hx158)) <|
                ils_guard rfl rfl (.one rfl) rfl (by decide) (fun hb => (iop_or2x rfl rfl (by decide) hb (svc (d := .bool _) rfl hb) rfl rfl hx159)) <|
                ils_guard rfl rfl (.one rfl) rfl (by decide) (fun hb => (iop_move rfl rfl (by decide) (svc (d := .bool _) rfl hb))) <|
                ils_guard rfl rfl (.two rfl) rfl (by decide) (fun hb => (iop_move rfl rfl (by decide) (sv (d := .slice _ _) rfl))) <|
                ils_guard rfl rfl (.two rfl) rfl (by decide) (fun hb => (iop_move rfl rfl (by decide) (sv (d := .slice _ _) rfl))) <|
                ils_guard rfl rfl (.two rfl) rfl (by decide) (fun hb => (iop_idxT (eInt .i64) (cs := [.int _ _]) rfl rfl (by decide) Try.underlying39 ti3 (svc (d := .slice _ _) rfl hb) (sv (d := .int _ 0) rfl) (gd_t hx160 hb) rfl rfl)) <|
                ils_guard rfl rfl (.two rfl) rfl (by decide) (fun hb => (iop_load_fs rfl rfl (by decide) Try.underlying3 ag3 ti3 (by decide) (svc (d := .fptr [.int _ _]) rfl hb) (nle rfl))) <|
                ils_guard rfl rfl (.two rfl) rfl (by decide) (fun hb => (iop_idxT (eFlt .f64) (cs := [.float _ _]) rfl rfl (by decide) Try.underlying35 ti24 (svc (d := .slice _ _) rfl hb) (svc (d := .int _ _) rfl hb) (gd_t hx161 hb) rfl rfl)) <|
                ils_guard rfl rfl (.two rfl) rfl (by decide) (fun hb => (iop_load_fs rfl rfl (by decide) Try.underlying24 ag24 ti24 (by decide) (svc (d := .fptr [.float _ _]) rfl hb) (nle rfl))) <|
                ils_guard rfl rfl (.two rfl) rfl (by decide) (fun hb => (iop_call (r := .int _ _) rfl rfl (by decide) cl9 (.cons (svc (d := .float _ _) rfl hb) .nil) rfl (p_gauge_Kind _ _ (gd_t hx162 hb)))) <|
                ils_guard rfl rfl (.two rfl) rfl (by decide) (fun hb => (iop_cmpx rfl rfl (by decide) (svc (d := .int _ _) rfl hb) (sv (d := .int _ 0) rfl) rfl hx163)) <|
                ils_guard rfl rfl (.one rfl) rfl (by decide) (fun hb => (iop_or2x rfl rfl (by decide) hb (svc (d := .bool _) rfl hb) rfl rfl hx164)) <|
                ils_cons rfl (iop_andx rfl rfl (by decide) (sv (d := .bool _) rfl) rfl rfl hx165) <|
                ils_cons rfl (iop_move rfl rfl (by decide) (sv (d := .bool _) rfl)) <|
                ils_guard rfl rfl (.one rfl) rfl (by decide) (fun hb => (iop_call (r := .bool _) rfl rfl (by decide) cl20 .nil rfl (p_sennitlaw27_awake  _ (gd_t hx166 hb)))) <|
                ils_cons rfl (iop_andx rfl rfl (by decide) (sv (d := .bool _) rfl) rfl rfl hx167) <|
                ils_cons rfl (iop_assign rfl rfl (by decide) (sv (d := .bool _) rfl)) <|
                ils_end ?_)
              refine iwp_ret ?_
              obtain rfl := Option.some.inj h
              refine ⟨.inr rfl, (.cons (sv rfl) .nil)⟩
end Go.Proofs.Ytkmnhcjjaadmbaa
