/-
  A part of the proof: rules and plain facts. No condition.
-/
import Derived.Test.YtmidijokooidcaaDoorProg
import Derived.KernelRfl
import Derived.Test.YtmidijokooidcaaDoorIlPn
import Derived.Test.YtmidijokooidcaaDoorIlIt33
import Derived.Test.YtmidijokooidcaaDoorIlA33C1
set_option linter.all false
set_option linter.unusedSimpArgs false
set_option linter.unusedVariables false
set_option maxRecDepth 8000
set_option maxHeartbeats 2000000
open Go Go.IL Go.Fn Go.Proofs
namespace Go.Proofs.YtmidijokooidcaaDoor
theorem cl8 : Callable Tryd.prog 8 := ⟨Tryd.f8, Tryd.func8, rfl, rfl⟩
theorem p_sennitlaw33_ConsoleNames (a0 : Int) (a1 : Int) (r : Bool) (h : sennitlaw33_ConsoleNames a0 a1 = some r) : PureAt Tryd.prog 5 [.int .u8 a0, .int .u8 a1] (.bool r) := by
 refine pure_of_iwp (rs := [.bool r]) Tryd.func5 rfl Tryd.ntmps5 (nle rfl) rfl fun O hO => ?_
 show IWP _ _ _ _ ⟨[(0, .int .u8 a0), (1, .int .u8 a1)], []⟩ _
 unfold sennitlaw33_ConsoleNames at h
 refine iwp_reg (ils_cons rfl (iop_assign rfl rfl (lb rfl) (sv (d := .bool false) rfl)) <|
  ils_end ?_)
 obtain ⟨x1, hx1, h⟩ := bno_e h
 refine iwp_reg (ils_cons rfl (iop_call (r := .slice _ _) rfl rfl (lb rfl) cl16 .nil rfl (p_console_Names  _ hx1)) <|
  ils_cons rfl (iop_assign rfl rfl (lb rfl) (svL rfl)) <|
  ils_end ?_)
 refine iwp_seq ?_
 obtain ⟨x2, hx2, h⟩ := bnd_e h
 refine iwp_reg (ils_cons rfl (mvL rfl rfl rfl rfl) <|
  ils_cons rfl (iop_lenT eStr (l := x1) rfl rfl (lb rfl) Tryd.underlying42 (svL rfl)) <|
  ils_cons rfl (iop_cmpx rfl rfl (lb rfl) (svI rfl) (sv (d := .int _ 16) rfl) rfl hx2) <|
  ils_end ?_)
 refine iwp_cond (b := _) rfl (fun hc3 => ?_) (fun hc3 => ?_)
 ·
  replace h := bif_t h hc3
  refine iwp_reg (ils_cons rfl (iop_assign rfl rfl (lb rfl) (sv (d := .bool false) rfl)) <|
   ils_end ?_)
  refine iwp_ret ?_
  refine thenQ_r ?_
  obtain rfl := Option.some.inj h
  refine ⟨.inr rfl, (.cons (sv rfl) .nil)⟩
 ·
  replace h := bif_f h hc3
  refine iwp_skip ?_
  refine thenQ_n ?_
  obtain ⟨x4, hx4, h⟩ := bno_e h
  obtain ⟨x5, hx5, h⟩ := bnd_e h
  obtain ⟨x6, hx6, h⟩ := bno_e h
  obtain ⟨x7, hx7, h⟩ := bnd_e h
  refine iwp_reg (ils_cons rfl (mvI rfl rfl rfl rfl) <|
   ils_cons rfl (iop_remx rfl rfl (lb rfl) (svI rfl) (sv (d := .int _ 16) rfl) hx4) <|
   ils_cons rfl (iop_int_conv rfl rfl (lb rfl) ⟨_, Tryd.underlying5⟩ Tryd.underlying3 (svI rfl) hx5) <|
   ils_cons rfl (mvI rfl rfl rfl rfl) <|
   ils_cons rfl (iop_remx rfl rfl (lb rfl) (svI rfl) (sv (d := .int _ 16) rfl) hx6) <|
   ils_cons rfl (iop_int_conv rfl rfl (lb rfl) ⟨_, Tryd.underlying5⟩ Tryd.underlying3 (svI rfl) hx7) <|
   ils_cons rfl (asI rfl rfl rfl rfl) <|
   ils_cons rfl (asI rfl rfl rfl rfl) <|
   ils_end ?_)
  obtain ⟨x8, hx8, h⟩ := bnd_e h
  obtain ⟨x9, hx9, h⟩ := bno_e h
  refine iwp_reg (ils_cons rfl (mvI rfl rfl rfl rfl) <|
   ils_cons rfl (iop_int_conv rfl rfl (lb rfl) ⟨_, Tryd.underlying3⟩ Tryd.underlying5 (svI rfl) hx8) <|
   ils_cons rfl (iop_build_struct (cs := q2) rfl rfl (lb rfl) Tryd.underlying24 ti24 pl24 rfl (.cons (svI rfl) .nil) rfl) <|
   ils_cons rfl (iop_call (r := .tuple q8) rfl rfl (lb rfl) cl15 (.cons (svA q2 rfl) .nil) rfl (p_console_Print _ _ hx9)) <|
   ils_cons rfl (iop_move rfl rfl (lb rfl) (sv (d := .tuple q8) rfl)) <|
   ils_cons rfl (iop_extract (d := .str _) rfl rfl (lb rfl) (sv (d := .tuple q8) rfl) rfl) <|
   ils_cons rfl (iop_extract (d := .int _ _) rfl rfl (lb rfl) (sv (d := .tuple q8) rfl) rfl) <|
   ils_cons rfl (iop_assign rfl rfl (lb rfl) (sv (d := .str _) rfl)) <|
   ils_cons rfl (asI rfl rfl rfl rfl) <|
   ils_end ?_)
  obtain ⟨x10, hx10, h⟩ := bno_e h
  refine iwp_reg (ils_cons rfl (iop_move rfl rfl (lb rfl) (sv (d := .str _) rfl)) <|
   ils_cons rfl (iop_call (r := .tuple q9) rfl rfl (lb rfl) cl9 (.cons (sv (d := .str _) rfl) .nil) rfl (p_console_Parse _ _ hx10)) <|
   ils_cons rfl (iop_move rfl rfl (lb rfl) (sv (d := .tuple q9) rfl)) <|
   ils_cons rfl (iop_extract (d := .agg q2) rfl rfl (lb rfl) (sv (d := .tuple q9) rfl) rfl) <|
   ils_cons rfl (iop_extract (d := .int _ _) rfl rfl (lb rfl) (sv (d := .tuple q9) rfl) rfl) <|
   ils_cons rfl (iop_allocS (cs := q2) (cs' := (w11 0 0 0 0 0 0 [] false)) 0 rfl rfl (lb rfl) rfl ti24 rfl rfl (.all _)) <|
   ils_cons rfl (stA q2 q2 ti24 rfl rfl rfl rfl rfl rfl rfl rfl (nle rfl) rfl) <|
   ils_cons rfl (asI rfl rfl rfl rfl) <|
   ils_end ?_)
  obtain ⟨x11, hx11, h⟩ := bno_e h
  refine iwp_reg (ils_cons rfl (mvL rfl rfl rfl rfl) <|
   ils_cons rfl (mvI rfl rfl rfl rfl) <|
   ils_cons rfl (iop_idxT eStr (cs := [.str _]) rfl rfl (lb rfl) Tryd.underlying42 ti9 (svL rfl) (svI rfl) hx11 rfl rfl) <|
   ils_cons rfl (iop_load_fs rfl rfl (lb rfl) Tryd.underlying9 ag9 ti9 (by decide) (sv (d := .fptr [.str _]) rfl) (nle rfl)) <|
   ils_cons rfl (iop_len_str rfl rfl (lb rfl) Tryd.underlying9 (sv (d := .str _) rfl) rfl) <|
   ils_cons rfl (asI rfl rfl rfl rfl) <|
   ils_end ?_)
  obtain ⟨x12, hx12, h⟩ := bno_e h
  obtain ⟨x13, hx13, h⟩ := bno_e h
  obtain ⟨x14, hx14, h⟩ := bnd_e h
  obtain ⟨x15, hx15, h⟩ := bnd_e h
  obtain ⟨x16, hx16, h⟩ := bnd_e h
  obtain ⟨x17, hx17, h⟩ := bnd_e h
  obtain ⟨x18, hx18, h⟩ := bnd_e h
  obtain ⟨x19, hx19, h⟩ := bnd_e h
  obtain ⟨x20, hx20, h⟩ := bnd_e h
  obtain ⟨x21, hx21, h⟩ := bnd_e h
  obtain ⟨x22, hx22, h⟩ := bnd_e h
  obtain ⟨x23, hx23, h⟩ := bnd_e h
  obtain ⟨x24, hx24, h⟩ := bnd_e h
  obtain ⟨x25, hx25, h⟩ := bnd_e h
  obtain ⟨x26, hx26, h⟩ := bnd_e h
  obtain ⟨x27, hx27, h⟩ := bnd_e h
  obtain ⟨x28, hx28, h⟩ := bno_e h
  obtain ⟨x29, hx29, h⟩ := bno_e h
  obtain ⟨x30, hx30, h⟩ := bnd_e h
  obtain ⟨x31, hx31, h⟩ := bnd_e h
  obtain ⟨x32, hx32, h⟩ := bno_e h
  obtain ⟨x33, hx33, h⟩ := bnd_e h
  obtain ⟨x34, hx34, h⟩ := bnd_e h
  obtain ⟨x35, hx35, h⟩ := bno_e h
  obtain ⟨x36, hx36, h⟩ := bnd_e h
  refine iwp_drw rfl [⟨[5], [], [(40, .slice false (x1.map eStr.d))], []⟩,
   ⟨[6], [], [(41, .int .i64 x5)], []⟩,
   ⟨[40, 41], [], [(42, .fptr [.str x12])], []⟩,
   ⟨[42], [], [(43, .str x12)], []⟩,
   ⟨[5], [], [(44, .slice false (x1.map eStr.d))], []⟩,
   ⟨[7], [], [(45, .int .i64 x7)], []⟩,
   ⟨[44, 45], [], [(46, .fptr [.str x13])], []⟩,
   ⟨[46], [], [(47, .str x13)], []⟩,
   ⟨[43, 47], [], [(48, .bool x14)], []⟩,
   ⟨[6], [], [(49, .int .i64 x5)], []⟩,
   ⟨[7], [], [(50, .int .i64 x7)], []⟩,
   ⟨[49, 50], [], [(51, .bool x15)], []⟩,
   ⟨[48, 51], [], [(52, .bool x16)], []⟩,
   ⟨[52], [], [(53, .bool x16)], []⟩,
   ⟨[9, 53], [], [(54, .cnd (x16 == true) (.int .i64 x9.2))], []⟩,
   ⟨[53, 54], [], [(55, .cnd (x16 == true) (.bool x17))], []⟩,
   ⟨[53, 55], [], [(56, .bool x18)], []⟩,
   ⟨[56], [], [(57, .bool x18)], []⟩,
   ⟨[11, 57], [], [(58, .cnd (x18 == true) (.int .i64 x10.2))], []⟩,
   ⟨[57, 58], [], [(59, .cnd (x18 == true) (.bool x19))], []⟩,
   ⟨[57, 59], [], [(60, .bool x20)], []⟩,
   ⟨[60], [], [(61, .bool x20)], []⟩,
   ⟨[10, 61], [], [(62, .cnd (x20 == true) (.ref 0 0))], []⟩,
   ⟨[61, 62], [0], [(63, .cnd (x20 == true) (.int .u8 x10.1.Kind))], []⟩,
   ⟨[6, 61], [], [(64, .cnd (x20 == true) (.int .i64 x5))], []⟩,
   ⟨[61, 64], [], [(65, .cnd (x20 == true) (.int .u8 x21))], []⟩,
   ⟨[61, 63, 65], [], [(66, .cnd (x20 == true) (.bool x22))], []⟩,
   ⟨[61, 66], [], [(67, .bool x23)], []⟩,
   ⟨[67], [], [(68, .bool x23)], []⟩,
   ⟨[12, 68], [], [(69, .cnd (x23 == true) (.int .i64 (x11.length : Int)))], []⟩,
   ⟨[68, 69], [], [(70, .cnd (x23 == true) (.bool x24))], []⟩,
   ⟨[68, 70], [], [(71, .bool x25)], []⟩,
   ⟨[71], [], [(72, .bool x25)], []⟩,
   ⟨[8, 72], [], [(73, .cnd (x25 == true) (.str x9.1))], []⟩,
   ⟨[72, 73], [], [(74, .cnd (x25 == true) (.int .i64 (x9.1.length : Int)))], []⟩,
   ⟨[12, 72], [], [(75, .cnd (x25 == true) (.int .i64 (x11.length : Int)))], []⟩,
   ⟨[72, 74, 75], [], [(76, .cnd (x25 == true) (.bool x26))], []⟩,
   ⟨[72, 76], [], [(77, .bool x27)], []⟩,
   ⟨[77], [], [(78, .bool x27)], []⟩,
   ⟨[8, 78], [], [(79, .cnd (x27 == true) (.str x9.1))], []⟩,
   ⟨[12, 78], [], [(80, .cnd (x27 == true) (.int .i64 (x11.length : Int)))], []⟩,
   ⟨[78, 79, 80], [], [(81, .cnd (x27 == true) (.str x28))], []⟩,
   ⟨[5, 78], [], [(82, .cnd (x27 == true) (.slice false (x1.map eStr.d)))], []⟩,
   ⟨[6, 78], [], [(83, .cnd (x27 == true) (.int .i64 x5))], []⟩,
   ⟨[78, 82, 83], [], [(84, .cnd (x27 == true) (.fptr [.str x29]))], []⟩,
   ⟨[78, 84], [], [(85, .cnd (x27 == true) (.str x29))], []⟩,
   ⟨[78, 81, 85], [], [(86, .cnd (x27 == true) (.bool x30))], []⟩,
   ⟨[78, 86], [], [(87, .bool x31)], []⟩,
   ⟨[87], [], [(88, .bool x31)], []⟩,
   ⟨[8, 88], [], [(89, .cnd (x31 == true) (.str x9.1))], []⟩,
   ⟨[12, 88], [], [(90, .cnd (x31 == true) (.int .i64 (x11.length : Int)))], []⟩,
   ⟨[88, 89, 90], [], [(91, .cnd (x31 == true) (.int .u8 (x32.toNat : Int)))], []⟩,
   ⟨[88, 91], [], [(92, .cnd (x31 == true) (.bool x33))], []⟩,
   ⟨[88, 92], [], [(93, .bool x34)], []⟩,
   ⟨[93], [], [(94, .bool x34)], []⟩,
   ⟨[94], [], [(95, .cnd (x34 == true) (.bool x35))], []⟩,
   ⟨[94, 95], [], [(96, .bool x36)], []⟩,
   ⟨[96], [], [(4, .bool x36)], []⟩] rfl ?_ (by kernel_rfl) ?_
  ·refine .cons (lop rfl rfl fun S hA => (iop_move rfl rfl (lb rfl) (svaL hA rfl rfl))) ?_
   refine .cons (lop rfl rfl fun S hA => (iop_move rfl rfl (lb rfl) (svaI hA rfl rfl))) ?_
   refine .cons (lop rfl rfl fun S hA => (iop_idxT eStr (cs := [.str _]) rfl rfl (lb rfl) Tryd.underlying42 ti9 (svaL hA rfl rfl) (svaI hA rfl rfl) hx12 rfl rfl)) ?_
   refine .cons (lop rfl rfl fun S hA => (iop_load_fs rfl rfl (lb rfl) Tryd.underlying9 ag9 ti9 (by decide) (sv (d := .fptr [.str _]) (agr hA rfl rfl)) (nle rfl))) ?_
   refine .cons (lop rfl rfl fun S hA => (iop_move rfl rfl (lb rfl) (svaL hA rfl rfl))) ?_
   refine .cons (lop rfl rfl fun S hA => (iop_move rfl rfl (lb rfl) (svaI hA rfl rfl))) ?_
   refine .cons (lop rfl rfl fun S hA => (iop_idxT eStr (cs := [.str _]) rfl rfl (lb rfl) Tryd.underlying42 ti9 (svaL hA rfl rfl) (svaI hA rfl rfl) hx13 rfl rfl)) ?_
   refine .cons (lop rfl rfl fun S hA => (iop_load_fs rfl rfl (lb rfl) Tryd.underlying9 ag9 ti9 (by decide) (sv (d := .fptr [.str _]) (agr hA rfl rfl)) (nle rfl))) ?_
   refine .cons (lop rfl rfl fun S hA => (iop_strx rfl rfl (lb rfl) (sv (d := .str _) (agr hA rfl rfl)) (sv (d := .str _) (agr hA rfl rfl)) rfl hx14)) ?_
   refine .cons (lop rfl rfl fun S hA => (iop_move rfl rfl (lb rfl) (svaI hA rfl rfl))) ?_
   refine .cons (lop rfl rfl fun S hA => (iop_move rfl rfl (lb rfl) (svaI hA rfl rfl))) ?_
   refine .cons (lop rfl rfl fun S hA => (iop_cmpx rfl rfl (lb rfl) (svaI hA rfl rfl) (svaI hA rfl rfl) rfl hx15)) ?_
   refine .cons (lop rfl rfl fun S hA => (iop_eqbx rfl rfl (lb rfl) Tryd.underlying4 (svaB hA rfl rfl) (svaB hA rfl rfl) hx16)) ?_
   refine .cons (lop rfl rfl fun S hA => (iop_move rfl rfl (lb rfl) (svaB hA rfl rfl))) ?_
   refine .cons (lopg rfl rfl rfl rfl (by decide) (fun S hA => grd1 hA rfl rfl) (fun S hA hb => (iop_move rfl rfl (lb rfl) (svaI hA rfl rfl)))) ?_
   refine .cons (lopg rfl rfl rfl rfl (by decide) (fun S hA => grd1 hA rfl rfl) (fun S hA hb => (iop_cmpx rfl rfl (lb rfl) (svc (d := .int _ _) (agr hA rfl rfl) hb) (sv (d := .int _ 0) rfl) rfl hx17))) ?_
   refine .cons (lop rfl rfl fun S hA => (iop_andx rfl rfl (lb rfl) (svaB hA rfl rfl) (agr hA rfl rfl) rfl hx18)) ?_
   refine .cons (lop rfl rfl fun S hA => (iop_move rfl rfl (lb rfl) (svaB hA rfl rfl))) ?_
   refine .cons (lopg rfl rfl rfl rfl (by decide) (fun S hA => grd1 hA rfl rfl) (fun S hA hb => (iop_move rfl rfl (lb rfl) (svaI hA rfl rfl)))) ?_
   refine .cons (lopg rfl rfl rfl rfl (by decide) (fun S hA => grd1 hA rfl rfl) (fun S hA hb => (iop_cmpx rfl rfl (lb rfl) (svc (d := .int _ _) (agr hA rfl rfl) hb) (sv (d := .int _ 0) rfl) rfl hx19))) ?_
   refine .cons (lop rfl rfl fun S hA => (iop_andx rfl rfl (lb rfl) (svaB hA rfl rfl) (agr hA rfl rfl) rfl hx20)) ?_
   refine .cons (lop rfl rfl fun S hA => (iop_move rfl rfl (lb rfl) (svaB hA rfl rfl))) ?_
   refine .cons (lopg rfl rfl rfl rfl (by decide) (fun S hA => grd1 hA rfl rfl) (fun S hA hb => (iop_fieldAddr_ref rfl rfl (lb rfl) Tryd.underlying24 rfl ti5 (by decide) (svaR hA rfl rfl) (off' := 0) rfl))) ?_
   refine .cons (lopg rfl rfl rfl rfl (by decide) (fun S hA => grd1 hA rfl rfl) (fun S hA hb => (iop_load_rs (d := .int _ _) rfl rfl (lb rfl) Tryd.underlying5 ag5 ti5 (by decide) (svc (d := .ref _ _) (agr hA rfl rfl) hb) (agi hA rfl rfl) (nle rfl) rfl))) ?_
   refine .cons (lopg rfl rfl rfl rfl (by decide) (fun S hA => grd1 hA rfl rfl) (fun S hA hb => (iop_move rfl rfl (lb rfl) (svaI hA rfl rfl)))) ?_
   refine .cons (lopg rfl rfl rfl rfl (by decide) (fun S hA => grd1 hA rfl rfl) (fun S hA hb => (iop_int_conv rfl rfl (lb rfl) ⟨_, Tryd.underlying3⟩ Tryd.underlying5 (svc (d := .int _ _) (agr hA rfl rfl) hb) hx21))) ?_
   refine .cons (lopg rfl rfl rfl rfl (by decide) (fun S hA => grd1 hA rfl rfl) (fun S hA hb => (iop_cmpx rfl rfl (lb rfl) (svc (d := .int _ _) (agr hA rfl rfl) hb) (svc (d := .int _ _) (agr hA rfl rfl) hb) rfl hx22))) ?_
   refine .cons (lop rfl rfl fun S hA => (iop_andx rfl rfl (lb rfl) (svaB hA rfl rfl) (agr hA rfl rfl) rfl hx23)) ?_
   refine .cons (lop rfl rfl fun S hA => (iop_move rfl rfl (lb rfl) (svaB hA rfl rfl))) ?_
   refine .cons (lopg rfl rfl rfl rfl (by decide) (fun S hA => grd1 hA rfl rfl) (fun S hA hb => (iop_move rfl rfl (lb rfl) (svaI hA rfl rfl)))) ?_
   refine .cons (lopg rfl rfl rfl rfl (by decide) (fun S hA => grd1 hA rfl rfl) (fun S hA hb => (iop_cmpx rfl rfl (lb rfl) (svc (d := .int _ _) (agr hA rfl rfl) hb) (sv (d := .int _ 0) rfl) rfl hx24))) ?_
   refine .cons (lop rfl rfl fun S hA => (iop_andx rfl rfl (lb rfl) (svaB hA rfl rfl) (agr hA rfl rfl) rfl hx25)) ?_
   refine .cons (lop rfl rfl fun S hA => (iop_move rfl rfl (lb rfl) (svaB hA rfl rfl))) ?_
   refine .cons (lopg rfl rfl rfl rfl (by decide) (fun S hA => grd1 hA rfl rfl) (fun S hA hb => (iop_move rfl rfl (lb rfl) (sv (d := .str _) (agr hA rfl rfl))))) ?_
   refine .cons (lopg rfl rfl rfl rfl (by decide) (fun S hA => grd1 hA rfl rfl) (fun S hA hb => (iop_len_str rfl rfl (lb rfl) Tryd.underlying9 (svc (d := .str _) (agr hA rfl rfl) hb) rfl))) ?_
   refine .cons (lopg rfl rfl rfl rfl (by decide) (fun S hA => grd1 hA rfl rfl) (fun S hA hb => (iop_move rfl rfl (lb rfl) (svaI hA rfl rfl)))) ?_
   refine .cons (lopg rfl rfl rfl rfl (by decide) (fun S hA => grd1 hA rfl rfl) (fun S hA hb => (iop_cmpx rfl rfl (lb rfl) (svc (d := .int _ _) (agr hA rfl rfl) hb) (svc (d := .int _ _) (agr hA rfl rfl) hb) rfl hx26))) ?_
   refine .cons (lop rfl rfl fun S hA => (iop_andx rfl rfl (lb rfl) (svaB hA rfl rfl) (agr hA rfl rfl) rfl hx27)) ?_
   refine .cons (lop rfl rfl fun S hA => (iop_move rfl rfl (lb rfl) (svaB hA rfl rfl))) ?_
   refine .cons (lopg rfl rfl rfl rfl (by decide) (fun S hA => grd1 hA rfl rfl) (fun S hA hb => (iop_move rfl rfl (lb rfl) (sv (d := .str _) (agr hA rfl rfl))))) ?_
   refine .cons (lopg rfl rfl rfl rfl (by decide) (fun S hA => grd1 hA rfl rfl) (fun S hA hb => (iop_move rfl rfl (lb rfl) (svaI hA rfl rfl)))) ?_
   refine .cons (lopg rfl rfl rfl rfl (by decide) (fun S hA => grd1 hA rfl rfl) (fun S hA hb => (iop_cutS rfl rfl (lb rfl) Tryd.underlying9 (svc (d := .str _) (agr hA rfl rfl) hb) rfl ⟨_, (svc (d := .int _ _) (agr hA rfl rfl) hb)⟩ (gd_t hx28 hb)))) ?_
   refine .cons (lopg rfl rfl rfl rfl (by decide) (fun S hA => grd1 hA rfl rfl) (fun S hA hb => (iop_move rfl rfl (lb rfl) (svaL hA rfl rfl)))) ?_
   refine .cons (lopg rfl rfl rfl rfl (by decide) (fun S hA => grd1 hA rfl rfl) (fun S hA hb => (iop_move rfl rfl (lb rfl) (svaI hA rfl rfl)))) ?_
   refine .cons (lopg rfl rfl rfl rfl (by decide) (fun S hA => grd1 hA rfl rfl) (fun S hA hb => (iop_idxT eStr (cs := [.str _]) rfl rfl (lb rfl) Tryd.underlying42 ti9 (svc (d := .slice _ _) (agr hA rfl rfl) hb) (svc (d := .int _ _) (agr hA rfl rfl) hb) (gd_t hx29 hb) rfl rfl))) ?_
   refine .cons (lopg rfl rfl rfl rfl (by decide) (fun S hA => grd1 hA rfl rfl) (fun S hA hb => (iop_load_fs rfl rfl (lb rfl) Tryd.underlying9 ag9 ti9 (by decide) (svc (d := .fptr [.str _]) (agr hA rfl rfl) hb) (nle rfl)))) ?_
   refine .cons (lopg rfl rfl rfl rfl (by decide) (fun S hA => grd1 hA rfl rfl) (fun S hA hb => (iop_strx rfl rfl (lb rfl) (svc (d := .str _) (agr hA rfl rfl) hb) (svc (d := .str _) (agr hA rfl rfl) hb) rfl hx30))) ?_
   refine .cons (lop rfl rfl fun S hA => (iop_andx rfl rfl (lb rfl) (svaB hA rfl rfl) (agr hA rfl rfl) rfl hx31)) ?_
   refine .cons (lop rfl rfl fun S hA => (iop_move rfl rfl (lb rfl) (svaB hA rfl rfl))) ?_
   refine .cons (lopg rfl rfl rfl rfl (by decide) (fun S hA => grd1 hA rfl rfl) (fun S hA hb => (iop_move rfl rfl (lb rfl) (sv (d := .str _) (agr hA rfl rfl))))) ?_
   refine .cons (lopg rfl rfl rfl rfl (by decide) (fun S hA => grd1 hA rfl rfl) (fun S hA hb => (iop_move rfl rfl (lb rfl) (svaI hA rfl rfl)))) ?_
   refine .cons (lopg rfl rfl rfl rfl (by decide) (fun S hA => grd1 hA rfl rfl) (fun S hA hb => (iop_str_at rfl rfl (lb rfl) Tryd.underlying9 (svc (d := .str _) (agr hA rfl rfl) hb) (svc (d := .int _ _) (agr hA rfl rfl) hb) (gd_t hx32 hb)))) ?_
   refine .cons (lopg rfl rfl rfl rfl (by decide) (fun S hA => grd1 hA rfl rfl) (fun S hA hb => (iop_cmpx rfl rfl (lb rfl) (svc (d := .int _ _) (agr hA rfl rfl) hb) (sv (d := .int _ 32) rfl) rfl hx33))) ?_
   refine .cons (lop rfl rfl fun S hA => (iop_andx rfl rfl (lb rfl) (svaB hA rfl rfl) (agr hA rfl rfl) rfl hx34)) ?_
   refine .cons (lop rfl rfl fun S hA => (iop_move rfl rfl (lb rfl) (svaB hA rfl rfl))) ?_
   refine .cons (lopg rfl rfl rfl rfl (by decide) (fun S hA => grd1 hA rfl rfl) (fun S hA hb => (iop_call (r := .bool _) rfl rfl (lb rfl) cl8 .nil rfl (p_sennitlaw33_awake  _ (gd_t hx35 hb))))) ?_
   refine .cons (lop rfl rfl fun S hA => (iop_andx rfl rfl (lb rfl) (svaB hA rfl rfl) (agr hA rfl rfl) rfl hx36)) ?_
   refine .cons (lop rfl rfl fun S hA => (iop_assign rfl rfl (lb rfl) (svaB hA rfl rfl))) ?_
   exact .nil
  refine iwp_ret ?_
  obtain rfl := Option.some.inj h
  refine ⟨.inr rfl, (.cons (sv rfl) .nil)⟩
end Go.Proofs.YtmidijokooidcaaDoor
