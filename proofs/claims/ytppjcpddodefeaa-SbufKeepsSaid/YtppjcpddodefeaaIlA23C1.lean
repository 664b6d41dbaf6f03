/-
  A part of the proof: rules and plain facts. No condition.
-/
import Derived.Test.YtppjcpddodefeaaProg
import Derived.KernelRfl
import Derived.Test.YtppjcpddodefeaaIlA23D
set_option linter.all false
set_option linter.unusedSimpArgs false
set_option linter.unusedVariables false
set_option maxRecDepth 8000
set_option maxHeartbeats 2000000
open Go Go.IL Go.Fn Go.Proofs
namespace Go.Proofs.Ytppjcpddodefeaa
theorem ti3 : TI Try.prog 3 (some (.int .i64 0)) 1 8 := by unfold TI; kernel_rfl
theorem ti4 : TI Try.prog 4 (some (.bool false)) 1 1 := by unfold TI; kernel_rfl
theorem ti9 : TI Try.prog 9 (some (.string ⟨#[]⟩)) 1 16 := by unfold TI; kernel_rfl
theorem ti25 : TI Try.prog 25 (some (.slice none 0 0)) 1 24 := by unfold TI; kernel_rfl
theorem ti27 : TI Try.prog 27 (some (.slice none 0 0)) 1 24 := by unfold TI; kernel_rfl
theorem ti29 : TI Try.prog 29 (some (.agg #[.int .i64 0, .string ⟨#[]⟩, .int .i64 0, .slice none 0 0, .slice none 0 0, .bool false, .bool false, .bool false, .bool false])) 9 88 := by unfold TI; kernel_rfl
theorem ti39 : TI Try.prog 39 (some (.agg #[.int .i64 0, .int .i64 0, .int .i64 0, .bool false])) 4 32 := by unfold TI; kernel_rfl
theorem ti59 : TI Try.prog 59 (some (.agg #[.int .i64 0, .int .i64 0])) 2 16 := by unfold TI; kernel_rfl
theorem ti79 : TI Try.prog 79 (some (.agg #[.int .i64 0, .int .i64 0, .int .i64 0, .int .i64 0])) 4 32 := by unfold TI; kernel_rfl
theorem ag3 : aggOf Try.prog 3 = false := by kernel_rfl
theorem ag4 : aggOf Try.prog 4 = false := by kernel_rfl
theorem ag9 : aggOf Try.prog 9 = false := by kernel_rfl
theorem ag25 : aggOf Try.prog 25 = false := by kernel_rfl
theorem ag27 : aggOf Try.prog 27 = false := by kernel_rfl
theorem ag29 : aggOf Try.prog 29 = true := by kernel_rfl
theorem ag39 : aggOf Try.prog 39 = true := by kernel_rfl
theorem ag59 : aggOf Try.prog 59 = true := by kernel_rfl
theorem ex42 : ExternAt Try.prog 42 (Extern.SlicesOverlaps.overlaps #[25, 25] #[4]) := ⟨Try.f42, Try.func42, by kernel_rfl, by kernel_rfl, by kernel_rfl, by kernel_rfl⟩
theorem pl29 : ∀ w, (Array.mapM (m := Sem) (fun (f : Field) => Functor.map (Prod.mk f.offset) (sizeOf f.type)) (fieldsOf Try.prog 29)).run Try.prog w = .ok #[(0, 1), (1, 1), (2, 1), (3, 1), (4, 1), (5, 1), (6, 1), (7, 1), (8, 1)] w := fun w => by kernel_rfl
theorem pl39 : ∀ w, (Array.mapM (m := Sem) (fun (f : Field) => Functor.map (Prod.mk f.offset) (sizeOf f.type)) (fieldsOf Try.prog 39)).run Try.prog w = .ok #[(0, 1), (1, 1), (2, 1), (3, 1)] w := fun w => by kernel_rfl
theorem pl59 : ∀ w, (Array.mapM (m := Sem) (fun (f : Field) => Functor.map (Prod.mk f.offset) (sizeOf f.type)) (fieldsOf Try.prog 59)).run Try.prog w = .ok #[(0, 1), (1, 1)] w := fun w => by kernel_rfl
theorem st59 : Try.prog.stoodInHeld 59 = false ∧ Try.prog.eqGuardType Try.prog.depth 59 = false := ⟨by kernel_rfl, by kernel_rfl⟩
theorem cl10 : Callable Try.prog 10 := ⟨Try.f10, Try.func10, rfl, rfl⟩
theorem cl13 : Callable Try.prog 13 := ⟨Try.f13, Try.func13, rfl, rfl⟩
theorem cl19 : Callable Try.prog 19 := ⟨Try.f19, Try.func19, rfl, rfl⟩
theorem cl20 : Callable Try.prog 20 := ⟨Try.f20, Try.func20, rfl, rfl⟩
theorem cl21 : Callable Try.prog 21 := ⟨Try.f21, Try.func21, rfl, rfl⟩
theorem cl22 : Callable Try.prog 22 := ⟨Try.f22, Try.func22, rfl, rfl⟩
theorem cl23 : Callable Try.prog 23 := ⟨Try.f23, Try.func23, rfl, rfl⟩
theorem cl24 : Callable Try.prog 24 := ⟨Try.f24, Try.func24, rfl, rfl⟩
theorem cl25 : Callable Try.prog 25 := ⟨Try.f25, Try.func25, rfl, rfl⟩
theorem cl26 : Callable Try.prog 26 := ⟨Try.f26, Try.func26, rfl, rfl⟩
theorem cl27 : Callable Try.prog 27 := ⟨Try.f27, Try.func27, rfl, rfl⟩
theorem cl28 : Callable Try.prog 28 := ⟨Try.f28, Try.func28, rfl, rfl⟩
theorem cl29 : Callable Try.prog 29 := ⟨Try.f29, Try.func29, rfl, rfl⟩
theorem cl30 : Callable Try.prog 30 := ⟨Try.f30, Try.func30, rfl, rfl⟩
theorem cl31 : Callable Try.prog 31 := ⟨Try.f31, Try.func31, rfl, rfl⟩
theorem cl32 : Callable Try.prog 32 := ⟨Try.f32, Try.func32, rfl, rfl⟩
theorem cl33 : Callable Try.prog 33 := ⟨Try.f33, Try.func33, rfl, rfl⟩
theorem cl36 : Callable Try.prog 36 := ⟨Try.f36, Try.func36, rfl, rfl⟩
theorem cl37 : Callable Try.prog 37 := ⟨Try.f37, Try.func37, rfl, rfl⟩
theorem cl38 : Callable Try.prog 38 := ⟨Try.f38, Try.func38, rfl, rfl⟩
theorem cl39 : Callable Try.prog 39 := ⟨Try.f39, Try.func39, rfl, rfl⟩
theorem cl40 : Callable Try.prog 40 := ⟨Try.f40, Try.func40, rfl, rfl⟩
theorem cl41 : Callable Try.prog 41 := ⟨Try.f41, Try.func41, rfl, rfl⟩
theorem cl44 : Callable Try.prog 44 := ⟨Try.f44, Try.func44, rfl, rfl⟩
theorem cl45 : Callable Try.prog 45 := ⟨Try.f45, Try.func45, rfl, rfl⟩
theorem cl46 : Callable Try.prog 46 := ⟨Try.f46, Try.func46, rfl, rfl⟩
theorem cl47 : Callable Try.prog 47 := ⟨Try.f47, Try.func47, rfl, rfl⟩
theorem cl48 : Callable Try.prog 48 := ⟨Try.f48, Try.func48, rfl, rfl⟩
theorem cl49 : Callable Try.prog 49 := ⟨Try.f49, Try.func49, rfl, rfl⟩
theorem cl50 : Callable Try.prog 50 := ⟨Try.f50, Try.func50, rfl, rfl⟩
theorem cl51 : Callable Try.prog 51 := ⟨Try.f51, Try.func51, rfl, rfl⟩
theorem cl52 : Callable Try.prog 52 := ⟨Try.f52, Try.func52, rfl, rfl⟩
theorem cl54 : Callable Try.prog 54 := ⟨Try.f54, Try.func54, rfl, rfl⟩
def la25 := LA.mk Try.underlying25 ag25 ti25 (by decide)
def la27 := LA.mk Try.underlying27 ag27 ti27 (by decide)
def la29 := LA.mk Try.underlying29 ag29 ti29 (by decide)
def la39 := LA.mk Try.underlying39 ag39 ti39 (by decide)
def la59 := LA.mk Try.underlying59 ag59 ti59 (by decide)
abbrev v0 (x : T_sbuf_State) : List D := [.int .i64 x.Base, .str x.Data, .int .i64 x.Next, .slice false (x.Pieces.map E_sbuf_Piece.d), .slice false (x.Lost.map E_ivals_Ival.d), .bool x.Closed, .bool x.Sent, .bool x.Again, .bool x.Done]
abbrev v1 (x : T_sbuf_Piece) : List D := [.int .i64 x.From, .int .i64 x.To, .int .i64 x.Path, .bool x.Fin]
abbrev v2 (x : T_sennitlaw23_Act) : List D := [.int .u8 x.Kind, .int .u8 x.N, .int .u8 x.Path, .bool x.Fin]
abbrev q3 {a1 : IntKind} {a2 : Int} {a3 : List UInt8} {a4 : IntKind} {a5 : Int} {a6 : Bool} {a7 : List D} {a8 : Bool} {a9 : List D} {a10 : Bool} {a11 : Bool} {a12 : Bool} {a13 : Bool} : List D := [.int a1 a2, .str a3, .int a4 a5, .slice a6 a7, .slice a8 a9, .bool a10, .bool a11, .bool a12, .bool a13]
abbrev q4 {a1 : IntKind} {a2 : Int} {a3 : List UInt8} {a4 : IntKind} {a5 : Int} {a6 : Nat} {a7 : Nat} {a8 : Nat} {a9 : Bool} {a10 : List D} {a11 : Bool} {a12 : Bool} {a13 : Bool} {a14 : Bool} : List D := [.int a1 a2, .str a3, .int a4 a5, .osl a6 a7 a8, .slice a9 a10, .bool a11, .bool a12, .bool a13, .bool a14]
abbrev q5 {a1 : IntKind} {a2 : Int} {a3 : List UInt8} {a4 : IntKind} {a5 : Int} {a6 : Bool} {a7 : Bool} {a8 : Bool} {a9 : Bool} : List D := [.int a1 a2, .str a3, .int a4 a5, .nils, .nils, .bool a6, .bool a7, .bool a8, .bool a9]
abbrev q6 {a1 : IntKind} {a2 : Int} {a3 : IntKind} {a4 : Int} {a5 : IntKind} {a6 : Int} {a7 : Bool} : List D := [.int a1 a2, .int a3 a4, .int a5 a6, .bool a7]
abbrev q7 {a1 : IntKind} {a2 : Int} {a3 : IntKind} {a4 : Int} : List D := [.int a1 a2, .int a3 a4]
abbrev q8 {a1 : IntKind} {a2 : Int} {a3 : List UInt8} {a4 : IntKind} {a5 : Int} {a6 : Bool} {a7 : List D} {a8 : Bool} {a9 : List D} {a10 : Bool} {a11 : Bool} {a12 : Bool} {a13 : Bool} {a14 : IntKind} {a15 : Int} {a16 : IntKind} {a17 : Int} {a18 : IntKind} {a19 : Int} {a20 : Bool} {a21 : List UInt8} {a22 : Bool} : List D := [.agg [.int a1 a2, .str a3, .int a4 a5, .slice a6 a7, .slice a8 a9, .bool a10, .bool a11, .bool a12, .bool a13], .agg [.int a14 a15, .int a16 a17, .int a18 a19, .bool a20], .str a21, .bool a22]
abbrev q9 {a1 : IntKind} {a2 : Int} {a3 : List UInt8} {a4 : IntKind} {a5 : Int} {a6 : Bool} {a7 : List D} {a8 : Bool} {a9 : List D} {a10 : Bool} {a11 : Bool} {a12 : Bool} {a13 : Bool} {a14 : IntKind} {a15 : Int} : List D := [.agg [.int a1 a2, .str a3, .int a4 a5, .slice a6 a7, .slice a8 a9, .bool a10, .bool a11, .bool a12, .bool a13], .int a14 a15]
abbrev q10 {a1 : IntKind} {a2 : Int} {a3 : IntKind} {a4 : Int} {a5 : IntKind} {a6 : Int} {a7 : Bool} {a8 : Bool} : List D := [.agg [.int a1 a2, .int a3 a4, .int a5 a6, .bool a7], .bool a8]
abbrev w11 (a0 : Int) (a1 : List UInt8) (a2 : Int) (a3 : List T_sbuf_Piece) (a4 : List T_ivals_Ival) (a5 : Bool) (a6 : Bool) (a7 : Bool) (a8 : Bool) : List D := [.int .i64 a0, .str a1, .int .i64 a2, .slice false (a3.map E_sbuf_Piece.d), .slice false (a4.map E_ivals_Ival.d), .bool a5, .bool a6, .bool a7, .bool a8]
abbrev w12 (a0 : Int) (a1 : List UInt8) (a2 : Int) (a3 : D) (a4 : List T_ivals_Ival) (a5 : Bool) (a6 : Bool) (a7 : Bool) (a8 : Bool) : List D := [.int .i64 a0, .str a1, .int .i64 a2, a3, .slice false (a4.map E_ivals_Ival.d), .bool a5, .bool a6, .bool a7, .bool a8]
abbrev w13 (a0 : Int) (a1 : Int) (a2 : Int) (a3 : Int) : List D := [.int .i64 a0, .int .i64 a1, .int .i64 a2, .int .i64 a3]
abbrev w14 (a0 : Int) (a1 : Int) (a2 : Int) (a3 : Bool) : List D := [.int .i64 a0, .int .i64 a1, .int .i64 a2, .bool a3]


theorem p_sbuf_New  (r : T_sbuf_State) (h : sbuf_New = some r) : PureAt Try.prog 7 [] (.agg (v0 r)) := by
 refine pure_of_iwp (rs := [.agg (v0 r)]) Try.func7 rfl Try.ntmps7 (nle rfl) rfl fun O hO => ?_
 show IWP _ _ _ _ ⟨[], []⟩ _
 unfold sbuf_New at h
 refine iwp_reg (ils_cons rfl (iop_allocS (cs := q5) (cs' := (w11 0 [] 0 ([] : List T_sbuf_Piece) ([] : List T_ivals_Ival) false false false false)) 0 rfl rfl (lb rfl) rfl ti29 rfl rfl (.k (.k (.k (.cons (.nils _) (.cons (.nils _) (.all _))))))) <|
  ils_end ?_)
 refine iwp_reg (ils_cons rfl (iop_sub (d' := .agg (w11 0 [] 0 ([] : List T_sbuf_Piece) ([] : List T_ivals_Ival) false false false false)) (iop_build_struct (cs := q5) rfl rfl (lb rfl) Try.underlying29 ti29 pl29 rfl .nil rfl) (.agg (.k (.k (.k (.cons (.nils _) (.cons (.nils _) (.all _)))))))) <|
  ils_cons rfl (iop_store (ds' := [.int _ _, .str _, .int _ _, .slice false (([] : List T_sbuf_Piece).map E_sbuf_Piece.d), .slice false (([] : List T_ivals_Ival).map E_ivals_Ival.d), .bool _, .bool _, .bool _, .bool _]) rfl rfl ti29 (svR rfl) rfl (svA q3 rfl) rfl rfl rfl (nle rfl) rfl) <|
  ils_end ?_)
 refine iwp_ret ?_
 obtain rfl := Option.some.inj h
 refine ⟨.inr rfl, (.cons (rva la29 rfl rfl (nle rfl) rfl) .nil)⟩

theorem p_slices_Clone_ivals_Set_ivals_Ival (a0 : (List T_ivals_Ival)) (r : (List T_ivals_Ival)) (h : slices_Clone_ivals_Set_ivals_Ival a0 = some r) : PureAt Try.prog 37 [.slice false (a0.map E_ivals_Ival.d)] (.slice false (r.map E_ivals_Ival.d)) := by
 refine pure_of_iwp (rs := [.slice false (r.map E_ivals_Ival.d)]) Try.func37 rfl Try.ntmps37 (nle rfl) rfl fun O hO => ?_
 show IWP _ _ _ _ ⟨[(0, .slice false (a0.map E_ivals_Ival.d))], []⟩ _
 unfold slices_Clone_ivals_Set_ivals_Ival at h
 refine iwp_reg (ils_cons rfl (iop_assign rfl rfl (lb rfl) (sv (d := .nils) rfl)) <|
  ils_end ?_)
 refine iwp_seq ?_
 refine iwp_reg (ils_cons rfl (mvL rfl rfl rfl rfl) <|
  ils_eqnil rfl rfl rfl (by decide) Try.underlying27 (svL rfl) rfl <| fun bn1 hbn1 =>
  ils_end ?_)
 refine iwp_cond (b := _) rfl (fun hc2 => ?_) (fun hc2 => ?_)
 ·
  replace h := bothE_t h (mapE (hbn1 hc2))
  refine iwp_reg (ils_cons rfl (iop_assign rfl rfl (lb rfl) (sv (d := .nils) rfl)) <|
   ils_end ?_)
  refine iwp_ret ?_
  refine thenQ_r ?_
  obtain rfl := Option.some.inj h
  refine ⟨.inr rfl, (.cons (svn_of rfl rfl) .nil)⟩
 ·
  replace h := bothE_f h
  refine iwp_skip ?_
  refine thenQ_n ?_
  obtain ⟨x3, hx3, h⟩ := bno_e h
  refine iwp_reg (ils_cons rfl (iop_bsT E_ivals_Ival ([] : (List T_ivals_Ival)) 0 rfl rfl (lb rfl) Try.underlying27 ti59 rfl .nil rfl rfl (by decide)) <|
   ils_cons rfl (mvL rfl rfl rfl rfl) <|
   ils_cons rfl (iop_appT E_ivals_Ival 1 rfl rfl (lb rfl) Try.underlying27 ti59 rfl rfl rfl rfl (svL rfl) hx3) <|
   ils_cons rfl (iop_assign rfl rfl (lb rfl) (sv (d := .gsl _ _ _) rfl)) <|
   ils_end ?_)
  refine iwp_ret ?_
  obtain rfl := Option.some.inj h
  refine ⟨.inr rfl, (.cons (svg_of rfl rfl) .nil)⟩

theorem p_sbuf_State_own_h (a0 : T_sbuf_State) (r : (Int × (List UInt8) × Int × (List T_sbuf_Piece) × (List T_ivals_Ival) × Bool × Bool × Bool × Bool)) (h : sbuf_State_own_h a0 = some r) : FnH Try.prog 19 [.agg (v0 a0)] [] (.agg (w12 r.1 r.2.1 r.2.2.1 (.osl 0 E_sbuf_Piece.sz r.2.2.2.1.length) r.2.2.2.2.1 r.2.2.2.2.2.1 r.2.2.2.2.2.2.1 r.2.2.2.2.2.2.2.1 r.2.2.2.2.2.2.2.2)) [(0, .blk 39 (D.flat (r.2.2.2.1.map E_sbuf_Piece.d)))] := by
 refine fnh_of_iwp (rs := [.agg (w12 r.1 r.2.1 r.2.2.1 (.osl 0 E_sbuf_Piece.sz r.2.2.2.1.length) r.2.2.2.2.1 r.2.2.2.2.2.1 r.2.2.2.2.2.2.1 r.2.2.2.2.2.2.2.1 r.2.2.2.2.2.2.2.2)]) Try.func19 rfl Try.ntmps19 (nle rfl) fun O hO => ?_
 show IWP _ _ _ _ ⟨[(0, .agg (v0 a0))], []⟩ _
 unfold sbuf_State_own_h at h
 refine iwp_reg (ils_cons rfl (iop_box' (cs := q3) 0 rfl rfl (lb rfl) rfl (svA q3 rfl) rfl rfl) <|
  ils_cons rfl (iop_allocS (cs := q5) (cs' := (w11 0 [] 0 ([] : List T_sbuf_Piece) ([] : List T_ivals_Ival) false false false false)) 1 rfl rfl (lb rfl) rfl ti29 rfl rfl (.k (.k (.k (.cons (.nils _) (.cons (.nils _) (.all _))))))) <|
  ils_end ?_)
 obtain ⟨x1, hx1, h⟩ := bno_e h
 refine iwp_reg (ils_cons rfl (faR 3 rfl rfl rfl Try.underlying29 rfl ti25 (lb rfl) rfl rfl) <|
  ils_cons rfl (lrL la25 rfl rfl rfl rfl rfl (nle rfl) rfl) <|
  ils_cons rfl (iop_lenT E_sbuf_Piece (l := a0.Pieces) rfl rfl (lb rfl) Try.underlying25 (svL rfl)) <|
  ils_cons rfl (iop_makeT E_sbuf_Piece.toEnc0 ((⟨0, 0, 0, false⟩ : T_sbuf_Piece) : T_sbuf_Piece) 2 rfl rfl (lb rfl) Try.underlying25 ti39 rfl rfl (svI rfl) hx1 (.all _)) <|
  ils_cons rfl (iop_assign rfl rfl (lb rfl) (sv (d := .osl _ _ _) rfl)) <|
  ils_end ?_)
 obtain ⟨x2, hx2, h⟩ := bnd_e h
 refine iwp_reg (ils_cons rfl (iop_move rfl rfl (lb rfl) (sv (d := .osl _ _ _) rfl)) <|
  ils_cons rfl (faR 3 rfl rfl rfl Try.underlying29 rfl ti25 (lb rfl) rfl rfl) <|
  ils_cons rfl (lrL la25 rfl rfl rfl rfl rfl (nle rfl) rfl) <|
  ils_cons rfl (iop_copyO E_sbuf_Piece.toEnc0 rfl rfl (lb rfl) Try.underlying25 ti39 rfl rfl rfl (src_T E_sbuf_Piece (ys := a0.Pieces) (svL rfl)) hx2) <|
  ils_end ?_)
 refine iwp_reg (ils_cons rfl (iop_move rfl rfl (lb rfl) (sv (d := .osl _ _ _) rfl)) <|
  ils_cons rfl (faR 3 rfl rfl rfl Try.underlying29 rfl ti25 (lb rfl) rfl rfl) <|
  ils_cons rfl (iop_store (ds' := q4) rfl rfl ti25 (svR rfl) rfl (sv (d := .osl _ _ _) rfl) rfl rfl rfl (nle rfl) rfl) <|
  ils_end ?_)
 obtain ⟨x3, hx3, h⟩ := bno_e h
 refine iwp_reg (ils_cons rfl (faR 4 rfl rfl rfl Try.underlying29 rfl ti27 (lb rfl) rfl rfl) <|
  ils_cons rfl (lrL la27 rfl rfl rfl rfl rfl (nle rfl) rfl) <|
  ils_cons rfl (iop_call (r := .slice _ _) rfl rfl (lb rfl) cl37 (.cons (svL rfl) .nil) rfl (p_slices_Clone_ivals_Set_ivals_Ival _ _ hx3)) <|
  ils_cons rfl (faR 4 rfl rfl rfl Try.underlying29 rfl ti27 (lb rfl) rfl rfl) <|
  ils_cons rfl (iop_store (ds' := q4) rfl rfl ti27 (svR rfl) rfl (svL rfl) rfl rfl rfl (nle rfl) rfl) <|
  ils_end ?_)
 refine iwp_reg (ils_cons rfl (lra q4 la29 rfl rfl rfl rfl rfl (nle rfl) rfl) <|
  ils_cons rfl (stA q4 q4 ti29 rfl rfl rfl rfl rfl rfl rfl rfl (nle rfl) rfl) <|
  ils_end ?_)
 refine iwp_ret ?_
 obtain rfl := Option.some.inj h
 refine ⟨.inr rfl, (fun i => if i = 0 then 2 else i), ⟨.nil, (.cons (EntW.lst rfl) .nil), nd_of [2] rfl (by decide), (fun i hi => by first | rfl | (show (if _ then _ else _) = _; (repeat' split) <;> omega))⟩, (.cons (rva la29 rfl rfl (nle rfl) (by rw [← (cpy_lenh hx2 rfl)]; rfl)) .nil), rfl⟩

theorem p_ivals_end (a0 : Int) (r : Bool) (h : ivals_end a0 = some r) : PureAt Try.prog 49 [.int .i64 a0] (.bool r) := by
 refine pure_of_iwp (rs := [.bool r]) Try.func49 rfl Try.ntmps49 (nle rfl) rfl fun O hO => ?_
 show IWP _ _ _ _ ⟨[(0, .int .i64 a0)], []⟩ _
 unfold ivals_end at h
 refine iwp_reg (ils_cons rfl (iop_assign rfl rfl (lb rfl) (sv (d := .bool false) rfl)) <|
  ils_end ?_)
 obtain ⟨x1, hx1, h⟩ := bnd_e h
 obtain ⟨x2, hx2, h⟩ := bnd_e h
 obtain ⟨x3, hx3, h⟩ := bnd_e h
 refine iwp_reg (ils_cons rfl (mvI rfl rfl rfl rfl) <|
  ils_cons rfl (iop_cmpx rfl rfl (lb rfl) (svI rfl) (sv (d := .int _ 0) rfl) rfl hx1) <|
  ils_cons rfl (mvB rfl rfl rfl rfl) <|
  ils_guard rfl rfl (.one rfl) rfl (by decide) (fun hb => (mvI rfl rfl rfl rfl)) <|
  ils_guard rfl rfl (.one rfl) rfl (by decide) (fun hb => (iop_cmpx rfl rfl (lb rfl) (svcI rfl hb) (sv (d := .int _ 4611686018427387903) rfl) rfl hx2)) <|
  ils_cons rfl (iop_andx rfl rfl (lb rfl) (svB rfl) rfl rfl hx3) <|
  ils_cons rfl (asB rfl rfl rfl rfl) <|
  ils_end ?_)
 refine iwp_ret ?_
 obtain rfl := Option.some.inj h
 refine ⟨.inr rfl, (.cons (sv rfl) .nil)⟩

theorem p_ivals_Ival_may (a0 : T_ivals_Ival) (r : Bool) (h : ivals_Ival_may a0 = some r) : PureAt Try.prog 38 [.agg [.int .i64 a0.From, .int .i64 a0.To]] (.bool r) := by
 refine pure_of_iwp (rs := [.bool r]) Try.func38 rfl Try.ntmps38 (nle rfl) rfl fun O hO => ?_
 show IWP _ _ _ _ ⟨[(0, .agg [.int .i64 a0.From, .int .i64 a0.To])], []⟩ _
 unfold ivals_Ival_may at h
 refine iwp_reg (ils_cons rfl (iop_box' (cs := q7) 0 rfl rfl (lb rfl) rfl (svA q7 rfl) rfl rfl) <|
  ils_cons rfl (iop_assign rfl rfl (lb rfl) (sv (d := .bool false) rfl)) <|
  ils_end ?_)
 obtain ⟨x1, hx1, h⟩ := bno_e h
 obtain ⟨x2, hx2, h⟩ := bno_e h
 obtain ⟨x3, hx3, h⟩ := bnd_e h
 refine iwp_reg (ils_cons rfl (faR 0 rfl rfl rfl Try.underlying59 rfl ti3 (lb rfl) rfl rfl) <|
  ils_cons rfl (iop_load_rs (d := .int _ _) rfl rfl (lb rfl) Try.underlying3 ag3 ti3 (by decide) (svR rfl) rfl (nle rfl) rfl) <|
  ils_cons rfl (iop_call (r := .bool _) rfl rfl (lb rfl) cl49 (.cons (svI rfl) .nil) rfl (p_ivals_end _ _ hx1)) <|
  ils_cons rfl (mvB rfl rfl rfl rfl) <|
  ils_guard rfl rfl (.one rfl) rfl (by decide) (fun hb => (faR 1 rfl rfl rfl Try.underlying59 rfl ti3 (lb rfl) rfl rfl)) <|
  ils_guard rfl rfl (.one rfl) rfl (by decide) (fun hb => (iop_load_rs (d := .int _ _) rfl rfl (lb rfl) Try.underlying3 ag3 ti3 (by decide) (svcR rfl hb) rfl (nle rfl) rfl)) <|
  ils_guard rfl rfl (.one rfl) rfl (by decide) (fun hb => (iop_call (r := .bool _) rfl rfl (lb rfl) cl49 (.cons (svcI rfl hb) .nil) rfl (p_ivals_end _ _ (gd_t hx2 hb)))) <|
  ils_cons rfl (iop_andx rfl rfl (lb rfl) (svB rfl) rfl rfl hx3) <|
  ils_cons rfl (asB rfl rfl rfl rfl) <|
  ils_end ?_)
 refine iwp_ret ?_
 obtain rfl := Option.some.inj h
 refine ⟨.inr rfl, (.cons (sv rfl) .nil)⟩

theorem p_ivals_Check_1 (a0 : T_ivals_Ival) (r : Bool) (h : ivals_Check_1 a0 = some r) : PureAt Try.prog 51 [.agg [.int .i64 a0.From, .int .i64 a0.To]] (.bool r) := by
 refine pure_of_iwp (rs := [.bool r]) Try.func51 rfl Try.ntmps51 (nle rfl) rfl fun O hO => ?_
 show IWP _ _ _ _ ⟨[(0, .agg [.int .i64 a0.From, .int .i64 a0.To])], []⟩ _
 unfold ivals_Check_1 at h
 refine iwp_reg (ils_cons rfl (iop_box' (cs := q7) 0 rfl rfl (lb rfl) rfl (svA q7 rfl) rfl rfl) <|
  ils_cons rfl (iop_assign rfl rfl (lb rfl) (sv (d := .bool false) rfl)) <|
  ils_end ?_)
 obtain ⟨x1, hx1, h⟩ := bno_e h
 refine iwp_reg (ils_cons rfl (lra q7 la59 rfl rfl rfl rfl rfl (nle rfl) rfl) <|
  ils_cons rfl (iop_call (r := .bool _) rfl rfl (lb rfl) cl38 (.cons (svA q7 rfl) .nil) rfl (p_ivals_Ival_may _ _ hx1)) <|
  ils_cons rfl (iop_not rfl rfl (lb rfl) (svB rfl)) <|
  ils_cons rfl (asB rfl rfl rfl rfl) <|
  ils_end ?_)
 refine iwp_ret ?_
 obtain rfl := Option.some.inj h
 refine ⟨.inr rfl, (.cons (sv rfl) .nil)⟩

theorem p_slices_IndexFunc_ivals_Set_ivals_Ival_Check_1 (a0 : (List T_ivals_Ival)) (r : Int) (h : slices_IndexFunc_ivals_Set_ivals_Ival_Check_1 a0 = some r) : PureAt Try.prog 54 [.slice false (a0.map E_ivals_Ival.d), .fn 51 []] (.int .i64 r) := by
 refine pure_of_iwp (rs := [.int .i64 r]) Try.func54 rfl Try.ntmps54 (nle rfl) rfl fun O hO => ?_
 show IWP _ _ _ _ ⟨[(0, .slice false (a0.map E_ivals_Ival.d)), (1, .fn 51 [])], []⟩ _
 unfold slices_IndexFunc_ivals_Set_ivals_Ival_Check_1 at h
 refine iwp_reg (ils_cons rfl (iop_assign rfl rfl (lb rfl) (sv (d := .int _ 0) rfl)) <|
  ils_end ?_)
 refine iwp_seq ?_
 refine iwp_reg (ils_cons rfl (mvL rfl rfl rfl rfl) <|
  ils_cons rfl (iop_lenT E_ivals_Ival (l := a0) rfl rfl (lb rfl) Try.underlying27 (svL rfl)) <|
  ils_cons rfl (iop_move rfl rfl (lb rfl) (sv (d := .int _ 0) rfl)) <|
  ils_end ?_)
 refine iwp_block ?_
 refine iwp_loopP (α := Nat × Int) (fun z => ⟨[(0, .slice false (a0.map E_ivals_Ival.d)), (1, .fn 51 []), (7, .int .i64 (a0.length : Int)), (8, .int .i64 z.2)], []⟩) (fun z => slices_IndexFunc_ivals_Set_ivals_Ival_Check_1_L0 a0 z.1 z.2 = some r) (fun z => z.1) (fuel, 0) (fun i => i) ⟨(.sames rfl rfl), .nil, nd_of [] rfl (by decide), fun _ _ => rfl⟩ ?_ ?_
 ·exact h
 ·
  rintro ⟨n0, v7⟩ h
  cases n0 with
  | zero => exact absurd h (by unfold slices_IndexFunc_ivals_Set_ivals_Ival_Check_1_L0; exact nofun)
  | succ n0 =>
   unfold slices_IndexFunc_ivals_Set_ivals_Ival_Check_1_L0 at h
   obtain ⟨x14, hx14, h⟩ := bnd_e h
   refine iwp_reg (ils_cons rfl (iop_cmpx rfl rfl (lb rfl) (svI rfl) (svI rfl) rfl hx14) <|
    ils_end ?_)
   refine iwp_seq ?_
   refine iwp_cond (b := _) rfl (fun hc15 => ?_) (fun hc15 => ?_)
   ·
    replace h := bif_t h hc15
    refine iwp_skip ?_
    refine thenQ_n ?_
    refine iwp_seq ?_
    refine iwp_block ?_
    refine iwp_reg (ils_cons rfl (mvI rfl rfl rfl rfl) <|
     ils_cons rfl (asI rfl rfl rfl rfl) <|
     ils_end ?_)
    obtain ⟨x16, hx16, h⟩ := bno_e h
    obtain ⟨x17, hx17, h⟩ := bno_e h
    refine iwp_reg (ils_cons rfl (iop_move rfl rfl (lb rfl) (sv (d := .fn 51 []) rfl)) <|
     ils_cons rfl (mvL rfl rfl rfl rfl) <|
     ils_cons rfl (mvI rfl rfl rfl rfl) <|
     ils_cons rfl (iop_idxT E_ivals_Ival (cs := q7) rfl rfl (lb rfl) Try.underlying27 ti59 (svL rfl) (svI rfl) hx16 rfl rfl) <|
     ils_cons rfl (iop_load_fa (cs := q7) rfl rfl (lb rfl) Try.underlying59 ag59 ti59 (by decide) (sv (d := .fptr q7) rfl) (nle rfl) rfl) <|
     ils_cons rfl (iop_callv (r := .bool _) rfl rfl (lb rfl) cl51 (sv (d := .fn 51 []) rfl) (.cons (svA q7 rfl) .nil) rfl (p_ivals_Check_1 _ _ hx17)) <|
     ils_end ?_)
    refine iwp_cond (b := _) rfl (fun hc18 => ?_) (fun hc18 => ?_)
    ·
     replace h := bif_t h hc18
     refine iwp_reg (ils_cons rfl (mvI rfl rfl rfl rfl) <|
      ils_cons rfl (asI rfl rfl rfl rfl) <|
      ils_end ?_)
     refine iwp_ret ?_
     refine blockQ_r ?_
     refine thenQ_r ?_
     refine thenQ_r ?_
     refine blockQ_r ?_
     refine thenQ_r ?_
     obtain rfl := Option.some.inj h
     refine ⟨.inr rfl, (.cons (sv rfl) .nil)⟩
    ·
     replace h := bif_f h hc18
     refine iwp_skip ?_
     refine blockQ_n ?_
     refine thenQ_n ?_
     obtain ⟨x19, hx19, h⟩ := bnd_e h
     refine iwp_region (ils_cons rfl (iop_intx rfl rfl (lb rfl) (svI rfl) (sv (d := .int _ 1) rfl) rfl hx19) <|
      ils_cons rfl (mvI rfl rfl rfl rfl) <|
      ils_nil ?_)
     refine thenQ_n ⟨(n0, x19), (fun i => i), ⟨(.sames rfl rfl), .nil, nd_of [] rfl (by decide), fun _ _ => rfl⟩, ?_, ?_⟩
     exact h
     exact Nat.lt_succ_self _
   ·
    replace h := bif_f h hc15
    refine iwp_exit ?_
    refine thenQ_e ?_
    refine thenQ_e ?_
    refine blockQ_e ?_
    refine thenQ_n ?_
    refine iwp_reg (ils_cons rfl (iop_assign rfl rfl (lb rfl) (sv (d := .int _ (-1)) rfl)) <|
     ils_end ?_)
    refine iwp_ret ?_
    obtain rfl := Option.some.inj h
    refine ⟨.inr rfl, (.cons (sv rfl) .nil)⟩

theorem p_slices_ContainsFunc_ivals_Set_ivals_Ival_Check_1 (a0 : (List T_ivals_Ival)) (r : Bool) (h : slices_ContainsFunc_ivals_Set_ivals_Ival_Check_1 a0 = some r) : PureAt Try.prog 50 [.slice false (a0.map E_ivals_Ival.d), .fn 51 []] (.bool r) := by
 refine pure_of_iwp (rs := [.bool r]) Try.func50 rfl Try.ntmps50 (nle rfl) rfl fun O hO => ?_
 show IWP _ _ _ _ ⟨[(0, .slice false (a0.map E_ivals_Ival.d)), (1, .fn 51 [])], []⟩ _
 unfold slices_ContainsFunc_ivals_Set_ivals_Ival_Check_1 at h
 refine iwp_reg (ils_cons rfl (iop_assign rfl rfl (lb rfl) (sv (d := .bool false) rfl)) <|
  ils_end ?_)
 obtain ⟨x1, hx1, h⟩ := bno_e h
 obtain ⟨x2, hx2, h⟩ := bnd_e h
 refine iwp_reg (ils_cons rfl (mvL rfl rfl rfl rfl) <|
  ils_cons rfl (iop_move rfl rfl (lb rfl) (sv (d := .fn 51 []) rfl)) <|
  ils_cons rfl (iop_call (r := .int _ _) rfl rfl (lb rfl) cl54 (.cons (svL rfl) (.cons (sv (d := .fn 51 []) rfl) .nil)) rfl (p_slices_IndexFunc_ivals_Set_ivals_Ival_Check_1 _ _ hx1)) <|
  ils_cons rfl (iop_cmpx rfl rfl (lb rfl) (svI rfl) (sv (d := .int _ 0) rfl) rfl hx2) <|
  ils_cons rfl (asB rfl rfl rfl rfl) <|
  ils_end ?_)
 refine iwp_ret ?_
 obtain rfl := Option.some.inj h
 refine ⟨.inr rfl, (.cons (sv rfl) .nil)⟩

theorem p_ivals_Ival_none (a0 : T_ivals_Ival) (r : Bool) (h : ivals_Ival_none a0 = some r) : PureAt Try.prog 39 [.agg [.int .i64 a0.From, .int .i64 a0.To]] (.bool r) := by
 refine pure_of_iwp (rs := [.bool r]) Try.func39 rfl Try.ntmps39 (nle rfl) rfl fun O hO => ?_
 show IWP _ _ _ _ ⟨[(0, .agg [.int .i64 a0.From, .int .i64 a0.To])], []⟩ _
 unfold ivals_Ival_none at h
 refine iwp_reg (ils_cons rfl (iop_box' (cs := q7) 0 rfl rfl (lb rfl) rfl (svA q7 rfl) rfl rfl) <|
  ils_cons rfl (iop_assign rfl rfl (lb rfl) (sv (d := .bool false) rfl)) <|
  ils_end ?_)
 obtain ⟨x1, hx1, h⟩ := bnd_e h
 refine iwp_reg (ils_cons rfl (faR 1 rfl rfl rfl Try.underlying59 rfl ti3 (lb rfl) rfl rfl) <|
  ils_cons rfl (iop_load_rs (d := .int _ _) rfl rfl (lb rfl) Try.underlying3 ag3 ti3 (by decide) (svR rfl) rfl (nle rfl) rfl) <|
  ils_cons rfl (faR 0 rfl rfl rfl Try.underlying59 rfl ti3 (lb rfl) rfl rfl) <|
  ils_cons rfl (iop_load_rs (d := .int _ _) rfl rfl (lb rfl) Try.underlying3 ag3 ti3 (by decide) (svR rfl) rfl (nle rfl) rfl) <|
  ils_cons rfl (iop_cmpx rfl rfl (lb rfl) (svI rfl) (svI rfl) rfl hx1) <|
  ils_cons rfl (asB rfl rfl rfl rfl) <|
  ils_end ?_)
 refine iwp_ret ?_
 obtain rfl := Option.some.inj h
 refine ⟨.inr rfl, (.cons (sv rfl) .nil)⟩

theorem p_slices_IndexFunc_ivals_Set_ivals_Ival_none (a0 : (List T_ivals_Ival)) (r : Int) (h : slices_IndexFunc_ivals_Set_ivals_Ival_none a0 = some r) : PureAt Try.prog 54 [.slice false (a0.map E_ivals_Ival.d), .fn 39 []] (.int .i64 r) := by
 refine pure_of_iwp (rs := [.int .i64 r]) Try.func54 rfl Try.ntmps54 (nle rfl) rfl fun O hO => ?_
 show IWP _ _ _ _ ⟨[(0, .slice false (a0.map E_ivals_Ival.d)), (1, .fn 39 [])], []⟩ _
 unfold slices_IndexFunc_ivals_Set_ivals_Ival_none at h
 refine iwp_reg (ils_cons rfl (iop_assign rfl rfl (lb rfl) (sv (d := .int _ 0) rfl)) <|
  ils_end ?_)
 refine iwp_seq ?_
 refine iwp_reg (ils_cons rfl (mvL rfl rfl rfl rfl) <|
  ils_cons rfl (iop_lenT E_ivals_Ival (l := a0) rfl rfl (lb rfl) Try.underlying27 (svL rfl)) <|
  ils_cons rfl (iop_move rfl rfl (lb rfl) (sv (d := .int _ 0) rfl)) <|
  ils_end ?_)
 refine iwp_block ?_
 refine iwp_loopP (α := Nat × Int) (fun z => ⟨[(0, .slice false (a0.map E_ivals_Ival.d)), (1, .fn 39 []), (7, .int .i64 (a0.length : Int)), (8, .int .i64 z.2)], []⟩) (fun z => slices_IndexFunc_ivals_Set_ivals_Ival_none_L0 a0 z.1 z.2 = some r) (fun z => z.1) (fuel, 0) (fun i => i) ⟨(.sames rfl rfl), .nil, nd_of [] rfl (by decide), fun _ _ => rfl⟩ ?_ ?_
 ·exact h
 ·
  rintro ⟨n0, v7⟩ h
  cases n0 with
  | zero => exact absurd h (by unfold slices_IndexFunc_ivals_Set_ivals_Ival_none_L0; exact nofun)
  | succ n0 =>
   unfold slices_IndexFunc_ivals_Set_ivals_Ival_none_L0 at h
   obtain ⟨x14, hx14, h⟩ := bnd_e h
   refine iwp_reg (ils_cons rfl (iop_cmpx rfl rfl (lb rfl) (svI rfl) (svI rfl) rfl hx14) <|
    ils_end ?_)
   refine iwp_seq ?_
   refine iwp_cond (b := _) rfl (fun hc15 => ?_) (fun hc15 => ?_)
   ·
    replace h := bif_t h hc15
    refine iwp_skip ?_
    refine thenQ_n ?_
    refine iwp_seq ?_
    refine iwp_block ?_
    refine iwp_reg (ils_cons rfl (mvI rfl rfl rfl rfl) <|
     ils_cons rfl (asI rfl rfl rfl rfl) <|
     ils_end ?_)
    obtain ⟨x16, hx16, h⟩ := bno_e h
    obtain ⟨x17, hx17, h⟩ := bno_e h
    refine iwp_reg (ils_cons rfl (iop_move rfl rfl (lb rfl) (sv (d := .fn 39 []) rfl)) <|
     ils_cons rfl (mvL rfl rfl rfl rfl) <|
     ils_cons rfl (mvI rfl rfl rfl rfl) <|
     ils_cons rfl (iop_idxT E_ivals_Ival (cs := q7) rfl rfl (lb rfl) Try.underlying27 ti59 (svL rfl) (svI rfl) hx16 rfl rfl) <|
     ils_cons rfl (iop_load_fa (cs := q7) rfl rfl (lb rfl) Try.underlying59 ag59 ti59 (by decide) (sv (d := .fptr q7) rfl) (nle rfl) rfl) <|
     ils_cons rfl (iop_callv (r := .bool _) rfl rfl (lb rfl) cl39 (sv (d := .fn 39 []) rfl) (.cons (svA q7 rfl) .nil) rfl (p_ivals_Ival_none _ _ hx17)) <|
     ils_end ?_)
    refine iwp_cond (b := _) rfl (fun hc18 => ?_) (fun hc18 => ?_)
    ·
     replace h := bif_t h hc18
     refine iwp_reg (ils_cons rfl (mvI rfl rfl rfl rfl) <|
      ils_cons rfl (asI rfl rfl rfl rfl) <|
      ils_end ?_)
     refine iwp_ret ?_
     refine blockQ_r ?_
     refine thenQ_r ?_
     refine thenQ_r ?_
     refine blockQ_r ?_
     refine thenQ_r ?_
     obtain rfl := Option.some.inj h
     refine ⟨.inr rfl, (.cons (sv rfl) .nil)⟩
    ·
     replace h := bif_f h hc18
     refine iwp_skip ?_
     refine blockQ_n ?_
     refine thenQ_n ?_
     obtain ⟨x19, hx19, h⟩ := bnd_e h
     refine iwp_region (ils_cons rfl (iop_intx rfl rfl (lb rfl) (svI rfl) (sv (d := .int _ 1) rfl) rfl hx19) <|
      ils_cons rfl (mvI rfl rfl rfl rfl) <|
      ils_nil ?_)
     refine thenQ_n ⟨(n0, x19), (fun i => i), ⟨(.sames rfl rfl), .nil, nd_of [] rfl (by decide), fun _ _ => rfl⟩, ?_, ?_⟩
     exact h
     exact Nat.lt_succ_self _
   ·
    replace h := bif_f h hc15
    refine iwp_exit ?_
    refine thenQ_e ?_
    refine thenQ_e ?_
    refine blockQ_e ?_
    refine thenQ_n ?_
    refine iwp_reg (ils_cons rfl (iop_assign rfl rfl (lb rfl) (sv (d := .int _ (-1)) rfl)) <|
     ils_end ?_)
    refine iwp_ret ?_
    obtain rfl := Option.some.inj h
    refine ⟨.inr rfl, (.cons (sv rfl) .nil)⟩

theorem p_slices_ContainsFunc_ivals_Set_ivals_Ival_none (a0 : (List T_ivals_Ival)) (r : Bool) (h : slices_ContainsFunc_ivals_Set_ivals_Ival_none a0 = some r) : PureAt Try.prog 50 [.slice false (a0.map E_ivals_Ival.d), .fn 39 []] (.bool r) := by
 refine pure_of_iwp (rs := [.bool r]) Try.func50 rfl Try.ntmps50 (nle rfl) rfl fun O hO => ?_
 show IWP _ _ _ _ ⟨[(0, .slice false (a0.map E_ivals_Ival.d)), (1, .fn 39 [])], []⟩ _
 unfold slices_ContainsFunc_ivals_Set_ivals_Ival_none at h
 refine iwp_reg (ils_cons rfl (iop_assign rfl rfl (lb rfl) (sv (d := .bool false) rfl)) <|
  ils_end ?_)
 obtain ⟨x1, hx1, h⟩ := bno_e h
 obtain ⟨x2, hx2, h⟩ := bnd_e h
 refine iwp_reg (ils_cons rfl (mvL rfl rfl rfl rfl) <|
  ils_cons rfl (iop_move rfl rfl (lb rfl) (sv (d := .fn 39 []) rfl)) <|
  ils_cons rfl (iop_call (r := .int _ _) rfl rfl (lb rfl) cl54 (.cons (svL rfl) (.cons (sv (d := .fn 39 []) rfl) .nil)) rfl (p_slices_IndexFunc_ivals_Set_ivals_Ival_none _ _ hx1)) <|
  ils_cons rfl (iop_cmpx rfl rfl (lb rfl) (svI rfl) (sv (d := .int _ 0) rfl) rfl hx2) <|
  ils_cons rfl (asB rfl rfl rfl rfl) <|
  ils_end ?_)
 refine iwp_ret ?_
 obtain rfl := Option.some.inj h
 refine ⟨.inr rfl, (.cons (sv rfl) .nil)⟩

theorem p_ivals_Check (a0 : (List T_ivals_Ival)) (r : Int) (h : ivals_Check a0 = some r) : PureAt Try.prog 40 [.slice false (a0.map E_ivals_Ival.d)] (.int .i64 r) := by
 refine pure_of_iwp (rs := [.int .i64 r]) Try.func40 rfl Try.ntmps40 (nle rfl) rfl fun O hO => ?_
 show IWP _ _ _ _ ⟨[(0, .slice false (a0.map E_ivals_Ival.d))], []⟩ _
 unfold ivals_Check at h
 refine iwp_reg (ils_cons rfl (iop_assign rfl rfl (lb rfl) (sv (d := .int _ 0) rfl)) <|
  ils_end ?_)
 refine iwp_seq ?_
 refine iwp_block ?_
 obtain ⟨x1, hx1, h⟩ := bno_e h
 refine iwp_reg (ils_cons rfl (mvL rfl rfl rfl rfl) <|
  ils_cons rfl (iop_call (r := .bool _) rfl rfl (lb rfl) cl50 (.cons (svL rfl) (.cons (sv (d := .fn 51 []) rfl) .nil)) rfl (p_slices_ContainsFunc_ivals_Set_ivals_Ival_Check_1 _ _ hx1)) <|
  ils_cons rfl (asB rfl rfl rfl rfl) <|
  ils_end ?_)
 refine iwp_cond (b := _) rfl (fun hc2 => ?_) (fun hc2 => ?_)
 ·
  replace h := bif_t h hc2
  refine iwp_reg (ils_cons rfl (iop_assign rfl rfl (lb rfl) (sv (d := .int _ 8) rfl)) <|
   ils_end ?_)
  refine iwp_ret ?_
  refine blockQ_r ?_
  refine thenQ_r ?_
  obtain rfl := Option.some.inj h
  refine ⟨.inr rfl, (.cons (sv rfl) .nil)⟩
 ·
  replace h := bif_f h hc2
  obtain ⟨x3, hx3, h⟩ := bno_e h
  refine iwp_reg (ils_cons rfl (mvL rfl rfl rfl rfl) <|
   ils_cons rfl (iop_call (r := .bool _) rfl rfl (lb rfl) cl50 (.cons (svL rfl) (.cons (sv (d := .fn 39 []) rfl) .nil)) rfl (p_slices_ContainsFunc_ivals_Set_ivals_Ival_none _ _ hx3)) <|
   ils_cons rfl (asB rfl rfl rfl rfl) <|
   ils_end ?_)
  refine iwp_cond (b := _) rfl (fun hc4 => ?_) (fun hc4 => ?_)
  ·
   replace h := bif_t h hc4
   refine iwp_reg (ils_cons rfl (iop_assign rfl rfl (lb rfl) (sv (d := .int _ 4) rfl)) <|
    ils_end ?_)
   refine iwp_ret ?_
   refine blockQ_r ?_
   refine thenQ_r ?_
   obtain rfl := Option.some.inj h
   refine ⟨.inr rfl, (.cons (sv rfl) .nil)⟩
  ·
   replace h := bif_f h hc4
   refine iwp_skip ?_
   refine blockQ_n ?_
   refine thenQ_n ?_
   refine iwp_seq ?_
   refine iwp_reg (ils_cons rfl (iop_assign rfl rfl (lb rfl) (sv (d := .int _ 1) rfl)) <|
    ils_end ?_)
   refine iwp_block ?_
   refine iwp_loopP (α := Nat × Int) (fun z => ⟨[(0, .slice false (a0.map E_ivals_Ival.d)), (3, .int .i64 z.2)], []⟩) (fun z => ivals_Check_L0 a0 z.1 z.2 = some r) (fun z => z.1) (fuel, 1) (fun i => i) ⟨(.sames rfl rfl), .nil, nd_of [] rfl (by decide), fun _ _ => rfl⟩ ?_ ?_
   ·exact h
   ·
    rintro ⟨n0, v13⟩ h
    cases n0 with
    | zero => exact absurd h (by unfold ivals_Check_L0; exact nofun)
    | succ n0 =>
     unfold ivals_Check_L0 at h
     refine iwp_seq ?_
     obtain ⟨x22, hx22, h⟩ := bnd_e h
     refine iwp_reg (ils_cons rfl (mvI rfl rfl rfl rfl) <|
      ils_cons rfl (mvL rfl rfl rfl rfl) <|
      ils_cons rfl (iop_lenT E_ivals_Ival (l := a0) rfl rfl (lb rfl) Try.underlying27 (svL rfl)) <|
      ils_cons rfl (iop_cmpx rfl rfl (lb rfl) (svI rfl) (svI rfl) rfl hx22) <|
      ils_end ?_)
     refine iwp_cond (b := _) rfl (fun hc23 => ?_) (fun hc23 => ?_)
     ·
      replace h := bif_t h hc23
      refine iwp_skip ?_
      refine thenQ_n ?_
      refine iwp_seq ?_
      refine iwp_block ?_
      obtain ⟨x24, hx24, h⟩ := bno_e h
      obtain ⟨x25, hx25, h⟩ := bnd_e h
      obtain ⟨x26, hx26, h⟩ := bno_e h
      obtain ⟨x27, hx27, h⟩ := bnd_e h
      refine iwp_drw rfl [⟨[0], [], [(16, .slice false (a0.map E_ivals_Ival.d))], []⟩,
       ⟨[3], [], [(17, .int .i64 v13)], []⟩,
       ⟨[16, 17], [], [(18, .fptr [.int .i64 x24.From, .int .i64 x24.To])], []⟩,
       ⟨[18], [], [(19, .fptr [.int .i64 x24.From])], []⟩,
       ⟨[19], [], [(20, .int .i64 x24.From)], []⟩,
       ⟨[0], [], [(21, .slice false (a0.map E_ivals_Ival.d))], []⟩,
       ⟨[3], [], [(22, .int .i64 v13)], []⟩,
       ⟨[22], [], [(23, .int .i64 x25)], []⟩,
       ⟨[21, 23], [], [(24, .fptr [.int .i64 x26.From, .int .i64 x26.To])], []⟩,
       ⟨[24], [], [(25, .fptr [.int .i64 x26.To])], []⟩,
       ⟨[25], [], [(26, .int .i64 x26.To)], []⟩,
       ⟨[20, 26], [], [(27, .bool x27)], []⟩] rfl ?_ (by kernel_rfl) ?_
      ·refine .cons (lop rfl rfl fun S hA => (iop_move rfl rfl (lb rfl) (svaL hA rfl rfl))) ?_
       refine .cons (lop rfl rfl fun S hA => (iop_move rfl rfl (lb rfl) (svaI hA rfl rfl))) ?_
       refine .cons (lop rfl rfl fun S hA => (iop_idxT E_ivals_Ival (cs := q7) rfl rfl (lb rfl) Try.underlying27 ti59 (svaL hA rfl rfl) (svaI hA rfl rfl) hx24 rfl rfl)) ?_
       refine .cons (lop rfl rfl fun S hA => (iop_fieldAddr_fptr (cs' := [.int _ _]) rfl rfl (lb rfl) Try.underlying59 rfl ti3 (by decide) (sv (d := .fptr q7) (agr hA rfl rfl)) rfl)) ?_
       refine .cons (lop rfl rfl fun S hA => (iop_load_fs rfl rfl (lb rfl) Try.underlying3 ag3 ti3 (by decide) (sv (d := .fptr [.int _ _]) (agr hA rfl rfl)) (nle rfl))) ?_
       refine .cons (lop rfl rfl fun S hA => (iop_move rfl rfl (lb rfl) (svaL hA rfl rfl))) ?_
       refine .cons (lop rfl rfl fun S hA => (iop_move rfl rfl (lb rfl) (svaI hA rfl rfl))) ?_
       refine .cons (lop rfl rfl fun S hA => (iop_intx rfl rfl (lb rfl) (svaI hA rfl rfl) (sv (d := .int _ 1) rfl) rfl hx25)) ?_
       refine .cons (lop rfl rfl fun S hA => (iop_idxT E_ivals_Ival (cs := q7) rfl rfl (lb rfl) Try.underlying27 ti59 (svaL hA rfl rfl) (svaI hA rfl rfl) hx26 rfl rfl)) ?_
       refine .cons (lop rfl rfl fun S hA => (iop_fieldAddr_fptr (cs' := [.int _ _]) rfl rfl (lb rfl) Try.underlying59 rfl ti3 (by decide) (sv (d := .fptr q7) (agr hA rfl rfl)) rfl)) ?_
       refine .cons (lop rfl rfl fun S hA => (iop_load_fs rfl rfl (lb rfl) Try.underlying3 ag3 ti3 (by decide) (sv (d := .fptr [.int _ _]) (agr hA rfl rfl)) (nle rfl))) ?_
       refine .cons (lop rfl rfl fun S hA => (iop_cmpx rfl rfl (lb rfl) (svaI hA rfl rfl) (svaI hA rfl rfl) rfl hx27)) ?_
       exact .nil
      refine iwp_cond (b := _) rfl (fun hc28 => ?_) (fun hc28 => ?_)
      ·
       replace h := bif_t h hc28
       refine iwp_reg (ils_cons rfl (iop_assign rfl rfl (lb rfl) (sv (d := .int _ 10) rfl)) <|
        ils_end ?_)
       refine iwp_ret ?_
       refine blockQ_r ?_
       refine thenQ_r ?_
       refine thenQ_r ?_
       refine blockQ_r ?_
       refine thenQ_r ?_
       obtain rfl := Option.some.inj h
       refine ⟨.inr rfl, (.cons (sv rfl) .nil)⟩
      ·
       replace h := bif_f h hc28
       refine iwp_skip ?_
       refine blockQ_n ?_
       refine thenQ_n ?_
       obtain ⟨x29, hx29, h⟩ := bnd_e h
       refine iwp_region (ils_cons rfl (mvI rfl rfl rfl rfl) <|
        ils_cons rfl (iop_intx rfl rfl (lb rfl) (svI rfl) (sv (d := .int _ 1) rfl) rfl hx29) <|
        ils_cons rfl (asI rfl rfl rfl rfl) <|
        ils_nil ?_)
       refine thenQ_n ⟨(n0, x29), (fun i => i), ⟨(.sames rfl rfl), .nil, nd_of [] rfl (by decide), fun _ _ => rfl⟩, ?_, ?_⟩
       exact h
       exact Nat.lt_succ_self _
     ·
      replace h := bif_f h hc23
      refine iwp_exit ?_
      refine thenQ_e ?_
      refine thenQ_e ?_
      refine blockQ_e ?_
      refine thenQ_n ?_
      refine iwp_reg (ils_cons rfl (iop_assign rfl rfl (lb rfl) (sv (d := .int _ 0) rfl)) <|
       ils_end ?_)
      refine iwp_ret ?_
      obtain rfl := Option.some.inj h
      refine ⟨.inr rfl, (.cons (sv rfl) .nil)⟩

theorem p_sbuf_State_lost (a0 : T_sbuf_State) (r : Bool) (h : sbuf_State_lost a0 = some r) : PureAt Try.prog 28 [.agg (v0 a0)] (.bool r) := by
 refine pure_of_iwp (rs := [.bool r]) Try.func28 rfl Try.ntmps28 (nle rfl) rfl fun O hO => ?_
 show IWP _ _ _ _ ⟨[(0, .agg (v0 a0))], []⟩ _
 unfold sbuf_State_lost at h
 refine iwp_reg (ils_cons rfl (iop_box' (cs := q3) 0 rfl rfl (lb rfl) rfl (svA q3 rfl) rfl rfl) <|
  ils_cons rfl (iop_assign rfl rfl (lb rfl) (sv (d := .bool false) rfl)) <|
  ils_end ?_)
 refine iwp_seq ?_
 obtain ⟨x1, hx1, h⟩ := bno_e h
 obtain ⟨x2, hx2, h⟩ := bnd_e h
 refine iwp_reg (ils_cons rfl (faR 4 rfl rfl rfl Try.underlying29 rfl ti27 (lb rfl) rfl rfl) <|
  ils_cons rfl (lrL la27 rfl rfl rfl rfl rfl (nle rfl) rfl) <|
  ils_cons rfl (iop_call (r := .int _ _) rfl rfl (lb rfl) cl40 (.cons (svL rfl) .nil) rfl (p_ivals_Check _ _ hx1)) <|
  ils_cons rfl (iop_cmpx rfl rfl (lb rfl) (svI rfl) (sv (d := .int _ 0) rfl) rfl hx2) <|
  ils_end ?_)
 refine iwp_cond (b := _) rfl (fun hc3 => ?_) (fun hc3 => ?_)
 ·
  replace h := bif_t h hc3
  refine iwp_reg (ils_cons rfl (iop_assign rfl rfl (lb rfl) (sv (d := .bool false) rfl)) <|
   ils_end ?_)
  refine iwp_ret ?_
  refine thenQ_r ?_
  obtain rfl := Option.some.inj h
  refine ⟨.inr rfl, (.cons (sv rfl) .nil)⟩
 ·
  replace h := bif_f h hc3
  refine iwp_skip ?_
  refine thenQ_n ?_
  obtain ⟨x4, hx4, h⟩ := bnd_e h
  obtain ⟨x5, hx5, h⟩ := bno_e h
  obtain ⟨x6, hx6, h⟩ := bnd_e h
  obtain ⟨x7, hx7, h⟩ := bnd_e h
  obtain ⟨x8, hx8, h⟩ := bno_e h
  obtain ⟨x9, hx9, h⟩ := bnd_e h
  obtain ⟨x10, hx10, h⟩ := bnd_e h
  obtain ⟨x11, hx11, h⟩ := bnd_e h
  refine iwp_drw rfl [⟨[1], [], [(7, .ref 0 4)], []⟩,
   ⟨[7], [0], [(8, .slice false (a0.Lost.map E_ivals_Ival.d))], []⟩,
   ⟨[8], [], [(9, .int .i64 (a0.Lost.length : Int))], []⟩,
   ⟨[9], [], [(10, .bool x4)], []⟩,
   ⟨[10], [], [(11, .bool x4)], []⟩,
   ⟨[1, 11], [], [(12, .cnd (x4 == false) (.ref 0 4))], []⟩,
   ⟨[11, 12], [0], [(13, .cnd (x4 == false) (.slice false (a0.Lost.map E_ivals_Ival.d)))], []⟩,
   ⟨[11, 13], [], [(14, .cnd (x4 == false) (.fptr [.int .i64 x5.From, .int .i64 x5.To]))], []⟩,
   ⟨[11, 14], [], [(15, .cnd (x4 == false) (.fptr [.int .i64 x5.From]))], []⟩,
   ⟨[11, 15], [], [(16, .cnd (x4 == false) (.int .i64 x5.From))], []⟩,
   ⟨[1, 11], [], [(17, .cnd (x4 == false) (.ref 0 0))], []⟩,
   ⟨[11, 17], [0], [(18, .cnd (x4 == false) (.int .i64 a0.Base))], []⟩,
   ⟨[11, 16, 18], [], [(19, .cnd (x4 == false) (.bool x6))], []⟩,
   ⟨[11, 19], [], [(20, .cnd (x4 == false) (.bool x6))], []⟩,
   ⟨[1, 20], [], [(21, .cnd (((x4 == false) && (x6 == true))) (.ref 0 4))], []⟩,
   ⟨[20, 21], [0], [(22, .cnd (((x4 == false) && (x6 == true))) (.slice false (a0.Lost.map E_ivals_Ival.d)))], []⟩,
   ⟨[1, 20], [], [(23, .cnd (((x4 == false) && (x6 == true))) (.ref 0 4))], []⟩,
   ⟨[20, 23], [0], [(24, .cnd (((x4 == false) && (x6 == true))) (.slice false (a0.Lost.map E_ivals_Ival.d)))], []⟩,
   ⟨[20, 24], [], [(25, .cnd (((x4 == false) && (x6 == true))) (.int .i64 (a0.Lost.length : Int)))], []⟩,
   ⟨[20, 25], [], [(26, .cnd (((x4 == false) && (x6 == true))) (.int .i64 x7))], []⟩,
   ⟨[20, 22, 26], [], [(27, .cnd (((x4 == false) && (x6 == true))) (.fptr [.int .i64 x8.From, .int .i64 x8.To]))], []⟩,
   ⟨[20, 27], [], [(28, .cnd (((x4 == false) && (x6 == true))) (.fptr [.int .i64 x8.To]))], []⟩,
   ⟨[20, 28], [], [(29, .cnd (((x4 == false) && (x6 == true))) (.int .i64 x8.To))], []⟩,
   ⟨[1, 20], [], [(30, .cnd (((x4 == false) && (x6 == true))) (.ref 0 2))], []⟩,
   ⟨[20, 30], [0], [(31, .cnd (((x4 == false) && (x6 == true))) (.int .i64 a0.Next))], []⟩,
   ⟨[20, 29, 31], [], [(32, .cnd (((x4 == false) && (x6 == true))) (.bool x9))], []⟩,
   ⟨[11, 20, 32], [], [(33, .cnd (x4 == false) (.bool x10))], []⟩,
   ⟨[11, 33], [], [(34, .bool x11)], []⟩,
   ⟨[34], [], [(2, .bool x11)], []⟩] rfl ?_ (by kernel_rfl) ?_
  ·refine .cons (lop rfl rfl fun S hA => (iop_fieldAddr_ref rfl rfl (lb rfl) Try.underlying29 rfl ti27 (by decide) (svaR hA rfl rfl) (off' := 4) rfl)) ?_
   refine .cons (lop rfl rfl fun S hA => (iop_load_rs (d := .slice _ _) rfl rfl (lb rfl) Try.underlying27 ag27 ti27 (by decide) (svaR hA rfl rfl) (agi hA rfl rfl) (nle rfl) rfl)) ?_
   refine .cons (lop rfl rfl fun S hA => (iop_lenT E_ivals_Ival (l := a0.Lost) rfl rfl (lb rfl) Try.underlying27 (svaL hA rfl rfl))) ?_
   refine .cons (lop rfl rfl fun S hA => (iop_cmpx rfl rfl (lb rfl) (svaI hA rfl rfl) (sv (d := .int _ 0) rfl) rfl hx4)) ?_
   refine .cons (lop rfl rfl fun S hA => (iop_move rfl rfl (lb rfl) (svaB hA rfl rfl))) ?_
   refine .cons (lopg rfl rfl rfl rfl (by decide) (fun S hA => grd1 hA rfl rfl) (fun S hA hb => (iop_fieldAddr_ref rfl rfl (lb rfl) Try.underlying29 rfl ti27 (by decide) (svaR hA rfl rfl) (off' := 4) rfl))) ?_
   refine .cons (lopg rfl rfl rfl rfl (by decide) (fun S hA => grd1 hA rfl rfl) (fun S hA hb => (iop_load_rs (d := .slice _ _) rfl rfl (lb rfl) Try.underlying27 ag27 ti27 (by decide) (svc (d := .ref _ _) (agr hA rfl rfl) hb) (agi hA rfl rfl) (nle rfl) rfl))) ?_
   refine .cons (lopg rfl rfl rfl rfl (by decide) (fun S hA => grd1 hA rfl rfl) (fun S hA hb => (iop_idxT E_ivals_Ival (cs := q7) rfl rfl (lb rfl) Try.underlying27 ti59 (svc (d := .slice _ _) (agr hA rfl rfl) hb) (sv (d := .int _ 0) rfl) (gd_t hx5 hb) rfl rfl))) ?_
   refine .cons (lopg rfl rfl rfl rfl (by decide) (fun S hA => grd1 hA rfl rfl) (fun S hA hb => (iop_fieldAddr_fptr (cs' := [.int _ _]) rfl rfl (lb rfl) Try.underlying59 rfl ti3 (by decide) (svc (d := .fptr q7) (agr hA rfl rfl) hb) rfl))) ?_
   refine .cons (lopg rfl rfl rfl rfl (by decide) (fun S hA => grd1 hA rfl rfl) (fun S hA hb => (iop_load_fs rfl rfl (lb rfl) Try.underlying3 ag3 ti3 (by decide) (svc (d := .fptr [.int _ _]) (agr hA rfl rfl) hb) (nle rfl)))) ?_
   refine .cons (lopg rfl rfl rfl rfl (by decide) (fun S hA => grd1 hA rfl rfl) (fun S hA hb => (iop_fieldAddr_ref rfl rfl (lb rfl) Try.underlying29 rfl ti3 (by decide) (svaR hA rfl rfl) (off' := 0) rfl))) ?_
   refine .cons (lopg rfl rfl rfl rfl (by decide) (fun S hA => grd1 hA rfl rfl) (fun S hA hb => (iop_load_rs (d := .int _ _) rfl rfl (lb rfl) Try.underlying3 ag3 ti3 (by decide) (svc (d := .ref _ _) (agr hA rfl rfl) hb) (agi hA rfl rfl) (nle rfl) rfl))) ?_
   refine .cons (lopg rfl rfl rfl rfl (by decide) (fun S hA => grd1 hA rfl rfl) (fun S hA hb => (iop_cmpx rfl rfl (lb rfl) (svc (d := .int _ _) (agr hA rfl rfl) hb) (svc (d := .int _ _) (agr hA rfl rfl) hb) rfl hx6))) ?_
   refine .cons (lopg rfl rfl rfl rfl (by decide) (fun S hA => grd1 hA rfl rfl) (fun S hA hb => (iop_move rfl rfl (lb rfl) (svc (d := .bool _) (agr hA rfl rfl) hb)))) ?_
   refine .cons (lopg rfl rfl rfl rfl (by decide) (fun S hA => grd2 hA rfl rfl) (fun S hA hb => (iop_fieldAddr_ref rfl rfl (lb rfl) Try.underlying29 rfl ti27 (by decide) (svaR hA rfl rfl) (off' := 4) rfl))) ?_
   refine .cons (lopg rfl rfl rfl rfl (by decide) (fun S hA => grd2 hA rfl rfl) (fun S hA hb => (iop_load_rs (d := .slice _ _) rfl rfl (lb rfl) Try.underlying27 ag27 ti27 (by decide) (svc (d := .ref _ _) (agr hA rfl rfl) hb) (agi hA rfl rfl) (nle rfl) rfl))) ?_
   refine .cons (lopg rfl rfl rfl rfl (by decide) (fun S hA => grd2 hA rfl rfl) (fun S hA hb => (iop_fieldAddr_ref rfl rfl (lb rfl) Try.underlying29 rfl ti27 (by decide) (svaR hA rfl rfl) (off' := 4) rfl))) ?_
   refine .cons (lopg rfl rfl rfl rfl (by decide) (fun S hA => grd2 hA rfl rfl) (fun S hA hb => (iop_load_rs (d := .slice _ _) rfl rfl (lb rfl) Try.underlying27 ag27 ti27 (by decide) (svc (d := .ref _ _) (agr hA rfl rfl) hb) (agi hA rfl rfl) (nle rfl) rfl))) ?_
   refine .cons (lopg rfl rfl rfl rfl (by decide) (fun S hA => grd2 hA rfl rfl) (fun S hA hb => (iop_lenT E_ivals_Ival (l := a0.Lost) rfl rfl (lb rfl) Try.underlying27 (svc (d := .slice _ _) (agr hA rfl rfl) hb)))) ?_
   refine .cons (lopg rfl rfl rfl rfl (by decide) (fun S hA => grd2 hA rfl rfl) (fun S hA hb => (iop_intx rfl rfl (lb rfl) (svc (d := .int _ _) (agr hA rfl rfl) hb) (sv (d := .int _ 1) rfl) rfl hx7))) ?_
   refine .cons (lopg rfl rfl rfl rfl (by decide) (fun S hA => grd2 hA rfl rfl) (fun S hA hb => (iop_idxT E_ivals_Ival (cs := q7) rfl rfl (lb rfl) Try.underlying27 ti59 (svc (d := .slice _ _) (agr hA rfl rfl) hb) (svc (d := .int _ _) (agr hA rfl rfl) hb) (gd_t hx8 hb) rfl rfl))) ?_
   refine .cons (lopg rfl rfl rfl rfl (by decide) (fun S hA => grd2 hA rfl rfl) (fun S hA hb => (iop_fieldAddr_fptr (cs' := [.int _ _]) rfl rfl (lb rfl) Try.underlying59 rfl ti3 (by decide) (svc (d := .fptr q7) (agr hA rfl rfl) hb) rfl))) ?_
   refine .cons (lopg rfl rfl rfl rfl (by decide) (fun S hA => grd2 hA rfl rfl) (fun S hA hb => (iop_load_fs rfl rfl (lb rfl) Try.underlying3 ag3 ti3 (by decide) (svc (d := .fptr [.int _ _]) (agr hA rfl rfl) hb) (nle rfl)))) ?_
   refine .cons (lopg rfl rfl rfl rfl (by decide) (fun S hA => grd2 hA rfl rfl) (fun S hA hb => (iop_fieldAddr_ref rfl rfl (lb rfl) Try.underlying29 rfl ti3 (by decide) (svaR hA rfl rfl) (off' := 2) rfl))) ?_
   refine .cons (lopg rfl rfl rfl rfl (by decide) (fun S hA => grd2 hA rfl rfl) (fun S hA hb => (iop_load_rs (d := .int _ _) rfl rfl (lb rfl) Try.underlying3 ag3 ti3 (by decide) (svc (d := .ref _ _) (agr hA rfl rfl) hb) (agi hA rfl rfl) (nle rfl) rfl))) ?_
   refine .cons (lopg rfl rfl rfl rfl (by decide) (fun S hA => grd2 hA rfl rfl) (fun S hA hb => (iop_cmpx rfl rfl (lb rfl) (svc (d := .int _ _) (agr hA rfl rfl) hb) (svc (d := .int _ _) (agr hA rfl rfl) hb) rfl hx9))) ?_
   refine .cons (lopg rfl rfl rfl rfl (by decide) (fun S hA => grd1 hA rfl rfl) (fun S hA hb => (iop_and2x rfl rfl (lb rfl) hb (svc (d := .bool _) (agr hA rfl rfl) hb) (agr hA rfl rfl) rfl hx10))) ?_
   refine .cons (lop rfl rfl fun S hA => (iop_orx rfl rfl (lb rfl) (svaB hA rfl rfl) rfl (agr hA rfl rfl) hx11)) ?_
   refine .cons (lop rfl rfl fun S hA => (iop_assign rfl rfl (lb rfl) (svaB hA rfl rfl))) ?_
   exact .nil
  refine iwp_ret ?_
  obtain rfl := Option.some.inj h
  refine ⟨.inr rfl, (.cons (sv rfl) .nil)⟩

theorem p_sbuf_path (a0 : Int) (r : Bool) (h : sbuf_path a0 = some r) : PureAt Try.prog 21 [.int .i64 a0] (.bool r) := by
 refine pure_of_iwp (rs := [.bool r]) Try.func21 rfl Try.ntmps21 (nle rfl) rfl fun O hO => ?_
 show IWP _ _ _ _ ⟨[(0, .int .i64 a0)], []⟩ _
 unfold sbuf_path at h
 refine iwp_reg (ils_cons rfl (iop_assign rfl rfl (lb rfl) (sv (d := .bool false) rfl)) <|
  ils_end ?_)
 obtain ⟨x1, hx1, h⟩ := bnd_e h
 obtain ⟨x2, hx2, h⟩ := bnd_e h
 obtain ⟨x3, hx3, h⟩ := bnd_e h
 refine iwp_reg (ils_cons rfl (mvI rfl rfl rfl rfl) <|
  ils_cons rfl (iop_cmpx rfl rfl (lb rfl) (svI rfl) (sv (d := .int _ 0) rfl) rfl hx1) <|
  ils_cons rfl (mvB rfl rfl rfl rfl) <|
  ils_guard rfl rfl (.one rfl) rfl (by decide) (fun hb => (mvI rfl rfl rfl rfl)) <|
  ils_guard rfl rfl (.one rfl) rfl (by decide) (fun hb => (iop_cmpx rfl rfl (lb rfl) (svcI rfl hb) (sv (d := .int _ 4) rfl) rfl hx2)) <|
  ils_cons rfl (iop_andx rfl rfl (lb rfl) (svB rfl) rfl rfl hx3) <|
  ils_cons rfl (asB rfl rfl rfl rfl) <|
  ils_end ?_)
 refine iwp_ret ?_
 obtain rfl := Option.some.inj h
 refine ⟨.inr rfl, (.cons (sv rfl) .nil)⟩

theorem p_sbuf_Piece_ival (a0 : T_sbuf_Piece) (r : T_ivals_Ival) (h : sbuf_Piece_ival a0 = some r) : PureAt Try.prog 24 [.agg (v1 a0)] (.agg [.int .i64 r.From, .int .i64 r.To]) := by
 refine pure_of_iwp (rs := [.agg [.int .i64 r.From, .int .i64 r.To]]) Try.func24 rfl Try.ntmps24 (nle rfl) rfl fun O hO => ?_
 show IWP _ _ _ _ ⟨[(0, .agg (v1 a0))], []⟩ _
 unfold sbuf_Piece_ival at h
 refine iwp_reg (ils_cons rfl (iop_box' (cs := q6) 0 rfl rfl (lb rfl) rfl (svA q6 rfl) rfl rfl) <|
  ils_cons rfl (iop_allocS (cs := q7) (cs' := [.int .i64 0, .int .i64 0]) 1 rfl rfl (lb rfl) rfl ti59 rfl rfl (.all _)) <|
  ils_end ?_)
 refine iwp_reg (ils_cons rfl (faR 0 rfl rfl rfl Try.underlying39 rfl ti3 (lb rfl) rfl rfl) <|
  ils_cons rfl (iop_load_rs (d := .int _ _) rfl rfl (lb rfl) Try.underlying3 ag3 ti3 (by decide) (svR rfl) rfl (nle rfl) rfl) <|
  ils_cons rfl (faR 1 rfl rfl rfl Try.underlying39 rfl ti3 (lb rfl) rfl rfl) <|
  ils_cons rfl (iop_load_rs (d := .int _ _) rfl rfl (lb rfl) Try.underlying3 ag3 ti3 (by decide) (svR rfl) rfl (nle rfl) rfl) <|
  ils_cons rfl (iop_build_struct (cs := q7) rfl rfl (lb rfl) Try.underlying59 ti59 pl59 rfl (.cons (svI rfl) (.cons (svI rfl) .nil)) rfl) <|
  ils_cons rfl (stA q7 q7 ti59 rfl rfl rfl rfl rfl rfl rfl rfl (nle rfl) rfl) <|
  ils_end ?_)
 refine iwp_ret ?_
 obtain rfl := Option.some.inj h
 refine ⟨.inr rfl, (.cons (rva la59 rfl rfl (nle rfl) rfl) .nil)⟩

theorem p_slices_Clone_ivals_Set_ivals_Ival_h (a0 : (List T_ivals_Ival)) (r : (List T_ivals_Ival)) (h : slices_Clone_ivals_Set_ivals_Ival_h a0 = some r) : FnH Try.prog 37 [.slice false (a0.map E_ivals_Ival.d)] [] (.osl 0 E_ivals_Ival.sz r.length) [(0, .blk 59 (D.flat (r.map E_ivals_Ival.d)))] := by
 refine fnh_of_iwp (rs := [.osl 0 E_ivals_Ival.sz r.length]) Try.func37 rfl Try.ntmps37 (nle rfl) fun O hO => ?_
 show IWP _ _ _ _ ⟨[(0, .slice false (a0.map E_ivals_Ival.d))], []⟩ _
 unfold slices_Clone_ivals_Set_ivals_Ival_h at h
 refine iwp_reg (ils_cons rfl (iop_assign rfl rfl (lb rfl) (sv (d := .nils) rfl)) <|
  ils_end ?_)
 refine iwp_seq ?_
 refine iwp_reg (ils_cons rfl (mvL rfl rfl rfl rfl) <|
  ils_eqnil rfl rfl rfl (by decide) Try.underlying27 (svL rfl) rfl <| fun bn1 hbn1 =>
  ils_end ?_)
 refine iwp_cond (b := _) rfl (fun hc2 => ?_) (fun hc2 => ?_)
 ·
  replace h := bothE_t h (mapE (hbn1 hc2))
  refine iwp_reg (ils_cons rfl (iop_assign rfl rfl (lb rfl) (sv (d := .nils) rfl)) <|
   ils_end ?_)
  refine iwp_ret ?_
  refine thenQ_r ?_
  obtain rfl := Option.some.inj h
  refine ⟨.inr rfl, (fun i => if i = 0 then 50 else i), ⟨.nil, (.cons (.nilb rfl) .nil), nd_of [50] rfl (by decide), (fun i hi => by first | rfl | (show (if _ then _ else _) = _; (repeat' split) <;> omega))⟩, (.cons (svno rfl) .nil), rfl⟩
 ·
  replace h := bothE_f h
  refine iwp_skip ?_
  refine thenQ_n ?_
  obtain ⟨x3, hx3, h⟩ := bno_e h
  refine iwp_reg (ils_cons rfl (iop_bsO E_ivals_Ival.toEnc0 ([] : (List T_ivals_Ival)) 0 rfl rfl (lb rfl) Try.underlying27 ti59 rfl .nil rfl rfl (by decide)) <|
   ils_cons rfl (mvL rfl rfl rfl rfl) <|
   ils_cons rfl (iop_appO E_ivals_Ival.toEnc0 1 rfl rfl (lb rfl) Try.underlying27 ti59 rfl rfl rfl rfl rfl (src_T E_ivals_Ival (ys := a0) (svL rfl)) hx3) <|
   ils_cons rfl (iop_assign rfl rfl (lb rfl) (sv (d := .osl _ _ _) rfl)) <|
   ils_end ?_)
  refine iwp_ret ?_
  obtain rfl := Option.some.inj h
  refine ⟨.inr rfl, (fun i => if i = 0 then 1 else i), ⟨.nil, (.cons (EntW.lst rfl) .nil), nd_of [1] rfl (by decide), (fun i hi => by first | rfl | (show (if _ then _ else _) = _; (repeat' split) <;> omega))⟩, (.cons (sv rfl) .nil), rfl⟩

theorem p_ivals_Cut (a0 : (List T_ivals_Ival)) (a1 : T_ivals_Ival) (r : (List T_ivals_Ival)) (h : ivals_Cut a0 a1 = some r) : PureAt Try.prog 23 [.slice false (a0.map E_ivals_Ival.d), .agg [.int .i64 a1.From, .int .i64 a1.To]] (.slice false (r.map E_ivals_Ival.d)) := by
 refine pure_of_iwpF (rs := [.slice false (r.map E_ivals_Ival.d)]) Try.func23 rfl Try.ntmps23 (nle rfl) rfl fun O hO => ?_
 show IWP _ _ _ _ ⟨[(0, .slice false (a0.map E_ivals_Ival.d)), (1, .agg [.int .i64 a1.From, .int .i64 a1.To])], []⟩ _
 unfold ivals_Cut at h
 refine iwp_reg (ils_cons rfl (iop_box' (cs := q7) 0 rfl rfl (lb rfl) rfl (svA q7 rfl) rfl rfl) <|
  ils_cons rfl (iop_assign rfl rfl (lb rfl) (sv (d := .nils) rfl)) <|
  ils_end ?_)
 refine iwp_seq ?_
 obtain ⟨x1, hx1, h⟩ := bno_e h
 obtain ⟨x2, hx2, h⟩ := bno_e h
 obtain ⟨x3, hx3, h⟩ := bnd_e h
 obtain ⟨x4, hx4, h⟩ := bno_e h
 obtain ⟨x5, hx5, h⟩ := bnd_e h
 obtain ⟨x6, hx6, h⟩ := bnd_e h
 refine iwp_reg (ils_cons rfl (lra q7 la59 rfl rfl rfl rfl rfl (nle rfl) rfl) <|
  ils_cons rfl (iop_call (r := .bool _) rfl rfl (lb rfl) cl38 (.cons (svA q7 rfl) .nil) rfl (p_ivals_Ival_may _ _ hx1)) <|
  ils_cons rfl (iop_not rfl rfl (lb rfl) (svB rfl)) <|
  ils_cons rfl (mvB rfl rfl rfl rfl) <|
  ils_guard rfl rfl (.one rfl) rfl (by decide) (fun hb => (lra q7 la59 rfl rfl rfl rfl rfl (nle rfl) rfl)) <|
  ils_guard rfl rfl (.one rfl) rfl (by decide) (fun hb => (iop_call (r := .bool _) rfl rfl (lb rfl) cl39 (.cons (svc (d := .agg [.int .i64 a1.From, .int .i64 a1.To]) rfl hb) .nil) rfl (p_ivals_Ival_none _ _ (gd_t hx2 hb)))) <|
  ils_cons rfl (iop_orx rfl rfl (lb rfl) (svB rfl) rfl rfl hx3) <|
  ils_cons rfl (mvB rfl rfl rfl rfl) <|
  ils_guard rfl rfl (.one rfl) rfl (by decide) (fun hb => (mvL rfl rfl rfl rfl)) <|
  ils_guard rfl rfl (.one rfl) rfl (by decide) (fun hb => (iop_call (r := .int _ _) rfl rfl (lb rfl) cl40 (.cons (svcL rfl hb) .nil) rfl (p_ivals_Check _ _ (gd_t hx4 hb)))) <|
  ils_guard rfl rfl (.one rfl) rfl (by decide) (fun hb => (iop_cmpx rfl rfl (lb rfl) (svcI rfl hb) (sv (d := .int _ 0) rfl) rfl hx5)) <|
  ils_cons rfl (iop_orx rfl rfl (lb rfl) (svB rfl) rfl rfl hx6) <|
  ils_end ?_)
 refine iwp_cond (b := _) rfl (fun hc7 => ?_) (fun hc7 => ?_)
 ·
  replace h := bif_t h hc7
  obtain ⟨x8, hx8, h⟩ := bno_e h
  refine iwp_reg (ils_cons rfl (mvL rfl rfl rfl rfl) <|
   ils_cons rfl (iop_callh2 (r' := .osl 1 E_ivals_Ival.sz x8.length) (H1' := [(1, .blk 59 (D.flat (x8.map E_ivals_Ival.d)))]) 1 [] rfl rfl (lb rfl) cl37 (.cons (svL rfl) .nil) rfl rfl ⟨rfl, rfl, by decide, rfl, List.forall_mem_nil _⟩ (p_slices_Clone_ivals_Set_ivals_Ival_h _ _ hx8) rfl rfl (List.forall_mem_cons.2 ⟨⟨rfl, (handLr E_ivals_Ival)⟩, List.forall_mem_nil _⟩) (by simp only [List.map_cons, List.map_nil, Ent.ren, renL_flat, renL_ref]; rfl)) <|
   ils_cons rfl (iop_assign rfl rfl (lb rfl) (sv (d := .osl _ _ _) rfl)) <|
   ils_end ?_)
  refine iwp_ret ?_
  refine thenQ_r ?_
  obtain rfl := Option.some.inj h
  refine ⟨.inr rfl, _, (.cons (sv rfl) .nil), (.cons (FDT E_ivals_Ival rfl rfl) .nil)⟩
 ·
  replace h := bif_f h hc7
  refine iwp_skip ?_
  refine thenQ_n ?_
  refine iwp_reg (ils_cons rfl (iop_allocS (cs := [.nils]) (cs' := [.nils]) 1 rfl rfl (lb rfl) rfl ti27 rfl rfl (.all _)) <|
   ils_end ?_)
  refine iwp_seq ?_
  refine iwp_reg (ils_cons rfl (mvL rfl rfl rfl rfl) <|
   ils_cons rfl (lra q7 la59 rfl rfl rfl rfl rfl (nle rfl) rfl) <|
   ?_)
  refine ils_weak (S' := ⟨[(5, .ref 1 0), (21, .slice false (a0.map E_ivals_Ival.d)), (22, .agg [.int .i64 a1.From, .int .i64 a1.To])], [(1, .blk 27 [.nils])]⟩) (fun i => i) ⟨(.sames rfl rfl), (.cons (.blk rfl rfl rfl) .nil), nd_of [1] rfl (by decide), fun _ _ => rfl⟩ ?_
  refine ils_inl 1 2 rfl rfl rfl (by decide) cl41 Try.func41 rfl (.cons (svL rfl) (.cons (svA q7 rfl) .nil)) Try.ntmps41 (nle rfl) rfl hO fun O1 hO1 => ?_
  show IWP _ _ _ _ ⟨[(0, .slice false (a0.map E_ivals_Ival.d)), (1, .agg [.int .i64 a1.From, .int .i64 a1.To])], [(2, .kept 1 [.dead, .dead, .dead, .dead, .dead, .ref 1 0, .dead, .dead, .dead, .dead, .dead, .dead, .dead, .dead, .dead, .dead, .dead, .dead, .dead, .dead, .dead, .slice false (a0.map E_ivals_Ival.d), .agg [.int .i64 a1.From, .int .i64 a1.To], .dead, .dead, .dead, .dead, .dead, .dead, .dead]), (1, .blk 27 [.nils])]⟩ _
  refine iwp_reg (ils_cons rfl (iop_box' (cs := [.slice _ _]) 3 rfl rfl (lb rfl) rfl (svL rfl) rfl rfl) <|
   ils_cons rfl (iop_box' (cs := q7) 4 rfl rfl (lb rfl) rfl (svA q7 rfl) rfl rfl) <|
   ils_cons rfl (iop_assign rfl rfl (lb rfl) (sv (d := .nilf) rfl)) <|
   ils_end ?_)
  refine iwp_reg (ils_cons rfl (iop_makeFunc rfl rfl (lb rfl) (.cons (svR rfl) (.cons (svR rfl) .nil))) <|
   ils_cons rfl (iop_assign rfl rfl (lb rfl) (sv (d := .fn 52 [.ref _ _, .ref _ _]) rfl)) <|
   ils_end ?_)
  refine iwp_ret ?_
  refine ⟨.inr rfl, 2, _, [.fn 52 [.ref 3 0, .ref 4 0]], (.cons (sv rfl) .nil), rfl, rfl, ⟨[(5, .ref 1 0), (23, .fn 52 [.ref 3 0, .ref 4 0])], [(1, .blk 27 [.nils]), (3, .blk 27 [.slice false (a0.map E_ivals_Ival.d)]), (4, .blk 59 [.int .i64 a1.From, .int .i64 a1.To])]⟩, (fun i => i), ⟨(.sames rfl rfl), (.cons (.blk rfl rfl rfl) (.cons (.blk rfl rfl rfl) (.cons (.blk rfl rfl rfl) .nil))), nd_of [1, 3, 4] rfl (by decide), fun _ _ => rfl⟩, ?_⟩
  refine ils_end ?_
  refine iwp_block ?_
  refine iwp_weak (S' := ⟨[(5, .ref 1 0), (23, .fn 52 [.ref 3 0, .ref 4 0])], [(1, .blk 27 [.nils]), (3, .blk 27 [.slice false (a0.map E_ivals_Ival.d)]), (4, .blk 59 [.int .i64 a1.From, .int .i64 a1.To])]⟩) (fun i => i) ⟨(.sames rfl rfl), (.cons (.blk rfl rfl rfl) (.cons (.blk rfl rfl rfl) (.cons (.blk rfl rfl rfl) .nil))), nd_of [1, 3, 4] rfl (by decide), fun _ _ => rfl⟩ ?_
  refine iwp_range 1 5 6 (sv (d := .fn 52 [.ref _ _, .ref _ _]) rfl) cl52 Try.func52 rfl rfl Try.ntmps52 (nle rfl) rfl rfl hO fun O1 hO1 hlc1 => ?_
  show IWP _ _ _ _ ⟨[(0, .yld 5), (1, .ref 3 0), (2, .ref 4 0)], [(6, .kept 1 [.dead, .dead, .dead, .dead, .dead, .ref 1 0, .dead, .dead, .dead, .dead, .dead, .dead, .dead, .dead, .dead, .dead, .dead, .dead, .dead, .dead, .dead, .dead, .dead, .fn 52 [.ref 3 0, .ref 4 0], .dead, .dead, .dead, .dead, .dead, .dead]), (5, .loop 1 [.dead, .dead, .dead, .dead, .dead, .ref 1 0, .dead, .dead, .dead, .dead, .dead, .dead, .dead, .dead, .dead, .dead, .dead, .dead, .dead, .dead, .dead, .dead, .dead, .fn 52 [.ref 3 0, .ref 4 0], .dead, .dead, .dead, .dead, .dead, .dead] .ready none), (1, .blk 27 [.nils]), (3, .blk 27 [.slice false (a0.map E_ivals_Ival.d)]), (4, .blk 59 [.int .i64 a1.From, .int .i64 a1.To])]⟩ _
  refine iwp_reg (ils_cons rfl (lrL la27 rfl rfl rfl rfl rfl (nle rfl) rfl) <|
   ils_cons rfl (iop_lenT E_ivals_Ival (l := a0) rfl rfl (lb rfl) Try.underlying27 (svL rfl)) <|
   ils_cons rfl (iop_move rfl rfl (lb rfl) (sv (d := .int _ 0) rfl)) <|
   ils_end ?_)
  refine iwp_block ?_
  refine iwp_loopP (α := Nat × Int × (List T_ivals_Ival)) (fun z => ⟨[(0, .yld 5), (2, .ref 4 0), (8, .slice false (a0.map E_ivals_Ival.d)), (9, .int .i64 (a0.length : Int)), (10, .int .i64 z.2.1)], [(5, .loop 1 [.dead, .dead, .dead, .dead, .dead, .ref 1 0, .dead, .dead, .dead, .dead, .dead, .dead, .dead, .dead, .dead, .dead, .dead, .dead, .dead, .dead, .dead, .dead, .dead, .fn 52 [.ref 3 0, .ref 4 0], .dead, .dead, .dead, .dead, .dead, .dead] .ready none), (4, .blk 59 [.int .i64 a1.From, .int .i64 a1.To]), (6, .kept 1 [.dead, .dead, .dead, .dead, .dead, .ref 1 0, .dead, .dead, .dead, .dead, .dead, .dead, .dead, .dead, .dead, .dead, .dead, .dead, .dead, .dead, .dead, .dead, .dead, .fn 52 [.ref 3 0, .ref 4 0], .dead, .dead, .dead, .dead, .dead, .dead]), (1, .blk 27 [.osl 28 E_ivals_Ival.sz z.2.2.length]), (3, .blk 27 [.slice false (a0.map E_ivals_Ival.d)]), (28, .blk 59 (D.flat (z.2.2.map E_ivals_Ival.d)))]⟩) (fun z => ivals_Cut_L0 a0 a1 z.1 z.2.1 z.2.2 = some r) (fun z => z.1) (fuel, 0, ([] : (List T_ivals_Ival))) (fun i => if i = 28 then 85 else i) ⟨(.sames rfl rfl), (.cons (.loop rfl rfl rfl) (.cons (.blk rfl rfl rfl) (.cons (.kept rfl rfl rfl) (.cons (.sub rfl (.nilo .nil) rfl) (.cons (.blk rfl rfl rfl) (.cons (.nilb rfl) .nil)))))), nd_of [5, 4, 6, 1, 3, 85] rfl (by decide), (fun i hi => by first | rfl | (show (if _ then _ else _) = _; (repeat' split) <;> omega))⟩ ?_ ?_
  ·exact h
  ·
   rintro ⟨n0, v52, v53⟩ h
   cases n0 with
   | zero => exact absurd h (by unfold ivals_Cut_L0; exact nofun)
   | succ n0 =>
    unfold ivals_Cut_L0 at h
    obtain ⟨x97, hx97, h⟩ := bnd_e h
    refine iwp_reg (ils_cons rfl (iop_cmpx rfl rfl (lb rfl) (svI rfl) (svI rfl) rfl hx97) <|
     ils_end ?_)
    refine iwp_seq ?_
    refine iwp_cond (b := _) rfl (fun hc98 => ?_) (fun hc98 => ?_)
    ·
     replace h := bif_t h hc98
     refine iwp_skip ?_
     refine thenQ_n ?_
     refine iwp_seq ?_
     refine iwp_block ?_
     obtain ⟨x99, hx99, h⟩ := bno_e h
     refine iwp_reg (ils_cons rfl (iop_idxT E_ivals_Ival (cs := q7) rfl rfl (lb rfl) Try.underlying27 ti59 (svL rfl) (svI rfl) hx99 rfl rfl) <|
      ils_cons rfl (iop_load_fa (cs := q7) rfl rfl (lb rfl) Try.underlying59 ag59 ti59 (by decide) (sv (d := .fptr q7) rfl) (nle rfl) rfl) <|
      ils_cons rfl (iop_allocS (cs := q7) (cs' := [.int .i64 0, .int .i64 0]) 29 rfl rfl (lb rfl) rfl ti59 rfl rfl (.all _)) <|
      ils_cons rfl (stA q7 q7 ti59 rfl rfl rfl rfl rfl rfl rfl rfl (nle rfl) rfl) <|
      ils_end ?_)
     obtain ⟨x100, hx100, h⟩ := bnd_e h
     obtain ⟨x101, hx101, h⟩ := bnd_e h
     refine iwp_reg (ils_cons rfl (faR 0 rfl rfl rfl Try.underlying59 rfl ti3 (lb rfl) rfl rfl) <|
      ils_cons rfl (iop_load_rs (d := .int _ _) rfl rfl (lb rfl) Try.underlying3 ag3 ti3 (by decide) (svR rfl) rfl (nle rfl) rfl) <|
      ils_cons rfl (faR 1 rfl rfl rfl Try.underlying59 rfl ti3 (lb rfl) rfl rfl) <|
      ils_cons rfl (iop_load_rs (d := .int _ _) rfl rfl (lb rfl) Try.underlying3 ag3 ti3 (by decide) (svR rfl) rfl (nle rfl) rfl) <|
      ils_cons rfl (faR 0 rfl rfl rfl Try.underlying59 rfl ti3 (lb rfl) rfl rfl) <|
      ils_cons rfl (iop_load_rs (d := .int _ _) rfl rfl (lb rfl) Try.underlying3 ag3 ti3 (by decide) (svR rfl) rfl (nle rfl) rfl) <|
      ils_cons rfl (iop_min2 rfl rfl (lb rfl) (svI rfl) (svI rfl) hx100) <|
      ils_cons rfl (iop_build_struct (cs := q7) rfl rfl (lb rfl) Try.underlying59 ti59 pl59 rfl (.cons (svI rfl) (.cons (svI rfl) .nil)) rfl) <|
      ils_cons rfl (faR 0 rfl rfl rfl Try.underlying59 rfl ti3 (lb rfl) rfl rfl) <|
      ils_cons rfl (iop_load_rs (d := .int _ _) rfl rfl (lb rfl) Try.underlying3 ag3 ti3 (by decide) (svR rfl) rfl (nle rfl) rfl) <|
      ils_cons rfl (faR 1 rfl rfl rfl Try.underlying59 rfl ti3 (lb rfl) rfl rfl) <|
      ils_cons rfl (iop_load_rs (d := .int _ _) rfl rfl (lb rfl) Try.underlying3 ag3 ti3 (by decide) (svR rfl) rfl (nle rfl) rfl) <|
      ils_cons rfl (iop_max2 rfl rfl (lb rfl) (svI rfl) (svI rfl) hx101) <|
      ils_cons rfl (faR 1 rfl rfl rfl Try.underlying59 rfl ti3 (lb rfl) rfl rfl) <|
      ils_cons rfl (iop_load_rs (d := .int _ _) rfl rfl (lb rfl) Try.underlying3 ag3 ti3 (by decide) (svR rfl) rfl (nle rfl) rfl) <|
      ils_cons rfl (iop_build_struct (cs := q7) rfl rfl (lb rfl) Try.underlying59 ti59 pl59 rfl (.cons (svI rfl) (.cons (svI rfl) .nil)) rfl) <|
      ils_cons rfl (iop_build_array (cs := [.int _ _, .int _ _, .int _ _, .int _ _]) rfl rfl (lb rfl) Try.underlying79 ti79 ti59 rfl (.cons (svA q7 rfl) (.cons (svA q7 rfl) .nil)) rfl) <|
      ils_cons rfl (iop_move rfl rfl (lb rfl) (sv (d := .int _ 0) rfl)) <|
      ils_end ?_)
     refine iwp_block ?_
     refine iwp_loopP (α := Nat × Int × (List T_ivals_Ival)) (fun z => ⟨[(0, .yld 5), (2, .ref 4 0), (8, .slice false (a0.map E_ivals_Ival.d)), (9, .int .i64 (a0.length : Int)), (10, .int .i64 v52), (30, .agg (w13 x99.From x100 x101 x99.To)), (31, .int .i64 z.2.1)], [(5, .loop 1 [.dead, .dead, .dead, .dead, .dead, .ref 1 0, .dead, .dead, .dead, .dead, .dead, .dead, .dead, .dead, .dead, .dead, .dead, .dead, .dead, .dead, .dead, .dead, .dead, .fn 52 [.ref 3 0, .ref 4 0], .dead, .dead, .dead, .dead, .dead, .dead] .ready none), (4, .blk 59 [.int .i64 a1.From, .int .i64 a1.To]), (6, .kept 1 [.dead, .dead, .dead, .dead, .dead, .ref 1 0, .dead, .dead, .dead, .dead, .dead, .dead, .dead, .dead, .dead, .dead, .dead, .dead, .dead, .dead, .dead, .dead, .dead, .fn 52 [.ref 3 0, .ref 4 0], .dead, .dead, .dead, .dead, .dead, .dead]), (1, .blk 27 [.osl 28 E_ivals_Ival.sz z.2.2.length]), (3, .blk 27 [.slice false (a0.map E_ivals_Ival.d)]), (28, .blk 59 (D.flat (z.2.2.map E_ivals_Ival.d)))]⟩) (fun z => ivals_Cut_L1 v52 (ivals_Cut_L0 a0 a1 n0) x99 x100 x101 z.1 z.2.1 z.2.2 = some r) (fun z => z.1) (fuel, 0, v53) (fun i => i) ⟨(.sames rfl rfl), (.cons (.loop rfl rfl rfl) (.cons (.blk rfl rfl rfl) (.cons (.kept rfl rfl rfl) (.cons (.blk rfl rfl rfl) (.cons (.blk rfl rfl rfl) (.cons (EntW.lst rfl) .nil)))))), nd_of [5, 4, 6, 1, 3, 28] rfl (by decide), fun _ _ => rfl⟩ ?_ ?_
     ·exact h
     ·
      rintro ⟨n1, v113, v114⟩ h
      cases n1 with
      | zero => exact absurd h (by unfold ivals_Cut_L1; exact nofun)
      | succ n1 =>
       unfold ivals_Cut_L1 at h
       obtain ⟨x127, hx127, h⟩ := bnd_e h
       refine iwp_reg (ils_cons rfl (iop_cmpx rfl rfl (lb rfl) (svI rfl) (sv (d := .int _ 2) rfl) rfl hx127) <|
        ils_end ?_)
       refine iwp_seq ?_
       refine iwp_cond (b := _) rfl (fun hc128 => ?_) (fun hc128 => ?_)
       ·
        replace h := bif_t h hc128
        refine iwp_skip ?_
        refine thenQ_n ?_
        refine iwp_seq ?_
        refine iwp_block ?_
        obtain ⟨x129, hx129, h⟩ := bno_e h
        refine iwp_reg (ils_cons rfl (iop_ix_sel_a E_ivals_Ival (ds := q7) rfl rfl (lb rfl) Try.underlying79 Try.underlying59 ag59 ti59 (by decide) (sv (d := .agg [.int _ _, .int _ _, .int _ _, .int _ _]) rfl) (svI rfl) hx129 rfl ⟨rfl, ⟨rfl, trivial⟩⟩ rfl rfl) <|
         ils_cons rfl (iop_allocS (cs := q7) (cs' := [.int .i64 0, .int .i64 0]) 29 rfl rfl (lb rfl) rfl ti59 rfl rfl (.all _)) <|
         ils_cons rfl (stA q7 q7 ti59 rfl rfl rfl rfl rfl rfl rfl rfl (nle rfl) rfl) <|
         ils_end ?_)
        obtain ⟨x130, hx130, h⟩ := bno_e h
        refine iwp_reg (ils_cons rfl (lra q7 la59 rfl rfl rfl rfl rfl (nle rfl) rfl) <|
         ils_cons rfl (iop_call (r := .bool _) rfl rfl (lb rfl) cl39 (.cons (svA q7 rfl) .nil) rfl (p_ivals_Ival_none _ _ hx130)) <|
         ils_cons rfl (iop_not rfl rfl (lb rfl) (svB rfl)) <|
         ils_cons rfl (mvB rfl rfl rfl rfl) <|
         ils_guard rfl rfl (.one rfl) rfl (by decide) (fun hb => (iop_move rfl rfl (lb rfl) (sv (d := .yld _) rfl))) <|
         ils_guard rfl rfl (.one rfl) rfl (by decide) (fun hb => (lra q7 la59 rfl rfl rfl rfl rfl (nle rfl) rfl)) <|
         ?_)
        refine ils_gsplit rfl rfl (.one rfl) rfl (by decide) (fun hc131 => ?_) (fun hc131 => ?_)
        ·
         replace h := bif_t h hc131
         refine ils_uncnd 38 rfl hc131 ?_
         refine ils_uncnd 39 rfl hc131 ?_
         refine ils_weak (S' := ⟨[(0, .yld 5), (2, .ref 4 0), (8, .slice false (a0.map E_ivals_Ival.d)), (9, .int .i64 (a0.length : Int)), (10, .int .i64 v52), (30, .agg (w13 x99.From x100 x101 x99.To)), (31, .int .i64 v113), (37, .bool (!x130)), (38, .yld 5), (39, .agg [.int .i64 x129.From, .int .i64 x129.To])], [(1, .blk 27 [.osl 28 E_ivals_Ival.sz v114.length]), (3, .blk 27 [.slice false (a0.map E_ivals_Ival.d)]), (4, .blk 59 [.int .i64 a1.From, .int .i64 a1.To]), (5, .loop 1 [.dead, .dead, .dead, .dead, .dead, .ref 1 0, .dead, .dead, .dead, .dead, .dead, .dead, .dead, .dead, .dead, .dead, .dead, .dead, .dead, .dead, .dead, .dead, .dead, .fn 52 [.ref 3 0, .ref 4 0], .dead, .dead, .dead, .dead, .dead, .dead] .ready none), (6, .kept 1 [.dead, .dead, .dead, .dead, .dead, .ref 1 0, .dead, .dead, .dead, .dead, .dead, .dead, .dead, .dead, .dead, .dead, .dead, .dead, .dead, .dead, .dead, .dead, .dead, .fn 52 [.ref 3 0, .ref 4 0], .dead, .dead, .dead, .dead, .dead, .dead]), (28, .blk 59 (D.flat (v114.map E_ivals_Ival.d)))]⟩) (fun i => i) ⟨(.sames rfl rfl), (.cons (.blk rfl rfl rfl) (.cons (.blk rfl rfl rfl) (.cons (.blk rfl rfl rfl) (.cons (.loop rfl rfl rfl) (.cons (.kept rfl rfl rfl) (.cons (EntW.lst rfl) .nil)))))), nd_of [1, 3, 4, 5, 6, 28] rfl (by decide), fun _ _ => rfl⟩ ?_
         refine ils_yield 2 5 30 rfl rfl rfl (by decide) rfl (.cons (svA q7 rfl) .nil) rfl rfl rfl rfl rfl rfl hO1 hlc1 ⟨[(24, .agg [.int .i64 x129.From, .int .i64 x129.To]), (5, .ref 1 0)], [(1, .blk 27 [.osl 28 E_ivals_Ival.sz v114.length]), (3, .blk 27 [.slice false (a0.map E_ivals_Ival.d)]), (4, .blk 59 [.int .i64 a1.From, .int .i64 a1.To]), (5, .loop 1 [.dead, .dead, .dead, .dead, .dead, .ref 1 0, .dead, .dead, .dead, .dead, .dead, .dead, .dead, .dead, .dead, .dead, .dead, .dead, .dead, .dead, .dead, .dead, .dead, .fn 52 [.ref 3 0, .ref 4 0], .dead, .dead, .dead, .dead, .dead, .dead] .ready none), (6, .kept 1 [.dead, .dead, .dead, .dead, .dead, .ref 1 0, .dead, .dead, .dead, .dead, .dead, .dead, .dead, .dead, .dead, .dead, .dead, .dead, .dead, .dead, .dead, .dead, .dead, .fn 52 [.ref 3 0, .ref 4 0], .dead, .dead, .dead, .dead, .dead, .dead]), (28, .blk 59 (D.flat (v114.map E_ivals_Ival.d))), (30, .kept 2 [.yld 5, .dead, .ref 4 0, .dead, .dead, .dead, .dead, .dead, .slice false (a0.map E_ivals_Ival.d), .int .i64 (a0.length : Int), .int .i64 v52, .dead, .dead, .dead, .dead, .dead, .dead, .dead, .dead, .dead, .dead, .dead, .dead, .dead, .dead, .dead, .dead, .dead, .dead, .dead, .agg (w13 x99.From x100 x101 x99.To), .int .i64 v113, .dead, .dead, .dead, .dead, .dead, .bool (!x130), .yld 5, .agg [.int .i64 x129.From, .int .i64 x129.To], .dead, .dead, .dead, .dead, .dead])]⟩ (fun i => i) ⟨(.sames rfl rfl), (.cons (.blk rfl rfl rfl) (.cons (.blk rfl rfl rfl) (.cons (.blk rfl rfl rfl) (.cons (.loop rfl rfl rfl) (.cons (.kept rfl rfl rfl) (.cons (EntW.lst rfl) (.cons (.kept rfl rfl rfl) .nil))))))), nd_of [1, 3, 4, 5, 6, 28, 30] rfl (by decide), fun _ _ => rfl⟩ fun O2 => ?_
         refine iwp_region (ils_cons rfl (iop_allocS (cs := q7) (cs' := [.int .i64 0, .int .i64 0]) 31 rfl rfl (lb rfl) rfl ti59 rfl rfl (.all _)) <|
          ils_cons rfl (stA q7 q7 ti59 rfl rfl rfl rfl rfl rfl rfl rfl (nle rfl) rfl) <|
          ils_nil ?_)
         refine ⟨rfl, 5, _, rfl, ⟨[(5, .ref 1 0), (6, .ref 31 0)], [(1, .blk 27 [.osl 28 E_ivals_Ival.sz v114.length]), (3, .blk 27 [.slice false (a0.map E_ivals_Ival.d)]), (4, .blk 59 [.int .i64 a1.From, .int .i64 a1.To]), (5, .loop 1 [.dead, .dead, .dead, .dead, .dead, .ref 1 0, .dead, .dead, .dead, .dead, .dead, .dead, .dead, .dead, .dead, .dead, .dead, .dead, .dead, .dead, .dead, .dead, .dead, .fn 52 [.ref 3 0, .ref 4 0], .dead, .dead, .dead, .dead, .dead, .dead] .busy none), (6, .kept 1 [.dead, .dead, .dead, .dead, .dead, .ref 1 0, .dead, .dead, .dead, .dead, .dead, .dead, .dead, .dead, .dead, .dead, .dead, .dead, .dead, .dead, .dead, .dead, .dead, .fn 52 [.ref 3 0, .ref 4 0], .dead, .dead, .dead, .dead, .dead, .dead]), (28, .blk 59 (D.flat (v114.map E_ivals_Ival.d))), (30, .kept 2 [.yld 5, .dead, .ref 4 0, .dead, .dead, .dead, .dead, .dead, .slice false (a0.map E_ivals_Ival.d), .int .i64 (a0.length : Int), .int .i64 v52, .dead, .dead, .dead, .dead, .dead, .dead, .dead, .dead, .dead, .dead, .dead, .dead, .dead, .dead, .dead, .dead, .dead, .dead, .dead, .agg (w13 x99.From x100 x101 x99.To), .int .i64 v113, .dead, .dead, .dead, .dead, .dead, .bool (!x130), .yld 5, .agg [.int .i64 x129.From, .int .i64 x129.To], .dead, .dead, .dead, .dead, .dead]), (31, .blk 59 [.int .i64 x129.From, .int .i64 x129.To])]⟩, (fun i => i), ⟨(.sames rfl rfl), (.cons (.blk rfl rfl rfl) (.cons (.blk rfl rfl rfl) (.cons (.blk rfl rfl rfl) (.cons (.loop rfl rfl rfl) (.cons (.kept rfl rfl rfl) (.cons (EntW.lst rfl) (.cons (.kept rfl rfl rfl) (.cons (.blk rfl rfl rfl) .nil)))))))), nd_of [1, 3, 4, 5, 6, 28, 30, 31] rfl (by decide), fun _ _ => rfl⟩, ?_⟩
         refine iwp_block ?_
         obtain ⟨x132, hx132, h⟩ := bno_e h
         refine iwp_region (ils_cons rfl (iop_load_rs (d := .osl _ _ _) rfl rfl (lb rfl) Try.underlying27 ag27 ti27 (by decide) (svR rfl) rfl (nle rfl) rfl) <|
          ils_cons rfl (lra q7 la59 rfl rfl rfl rfl rfl (nle rfl) rfl) <|
          ils_cons rfl (iop_bsO E_ivals_Ival.toEnc0 ([(⟨x129.From, x129.To⟩ : T_ivals_Ival)] : (List T_ivals_Ival)) 32 rfl rfl (lb rfl) Try.underlying27 ti59 rfl (.cons (svA q7 rfl) .nil) rfl rfl (by decide)) <|
          ils_cons rfl (iop_appO E_ivals_Ival.toEnc0 33 rfl rfl (lb rfl) Try.underlying27 ti59 rfl rfl rfl rfl rfl (src_O E_ivals_Ival.toEnc0 rfl rfl rfl) hx132) <|
          ils_cons rfl (iop_store (ds' := [.osl _ _ _]) rfl rfl ti27 (svR rfl) rfl (sv (d := .osl _ _ _) rfl) rfl rfl rfl (nle rfl) rfl) <|
          ils_nil ?_)
         refine blockQ_n ?_
         refine ⟨5, 30, _, _, none, rfl, rfl, rfl, rfl, (by decide), ⟨[(0, .yld 5), (2, .ref 4 0), (8, .slice false (a0.map E_ivals_Ival.d)), (9, .int .i64 (a0.length : Int)), (10, .int .i64 v52), (30, .agg (w13 x99.From x100 x101 x99.To)), (31, .int .i64 v113), (37, .bool (!x130)), (38, .yld 5), (39, .agg [.int .i64 x129.From, .int .i64 x129.To]), (40, .bool true)], [(1, .blk 27 [.osl 33 E_ivals_Ival.sz x132.length]), (3, .blk 27 [.slice false (a0.map E_ivals_Ival.d)]), (4, .blk 59 [.int .i64 a1.From, .int .i64 a1.To]), (5, .loop 1 [.dead, .dead, .dead, .dead, .dead, .ref 1 0, .dead, .dead, .dead, .dead, .dead, .dead, .dead, .dead, .dead, .dead, .dead, .dead, .dead, .dead, .dead, .dead, .dead, .fn 52 [.ref 3 0, .ref 4 0], .dead, .dead, .dead, .dead, .dead, .dead] .ready none), (6, .kept 1 [.dead, .dead, .dead, .dead, .dead, .ref 1 0, .dead, .dead, .dead, .dead, .dead, .dead, .dead, .dead, .dead, .dead, .dead, .dead, .dead, .dead, .dead, .dead, .dead, .fn 52 [.ref 3 0, .ref 4 0], .dead, .dead, .dead, .dead, .dead, .dead]), (33, .blk 59 (D.flat (x132.map E_ivals_Ival.d)))]⟩, (fun i => i), ⟨(.sames rfl rfl), (.cons (.blk rfl rfl rfl) (.cons (.blk rfl rfl rfl) (.cons (.blk rfl rfl rfl) (.cons (.loop rfl rfl rfl) (.cons (.kept rfl rfl rfl) (.cons (EntW.lst rfl) .nil)))))), nd_of [1, 3, 4, 5, 6, 33] rfl (by decide), fun _ _ => rfl⟩, ?_⟩
         obtain ⟨x133, hx133, h⟩ := bnd_e h
         refine ils_guard rfl rfl (.one rfl) rfl (by decide) (fun hb => (iop_not rfl rfl (lb rfl) (svB rfl))) <|
          ils_cons rfl (iop_andx rfl rfl (lb rfl) (svB rfl) rfl rfl hx133) <|
          ils_end ?_
         refine iwp_cond (b := _) rfl (fun hc134 => ?_) (fun hc134 => ?_)
         ·
          replace h := bif_t h hc134
          refine iwp_ret ?_
          refine blockQ_r ?_
          refine thenQ_r ?_
          refine thenQ_r ?_
          refine blockQ_r ?_
          refine blockQ_r ?_
          refine thenQ_r ?_
          refine thenQ_r ?_
          refine blockQ_r ?_
          refine ⟨.inr rfl, 5, 6, _, _, _, _, rfl, (by simp), rfl, rfl, ⟨[(5, .ref 1 0)], [(1, .blk 27 [.osl 33 E_ivals_Ival.sz x132.length]), (33, .blk 59 (D.flat (x132.map E_ivals_Ival.d)))]⟩, (fun i => i), ⟨(.sames rfl rfl), (.cons (.blk rfl rfl rfl) (.cons (EntW.lst rfl) .nil)), nd_of [1, 33] rfl (by decide), fun _ _ => rfl⟩, ?_⟩
          refine blockQ_n ?_
          refine thenQ_n ?_
          refine iwp_reg (ils_cons rfl (iop_load_rs (d := .osl _ _ _) rfl rfl (lb rfl) Try.underlying27 ag27 ti27 (by decide) (svR rfl) rfl (nle rfl) rfl) <|
           ils_cons rfl (iop_assign rfl rfl (lb rfl) (sv (d := .osl _ _ _) rfl)) <|
           ils_end ?_)
          refine iwp_ret ?_
          obtain rfl := Option.some.inj h
          refine ⟨.inr rfl, _, (.cons (sv rfl) .nil), (.cons (FDT E_ivals_Ival rfl rfl) .nil)⟩
         ·
          replace h := bif_f h hc134
          refine iwp_skip ?_
          refine blockQ_n ?_
          refine thenQ_n ?_
          obtain ⟨x135, hx135, h⟩ := bnd_e h
          refine iwp_region (ils_cons rfl (iop_intx rfl rfl (lb rfl) (svI rfl) (sv (d := .int _ 1) rfl) rfl hx135) <|
           ils_cons rfl (mvI rfl rfl rfl rfl) <|
           ils_nil ?_)
          refine thenQ_n ⟨(n1, x135, x132), (fun i => if i = 28 then 33 else i), ⟨(.sames rfl rfl), (.cons (.loop rfl rfl rfl) (.cons (.blk rfl rfl rfl) (.cons (.kept rfl rfl rfl) (.cons (.blk rfl rfl rfl) (.cons (.blk rfl rfl rfl) (.cons (EntW.lst rfl) .nil)))))), nd_of [5, 4, 6, 1, 3, 33] rfl (by decide), (fun i hi => by first | rfl | (show (if _ then _ else _) = _; (repeat' split) <;> omega))⟩, ?_, ?_⟩
          exact h
          exact Nat.lt_succ_self _
        ·
         replace h := bif_f h hc131
         obtain ⟨x136, hx136, h⟩ := bnd_e h
         refine ils_guard rfl rfl (.one rfl) rfl (by decide) (fun hb => (iop_not rfl rfl (lb rfl) (svcB rfl hb))) <|
          ils_cons rfl (iop_andx rfl rfl (lb rfl) (svB rfl) rfl rfl hx136) <|
          ils_end ?_
         refine iwp_cond (b := _) rfl (fun hc137 => ?_) (fun hc137 => ?_)
         ·
          replace h := bif_t h hc137
          refine iwp_ret ?_
          refine blockQ_r ?_
          refine thenQ_r ?_
          refine thenQ_r ?_
          refine blockQ_r ?_
          refine blockQ_r ?_
          refine thenQ_r ?_
          refine thenQ_r ?_
          refine blockQ_r ?_
          refine ⟨.inr rfl, 5, 6, _, _, _, _, rfl, (by simp), rfl, rfl, ⟨[(5, .ref 1 0)], [(1, .blk 27 [.osl 28 E_ivals_Ival.sz v114.length]), (28, .blk 59 (D.flat (v114.map E_ivals_Ival.d)))]⟩, (fun i => i), ⟨(.sames rfl rfl), (.cons (.blk rfl rfl rfl) (.cons (EntW.lst rfl) .nil)), nd_of [1, 28] rfl (by decide), fun _ _ => rfl⟩, ?_⟩
          refine blockQ_n ?_
          refine thenQ_n ?_
          refine iwp_reg (ils_cons rfl (iop_load_rs (d := .osl _ _ _) rfl rfl (lb rfl) Try.underlying27 ag27 ti27 (by decide) (svR rfl) rfl (nle rfl) rfl) <|
           ils_cons rfl (iop_assign rfl rfl (lb rfl) (sv (d := .osl _ _ _) rfl)) <|
           ils_end ?_)
          refine iwp_ret ?_
          obtain rfl := Option.some.inj h
          refine ⟨.inr rfl, _, (.cons (sv rfl) .nil), (.cons (FDT E_ivals_Ival rfl rfl) .nil)⟩
         ·
          replace h := bif_f h hc137
          refine iwp_skip ?_
          refine blockQ_n ?_
          refine thenQ_n ?_
          obtain ⟨x138, hx138, h⟩ := bnd_e h
          refine iwp_region (ils_cons rfl (iop_intx rfl rfl (lb rfl) (svI rfl) (sv (d := .int _ 1) rfl) rfl hx138) <|
           ils_cons rfl (mvI rfl rfl rfl rfl) <|
           ils_nil ?_)
          refine thenQ_n ⟨(n1, x138, v114), (fun i => i), ⟨(.sames rfl rfl), (.cons (.loop rfl rfl rfl) (.cons (.blk rfl rfl rfl) (.cons (.kept rfl rfl rfl) (.cons (.blk rfl rfl rfl) (.cons (.blk rfl rfl rfl) (.cons (EntW.lst rfl) .nil)))))), nd_of [5, 4, 6, 1, 3, 28] rfl (by decide), fun _ _ => rfl⟩, ?_, ?_⟩
          exact h
          exact Nat.lt_succ_self _
       ·
        replace h := bif_f h hc128
        refine iwp_exit ?_
        refine thenQ_e ?_
        refine thenQ_e ?_
        refine blockQ_e ?_
        refine blockQ_n ?_
        refine thenQ_n ?_
        obtain ⟨x139, hx139, h⟩ := bnd_e h
        refine iwp_region (ils_cons rfl (iop_intx rfl rfl (lb rfl) (svI rfl) (sv (d := .int _ 1) rfl) rfl hx139) <|
         ils_cons rfl (mvI rfl rfl rfl rfl) <|
         ils_nil ?_)
        refine thenQ_n ⟨(n0, x139, v114), (fun i => i), ⟨(.sames rfl rfl), (.cons (.loop rfl rfl rfl) (.cons (.blk rfl rfl rfl) (.cons (.kept rfl rfl rfl) (.cons (.blk rfl rfl rfl) (.cons (.blk rfl rfl rfl) (.cons (EntW.lst rfl) .nil)))))), nd_of [5, 4, 6, 1, 3, 28] rfl (by decide), fun _ _ => rfl⟩, ?_, ?_⟩
        exact h
        exact Nat.lt_succ_self _
    ·
     replace h := bif_f h hc98
     refine iwp_exit ?_
     refine thenQ_e ?_
     refine thenQ_e ?_
     refine blockQ_e ?_
     refine ⟨.inl rfl, 5, 6, _, _, _, _, rfl, (by simp), rfl, rfl, ⟨[(5, .ref 1 0)], [(1, .blk 27 [.osl 28 E_ivals_Ival.sz v53.length]), (28, .blk 59 (D.flat (v53.map E_ivals_Ival.d)))]⟩, (fun i => i), ⟨(.sames rfl rfl), (.cons (.blk rfl rfl rfl) (.cons (EntW.lst rfl) .nil)), nd_of [1, 28] rfl (by decide), fun _ _ => rfl⟩, ?_⟩
     refine blockQ_n ?_
     refine thenQ_n ?_
     refine iwp_reg (ils_cons rfl (iop_load_rs (d := .osl _ _ _) rfl rfl (lb rfl) Try.underlying27 ag27 ti27 (by decide) (svR rfl) rfl (nle rfl) rfl) <|
      ils_cons rfl (iop_assign rfl rfl (lb rfl) (sv (d := .osl _ _ _) rfl)) <|
      ils_end ?_)
     refine iwp_ret ?_
     obtain rfl := Option.some.inj h
     refine ⟨.inr rfl, _, (.cons (sv rfl) .nil), (.cons (FDT E_ivals_Ival rfl rfl) .nil)⟩

theorem p_ivals_Gaps (a0 : (List T_ivals_Ival)) (a1 : T_ivals_Ival) (r : (List T_ivals_Ival)) (h : ivals_Gaps a0 a1 = some r) : PureAt Try.prog 46 [.slice false (a0.map E_ivals_Ival.d), .agg [.int .i64 a1.From, .int .i64 a1.To]] (.slice false (r.map E_ivals_Ival.d)) := by
 refine pure_of_iwp (rs := [.slice false (r.map E_ivals_Ival.d)]) Try.func46 rfl Try.ntmps46 (nle rfl) rfl fun O hO => ?_
 show IWP _ _ _ _ ⟨[(0, .slice false (a0.map E_ivals_Ival.d)), (1, .agg [.int .i64 a1.From, .int .i64 a1.To])], []⟩ _
 unfold ivals_Gaps at h
 refine iwp_reg (ils_cons rfl (iop_box' (cs := q7) 0 rfl rfl (lb rfl) rfl (svA q7 rfl) rfl rfl) <|
  ils_cons rfl (iop_assign rfl rfl (lb rfl) (sv (d := .nils) rfl)) <|
  ils_end ?_)
 refine iwp_seq ?_
 obtain ⟨x1, hx1, h⟩ := bno_e h
 obtain ⟨x2, hx2, h⟩ := bno_e h
 obtain ⟨x3, hx3, h⟩ := bnd_e h
 obtain ⟨x4, hx4, h⟩ := bnd_e h
 obtain ⟨x5, hx5, h⟩ := bno_e h
 obtain ⟨x6, hx6, h⟩ := bnd_e h
 refine iwp_reg (ils_cons rfl (lra q7 la59 rfl rfl rfl rfl rfl (nle rfl) rfl) <|
  ils_cons rfl (iop_call (r := .bool _) rfl rfl (lb rfl) cl38 (.cons (svA q7 rfl) .nil) rfl (p_ivals_Ival_may _ _ hx1)) <|
  ils_cons rfl (iop_not rfl rfl (lb rfl) (svB rfl)) <|
  ils_cons rfl (mvB rfl rfl rfl rfl) <|
  ils_guard rfl rfl (.one rfl) rfl (by decide) (fun hb => (mvL rfl rfl rfl rfl)) <|
  ils_guard rfl rfl (.one rfl) rfl (by decide) (fun hb => (iop_call (r := .int _ _) rfl rfl (lb rfl) cl40 (.cons (svcL rfl hb) .nil) rfl (p_ivals_Check _ _ (gd_t hx2 hb)))) <|
  ils_guard rfl rfl (.one rfl) rfl (by decide) (fun hb => (iop_cmpx rfl rfl (lb rfl) (svcI rfl hb) (sv (d := .int _ 0) rfl) rfl hx3)) <|
  ils_cons rfl (iop_orx rfl rfl (lb rfl) (svB rfl) rfl rfl hx4) <|
  ils_cons rfl (mvB rfl rfl rfl rfl) <|
  ils_guard rfl rfl (.one rfl) rfl (by decide) (fun hb => (lra q7 la59 rfl rfl rfl rfl rfl (nle rfl) rfl)) <|
  ils_guard rfl rfl (.one rfl) rfl (by decide) (fun hb => (iop_call (r := .bool _) rfl rfl (lb rfl) cl39 (.cons (svc (d := .agg [.int .i64 a1.From, .int .i64 a1.To]) rfl hb) .nil) rfl (p_ivals_Ival_none _ _ (gd_t hx5 hb)))) <|
  ils_cons rfl (iop_orx rfl rfl (lb rfl) (svB rfl) rfl rfl hx6) <|
  ils_end ?_)
 refine iwp_cond (b := _) rfl (fun hc7 => ?_) (fun hc7 => ?_)
 ·
  replace h := bif_t h hc7
  refine iwp_reg (ils_cons rfl (iop_assign rfl rfl (lb rfl) (sv (d := .nils) rfl)) <|
   ils_end ?_)
  refine iwp_ret ?_
  refine thenQ_r ?_
  obtain rfl := Option.some.inj h
  refine ⟨.inr rfl, (.cons (svn_of rfl rfl) .nil)⟩
 ·
  replace h := bif_f h hc7
  refine iwp_skip ?_
  refine thenQ_n ?_
  refine iwp_reg (ils_cons rfl (lra q7 la59 rfl rfl rfl rfl rfl (nle rfl) rfl) <|
   ils_cons rfl (iop_bsT E_ivals_Ival ([(⟨a1.From, a1.To⟩ : T_ivals_Ival)] : (List T_ivals_Ival)) 1 rfl rfl (lb rfl) Try.underlying27 ti59 rfl (.cons (svA q7 rfl) .nil) rfl rfl (by decide)) <|
   ils_cons rfl (iop_assign rfl rfl (lb rfl) (sv (d := .gsl _ _ _) rfl)) <|
   ils_end ?_)
  refine iwp_seq ?_
  refine iwp_reg (ils_cons rfl (mvL rfl rfl rfl rfl) <|
   ils_cons rfl (iop_lenT E_ivals_Ival (l := a0) rfl rfl (lb rfl) Try.underlying27 (svL rfl)) <|
   ils_cons rfl (iop_move rfl rfl (lb rfl) (sv (d := .int _ 0) rfl)) <|
   ils_end ?_)
  refine iwp_block ?_
  refine iwp_loopP (α := Nat × (List T_ivals_Ival) × Int) (fun z => ⟨[(5, .slice false (z.2.1.map E_ivals_Ival.d)), (22, .slice false (a0.map E_ivals_Ival.d)), (23, .int .i64 (a0.length : Int)), (24, .int .i64 z.2.2)], []⟩) (fun z => ivals_Gaps_L0 a0 z.1 z.2.1 z.2.2 = some r) (fun z => z.1) (fuel, ([(⟨a1.From, a1.To⟩ : T_ivals_Ival)] : (List T_ivals_Ival)), 0) (fun i => i) ⟨(.cons (.coe (svg rfl) rfl) (.sames rfl rfl)), .nil, nd_of [] rfl (by decide), fun _ _ => rfl⟩ ?_ ?_
  ·exact h
  ·
   rintro ⟨n0, v13, v14⟩ h
   cases n0 with
   | zero => exact absurd h (by unfold ivals_Gaps_L0; exact nofun)
   | succ n0 =>
    unfold ivals_Gaps_L0 at h
    obtain ⟨x20, hx20, h⟩ := bnd_e h
    refine iwp_reg (ils_cons rfl (iop_cmpx rfl rfl (lb rfl) (svI rfl) (svI rfl) rfl hx20) <|
     ils_end ?_)
    refine iwp_seq ?_
    refine iwp_cond (b := _) rfl (fun hc21 => ?_) (fun hc21 => ?_)
    ·
     replace h := bif_t h hc21
     refine iwp_skip ?_
     refine thenQ_n ?_
     refine iwp_seq ?_
     refine iwp_block ?_
     obtain ⟨x22, hx22, h⟩ := bno_e h
     refine iwp_reg (ils_cons rfl (iop_idxT E_ivals_Ival (cs := q7) rfl rfl (lb rfl) Try.underlying27 ti59 (svL rfl) (svI rfl) hx22 rfl rfl) <|
      ils_cons rfl (iop_load_fa (cs := q7) rfl rfl (lb rfl) Try.underlying59 ag59 ti59 (by decide) (sv (d := .fptr q7) rfl) (nle rfl) rfl) <|
      ils_cons rfl (iop_allocS (cs := q7) (cs' := [.int .i64 0, .int .i64 0]) 0 rfl rfl (lb rfl) rfl ti59 rfl rfl (.all _)) <|
      ils_cons rfl (stA q7 q7 ti59 rfl rfl rfl rfl rfl rfl rfl rfl (nle rfl) rfl) <|
      ils_end ?_)
     obtain ⟨x23, hx23, h⟩ := bno_e h
     refine iwp_region (ils_cons rfl (mvL rfl rfl rfl rfl) <|
      ils_cons rfl (lra q7 la59 rfl rfl rfl rfl rfl (nle rfl) rfl) <|
      ils_cons rfl (iop_call (r := .slice _ _) rfl rfl (lb rfl) cl23 (.cons (svL rfl) (.cons (svA q7 rfl) .nil)) rfl (p_ivals_Cut _ _ _ hx23)) <|
      ils_cons rfl (iop_assign rfl rfl (lb rfl) (svL rfl)) <|
      ils_nil ?_)
     refine blockQ_n ?_
     refine thenQ_n ?_
     obtain ⟨x24, hx24, h⟩ := bnd_e h
     refine iwp_region (ils_cons rfl (iop_intx rfl rfl (lb rfl) (svI rfl) (sv (d := .int _ 1) rfl) rfl hx24) <|
      ils_cons rfl (mvI rfl rfl rfl rfl) <|
      ils_nil ?_)
     refine thenQ_n ⟨(n0, x23, x24), (fun i => i), ⟨(.sames rfl rfl), .nil, nd_of [] rfl (by decide), fun _ _ => rfl⟩, ?_, ?_⟩
     exact h
     exact Nat.lt_succ_self _
    ·
     replace h := bif_f h hc21
     refine iwp_exit ?_
     refine thenQ_e ?_
     refine thenQ_e ?_
     refine blockQ_e ?_
     refine thenQ_n ?_
     refine iwp_reg (ils_cons rfl (mvL rfl rfl rfl rfl) <|
      ils_cons rfl (iop_assign rfl rfl (lb rfl) (svL rfl)) <|
      ils_end ?_)
     refine iwp_ret ?_
     obtain rfl := Option.some.inj h
     refine ⟨.inr rfl, (.cons (sv rfl) .nil)⟩

theorem p_slices_Equal_ivals_Set_ivals_Ival (a0 : (List T_ivals_Ival)) (a1 : (List T_ivals_Ival)) (r : Bool) (h : slices_Equal_ivals_Set_ivals_Ival a0 a1 = some r) : PureAt Try.prog 48 [.slice false (a0.map E_ivals_Ival.d), .slice false (a1.map E_ivals_Ival.d)] (.bool r) := by
 refine pure_of_iwp (rs := [.bool r]) Try.func48 rfl Try.ntmps48 (nle rfl) rfl fun O hO => ?_
 show IWP _ _ _ _ ⟨[(0, .slice false (a0.map E_ivals_Ival.d)), (1, .slice false (a1.map E_ivals_Ival.d))], []⟩ _
 unfold slices_Equal_ivals_Set_ivals_Ival at h
 refine iwp_reg (ils_cons rfl (iop_assign rfl rfl (lb rfl) (sv (d := .bool false) rfl)) <|
  ils_end ?_)
 refine iwp_seq ?_
 obtain ⟨x1, hx1, h⟩ := bnd_e h
 refine iwp_reg (ils_cons rfl (mvL rfl rfl rfl rfl) <|
  ils_cons rfl (iop_lenT E_ivals_Ival (l := a0) rfl rfl (lb rfl) Try.underlying27 (svL rfl)) <|
  ils_cons rfl (mvL rfl rfl rfl rfl) <|
  ils_cons rfl (iop_lenT E_ivals_Ival (l := a1) rfl rfl (lb rfl) Try.underlying27 (svL rfl)) <|
  ils_cons rfl (iop_cmpx rfl rfl (lb rfl) (svI rfl) (svI rfl) rfl hx1) <|
  ils_end ?_)
 refine iwp_cond (b := _) rfl (fun hc2 => ?_) (fun hc2 => ?_)
 ·
  replace h := bif_t h hc2
  refine iwp_reg (ils_cons rfl (iop_assign rfl rfl (lb rfl) (sv (d := .bool false) rfl)) <|
   ils_end ?_)
  refine iwp_ret ?_
  refine thenQ_r ?_
  obtain rfl := Option.some.inj h
  refine ⟨.inr rfl, (.cons (sv rfl) .nil)⟩
 ·
  replace h := bif_f h hc2
  refine iwp_skip ?_
  refine thenQ_n ?_
  refine iwp_seq ?_
  refine iwp_reg (ils_cons rfl (mvL rfl rfl rfl rfl) <|
   ils_cons rfl (iop_lenT E_ivals_Ival (l := a0) rfl rfl (lb rfl) Try.underlying27 (svL rfl)) <|
   ils_cons rfl (iop_move rfl rfl (lb rfl) (sv (d := .int _ 0) rfl)) <|
   ils_end ?_)
  refine iwp_block ?_
  refine iwp_loopP (α := Nat × Int) (fun z => ⟨[(0, .slice false (a0.map E_ivals_Ival.d)), (1, .slice false (a1.map E_ivals_Ival.d)), (12, .int .i64 (a0.length : Int)), (13, .int .i64 z.2)], []⟩) (fun z => slices_Equal_ivals_Set_ivals_Ival_L0 a0 a1 z.1 z.2 = some r) (fun z => z.1) (fuel, 0) (fun i => i) ⟨(.sames rfl rfl), .nil, nd_of [] rfl (by decide), fun _ _ => rfl⟩ ?_ ?_
  ·exact h
  ·
   rintro ⟨n0, v10⟩ h
   cases n0 with
   | zero => exact absurd h (by unfold slices_Equal_ivals_Set_ivals_Ival_L0; exact nofun)
   | succ n0 =>
    unfold slices_Equal_ivals_Set_ivals_Ival_L0 at h
    obtain ⟨x18, hx18, h⟩ := bnd_e h
    refine iwp_reg (ils_cons rfl (iop_cmpx rfl rfl (lb rfl) (svI rfl) (svI rfl) rfl hx18) <|
     ils_end ?_)
    refine iwp_seq ?_
    refine iwp_cond (b := _) rfl (fun hc19 => ?_) (fun hc19 => ?_)
    ·
     replace h := bif_t h hc19
     refine iwp_skip ?_
     refine thenQ_n ?_
     refine iwp_seq ?_
     refine iwp_block ?_
     refine iwp_reg (ils_cons rfl (mvI rfl rfl rfl rfl) <|
      ils_cons rfl (asI rfl rfl rfl rfl) <|
      ils_end ?_)
     obtain ⟨x20, hx20, h⟩ := bno_e h
     obtain ⟨x21, hx21, h⟩ := bno_e h
     obtain ⟨x22, hx22, h⟩ := bnd_e h
     refine iwp_drw rfl [⟨[0], [], [(16, .slice false (a0.map E_ivals_Ival.d))], []⟩,
      ⟨[5], [], [(17, .int .i64 v10)], []⟩,
      ⟨[16, 17], [], [(18, .fptr [.int .i64 x20.From, .int .i64 x20.To])], []⟩,
      ⟨[18], [], [(19, .agg [.int .i64 x20.From, .int .i64 x20.To])], []⟩,
      ⟨[1], [], [(20, .slice false (a1.map E_ivals_Ival.d))], []⟩,
      ⟨[5], [], [(21, .int .i64 v10)], []⟩,
      ⟨[20, 21], [], [(22, .fptr [.int .i64 x21.From, .int .i64 x21.To])], []⟩,
      ⟨[22], [], [(23, .agg [.int .i64 x21.From, .int .i64 x21.To])], []⟩,
      ⟨[19, 23], [], [(24, .bool (!x22))], []⟩] rfl ?_ (by kernel_rfl) ?_
     ·refine .cons (lop rfl rfl fun S hA => (iop_move rfl rfl (lb rfl) (svaL hA rfl rfl))) ?_
      refine .cons (lop rfl rfl fun S hA => (iop_move rfl rfl (lb rfl) (svaI hA rfl rfl))) ?_
      refine .cons (lop rfl rfl fun S hA => (iop_idxT E_ivals_Ival (cs := q7) rfl rfl (lb rfl) Try.underlying27 ti59 (svaL hA rfl rfl) (svaI hA rfl rfl) hx20 rfl rfl)) ?_
      refine .cons (lop rfl rfl fun S hA => (iop_load_fa (cs := q7) rfl rfl (lb rfl) Try.underlying59 ag59 ti59 (by decide) (sv (d := .fptr q7) (agr hA rfl rfl)) (nle rfl) rfl)) ?_
      refine .cons (lop rfl rfl fun S hA => (iop_move rfl rfl (lb rfl) (svaL hA rfl rfl))) ?_
      refine .cons (lop rfl rfl fun S hA => (iop_move rfl rfl (lb rfl) (svaI hA rfl rfl))) ?_
      refine .cons (lop rfl rfl fun S hA => (iop_idxT E_ivals_Ival (cs := q7) rfl rfl (lb rfl) Try.underlying27 ti59 (svaL hA rfl rfl) (svaI hA rfl rfl) hx21 rfl rfl)) ?_
      refine .cons (lop rfl rfl fun S hA => (iop_load_fa (cs := q7) rfl rfl (lb rfl) Try.underlying59 ag59 ti59 (by decide) (sv (d := .fptr q7) (agr hA rfl rfl)) (nle rfl) rfl)) ?_
      refine .cons (lop rfl rfl fun S hA => (iop_nes rfl rfl (lb rfl) Try.underlying59 st59.1 st59.2 (svaA q7 hA rfl rfl) (svaA q7 hA rfl rfl) (congrArg some hx22))) ?_
      exact .nil
     refine iwp_cond (b := _) rfl (fun hc23 => ?_) (fun hc23 => ?_)
     ·
      replace h := bif_t h hc23
      refine iwp_reg (ils_cons rfl (iop_assign rfl rfl (lb rfl) (sv (d := .bool false) rfl)) <|
       ils_end ?_)
      refine iwp_ret ?_
      refine blockQ_r ?_
      refine thenQ_r ?_
      refine thenQ_r ?_
      refine blockQ_r ?_
      refine thenQ_r ?_
      obtain rfl := Option.some.inj h
      refine ⟨.inr rfl, (.cons (sv rfl) .nil)⟩
     ·
      replace h := bif_f h hc23
      refine iwp_skip ?_
      refine blockQ_n ?_
      refine thenQ_n ?_
      obtain ⟨x24, hx24, h⟩ := bnd_e h
      refine iwp_region (ils_cons rfl (iop_intx rfl rfl (lb rfl) (svI rfl) (sv (d := .int _ 1) rfl) rfl hx24) <|
       ils_cons rfl (mvI rfl rfl rfl rfl) <|
       ils_nil ?_)
      refine thenQ_n ⟨(n0, x24), (fun i => i), ⟨(.sames rfl rfl), .nil, nd_of [] rfl (by decide), fun _ _ => rfl⟩, ?_, ?_⟩
      exact h
      exact Nat.lt_succ_self _
    ·
     replace h := bif_f h hc19
     refine iwp_exit ?_
     refine thenQ_e ?_
     refine thenQ_e ?_
     refine blockQ_e ?_
     refine thenQ_n ?_
     refine iwp_reg (ils_cons rfl (iop_assign rfl rfl (lb rfl) (sv (d := .bool true) rfl)) <|
      ils_end ?_)
     refine iwp_ret ?_
     obtain rfl := Option.some.inj h
     refine ⟨.inr rfl, (.cons (sv rfl) .nil)⟩

theorem p_ivals_Same (a0 : (List T_ivals_Ival)) (a1 : (List T_ivals_Ival)) (r : Bool) (h : ivals_Same a0 a1 = some r) : PureAt Try.prog 36 [.slice false (a0.map E_ivals_Ival.d), .slice false (a1.map E_ivals_Ival.d)] (.bool r) := by
 refine pure_of_iwp (rs := [.bool r]) Try.func36 rfl Try.ntmps36 (nle rfl) rfl fun O hO => ?_
 show IWP _ _ _ _ ⟨[(0, .slice false (a0.map E_ivals_Ival.d)), (1, .slice false (a1.map E_ivals_Ival.d))], []⟩ _
 unfold ivals_Same at h
 refine iwp_reg (ils_cons rfl (iop_assign rfl rfl (lb rfl) (sv (d := .bool false) rfl)) <|
  ils_end ?_)
 obtain ⟨x1, hx1, h⟩ := bno_e h
 refine iwp_reg (ils_cons rfl (mvL rfl rfl rfl rfl) <|
  ils_cons rfl (mvL rfl rfl rfl rfl) <|
  ils_cons rfl (iop_call (r := .bool _) rfl rfl (lb rfl) cl48 (.cons (svL rfl) (.cons (svL rfl) .nil)) rfl (p_slices_Equal_ivals_Set_ivals_Ival _ _ _ hx1)) <|
  ils_cons rfl (asB rfl rfl rfl rfl) <|
  ils_end ?_)
 refine iwp_ret ?_
 obtain rfl := Option.some.inj h
 refine ⟨.inr rfl, (.cons (sv rfl) .nil)⟩

theorem p_sbuf_State_fits (a0 : T_sbuf_State) (a1 : T_sbuf_Piece) (a2 : Int) (r : Bool) (h : sbuf_State_fits a0 a1 a2 = some r) : PureAt Try.prog 29 [.agg (v0 a0), .agg (v1 a1), .int .i64 a2] (.bool r) := by
 refine pure_of_iwp (rs := [.bool r]) Try.func29 rfl Try.ntmps29 (nle rfl) rfl fun O hO => ?_
 show IWP _ _ _ _ ⟨[(0, .agg (v0 a0)), (1, .agg (v1 a1)), (2, .int .i64 a2)], []⟩ _
 unfold sbuf_State_fits at h
 refine iwp_reg (ils_cons rfl (iop_box' (cs := q3) 0 rfl rfl (lb rfl) rfl (svA q3 rfl) rfl rfl) <|
  ils_cons rfl (iop_box' (cs := q6) 1 rfl rfl (lb rfl) rfl (svA q6 rfl) rfl rfl) <|
  ils_cons rfl (iop_assign rfl rfl (lb rfl) (sv (d := .bool false) rfl)) <|
  ils_end ?_)
 refine iwp_seq ?_
 obtain ⟨x1, hx1, h⟩ := bnd_e h
 obtain ⟨x2, hx2, h⟩ := bnd_e h
 obtain ⟨x3, hx3, h⟩ := bnd_e h
 obtain ⟨x4, hx4, h⟩ := bnd_e h
 obtain ⟨x5, hx5, h⟩ := bnd_e h
 obtain ⟨x6, hx6, h⟩ := bno_e h
 obtain ⟨x7, hx7, h⟩ := bnd_e h
 refine iwp_reg (ils_cons rfl (faR 0 rfl rfl rfl Try.underlying39 rfl ti3 (lb rfl) rfl rfl) <|
  ils_cons rfl (iop_load_rs (d := .int _ _) rfl rfl (lb rfl) Try.underlying3 ag3 ti3 (by decide) (svR rfl) rfl (nle rfl) rfl) <|
  ils_cons rfl (mvI rfl rfl rfl rfl) <|
  ils_cons rfl (iop_cmpx rfl rfl (lb rfl) (svI rfl) (svI rfl) rfl hx1) <|
  ils_cons rfl (mvB rfl rfl rfl rfl) <|
  ils_guard rfl rfl (.one rfl) rfl (by decide) (fun hb => (faR 1 rfl rfl rfl Try.underlying39 rfl ti3 (lb rfl) rfl rfl)) <|
  ils_guard rfl rfl (.one rfl) rfl (by decide) (fun hb => (iop_load_rs (d := .int _ _) rfl rfl (lb rfl) Try.underlying3 ag3 ti3 (by decide) (svcR rfl hb) rfl (nle rfl) rfl)) <|
  ils_guard rfl rfl (.one rfl) rfl (by decide) (fun hb => (faR 0 rfl rfl rfl Try.underlying39 rfl ti3 (lb rfl) rfl rfl)) <|
  ils_guard rfl rfl (.one rfl) rfl (by decide) (fun hb => (iop_load_rs (d := .int _ _) rfl rfl (lb rfl) Try.underlying3 ag3 ti3 (by decide) (svcR rfl hb) rfl (nle rfl) rfl)) <|
  ils_guard rfl rfl (.one rfl) rfl (by decide) (fun hb => (iop_cmpx rfl rfl (lb rfl) (svcI rfl hb) (svcI rfl hb) rfl hx2)) <|
  ils_cons rfl (iop_orx rfl rfl (lb rfl) (svB rfl) rfl rfl hx3) <|
  ils_cons rfl (mvB rfl rfl rfl rfl) <|
  ils_guard rfl rfl (.one rfl) rfl (by decide) (fun hb => (faR 1 rfl rfl rfl Try.underlying39 rfl ti3 (lb rfl) rfl rfl)) <|
  ils_guard rfl rfl (.one rfl) rfl (by decide) (fun hb => (iop_load_rs (d := .int _ _) rfl rfl (lb rfl) Try.underlying3 ag3 ti3 (by decide) (svcR rfl hb) rfl (nle rfl) rfl)) <|
  ils_guard rfl rfl (.one rfl) rfl (by decide) (fun hb => (faR 2 rfl rfl rfl Try.underlying29 rfl ti3 (lb rfl) rfl rfl)) <|
  ils_guard rfl rfl (.one rfl) rfl (by decide) (fun hb => (iop_load_rs (d := .int _ _) rfl rfl (lb rfl) Try.underlying3 ag3 ti3 (by decide) (svcR rfl hb) rfl (nle rfl) rfl)) <|
  ils_guard rfl rfl (.one rfl) rfl (by decide) (fun hb => (iop_cmpx rfl rfl (lb rfl) (svcI rfl hb) (svcI rfl hb) rfl hx4)) <|
  ils_cons rfl (iop_orx rfl rfl (lb rfl) (svB rfl) rfl rfl hx5) <|
  ils_cons rfl (mvB rfl rfl rfl rfl) <|
  ils_guard rfl rfl (.one rfl) rfl (by decide) (fun hb => (faR 2 rfl rfl rfl Try.underlying39 rfl ti3 (lb rfl) rfl rfl)) <|
  ils_guard rfl rfl (.one rfl) rfl (by decide) (fun hb => (iop_load_rs (d := .int _ _) rfl rfl (lb rfl) Try.underlying3 ag3 ti3 (by decide) (svcR rfl hb) rfl (nle rfl) rfl)) <|
  ils_guard rfl rfl (.one rfl) rfl (by decide) (fun hb => (iop_call (r := .bool _) rfl rfl (lb rfl) cl21 (.cons (svcI rfl hb) .nil) rfl (p_sbuf_path _ _ (gd_t hx6 hb)))) <|
  ils_guard rfl rfl (.one rfl) rfl (by decide) (fun hb => (iop_not rfl rfl (lb rfl) (svcB rfl hb))) <|
  ils_cons rfl (iop_orx rfl rfl (lb rfl) (svB rfl) rfl rfl hx7) <|
  ils_end ?_)
 refine iwp_cond (b := _) rfl (fun hc8 => ?_) (fun hc8 => ?_)
 ·
  replace h := bif_t h hc8
  refine iwp_reg (ils_cons rfl (iop_assign rfl rfl (lb rfl) (sv (d := .bool false) rfl)) <|
   ils_end ?_)
  refine iwp_ret ?_
  refine thenQ_r ?_
  obtain rfl := Option.some.inj h
  refine ⟨.inr rfl, (.cons (sv rfl) .nil)⟩
 ·
  replace h := bif_f h hc8
  refine iwp_skip ?_
  refine thenQ_n ?_
  refine iwp_seq ?_
  obtain ⟨x9, hx9, h⟩ := bnd_e h
  refine iwp_reg (ils_cons rfl (faR 0 rfl rfl rfl Try.underlying39 rfl ti3 (lb rfl) rfl rfl) <|
   ils_cons rfl (iop_load_rs (d := .int _ _) rfl rfl (lb rfl) Try.underlying3 ag3 ti3 (by decide) (svR rfl) rfl (nle rfl) rfl) <|
   ils_cons rfl (faR 1 rfl rfl rfl Try.underlying39 rfl ti3 (lb rfl) rfl rfl) <|
   ils_cons rfl (iop_load_rs (d := .int _ _) rfl rfl (lb rfl) Try.underlying3 ag3 ti3 (by decide) (svR rfl) rfl (nle rfl) rfl) <|
   ils_cons rfl (iop_cmpx rfl rfl (lb rfl) (svI rfl) (svI rfl) rfl hx9) <|
   ils_end ?_)
  refine iwp_cond (b := _) rfl (fun hc10 => ?_) (fun hc10 => ?_)
  ·
   replace h := bif_t h hc10
   refine iwp_reg (ils_cons rfl (faR 3 rfl rfl rfl Try.underlying39 rfl ti4 (lb rfl) rfl rfl) <|
    ils_cons rfl (iop_load_rs (d := .bool _) rfl rfl (lb rfl) Try.underlying4 ag4 ti4 (by decide) (svR rfl) rfl (nle rfl) rfl) <|
    ils_cons rfl (asB rfl rfl rfl rfl) <|
    ils_end ?_)
   refine iwp_ret ?_
   refine thenQ_r ?_
   obtain rfl := Option.some.inj h
   refine ⟨.inr rfl, (.cons (sv rfl) .nil)⟩
  ·
   replace h := bif_f h hc10
   refine iwp_skip ?_
   refine thenQ_n ?_
   obtain ⟨x11, hx11, h⟩ := bno_e h
   obtain ⟨x12, hx12, h⟩ := bno_e h
   obtain ⟨x13, hx13, h⟩ := bno_e h
   obtain ⟨x14, hx14, h⟩ := bno_e h
   refine iwp_drw rfl [⟨[3], [], [(38, .ref 0 4)], []⟩,
    ⟨[38], [0], [(39, .slice false (a0.Lost.map E_ivals_Ival.d))], []⟩,
    ⟨[4], [1], [(40, .agg (v1 a1))], []⟩,
    ⟨[40], [], [(41, .agg [.int .i64 x11.From, .int .i64 x11.To])], []⟩,
    ⟨[39, 41], [], [(42, .slice false (x12.map E_ivals_Ival.d))], []⟩,
    ⟨[4], [1], [(43, .agg (v1 a1))], []⟩,
    ⟨[43], [], [(44, .agg [.int .i64 x13.From, .int .i64 x13.To])], []⟩,
    ⟨[44], [2], [(45, .gsl 2 E_ivals_Ival.sz ((([(⟨x13.From, x13.To⟩ : T_ivals_Ival)] : (List T_ivals_Ival))).map E_ivals_Ival.d))], [(2, .tail 59 E_ivals_Ival.sz (([(⟨x13.From, x13.To⟩ : T_ivals_Ival)] : (List T_ivals_Ival))).length)]⟩,
    ⟨[42, 45], [], [(46, .bool x14)], []⟩,
    ⟨[46], [], [(6, .bool x14)], []⟩] rfl ?_ (by kernel_rfl) ?_
   ·refine .cons (lop rfl rfl fun S hA => (iop_fieldAddr_ref rfl rfl (lb rfl) Try.underlying29 rfl ti27 (by decide) (svaR hA rfl rfl) (off' := 4) rfl)) ?_
    refine .cons (lop rfl rfl fun S hA => (iop_load_rs (d := .slice _ _) rfl rfl (lb rfl) Try.underlying27 ag27 ti27 (by decide) (svaR hA rfl rfl) (agi hA rfl rfl) (nle rfl) rfl)) ?_
    refine .cons (lop rfl rfl fun S hA => (iop_load_ra (cs := q6) rfl rfl (lb rfl) Try.underlying39 ag39 ti39 (by decide) (svaR hA rfl rfl) (agi hA rfl rfl) (nle rfl) rfl)) ?_
    refine .cons (lop rfl rfl fun S hA => (iop_call (r := .agg q7) rfl rfl (lb rfl) cl24 (.cons (svaA q6 hA rfl rfl) .nil) rfl (p_sbuf_Piece_ival _ _ hx11))) ?_
    refine .cons (lop rfl rfl fun S hA => (iop_call (r := .slice _ _) rfl rfl (lb rfl) cl46 (.cons (svaL hA rfl rfl) (.cons (svaA q7 hA rfl rfl) .nil)) rfl (p_ivals_Gaps _ _ _ hx12))) ?_
    refine .cons (lop rfl rfl fun S hA => (iop_load_ra (cs := q6) rfl rfl (lb rfl) Try.underlying39 ag39 ti39 (by decide) (svaR hA rfl rfl) (agi hA rfl rfl) (nle rfl) rfl)) ?_
    refine .cons (lop rfl rfl fun S hA => (iop_call (r := .agg q7) rfl rfl (lb rfl) cl24 (.cons (svaA q6 hA rfl rfl) .nil) rfl (p_sbuf_Piece_ival _ _ hx13))) ?_
    refine .cons (lop rfl rfl fun S hA => (iop_bsT E_ivals_Ival ([(⟨x13.From, x13.To⟩ : T_ivals_Ival)] : (List T_ivals_Ival)) 2 rfl rfl (lb rfl) Try.underlying27 ti59 (agi hA rfl rfl) (.cons (svaA q7 hA rfl rfl) .nil) rfl rfl (by decide))) ?_
    refine .cons (lop rfl rfl fun S hA => (iop_call (r := .bool _) rfl rfl (lb rfl) cl36 (.cons (svaL hA rfl rfl) (.cons (svg (agr hA rfl rfl)) .nil)) rfl (p_ivals_Same _ _ _ hx14))) ?_
    refine .cons (lop rfl rfl fun S hA => (iop_assign rfl rfl (lb rfl) (svaB hA rfl rfl))) ?_
    exact .nil
   refine iwp_ret ?_
   obtain rfl := Option.some.inj h
   refine ⟨.inr rfl, (.cons (sv rfl) .nil)⟩

theorem p_sbuf_State_end (a0 : T_sbuf_State) (r : Int) (h : sbuf_State_end a0 = some r) : PureAt Try.prog 20 [.agg (v0 a0)] (.int .i64 r) := by
 refine pure_of_iwp (rs := [.int .i64 r]) Try.func20 rfl Try.ntmps20 (nle rfl) rfl fun O hO => ?_
 show IWP _ _ _ _ ⟨[(0, .agg (v0 a0))], []⟩ _
 unfold sbuf_State_end at h
 refine iwp_reg (ils_cons rfl (iop_box' (cs := q3) 0 rfl rfl (lb rfl) rfl (svA q3 rfl) rfl rfl) <|
  ils_cons rfl (iop_assign rfl rfl (lb rfl) (sv (d := .int _ 0) rfl)) <|
  ils_end ?_)
 obtain ⟨x1, hx1, h⟩ := bnd_e h
 refine iwp_reg (ils_cons rfl (faR 0 rfl rfl rfl Try.underlying29 rfl ti3 (lb rfl) rfl rfl) <|
  ils_cons rfl (iop_load_rs (d := .int _ _) rfl rfl (lb rfl) Try.underlying3 ag3 ti3 (by decide) (svR rfl) rfl (nle rfl) rfl) <|
  ils_cons rfl (faR 1 rfl rfl rfl Try.underlying29 rfl ti9 (lb rfl) rfl rfl) <|
  ils_cons rfl (iop_load_rs (d := .str _) rfl rfl (lb rfl) Try.underlying9 ag9 ti9 (by decide) (svR rfl) rfl (nle rfl) rfl) <|
  ils_cons rfl (iop_len_str rfl rfl (lb rfl) Try.underlying9 (sv (d := .str _) rfl) rfl) <|
  ils_cons rfl (iop_intx rfl rfl (lb rfl) (svI rfl) (svI rfl) rfl hx1) <|
  ils_cons rfl (asI rfl rfl rfl rfl) <|
  ils_end ?_)
 refine iwp_ret ?_
 obtain rfl := Option.some.inj h
 refine ⟨.inr rfl, (.cons (sv rfl) .nil)⟩

theorem p_sbuf_State_ends (a0 : T_sbuf_State) (r : Bool) (h : sbuf_State_ends a0 = some r) : PureAt Try.prog 30 [.agg (v0 a0)] (.bool r) := by
 refine pure_of_iwp (rs := [.bool r]) Try.func30 rfl Try.ntmps30 (nle rfl) rfl fun O hO => ?_
 show IWP _ _ _ _ ⟨[(0, .agg (v0 a0))], []⟩ _
 unfold sbuf_State_ends at h
 refine iwp_reg (ils_cons rfl (iop_box' (cs := q3) 0 rfl rfl (lb rfl) rfl (svA q3 rfl) rfl rfl) <|
  ils_cons rfl (iop_assign rfl rfl (lb rfl) (sv (d := .bool false) rfl)) <|
  ils_end ?_)
 refine iwp_reg (ils_cons rfl (iop_assign rfl rfl (lb rfl) (sv (d := .int _ 0) rfl)) <|
  ils_end ?_)
 refine iwp_seq ?_
 refine iwp_reg (ils_cons rfl (faR 3 rfl rfl rfl Try.underlying29 rfl ti25 (lb rfl) rfl rfl) <|
  ils_cons rfl (lrL la25 rfl rfl rfl rfl rfl (nle rfl) rfl) <|
  ils_cons rfl (iop_lenT E_sbuf_Piece (l := a0.Pieces) rfl rfl (lb rfl) Try.underlying25 (svL rfl)) <|
  ils_cons rfl (iop_move rfl rfl (lb rfl) (sv (d := .int _ 0) rfl)) <|
  ils_end ?_)
 refine iwp_block ?_
 refine iwp_loopP (α := Nat × Int × Int) (fun z => ⟨[(1, .ref 0 0), (3, .int .i64 z.2.1), (8, .slice false (a0.Pieces.map E_sbuf_Piece.d)), (9, .int .i64 (a0.Pieces.length : Int)), (10, .int .i64 z.2.2)], [(0, .blk 29 (v0 a0))]⟩) (fun z => sbuf_State_ends_L0 a0 z.1 z.2.1 z.2.2 = some r) (fun z => z.1) (fuel, 0, 0) (fun i => i) ⟨(.sames rfl rfl), (.cons (.blk rfl rfl rfl) .nil), nd_of [0] rfl (by decide), fun _ _ => rfl⟩ ?_ ?_
 ·exact h
 ·
  rintro ⟨n0, v11, v12⟩ h
  cases n0 with
  | zero => exact absurd h (by unfold sbuf_State_ends_L0; exact nofun)
  | succ n0 =>
   unfold sbuf_State_ends_L0 at h
   obtain ⟨x23, hx23, h⟩ := bnd_e h
   refine iwp_reg (ils_cons rfl (iop_cmpx rfl rfl (lb rfl) (svI rfl) (svI rfl) rfl hx23) <|
    ils_end ?_)
   refine iwp_seq ?_
   refine iwp_cond (b := _) rfl (fun hc24 => ?_) (fun hc24 => ?_)
   ·
    replace h := bif_t h hc24
    refine iwp_skip ?_
    refine thenQ_n ?_
    refine iwp_seq ?_
    refine iwp_block ?_
    obtain ⟨x25, hx25, h⟩ := bno_e h
    refine iwp_reg (ils_cons rfl (iop_idxT E_sbuf_Piece (cs := q6) rfl rfl (lb rfl) Try.underlying25 ti39 (svL rfl) (svI rfl) hx25 rfl rfl) <|
     ils_cons rfl (iop_load_fa (cs := q6) rfl rfl (lb rfl) Try.underlying39 ag39 ti39 (by decide) (sv (d := .fptr q6) rfl) (nle rfl) rfl) <|
     ils_cons rfl (iop_allocS (cs := q6) (cs' := (w14 0 0 0 false)) 1 rfl rfl (lb rfl) rfl ti39 rfl rfl (.all _)) <|
     ils_cons rfl (stA q6 q6 ti39 rfl rfl rfl rfl rfl rfl rfl rfl (nle rfl) rfl) <|
     ils_end ?_)
    refine iwp_reg (ils_cons rfl (faR 3 rfl rfl rfl Try.underlying39 rfl ti4 (lb rfl) rfl rfl) <|
     ils_cons rfl (iop_load_rs (d := .bool _) rfl rfl (lb rfl) Try.underlying4 ag4 ti4 (by decide) (svR rfl) rfl (nle rfl) rfl) <|
     ils_end ?_)
    refine iwp_cond (b := _) rfl (fun hc26 => ?_) (fun hc26 => ?_)
    ·
     replace h := bif_t h hc26
     obtain ⟨x27, hx27, h⟩ := bnd_e h
     refine iwp_reg (ils_cons rfl (mvI rfl rfl rfl rfl) <|
      ils_cons rfl (iop_intx rfl rfl (lb rfl) (svI rfl) (sv (d := .int _ 1) rfl) rfl hx27) <|
      ils_cons rfl (asI rfl rfl rfl rfl) <|
      ils_end ?_)
     obtain ⟨x28, hx28, h⟩ := bno_e h
     obtain ⟨x29, hx29, h⟩ := bnd_e h
     refine iwp_drw rfl [⟨[5], [], [(18, .ref 1 1)], []⟩,
      ⟨[18], [1], [(19, .int .i64 x25.To)], []⟩,
      ⟨[1], [0], [(20, .agg (v0 a0))], []⟩,
      ⟨[20], [], [(21, .int .i64 x28)], []⟩,
      ⟨[19, 21], [], [(22, .bool x29)], []⟩] rfl ?_ (by kernel_rfl) ?_
     ·refine .cons (lop rfl rfl fun S hA => (iop_fieldAddr_ref rfl rfl (lb rfl) Try.underlying39 rfl ti3 (by decide) (svaR hA rfl rfl) (off' := 1) rfl)) ?_
      refine .cons (lop rfl rfl fun S hA => (iop_load_rs (d := .int _ _) rfl rfl (lb rfl) Try.underlying3 ag3 ti3 (by decide) (svaR hA rfl rfl) (agi hA rfl rfl) (nle rfl) rfl)) ?_
      refine .cons (lop rfl rfl fun S hA => (iop_load_ra (cs := q3) rfl rfl (lb rfl) Try.underlying29 ag29 ti29 (by decide) (svaR hA rfl rfl) (agi hA rfl rfl) (nle rfl) rfl)) ?_
      refine .cons (lop rfl rfl fun S hA => (iop_call (r := .int _ _) rfl rfl (lb rfl) cl20 (.cons (svaA q3 hA rfl rfl) .nil) rfl (p_sbuf_State_end _ _ hx28))) ?_
      refine .cons (lop rfl rfl fun S hA => (iop_cmpx rfl rfl (lb rfl) (svaI hA rfl rfl) (svaI hA rfl rfl) rfl hx29)) ?_
      exact .nil
     refine iwp_cond (b := _) rfl (fun hc30 => ?_) (fun hc30 => ?_)
     ·
      replace h := bif_t h hc30
      refine iwp_reg (ils_cons rfl (iop_assign rfl rfl (lb rfl) (sv (d := .bool false) rfl)) <|
       ils_end ?_)
      refine iwp_ret ?_
      refine blockQ_r ?_
      refine thenQ_r ?_
      refine thenQ_r ?_
      refine blockQ_r ?_
      refine thenQ_r ?_
      obtain rfl := Option.some.inj h
      refine ⟨.inr rfl, (.cons (sv rfl) .nil)⟩
     ·
      replace h := bif_f h hc30
      refine iwp_skip ?_
      refine blockQ_n ?_
      refine thenQ_n ?_
      obtain ⟨x31, hx31, h⟩ := bnd_e h
      refine iwp_region (ils_cons rfl (iop_intx rfl rfl (lb rfl) (svI rfl) (sv (d := .int _ 1) rfl) rfl hx31) <|
       ils_cons rfl (mvI rfl rfl rfl rfl) <|
       ils_nil ?_)
      refine thenQ_n ⟨(n0, x27, x31), (fun i => i), ⟨(.sames rfl rfl), (.cons (.blk rfl rfl rfl) .nil), nd_of [0] rfl (by decide), fun _ _ => rfl⟩, ?_, ?_⟩
      exact h
      exact Nat.lt_succ_self _
    ·
     replace h := bif_f h hc26
     refine iwp_skip ?_
     refine blockQ_n ?_
     refine thenQ_n ?_
     obtain ⟨x32, hx32, h⟩ := bnd_e h
     refine iwp_region (ils_cons rfl (iop_intx rfl rfl (lb rfl) (svI rfl) (sv (d := .int _ 1) rfl) rfl hx32) <|
      ils_cons rfl (mvI rfl rfl rfl rfl) <|
      ils_nil ?_)
     refine thenQ_n ⟨(n0, v11, x32), (fun i => i), ⟨(.sames rfl rfl), (.cons (.blk rfl rfl rfl) .nil), nd_of [0] rfl (by decide), fun _ _ => rfl⟩, ?_, ?_⟩
     exact h
     exact Nat.lt_succ_self _
   ·
    replace h := bif_f h hc24
    refine iwp_exit ?_
    refine thenQ_e ?_
    refine thenQ_e ?_
    refine blockQ_e ?_
    refine thenQ_n ?_
    refine iwp_seq ?_
    refine iwp_reg (ils_cons rfl (faR 6 rfl rfl rfl Try.underlying29 rfl ti4 (lb rfl) rfl rfl) <|
     ils_cons rfl (iop_load_rs (d := .bool _) rfl rfl (lb rfl) Try.underlying4 ag4 ti4 (by decide) (svR rfl) rfl (nle rfl) rfl) <|
     ils_cons rfl (iop_not rfl rfl (lb rfl) (svB rfl)) <|
     ils_end ?_)
    refine iwp_cond (b := _) rfl (fun hc33 => ?_) (fun hc33 => ?_)
    ·
     replace h := bif_t h hc33
     obtain ⟨x34, hx34, h⟩ := bnd_e h
     obtain ⟨x35, hx35, h⟩ := bnd_e h
     obtain ⟨x36, hx36, h⟩ := bnd_e h
     refine iwp_reg (ils_cons rfl (mvI rfl rfl rfl rfl) <|
      ils_cons rfl (iop_cmpx rfl rfl (lb rfl) (svI rfl) (sv (d := .int _ 0) rfl) rfl hx34) <|
      ils_cons rfl (mvB rfl rfl rfl rfl) <|
      ils_guard rfl rfl (.one rfl) rfl (by decide) (fun hb => (faR 7 rfl rfl rfl Try.underlying29 rfl ti4 (lb rfl) rfl rfl)) <|
      ils_guard rfl rfl (.one rfl) rfl (by decide) (fun hb => (iop_load_rs (d := .bool _) rfl rfl (lb rfl) Try.underlying4 ag4 ti4 (by decide) (svcR rfl hb) rfl (nle rfl) rfl)) <|
      ils_guard rfl rfl (.one rfl) rfl (by decide) (fun hb => (iop_not rfl rfl (lb rfl) (svcB rfl hb))) <|
      ils_cons rfl (iop_andx rfl rfl (lb rfl) (svB rfl) rfl rfl hx35) <|
      ils_cons rfl (mvB rfl rfl rfl rfl) <|
      ils_guard rfl rfl (.one rfl) rfl (by decide) (fun hb => (faR 8 rfl rfl rfl Try.underlying29 rfl ti4 (lb rfl) rfl rfl)) <|
      ils_guard rfl rfl (.one rfl) rfl (by decide) (fun hb => (iop_load_rs (d := .bool _) rfl rfl (lb rfl) Try.underlying4 ag4 ti4 (by decide) (svcR rfl hb) rfl (nle rfl) rfl)) <|
      ils_guard rfl rfl (.one rfl) rfl (by decide) (fun hb => (iop_not rfl rfl (lb rfl) (svcB rfl hb))) <|
      ils_cons rfl (iop_andx rfl rfl (lb rfl) (svB rfl) rfl rfl hx36) <|
      ils_cons rfl (asB rfl rfl rfl rfl) <|
      ils_end ?_)
     refine iwp_ret ?_
     refine thenQ_r ?_
     obtain rfl := Option.some.inj h
     refine ⟨.inr rfl, (.cons (sv rfl) .nil)⟩
    ·
     replace h := bif_f h hc33
     refine iwp_skip ?_
     refine thenQ_n ?_
     refine iwp_seq ?_
     obtain ⟨x37, hx37, h⟩ := bno_e h
     obtain ⟨x38, hx38, h⟩ := bnd_e h
     obtain ⟨x39, hx39, h⟩ := bnd_e h
     obtain ⟨x40, hx40, h⟩ := bnd_e h
     obtain ⟨x41, hx41, h⟩ := bnd_e h
     refine iwp_drw rfl [⟨[1], [], [(39, .ref 0 5)], []⟩,
      ⟨[39], [0], [(40, .bool a0.Closed)], []⟩,
      ⟨[40], [], [(41, .bool (!a0.Closed))], []⟩,
      ⟨[41], [], [(42, .bool (!a0.Closed))], []⟩,
      ⟨[1, 42], [], [(43, .cnd ((!a0.Closed) == false) (.ref 0 2))], []⟩,
      ⟨[42, 43], [0], [(44, .cnd ((!a0.Closed) == false) (.int .i64 a0.Next))], []⟩,
      ⟨[1, 42], [0], [(45, .cnd ((!a0.Closed) == false) (.agg (v0 a0)))], []⟩,
      ⟨[42, 45], [], [(46, .cnd ((!a0.Closed) == false) (.int .i64 x37))], []⟩,
      ⟨[42, 44, 46], [], [(47, .cnd ((!a0.Closed) == false) (.bool x38))], []⟩,
      ⟨[42, 47], [], [(48, .bool x39)], []⟩,
      ⟨[48], [], [(49, .bool x39)], []⟩,
      ⟨[1, 49], [], [(50, .cnd (x39 == false) (.ref 0 7))], []⟩,
      ⟨[49, 50], [0], [(51, .cnd (x39 == false) (.bool a0.Again))], []⟩,
      ⟨[49, 51], [], [(52, .cnd (x39 == false) (.bool a0.Again))], []⟩,
      ⟨[1, 52], [], [(53, .cnd (((x39 == false) && (a0.Again == true))) (.ref 0 8))], []⟩,
      ⟨[52, 53], [0], [(54, .cnd (((x39 == false) && (a0.Again == true))) (.bool a0.Done))], []⟩,
      ⟨[49, 52, 54], [], [(55, .cnd (x39 == false) (.bool x40))], []⟩,
      ⟨[49, 55], [], [(56, .bool x41)], []⟩] rfl ?_ (by kernel_rfl) ?_
     ·refine .cons (lop rfl rfl fun S hA => (iop_fieldAddr_ref rfl rfl (lb rfl) Try.underlying29 rfl ti4 (by decide) (svaR hA rfl rfl) (off' := 5) rfl)) ?_
      refine .cons (lop rfl rfl fun S hA => (iop_load_rs (d := .bool _) rfl rfl (lb rfl) Try.underlying4 ag4 ti4 (by decide) (svaR hA rfl rfl) (agi hA rfl rfl) (nle rfl) rfl)) ?_
      refine .cons (lop rfl rfl fun S hA => (iop_not rfl rfl (lb rfl) (svaB hA rfl rfl))) ?_
      refine .cons (lop rfl rfl fun S hA => (iop_move rfl rfl (lb rfl) (svaB hA rfl rfl))) ?_
      refine .cons (lopg rfl rfl rfl rfl (by decide) (fun S hA => grd1 hA rfl rfl) (fun S hA hb => (iop_fieldAddr_ref rfl rfl (lb rfl) Try.underlying29 rfl ti3 (by decide) (svaR hA rfl rfl) (off' := 2) rfl))) ?_
      refine .cons (lopg rfl rfl rfl rfl (by decide) (fun S hA => grd1 hA rfl rfl) (fun S hA hb => (iop_load_rs (d := .int _ _) rfl rfl (lb rfl) Try.underlying3 ag3 ti3 (by decide) (svc (d := .ref _ _) (agr hA rfl rfl) hb) (agi hA rfl rfl) (nle rfl) rfl))) ?_
      refine .cons (lopg rfl rfl rfl rfl (by decide) (fun S hA => grd1 hA rfl rfl) (fun S hA hb => (iop_load_ra (cs := q3) rfl rfl (lb rfl) Try.underlying29 ag29 ti29 (by decide) (svaR hA rfl rfl) (agi hA rfl rfl) (nle rfl) rfl))) ?_
      refine .cons (lopg rfl rfl rfl rfl (by decide) (fun S hA => grd1 hA rfl rfl) (fun S hA hb => (iop_call (r := .int _ _) rfl rfl (lb rfl) cl20 (.cons (svc (d := .agg (v0 a0)) (agr hA rfl rfl) hb) .nil) rfl (p_sbuf_State_end _ _ (gd_t hx37 hb))))) ?_
      refine .cons (lopg rfl rfl rfl rfl (by decide) (fun S hA => grd1 hA rfl rfl) (fun S hA hb => (iop_cmpx rfl rfl (lb rfl) (svc (d := .int _ _) (agr hA rfl rfl) hb) (svc (d := .int _ _) (agr hA rfl rfl) hb) rfl hx38))) ?_
      refine .cons (lop rfl rfl fun S hA => (iop_orx rfl rfl (lb rfl) (svaB hA rfl rfl) rfl (agr hA rfl rfl) hx39)) ?_
      refine .cons (lop rfl rfl fun S hA => (iop_move rfl rfl (lb rfl) (svaB hA rfl rfl))) ?_
      refine .cons (lopg rfl rfl rfl rfl (by decide) (fun S hA => grd1 hA rfl rfl) (fun S hA hb => (iop_fieldAddr_ref rfl rfl (lb rfl) Try.underlying29 rfl ti4 (by decide) (svaR hA rfl rfl) (off' := 7) rfl))) ?_
      refine .cons (lopg rfl rfl rfl rfl (by decide) (fun S hA => grd1 hA rfl rfl) (fun S hA hb => (iop_load_rs (d := .bool _) rfl rfl (lb rfl) Try.underlying4 ag4 ti4 (by decide) (svc (d := .ref _ _) (agr hA rfl rfl) hb) (agi hA rfl rfl) (nle rfl) rfl))) ?_
      refine .cons (lopg rfl rfl rfl rfl (by decide) (fun S hA => grd1 hA rfl rfl) (fun S hA hb => (iop_move rfl rfl (lb rfl) (svc (d := .bool _) (agr hA rfl rfl) hb)))) ?_
      refine .cons (lopg rfl rfl rfl rfl (by decide) (fun S hA => grd2 hA rfl rfl) (fun S hA hb => (iop_fieldAddr_ref rfl rfl (lb rfl) Try.underlying29 rfl ti4 (by decide) (svaR hA rfl rfl) (off' := 8) rfl))) ?_
      refine .cons (lopg rfl rfl rfl rfl (by decide) (fun S hA => grd2 hA rfl rfl) (fun S hA hb => (iop_load_rs (d := .bool _) rfl rfl (lb rfl) Try.underlying4 ag4 ti4 (by decide) (svc (d := .ref _ _) (agr hA rfl rfl) hb) (agi hA rfl rfl) (nle rfl) rfl))) ?_
      refine .cons (lopg rfl rfl rfl rfl (by decide) (fun S hA => grd1 hA rfl rfl) (fun S hA hb => (iop_and2x rfl rfl (lb rfl) hb (svc (d := .bool _) (agr hA rfl rfl) hb) (agr hA rfl rfl) rfl hx40))) ?_
      refine .cons (lop rfl rfl fun S hA => (iop_orx rfl rfl (lb rfl) (svaB hA rfl rfl) rfl (agr hA rfl rfl) hx41)) ?_
      exact .nil
     refine iwp_cond (b := _) rfl (fun hc42 => ?_) (fun hc42 => ?_)
     ·
      replace h := bif_t h hc42
      refine iwp_reg (ils_cons rfl (iop_assign rfl rfl (lb rfl) (sv (d := .bool false) rfl)) <|
       ils_end ?_)
      refine iwp_ret ?_
      refine thenQ_r ?_
      obtain rfl := Option.some.inj h
      refine ⟨.inr rfl, (.cons (sv rfl) .nil)⟩
     ·
      replace h := bif_f h hc42
      refine iwp_skip ?_
      refine thenQ_n ?_
      obtain ⟨x43, hx43, h⟩ := bnd_e h
      refine iwp_reg (ils_cons rfl (faR 7 rfl rfl rfl Try.underlying29 rfl ti4 (lb rfl) rfl rfl) <|
       ils_cons rfl (iop_load_rs (d := .bool _) rfl rfl (lb rfl) Try.underlying4 ag4 ti4 (by decide) (svR rfl) rfl (nle rfl) rfl) <|
       ils_cons rfl (iop_not rfl rfl (lb rfl) (svB rfl)) <|
       ils_cons rfl (mvB rfl rfl rfl rfl) <|
       ils_guard rfl rfl (.one rfl) rfl (by decide) (fun hb => (faR 8 rfl rfl rfl Try.underlying29 rfl ti4 (lb rfl) rfl rfl)) <|
       ils_guard rfl rfl (.one rfl) rfl (by decide) (fun hb => (iop_load_rs (d := .bool _) rfl rfl (lb rfl) Try.underlying4 ag4 ti4 (by decide) (svcR rfl hb) rfl (nle rfl) rfl)) <|
       ils_guard rfl rfl (.one rfl) rfl (by decide) (fun hb => (iop_not rfl rfl (lb rfl) (svcB rfl hb))) <|
       ils_cons rfl (iop_andx rfl rfl (lb rfl) (svB rfl) rfl rfl hx43) <|
       ils_cons rfl (asB rfl rfl rfl rfl) <|
       ils_end ?_)
      obtain ⟨x44, hx44, h⟩ := bnd_e h
      obtain ⟨x45, hx45, h⟩ := bnd_e h
      obtain ⟨x46, hx46, h⟩ := bnd_e h
      obtain ⟨x47, hx47, h⟩ := bnd_e h
      obtain ⟨x48, hx48, h⟩ := bnd_e h
      refine iwp_reg (ils_cons rfl (mvB rfl rfl rfl rfl) <|
       ils_cons rfl (mvB rfl rfl rfl rfl) <|
       ils_guard rfl rfl (.one rfl) rfl (by decide) (fun hb => (mvI rfl rfl rfl rfl)) <|
       ils_guard rfl rfl (.one rfl) rfl (by decide) (fun hb => (iop_cmpx rfl rfl (lb rfl) (svcI rfl hb) (sv (d := .int _ 1) rfl) rfl hx44)) <|
       ils_cons rfl (iop_andx rfl rfl (lb rfl) (svB rfl) rfl rfl hx45) <|
       ils_cons rfl (mvB rfl rfl rfl rfl) <|
       ils_guard rfl rfl (.one rfl) rfl (by decide) (fun hb => (mvB rfl rfl rfl rfl)) <|
       ils_guard rfl rfl (.one rfl) rfl (by decide) (fun hb => (iop_not rfl rfl (lb rfl) (svcB rfl hb))) <|
       ils_guard rfl rfl (.one rfl) rfl (by decide) (fun hb => (iop_move rfl rfl (lb rfl) (svcB rfl hb))) <|
       ils_guard rfl rfl (.two rfl) rfl (by decide) (fun hb => (mvI rfl rfl rfl rfl)) <|
       ils_guard rfl rfl (.two rfl) rfl (by decide) (fun hb => (iop_cmpx rfl rfl (lb rfl) (svcI rfl hb) (sv (d := .int _ 0) rfl) rfl hx46)) <|
       ils_guard rfl rfl (.one rfl) rfl (by decide) (fun hb => (iop_and2x rfl rfl (lb rfl) hb (svcB rfl hb) rfl rfl hx47)) <|
       ils_cons rfl (iop_orx rfl rfl (lb rfl) (svB rfl) rfl rfl hx48) <|
       ils_cons rfl (asB rfl rfl rfl rfl) <|
       ils_end ?_)
      refine iwp_ret ?_
      obtain rfl := Option.some.inj h
      refine ⟨.inr rfl, (.cons (sv rfl) .nil)⟩

theorem p_sbuf_Check (a0 : T_sbuf_State) (r : Int) (h : sbuf_Check a0 = some r) : PureAt Try.prog 13 [.agg (v0 a0)] (.int .i64 r) := by
 refine pure_of_iwp (rs := [.int .i64 r]) Try.func13 rfl Try.ntmps13 (nle rfl) rfl fun O hO => ?_
 show IWP _ _ _ _ ⟨[(0, .agg (v0 a0))], []⟩ _
 unfold sbuf_Check at h
 refine iwp_reg (ils_cons rfl (iop_box' (cs := q3) 0 rfl rfl (lb rfl) rfl (svA q3 rfl) rfl rfl) <|
  ils_cons rfl (iop_assign rfl rfl (lb rfl) (sv (d := .int _ 0) rfl)) <|
  ils_end ?_)
 refine iwp_seq ?_
 refine iwp_block ?_
 refine iwp_join (α := Bool) (fun z => ⟨[(1, .ref 0 0), (6, .bool z)], [(0, .blk 29 (v0 a0))]⟩) (fun z => sbuf_Check_J0 a0 z = some r) ?_ ?_
 ·
  obtain ⟨x37, hx37, h⟩ := bnd_e h
  refine iwp_reg (ils_cons rfl (faR 0 rfl rfl rfl Try.underlying29 rfl ti3 (lb rfl) rfl rfl) <|
   ils_cons rfl (iop_load_rs (d := .int _ _) rfl rfl (lb rfl) Try.underlying3 ag3 ti3 (by decide) (svR rfl) rfl (nle rfl) rfl) <|
   ils_cons rfl (iop_cmpx rfl rfl (lb rfl) (svI rfl) (sv (d := .int _ 0) rfl) rfl hx37) <|
   ils_cons rfl (asB rfl rfl rfl rfl) <|
   ils_end ?_)
  refine iwp_cond (b := _) rfl (fun hc38 => ?_) (fun hc38 => ?_)
  ·
   replace h := bif_t h hc38
   refine iwp_skip ?_
   refine thenQ_n ⟨x37, (fun i => i), ⟨(.sames rfl rfl), (.cons (.blk rfl rfl rfl) .nil), nd_of [0] rfl (by decide), fun _ _ => rfl⟩, ?_⟩
   exact h
  ·
   replace h := bif_f h hc38
   obtain ⟨x39, hx39, h⟩ := bnd_e h
   refine iwp_reg (ils_cons rfl (faR 0 rfl rfl rfl Try.underlying29 rfl ti3 (lb rfl) rfl rfl) <|
    ils_cons rfl (iop_load_rs (d := .int _ _) rfl rfl (lb rfl) Try.underlying3 ag3 ti3 (by decide) (svR rfl) rfl (nle rfl) rfl) <|
    ils_cons rfl (iop_cmpx rfl rfl (lb rfl) (svI rfl) (sv (d := .int _ 1099511623680) rfl) rfl hx39) <|
    ils_cons rfl (asB rfl rfl rfl rfl) <|
    ils_end ?_)
   refine iwp_cond (b := _) rfl (fun hc40 => ?_) (fun hc40 => ?_)
   ·
    replace h := bif_t h hc40
    refine iwp_skip ?_
    refine thenQ_n ⟨x39, (fun i => i), ⟨(.sames rfl rfl), (.cons (.blk rfl rfl rfl) .nil), nd_of [0] rfl (by decide), fun _ _ => rfl⟩, ?_⟩
    exact h
   ·
    replace h := bif_f h hc40
    obtain ⟨x41, hx41, h⟩ := bnd_e h
    refine iwp_reg (ils_cons rfl (faR 2 rfl rfl rfl Try.underlying29 rfl ti3 (lb rfl) rfl rfl) <|
     ils_cons rfl (iop_load_rs (d := .int _ _) rfl rfl (lb rfl) Try.underlying3 ag3 ti3 (by decide) (svR rfl) rfl (nle rfl) rfl) <|
     ils_cons rfl (faR 0 rfl rfl rfl Try.underlying29 rfl ti3 (lb rfl) rfl rfl) <|
     ils_cons rfl (iop_load_rs (d := .int _ _) rfl rfl (lb rfl) Try.underlying3 ag3 ti3 (by decide) (svR rfl) rfl (nle rfl) rfl) <|
     ils_cons rfl (iop_cmpx rfl rfl (lb rfl) (svI rfl) (svI rfl) rfl hx41) <|
     ils_cons rfl (asB rfl rfl rfl rfl) <|
     ils_end ?_)
    refine iwp_cond (b := _) rfl (fun hc42 => ?_) (fun hc42 => ?_)
    ·
     replace h := bif_t h hc42
     refine iwp_skip ?_
     refine thenQ_n ⟨x41, (fun i => i), ⟨(.sames rfl rfl), (.cons (.blk rfl rfl rfl) .nil), nd_of [0] rfl (by decide), fun _ _ => rfl⟩, ?_⟩
     exact h
    ·
     replace h := bif_f h hc42
     obtain ⟨x43, hx43, h⟩ := bnd_e h
     obtain ⟨x44, hx44, h⟩ := bnd_e h
     refine iwp_region (ils_cons rfl (faR 2 rfl rfl rfl Try.underlying29 rfl ti3 (lb rfl) rfl rfl) <|
      ils_cons rfl (iop_load_rs (d := .int _ _) rfl rfl (lb rfl) Try.underlying3 ag3 ti3 (by decide) (svR rfl) rfl (nle rfl) rfl) <|
      ils_cons rfl (faR 0 rfl rfl rfl Try.underlying29 rfl ti3 (lb rfl) rfl rfl) <|
      ils_cons rfl (iop_load_rs (d := .int _ _) rfl rfl (lb rfl) Try.underlying3 ag3 ti3 (by decide) (svR rfl) rfl (nle rfl) rfl) <|
      ils_cons rfl (iop_intx rfl rfl (lb rfl) (svI rfl) (svI rfl) rfl hx43) <|
      ils_cons rfl (faR 1 rfl rfl rfl Try.underlying29 rfl ti9 (lb rfl) rfl rfl) <|
      ils_cons rfl (iop_load_rs (d := .str _) rfl rfl (lb rfl) Try.underlying9 ag9 ti9 (by decide) (svR rfl) rfl (nle rfl) rfl) <|
      ils_cons rfl (iop_len_str rfl rfl (lb rfl) Try.underlying9 (sv (d := .str _) rfl) rfl) <|
      ils_cons rfl (iop_cmpx rfl rfl (lb rfl) (svI rfl) (svI rfl) rfl hx44) <|
      ils_cons rfl (asB rfl rfl rfl rfl) <|
      ils_nil ?_)
     refine thenQ_n ⟨x44, (fun i => i), ⟨(.sames rfl rfl), (.cons (.blk rfl rfl rfl) .nil), nd_of [0] rfl (by decide), fun _ _ => rfl⟩, ?_⟩
     exact h
 ·
  rintro v9 h
  unfold sbuf_Check_J0 at h
  refine iwp_cond (b := _) rfl (fun hc10 => ?_) (fun hc10 => ?_)
  ·
   replace h := bif_t h hc10
   refine iwp_reg (ils_cons rfl (iop_assign rfl rfl (lb rfl) (sv (d := .int _ 8) rfl)) <|
    ils_end ?_)
   refine iwp_ret ?_
   refine blockQ_r ?_
   refine thenQ_r ?_
   obtain rfl := Option.some.inj h
   refine ⟨.inr rfl, (.cons (sv rfl) .nil)⟩
  ·
   replace h := bif_f h hc10
   obtain ⟨x11, hx11, h⟩ := bnd_e h
   refine iwp_reg (ils_cons rfl (faR 1 rfl rfl rfl Try.underlying29 rfl ti9 (lb rfl) rfl rfl) <|
    ils_cons rfl (iop_load_rs (d := .str _) rfl rfl (lb rfl) Try.underlying9 ag9 ti9 (by decide) (svR rfl) rfl (nle rfl) rfl) <|
    ils_cons rfl (iop_len_str rfl rfl (lb rfl) Try.underlying9 (sv (d := .str _) rfl) rfl) <|
    ils_cons rfl (iop_cmpx rfl rfl (lb rfl) (svI rfl) (sv (d := .int _ 4096) rfl) rfl hx11) <|
    ils_cons rfl (asB rfl rfl rfl rfl) <|
    ils_end ?_)
   refine iwp_cond (b := _) rfl (fun hc12 => ?_) (fun hc12 => ?_)
   ·
    replace h := bif_t h hc12
    refine iwp_reg (ils_cons rfl (iop_assign rfl rfl (lb rfl) (sv (d := .int _ 5) rfl)) <|
     ils_end ?_)
    refine iwp_ret ?_
    refine blockQ_r ?_
    refine thenQ_r ?_
    obtain rfl := Option.some.inj h
    refine ⟨.inr rfl, (.cons (sv rfl) .nil)⟩
   ·
    replace h := bif_f h hc12
    obtain ⟨x13, hx13, h⟩ := bno_e h
    refine iwp_reg (ils_cons rfl (lra q3 la29 rfl rfl rfl rfl rfl (nle rfl) rfl) <|
     ils_cons rfl (iop_call (r := .bool _) rfl rfl (lb rfl) cl28 (.cons (svA q3 rfl) .nil) rfl (p_sbuf_State_lost _ _ hx13)) <|
     ils_cons rfl (iop_not rfl rfl (lb rfl) (svB rfl)) <|
     ils_cons rfl (asB rfl rfl rfl rfl) <|
     ils_end ?_)
    refine iwp_cond (b := _) rfl (fun hc14 => ?_) (fun hc14 => ?_)
    ·
     replace h := bif_t h hc14
     refine iwp_reg (ils_cons rfl (iop_assign rfl rfl (lb rfl) (sv (d := .int _ 4) rfl)) <|
      ils_end ?_)
     refine iwp_ret ?_
     refine blockQ_r ?_
     refine thenQ_r ?_
     obtain rfl := Option.some.inj h
     refine ⟨.inr rfl, (.cons (sv rfl) .nil)⟩
    ·
     replace h := bif_f h hc14
     refine iwp_skip ?_
     refine blockQ_n ?_
     refine thenQ_n ?_
     refine iwp_reg (ils_cons rfl (faR 0 rfl rfl rfl Try.underlying29 rfl ti3 (lb rfl) rfl rfl) <|
      ils_cons rfl (iop_load_rs (d := .int _ _) rfl rfl (lb rfl) Try.underlying3 ag3 ti3 (by decide) (svR rfl) rfl (nle rfl) rfl) <|
      ils_cons rfl (asI rfl rfl rfl rfl) <|
      ils_end ?_)
     refine iwp_seq ?_
     refine iwp_reg (ils_cons rfl (faR 3 rfl rfl rfl Try.underlying29 rfl ti25 (lb rfl) rfl rfl) <|
      ils_cons rfl (lrL la25 rfl rfl rfl rfl rfl (nle rfl) rfl) <|
      ils_cons rfl (iop_lenT E_sbuf_Piece (l := a0.Pieces) rfl rfl (lb rfl) Try.underlying25 (svL rfl)) <|
      ils_cons rfl (iop_move rfl rfl (lb rfl) (sv (d := .int _ 0) rfl)) <|
      ils_end ?_)
     refine iwp_block ?_
     refine iwp_loopP (α := Nat × Int × Int) (fun z => ⟨[(1, .ref 0 0), (3, .int .i64 z.2.1), (39, .slice false (a0.Pieces.map E_sbuf_Piece.d)), (40, .int .i64 (a0.Pieces.length : Int)), (41, .int .i64 z.2.2)], [(0, .blk 29 (v0 a0))]⟩) (fun z => sbuf_Check_L1 a0 z.1 z.2.1 z.2.2 = some r) (fun z => z.1) (fuel, a0.Base, 0) (fun i => i) ⟨(.sames rfl rfl), (.cons (.blk rfl rfl rfl) .nil), nd_of [0] rfl (by decide), fun _ _ => rfl⟩ ?_ ?_
     ·exact h
     ·
      rintro ⟨n1, v21, v22⟩ h
      cases n1 with
      | zero => exact absurd h (by unfold sbuf_Check_L1; exact nofun)
      | succ n1 =>
       unfold sbuf_Check_L1 at h
       obtain ⟨x29, hx29, h⟩ := bnd_e h
       refine iwp_reg (ils_cons rfl (iop_cmpx rfl rfl (lb rfl) (svI rfl) (svI rfl) rfl hx29) <|
        ils_end ?_)
       refine iwp_seq ?_
       refine iwp_cond (b := _) rfl (fun hc30 => ?_) (fun hc30 => ?_)
       ·
        replace h := bif_t h hc30
        refine iwp_skip ?_
        refine thenQ_n ?_
        refine iwp_seq ?_
        refine iwp_block ?_
        obtain ⟨x31, hx31, h⟩ := bno_e h
        refine iwp_reg (ils_cons rfl (iop_idxT E_sbuf_Piece (cs := q6) rfl rfl (lb rfl) Try.underlying25 ti39 (svL rfl) (svI rfl) hx31 rfl rfl) <|
         ils_cons rfl (iop_load_fa (cs := q6) rfl rfl (lb rfl) Try.underlying39 ag39 ti39 (by decide) (sv (d := .fptr q6) rfl) (nle rfl) rfl) <|
         ils_cons rfl (iop_allocS (cs := q6) (cs' := (w14 0 0 0 false)) 1 rfl rfl (lb rfl) rfl ti39 rfl rfl (.all _)) <|
         ils_cons rfl (stA q6 q6 ti39 rfl rfl rfl rfl rfl rfl rfl rfl (nle rfl) rfl) <|
         ils_end ?_)
        refine iwp_seq ?_
        obtain ⟨x32, hx32, h⟩ := bno_e h
        refine iwp_reg (ils_cons rfl (lra q3 la29 rfl rfl rfl rfl rfl (nle rfl) rfl) <|
         ils_cons rfl (lra q6 la39 rfl rfl rfl rfl rfl (nle rfl) rfl) <|
         ils_cons rfl (mvI rfl rfl rfl rfl) <|
         ils_cons rfl (iop_call (r := .bool _) rfl rfl (lb rfl) cl29 (.cons (svA q3 rfl) (.cons (svA q6 rfl) (.cons (svI rfl) .nil))) rfl (p_sbuf_State_fits _ _ _ _ hx32)) <|
         ils_cons rfl (iop_not rfl rfl (lb rfl) (svB rfl)) <|
         ils_end ?_)
        refine iwp_cond (b := _) rfl (fun hc33 => ?_) (fun hc33 => ?_)
        ·
         replace h := bif_t h hc33
         refine iwp_reg (ils_cons rfl (iop_assign rfl rfl (lb rfl) (sv (d := .int _ 10) rfl)) <|
          ils_end ?_)
         refine iwp_ret ?_
         refine thenQ_r ?_
         refine blockQ_r ?_
         refine thenQ_r ?_
         refine thenQ_r ?_
         refine blockQ_r ?_
         refine thenQ_r ?_
         obtain rfl := Option.some.inj h
         refine ⟨.inr rfl, (.cons (sv rfl) .nil)⟩
        ·
         replace h := bif_f h hc33
         refine iwp_skip ?_
         refine thenQ_n ?_
         refine iwp_region (ils_cons rfl (faR 1 rfl rfl rfl Try.underlying39 rfl ti3 (lb rfl) rfl rfl) <|
          ils_cons rfl (iop_load_rs (d := .int _ _) rfl rfl (lb rfl) Try.underlying3 ag3 ti3 (by decide) (svR rfl) rfl (nle rfl) rfl) <|
          ils_cons rfl (asI rfl rfl rfl rfl) <|
          ils_nil ?_)
         refine blockQ_n ?_
         refine thenQ_n ?_
         obtain ⟨x34, hx34, h⟩ := bnd_e h
         refine iwp_region (ils_cons rfl (iop_intx rfl rfl (lb rfl) (svI rfl) (sv (d := .int _ 1) rfl) rfl hx34) <|
          ils_cons rfl (mvI rfl rfl rfl rfl) <|
          ils_nil ?_)
         refine thenQ_n ⟨(n1, x31.To, x34), (fun i => i), ⟨(.sames rfl rfl), (.cons (.blk rfl rfl rfl) .nil), nd_of [0] rfl (by decide), fun _ _ => rfl⟩, ?_, ?_⟩
         exact h
         exact Nat.lt_succ_self _
       ·
        replace h := bif_f h hc30
        refine iwp_exit ?_
        refine thenQ_e ?_
        refine thenQ_e ?_
        refine blockQ_e ?_
        refine thenQ_n ?_
        refine iwp_seq ?_
        obtain ⟨x35, hx35, h⟩ := bno_e h
        refine iwp_reg (ils_cons rfl (lra q3 la29 rfl rfl rfl rfl rfl (nle rfl) rfl) <|
         ils_cons rfl (iop_call (r := .bool _) rfl rfl (lb rfl) cl30 (.cons (svA q3 rfl) .nil) rfl (p_sbuf_State_ends _ _ hx35)) <|
         ils_cons rfl (iop_not rfl rfl (lb rfl) (svB rfl)) <|
         ils_end ?_)
        refine iwp_cond (b := _) rfl (fun hc36 => ?_) (fun hc36 => ?_)
        ·
         replace h := bif_t h hc36
         refine iwp_reg (ils_cons rfl (iop_assign rfl rfl (lb rfl) (sv (d := .int _ 9) rfl)) <|
          ils_end ?_)
         refine iwp_ret ?_
         refine thenQ_r ?_
         obtain rfl := Option.some.inj h
         refine ⟨.inr rfl, (.cons (sv rfl) .nil)⟩
        ·
         replace h := bif_f h hc36
         refine iwp_skip ?_
         refine thenQ_n ?_
         refine iwp_reg (ils_cons rfl (iop_assign rfl rfl (lb rfl) (sv (d := .int _ 0) rfl)) <|
          ils_end ?_)
         refine iwp_ret ?_
         obtain rfl := Option.some.inj h
         refine ⟨.inr rfl, (.cons (sv rfl) .nil)⟩

theorem p_sbuf_Room (a0 : T_sbuf_State) (r : Int) (h : sbuf_Room a0 = some r) : PureAt Try.prog 10 [.agg (v0 a0)] (.int .i64 r) := by
 refine pure_of_iwp (rs := [.int .i64 r]) Try.func10 rfl Try.ntmps10 (nle rfl) rfl fun O hO => ?_
 show IWP _ _ _ _ ⟨[(0, .agg (v0 a0))], []⟩ _
 unfold sbuf_Room at h
 refine iwp_reg (ils_cons rfl (iop_box' (cs := q3) 0 rfl rfl (lb rfl) rfl (svA q3 rfl) rfl rfl) <|
  ils_cons rfl (iop_assign rfl rfl (lb rfl) (sv (d := .int _ 0) rfl)) <|
  ils_end ?_)
 refine iwp_seq ?_
 refine iwp_reg (ils_cons rfl (faR 5 rfl rfl rfl Try.underlying29 rfl ti4 (lb rfl) rfl rfl) <|
  ils_cons rfl (iop_load_rs (d := .bool _) rfl rfl (lb rfl) Try.underlying4 ag4 ti4 (by decide) (svR rfl) rfl (nle rfl) rfl) <|
  ils_end ?_)
 refine iwp_cond (b := _) rfl (fun hc1 => ?_) (fun hc1 => ?_)
 ·
  replace h := bif_t h hc1
  refine iwp_reg (ils_cons rfl (iop_assign rfl rfl (lb rfl) (sv (d := .int _ 0) rfl)) <|
   ils_end ?_)
  refine iwp_ret ?_
  refine thenQ_r ?_
  obtain rfl := Option.some.inj h
  refine ⟨.inr rfl, (.cons (sv rfl) .nil)⟩
 ·
  replace h := bif_f h hc1
  refine iwp_skip ?_
  refine thenQ_n ?_
  obtain ⟨x2, hx2, h⟩ := bnd_e h
  refine iwp_reg (ils_cons rfl (faR 1 rfl rfl rfl Try.underlying29 rfl ti9 (lb rfl) rfl rfl) <|
   ils_cons rfl (iop_load_rs (d := .str _) rfl rfl (lb rfl) Try.underlying9 ag9 ti9 (by decide) (svR rfl) rfl (nle rfl) rfl) <|
   ils_cons rfl (iop_len_str rfl rfl (lb rfl) Try.underlying9 (sv (d := .str _) rfl) rfl) <|
   ils_cons rfl (iop_intx rfl rfl (lb rfl) (sv (d := .int _ 4096) rfl) (svI rfl) rfl hx2) <|
   ils_cons rfl (asI rfl rfl rfl rfl) <|
   ils_end ?_)
  refine iwp_ret ?_
  obtain rfl := Option.some.inj h
  refine ⟨.inr rfl, (.cons (sv rfl) .nil)⟩

theorem p_sbuf_Write (a0 : T_sbuf_State) (a1 : (List UInt8)) (r : (T_sbuf_State × Int)) (h : sbuf_Write a0 a1 = some r) : PureAt Try.prog 9 [.agg (v0 a0), .str a1] (retD [.agg (v0 r.1), .int .i64 r.2]) := by
 refine pure_of_iwpF (rs := [.agg (v0 r.1), .int .i64 r.2]) Try.func9 rfl Try.ntmps9 (nle rfl) rfl fun O hO => ?_
 show IWP _ _ _ _ ⟨[(0, .agg (v0 a0)), (1, .str a1)], []⟩ _
 unfold sbuf_Write at h
 refine iwp_reg (ils_cons rfl (iop_box' (cs := q3) 0 rfl rfl (lb rfl) rfl (svA q3 rfl) rfl rfl) <|
  ils_cons rfl (iop_allocS (cs := q5) (cs' := (w11 0 [] 0 ([] : List T_sbuf_Piece) ([] : List T_ivals_Ival) false false false false)) 1 rfl rfl (lb rfl) rfl ti29 rfl rfl (.k (.k (.k (.cons (.nils _) (.cons (.nils _) (.all _))))))) <|
  ils_cons rfl (iop_assign rfl rfl (lb rfl) (sv (d := .int _ 0) rfl)) <|
  ils_end ?_)
 obtain ⟨x1, hx1, h⟩ := bno_e h
 refine iwp_reg (ils_cons rfl (lra q3 la29 rfl rfl rfl rfl rfl (nle rfl) rfl) <|
  ils_cons rfl (iop_callh2 (r' := .agg (w12 x1.1 x1.2.1 x1.2.2.1 (.osl 2 E_sbuf_Piece.sz x1.2.2.2.1.length) x1.2.2.2.2.1 x1.2.2.2.2.2.1 x1.2.2.2.2.2.2.1 x1.2.2.2.2.2.2.2.1 x1.2.2.2.2.2.2.2.2)) (H1' := [(2, .blk 39 (D.flat (x1.2.2.2.1.map E_sbuf_Piece.d)))]) 2 [] rfl rfl (lb rfl) cl19 (.cons (svA q3 rfl) .nil) rfl rfl ⟨rfl, rfl, by decide, rfl, List.forall_mem_nil _⟩ (p_sbuf_State_own_h _ _ hx1) rfl rfl (List.forall_mem_cons.2 ⟨⟨rfl, (handLr E_sbuf_Piece)⟩, List.forall_mem_nil _⟩) (by simp only [List.map_cons, List.map_nil, Ent.ren, renL_flat, renL_ref]; rfl)) <|
  ils_cons rfl (iop_allocS (cs := q5) (cs' := (w11 0 [] 0 ([] : List T_sbuf_Piece) ([] : List T_ivals_Ival) false false false false)) 3 rfl rfl (lb rfl) rfl ti29 rfl rfl (.k (.k (.k (.cons (.nils _) (.cons (.nils _) (.all _))))))) <|
  ils_cons rfl (stA q4 q4 ti29 rfl rfl rfl rfl rfl rfl rfl rfl (nle rfl) rfl) <|
  ils_end ?_)
 refine iwp_seq ?_
 obtain ⟨x2, hx2, h⟩ := bno_e h
 obtain ⟨x3, hx3, h⟩ := bnd_e h
 refine iwp_reg (ils_cons rfl (lra q3 la29 rfl rfl rfl rfl rfl (nle rfl) rfl) <|
  ils_cons rfl (iop_call (r := .int _ _) rfl rfl (lb rfl) cl13 (.cons (svA q3 rfl) .nil) rfl (p_sbuf_Check _ _ hx2)) <|
  ils_cons rfl (iop_cmpx rfl rfl (lb rfl) (svI rfl) (sv (d := .int _ 0) rfl) rfl hx3) <|
  ils_end ?_)
 refine iwp_cond (b := _) rfl (fun hc4 => ?_) (fun hc4 => ?_)
 ·
  replace h := bif_t h hc4
  refine iwp_reg (ils_cons rfl (lra q4 la29 rfl rfl rfl rfl rfl (nle rfl) rfl) <|
   ils_cons rfl (stA q4 q4 ti29 rfl rfl rfl rfl rfl rfl rfl rfl (nle rfl) rfl) <|
   ils_cons rfl (iop_assign rfl rfl (lb rfl) (sv (d := .int _ 0) rfl)) <|
   ils_end ?_)
  refine iwp_ret ?_
  refine thenQ_r ?_
  obtain rfl := Option.some.inj h
  refine ⟨.inr rfl, _, (.cons (rva la29 rfl rfl (nle rfl) rfl) (.cons (sv rfl) .nil)), (.cons (.agg (.k (.k (.k (.cons (FDT E_sbuf_Piece rfl rfl) (.all _)))))) (.all _))⟩
 ·
  replace h := bif_f h hc4
  refine iwp_skip ?_
  refine thenQ_n ?_
  obtain ⟨x5, hx5, h⟩ := bno_e h
  obtain ⟨x6, hx6, h⟩ := bnd_e h
  refine iwp_reg (ils_cons rfl (lra q3 la29 rfl rfl rfl rfl rfl (nle rfl) rfl) <|
   ils_cons rfl (iop_call (r := .int _ _) rfl rfl (lb rfl) cl10 (.cons (svA q3 rfl) .nil) rfl (p_sbuf_Room _ _ hx5)) <|
   ils_cons rfl (iop_move rfl rfl (lb rfl) (sv (d := .str _) rfl)) <|
   ils_cons rfl (iop_len_str rfl rfl (lb rfl) Try.underlying9 (sv (d := .str _) rfl) rfl) <|
   ils_cons rfl (iop_min2 rfl rfl (lb rfl) (svI rfl) (svI rfl) hx6) <|
   ils_cons rfl (asI rfl rfl rfl rfl) <|
   ils_end ?_)
  refine iwp_seq ?_
  obtain ⟨x7, hx7, h⟩ := bno_e h
  obtain ⟨x8, hx8, h⟩ := bnd_e h
  obtain ⟨x9, hx9, h⟩ := bnd_e h
  refine iwp_reg (ils_cons rfl (lra q3 la29 rfl rfl rfl rfl rfl (nle rfl) rfl) <|
   ils_cons rfl (iop_call (r := .int _ _) rfl rfl (lb rfl) cl20 (.cons (svA q3 rfl) .nil) rfl (p_sbuf_State_end _ _ hx7)) <|
   ils_cons rfl (mvI rfl rfl rfl rfl) <|
   ils_cons rfl (iop_intx rfl rfl (lb rfl) (sv (d := .int _ 1099511623680) rfl) (svI rfl) rfl hx8) <|
   ils_cons rfl (iop_cmpx rfl rfl (lb rfl) (svI rfl) (svI rfl) rfl hx9) <|
   ils_end ?_)
  refine iwp_cond (b := _) rfl (fun hc10 => ?_) (fun hc10 => ?_)
  ·
   replace h := bif_t h hc10
   refine iwp_reg (ils_cons rfl (lra q4 la29 rfl rfl rfl rfl rfl (nle rfl) rfl) <|
    ils_cons rfl (stA q4 q4 ti29 rfl rfl rfl rfl rfl rfl rfl rfl (nle rfl) rfl) <|
    ils_cons rfl (iop_assign rfl rfl (lb rfl) (sv (d := .int _ 0) rfl)) <|
    ils_end ?_)
   refine iwp_ret ?_
   refine thenQ_r ?_
   obtain rfl := Option.some.inj h
   refine ⟨.inr rfl, _, (.cons (rva la29 rfl rfl (nle rfl) rfl) (.cons (sv rfl) .nil)), (.cons (.agg (.k (.k (.k (.cons (FDT E_sbuf_Piece rfl rfl) (.all _)))))) (.all _))⟩
  ·
   replace h := bif_f h hc10
   refine iwp_skip ?_
   refine thenQ_n ?_
   obtain ⟨x11, hx11, h⟩ := bno_e h
   obtain ⟨x12, hx12, h⟩ := bno_e h
   refine iwp_drw rfl [⟨[6], [], [(25, .ref 3 1)], []⟩,
    ⟨[25], [3], [(26, .str x1.2.1)], []⟩,
    ⟨[1], [], [(27, .str a1)], []⟩,
    ⟨[7], [], [(28, .int .i64 x6)], []⟩,
    ⟨[27, 28], [], [(29, .str x11)], []⟩,
    ⟨[26, 29], [], [(30, .str x12)], []⟩,
    ⟨[6], [], [(31, .ref 3 1)], []⟩,
    ⟨[30, 31], [3], [], [(3, .blk 29 (w12 x1.1 x12 x1.2.2.1 (.osl 2 E_sbuf_Piece.sz x1.2.2.2.1.length) x1.2.2.2.2.1 x1.2.2.2.2.2.1 x1.2.2.2.2.2.2.1 x1.2.2.2.2.2.2.2.1 x1.2.2.2.2.2.2.2.2))]⟩] rfl ?_ (by kernel_rfl) ?_
   ·refine .cons (lop rfl rfl fun S hA => (iop_fieldAddr_ref rfl rfl (lb rfl) Try.underlying29 rfl ti9 (by decide) (svaR hA rfl rfl) (off' := 1) rfl)) ?_
    refine .cons (lop rfl rfl fun S hA => (iop_load_rs (d := .str _) rfl rfl (lb rfl) Try.underlying9 ag9 ti9 (by decide) (svaR hA rfl rfl) (agi hA rfl rfl) (nle rfl) rfl)) ?_
    refine .cons (lop rfl rfl fun S hA => (iop_move rfl rfl (lb rfl) (sv (d := .str _) (agr hA rfl rfl)))) ?_
    refine .cons (lop rfl rfl fun S hA => (iop_move rfl rfl (lb rfl) (svaI hA rfl rfl))) ?_
    refine .cons (lop rfl rfl fun S hA => (iop_cutS rfl rfl (lb rfl) Try.underlying9 (sv (d := .str _) (agr hA rfl rfl)) rfl ⟨_, (svaI hA rfl rfl)⟩ hx11)) ?_
    refine .cons (lop rfl rfl fun S hA => (iop_catx rfl rfl (lb rfl) (sv (d := .str _) (agr hA rfl rfl)) (sv (d := .str _) (agr hA rfl rfl)) hx12)) ?_
    refine .cons (lop rfl rfl fun S hA => (iop_fieldAddr_ref rfl rfl (lb rfl) Try.underlying29 rfl ti9 (by decide) (svaR hA rfl rfl) (off' := 1) rfl)) ?_
    refine .cons (lop rfl rfl fun S hA => (iop_store (ds' := q4) rfl rfl ti9 (svaR hA rfl rfl) (agi hA rfl rfl) (sv (d := .str _) (agr hA rfl rfl)) rfl rfl rfl (nle rfl) rfl)) ?_
    exact .nil
   refine iwp_reg (ils_cons rfl (lra q4 la29 rfl rfl rfl rfl rfl (nle rfl) rfl) <|
    ils_cons rfl (mvI rfl rfl rfl rfl) <|
    ils_cons rfl (stA q4 q4 ti29 rfl rfl rfl rfl rfl rfl rfl rfl (nle rfl) rfl) <|
    ils_cons rfl (asI rfl rfl rfl rfl) <|
    ils_end ?_)
   refine iwp_ret ?_
   obtain rfl := Option.some.inj h
   refine ⟨.inr rfl, _, (.cons (rva la29 rfl rfl (nle rfl) rfl) (.cons (sv rfl) .nil)), (.cons (.agg (.k (.k (.k (.cons (FDT E_sbuf_Piece rfl rfl) (.all _)))))) (.all _))⟩

theorem p_sbuf_Close (a0 : T_sbuf_State) (r : T_sbuf_State) (h : sbuf_Close a0 = some r) : PureAt Try.prog 15 [.agg (v0 a0)] (.agg (v0 r)) := by
 refine pure_of_iwpF (rs := [.agg (v0 r)]) Try.func15 rfl Try.ntmps15 (nle rfl) rfl fun O hO => ?_
 show IWP _ _ _ _ ⟨[(0, .agg (v0 a0))], []⟩ _
 unfold sbuf_Close at h
 refine iwp_reg (ils_cons rfl (iop_box' (cs := q3) 0 rfl rfl (lb rfl) rfl (svA q3 rfl) rfl rfl) <|
  ils_cons rfl (iop_allocS (cs := q5) (cs' := (w11 0 [] 0 ([] : List T_sbuf_Piece) ([] : List T_ivals_Ival) false false false false)) 1 rfl rfl (lb rfl) rfl ti29 rfl rfl (.k (.k (.k (.cons (.nils _) (.cons (.nils _) (.all _))))))) <|
  ils_end ?_)
 obtain ⟨x1, hx1, h⟩ := bno_e h
 refine iwp_reg (ils_cons rfl (lra q3 la29 rfl rfl rfl rfl rfl (nle rfl) rfl) <|
  ils_cons rfl (iop_callh2 (r' := .agg (w12 x1.1 x1.2.1 x1.2.2.1 (.osl 2 E_sbuf_Piece.sz x1.2.2.2.1.length) x1.2.2.2.2.1 x1.2.2.2.2.2.1 x1.2.2.2.2.2.2.1 x1.2.2.2.2.2.2.2.1 x1.2.2.2.2.2.2.2.2)) (H1' := [(2, .blk 39 (D.flat (x1.2.2.2.1.map E_sbuf_Piece.d)))]) 2 [] rfl rfl (lb rfl) cl19 (.cons (svA q3 rfl) .nil) rfl rfl ⟨rfl, rfl, by decide, rfl, List.forall_mem_nil _⟩ (p_sbuf_State_own_h _ _ hx1) rfl rfl (List.forall_mem_cons.2 ⟨⟨rfl, (handLr E_sbuf_Piece)⟩, List.forall_mem_nil _⟩) (by simp only [List.map_cons, List.map_nil, Ent.ren, renL_flat, renL_ref]; rfl)) <|
  ils_cons rfl (iop_allocS (cs := q5) (cs' := (w11 0 [] 0 ([] : List T_sbuf_Piece) ([] : List T_ivals_Ival) false false false false)) 3 rfl rfl (lb rfl) rfl ti29 rfl rfl (.k (.k (.k (.cons (.nils _) (.cons (.nils _) (.all _))))))) <|
  ils_cons rfl (stA q4 q4 ti29 rfl rfl rfl rfl rfl rfl rfl rfl (nle rfl) rfl) <|
  ils_end ?_)
 obtain ⟨x2, hx2, h⟩ := bno_e h
 obtain ⟨x3, hx3, h⟩ := bnd_e h
 obtain ⟨x4, hx4, h⟩ := bnd_e h
 refine iwp_reg (ils_cons rfl (faR 5 rfl rfl rfl Try.underlying29 rfl ti4 (lb rfl) rfl rfl) <|
  ils_cons rfl (iop_load_rs (d := .bool _) rfl rfl (lb rfl) Try.underlying4 ag4 ti4 (by decide) (svR rfl) rfl (nle rfl) rfl) <|
  ils_cons rfl (mvB rfl rfl rfl rfl) <|
  ils_guard rfl rfl (.one rfl) rfl (by decide) (fun hb => (lra q3 la29 rfl rfl rfl rfl rfl (nle rfl) rfl)) <|
  ils_guard rfl rfl (.one rfl) rfl (by decide) (fun hb => (iop_call (r := .int _ _) rfl rfl (lb rfl) cl13 (.cons (svcA (v0 a0) rfl hb) .nil) rfl (p_sbuf_Check _ _ (gd_t hx2 hb)))) <|
  ils_guard rfl rfl (.one rfl) rfl (by decide) (fun hb => (iop_cmpx rfl rfl (lb rfl) (svcI rfl hb) (sv (d := .int _ 0) rfl) rfl hx3)) <|
  ils_cons rfl (iop_orx rfl rfl (lb rfl) (svB rfl) rfl rfl hx4) <|
  ils_cons rfl (faR 5 rfl rfl rfl Try.underlying29 rfl ti4 (lb rfl) rfl rfl) <|
  ils_cons rfl (iop_store (ds' := q4) rfl rfl ti4 (svR rfl) rfl (svB rfl) rfl rfl rfl (nle rfl) rfl) <|
  ils_end ?_)
 refine iwp_reg (ils_cons rfl (lra q4 la29 rfl rfl rfl rfl rfl (nle rfl) rfl) <|
  ils_cons rfl (stA q4 q4 ti29 rfl rfl rfl rfl rfl rfl rfl rfl (nle rfl) rfl) <|
  ils_end ?_)
 refine iwp_ret ?_
 obtain rfl := Option.some.inj h
 refine ⟨.inr rfl, _, (.cons (rva la29 rfl rfl (nle rfl) rfl) .nil), (.cons (.agg (.k (.k (.k (.cons (FDT E_sbuf_Piece rfl rfl) (.all _)))))) .nil)⟩

theorem p_sbuf_State_due (a0 : T_sbuf_State) (r : Bool) (h : sbuf_State_due a0 = some r) : PureAt Try.prog 25 [.agg (v0 a0)] (.bool r) := by
 refine pure_of_iwp (rs := [.bool r]) Try.func25 rfl Try.ntmps25 (nle rfl) rfl fun O hO => ?_
 show IWP _ _ _ _ ⟨[(0, .agg (v0 a0))], []⟩ _
 unfold sbuf_State_due at h
 refine iwp_reg (ils_cons rfl (iop_box' (cs := q3) 0 rfl rfl (lb rfl) rfl (svA q3 rfl) rfl rfl) <|
  ils_cons rfl (iop_assign rfl rfl (lb rfl) (sv (d := .bool false) rfl)) <|
  ils_end ?_)
 refine iwp_seq ?_
 obtain ⟨x1, hx1, h⟩ := bnd_e h
 refine iwp_reg (ils_cons rfl (faR 5 rfl rfl rfl Try.underlying29 rfl ti4 (lb rfl) rfl rfl) <|
  ils_cons rfl (iop_load_rs (d := .bool _) rfl rfl (lb rfl) Try.underlying4 ag4 ti4 (by decide) (svR rfl) rfl (nle rfl) rfl) <|
  ils_cons rfl (iop_not rfl rfl (lb rfl) (svB rfl)) <|
  ils_cons rfl (mvB rfl rfl rfl rfl) <|
  ils_guard rfl rfl (.one rfl) rfl (by decide) (fun hb => (faR 8 rfl rfl rfl Try.underlying29 rfl ti4 (lb rfl) rfl rfl)) <|
  ils_guard rfl rfl (.one rfl) rfl (by decide) (fun hb => (iop_load_rs (d := .bool _) rfl rfl (lb rfl) Try.underlying4 ag4 ti4 (by decide) (svcR rfl hb) rfl (nle rfl) rfl)) <|
  ils_cons rfl (iop_orx rfl rfl (lb rfl) (svB rfl) rfl rfl hx1) <|
  ils_end ?_)
 refine iwp_cond (b := _) rfl (fun hc2 => ?_) (fun hc2 => ?_)
 ·
  replace h := bif_t h hc2
  refine iwp_reg (ils_cons rfl (iop_assign rfl rfl (lb rfl) (sv (d := .bool false) rfl)) <|
   ils_end ?_)
  refine iwp_ret ?_
  refine thenQ_r ?_
  obtain rfl := Option.some.inj h
  refine ⟨.inr rfl, (.cons (sv rfl) .nil)⟩
 ·
  replace h := bif_f h hc2
  refine iwp_skip ?_
  refine thenQ_n ?_
  obtain ⟨x3, hx3, h⟩ := bnd_e h
  refine iwp_reg (ils_cons rfl (faR 7 rfl rfl rfl Try.underlying29 rfl ti4 (lb rfl) rfl rfl) <|
   ils_cons rfl (iop_load_rs (d := .bool _) rfl rfl (lb rfl) Try.underlying4 ag4 ti4 (by decide) (svR rfl) rfl (nle rfl) rfl) <|
   ils_cons rfl (mvB rfl rfl rfl rfl) <|
   ils_guard rfl rfl (.one rfl) rfl (by decide) (fun hb => (faR 6 rfl rfl rfl Try.underlying29 rfl ti4 (lb rfl) rfl rfl)) <|
   ils_guard rfl rfl (.one rfl) rfl (by decide) (fun hb => (iop_load_rs (d := .bool _) rfl rfl (lb rfl) Try.underlying4 ag4 ti4 (by decide) (svcR rfl hb) rfl (nle rfl) rfl)) <|
   ils_guard rfl rfl (.one rfl) rfl (by decide) (fun hb => (iop_not rfl rfl (lb rfl) (svcB rfl hb))) <|
   ils_cons rfl (iop_orx rfl rfl (lb rfl) (svB rfl) rfl rfl hx3) <|
   ils_cons rfl (asB rfl rfl rfl rfl) <|
   ils_end ?_)
  refine iwp_ret ?_
  obtain rfl := Option.some.inj h
  refine ⟨.inr rfl, (.cons (sv rfl) .nil)⟩

theorem p_sbuf_State_next (a0 : T_sbuf_State) (a1 : Int) (a2 : Int) (r : (T_sbuf_Piece × Bool)) (h : sbuf_State_next a0 a1 a2 = some r) : PureAt Try.prog 22 [.agg (v0 a0), .int .i64 a1, .int .i64 a2] (retD [.agg (v1 r.1), .bool r.2]) := by
 refine pure_of_iwp (rs := [.agg (v1 r.1), .bool r.2]) Try.func22 rfl Try.ntmps22 (nle rfl) rfl fun O hO => ?_
 show IWP _ _ _ _ ⟨[(0, .agg (v0 a0)), (1, .int .i64 a1), (2, .int .i64 a2)], []⟩ _
 unfold sbuf_State_next at h
 refine iwp_reg (ils_cons rfl (iop_box' (cs := q3) 0 rfl rfl (lb rfl) rfl (svA q3 rfl) rfl rfl) <|
  ils_cons rfl (iop_allocS (cs := q6) (cs' := (w14 0 0 0 false)) 1 rfl rfl (lb rfl) rfl ti39 rfl rfl (.all _)) <|
  ils_cons rfl (iop_assign rfl rfl (lb rfl) (sv (d := .bool false) rfl)) <|
  ils_end ?_)
 refine iwp_seq ?_
 obtain ⟨x1, hx1, h⟩ := bnd_e h
 refine iwp_reg (ils_cons rfl (faR 4 rfl rfl rfl Try.underlying29 rfl ti27 (lb rfl) rfl rfl) <|
  ils_cons rfl (lrL la27 rfl rfl rfl rfl rfl (nle rfl) rfl) <|
  ils_cons rfl (iop_lenT E_ivals_Ival (l := a0.Lost) rfl rfl (lb rfl) Try.underlying27 (svL rfl)) <|
  ils_cons rfl (iop_cmpx rfl rfl (lb rfl) (svI rfl) (sv (d := .int _ 0) rfl) rfl hx1) <|
  ils_end ?_)
 refine iwp_cond (b := _) rfl (fun hc2 => ?_) (fun hc2 => ?_)
 ·
  replace h := bif_t h hc2
  obtain ⟨x3, hx3, h⟩ := bno_e h
  refine iwp_reg (ils_cons rfl (faR 4 rfl rfl rfl Try.underlying29 rfl ti27 (lb rfl) rfl rfl) <|
   ils_cons rfl (lrL la27 rfl rfl rfl rfl rfl (nle rfl) rfl) <|
   ils_cons rfl (iop_idxT E_ivals_Ival (cs := q7) rfl rfl (lb rfl) Try.underlying27 ti59 (svL rfl) (sv (d := .int _ 0) rfl) hx3 rfl rfl) <|
   ils_cons rfl (iop_load_fa (cs := q7) rfl rfl (lb rfl) Try.underlying59 ag59 ti59 (by decide) (sv (d := .fptr q7) rfl) (nle rfl) rfl) <|
   ils_cons rfl (iop_allocS (cs := q7) (cs' := [.int .i64 0, .int .i64 0]) 2 rfl rfl (lb rfl) rfl ti59 rfl rfl (.all _)) <|
   ils_cons rfl (stA q7 q7 ti59 rfl rfl rfl rfl rfl rfl rfl rfl (nle rfl) rfl) <|
   ils_end ?_)
  obtain ⟨x4, hx4, h⟩ := bnd_e h
  obtain ⟨x5, hx5, h⟩ := bnd_e h
  obtain ⟨x6, hx6, h⟩ := bnd_e h
  refine iwp_reg (ils_cons rfl (faR 0 rfl rfl rfl Try.underlying59 rfl ti3 (lb rfl) rfl rfl) <|
   ils_cons rfl (iop_load_rs (d := .int _ _) rfl rfl (lb rfl) Try.underlying3 ag3 ti3 (by decide) (svR rfl) rfl (nle rfl) rfl) <|
   ils_cons rfl (faR 0 rfl rfl rfl Try.underlying59 rfl ti3 (lb rfl) rfl rfl) <|
   ils_cons rfl (iop_load_rs (d := .int _ _) rfl rfl (lb rfl) Try.underlying3 ag3 ti3 (by decide) (svR rfl) rfl (nle rfl) rfl) <|
   ils_cons rfl (mvI rfl rfl rfl rfl) <|
   ils_cons rfl (faR 1 rfl rfl rfl Try.underlying59 rfl ti3 (lb rfl) rfl rfl) <|
   ils_cons rfl (iop_load_rs (d := .int _ _) rfl rfl (lb rfl) Try.underlying3 ag3 ti3 (by decide) (svR rfl) rfl (nle rfl) rfl) <|
   ils_cons rfl (faR 0 rfl rfl rfl Try.underlying59 rfl ti3 (lb rfl) rfl rfl) <|
   ils_cons rfl (iop_load_rs (d := .int _ _) rfl rfl (lb rfl) Try.underlying3 ag3 ti3 (by decide) (svR rfl) rfl (nle rfl) rfl) <|
   ils_cons rfl (iop_intx rfl rfl (lb rfl) (svI rfl) (svI rfl) rfl hx4) <|
   ils_cons rfl (iop_min2 rfl rfl (lb rfl) (svI rfl) (svI rfl) hx5) <|
   ils_cons rfl (iop_intx rfl rfl (lb rfl) (svI rfl) (svI rfl) rfl hx6) <|
   ils_cons rfl (iop_build_struct (cs := q6) rfl rfl (lb rfl) Try.underlying39 ti39 pl39 rfl (.cons (svI rfl) (.cons (svI rfl) .nil)) rfl) <|
   ils_cons rfl (stA q6 q6 ti39 rfl rfl rfl rfl rfl rfl rfl rfl (nle rfl) rfl) <|
   ils_cons rfl (iop_assign rfl rfl (lb rfl) (sv (d := .bool true) rfl)) <|
   ils_end ?_)
  refine iwp_ret ?_
  refine thenQ_r ?_
  obtain rfl := Option.some.inj h
  refine ⟨.inr rfl, (.cons (rva la39 rfl rfl (nle rfl) rfl) (.cons (sv rfl) .nil))⟩
 ·
  replace h := bif_f h hc2
  refine iwp_skip ?_
  refine thenQ_n ?_
  obtain ⟨x7, hx7, h⟩ := bno_e h
  obtain ⟨x8, hx8, h⟩ := bnd_e h
  refine iwp_drw rfl [⟨[3], [0], [(32, .agg (v0 a0))], []⟩,
   ⟨[32], [], [(33, .int .i64 x7)], []⟩,
   ⟨[3], [], [(34, .ref 0 2)], []⟩,
   ⟨[34], [0], [(35, .int .i64 a0.Next)], []⟩,
   ⟨[33, 35], [], [(36, .int .i64 x8)], []⟩,
   ⟨[36], [], [(9, .int .i64 x8)], []⟩] rfl ?_ (by kernel_rfl) ?_
  ·refine .cons (lop rfl rfl fun S hA => (iop_load_ra (cs := q3) rfl rfl (lb rfl) Try.underlying29 ag29 ti29 (by decide) (svaR hA rfl rfl) (agi hA rfl rfl) (nle rfl) rfl)) ?_
   refine .cons (lop rfl rfl fun S hA => (iop_call (r := .int _ _) rfl rfl (lb rfl) cl20 (.cons (svaA q3 hA rfl rfl) .nil) rfl (p_sbuf_State_end _ _ hx7))) ?_
   refine .cons (lop rfl rfl fun S hA => (iop_fieldAddr_ref rfl rfl (lb rfl) Try.underlying29 rfl ti3 (by decide) (svaR hA rfl rfl) (off' := 2) rfl)) ?_
   refine .cons (lop rfl rfl fun S hA => (iop_load_rs (d := .int _ _) rfl rfl (lb rfl) Try.underlying3 ag3 ti3 (by decide) (svaR hA rfl rfl) (agi hA rfl rfl) (nle rfl) rfl)) ?_
   refine .cons (lop rfl rfl fun S hA => (iop_intx rfl rfl (lb rfl) (svaI hA rfl rfl) (svaI hA rfl rfl) rfl hx8)) ?_
   refine .cons (lop rfl rfl fun S hA => (iop_assign rfl rfl (lb rfl) (svaI hA rfl rfl))) ?_
   exact .nil
  refine iwp_seq ?_
  obtain ⟨x9, hx9, h⟩ := bnd_e h
  refine iwp_reg (ils_cons rfl (mvI rfl rfl rfl rfl) <|
   ils_cons rfl (iop_cmpx rfl rfl (lb rfl) (svI rfl) (sv (d := .int _ 0) rfl) rfl hx9) <|
   ils_end ?_)
  refine iwp_cond (b := _) rfl (fun hc10 => ?_) (fun hc10 => ?_)
  ·
   replace h := bif_t h hc10
   obtain ⟨x11, hx11, h⟩ := bnd_e h
   obtain ⟨x12, hx12, h⟩ := bnd_e h
   obtain ⟨x13, hx13, h⟩ := bnd_e h
   refine iwp_reg (ils_cons rfl (mvI rfl rfl rfl rfl) <|
    ils_cons rfl (mvI rfl rfl rfl rfl) <|
    ils_cons rfl (mvI rfl rfl rfl rfl) <|
    ils_cons rfl (faR 2 rfl rfl rfl Try.underlying29 rfl ti3 (lb rfl) rfl rfl) <|
    ils_cons rfl (iop_load_rs (d := .int _ _) rfl rfl (lb rfl) Try.underlying3 ag3 ti3 (by decide) (svR rfl) rfl (nle rfl) rfl) <|
    ils_cons rfl (iop_max2 rfl rfl (lb rfl) (svI rfl) (svI rfl) hx11) <|
    ils_cons rfl (faR 2 rfl rfl rfl Try.underlying29 rfl ti3 (lb rfl) rfl rfl) <|
    ils_cons rfl (iop_load_rs (d := .int _ _) rfl rfl (lb rfl) Try.underlying3 ag3 ti3 (by decide) (svR rfl) rfl (nle rfl) rfl) <|
    ils_cons rfl (iop_intx rfl rfl (lb rfl) (svI rfl) (svI rfl) rfl hx12) <|
    ils_cons rfl (iop_min3 rfl rfl (lb rfl) (svI rfl) (svI rfl) (svI rfl) hx13) <|
    ils_cons rfl (asI rfl rfl rfl rfl) <|
    ils_end ?_)
   obtain ⟨x14, hx14, h⟩ := bnd_e h
   obtain ⟨x15, hx15, h⟩ := bnd_e h
   refine iwp_reg (ils_cons rfl (faR 2 rfl rfl rfl Try.underlying29 rfl ti3 (lb rfl) rfl rfl) <|
    ils_cons rfl (iop_load_rs (d := .int _ _) rfl rfl (lb rfl) Try.underlying3 ag3 ti3 (by decide) (svR rfl) rfl (nle rfl) rfl) <|
    ils_cons rfl (faR 2 rfl rfl rfl Try.underlying29 rfl ti3 (lb rfl) rfl rfl) <|
    ils_cons rfl (iop_load_rs (d := .int _ _) rfl rfl (lb rfl) Try.underlying3 ag3 ti3 (by decide) (svR rfl) rfl (nle rfl) rfl) <|
    ils_cons rfl (mvI rfl rfl rfl rfl) <|
    ils_cons rfl (iop_intx rfl rfl (lb rfl) (svI rfl) (svI rfl) rfl hx14) <|
    ils_cons rfl (iop_build_struct (cs := q6) rfl rfl (lb rfl) Try.underlying39 ti39 pl39 rfl (.cons (svI rfl) (.cons (svI rfl) .nil)) rfl) <|
    ils_cons rfl (mvI rfl rfl rfl rfl) <|
    ils_cons rfl (iop_cmpx rfl rfl (lb rfl) (svI rfl) (sv (d := .int _ 0) rfl) rfl hx15) <|
    ils_cons rfl (stA q6 q6 ti39 rfl rfl rfl rfl rfl rfl rfl rfl (nle rfl) rfl) <|
    ils_cons rfl (asB rfl rfl rfl rfl) <|
    ils_end ?_)
   refine iwp_ret ?_
   refine thenQ_r ?_
   obtain rfl := Option.some.inj h
   refine ⟨.inr rfl, (.cons (rva la39 rfl rfl (nle rfl) rfl) (.cons (sv rfl) .nil))⟩
  ·
   replace h := bif_f h hc10
   refine iwp_skip ?_
   refine thenQ_n ?_
   obtain ⟨x16, hx16, h⟩ := bno_e h
   refine iwp_drw rfl [⟨[3], [], [(58, .ref 0 2)], []⟩,
    ⟨[58], [0], [(59, .int .i64 a0.Next)], []⟩,
    ⟨[3], [], [(60, .ref 0 2)], []⟩,
    ⟨[60], [0], [(61, .int .i64 a0.Next)], []⟩,
    ⟨[59, 61], [], [(62, .agg (w14 a0.Next a0.Next 0 false))], []⟩,
    ⟨[3], [0], [(63, .agg (v0 a0))], []⟩,
    ⟨[63], [], [(64, .bool x16)], []⟩,
    ⟨[6, 62], [1], [], [(1, .blk 39 (w14 a0.Next a0.Next 0 false))]⟩,
    ⟨[64], [], [(7, .bool x16)], []⟩] rfl ?_ (by kernel_rfl) ?_
   ·refine .cons (lop rfl rfl fun S hA => (iop_fieldAddr_ref rfl rfl (lb rfl) Try.underlying29 rfl ti3 (by decide) (svaR hA rfl rfl) (off' := 2) rfl)) ?_
    refine .cons (lop rfl rfl fun S hA => (iop_load_rs (d := .int _ _) rfl rfl (lb rfl) Try.underlying3 ag3 ti3 (by decide) (svaR hA rfl rfl) (agi hA rfl rfl) (nle rfl) rfl)) ?_
    refine .cons (lop rfl rfl fun S hA => (iop_fieldAddr_ref rfl rfl (lb rfl) Try.underlying29 rfl ti3 (by decide) (svaR hA rfl rfl) (off' := 2) rfl)) ?_
    refine .cons (lop rfl rfl fun S hA => (iop_load_rs (d := .int _ _) rfl rfl (lb rfl) Try.underlying3 ag3 ti3 (by decide) (svaR hA rfl rfl) (agi hA rfl rfl) (nle rfl) rfl)) ?_
    refine .cons (lop rfl rfl fun S hA => (iop_build_struct (cs := q6) rfl rfl (lb rfl) Try.underlying39 ti39 pl39 rfl (.cons (svaI hA rfl rfl) (.cons (svaI hA rfl rfl) .nil)) rfl)) ?_
    refine .cons (lop rfl rfl fun S hA => (iop_load_ra (cs := q3) rfl rfl (lb rfl) Try.underlying29 ag29 ti29 (by decide) (svaR hA rfl rfl) (agi hA rfl rfl) (nle rfl) rfl)) ?_
    refine .cons (lop rfl rfl fun S hA => (iop_call (r := .bool _) rfl rfl (lb rfl) cl25 (.cons (svaA q3 hA rfl rfl) .nil) rfl (p_sbuf_State_due _ _ hx16))) ?_
    refine .cons (lop rfl rfl fun S hA => (iop_store (ds' := q6) rfl rfl ti39 (svaR hA rfl rfl) (agi hA rfl rfl) (svaA q6 hA rfl rfl) rfl rfl rfl (nle rfl) rfl)) ?_
    refine .cons (lop rfl rfl fun S hA => (iop_assign rfl rfl (lb rfl) (svaB hA rfl rfl))) ?_
    exact .nil
   refine iwp_ret ?_
   obtain rfl := Option.some.inj h
   refine ⟨.inr rfl, (.cons (rva la39 rfl rfl (nle rfl) rfl) (.cons (sv rfl) .nil))⟩

theorem p_sbuf_State_place_1 (a0 : T_sbuf_Piece) (a1 : T_sbuf_Piece) (r : Bool) (h : sbuf_State_place_1 a0 a1 = some r) : PureAt Try.prog 45 [.agg (v1 a0), .fptr (v1 a1)] (.bool r) := by
 refine pure_of_iwp (rs := [.bool r]) Try.func45 rfl Try.ntmps45 (nle rfl) rfl fun O hO => ?_
 show IWP _ _ _ _ ⟨[(0, .agg (v1 a0)), (1, .fptr (v1 a1))], []⟩ _
 unfold sbuf_State_place_1 at h
 refine iwp_reg (ils_cons rfl (iop_box' (cs := q6) 0 rfl rfl (lb rfl) rfl (svA q6 rfl) rfl rfl) <|
  ils_cons rfl (iop_assign rfl rfl (lb rfl) (sv (d := .bool false) rfl)) <|
  ils_end ?_)
 obtain ⟨x1, hx1, h⟩ := bnd_e h
 obtain ⟨x2, hx2, h⟩ := bnd_e h
 obtain ⟨x3, hx3, h⟩ := bnd_e h
 obtain ⟨x4, hx4, h⟩ := bnd_e h
 obtain ⟨x5, hx5, h⟩ := bnd_e h
 refine iwp_reg (ils_cons rfl (faR 0 rfl rfl rfl Try.underlying39 rfl ti3 (lb rfl) rfl rfl) <|
  ils_cons rfl (iop_load_rs (d := .int _ _) rfl rfl (lb rfl) Try.underlying3 ag3 ti3 (by decide) (svR rfl) rfl (nle rfl) rfl) <|
  ils_cons rfl (iop_fieldAddr_fptr (cs' := [.int _ _]) rfl rfl (lb rfl) Try.underlying39 rfl ti3 (by decide) (sv (d := .fptr q6) rfl) rfl) <|
  ils_cons rfl (iop_load_fs rfl rfl (lb rfl) Try.underlying3 ag3 ti3 (by decide) (sv (d := .fptr [.int _ _]) rfl) (nle rfl)) <|
  ils_cons rfl (iop_cmpx rfl rfl (lb rfl) (svI rfl) (svI rfl) rfl hx1) <|
  ils_cons rfl (mvB rfl rfl rfl rfl) <|
  ils_guard rfl rfl (.one rfl) rfl (by decide) (fun hb => (faR 0 rfl rfl rfl Try.underlying39 rfl ti3 (lb rfl) rfl rfl)) <|
  ils_guard rfl rfl (.one rfl) rfl (by decide) (fun hb => (iop_load_rs (d := .int _ _) rfl rfl (lb rfl) Try.underlying3 ag3 ti3 (by decide) (svcR rfl hb) rfl (nle rfl) rfl)) <|
  ils_guard rfl rfl (.one rfl) rfl (by decide) (fun hb => (iop_fieldAddr_fptr (cs' := [.int _ _]) rfl rfl (lb rfl) Try.underlying39 rfl ti3 (by decide) (sv (d := .fptr q6) rfl) rfl)) <|
  ils_guard rfl rfl (.one rfl) rfl (by decide) (fun hb => (iop_load_fs rfl rfl (lb rfl) Try.underlying3 ag3 ti3 (by decide) (svc (d := .fptr [.int _ _]) rfl hb) (nle rfl))) <|
  ils_guard rfl rfl (.one rfl) rfl (by decide) (fun hb => (iop_cmpx rfl rfl (lb rfl) (svcI rfl hb) (svcI rfl hb) rfl hx2)) <|
  ils_guard rfl rfl (.one rfl) rfl (by decide) (fun hb => (iop_move rfl rfl (lb rfl) (svcB rfl hb))) <|
  ils_guard rfl rfl (.two rfl) rfl (by decide) (fun hb => (faR 1 rfl rfl rfl Try.underlying39 rfl ti3 (lb rfl) rfl rfl)) <|
  ils_guard rfl rfl (.two rfl) rfl (by decide) (fun hb => (iop_load_rs (d := .int _ _) rfl rfl (lb rfl) Try.underlying3 ag3 ti3 (by decide) (svcR rfl hb) rfl (nle rfl) rfl)) <|
  ils_guard rfl rfl (.two rfl) rfl (by decide) (fun hb => (iop_fieldAddr_fptr (cs' := [.int _ _]) rfl rfl (lb rfl) Try.underlying39 rfl ti3 (by decide) (sv (d := .fptr q6) rfl) rfl)) <|
  ils_guard rfl rfl (.two rfl) rfl (by decide) (fun hb => (iop_load_fs rfl rfl (lb rfl) Try.underlying3 ag3 ti3 (by decide) (svc (d := .fptr [.int _ _]) rfl hb) (nle rfl))) <|
  ils_guard rfl rfl (.two rfl) rfl (by decide) (fun hb => (iop_cmpx rfl rfl (lb rfl) (svcI rfl hb) (svcI rfl hb) rfl hx3)) <|
  ils_guard rfl rfl (.one rfl) rfl (by decide) (fun hb => (iop_and2x rfl rfl (lb rfl) hb (svcB rfl hb) rfl rfl hx4)) <|
  ils_cons rfl (iop_orx rfl rfl (lb rfl) (svB rfl) rfl rfl hx5) <|
  ils_cons rfl (asB rfl rfl rfl rfl) <|
  ils_end ?_)
 refine iwp_ret ?_
 obtain rfl := Option.some.inj h
 refine ⟨.inr rfl, (.cons (sv rfl) .nil)⟩

theorem p_slices_IndexFunc_sbuf_Piece_sbuf_Piece_place_1 (a0 : (List T_sbuf_Piece)) (a1 : T_sbuf_Piece) (r : Int) (h : slices_IndexFunc_sbuf_Piece_sbuf_Piece_place_1 a0 a1 = some r) : PureAt Try.prog 44 [.slice false (a0.map E_sbuf_Piece.d), .fn 45 [.fptr (v1 a1)]] (.int .i64 r) := by
 refine pure_of_iwp (rs := [.int .i64 r]) Try.func44 rfl Try.ntmps44 (nle rfl) rfl fun O hO => ?_
 show IWP _ _ _ _ ⟨[(0, .slice false (a0.map E_sbuf_Piece.d)), (1, .fn 45 [.fptr (v1 a1)])], []⟩ _
 unfold slices_IndexFunc_sbuf_Piece_sbuf_Piece_place_1 at h
 refine iwp_reg (ils_cons rfl (iop_assign rfl rfl (lb rfl) (sv (d := .int _ 0) rfl)) <|
  ils_end ?_)
 refine iwp_seq ?_
 refine iwp_reg (ils_cons rfl (mvL rfl rfl rfl rfl) <|
  ils_cons rfl (iop_lenT E_sbuf_Piece (l := a0) rfl rfl (lb rfl) Try.underlying25 (svL rfl)) <|
  ils_cons rfl (iop_move rfl rfl (lb rfl) (sv (d := .int _ 0) rfl)) <|
  ils_end ?_)
 refine iwp_block ?_
 refine iwp_loopP (α := Nat × Int) (fun z => ⟨[(0, .slice false (a0.map E_sbuf_Piece.d)), (1, .fn 45 [.fptr (v1 a1)]), (7, .int .i64 (a0.length : Int)), (8, .int .i64 z.2)], []⟩) (fun z => slices_IndexFunc_sbuf_Piece_sbuf_Piece_place_1_L0 a0 a1 z.1 z.2 = some r) (fun z => z.1) (fuel, 0) (fun i => i) ⟨(.sames rfl rfl), .nil, nd_of [] rfl (by decide), fun _ _ => rfl⟩ ?_ ?_
 ·exact h
 ·
  rintro ⟨n0, v7⟩ h
  cases n0 with
  | zero => exact absurd h (by unfold slices_IndexFunc_sbuf_Piece_sbuf_Piece_place_1_L0; exact nofun)
  | succ n0 =>
   unfold slices_IndexFunc_sbuf_Piece_sbuf_Piece_place_1_L0 at h
   obtain ⟨x14, hx14, h⟩ := bnd_e h
   refine iwp_reg (ils_cons rfl (iop_cmpx rfl rfl (lb rfl) (svI rfl) (svI rfl) rfl hx14) <|
    ils_end ?_)
   refine iwp_seq ?_
   refine iwp_cond (b := _) rfl (fun hc15 => ?_) (fun hc15 => ?_)
   ·
    replace h := bif_t h hc15
    refine iwp_skip ?_
    refine thenQ_n ?_
    refine iwp_seq ?_
    refine iwp_block ?_
    refine iwp_reg (ils_cons rfl (mvI rfl rfl rfl rfl) <|
     ils_cons rfl (asI rfl rfl rfl rfl) <|
     ils_end ?_)
    obtain ⟨x16, hx16, h⟩ := bno_e h
    obtain ⟨x17, hx17, h⟩ := bno_e h
    refine iwp_reg (ils_cons rfl (iop_move rfl rfl (lb rfl) (sv (d := .fn 45 [.fptr q6]) rfl)) <|
     ils_cons rfl (mvL rfl rfl rfl rfl) <|
     ils_cons rfl (mvI rfl rfl rfl rfl) <|
     ils_cons rfl (iop_idxT E_sbuf_Piece (cs := q6) rfl rfl (lb rfl) Try.underlying25 ti39 (svL rfl) (svI rfl) hx16 rfl rfl) <|
     ils_cons rfl (iop_load_fa (cs := q6) rfl rfl (lb rfl) Try.underlying39 ag39 ti39 (by decide) (sv (d := .fptr q6) rfl) (nle rfl) rfl) <|
     ils_cons rfl (iop_callv (r := .bool _) rfl rfl (lb rfl) cl45 (sv (d := .fn 45 [.fptr q6]) rfl) (.cons (svA q6 rfl) .nil) rfl (p_sbuf_State_place_1 _ _ _ hx17)) <|
     ils_end ?_)
    refine iwp_cond (b := _) rfl (fun hc18 => ?_) (fun hc18 => ?_)
    ·
     replace h := bif_t h hc18
     refine iwp_reg (ils_cons rfl (mvI rfl rfl rfl rfl) <|
      ils_cons rfl (asI rfl rfl rfl rfl) <|
      ils_end ?_)
     refine iwp_ret ?_
     refine blockQ_r ?_
     refine thenQ_r ?_
     refine thenQ_r ?_
     refine blockQ_r ?_
     refine thenQ_r ?_
     obtain rfl := Option.some.inj h
     refine ⟨.inr rfl, (.cons (sv rfl) .nil)⟩
    ·
     replace h := bif_f h hc18
     refine iwp_skip ?_
     refine blockQ_n ?_
     refine thenQ_n ?_
     obtain ⟨x19, hx19, h⟩ := bnd_e h
     refine iwp_region (ils_cons rfl (iop_intx rfl rfl (lb rfl) (svI rfl) (sv (d := .int _ 1) rfl) rfl hx19) <|
      ils_cons rfl (mvI rfl rfl rfl rfl) <|
      ils_nil ?_)
     refine thenQ_n ⟨(n0, x19), (fun i => i), ⟨(.sames rfl rfl), .nil, nd_of [] rfl (by decide), fun _ _ => rfl⟩, ?_, ?_⟩
     exact h
     exact Nat.lt_succ_self _
   ·
    replace h := bif_f h hc15
    refine iwp_exit ?_
    refine thenQ_e ?_
    refine thenQ_e ?_
    refine blockQ_e ?_
    refine thenQ_n ?_
    refine iwp_reg (ils_cons rfl (iop_assign rfl rfl (lb rfl) (sv (d := .int _ (-1)) rfl)) <|
     ils_end ?_)
    refine iwp_ret ?_
    obtain rfl := Option.some.inj h
    refine ⟨.inr rfl, (.cons (sv rfl) .nil)⟩

theorem p_sbuf_State_place (a0 : T_sbuf_State) (a1 : T_sbuf_Piece) (r : Int) (h : sbuf_State_place a0 a1 = some r) : PureAt Try.prog 27 [.agg (v0 a0), .agg (v1 a1)] (.int .i64 r) := by
 refine pure_of_iwp (rs := [.int .i64 r]) Try.func27 rfl Try.ntmps27 (nle rfl) rfl fun O hO => ?_
 show IWP _ _ _ _ ⟨[(0, .agg (v0 a0)), (1, .agg (v1 a1))], []⟩ _
 unfold sbuf_State_place at h
 refine iwp_reg (ils_cons rfl (iop_box' (cs := q3) 0 rfl rfl (lb rfl) rfl (svA q3 rfl) rfl rfl) <|
  ils_cons rfl (iop_box' (cs := q6) 1 rfl rfl (lb rfl) rfl (svA q6 rfl) rfl rfl) <|
  ils_cons rfl (iop_assign rfl rfl (lb rfl) (sv (d := .int _ 0) rfl)) <|
  ils_end ?_)
 obtain ⟨x1, hx1, h⟩ := bno_e h
 obtain ⟨x2, hx2, h⟩ := bno_e h
 obtain ⟨x3, hx3, h⟩ := bno_e h
 obtain ⟨x4, hx4, h⟩ := bnd_e h
 obtain ⟨x5, hx5, h⟩ := bno_e h
 obtain ⟨x6, hx6, h⟩ := bno_e h
 refine iwp_drw rfl [⟨[2], [], [(5, .ref 0 3)], []⟩,
  ⟨[5], [0], [(6, .slice false (a0.Pieces.map E_sbuf_Piece.d))], []⟩,
  ⟨[2], [], [(7, .ref 0 3)], []⟩,
  ⟨[7], [0], [(8, .slice false (a0.Pieces.map E_sbuf_Piece.d))], []⟩,
  ⟨[8], [], [(9, .int .i64 (a0.Pieces.length : Int))], []⟩,
  ⟨[2], [], [(10, .ref 0 3)], []⟩,
  ⟨[10], [0], [(11, .slice false (a0.Pieces.map E_sbuf_Piece.d))], []⟩,
  ⟨[11], [], [(12, .int .i64 (a0.Pieces.length : Int))], []⟩,
  ⟨[6, 9, 12], [], [(13, .slice true (x1.map E_sbuf_Piece.d))], []⟩,
  ⟨[2], [0], [(14, .agg (v0 a0))], []⟩,
  ⟨[14], [], [(15, .int .i64 x2)], []⟩,
  ⟨[2], [0], [(16, .agg (v0 a0))], []⟩,
  ⟨[16], [], [(17, .int .i64 x3)], []⟩,
  ⟨[17], [], [(18, .int .i64 x4)], []⟩,
  ⟨[15, 18], [], [(19, .agg (w14 x2 x4 0 false))], []⟩,
  ⟨[19], [2], [(20, .osl 2 E_sbuf_Piece.sz (([(⟨x2, x4, 0, false⟩ : T_sbuf_Piece)] : (List T_sbuf_Piece)).length))], [(2, .blk 39 (D.flat ((([(⟨x2, x4, 0, false⟩ : T_sbuf_Piece)] : (List T_sbuf_Piece))).map E_sbuf_Piece.d)))]⟩,
  ⟨[13, 20], [2, 3], [(21, .osl 3 E_sbuf_Piece.sz x5.length)], [(3, .blk 39 (D.flat (x5.map E_sbuf_Piece.d)))]⟩,
  ⟨[3], [], [(22, .fn 45 [.ref 1 0])], []⟩,
  ⟨[21, 22], [1, 3], [(23, .int .i64 x6)], []⟩,
  ⟨[23], [], [(4, .int .i64 x6)], []⟩] rfl ?_ (by kernel_rfl) ?_
 ·refine .cons (lop rfl rfl fun S hA => (iop_fieldAddr_ref rfl rfl (lb rfl) Try.underlying29 rfl ti25 (by decide) (svaR hA rfl rfl) (off' := 3) rfl)) ?_
  refine .cons (lop rfl rfl fun S hA => (iop_load_rs (d := .slice _ _) rfl rfl (lb rfl) Try.underlying25 ag25 ti25 (by decide) (svaR hA rfl rfl) (agi hA rfl rfl) (nle rfl) rfl)) ?_
  refine .cons (lop rfl rfl fun S hA => (iop_fieldAddr_ref rfl rfl (lb rfl) Try.underlying29 rfl ti25 (by decide) (svaR hA rfl rfl) (off' := 3) rfl)) ?_
  refine .cons (lop rfl rfl fun S hA => (iop_load_rs (d := .slice _ _) rfl rfl (lb rfl) Try.underlying25 ag25 ti25 (by decide) (svaR hA rfl rfl) (agi hA rfl rfl) (nle rfl) rfl)) ?_
  refine .cons (lop rfl rfl fun S hA => (iop_lenT E_sbuf_Piece (l := a0.Pieces) rfl rfl (lb rfl) Try.underlying25 (svaL hA rfl rfl))) ?_
  refine .cons (lop rfl rfl fun S hA => (iop_fieldAddr_ref rfl rfl (lb rfl) Try.underlying29 rfl ti25 (by decide) (svaR hA rfl rfl) (off' := 3) rfl)) ?_
  refine .cons (lop rfl rfl fun S hA => (iop_load_rs (d := .slice _ _) rfl rfl (lb rfl) Try.underlying25 ag25 ti25 (by decide) (svaR hA rfl rfl) (agi hA rfl rfl) (nle rfl) rfl)) ?_
  refine .cons (lop rfl rfl fun S hA => (iop_lenT E_sbuf_Piece (l := a0.Pieces) rfl rfl (lb rfl) Try.underlying25 (svaL hA rfl rfl))) ?_
  refine .cons (lop rfl rfl fun S hA => (iop_cut3T E_sbuf_Piece rfl rfl (lb rfl) Try.underlying25 ti39 (svaL hA rfl rfl) (svaI hA rfl rfl) (svaI hA rfl rfl) hx1)) ?_
  refine .cons (lop rfl rfl fun S hA => (iop_load_ra (cs := q3) rfl rfl (lb rfl) Try.underlying29 ag29 ti29 (by decide) (svaR hA rfl rfl) (agi hA rfl rfl) (nle rfl) rfl)) ?_
  refine .cons (lop rfl rfl fun S hA => (iop_call (r := .int _ _) rfl rfl (lb rfl) cl20 (.cons (svaA q3 hA rfl rfl) .nil) rfl (p_sbuf_State_end _ _ hx2))) ?_
  refine .cons (lop rfl rfl fun S hA => (iop_load_ra (cs := q3) rfl rfl (lb rfl) Try.underlying29 ag29 ti29 (by decide) (svaR hA rfl rfl) (agi hA rfl rfl) (nle rfl) rfl)) ?_
  refine .cons (lop rfl rfl fun S hA => (iop_call (r := .int _ _) rfl rfl (lb rfl) cl20 (.cons (svaA q3 hA rfl rfl) .nil) rfl (p_sbuf_State_end _ _ hx3))) ?_
  refine .cons (lop rfl rfl fun S hA => (iop_intx rfl rfl (lb rfl) (svaI hA rfl rfl) (sv (d := .int _ 1) rfl) rfl hx4)) ?_
  refine .cons (lop rfl rfl fun S hA => (iop_build_struct (cs := q6) rfl rfl (lb rfl) Try.underlying39 ti39 pl39 rfl (.cons (svaI hA rfl rfl) (.cons (svaI hA rfl rfl) .nil)) rfl)) ?_
  refine .cons (lop rfl rfl fun S hA => (iop_bsO E_sbuf_Piece.toEnc0 ([(⟨x2, x4, 0, false⟩ : T_sbuf_Piece)] : (List T_sbuf_Piece)) 2 rfl rfl (lb rfl) Try.underlying25 ti39 (agi hA rfl rfl) (.cons (svaA q6 hA rfl rfl) .nil) rfl rfl (by decide))) ?_
  refine .cons (lop rfl rfl fun S hA => (iop_appF E_sbuf_Piece.toEnc0 3 rfl rfl (lb rfl) Try.underlying25 ti39 rfl (svaL hA rfl rfl) (agi hA rfl rfl) (src_O E_sbuf_Piece.toEnc0 (agr hA rfl rfl) rfl (agi hA rfl rfl)) (by simp) hx5)) ?_
  refine .cons (lop rfl rfl fun S hA => (iop_makeFunc rfl rfl (lb rfl) (.cons (svaR hA rfl rfl) .nil))) ?_
  refine .cons (lop rfl rfl fun S hA => (iop_callp (r := .int .i64 x6) rfl rfl (lb rfl) cl44 (.cons (sv (d := .osl _ _ _) (agr hA rfl rfl)) (.cons (sv (d := .fn 45 [.ref _ _]) (agr hA rfl rfl)) .nil)) (.cons (FDT E_sbuf_Piece (agi hA rfl rfl) rfl) (.cons (.fn (.cons (.ref (agi hA rfl rfl) rfl (fdl_refl _) rfl) .nil)) .nil)) rfl rfl (p_slices_IndexFunc_sbuf_Piece_sbuf_Piece_place_1 _ _ _ hx6))) ?_
  refine .cons (lop rfl rfl fun S hA => (iop_assign rfl rfl (lb rfl) (svaI hA rfl rfl))) ?_
  exact .nil
 refine iwp_ret ?_
 obtain rfl := Option.some.inj h
 refine ⟨.inr rfl, (.cons (sv rfl) .nil)⟩

set_option maxRecDepth 8000 in
set_option maxHeartbeats 4000000 in
theorem p_slices_Insert_sbuf_Piece_sbuf_Piece_h (a0 : Int) (a1 : List T_sbuf_Piece) (a2 : List T_sbuf_Piece) (r : List T_sbuf_Piece) (h : slices_Insert_sbuf_Piece_sbuf_Piece_h a0 a1 a2 = some r) : FnH Try.prog 26 [.osl 1000 E_sbuf_Piece.sz a2.length, .int .i64 a0, .slice false (a1.map E_sbuf_Piece.d)] [(1000, .blk 39 (D.flat (a2.map E_sbuf_Piece.d)))] (.osl 0 E_sbuf_Piece.sz r.length) [(0, .blk 39 (D.flat (r.map E_sbuf_Piece.d)))] := by
 replace h : insS 32 a2 a0 a1 = some r := h
 obtain ⟨i, rfl, hi, hm, hb, hr⟩ := insS_e h
 have hX := E_sbuf_Piece.toEnc0.flat_len a2
 have hV := E_sbuf_Piece.toEnc0.flat_len a1
 have hp := E_sbuf_Piece.pos
 have hvt : ∀ k, a1.length ≤ k → (D.flat (a1.map E_sbuf_Piece.d)).take (min a1.length k * E_sbuf_Piece.sz) = D.flat (a1.map E_sbuf_Piece.d) := fun k hk => by
  rw [Nat.min_eq_left hk, ← hV, List.take_length]
 refine fnh_of_iwp (rs := [.osl 0 E_sbuf_Piece.sz r.length]) Try.func26 rfl Try.ntmps26 (nle rfl) fun O hO => ?_
 show IWP _ _ _ _ ⟨[(0, .osl 1000 E_sbuf_Piece.sz a2.length), (1, .int .i64 (i : Int)), (2, .slice false (a1.map E_sbuf_Piece.d))], [(1000, .blk 39 (D.flat (a2.map E_sbuf_Piece.d)))]⟩ _
 refine iwp_open 0 (id := 1000) (sz := E_sbuf_Piece.sz) (n := a2.length) rfl rfl hX (fun hn => ?_) (fun c hc hcm => ?_)
 ·
  obtain rfl := List.length_eq_zero_iff.1 hn
  obtain rfl : i = 0 := by simpa using hi
  refine iwp_reg (ils_cons rfl (iop_assign rfl rfl (lb rfl) (sv (d := .nils) rfl)) <| ils_end ?_)
  refine iwp_reg (ils_cons rfl (iop_move rfl rfl (lb rfl) (sv (d := .nils) rfl)) <| ils_cons rfl (mvI rfl rfl rfl rfl) <|
   ils_cons rfl (iop_cutT E_sbuf_Piece (s := []) (r := []) (b := false) rfl rfl (lb rfl) Try.underlying25 ti39 (svn rfl) ⟨_, (svI rfl)⟩ rfl rfl) <| ils_end ?_)
  refine iwp_reg (ils_cons rfl (mvL rfl rfl rfl rfl) <| ils_cons rfl (iop_lenT E_sbuf_Piece (l := a1) rfl rfl (lb rfl) Try.underlying25 (svL rfl)) <|
   ils_cons rfl (asI rfl rfl rfl rfl) <| ils_end ?_)
  refine iwp_seq ?_
  refine iwp_reg (ils_cons rfl (mvI rfl rfl rfl rfl) <| ils_cons rfl (iop_cmpx rfl rfl (lb rfl) (svI rfl) (sv (d := .int _ 0) rfl) rfl rfl) <| ils_end ?_)
  refine iwp_cond (b := _) rfl (fun h1 => ?_) (fun h1 => ?_)
  ·have h2 := of_decide_eq_true h1
   obtain rfl := List.length_eq_zero_iff.1 (show a1.length = 0 by omega)
   have hr' : [] = r := by simpa using hr
   subst hr'
   refine iwp_reg (ils_cons rfl (iop_move rfl rfl (lb rfl) (sv (d := .nils) rfl)) <| ils_cons rfl (iop_assign rfl rfl (lb rfl) (sv (d := .nils) rfl)) <| ils_end ?_)
   refine iwp_ret ?_
   refine thenQ_r ?_
   refine ⟨.inr rfl, (fun i => if i = 0 then 50 else i), ⟨.nil, (.cons (.nilb rfl) .nil), nd_of [50] rfl (by decide), (fun i hi => by first | rfl | (show (if _ then _ else _) = _; (repeat' split) <;> omega))⟩, (.cons (svno rfl) .nil), rfl⟩
  ·refine iwp_skip ?_
   refine thenQ_n ?_
   refine iwp_reg (ils_cons rfl (iop_move rfl rfl (lb rfl) (sv (d := .nils) rfl)) <| ils_cons rfl (iop_lenT E_sbuf_Piece (l := []) (b := false) rfl rfl (lb rfl) Try.underlying25 (svn rfl)) <|
    ils_cons rfl (asI rfl rfl rfl rfl) <| ils_end ?_)
   refine iwp_seq ?_
   refine iwp_reg (ils_cons rfl (mvI rfl rfl rfl rfl) <| ils_cons rfl (mvI rfl rfl rfl rfl) <| ils_cons rfl (iop_cmpx rfl rfl (lb rfl) (svI rfl) (svI rfl) rfl rfl) <| ils_end ?_)
   refine iwp_cond_t rfl rfl ?_
   have ha : app 32 ([] : List T_sbuf_Piece) a1 = some r := by
    rw [← hr]; unfold maxLen at hm; simpa using app_ok hm hb
   refine iwp_reg (ils_cons rfl (iop_move rfl rfl (lb rfl) (sv (d := .nils) rfl)) <| ils_cons rfl (mvL rfl rfl rfl rfl) <|
    ils_cons rfl (iop_appOn E_sbuf_Piece.toEnc0 0 rfl rfl (lb rfl) Try.underlying25 ti39 rfl rfl rfl (src_T E_sbuf_Piece (ys := a1) (svL rfl)) ha) <|
    ils_cons rfl (iop_assign rfl rfl (lb rfl) (sv (d := .osl _ _ _) rfl)) <| ils_end ?_)
   refine iwp_ret ?_
   refine thenQ_r ?_
   refine ⟨.inr rfl, (fun i => i), ⟨.nil, (.cons (EntW.lst rfl) .nil), nd_of [0] rfl (by decide), fun _ _ => rfl⟩, (.cons (sv rfl) .nil), rfl⟩
 ·refine iwp_reg (ils_cons rfl (iop_assign rfl rfl (lb rfl) (sv (d := .nils) rfl)) <| ils_end ?_)
  refine iwp_reg (ils_cons rfl (iop_move rfl rfl (lb rfl) (sv (d := .rsl _ _ _ _ _) rfl)) <| ils_cons rfl (mvI rfl rfl rfl rfl) <|
   ils_cons rfl (iop_slice_rsl (sz := E_sbuf_Piece.sz) (l := (i : Int)) (h := (a2.length : Int)) (m := (c : Int)) rfl rfl (lb rfl) Try.underlying25 ti39 (sv (d := .rsl _ _ _ _ _) rfl) ⟨_, (svI rfl)⟩ rfl rfl (by simp) (by omega) (by omega) (by omega) (by omega) rfl) <| ils_end ?_)
  refine iwp_reg (ils_cons rfl (mvL rfl rfl rfl rfl) <| ils_cons rfl (iop_lenT E_sbuf_Piece (l := a1) rfl rfl (lb rfl) Try.underlying25 (svL rfl)) <|
   ils_cons rfl (asI rfl rfl rfl rfl) <| ils_end ?_)
  refine iwp_seq ?_
  refine iwp_reg (ils_cons rfl (mvI rfl rfl rfl rfl) <| ils_cons rfl (iop_cmpx rfl rfl (lb rfl) (svI rfl) (sv (d := .int _ 0) rfl) rfl rfl) <| ils_end ?_)
  refine iwp_cond (b := _) rfl (fun h1 => ?_) (fun h1 => ?_)
  ·have h2 := of_decide_eq_true h1
   obtain rfl := List.length_eq_zero_iff.1 (show a1.length = 0 by omega)
   have hr' : a2 = r := by simpa using hr
   subst hr'
   refine iwp_reg (ils_cons rfl (iop_move rfl rfl (lb rfl) (sv (d := .rsl _ _ _ _ _) rfl)) <| ils_cons rfl (iop_assign rfl rfl (lb rfl) (sv (d := .rsl _ _ _ _ _) rfl)) <| ils_end ?_)
   refine iwp_close 6 (id := 1000) rfl rfl hX ?_
   refine iwp_ret ?_
   refine thenQ_r ?_
   refine ⟨.inr rfl, (fun i => if i = 0 then 1000 else i), ⟨.nil, (.cons (EntW.lst rfl) .nil), nd_of [1000] rfl (by decide), (fun i hi => by first | rfl | (show (if _ then _ else _) = _; (repeat' split) <;> omega))⟩, (.cons (sv rfl) .nil), rfl⟩
  ·have h2 := of_decide_eq_false h1
   have hm0 : 0 < a1.length := by omega
   refine iwp_skip ?_
   refine thenQ_n ?_
   refine iwp_reg (ils_cons rfl (iop_move rfl rfl (lb rfl) (sv (d := .rsl _ _ _ _ _) rfl)) <| ils_cons rfl (iop_len_rsl rfl rfl (lb rfl) Try.underlying25 (sv (d := .rsl _ _ _ _ _) rfl) rfl) <|
    ils_cons rfl (asI rfl rfl rfl rfl) <| ils_end ?_)
   refine iwp_seq ?_
   refine iwp_reg (ils_cons rfl (mvI rfl rfl rfl rfl) <| ils_cons rfl (mvI rfl rfl rfl rfl) <| ils_cons rfl (iop_cmpx rfl rfl (lb rfl) (svI rfl) (svI rfl) rfl rfl) <| ils_end ?_)
   refine iwp_cond (b := _) rfl (fun h3 => ?_) (fun h3 => ?_)
   ·have h4 := of_decide_eq_true h3
    obtain rfl : i = a2.length := by omega
    have hr' : a2 ++ a1 = r := by simpa using hr
    have ha : app 32 a2 a1 = some r := by
     rw [← hr']; unfold maxLen at hm; exact app_ok hm hb
    refine iwp_reg (ils_cons rfl (iop_move rfl rfl (lb rfl) (sv (d := .rsl _ _ _ _ _) rfl)) <| ils_cons rfl (mvL rfl rfl rfl rfl) <|
     ils_close 23 (id := 1000) rfl rfl hX <|
     ils_cons rfl (iop_appO E_sbuf_Piece.toEnc0 0 rfl rfl (lb rfl) Try.underlying25 ti39 rfl rfl rfl rfl rfl (src_T E_sbuf_Piece (ys := a1) (svL rfl)) ha) <|
     ils_cons rfl (iop_assign rfl rfl (lb rfl) (sv (d := .osl _ _ _) rfl)) <| ils_end ?_)
    refine iwp_ret ?_
    refine thenQ_r ?_
    refine ⟨.inr rfl, (fun i => i), ⟨.nil, (.cons (EntW.lst rfl) .nil), nd_of [0] rfl (by decide), fun _ _ => rfl⟩, (.cons (sv rfl) .nil), rfl⟩
   ·have h4 := of_decide_eq_false h3
    have hin : i < a2.length := by omega
    have hXt : (D.flat ((a2.take i).map E_sbuf_Piece.d)).length = i * E_sbuf_Piece.sz := by rw [E_sbuf_Piece.toEnc0.flat_len, List.length_take, Nat.min_eq_left hi]
    have hXd : (D.flat ((a2.drop i).map E_sbuf_Piece.d)).length = (a2.length - i) * E_sbuf_Piece.sz := by rw [E_sbuf_Piece.toEnc0.flat_len, List.length_drop]
    have hXs : D.flat (a2.map E_sbuf_Piece.d) = D.flat ((a2.take i).map E_sbuf_Piece.d) ++ D.flat ((a2.drop i).map E_sbuf_Piece.d) := by
     rw [E_sbuf_Piece.toEnc0.flat_append, List.take_append_drop]
    have hR : D.flat (r.map E_sbuf_Piece.d) = D.flat ((a2.take i).map E_sbuf_Piece.d) ++ D.flat (a1.map E_sbuf_Piece.d) ++ D.flat ((a2.drop i).map E_sbuf_Piece.d) := by
     rw [← hr, E_sbuf_Piece.toEnc0.flat_append, E_sbuf_Piece.toEnc0.flat_append]
    have hRl : (D.flat (r.map E_sbuf_Piece.d)).length = r.length * E_sbuf_Piece.sz := E_sbuf_Piece.toEnc0.flat_len r
    have hrl : r.length = a2.length + a1.length := by rw [← hr]; simp; omega
    refine iwp_skip ?_
    refine thenQ_n ?_
    refine iwp_seq ?_
    refine iwp_reg (ils_cons rfl (mvI rfl rfl rfl rfl) <| ils_cons rfl (mvI rfl rfl rfl rfl) <| ils_cons rfl (iop_intx rfl rfl (lb rfl) (svI rfl) (svI rfl) rfl (wN hm)) <|
     ils_cons rfl (iop_move rfl rfl (lb rfl) (sv (d := .rsl _ _ _ _ _) rfl)) <| ils_cons rfl (iop_cap_rsl rfl rfl (lb rfl) Try.underlying25 (sv (d := .rsl _ _ _ _ _) rfl) rfl) <| ils_cons rfl (iop_cmpx rfl rfl (lb rfl) (svI rfl) (svI rfl) rfl rfl) <| ils_end ?_)
    refine iwp_cond (b := _) rfl (fun h5 => ?_) (fun h5 => ?_)
    ·have h6 := of_decide_eq_true h5
     have hcn : c < a2.length + a1.length := by omega
     obtain ⟨K, hK⟩ : ∃ K, K = a2.length + a1.length - i := ⟨_, rfl⟩
     have hKm : i + K = a2.length + a1.length := by omega
     have w1 : IntKind.wrap .i64 (((a2.length + a1.length : Nat) : Int) - (i : Int)) = (K : Int) := by rw [hK]; exact wS (by omega) hm
     have hD0 : i * E_sbuf_Piece.sz ≤ (D.flat (a2.map E_sbuf_Piece.d) ++ List.replicate ((c - a2.length) * E_sbuf_Piece.sz) D.dead).length := by
      rw [List.length_append, hX]; exact Nat.le_trans (Nat.mul_le_mul_right _ hi) (Nat.le_add_right _ _)
     have hT0 : (D.flat (a2.map E_sbuf_Piece.d) ++ List.replicate ((c - a2.length) * E_sbuf_Piece.sz) D.dead).take (i * E_sbuf_Piece.sz) = D.flat ((a2.take i).map E_sbuf_Piece.d) := by
      rw [List.take_append_of_le_length (by rw [hX]; exact Nat.mul_le_mul_right _ hi), E_sbuf_Piece.toEnc0.flat_take]
     refine iwp_reg (ils_cons rfl (iop_move rfl rfl (lb rfl) (sv (d := .rsl _ _ _ _ _) rfl)) <| ils_cons rfl (mvI rfl rfl rfl rfl) <|
      ils_cons rfl (iop_slice_rsl (sz := E_sbuf_Piece.sz) (l := 0) (h := (i : Int)) (m := (c : Int)) (d := .rsl 1000 E_sbuf_Piece.sz 0 i c) rfl rfl (lb rfl) Try.underlying25 ti39 (sv (d := .rsl _ _ _ _ _) rfl) rfl ⟨_, (svI rfl)⟩ rfl (by simp) (by omega) (by omega) (by omega) (by omega) (by simp only [Int.toNat_natCast, Int.toNat_zero, Nat.zero_mul, Nat.zero_add, Nat.sub_zero])) <|
      ils_cons rfl (mvI rfl rfl rfl rfl) <| ils_cons rfl (mvI rfl rfl rfl rfl) <| ils_cons rfl (iop_intx rfl rfl (lb rfl) (svI rfl) (svI rfl) rfl (wN hm)) <|
      ils_cons rfl (mvI rfl rfl rfl rfl) <| ils_cons rfl (iop_intx rfl rfl (lb rfl) (svI rfl) (svI rfl) rfl w1) <|
      ils_cons rfl (iop_app_made (sz := E_sbuf_Piece.sz) (k := K) 0 rfl rfl (lb rfl) Try.underlying25 Try.underlying3 ti39 rfl (sv (d := .rsl _ _ _ _ _) rfl) rfl rfl (svI rfl) rfl (by omega) hD0 (by omega) (by rw [hKm]; exact hm) (by rw [hKm]; exact hb)) <|
      ils_cons rfl (iop_assign rfl rfl (lb rfl) (sv (d := .osl _ _ _) rfl)) <| ils_end ?_)
     have hY0 : ((D.flat (a2.map E_sbuf_Piece.d) ++ List.replicate ((c - a2.length) * E_sbuf_Piece.sz) D.dead).take (i * E_sbuf_Piece.sz) ++ List.replicate (K * E_sbuf_Piece.sz) D.dead).length = (i + K) * E_sbuf_Piece.sz := by
      rw [List.length_append, List.length_take, List.length_replicate, Nat.min_eq_left hD0, Nat.add_mul]
     refine iwp_open 9 (id := 0) rfl rfl hY0 (fun h0 => absurd h0 (by omega)) (fun c1 hc1 hcm1 => ?_)
     rw [hT0]
     rw [hT0] at hY0
     have w2 : IntKind.wrap .i64 ((i : Int) + (a1.length : Int)) = ((i + a1.length : Nat) : Int) := wN (by omega)
     have hKs : (K - a1.length) * E_sbuf_Piece.sz = (a2.length - i) * E_sbuf_Piece.sz := by congr 1; omega
     obtain ⟨J, hJ⟩ : ∃ J, J = List.replicate ((c1 - (i + K)) * E_sbuf_Piece.sz) D.dead := ⟨_, rfl⟩
     obtain ⟨Z, hZ⟩ : ∃ Z, Z = List.replicate (K * E_sbuf_Piece.sz) D.dead := ⟨_, rfl⟩
     have hZl : Z.length = K * E_sbuf_Piece.sz := by rw [hZ, List.length_replicate]
     have hKsp : K * E_sbuf_Piece.sz = a1.length * E_sbuf_Piece.sz + (a2.length - i) * E_sbuf_Piece.sz := by rw [← Nat.add_mul]; congr 1; omega
     rw [← hJ, ← hZ]
     have hYl : (D.flat ((a2.take i).map E_sbuf_Piece.d) ++ Z ++ J).length = i * E_sbuf_Piece.sz + K * E_sbuf_Piece.sz + J.length := by simp only [List.length_append, hXt, hZl]
     refine iwp_reg (ils_cons rfl (iop_move rfl rfl (lb rfl) (sv (d := .rsl _ _ _ _ _) rfl)) <| ils_cons rfl (mvI rfl rfl rfl rfl) <|
      ils_cons rfl (iop_slice_rsl (sz := E_sbuf_Piece.sz) (l := (i : Int)) (h := ((i + K : Nat) : Int)) (m := (c1 : Int)) (d := .rsl 0 E_sbuf_Piece.sz (i * E_sbuf_Piece.sz) K (c1 - i)) rfl rfl (lb rfl) Try.underlying25 ti39 (sv (d := .rsl _ _ _ _ _) rfl) ⟨_, (svI rfl)⟩ rfl rfl (by simp) (by omega) (by omega) (by omega) (by omega) (by simp only [Int.toNat_natCast, Nat.zero_add]; congr 1; omega)) <|
      ils_cons rfl (mvL rfl rfl rfl rfl) <|
      ils_cons rfl (iop_copy_rsl (sz := E_sbuf_Piece.sz) (ds' := splice (D.flat ((a2.take i).map E_sbuf_Piece.d) ++ Z ++ J) (i * E_sbuf_Piece.sz) (D.flat (a1.map E_sbuf_Piece.d))) rfl rfl (lb rfl) Try.underlying25 ti39 (sv (d := .rsl _ _ _ _ _) rfl) rfl (src_T E_sbuf_Piece (ys := a1) (svL rfl)) hV (all_take' (E_sbuf_Piece.toEnc0.one a1) _) (by rw [hYl]; omega) rfl (by rw [hvt _ (by omega)])) <| ils_end ?_)
     have e1 : splice (D.flat ((a2.take i).map E_sbuf_Piece.d) ++ Z ++ J) (i * E_sbuf_Piece.sz) (D.flat (a1.map E_sbuf_Piece.d)) = D.flat ((a2.take i).map E_sbuf_Piece.d) ++ D.flat (a1.map E_sbuf_Piece.d) ++ (Z.drop (a1.length * E_sbuf_Piece.sz) ++ J) := by
      have e2 : D.flat ((a2.take i).map E_sbuf_Piece.d) ++ Z ++ J = D.flat ((a2.take i).map E_sbuf_Piece.d) ++ Z.take (a1.length * E_sbuf_Piece.sz) ++ (Z.drop (a1.length * E_sbuf_Piece.sz) ++ J) := by
       rw [List.append_assoc (D.flat ((a2.take i).map E_sbuf_Piece.d)), List.append_assoc (D.flat ((a2.take i).map E_sbuf_Piece.d)), ← List.append_assoc (Z.take _), List.take_append_drop]
      rw [e2]; exact splice_at hXt (by rw [List.length_take, hZl, hV]; omega)
     have hres := ins_new (J := J) (Y := D.flat ((a2.drop i).map E_sbuf_Piece.d)) hXt hV (show Z.length = a1.length * E_sbuf_Piece.sz + (D.flat ((a2.drop i).map E_sbuf_Piece.d)).length by rw [hZl, hXd, hKsp])
     have hlen1 : (splice (D.flat ((a2.take i).map E_sbuf_Piece.d) ++ Z ++ J) (i * E_sbuf_Piece.sz) (D.flat (a1.map E_sbuf_Piece.d))).length = i * E_sbuf_Piece.sz + K * E_sbuf_Piece.sz + J.length := by
      rw [e1]; simp only [List.length_append, hXt, hV, List.length_drop, hZl]; omega
     obtain ⟨Y1, hY1⟩ : ∃ Y1, Y1 = splice (D.flat ((a2.take i).map E_sbuf_Piece.d) ++ Z ++ J) (i * E_sbuf_Piece.sz) (D.flat (a1.map E_sbuf_Piece.d)) := ⟨_, rfl⟩
     rw [← hY1] at hlen1 hres ⊢
     obtain ⟨es, hes⟩ : ∃ es, es = ((D.flat (a2.map E_sbuf_Piece.d) ++ List.replicate ((c - a2.length) * E_sbuf_Piece.sz) D.dead).drop (i * E_sbuf_Piece.sz)).take ((a2.length - i) * E_sbuf_Piece.sz) := ⟨_, rfl⟩
     have hes' : es = D.flat ((a2.drop i).map E_sbuf_Piece.d) := by
      rw [hes, List.drop_append_of_le_length (by rw [hX]; exact Nat.mul_le_mul_right _ hi), E_sbuf_Piece.toEnc0.flat_drop, List.take_append_of_le_length (by rw [hXd]; exact Nat.le_refl _), ← hXd, List.take_length]
     have hfit2 : i * E_sbuf_Piece.sz + (a2.length - i) * E_sbuf_Piece.sz ≤ (D.flat (a2.map E_sbuf_Piece.d) ++ List.replicate ((c - a2.length) * E_sbuf_Piece.sz) D.dead).length := by
      rw [List.length_append, hX, ← Nat.add_mul, show i + (a2.length - i) = a2.length by omega]; exact Nat.le_add_right _ _
     have him : (i + a1.length) * E_sbuf_Piece.sz = i * E_sbuf_Piece.sz + a1.length * E_sbuf_Piece.sz := Nat.add_mul _ _ _
     refine iwp_drw rfl [⟨[9], [], [(46, .rsl 0 E_sbuf_Piece.sz 0 (i + K) c1)], []⟩, ⟨[1], [], [(47, .int .i64 (i : Int))], []⟩, ⟨[7], [], [(48, .int .i64 (a1.length : Int))], []⟩, ⟨[47, 48], [], [(49, .int .i64 ((i + a1.length : Nat) : Int))], []⟩,
      ⟨[46, 49], [], [(50, .rsl 0 E_sbuf_Piece.sz ((i + a1.length) * E_sbuf_Piece.sz) (K - a1.length) (c1 - (i + a1.length)))], []⟩, ⟨[0], [], [(51, .rsl 1000 E_sbuf_Piece.sz 0 a2.length c)], []⟩, ⟨[1], [], [(52, .int .i64 (i : Int))], []⟩, ⟨[51, 52], [], [(53, .rsl 1000 E_sbuf_Piece.sz (i * E_sbuf_Piece.sz) (a2.length - i) (c - i))], []⟩,
      ⟨[50, 53], [0, 1000], [(54, .int .i64 ((min (a2.length - i) (K - a1.length) : Nat) : Int))], [(0, .blk 39 (splice Y1 ((i + a1.length) * E_sbuf_Piece.sz) es))]⟩] rfl ?_ (by kernel_rfl) ?_
     ·refine .cons (lop rfl rfl fun S hA => (iop_move rfl rfl (lb rfl) (sv (d := .rsl _ _ _ _ _) (agr hA rfl rfl)))) ?_
      refine .cons (lop rfl rfl fun S hA => (iop_move rfl rfl (lb rfl) (svaI hA rfl rfl))) ?_
      refine .cons (lop rfl rfl fun S hA => (iop_move rfl rfl (lb rfl) (svaI hA rfl rfl))) ?_
      refine .cons (lop rfl rfl fun S hA => (iop_intx rfl rfl (lb rfl) (svaI hA rfl rfl) (svaI hA rfl rfl) rfl w2)) ?_
      refine .cons (lop rfl rfl fun S hA => (iop_slice_rsl (sz := E_sbuf_Piece.sz) (l := ((i + a1.length : Nat) : Int)) (h := ((i + K : Nat) : Int)) (m := (c1 : Int)) (d := .rsl 0 E_sbuf_Piece.sz ((i + a1.length) * E_sbuf_Piece.sz) (K - a1.length) (c1 - (i + a1.length))) rfl rfl (lb rfl) Try.underlying25 ti39 (sv (d := .rsl _ _ _ _ _) (agr hA rfl rfl)) ⟨_, (svaI hA rfl rfl)⟩ rfl rfl (by simp) (by omega) (by omega) (by omega) (by omega) (by simp only [Int.toNat_natCast, Nat.zero_add]; congr 1; omega))) ?_
      refine .cons (lop rfl rfl fun S hA => (iop_move rfl rfl (lb rfl) (sv (d := .rsl _ _ _ _ _) (agr hA rfl rfl)))) ?_
      refine .cons (lop rfl rfl fun S hA => (iop_move rfl rfl (lb rfl) (svaI hA rfl rfl))) ?_
      refine .cons (lop rfl rfl fun S hA => (iop_slice_rsl (sz := E_sbuf_Piece.sz) (l := (i : Int)) (h := (a2.length : Int)) (m := (c : Int)) (d := .rsl 1000 E_sbuf_Piece.sz (i * E_sbuf_Piece.sz) (a2.length - i) (c - i)) rfl rfl (lb rfl) Try.underlying25 ti39 (sv (d := .rsl _ _ _ _ _) (agr hA rfl rfl)) ⟨_, (svaI hA rfl rfl)⟩ rfl rfl (by simp) (by omega) (by omega) (by omega) (by omega) (by simp only [Int.toNat_natCast, Nat.zero_add]))) ?_
      refine .cons (lop rfl rfl fun S hA => (iop_copy_rsl (sz := E_sbuf_Piece.sz) (es := es) (ds' := splice Y1 ((i + a1.length) * E_sbuf_Piece.sz) es) rfl rfl (lb rfl) Try.underlying25 ti39 (sv (d := .rsl _ _ _ _ _) (agr hA rfl rfl)) (agi hA rfl rfl) (hes ▸ src_rsl (sv (d := .rsl _ _ _ _ _) (agr hA rfl rfl)) (agi hA rfl rfl) hfit2) (by rw [hes', hXd]) (all_take' (by rw [hes']; exact E_sbuf_Piece.toEnc0.one _) _) (by rw [hlen1, him, hKs]; omega) rfl (by rw [show min (a2.length - i) (K - a1.length) = a2.length - i by omega, hes', ← hXd, List.take_length]))) ?_
      exact .nil
     ·rw [hes', him, hres, ← hR]
      refine iwp_reg (ils_cons rfl (iop_move rfl rfl (lb rfl) (sv (d := .rsl _ _ _ _ _) rfl)) <| ils_cons rfl (iop_assign rfl rfl (lb rfl) (sv (d := .rsl _ _ _ _ _) rfl)) <| ils_end ?_)
      refine iwp_close 6 (id := 0) rfl rfl (show (D.flat (r.map E_sbuf_Piece.d)).length = (i + K) * E_sbuf_Piece.sz by rw [hRl, hrl, hKm]) ?_
      refine iwp_ret ?_
      refine thenQ_r ?_
      refine ⟨.inr rfl, (fun i => i), ⟨.nil, (.cons (EntW.lst rfl) .nil), nd_of [0] rfl (by decide), fun _ _ => rfl⟩, (.cons (sv (congrArg (D.osl _ _) (show i + K = r.length by omega))) .nil), rfl⟩
    ·have h6 := of_decide_eq_false h5
     have hcn : a2.length + a1.length ≤ c := by omega
     have w2 : IntKind.wrap .i64 ((i : Int) + (a1.length : Int)) = ((i + a1.length : Nat) : Int) := wN (by omega)
     have him : (i + a1.length) * E_sbuf_Piece.sz = i * E_sbuf_Piece.sz + a1.length * E_sbuf_Piece.sz := Nat.add_mul _ _ _
     obtain ⟨J, hJ⟩ : ∃ J, J = List.replicate ((c - a2.length) * E_sbuf_Piece.sz) D.dead := ⟨_, rfl⟩
     have hJl : J.length = (c - a2.length) * E_sbuf_Piece.sz := by rw [hJ, List.length_replicate]
     have hJm : a1.length * E_sbuf_Piece.sz ≤ J.length := by rw [hJl]; exact Nat.mul_le_mul_right _ (by omega)
     have hni : a2.length * E_sbuf_Piece.sz = i * E_sbuf_Piece.sz + (a2.length - i) * E_sbuf_Piece.sz := by rw [← Nat.add_mul]; congr 1; omega
     have hnm : (a2.length + a1.length - i) * E_sbuf_Piece.sz = (a2.length - i) * E_sbuf_Piece.sz + a1.length * E_sbuf_Piece.sz := by rw [← Nat.add_mul]; congr 1; omega
     have hnm2 : (a2.length + a1.length - (i + a1.length)) * E_sbuf_Piece.sz = (a2.length - i) * E_sbuf_Piece.sz := by congr 1; omega
     rw [← hJ]
     have hD0 : (D.flat (a2.map E_sbuf_Piece.d) ++ J).length = i * E_sbuf_Piece.sz + (a2.length - i) * E_sbuf_Piece.sz + J.length := by rw [List.length_append, hX, hni]
     refine iwp_skip ?_
     refine thenQ_n ?_
     refine iwp_reg (ils_cons rfl (iop_move rfl rfl (lb rfl) (sv (d := .rsl _ _ _ _ _) rfl)) <| ils_cons rfl (mvI rfl rfl rfl rfl) <| ils_cons rfl (mvI rfl rfl rfl rfl) <|
      ils_cons rfl (iop_intx rfl rfl (lb rfl) (svI rfl) (svI rfl) rfl (wN hm)) <|
      ils_cons rfl (iop_slice_rsl (sz := E_sbuf_Piece.sz) (l := 0) (h := ((a2.length + a1.length : Nat) : Int)) (m := (c : Int)) (d := .rsl 1000 E_sbuf_Piece.sz 0 (a2.length + a1.length) c) rfl rfl (lb rfl) Try.underlying25 ti39 (sv (d := .rsl _ _ _ _ _) rfl) rfl ⟨_, (svI rfl)⟩ rfl (by simp) (by omega) (by omega) (by omega) (by omega) (by simp only [Int.toNat_natCast, Int.toNat_zero, Nat.zero_mul, Nat.zero_add, Nat.sub_zero])) <|
      ils_cons rfl (iop_assign rfl rfl (lb rfl) (sv (d := .rsl _ _ _ _ _) rfl)) <| ils_end ?_)
     refine iwp_seq ?_
     refine iwp_reg (ils_cons rfl (mvL rfl rfl rfl rfl) <| ils_cons rfl (iop_move rfl rfl (lb rfl) (sv (d := .rsl _ _ _ _ _) rfl)) <| ils_cons rfl (mvI rfl rfl rfl rfl) <| ils_cons rfl (mvI rfl rfl rfl rfl) <|
      ils_cons rfl (iop_intx rfl rfl (lb rfl) (svI rfl) (svI rfl) rfl w2) <|
      ils_cons rfl (iop_slice_rsl (sz := E_sbuf_Piece.sz) (l := ((i + a1.length : Nat) : Int)) (h := ((a2.length + a1.length : Nat) : Int)) (m := (c : Int)) rfl rfl (lb rfl) Try.underlying25 ti39 (sv (d := .rsl _ _ _ _ _) rfl) ⟨_, (svI rfl)⟩ rfl rfl (by simp) (by omega) (by omega) (by omega) (by omega) rfl) <|
      ils_cons rfl (iop_overlaps rfl rfl (lb rfl) ex42 Try.underlying25 ti39 (svL rfl) (by intro e; have e9 := congrArg List.length e; rw [List.length_map, List.length_nil] at e9; omega) (sv (d := .rsl _ _ _ _ _) rfl) rfl (by intro e; have := congrArg List.length e; rw [hD0] at this; simp only [List.length_nil] at this; have h9 : 0 < (a2.length - i) * E_sbuf_Piece.sz := Nat.mul_pos (Nat.sub_pos_of_lt hin) hp; clear hnm hnm2 him; omega)) <|
      ils_cons rfl (iop_not rfl rfl (lb rfl) (svB rfl)) <| ils_end ?_)
     refine iwp_cond_t rfl rfl ?_
     obtain ⟨es, hes⟩ : ∃ es, es = ((D.flat (a2.map E_sbuf_Piece.d) ++ J).drop (i * E_sbuf_Piece.sz)).take ((a2.length + a1.length - i) * E_sbuf_Piece.sz) := ⟨_, rfl⟩
     have hes' : es.take ((a2.length - i) * E_sbuf_Piece.sz) = D.flat ((a2.drop i).map E_sbuf_Piece.d) := by
      rw [hes, List.take_take, Nat.min_eq_left (by omega), List.drop_append_of_le_length (by omega), E_sbuf_Piece.toEnc0.flat_drop, List.take_append_of_le_length (by rw [hXd]; exact Nat.le_refl _), ← hXd, List.take_length]
     have hesl : es.length = (a2.length + a1.length - i) * E_sbuf_Piece.sz := by
      rw [hes, List.length_take, List.length_drop, hD0]; omega
     have hres := ins_place (J := J) (Y := D.flat ((a2.drop i).map E_sbuf_Piece.d)) hXt hV hJm
     rw [← hXs] at hres
     refine iwp_drw rfl [⟨[0], [], [(69, .rsl 1000 E_sbuf_Piece.sz 0 (a2.length + a1.length) c)], []⟩, ⟨[1], [], [(70, .int .i64 (i : Int))], []⟩, ⟨[7], [], [(71, .int .i64 (a1.length : Int))], []⟩, ⟨[70, 71], [], [(72, .int .i64 ((i + a1.length : Nat) : Int))], []⟩,
      ⟨[69, 72], [], [(73, .rsl 1000 E_sbuf_Piece.sz ((i + a1.length) * E_sbuf_Piece.sz) (a2.length + a1.length - (i + a1.length)) (c - (i + a1.length)))], []⟩, ⟨[0], [], [(74, .rsl 1000 E_sbuf_Piece.sz 0 (a2.length + a1.length) c)], []⟩, ⟨[1], [], [(75, .int .i64 (i : Int))], []⟩, ⟨[74, 75], [], [(76, .rsl 1000 E_sbuf_Piece.sz (i * E_sbuf_Piece.sz) (a2.length + a1.length - i) (c - i))], []⟩,
      ⟨[73, 76], [1000], [(77, .int .i64 ((min (a2.length + a1.length - i) (a2.length + a1.length - (i + a1.length)) : Nat) : Int))], [(1000, .blk 39 (splice (D.flat (a2.map E_sbuf_Piece.d) ++ J) (i * E_sbuf_Piece.sz + a1.length * E_sbuf_Piece.sz) (D.flat ((a2.drop i).map E_sbuf_Piece.d))))]⟩] rfl ?_ (by kernel_rfl) ?_
     ·refine .cons (lop rfl rfl fun S hA => (iop_move rfl rfl (lb rfl) (sv (d := .rsl _ _ _ _ _) (agr hA rfl rfl)))) ?_
      refine .cons (lop rfl rfl fun S hA => (iop_move rfl rfl (lb rfl) (svaI hA rfl rfl))) ?_
      refine .cons (lop rfl rfl fun S hA => (iop_move rfl rfl (lb rfl) (svaI hA rfl rfl))) ?_
      refine .cons (lop rfl rfl fun S hA => (iop_intx rfl rfl (lb rfl) (svaI hA rfl rfl) (svaI hA rfl rfl) rfl w2)) ?_
      refine .cons (lop rfl rfl fun S hA => (iop_slice_rsl (sz := E_sbuf_Piece.sz) (l := ((i + a1.length : Nat) : Int)) (h := ((a2.length + a1.length : Nat) : Int)) (m := (c : Int)) (d := .rsl 1000 E_sbuf_Piece.sz ((i + a1.length) * E_sbuf_Piece.sz) (a2.length + a1.length - (i + a1.length)) (c - (i + a1.length))) rfl rfl (lb rfl) Try.underlying25 ti39 (sv (d := .rsl _ _ _ _ _) (agr hA rfl rfl)) ⟨_, (svaI hA rfl rfl)⟩ rfl rfl (by simp) (by omega) (by omega) (by omega) (by omega) (by simp only [Int.toNat_natCast, Nat.zero_add]))) ?_
      refine .cons (lop rfl rfl fun S hA => (iop_move rfl rfl (lb rfl) (sv (d := .rsl _ _ _ _ _) (agr hA rfl rfl)))) ?_
      refine .cons (lop rfl rfl fun S hA => (iop_move rfl rfl (lb rfl) (svaI hA rfl rfl))) ?_
      refine .cons (lop rfl rfl fun S hA => (iop_slice_rsl (sz := E_sbuf_Piece.sz) (l := (i : Int)) (h := ((a2.length + a1.length : Nat) : Int)) (m := (c : Int)) (d := .rsl 1000 E_sbuf_Piece.sz (i * E_sbuf_Piece.sz) (a2.length + a1.length - i) (c - i)) rfl rfl (lb rfl) Try.underlying25 ti39 (sv (d := .rsl _ _ _ _ _) (agr hA rfl rfl)) ⟨_, (svaI hA rfl rfl)⟩ rfl rfl (by simp) (by omega) (by omega) (by omega) (by omega) (by simp only [Int.toNat_natCast, Nat.zero_add]))) ?_
      refine .cons (lop rfl rfl fun S hA => (iop_copy_rsl (sz := E_sbuf_Piece.sz) (es := es) (ds' := splice (D.flat (a2.map E_sbuf_Piece.d) ++ J) (i * E_sbuf_Piece.sz + a1.length * E_sbuf_Piece.sz) (D.flat ((a2.drop i).map E_sbuf_Piece.d))) rfl rfl (lb rfl) Try.underlying25 ti39 (sv (d := .rsl _ _ _ _ _) (agr hA rfl rfl)) (agi hA rfl rfl) (hes ▸ src_rsl (sv (d := .rsl _ _ _ _ _) (agr hA rfl rfl)) (agi hA rfl rfl) (by rw [hD0]; omega)) hesl (by rw [show min (a2.length + a1.length - i) (a2.length + a1.length - (i + a1.length)) = a2.length - i by omega, hes']; exact E_sbuf_Piece.toEnc0.one _) (by rw [hD0, him, hnm2]; omega) rfl (by rw [show min (a2.length + a1.length - i) (a2.length + a1.length - (i + a1.length)) = a2.length - i by omega, hes', him]))) ?_
      exact .nil
     ·refine iwp_reg (ils_cons rfl (iop_move rfl rfl (lb rfl) (sv (d := .rsl _ _ _ _ _) rfl)) <| ils_cons rfl (mvI rfl rfl rfl rfl) <|
       ils_cons rfl (iop_slice_rsl (sz := E_sbuf_Piece.sz) (l := (i : Int)) (h := ((a2.length + a1.length : Nat) : Int)) (m := (c : Int)) (d := .rsl 1000 E_sbuf_Piece.sz (i * E_sbuf_Piece.sz) (a2.length + a1.length - i) (c - i)) rfl rfl (lb rfl) Try.underlying25 ti39 (sv (d := .rsl _ _ _ _ _) rfl) ⟨_, (svI rfl)⟩ rfl rfl (by simp) (by omega) (by omega) (by omega) (by omega) (by simp only [Int.toNat_natCast, Nat.zero_add])) <|
       ils_cons rfl (mvL rfl rfl rfl rfl) <|
       ils_cons rfl (iop_copy_rsl (sz := E_sbuf_Piece.sz) (ds' := D.flat (r.map E_sbuf_Piece.d) ++ J.drop (a1.length * E_sbuf_Piece.sz)) rfl rfl (lb rfl) Try.underlying25 ti39 (sv (d := .rsl _ _ _ _ _) rfl) rfl (src_T E_sbuf_Piece (ys := a1) (svL rfl)) hV (all_take' (E_sbuf_Piece.toEnc0.one a1) _) (by rw [length_splice', hD0]; omega; rw [hD0, hXd]; omega) rfl (by rw [hvt _ (by omega), hres, hR])) <| ils_end ?_)
      refine iwp_reg (ils_cons rfl (iop_move rfl rfl (lb rfl) (sv (d := .rsl _ _ _ _ _) rfl)) <| ils_cons rfl (iop_assign rfl rfl (lb rfl) (sv (d := .rsl _ _ _ _ _) rfl)) <| ils_end ?_)
      refine iwp_close 6 (id := 1000) rfl rfl (show (D.flat (r.map E_sbuf_Piece.d)).length = (a2.length + a1.length) * E_sbuf_Piece.sz by rw [hRl, hrl]) ?_
      refine iwp_ret ?_
      refine thenQ_r ?_
      refine ⟨.inr rfl, (fun i => if i = 0 then 1000 else i), ⟨.nil, (.cons (EntW.lst rfl) .nil), nd_of [1000] rfl (by decide), (fun i hi => by first | rfl | (show (if _ then _ else _) = _; (repeat' split) <;> omega))⟩, (.cons (sv (congrArg (D.osl _ _) hrl.symm)) .nil), rfl⟩

theorem p_sbuf_Pick (a0 : T_sbuf_State) (a1 : Int) (a2 : Int) (a3 : Int) (r : (T_sbuf_State × T_sbuf_Piece × (List UInt8) × Bool)) (h : sbuf_Pick a0 a1 a2 a3 = some r) : PureAt Try.prog 11 [.agg (v0 a0), .int .i64 a1, .int .i64 a2, .int .i64 a3] (retD [.agg (v0 r.1), .agg (v1 r.2.1), .str r.2.2.1, .bool r.2.2.2]) := by
 refine pure_of_iwpF (rs := [.agg (v0 r.1), .agg (v1 r.2.1), .str r.2.2.1, .bool r.2.2.2]) Try.func11 rfl Try.ntmps11 (nle rfl) rfl fun O hO => ?_
 show IWP _ _ _ _ ⟨[(0, .agg (v0 a0)), (1, .int .i64 a1), (2, .int .i64 a2), (3, .int .i64 a3)], []⟩ _
 unfold sbuf_Pick at h
 refine iwp_reg (ils_cons rfl (iop_box' (cs := q3) 0 rfl rfl (lb rfl) rfl (svA q3 rfl) rfl rfl) <|
  ils_cons rfl (iop_allocS (cs := q5) (cs' := (w11 0 [] 0 ([] : List T_sbuf_Piece) ([] : List T_ivals_Ival) false false false false)) 1 rfl rfl (lb rfl) rfl ti29 rfl rfl (.k (.k (.k (.cons (.nils _) (.cons (.nils _) (.all _))))))) <|
  ils_cons rfl (iop_allocS (cs := q6) (cs' := (w14 0 0 0 false)) 2 rfl rfl (lb rfl) rfl ti39 rfl rfl (.all _)) <|
  ils_cons rfl (iop_assign rfl rfl (lb rfl) (sv (d := .str []) rfl)) <|
  ils_cons rfl (iop_assign rfl rfl (lb rfl) (sv (d := .bool false) rfl)) <|
  ils_end ?_)
 obtain ⟨x1, hx1, h⟩ := bno_e h
 refine iwp_reg (ils_cons rfl (lra q3 la29 rfl rfl rfl rfl rfl (nle rfl) rfl) <|
  ils_cons rfl (iop_callh2 (r' := .agg (w12 x1.1 x1.2.1 x1.2.2.1 (.osl 3 E_sbuf_Piece.sz x1.2.2.2.1.length) x1.2.2.2.2.1 x1.2.2.2.2.2.1 x1.2.2.2.2.2.2.1 x1.2.2.2.2.2.2.2.1 x1.2.2.2.2.2.2.2.2)) (H1' := [(3, .blk 39 (D.flat (x1.2.2.2.1.map E_sbuf_Piece.d)))]) 3 [] rfl rfl (lb rfl) cl19 (.cons (svA q3 rfl) .nil) rfl rfl ⟨rfl, rfl, by decide, rfl, List.forall_mem_nil _⟩ (p_sbuf_State_own_h _ _ hx1) rfl rfl (List.forall_mem_cons.2 ⟨⟨rfl, (handLr E_sbuf_Piece)⟩, List.forall_mem_nil _⟩) (by simp only [List.map_cons, List.map_nil, Ent.ren, renL_flat, renL_ref]; rfl)) <|
  ils_cons rfl (iop_allocS (cs := q5) (cs' := (w11 0 [] 0 ([] : List T_sbuf_Piece) ([] : List T_ivals_Ival) false false false false)) 4 rfl rfl (lb rfl) rfl ti29 rfl rfl (.k (.k (.k (.cons (.nils _) (.cons (.nils _) (.all _))))))) <|
  ils_cons rfl (stA q4 q4 ti29 rfl rfl rfl rfl rfl rfl rfl rfl (nle rfl) rfl) <|
  ils_end ?_)
 refine iwp_seq ?_
 obtain ⟨x2, hx2, h⟩ := bno_e h
 obtain ⟨x3, hx3, h⟩ := bnd_e h
 obtain ⟨x4, hx4, h⟩ := bnd_e h
 obtain ⟨x5, hx5, h⟩ := bno_e h
 obtain ⟨x6, hx6, h⟩ := bnd_e h
 obtain ⟨x7, hx7, h⟩ := bnd_e h
 refine iwp_reg (ils_cons rfl (mvI rfl rfl rfl rfl) <|
  ils_cons rfl (iop_call (r := .bool _) rfl rfl (lb rfl) cl21 (.cons (svI rfl) .nil) rfl (p_sbuf_path _ _ hx2)) <|
  ils_cons rfl (iop_not rfl rfl (lb rfl) (svB rfl)) <|
  ils_cons rfl (mvB rfl rfl rfl rfl) <|
  ils_guard rfl rfl (.one rfl) rfl (by decide) (fun hb => (mvI rfl rfl rfl rfl)) <|
  ils_guard rfl rfl (.one rfl) rfl (by decide) (fun hb => (iop_cmpx rfl rfl (lb rfl) (svcI rfl hb) (sv (d := .int _ 1) rfl) rfl hx3)) <|
  ils_cons rfl (iop_orx rfl rfl (lb rfl) (svB rfl) rfl rfl hx4) <|
  ils_cons rfl (mvB rfl rfl rfl rfl) <|
  ils_guard rfl rfl (.one rfl) rfl (by decide) (fun hb => (lra q3 la29 rfl rfl rfl rfl rfl (nle rfl) rfl)) <|
  ils_guard rfl rfl (.one rfl) rfl (by decide) (fun hb => (iop_call (r := .int _ _) rfl rfl (lb rfl) cl13 (.cons (svcA (v0 a0) rfl hb) .nil) rfl (p_sbuf_Check _ _ (gd_t hx5 hb)))) <|
  ils_guard rfl rfl (.one rfl) rfl (by decide) (fun hb => (iop_cmpx rfl rfl (lb rfl) (svcI rfl hb) (sv (d := .int _ 0) rfl) rfl hx6)) <|
  ils_cons rfl (iop_orx rfl rfl (lb rfl) (svB rfl) rfl rfl hx7) <|
  ils_end ?_)
 refine iwp_cond (b := _) rfl (fun hc8 => ?_) (fun hc8 => ?_)
 ·
  replace h := bif_t h hc8
  refine iwp_reg (ils_cons rfl (lra q4 la29 rfl rfl rfl rfl rfl (nle rfl) rfl) <|
   ils_cons rfl (iop_build_struct (cs := q6) rfl rfl (lb rfl) Try.underlying39 ti39 pl39 rfl .nil rfl) <|
   ils_cons rfl (stA q4 q4 ti29 rfl rfl rfl rfl rfl rfl rfl rfl (nle rfl) rfl) <|
   ils_cons rfl (stA q6 q6 ti39 rfl rfl rfl rfl rfl rfl rfl rfl (nle rfl) rfl) <|
   ils_cons rfl (iop_assign rfl rfl (lb rfl) (sv (d := .str []) rfl)) <|
   ils_cons rfl (iop_assign rfl rfl (lb rfl) (sv (d := .bool false) rfl)) <|
   ils_end ?_)
  refine iwp_ret ?_
  refine thenQ_r ?_
  obtain rfl := Option.some.inj h
  refine ⟨.inr rfl, _, (.cons (rva la29 rfl rfl (nle rfl) rfl) (.cons (rva la39 rfl rfl (nle rfl) rfl) (.cons (sv rfl) (.cons (sv rfl) .nil)))), (.cons (.agg (.k (.k (.k (.cons (FDT E_sbuf_Piece rfl rfl) (.all _)))))) (.all _))⟩
 ·
  replace h := bif_f h hc8
  refine iwp_skip ?_
  refine thenQ_n ?_
  obtain ⟨x9, hx9, h⟩ := bno_e h
  refine iwp_reg (ils_cons rfl (lra q3 la29 rfl rfl rfl rfl rfl (nle rfl) rfl) <|
   ils_cons rfl (mvI rfl rfl rfl rfl) <|
   ils_cons rfl (mvI rfl rfl rfl rfl) <|
   ils_cons rfl (iop_call (r := .tuple q10) rfl rfl (lb rfl) cl22 (.cons (svA q3 rfl) (.cons (svI rfl) (.cons (svI rfl) .nil))) rfl (p_sbuf_State_next _ _ _ _ hx9)) <|
   ils_cons rfl (iop_move rfl rfl (lb rfl) (sv (d := .tuple q10) rfl)) <|
   ils_cons rfl (iop_extract (d := .agg q6) rfl rfl (lb rfl) (sv (d := .tuple q10) rfl) rfl) <|
   ils_cons rfl (iop_extract (d := .bool _) rfl rfl (lb rfl) (sv (d := .tuple q10) rfl) rfl) <|
   ils_cons rfl (iop_allocS (cs := q6) (cs' := (w14 0 0 0 false)) 5 rfl rfl (lb rfl) rfl ti39 rfl rfl (.all _)) <|
   ils_cons rfl (stA q6 q6 ti39 rfl rfl rfl rfl rfl rfl rfl rfl (nle rfl) rfl) <|
   ils_cons rfl (asB rfl rfl rfl rfl) <|
   ils_end ?_)
  refine iwp_seq ?_
  refine iwp_reg (ils_cons rfl (mvB rfl rfl rfl rfl) <|
   ils_cons rfl (iop_not rfl rfl (lb rfl) (svB rfl)) <|
   ils_end ?_)
  refine iwp_cond (b := _) rfl (fun hc10 => ?_) (fun hc10 => ?_)
  ·
   replace h := bif_t h hc10
   refine iwp_reg (ils_cons rfl (lra q4 la29 rfl rfl rfl rfl rfl (nle rfl) rfl) <|
    ils_cons rfl (iop_build_struct (cs := q6) rfl rfl (lb rfl) Try.underlying39 ti39 pl39 rfl .nil rfl) <|
    ils_cons rfl (stA q4 q4 ti29 rfl rfl rfl rfl rfl rfl rfl rfl (nle rfl) rfl) <|
    ils_cons rfl (stA q6 q6 ti39 rfl rfl rfl rfl rfl rfl rfl rfl (nle rfl) rfl) <|
    ils_cons rfl (iop_assign rfl rfl (lb rfl) (sv (d := .str []) rfl)) <|
    ils_cons rfl (iop_assign rfl rfl (lb rfl) (sv (d := .bool false) rfl)) <|
    ils_end ?_)
   refine iwp_ret ?_
   refine thenQ_r ?_
   obtain rfl := Option.some.inj h
   refine ⟨.inr rfl, _, (.cons (rva la29 rfl rfl (nle rfl) rfl) (.cons (rva la39 rfl rfl (nle rfl) rfl) (.cons (sv rfl) (.cons (sv rfl) .nil)))), (.cons (.agg (.k (.k (.k (.cons (FDT E_sbuf_Piece rfl rfl) (.all _)))))) (.all _))⟩
  ·
   replace h := bif_f h hc10
   refine iwp_skip ?_
   refine thenQ_n ?_
   refine iwp_reg (ils_cons rfl (mvI rfl rfl rfl rfl) <|
    ils_cons rfl (faR 2 rfl rfl rfl Try.underlying39 rfl ti3 (lb rfl) rfl rfl) <|
    ils_cons rfl (iop_store (ds' := q6) rfl rfl ti3 (svR rfl) rfl (svI rfl) rfl rfl rfl (nle rfl) rfl) <|
    ils_end ?_)
   obtain ⟨x11, hx11, h⟩ := bnd_e h
   refine iwp_reg (ils_cons rfl (faR 2 rfl rfl rfl Try.underlying29 rfl ti3 (lb rfl) rfl rfl) <|
    ils_cons rfl (iop_load_rs (d := .int _ _) rfl rfl (lb rfl) Try.underlying3 ag3 ti3 (by decide) (svR rfl) rfl (nle rfl) rfl) <|
    ils_cons rfl (faR 1 rfl rfl rfl Try.underlying39 rfl ti3 (lb rfl) rfl rfl) <|
    ils_cons rfl (iop_load_rs (d := .int _ _) rfl rfl (lb rfl) Try.underlying3 ag3 ti3 (by decide) (svR rfl) rfl (nle rfl) rfl) <|
    ils_cons rfl (iop_max2 rfl rfl (lb rfl) (svI rfl) (svI rfl) hx11) <|
    ils_cons rfl (faR 2 rfl rfl rfl Try.underlying29 rfl ti3 (lb rfl) rfl rfl) <|
    ils_cons rfl (iop_store (ds' := q4) rfl rfl ti3 (svR rfl) rfl (svI rfl) rfl rfl rfl (nle rfl) rfl) <|
    ils_end ?_)
   refine iwp_join (α := (List T_ivals_Ival)) (fun z => ⟨[(4, .ref 0 0), (8, .ref 1 0), (9, .ref 2 0), (12, .ref 4 0), (13, .ref 5 0)], [(0, .blk 29 (v0 a0)), (1, .blk 29 (w11 0 [] 0 ([] : List T_sbuf_Piece) ([] : List T_ivals_Ival) false false false false)), (2, .blk 39 (w14 0 0 0 false)), (4, .blk 29 (w12 x1.1 x1.2.1 x11 (.osl 3 E_sbuf_Piece.sz x1.2.2.2.1.length) z x1.2.2.2.2.2.1 x1.2.2.2.2.2.2.1 x1.2.2.2.2.2.2.2.1 x1.2.2.2.2.2.2.2.2)), (5, .blk 39 (w14 x9.1.From x9.1.To a1 x9.1.Fin)), (3, .blk 39 (D.flat (x1.2.2.2.1.map E_sbuf_Piece.d)))]⟩) (fun z => sbuf_Pick_J0 a0 a1 x1 x9 x11 z = some r) ?_ ?_
   ·
    obtain ⟨x35, hx35, h⟩ := bnd_e h
    refine iwp_reg (ils_cons rfl (faR 0 rfl rfl rfl Try.underlying39 rfl ti3 (lb rfl) rfl rfl) <|
     ils_cons rfl (iop_load_rs (d := .int _ _) rfl rfl (lb rfl) Try.underlying3 ag3 ti3 (by decide) (svR rfl) rfl (nle rfl) rfl) <|
     ils_cons rfl (faR 1 rfl rfl rfl Try.underlying39 rfl ti3 (lb rfl) rfl rfl) <|
     ils_cons rfl (iop_load_rs (d := .int _ _) rfl rfl (lb rfl) Try.underlying3 ag3 ti3 (by decide) (svR rfl) rfl (nle rfl) rfl) <|
     ils_cons rfl (iop_cmpx rfl rfl (lb rfl) (svI rfl) (svI rfl) rfl hx35) <|
     ils_end ?_)
    refine iwp_cond (b := _) rfl (fun hc36 => ?_) (fun hc36 => ?_)
    ·
     replace h := bif_t h hc36
     obtain ⟨x37, hx37, h⟩ := bno_e h
     obtain ⟨x38, hx38, h⟩ := bno_e h
     refine iwp_draw rfl [⟨[12], [], [(55, .ref 4 4)], []⟩,
      ⟨[55], [4], [(56, .slice false (x1.2.2.2.2.1.map E_ivals_Ival.d))], []⟩,
      ⟨[13], [5], [(57, .agg (w14 x9.1.From x9.1.To a1 x9.1.Fin))], []⟩,
      ⟨[57], [], [(58, .agg [.int .i64 x37.From, .int .i64 x37.To])], []⟩,
      ⟨[56, 58], [], [(59, .slice false (x38.map E_ivals_Ival.d))], []⟩,
      ⟨[12], [], [(60, .ref 4 4)], []⟩,
      ⟨[59, 60], [4], [], [(4, .blk 29 (w12 x1.1 x1.2.1 x11 (.osl 3 E_sbuf_Piece.sz x1.2.2.2.1.length) x38 x1.2.2.2.2.2.1 x1.2.2.2.2.2.2.1 x1.2.2.2.2.2.2.2.1 x1.2.2.2.2.2.2.2.2))]⟩] rfl ?_ (by kernel_rfl) ?_
     ·refine .cons (lop rfl rfl fun S hA => (iop_fieldAddr_ref rfl rfl (lb rfl) Try.underlying29 rfl ti27 (by decide) (svaR hA rfl rfl) (off' := 4) rfl)) ?_
      refine .cons (lop rfl rfl fun S hA => (iop_load_rs (d := .slice _ _) rfl rfl (lb rfl) Try.underlying27 ag27 ti27 (by decide) (svaR hA rfl rfl) (agi hA rfl rfl) (nle rfl) rfl)) ?_
      refine .cons (lop rfl rfl fun S hA => (iop_load_ra (cs := q6) rfl rfl (lb rfl) Try.underlying39 ag39 ti39 (by decide) (svaR hA rfl rfl) (agi hA rfl rfl) (nle rfl) rfl)) ?_
      refine .cons (lop rfl rfl fun S hA => (iop_call (r := .agg q7) rfl rfl (lb rfl) cl24 (.cons (svaA q6 hA rfl rfl) .nil) rfl (p_sbuf_Piece_ival _ _ hx37))) ?_
      refine .cons (lop rfl rfl fun S hA => (iop_call (r := .slice _ _) rfl rfl (lb rfl) cl23 (.cons (svaL hA rfl rfl) (.cons (svaA q7 hA rfl rfl) .nil)) rfl (p_ivals_Cut _ _ _ hx38))) ?_
      refine .cons (lop rfl rfl fun S hA => (iop_fieldAddr_ref rfl rfl (lb rfl) Try.underlying29 rfl ti27 (by decide) (svaR hA rfl rfl) (off' := 4) rfl)) ?_
      refine .cons (lop rfl rfl fun S hA => (iop_store (ds' := q4) rfl rfl ti27 (svaR hA rfl rfl) (agi hA rfl rfl) (svaL hA rfl rfl) rfl rfl rfl (nle rfl) rfl)) ?_
      exact .nil
     refine thenQ_n ⟨x38, (fun i => i), ⟨(.sames rfl rfl), (.cons (.blk rfl rfl rfl) (.cons (.blk rfl rfl rfl) (.cons (.blk rfl rfl rfl) (.cons (.blk rfl rfl rfl) (.cons (.blk rfl rfl rfl) (.cons (EntW.lst rfl) .nil)))))), nd_of [0, 1, 2, 4, 5, 3] rfl (by decide), fun _ _ => rfl⟩, ?_⟩
     exact h
    ·
     replace h := bif_f h hc36
     refine iwp_skip ?_
     refine thenQ_n ⟨x1.2.2.2.2.1, (fun i => i), ⟨(.sames rfl rfl), (.cons (.blk rfl rfl rfl) (.cons (.blk rfl rfl rfl) (.cons (.blk rfl rfl rfl) (.cons (.blk rfl rfl rfl) (.cons (.blk rfl rfl rfl) (.cons (EntW.lst rfl) .nil)))))), nd_of [0, 1, 2, 4, 5, 3] rfl (by decide), fun _ _ => rfl⟩, ?_⟩
     exact h
   ·
    rintro v16 h
    unfold sbuf_Pick_J0 at h
    refine iwp_join (α := Bool × Bool × Bool) (fun z => ⟨[(4, .ref 0 0), (8, .ref 1 0), (9, .ref 2 0), (12, .ref 4 0), (13, .ref 5 0)], [(0, .blk 29 (v0 a0)), (1, .blk 29 (w11 0 [] 0 ([] : List T_sbuf_Piece) ([] : List T_ivals_Ival) false false false false)), (2, .blk 39 (w14 0 0 0 false)), (4, .blk 29 (w12 x1.1 x1.2.1 x11 (.osl 3 E_sbuf_Piece.sz x1.2.2.2.1.length) v16 x1.2.2.2.2.2.1 z.1 z.2.1 x1.2.2.2.2.2.2.2.2)), (5, .blk 39 (w14 x9.1.From x9.1.To a1 z.2.2)), (3, .blk 39 (D.flat (x1.2.2.2.1.map E_sbuf_Piece.d)))]⟩) (fun z => sbuf_Pick_J1 a0 a1 x1 x9 x11 v16 z.1 z.2.1 z.2.2 = some r) ?_ ?_
    ·
     obtain ⟨x30, hx30, h⟩ := bno_e h
     obtain ⟨x31, hx31, h⟩ := bnd_e h
     obtain ⟨x32, hx32, h⟩ := bno_e h
     obtain ⟨x33, hx33, h⟩ := bnd_e h
     refine iwp_drw rfl [⟨[13], [], [(61, .ref 5 1)], []⟩,
      ⟨[61], [5], [(62, .int .i64 x9.1.To)], []⟩,
      ⟨[4], [0], [(63, .agg (v0 a0))], []⟩,
      ⟨[63], [], [(64, .int .i64 x30)], []⟩,
      ⟨[62, 64], [], [(65, .bool x31)], []⟩,
      ⟨[65], [], [(66, .bool x31)], []⟩,
      ⟨[4, 66], [0], [(67, .cnd (x31 == true) (.agg (v0 a0)))], []⟩,
      ⟨[66, 67], [], [(68, .cnd (x31 == true) (.bool x32))], []⟩,
      ⟨[66, 68], [], [(69, .bool x33)], []⟩,
      ⟨[13], [], [(70, .ref 5 3)], []⟩,
      ⟨[69, 70], [5], [], [(5, .blk 39 (w14 x9.1.From x9.1.To a1 x33))]⟩] rfl ?_ (by kernel_rfl) ?_
     ·refine .cons (lop rfl rfl fun S hA => (iop_fieldAddr_ref rfl rfl (lb rfl) Try.underlying39 rfl ti3 (by decide) (svaR hA rfl rfl) (off' := 1) rfl)) ?_
      refine .cons (lop rfl rfl fun S hA => (iop_load_rs (d := .int _ _) rfl rfl (lb rfl) Try.underlying3 ag3 ti3 (by decide) (svaR hA rfl rfl) (agi hA rfl rfl) (nle rfl) rfl)) ?_
      refine .cons (lop rfl rfl fun S hA => (iop_load_ra (cs := q3) rfl rfl (lb rfl) Try.underlying29 ag29 ti29 (by decide) (svaR hA rfl rfl) (agi hA rfl rfl) (nle rfl) rfl)) ?_
      refine .cons (lop rfl rfl fun S hA => (iop_call (r := .int _ _) rfl rfl (lb rfl) cl20 (.cons (svaA q3 hA rfl rfl) .nil) rfl (p_sbuf_State_end _ _ hx30))) ?_
      refine .cons (lop rfl rfl fun S hA => (iop_cmpx rfl rfl (lb rfl) (svaI hA rfl rfl) (svaI hA rfl rfl) rfl hx31)) ?_
      refine .cons (lop rfl rfl fun S hA => (iop_move rfl rfl (lb rfl) (svaB hA rfl rfl))) ?_
      refine .cons (lopg rfl rfl rfl rfl (by decide) (fun S hA => grd1 hA rfl rfl) (fun S hA hb => (iop_load_ra (cs := q3) rfl rfl (lb rfl) Try.underlying29 ag29 ti29 (by decide) (svaR hA rfl rfl) (agi hA rfl rfl) (nle rfl) rfl))) ?_
      refine .cons (lopg rfl rfl rfl rfl (by decide) (fun S hA => grd1 hA rfl rfl) (fun S hA hb => (iop_call (r := .bool _) rfl rfl (lb rfl) cl25 (.cons (svc (d := .agg (v0 a0)) (agr hA rfl rfl) hb) .nil) rfl (p_sbuf_State_due _ _ (gd_t hx32 hb))))) ?_
      refine .cons (lop rfl rfl fun S hA => (iop_andx rfl rfl (lb rfl) (svaB hA rfl rfl) (agr hA rfl rfl) rfl hx33)) ?_
      refine .cons (lop rfl rfl fun S hA => (iop_fieldAddr_ref rfl rfl (lb rfl) Try.underlying39 rfl ti4 (by decide) (svaR hA rfl rfl) (off' := 3) rfl)) ?_
      refine .cons (lop rfl rfl fun S hA => (iop_store (ds' := q6) rfl rfl ti4 (svaR hA rfl rfl) (agi hA rfl rfl) (svaB hA rfl rfl) rfl rfl rfl (nle rfl) rfl)) ?_
      exact .nil
     refine iwp_reg (ils_cons rfl (faR 3 rfl rfl rfl Try.underlying39 rfl ti4 (lb rfl) rfl rfl) <|
      ils_cons rfl (iop_load_rs (d := .bool _) rfl rfl (lb rfl) Try.underlying4 ag4 ti4 (by decide) (svR rfl) rfl (nle rfl) rfl) <|
      ils_end ?_)
     refine iwp_cond (b := _) rfl (fun hc34 => ?_) (fun hc34 => ?_)
     ·
      replace h := bif_t h hc34
      refine iwp_region (ils_cons rfl (faR 6 rfl rfl rfl Try.underlying29 rfl ti4 (lb rfl) rfl rfl) <|
       ils_cons rfl (iop_store (ds' := q4) rfl rfl ti4 (svR rfl) rfl (sv (d := .bool true) rfl) rfl rfl rfl (nle rfl) rfl) <|
       ils_cons rfl (faR 7 rfl rfl rfl Try.underlying29 rfl ti4 (lb rfl) rfl rfl) <|
       ils_cons rfl (iop_store (ds' := q4) rfl rfl ti4 (svR rfl) rfl (sv (d := .bool false) rfl) rfl rfl rfl (nle rfl) rfl) <|
       ils_nil ?_)
      refine thenQ_n ⟨(true, false, x33), (fun i => i), ⟨(.sames rfl rfl), (.cons (.blk rfl rfl rfl) (.cons (.blk rfl rfl rfl) (.cons (.blk rfl rfl rfl) (.cons (.blk rfl rfl rfl) (.cons (.blk rfl rfl rfl) (.cons (EntW.lst rfl) .nil)))))), nd_of [0, 1, 2, 4, 5, 3] rfl (by decide), fun _ _ => rfl⟩, ?_⟩
      exact h
     ·
      replace h := bif_f h hc34
      refine iwp_skip ?_
      refine thenQ_n ⟨(x1.2.2.2.2.2.2.1, x1.2.2.2.2.2.2.2.1, x33), (fun i => i), ⟨(.sames rfl rfl), (.cons (.blk rfl rfl rfl) (.cons (.blk rfl rfl rfl) (.cons (.blk rfl rfl rfl) (.cons (.blk rfl rfl rfl) (.cons (.blk rfl rfl rfl) (.cons (EntW.lst rfl) .nil)))))), nd_of [0, 1, 2, 4, 5, 3] rfl (by decide), fun _ _ => rfl⟩, ?_⟩
      exact h
    ·
     rintro ⟨v22, v23, v24⟩ h
     unfold sbuf_Pick_J1 at h
     obtain ⟨x25, hx25, h⟩ := bno_e h
     obtain ⟨x26, hx26, h⟩ := bno_e h
     refine iwp_drw rfl [⟨[12], [], [(75, .ref 4 3)], []⟩,
      ⟨[75], [4], [(76, .osl 3 E_sbuf_Piece.sz x1.2.2.2.1.length)], []⟩,
      ⟨[4], [0], [(77, .agg (v0 a0))], []⟩,
      ⟨[13], [5], [(78, .agg (w14 x9.1.From x9.1.To a1 v24))], []⟩,
      ⟨[77, 78], [], [(79, .int .i64 x25)], []⟩,
      ⟨[13], [5], [(80, .agg (w14 x9.1.From x9.1.To a1 v24))], []⟩,
      ⟨[80], [6], [(81, .gsl 6 E_sbuf_Piece.sz ((([(⟨x9.1.From, x9.1.To, a1, v24⟩ : T_sbuf_Piece)] : (List T_sbuf_Piece))).map E_sbuf_Piece.d))], [(6, .tail 39 E_sbuf_Piece.sz (([(⟨x9.1.From, x9.1.To, a1, v24⟩ : T_sbuf_Piece)] : (List T_sbuf_Piece))).length)]⟩,
      ⟨[76, 79, 81], [3, 7], [(82, .osl 7 E_sbuf_Piece.sz x26.length)], [(7, .blk 39 (D.flat (x26.map E_sbuf_Piece.d))), (3, .none)]⟩,
      ⟨[12], [], [(83, .ref 4 3)], []⟩,
      ⟨[82, 83], [4], [], [(4, .blk 29 (w12 x1.1 x1.2.1 x11 (.osl 7 E_sbuf_Piece.sz x26.length) v16 x1.2.2.2.2.2.1 v22 v23 x1.2.2.2.2.2.2.2.2))]⟩] rfl ?_ (by kernel_rfl) ?_
     ·refine .cons (lop rfl rfl fun S hA => (iop_fieldAddr_ref rfl rfl (lb rfl) Try.underlying29 rfl ti25 (by decide) (svaR hA rfl rfl) (off' := 3) rfl)) ?_
      refine .cons (lop rfl rfl fun S hA => (iop_load_rs (d := .osl _ _ _) rfl rfl (lb rfl) Try.underlying25 ag25 ti25 (by decide) (svaR hA rfl rfl) (agi hA rfl rfl) (nle rfl) rfl)) ?_
      refine .cons (lop rfl rfl fun S hA => (iop_load_ra (cs := q3) rfl rfl (lb rfl) Try.underlying29 ag29 ti29 (by decide) (svaR hA rfl rfl) (agi hA rfl rfl) (nle rfl) rfl)) ?_
      refine .cons (lop rfl rfl fun S hA => (iop_load_ra (cs := q6) rfl rfl (lb rfl) Try.underlying39 ag39 ti39 (by decide) (svaR hA rfl rfl) (agi hA rfl rfl) (nle rfl) rfl)) ?_
      refine .cons (lop rfl rfl fun S hA => (iop_call (r := .int _ _) rfl rfl (lb rfl) cl27 (.cons (svaA q3 hA rfl rfl) (.cons (svaA q6 hA rfl rfl) .nil)) rfl (p_sbuf_State_place _ _ _ hx25))) ?_
      refine .cons (lop rfl rfl fun S hA => (iop_load_ra (cs := q6) rfl rfl (lb rfl) Try.underlying39 ag39 ti39 (by decide) (svaR hA rfl rfl) (agi hA rfl rfl) (nle rfl) rfl)) ?_
      refine .cons (lop rfl rfl fun S hA => (iop_bsT E_sbuf_Piece ([(⟨x9.1.From, x9.1.To, a1, v24⟩ : T_sbuf_Piece)] : (List T_sbuf_Piece)) 6 rfl rfl (lb rfl) Try.underlying25 ti39 (agi hA rfl rfl) (.cons (svaA q6 hA rfl rfl) .nil) rfl rfl (by decide))) ?_
      refine .cons (lop rfl rfl fun S hA => (iop_callM (r' := .osl 7 E_sbuf_Piece.sz x26.length) (U := [(7, .blk 39 (D.flat (x26.map E_sbuf_Piece.d))), (3, .none)]) 7 1 [3] rfl rfl (lb rfl) cl26 (.cons (sv (d := .osl _ _ _) (agr hA rfl rfl)) (.cons (svaI hA rfl rfl) (.cons (svg (agr hA rfl rfl)) .nil))) rfl rfl rfl (List.forall_mem_cons.2 ⟨(agi hA rfl rfl), List.forall_mem_nil _⟩) ⟨by decide, rfl, List.forall_mem_cons.2 ⟨⟨rfl, rfl, (handL E_sbuf_Piece (agi hA rfl rfl)), (handLr E_sbuf_Piece)⟩, List.forall_mem_nil _⟩⟩ (p_slices_Insert_sbuf_Piece_sbuf_Piece_h _ _ _ _ hx26) rfl rfl (List.forall_mem_cons.2 ⟨⟨rfl, (handLr E_sbuf_Piece)⟩, List.forall_mem_nil _⟩) (by simp only [List.map_cons, List.map_nil, Ent.ren, renL_flat, renL_ref]; rfl))) ?_
      refine .cons (lop rfl rfl fun S hA => (iop_fieldAddr_ref rfl rfl (lb rfl) Try.underlying29 rfl ti25 (by decide) (svaR hA rfl rfl) (off' := 3) rfl)) ?_
      refine .cons (lop rfl rfl fun S hA => (iop_store (ds' := q4) rfl rfl ti25 (svaR hA rfl rfl) (agi hA rfl rfl) (sv (d := .osl _ _ _) (agr hA rfl rfl)) rfl rfl rfl (nle rfl) rfl)) ?_
      exact .nil
     obtain ⟨x27, hx27, h⟩ := bnd_e h
     obtain ⟨x28, hx28, h⟩ := bnd_e h
     obtain ⟨x29, hx29, h⟩ := bno_e h
     refine iwp_drw rfl [⟨[12], [4], [(84, .agg (w12 x1.1 x1.2.1 x11 (.osl 7 E_sbuf_Piece.sz x26.length) v16 x1.2.2.2.2.2.1 v22 v23 x1.2.2.2.2.2.2.2.2))], []⟩,
      ⟨[13], [5], [(85, .agg (w14 x9.1.From x9.1.To a1 v24))], []⟩,
      ⟨[4], [], [(86, .ref 0 1)], []⟩,
      ⟨[86], [0], [(87, .str a0.Data)], []⟩,
      ⟨[13], [], [(88, .ref 5 0)], []⟩,
      ⟨[88], [5], [(89, .int .i64 x9.1.From)], []⟩,
      ⟨[4], [], [(90, .ref 0 0)], []⟩,
      ⟨[90], [0], [(91, .int .i64 a0.Base)], []⟩,
      ⟨[89, 91], [], [(92, .int .i64 x27)], []⟩,
      ⟨[13], [], [(93, .ref 5 1)], []⟩,
      ⟨[93], [5], [(94, .int .i64 x9.1.To)], []⟩,
      ⟨[4], [], [(95, .ref 0 0)], []⟩,
      ⟨[95], [0], [(96, .int .i64 a0.Base)], []⟩,
      ⟨[94, 96], [], [(97, .int .i64 x28)], []⟩,
      ⟨[87, 92, 97], [], [(98, .str x29)], []⟩,
      ⟨[8, 84], [1], [], [(1, .blk 29 (w12 x1.1 x1.2.1 x11 (.osl 7 E_sbuf_Piece.sz x26.length) v16 x1.2.2.2.2.2.1 v22 v23 x1.2.2.2.2.2.2.2.2))]⟩,
      ⟨[9, 85], [2], [], [(2, .blk 39 (w14 x9.1.From x9.1.To a1 v24))]⟩,
      ⟨[98], [], [(10, .str x29)], []⟩,
      ⟨[], [], [(11, .bool true)], []⟩] rfl ?_ (by kernel_rfl) ?_
     ·refine .cons (lop rfl rfl fun S hA => (iop_load_ra (cs := q4) rfl rfl (lb rfl) Try.underlying29 ag29 ti29 (by decide) (svaR hA rfl rfl) (agi hA rfl rfl) (nle rfl) rfl)) ?_
      refine .cons (lop rfl rfl fun S hA => (iop_load_ra (cs := q6) rfl rfl (lb rfl) Try.underlying39 ag39 ti39 (by decide) (svaR hA rfl rfl) (agi hA rfl rfl) (nle rfl) rfl)) ?_
      refine .cons (lop rfl rfl fun S hA => (iop_fieldAddr_ref rfl rfl (lb rfl) Try.underlying29 rfl ti9 (by decide) (svaR hA rfl rfl) (off' := 1) rfl)) ?_
      refine .cons (lop rfl rfl fun S hA => (iop_load_rs (d := .str _) rfl rfl (lb rfl) Try.underlying9 ag9 ti9 (by decide) (svaR hA rfl rfl) (agi hA rfl rfl) (nle rfl) rfl)) ?_
      refine .cons (lop rfl rfl fun S hA => (iop_fieldAddr_ref rfl rfl (lb rfl) Try.underlying39 rfl ti3 (by decide) (svaR hA rfl rfl) (off' := 0) rfl)) ?_
      refine .cons (lop rfl rfl fun S hA => (iop_load_rs (d := .int _ _) rfl rfl (lb rfl) Try.underlying3 ag3 ti3 (by decide) (svaR hA rfl rfl) (agi hA rfl rfl) (nle rfl) rfl)) ?_
      refine .cons (lop rfl rfl fun S hA => (iop_fieldAddr_ref rfl rfl (lb rfl) Try.underlying29 rfl ti3 (by decide) (svaR hA rfl rfl) (off' := 0) rfl)) ?_
      refine .cons (lop rfl rfl fun S hA => (iop_load_rs (d := .int _ _) rfl rfl (lb rfl) Try.underlying3 ag3 ti3 (by decide) (svaR hA rfl rfl) (agi hA rfl rfl) (nle rfl) rfl)) ?_
      refine .cons (lop rfl rfl fun S hA => (iop_intx rfl rfl (lb rfl) (svaI hA rfl rfl) (svaI hA rfl rfl) rfl hx27)) ?_
      refine .cons (lop rfl rfl fun S hA => (iop_fieldAddr_ref rfl rfl (lb rfl) Try.underlying39 rfl ti3 (by decide) (svaR hA rfl rfl) (off' := 1) rfl)) ?_
      refine .cons (lop rfl rfl fun S hA => (iop_load_rs (d := .int _ _) rfl rfl (lb rfl) Try.underlying3 ag3 ti3 (by decide) (svaR hA rfl rfl) (agi hA rfl rfl) (nle rfl) rfl)) ?_
      refine .cons (lop rfl rfl fun S hA => (iop_fieldAddr_ref rfl rfl (lb rfl) Try.underlying29 rfl ti3 (by decide) (svaR hA rfl rfl) (off' := 0) rfl)) ?_
      refine .cons (lop rfl rfl fun S hA => (iop_load_rs (d := .int _ _) rfl rfl (lb rfl) Try.underlying3 ag3 ti3 (by decide) (svaR hA rfl rfl) (agi hA rfl rfl) (nle rfl) rfl)) ?_
      refine .cons (lop rfl rfl fun S hA => (iop_intx rfl rfl (lb rfl) (svaI hA rfl rfl) (svaI hA rfl rfl) rfl hx28)) ?_
      refine .cons (lop rfl rfl fun S hA => (iop_cutS rfl rfl (lb rfl) Try.underlying9 (sv (d := .str _) (agr hA rfl rfl)) ⟨_, (svaI hA rfl rfl)⟩ ⟨_, (svaI hA rfl rfl)⟩ hx29)) ?_
      refine .cons (lop rfl rfl fun S hA => (iop_store (ds' := q4) rfl rfl ti29 (svaR hA rfl rfl) (agi hA rfl rfl) (svaA q4 hA rfl rfl) rfl rfl rfl (nle rfl) rfl)) ?_
      refine .cons (lop rfl rfl fun S hA => (iop_store (ds' := q6) rfl rfl ti39 (svaR hA rfl rfl) (agi hA rfl rfl) (svaA q6 hA rfl rfl) rfl rfl rfl (nle rfl) rfl)) ?_
      refine .cons (lop rfl rfl fun S hA => (iop_assign rfl rfl (lb rfl) (sv (d := .str _) (agr hA rfl rfl)))) ?_
      refine .cons (lop rfl rfl fun S hA => (iop_assign rfl rfl (lb rfl) (sv (d := .bool true) rfl))) ?_
      exact .nil
     refine iwp_ret ?_
     obtain rfl := Option.some.inj h
     refine ⟨.inr rfl, _, (.cons (rva la29 rfl rfl (nle rfl) rfl) (.cons (rva la39 rfl rfl (nle rfl) rfl) (.cons (sv rfl) (.cons (sv rfl) .nil)))), (.cons (.agg (.k (.k (.k (.cons (FDT E_sbuf_Piece rfl rfl) (.all _)))))) (.all _))⟩

theorem p_sbuf_Dead_1 (a0 : T_sbuf_Piece) (a1 : Int) (r : Bool) (h : sbuf_Dead_1 a0 a1 = some r) : PureAt Try.prog 31 [.agg (v1 a0), .fptr [.int .i64 a1]] (.bool r) := by
 refine pure_of_iwp (rs := [.bool r]) Try.func31 rfl Try.ntmps31 (nle rfl) rfl fun O hO => ?_
 show IWP _ _ _ _ ⟨[(0, .agg (v1 a0)), (1, .fptr [.int .i64 a1])], []⟩ _
 unfold sbuf_Dead_1 at h
 refine iwp_reg (ils_cons rfl (iop_box' (cs := q6) 0 rfl rfl (lb rfl) rfl (svA q6 rfl) rfl rfl) <|
  ils_cons rfl (iop_assign rfl rfl (lb rfl) (sv (d := .bool false) rfl)) <|
  ils_end ?_)
 obtain ⟨x1, hx1, h⟩ := bnd_e h
 refine iwp_reg (ils_cons rfl (faR 2 rfl rfl rfl Try.underlying39 rfl ti3 (lb rfl) rfl rfl) <|
  ils_cons rfl (iop_load_rs (d := .int _ _) rfl rfl (lb rfl) Try.underlying3 ag3 ti3 (by decide) (svR rfl) rfl (nle rfl) rfl) <|
  ils_cons rfl (iop_load_fs rfl rfl (lb rfl) Try.underlying3 ag3 ti3 (by decide) (sv (d := .fptr [.int _ _]) rfl) (nle rfl)) <|
  ils_cons rfl (iop_cmpx rfl rfl (lb rfl) (svI rfl) (svI rfl) rfl hx1) <|
  ils_cons rfl (asB rfl rfl rfl rfl) <|
  ils_end ?_)
 refine iwp_ret ?_
 obtain rfl := Option.some.inj h
 refine ⟨.inr rfl, (.cons (sv rfl) .nil)⟩

theorem p_ivals_Set_put_h (a0 : T_ivals_Ival) (a1 : (List T_ivals_Ival)) (r : (List T_ivals_Ival)) (h : ivals_Set_put_h a0 a1 = some r) : FnH Try.prog 47 [.osl 1000 E_ivals_Ival.sz a1.length, .agg [.int .i64 a0.From, .int .i64 a0.To]] [(1000, .blk 59 (D.flat (a1.map E_ivals_Ival.d)))] (.osl 0 E_ivals_Ival.sz r.length) [(0, .blk 59 (D.flat (r.map E_ivals_Ival.d)))] := by
 refine fnh_of_iwp (rs := [.osl 0 E_ivals_Ival.sz r.length]) Try.func47 rfl Try.ntmps47 (nle rfl) fun O hO => ?_
 show IWP _ _ _ _ ⟨[(0, .osl 1000 E_ivals_Ival.sz a1.length), (1, .agg [.int .i64 a0.From, .int .i64 a0.To])], [(1000, .blk 59 (D.flat (a1.map E_ivals_Ival.d)))]⟩ _
 unfold ivals_Set_put_h at h
 refine iwp_reg (ils_cons rfl (iop_box' (cs := q7) 0 rfl rfl (lb rfl) rfl (svA q7 rfl) rfl rfl) <|
  ils_cons rfl (iop_assign rfl rfl (lb rfl) (sv (d := .nils) rfl)) <|
  ils_end ?_)
 refine iwp_seq ?_
 obtain ⟨x1, hx1, h⟩ := bno_e h
 refine iwp_reg (ils_cons rfl (lra q7 la59 rfl rfl rfl rfl rfl (nle rfl) rfl) <|
  ils_cons rfl (iop_call (r := .bool _) rfl rfl (lb rfl) cl39 (.cons (svA q7 rfl) .nil) rfl (p_ivals_Ival_none _ _ hx1)) <|
  ils_end ?_)
 refine iwp_cond (b := _) rfl (fun hc2 => ?_) (fun hc2 => ?_)
 ·
  replace h := bif_t h hc2
  refine iwp_reg (ils_cons rfl (iop_move rfl rfl (lb rfl) (sv (d := .osl _ _ _) rfl)) <|
   ils_cons rfl (iop_assign rfl rfl (lb rfl) (sv (d := .osl _ _ _) rfl)) <|
   ils_end ?_)
  refine iwp_ret ?_
  refine thenQ_r ?_
  obtain rfl := Option.some.inj h
  refine ⟨.inr rfl, (fun i => if i = 0 then 1000 else i), ⟨.nil, (.cons (EntW.lst rfl) .nil), nd_of [1000] rfl (by decide), (fun i hi => by first | rfl | (show (if _ then _ else _) = _; (repeat' split) <;> omega))⟩, (.cons (sv rfl) .nil), rfl⟩
 ·
  replace h := bif_f h hc2
  refine iwp_skip ?_
  refine thenQ_n ?_
  refine iwp_seq ?_
  refine iwp_reg (ils_cons rfl (iop_move rfl rfl (lb rfl) (sv (d := .osl _ _ _) rfl)) <|
   ils_cons rfl (iop_lenO rfl rfl (lb rfl) Try.underlying27 (sv (d := .osl _ _ _) rfl)) <|
   ils_cons rfl (asI rfl rfl rfl rfl) <|
   ils_end ?_)
  obtain ⟨x3, hx3, h⟩ := bnd_e h
  obtain ⟨x4, hx4, h⟩ := bnd_e h
  obtain ⟨x5, hx5, h⟩ := bno_e h
  obtain ⟨x6, hx6, h⟩ := bno_e h
  obtain ⟨x7, hx7, h⟩ := bnd_e h
  obtain ⟨x8, hx8, h⟩ := bnd_e h
  refine iwp_drw rfl [⟨[5], [], [(11, .int .i64 (a1.length : Int))], []⟩,
   ⟨[11], [], [(12, .bool x3)], []⟩,
   ⟨[12], [], [(13, .bool x3)], []⟩,
   ⟨[0, 13], [], [(14, .cnd (x3 == true) (.osl 1000 E_ivals_Ival.sz a1.length))], []⟩,
   ⟨[5, 13], [], [(15, .cnd (x3 == true) (.int .i64 (a1.length : Int)))], []⟩,
   ⟨[13, 15], [], [(16, .cnd (x3 == true) (.int .i64 x4))], []⟩,
   ⟨[13, 14, 16], [], [(17, .cnd (x3 == true) (.ref 1000 (((x4 : Int).toNat) * E_ivals_Ival.sz + 0)))], []⟩,
   ⟨[13, 17], [], [(18, .cnd (x3 == true) (.ref 1000 (((x4 : Int).toNat) * E_ivals_Ival.sz + 1)))], []⟩,
   ⟨[13, 18], [1000], [(19, .cnd (x3 == true) (.int .i64 x6.To))], []⟩,
   ⟨[3, 13], [], [(20, .cnd (x3 == true) (.ref 0 0))], []⟩,
   ⟨[13, 20], [0], [(21, .cnd (x3 == true) (.int .i64 a0.From))], []⟩,
   ⟨[13, 19, 21], [], [(22, .cnd (x3 == true) (.bool x7))], []⟩,
   ⟨[13, 22], [], [(23, .bool x8)], []⟩] rfl ?_ (by kernel_rfl) ?_
  ·refine .cons (lop rfl rfl fun S hA => (iop_move rfl rfl (lb rfl) (svaI hA rfl rfl))) ?_
   refine .cons (lop rfl rfl fun S hA => (iop_cmpx rfl rfl (lb rfl) (svaI hA rfl rfl) (sv (d := .int _ 0) rfl) rfl hx3)) ?_
   refine .cons (lop rfl rfl fun S hA => (iop_move rfl rfl (lb rfl) (svaB hA rfl rfl))) ?_
   refine .cons (lopg rfl rfl rfl rfl (by decide) (fun S hA => grd1 hA rfl rfl) (fun S hA hb => (iop_move rfl rfl (lb rfl) (sv (d := .osl _ _ _) (agr hA rfl rfl))))) ?_
   refine .cons (lopg rfl rfl rfl rfl (by decide) (fun S hA => grd1 hA rfl rfl) (fun S hA hb => (iop_move rfl rfl (lb rfl) (svaI hA rfl rfl)))) ?_
   refine .cons (lopg rfl rfl rfl rfl (by decide) (fun S hA => grd1 hA rfl rfl) (fun S hA hb => (iop_intx rfl rfl (lb rfl) (svc (d := .int _ _) (agr hA rfl rfl) hb) (sv (d := .int _ 1) rfl) rfl hx4))) ?_
   refine .cons (lopg rfl rfl rfl rfl (by decide) (fun S hA => grd1 hA rfl rfl) (fun S hA hb => (iop_idxO E_ivals_Ival.toEnc0 rfl rfl (lb rfl) Try.underlying27 ti59 (svc (d := .osl _ _ _) (agr hA rfl rfl) hb) rfl (svc (d := .int _ _) (agr hA rfl rfl) hb) (gd_t hx5 hb)))) ?_
   refine .cons (lopg rfl rfl rfl rfl (by decide) (fun S hA => grd1 hA rfl rfl) (fun S hA hb => (iop_field_E rfl rfl (lb rfl) Try.underlying59 rfl ti3 (by decide) (svc (d := .ref _ _) (agr hA rfl rfl) hb) (k' := 1) rfl))) ?_
   refine .cons (lopg rfl rfl rfl rfl (by decide) (fun S hA => grd1 hA rfl rfl) (fun S hA hb => (iop_loadEs E_ivals_Ival.toEnc0 (d := .int _ _) rfl rfl (lb rfl) Try.underlying3 ag3 ti3 (by decide) (svc (d := .ref _ _) (agr hA rfl rfl) hb) (agi hA rfl rfl) (gd_t hx6 hb) (nle rfl) rfl))) ?_
   refine .cons (lopg rfl rfl rfl rfl (by decide) (fun S hA => grd1 hA rfl rfl) (fun S hA hb => (iop_fieldAddr_ref rfl rfl (lb rfl) Try.underlying59 rfl ti3 (by decide) (svaR hA rfl rfl) (off' := 0) rfl))) ?_
   refine .cons (lopg rfl rfl rfl rfl (by decide) (fun S hA => grd1 hA rfl rfl) (fun S hA hb => (iop_load_rs (d := .int _ _) rfl rfl (lb rfl) Try.underlying3 ag3 ti3 (by decide) (svc (d := .ref _ _) (agr hA rfl rfl) hb) (agi hA rfl rfl) (nle rfl) rfl))) ?_
   refine .cons (lopg rfl rfl rfl rfl (by decide) (fun S hA => grd1 hA rfl rfl) (fun S hA hb => (iop_cmpx rfl rfl (lb rfl) (svc (d := .int _ _) (agr hA rfl rfl) hb) (svc (d := .int _ _) (agr hA rfl rfl) hb) rfl hx7))) ?_
   refine .cons (lop rfl rfl fun S hA => (iop_andx rfl rfl (lb rfl) (svaB hA rfl rfl) (agr hA rfl rfl) rfl hx8)) ?_
   exact .nil
  refine iwp_cond (b := _) rfl (fun hc9 => ?_) (fun hc9 => ?_)
  ·
   replace h := bif_t h hc9
   obtain ⟨x10, hx10, h⟩ := bnd_e h
   obtain ⟨x11, hx11, h⟩ := bnd_e h
   obtain ⟨x12, hx12, h⟩ := bno_e h
   obtain ⟨x13, hx13, h⟩ := bno_e h
   obtain ⟨x14, hx14, h⟩ := bnd_e h
   obtain ⟨x15, hx15, h⟩ := bno_e h
   obtain ⟨x16, hx16, h⟩ := bno_e h
   obtain ⟨x17, hx17, h⟩ := bnd_e h
   refine iwp_drw rfl [⟨[0], [], [(24, .osl 1000 E_ivals_Ival.sz a1.length)], []⟩,
    ⟨[5], [], [(25, .int .i64 (a1.length : Int))], []⟩,
    ⟨[25], [], [(26, .int .i64 x10)], []⟩,
    ⟨[0], [], [(27, .osl 1000 E_ivals_Ival.sz a1.length)], []⟩,
    ⟨[5], [], [(28, .int .i64 (a1.length : Int))], []⟩,
    ⟨[28], [], [(29, .int .i64 x11)], []⟩,
    ⟨[27, 29], [], [(30, .ref 1000 (((x11 : Int).toNat) * E_ivals_Ival.sz + 0))], []⟩,
    ⟨[30], [], [(31, .ref 1000 (((x11 : Int).toNat) * E_ivals_Ival.sz + 1))], []⟩,
    ⟨[31], [1000], [(32, .int .i64 x13.To)], []⟩,
    ⟨[3], [], [(33, .ref 0 1)], []⟩,
    ⟨[33], [0], [(34, .int .i64 a0.To)], []⟩,
    ⟨[32, 34], [], [(35, .int .i64 x14)], []⟩,
    ⟨[24, 26], [], [(36, .ref 1000 (((x10 : Int).toNat) * E_ivals_Ival.sz + 0))], []⟩,
    ⟨[36], [], [(37, .ref 1000 (((x10 : Int).toNat) * E_ivals_Ival.sz + 1))], []⟩,
    ⟨[35, 37], [1000], [], [(1000, .blk 59 (D.flat (x17.map E_ivals_Ival.d)))]⟩] rfl ?_ (by kernel_rfl) ?_
   ·refine .cons (lop rfl rfl fun S hA => (iop_move rfl rfl (lb rfl) (sv (d := .osl _ _ _) (agr hA rfl rfl)))) ?_
    refine .cons (lop rfl rfl fun S hA => (iop_move rfl rfl (lb rfl) (svaI hA rfl rfl))) ?_
    refine .cons (lop rfl rfl fun S hA => (iop_intx rfl rfl (lb rfl) (svaI hA rfl rfl) (sv (d := .int _ 1) rfl) rfl hx10)) ?_
    refine .cons (lop rfl rfl fun S hA => (iop_move rfl rfl (lb rfl) (sv (d := .osl _ _ _) (agr hA rfl rfl)))) ?_
    refine .cons (lop rfl rfl fun S hA => (iop_move rfl rfl (lb rfl) (svaI hA rfl rfl))) ?_
    refine .cons (lop rfl rfl fun S hA => (iop_intx rfl rfl (lb rfl) (svaI hA rfl rfl) (sv (d := .int _ 1) rfl) rfl hx11)) ?_
    refine .cons (lop rfl rfl fun S hA => (iop_idxO E_ivals_Ival.toEnc0 rfl rfl (lb rfl) Try.underlying27 ti59 (sv (d := .osl _ _ _) (agr hA rfl rfl)) rfl (svaI hA rfl rfl) hx12)) ?_
    refine .cons (lop rfl rfl fun S hA => (iop_field_E rfl rfl (lb rfl) Try.underlying59 rfl ti3 (by decide) (svaR hA rfl rfl) (k' := 1) rfl)) ?_
    refine .cons (lop rfl rfl fun S hA => (iop_loadEs E_ivals_Ival.toEnc0 (d := .int _ _) rfl rfl (lb rfl) Try.underlying3 ag3 ti3 (by decide) (svaR hA rfl rfl) (agi hA rfl rfl) hx13 (nle rfl) rfl)) ?_
    refine .cons (lop rfl rfl fun S hA => (iop_fieldAddr_ref rfl rfl (lb rfl) Try.underlying59 rfl ti3 (by decide) (svaR hA rfl rfl) (off' := 1) rfl)) ?_
    refine .cons (lop rfl rfl fun S hA => (iop_load_rs (d := .int _ _) rfl rfl (lb rfl) Try.underlying3 ag3 ti3 (by decide) (svaR hA rfl rfl) (agi hA rfl rfl) (nle rfl) rfl)) ?_
    refine .cons (lop rfl rfl fun S hA => (iop_max2 rfl rfl (lb rfl) (svaI hA rfl rfl) (svaI hA rfl rfl) hx14)) ?_
    refine .cons (lop rfl rfl fun S hA => (iop_idxO E_ivals_Ival.toEnc0 rfl rfl (lb rfl) Try.underlying27 ti59 (sv (d := .osl _ _ _) (agr hA rfl rfl)) rfl (svaI hA rfl rfl) hx15)) ?_
    refine .cons (lop rfl rfl fun S hA => (iop_field_E rfl rfl (lb rfl) Try.underlying59 rfl ti3 (by decide) (svaR hA rfl rfl) (k' := 1) rfl)) ?_
    refine .cons (lop rfl rfl fun S hA => (iop_storeE E_ivals_Ival.toEnc0 (a' := (⟨x16.From, x14⟩ : T_ivals_Ival)) rfl rfl ti3 (svaR hA rfl rfl) (agi hA rfl rfl) (svaI hA rfl rfl) rfl rfl rfl hx16 (nle rfl) rfl hx17)) ?_
    exact .nil
   refine iwp_reg (ils_cons rfl (iop_move rfl rfl (lb rfl) (sv (d := .osl _ _ _) rfl)) <|
    ils_cons rfl (iop_assign rfl rfl (lb rfl) (sv (d := .osl _ _ _) rfl)) <|
    ils_end ?_)
   refine iwp_ret ?_
   refine thenQ_r ?_
   obtain rfl := Option.some.inj h
   refine ⟨.inr rfl, (fun i => if i = 0 then 1000 else i), ⟨.nil, (.cons (EntW.lst rfl) .nil), nd_of [1000] rfl (by decide), (fun i hi => by first | rfl | (show (if _ then _ else _) = _; (repeat' split) <;> omega))⟩, (.cons (sv (congrArg (D.osl _ _) (len_set hx17 rfl).symm)) .nil), rfl⟩
  ·
   replace h := bif_f h hc9
   refine iwp_skip ?_
   refine thenQ_n ?_
   obtain ⟨x18, hx18, h⟩ := bno_e h
   refine iwp_reg (ils_cons rfl (iop_move rfl rfl (lb rfl) (sv (d := .osl _ _ _) rfl)) <|
    ils_cons rfl (lra q7 la59 rfl rfl rfl rfl rfl (nle rfl) rfl) <|
    ils_cons rfl (iop_bsO E_ivals_Ival.toEnc0 ([(⟨a0.From, a0.To⟩ : T_ivals_Ival)] : (List T_ivals_Ival)) 1 rfl rfl (lb rfl) Try.underlying27 ti59 rfl (.cons (svA q7 rfl) .nil) rfl rfl (by decide)) <|
    ils_cons rfl (iop_appO E_ivals_Ival.toEnc0 2 rfl rfl (lb rfl) Try.underlying27 ti59 rfl rfl rfl rfl rfl (src_O E_ivals_Ival.toEnc0 rfl rfl rfl) hx18) <|
    ils_cons rfl (iop_assign rfl rfl (lb rfl) (sv (d := .osl _ _ _) rfl)) <|
    ils_end ?_)
   refine iwp_ret ?_
   obtain rfl := Option.some.inj h
   refine ⟨.inr rfl, (fun i => if i = 0 then 2 else i), ⟨.nil, (.cons (EntW.lst rfl) .nil), nd_of [2] rfl (by decide), (fun i hi => by first | rfl | (show (if _ then _ else _) = _; (repeat' split) <;> omega))⟩, (.cons (sv rfl) .nil), rfl⟩

theorem p_ivals_Add (a0 : (List T_ivals_Ival)) (a1 : T_ivals_Ival) (r : (List T_ivals_Ival)) (h : ivals_Add a0 a1 = some r) : PureAt Try.prog 32 [.slice false (a0.map E_ivals_Ival.d), .agg [.int .i64 a1.From, .int .i64 a1.To]] (.slice false (r.map E_ivals_Ival.d)) := by
 refine pure_of_iwpF (rs := [.slice false (r.map E_ivals_Ival.d)]) Try.func32 rfl Try.ntmps32 (nle rfl) rfl fun O hO => ?_
 show IWP _ _ _ _ ⟨[(0, .slice false (a0.map E_ivals_Ival.d)), (1, .agg [.int .i64 a1.From, .int .i64 a1.To])], []⟩ _
 unfold ivals_Add at h
 refine iwp_reg (ils_cons rfl (iop_box' (cs := q7) 0 rfl rfl (lb rfl) rfl (svA q7 rfl) rfl rfl) <|
  ils_cons rfl (iop_assign rfl rfl (lb rfl) (sv (d := .nils) rfl)) <|
  ils_end ?_)
 refine iwp_seq ?_
 obtain ⟨x1, hx1, h⟩ := bno_e h
 obtain ⟨x2, hx2, h⟩ := bno_e h
 obtain ⟨x3, hx3, h⟩ := bnd_e h
 obtain ⟨x4, hx4, h⟩ := bno_e h
 obtain ⟨x5, hx5, h⟩ := bnd_e h
 obtain ⟨x6, hx6, h⟩ := bnd_e h
 refine iwp_reg (ils_cons rfl (lra q7 la59 rfl rfl rfl rfl rfl (nle rfl) rfl) <|
  ils_cons rfl (iop_call (r := .bool _) rfl rfl (lb rfl) cl38 (.cons (svA q7 rfl) .nil) rfl (p_ivals_Ival_may _ _ hx1)) <|
  ils_cons rfl (iop_not rfl rfl (lb rfl) (svB rfl)) <|
  ils_cons rfl (mvB rfl rfl rfl rfl) <|
  ils_guard rfl rfl (.one rfl) rfl (by decide) (fun hb => (lra q7 la59 rfl rfl rfl rfl rfl (nle rfl) rfl)) <|
  ils_guard rfl rfl (.one rfl) rfl (by decide) (fun hb => (iop_call (r := .bool _) rfl rfl (lb rfl) cl39 (.cons (svc (d := .agg [.int .i64 a1.From, .int .i64 a1.To]) rfl hb) .nil) rfl (p_ivals_Ival_none _ _ (gd_t hx2 hb)))) <|
  ils_cons rfl (iop_orx rfl rfl (lb rfl) (svB rfl) rfl rfl hx3) <|
  ils_cons rfl (mvB rfl rfl rfl rfl) <|
  ils_guard rfl rfl (.one rfl) rfl (by decide) (fun hb => (mvL rfl rfl rfl rfl)) <|
  ils_guard rfl rfl (.one rfl) rfl (by decide) (fun hb => (iop_call (r := .int _ _) rfl rfl (lb rfl) cl40 (.cons (svcL rfl hb) .nil) rfl (p_ivals_Check _ _ (gd_t hx4 hb)))) <|
  ils_guard rfl rfl (.one rfl) rfl (by decide) (fun hb => (iop_cmpx rfl rfl (lb rfl) (svcI rfl hb) (sv (d := .int _ 0) rfl) rfl hx5)) <|
  ils_cons rfl (iop_orx rfl rfl (lb rfl) (svB rfl) rfl rfl hx6) <|
  ils_end ?_)
 refine iwp_cond (b := _) rfl (fun hc7 => ?_) (fun hc7 => ?_)
 ·
  replace h := bif_t h hc7
  obtain ⟨x8, hx8, h⟩ := bno_e h
  refine iwp_reg (ils_cons rfl (mvL rfl rfl rfl rfl) <|
   ils_cons rfl (iop_callh2 (r' := .osl 1 E_ivals_Ival.sz x8.length) (H1' := [(1, .blk 59 (D.flat (x8.map E_ivals_Ival.d)))]) 1 [] rfl rfl (lb rfl) cl37 (.cons (svL rfl) .nil) rfl rfl ⟨rfl, rfl, by decide, rfl, List.forall_mem_nil _⟩ (p_slices_Clone_ivals_Set_ivals_Ival_h _ _ hx8) rfl rfl (List.forall_mem_cons.2 ⟨⟨rfl, (handLr E_ivals_Ival)⟩, List.forall_mem_nil _⟩) (by simp only [List.map_cons, List.map_nil, Ent.ren, renL_flat, renL_ref]; rfl)) <|
   ils_cons rfl (iop_assign rfl rfl (lb rfl) (sv (d := .osl _ _ _) rfl)) <|
   ils_end ?_)
  refine iwp_ret ?_
  refine thenQ_r ?_
  obtain rfl := Option.some.inj h
  refine ⟨.inr rfl, _, (.cons (sv rfl) .nil), (.cons (FDT E_ivals_Ival rfl rfl) .nil)⟩
 ·
  replace h := bif_f h hc7
  refine iwp_skip ?_
  refine thenQ_n ?_
  refine iwp_reg (ils_cons rfl (iop_assign rfl rfl (lb rfl) (sv (d := .nils) rfl)) <|
   ils_end ?_)
  refine iwp_reg (ils_cons rfl (iop_assign rfl rfl (lb rfl) (sv (d := .bool false) rfl)) <|
   ils_end ?_)
  refine iwp_seq ?_
  refine iwp_reg (ils_cons rfl (mvL rfl rfl rfl rfl) <|
   ils_cons rfl (iop_lenT E_ivals_Ival (l := a0) rfl rfl (lb rfl) Try.underlying27 (svL rfl)) <|
   ils_cons rfl (iop_move rfl rfl (lb rfl) (sv (d := .int _ 0) rfl)) <|
   ils_end ?_)
  refine iwp_block ?_
  refine iwp_loopP (α := Nat × (List T_ivals_Ival) × Bool × Int) (fun z => ⟨[(3, .ref 0 0), (5, .osl 22 E_ivals_Ival.sz z.2.1.length), (6, .bool z.2.2.1), (23, .slice false (a0.map E_ivals_Ival.d)), (24, .int .i64 (a0.length : Int)), (25, .int .i64 z.2.2.2)], [(0, .blk 59 [.int .i64 a1.From, .int .i64 a1.To]), (22, .blk 59 (D.flat (z.2.1.map E_ivals_Ival.d)))]⟩) (fun z => ivals_Add_L0 a0 a1 z.1 z.2.1 z.2.2.1 z.2.2.2 = some r) (fun z => z.1) (fuel, ([] : (List T_ivals_Ival)), false, 0) (fun i => if i = 22 then 73 else i) ⟨(.s rfl rfl (.cons (.nilo rfl) (.sames rfl rfl))), (.cons (.blk rfl rfl rfl) (.cons (.nilb rfl) .nil)), nd_of [0, 73] rfl (by decide), (fun i hi => by first | rfl | (show (if _ then _ else _) = _; (repeat' split) <;> omega))⟩ ?_ ?_
  ·exact h
  ·
   rintro ⟨n0, v24, v25, v26⟩ h
   cases n0 with
   | zero => exact absurd h (by unfold ivals_Add_L0; exact nofun)
   | succ n0 =>
    unfold ivals_Add_L0 at h
    obtain ⟨x42, hx42, h⟩ := bnd_e h
    refine iwp_reg (ils_cons rfl (iop_cmpx rfl rfl (lb rfl) (svI rfl) (svI rfl) rfl hx42) <|
     ils_end ?_)
    refine iwp_seq ?_
    refine iwp_cond (b := _) rfl (fun hc43 => ?_) (fun hc43 => ?_)
    ·
     replace h := bif_t h hc43
     refine iwp_skip ?_
     refine thenQ_n ?_
     refine iwp_seq ?_
     refine iwp_block ?_
     obtain ⟨x44, hx44, h⟩ := bno_e h
     refine iwp_reg (ils_cons rfl (iop_idxT E_ivals_Ival (cs := q7) rfl rfl (lb rfl) Try.underlying27 ti59 (svL rfl) (svI rfl) hx44 rfl rfl) <|
      ils_cons rfl (iop_load_fa (cs := q7) rfl rfl (lb rfl) Try.underlying59 ag59 ti59 (by decide) (sv (d := .fptr q7) rfl) (nle rfl) rfl) <|
      ils_cons rfl (iop_allocS (cs := q7) (cs' := [.int .i64 0, .int .i64 0]) 23 rfl rfl (lb rfl) rfl ti59 rfl rfl (.all _)) <|
      ils_cons rfl (stA q7 q7 ti59 rfl rfl rfl rfl rfl rfl rfl rfl (nle rfl) rfl) <|
      ils_end ?_)
     refine iwp_join (α := (List T_ivals_Ival) × Bool) (fun z => ⟨[(3, .ref 0 0), (5, .osl 24 E_ivals_Ival.sz z.1.length), (6, .bool z.2), (23, .slice false (a0.map E_ivals_Ival.d)), (24, .int .i64 (a0.length : Int)), (25, .int .i64 v26), (8, .ref 23 0)], [(0, .blk 59 [.int .i64 a1.From, .int .i64 a1.To]), (24, .blk 59 (D.flat (z.1.map E_ivals_Ival.d))), (23, .blk 59 [.int .i64 x44.From, .int .i64 x44.To])]⟩) (fun z => ivals_Add_J1 v26 (ivals_Add_L0 a0 a1 n0) x44 z.1 z.2 = some r) ?_ ?_
     ·
      obtain ⟨x53, hx53, h⟩ := bnd_e h
      obtain ⟨x54, hx54, h⟩ := bnd_e h
      refine iwp_reg (ils_cons rfl (mvB rfl rfl rfl rfl) <|
       ils_cons rfl (iop_not rfl rfl (lb rfl) (svB rfl)) <|
       ils_cons rfl (mvB rfl rfl rfl rfl) <|
       ils_guard rfl rfl (.one rfl) rfl (by decide) (fun hb => (faR 0 rfl rfl rfl Try.underlying59 rfl ti3 (lb rfl) rfl rfl)) <|
       ils_guard rfl rfl (.one rfl) rfl (by decide) (fun hb => (iop_load_rs (d := .int _ _) rfl rfl (lb rfl) Try.underlying3 ag3 ti3 (by decide) (svcR rfl hb) rfl (nle rfl) rfl)) <|
       ils_guard rfl rfl (.one rfl) rfl (by decide) (fun hb => (faR 0 rfl rfl rfl Try.underlying59 rfl ti3 (lb rfl) rfl rfl)) <|
       ils_guard rfl rfl (.one rfl) rfl (by decide) (fun hb => (iop_load_rs (d := .int _ _) rfl rfl (lb rfl) Try.underlying3 ag3 ti3 (by decide) (svcR rfl hb) rfl (nle rfl) rfl)) <|
       ils_guard rfl rfl (.one rfl) rfl (by decide) (fun hb => (iop_cmpx rfl rfl (lb rfl) (svcI rfl hb) (svcI rfl hb) rfl hx53)) <|
       ils_cons rfl (iop_andx rfl rfl (lb rfl) (svB rfl) rfl rfl hx54) <|
       ils_end ?_)
      refine iwp_cond (b := _) rfl (fun hc55 => ?_) (fun hc55 => ?_)
      ·
       replace h := bif_t h hc55
       obtain ⟨x56, hx56, h⟩ := bno_e h
       refine iwp_reg (ils_cons rfl (iop_move rfl rfl (lb rfl) (sv (d := .osl _ _ _) rfl)) <|
        ils_cons rfl (lra q7 la59 rfl rfl rfl rfl rfl (nle rfl) rfl) <|
        ils_cons rfl (iop_callh2 (r' := .osl 24 E_ivals_Ival.sz x56.length) (H1' := [(24, .blk 59 (D.flat (x56.map E_ivals_Ival.d)))]) 24 [22] rfl rfl (lb rfl) cl47 (.cons (sv (d := .osl _ _ _) rfl) (.cons (svA q7 rfl) .nil)) rfl rfl ⟨rfl, rfl, by decide, rfl, List.forall_mem_cons.2 ⟨⟨rfl, rfl, (handL E_ivals_Ival rfl), (handLr E_ivals_Ival)⟩, List.forall_mem_nil _⟩⟩ (p_ivals_Set_put_h _ _ _ hx56) rfl rfl (List.forall_mem_cons.2 ⟨⟨rfl, (handLr E_ivals_Ival)⟩, List.forall_mem_nil _⟩) (by simp only [List.map_cons, List.map_nil, Ent.ren, renL_flat, renL_ref]; rfl)) <|
        ils_cons rfl (iop_assign rfl rfl (lb rfl) (sv (d := .osl _ _ _) rfl)) <|
        ils_end ?_)
       refine iwp_region (ils_cons rfl (iop_assign rfl rfl (lb rfl) (sv (d := .bool true) rfl)) <|
        ils_nil ?_)
       refine thenQ_n ⟨(x56, true), (fun i => i), ⟨(.sames rfl rfl), (.cons (.blk rfl rfl rfl) (.cons (EntW.lst rfl) (.cons (.blk rfl rfl rfl) .nil))), nd_of [0, 24, 23] rfl (by decide), fun _ _ => rfl⟩, ?_⟩
       exact h
      ·
       replace h := bif_f h hc55
       refine iwp_skip ?_
       refine thenQ_n ⟨(v24, v25), (fun i => if i = 24 then 22 else i), ⟨(.sames rfl rfl), (.cons (.blk rfl rfl rfl) (.cons (EntW.lst rfl) (.cons (.blk rfl rfl rfl) .nil))), nd_of [0, 22, 23] rfl (by decide), (fun i hi => by first | rfl | (show (if _ then _ else _) = _; (repeat' split) <;> omega))⟩, ?_⟩
       exact h
     ·
      rintro ⟨v49, v50⟩ h
      unfold ivals_Add_J1 at h
      obtain ⟨x51, hx51, h⟩ := bno_e h
      refine iwp_region (ils_cons rfl (iop_move rfl rfl (lb rfl) (sv (d := .osl _ _ _) rfl)) <|
       ils_cons rfl (lra q7 la59 rfl rfl rfl rfl rfl (nle rfl) rfl) <|
       ils_cons rfl (iop_callh2 (r' := .osl 25 E_ivals_Ival.sz x51.length) (H1' := [(25, .blk 59 (D.flat (x51.map E_ivals_Ival.d)))]) 25 [24] rfl rfl (lb rfl) cl47 (.cons (sv (d := .osl _ _ _) rfl) (.cons (svA q7 rfl) .nil)) rfl rfl ⟨rfl, rfl, by decide, rfl, List.forall_mem_cons.2 ⟨⟨rfl, rfl, (handL E_ivals_Ival rfl), (handLr E_ivals_Ival)⟩, List.forall_mem_nil _⟩⟩ (p_ivals_Set_put_h _ _ _ hx51) rfl rfl (List.forall_mem_cons.2 ⟨⟨rfl, (handLr E_ivals_Ival)⟩, List.forall_mem_nil _⟩) (by simp only [List.map_cons, List.map_nil, Ent.ren, renL_flat, renL_ref]; rfl)) <|
       ils_cons rfl (iop_assign rfl rfl (lb rfl) (sv (d := .osl _ _ _) rfl)) <|
       ils_nil ?_)
      refine blockQ_n ?_
      refine thenQ_n ?_
      obtain ⟨x52, hx52, h⟩ := bnd_e h
      refine iwp_region (ils_cons rfl (iop_intx rfl rfl (lb rfl) (svI rfl) (sv (d := .int _ 1) rfl) rfl hx52) <|
       ils_cons rfl (mvI rfl rfl rfl rfl) <|
       ils_nil ?_)
      refine thenQ_n ⟨(n0, x51, v50, x52), (fun i => if i = 22 then 25 else i), ⟨(.sames rfl rfl), (.cons (.blk rfl rfl rfl) (.cons (EntW.lst rfl) .nil)), nd_of [0, 25] rfl (by decide), (fun i hi => by first | rfl | (show (if _ then _ else _) = _; (repeat' split) <;> omega))⟩, ?_, ?_⟩
      exact h
      exact Nat.lt_succ_self _
    ·
     replace h := bif_f h hc43
     refine iwp_exit ?_
     refine thenQ_e ?_
     refine thenQ_e ?_
     refine blockQ_e ?_
     refine thenQ_n ?_
     refine iwp_seq ?_
     refine iwp_reg (ils_cons rfl (mvB rfl rfl rfl rfl) <|
      ils_cons rfl (iop_not rfl rfl (lb rfl) (svB rfl)) <|
      ils_end ?_)
     refine iwp_cond (b := _) rfl (fun hc57 => ?_) (fun hc57 => ?_)
     ·
      replace h := bif_t h hc57
      obtain ⟨x58, hx58, h⟩ := bno_e h
      refine iwp_region (ils_cons rfl (iop_move rfl rfl (lb rfl) (sv (d := .osl _ _ _) rfl)) <|
       ils_cons rfl (lra q7 la59 rfl rfl rfl rfl rfl (nle rfl) rfl) <|
       ils_cons rfl (iop_callh2 (r' := .osl 23 E_ivals_Ival.sz x58.length) (H1' := [(23, .blk 59 (D.flat (x58.map E_ivals_Ival.d)))]) 23 [22] rfl rfl (lb rfl) cl47 (.cons (sv (d := .osl _ _ _) rfl) (.cons (svA q7 rfl) .nil)) rfl rfl ⟨rfl, rfl, by decide, rfl, List.forall_mem_cons.2 ⟨⟨rfl, rfl, (handL E_ivals_Ival rfl), (handLr E_ivals_Ival)⟩, List.forall_mem_nil _⟩⟩ (p_ivals_Set_put_h _ _ _ hx58) rfl rfl (List.forall_mem_cons.2 ⟨⟨rfl, (handLr E_ivals_Ival)⟩, List.forall_mem_nil _⟩) (by simp only [List.map_cons, List.map_nil, Ent.ren, renL_flat, renL_ref]; rfl)) <|
       ils_cons rfl (iop_assign rfl rfl (lb rfl) (sv (d := .osl _ _ _) rfl)) <|
       ils_nil ?_)
      refine thenQ_n ?_
      refine iwp_reg (ils_cons rfl (iop_move rfl rfl (lb rfl) (sv (d := .osl _ _ _) rfl)) <|
       ils_cons rfl (iop_assign rfl rfl (lb rfl) (sv (d := .osl _ _ _) rfl)) <|
       ils_end ?_)
      refine iwp_ret ?_
      obtain rfl := Option.some.inj h
      refine ⟨.inr rfl, _, (.cons (sv rfl) .nil), (.cons (FDT E_ivals_Ival rfl rfl) .nil)⟩
     ·
      replace h := bif_f h hc57
      refine iwp_skip ?_
      refine thenQ_n ?_
      refine iwp_reg (ils_cons rfl (iop_move rfl rfl (lb rfl) (sv (d := .osl _ _ _) rfl)) <|
       ils_cons rfl (iop_assign rfl rfl (lb rfl) (sv (d := .osl _ _ _) rfl)) <|
       ils_end ?_)
      refine iwp_ret ?_
      obtain rfl := Option.some.inj h
      refine ⟨.inr rfl, _, (.cons (sv rfl) .nil), (.cons (FDT E_ivals_Ival rfl rfl) .nil)⟩

theorem p_slices_IndexFunc_sbuf_Piece_sbuf_Piece_Dead_1 (a0 : (List T_sbuf_Piece)) (a1 : Int) (r : Int) (h : slices_IndexFunc_sbuf_Piece_sbuf_Piece_Dead_1 a0 a1 = some r) : PureAt Try.prog 44 [.slice false (a0.map E_sbuf_Piece.d), .fn 31 [.fptr [.int .i64 a1]]] (.int .i64 r) := by
 refine pure_of_iwp (rs := [.int .i64 r]) Try.func44 rfl Try.ntmps44 (nle rfl) rfl fun O hO => ?_
 show IWP _ _ _ _ ⟨[(0, .slice false (a0.map E_sbuf_Piece.d)), (1, .fn 31 [.fptr [.int .i64 a1]])], []⟩ _
 unfold slices_IndexFunc_sbuf_Piece_sbuf_Piece_Dead_1 at h
 refine iwp_reg (ils_cons rfl (iop_assign rfl rfl (lb rfl) (sv (d := .int _ 0) rfl)) <|
  ils_end ?_)
 refine iwp_seq ?_
 refine iwp_reg (ils_cons rfl (mvL rfl rfl rfl rfl) <|
  ils_cons rfl (iop_lenT E_sbuf_Piece (l := a0) rfl rfl (lb rfl) Try.underlying25 (svL rfl)) <|
  ils_cons rfl (iop_move rfl rfl (lb rfl) (sv (d := .int _ 0) rfl)) <|
  ils_end ?_)
 refine iwp_block ?_
 refine iwp_loopP (α := Nat × Int) (fun z => ⟨[(0, .slice false (a0.map E_sbuf_Piece.d)), (1, .fn 31 [.fptr [.int .i64 a1]]), (7, .int .i64 (a0.length : Int)), (8, .int .i64 z.2)], []⟩) (fun z => slices_IndexFunc_sbuf_Piece_sbuf_Piece_Dead_1_L0 a0 a1 z.1 z.2 = some r) (fun z => z.1) (fuel, 0) (fun i => i) ⟨(.sames rfl rfl), .nil, nd_of [] rfl (by decide), fun _ _ => rfl⟩ ?_ ?_
 ·exact h
 ·
  rintro ⟨n0, v7⟩ h
  cases n0 with
  | zero => exact absurd h (by unfold slices_IndexFunc_sbuf_Piece_sbuf_Piece_Dead_1_L0; exact nofun)
  | succ n0 =>
   unfold slices_IndexFunc_sbuf_Piece_sbuf_Piece_Dead_1_L0 at h
   obtain ⟨x14, hx14, h⟩ := bnd_e h
   refine iwp_reg (ils_cons rfl (iop_cmpx rfl rfl (lb rfl) (svI rfl) (svI rfl) rfl hx14) <|
    ils_end ?_)
   refine iwp_seq ?_
   refine iwp_cond (b := _) rfl (fun hc15 => ?_) (fun hc15 => ?_)
   ·
    replace h := bif_t h hc15
    refine iwp_skip ?_
    refine thenQ_n ?_
    refine iwp_seq ?_
    refine iwp_block ?_
    refine iwp_reg (ils_cons rfl (mvI rfl rfl rfl rfl) <|
     ils_cons rfl (asI rfl rfl rfl rfl) <|
     ils_end ?_)
    obtain ⟨x16, hx16, h⟩ := bno_e h
    obtain ⟨x17, hx17, h⟩ := bno_e h
    refine iwp_reg (ils_cons rfl (iop_move rfl rfl (lb rfl) (sv (d := .fn 31 [.fptr [.int _ _]]) rfl)) <|
     ils_cons rfl (mvL rfl rfl rfl rfl) <|
     ils_cons rfl (mvI rfl rfl rfl rfl) <|
     ils_cons rfl (iop_idxT E_sbuf_Piece (cs := q6) rfl rfl (lb rfl) Try.underlying25 ti39 (svL rfl) (svI rfl) hx16 rfl rfl) <|
     ils_cons rfl (iop_load_fa (cs := q6) rfl rfl (lb rfl) Try.underlying39 ag39 ti39 (by decide) (sv (d := .fptr q6) rfl) (nle rfl) rfl) <|
     ils_cons rfl (iop_callv (r := .bool _) rfl rfl (lb rfl) cl31 (sv (d := .fn 31 [.fptr [.int _ _]]) rfl) (.cons (svA q6 rfl) .nil) rfl (p_sbuf_Dead_1 _ _ _ hx17)) <|
     ils_end ?_)
    refine iwp_cond (b := _) rfl (fun hc18 => ?_) (fun hc18 => ?_)
    ·
     replace h := bif_t h hc18
     refine iwp_reg (ils_cons rfl (mvI rfl rfl rfl rfl) <|
      ils_cons rfl (asI rfl rfl rfl rfl) <|
      ils_end ?_)
     refine iwp_ret ?_
     refine blockQ_r ?_
     refine thenQ_r ?_
     refine thenQ_r ?_
     refine blockQ_r ?_
     refine thenQ_r ?_
     obtain rfl := Option.some.inj h
     refine ⟨.inr rfl, (.cons (sv rfl) .nil)⟩
    ·
     replace h := bif_f h hc18
     refine iwp_skip ?_
     refine blockQ_n ?_
     refine thenQ_n ?_
     obtain ⟨x19, hx19, h⟩ := bnd_e h
     refine iwp_region (ils_cons rfl (iop_intx rfl rfl (lb rfl) (svI rfl) (sv (d := .int _ 1) rfl) rfl hx19) <|
      ils_cons rfl (mvI rfl rfl rfl rfl) <|
      ils_nil ?_)
     refine thenQ_n ⟨(n0, x19), (fun i => i), ⟨(.sames rfl rfl), .nil, nd_of [] rfl (by decide), fun _ _ => rfl⟩, ?_, ?_⟩
     exact h
     exact Nat.lt_succ_self _
   ·
    replace h := bif_f h hc15
    refine iwp_exit ?_
    refine thenQ_e ?_
    refine thenQ_e ?_
    refine blockQ_e ?_
    refine thenQ_n ?_
    refine iwp_reg (ils_cons rfl (iop_assign rfl rfl (lb rfl) (sv (d := .int _ (-1)) rfl)) <|
     ils_end ?_)
    refine iwp_ret ?_
    obtain rfl := Option.some.inj h
    refine ⟨.inr rfl, (.cons (sv rfl) .nil)⟩

theorem p_slices_DeleteFunc_sbuf_Piece_sbuf_Piece_h_Dead_1 (a0 : (List T_sbuf_Piece)) (a1 : Int) (r : (List T_sbuf_Piece)) (h : slices_DeleteFunc_sbuf_Piece_sbuf_Piece_h_Dead_1 a0 a1 = some r) : FnH Try.prog 33 [.osl 1000 E_sbuf_Piece.sz a0.length, .fn 31 [.ref 1001 0]] [(1000, .blk 39 (D.flat (a0.map E_sbuf_Piece.d))), (1001, .blk 3 [.int .i64 a1])] (.osl 0 E_sbuf_Piece.sz r.length) [(1001, .blk 3 [.int .i64 a1]), (0, .blk 39 (D.flat (r.map E_sbuf_Piece.d)))] := by
 refine fnh_of_iwp (rs := [.osl 0 E_sbuf_Piece.sz r.length]) Try.func33 rfl Try.ntmps33 (nle rfl) fun O hO => ?_
 show IWP _ _ _ _ ⟨[(0, .osl 1000 E_sbuf_Piece.sz a0.length), (1, .fn 31 [.ref 1001 0])], [(1000, .blk 39 (D.flat (a0.map E_sbuf_Piece.d))), (1001, .blk 3 [.int .i64 a1])]⟩ _
 unfold slices_DeleteFunc_sbuf_Piece_sbuf_Piece_h_Dead_1 at h
 refine iwp_reg (ils_cons rfl (iop_assign rfl rfl (lb rfl) (sv (d := .nils) rfl)) <|
  ils_end ?_)
 obtain ⟨x1, hx1, h⟩ := bno_e h
 refine iwp_reg (ils_cons rfl (iop_move rfl rfl (lb rfl) (sv (d := .osl _ _ _) rfl)) <|
  ils_cons rfl (iop_move rfl rfl (lb rfl) (sv (d := .fn 31 [.ref _ _]) rfl)) <|
  ils_cons rfl (iop_callp (r := .int .i64 x1) rfl rfl (lb rfl) cl44 (.cons (sv (d := .osl _ _ _) rfl) (.cons (sv (d := .fn 31 [.ref _ _]) rfl) .nil)) (.cons (FDT E_sbuf_Piece rfl rfl) (.cons (.fn (.cons (.ref rfl rfl (fdl_refl _) rfl) .nil)) .nil)) rfl rfl (p_slices_IndexFunc_sbuf_Piece_sbuf_Piece_Dead_1 _ _ _ hx1)) <|
  ils_cons rfl (asI rfl rfl rfl rfl) <|
  ils_end ?_)
 refine iwp_seq ?_
 obtain ⟨x2, hx2, h⟩ := bnd_e h
 refine iwp_reg (ils_cons rfl (mvI rfl rfl rfl rfl) <|
  ils_cons rfl (iop_cmpx rfl rfl (lb rfl) (svI rfl) (sv (d := .int _ (-1)) rfl) rfl hx2) <|
  ils_end ?_)
 refine iwp_cond (b := _) rfl (fun hc3 => ?_) (fun hc3 => ?_)
 ·
  replace h := bif_t h hc3
  refine iwp_reg (ils_cons rfl (iop_move rfl rfl (lb rfl) (sv (d := .osl _ _ _) rfl)) <|
   ils_cons rfl (iop_assign rfl rfl (lb rfl) (sv (d := .osl _ _ _) rfl)) <|
   ils_end ?_)
  refine iwp_ret ?_
  refine thenQ_r ?_
  obtain rfl := Option.some.inj h
  refine ⟨.inr rfl, (fun i => if i = 0 then 1000 else i), ⟨.nil, (.cons (.blk rfl rfl rfl) (.cons (EntW.lst rfl) .nil)), nd_of [1001, 1000] rfl (by decide), (fun i hi => by first | rfl | (show (if _ then _ else _) = _; (repeat' split) <;> omega))⟩, (.cons (sv rfl) .nil), rfl⟩
 ·
  replace h := bif_f h hc3
  refine iwp_skip ?_
  refine thenQ_n ?_
  refine iwp_seq ?_
  obtain ⟨x4, hx4, h⟩ := bnd_e h
  refine iwp_reg (ils_cons rfl (mvI rfl rfl rfl rfl) <|
   ils_cons rfl (iop_intx rfl rfl (lb rfl) (svI rfl) (sv (d := .int _ 1) rfl) rfl hx4) <|
   ils_cons rfl (asI rfl rfl rfl rfl) <|
   ils_end ?_)
  refine iwp_block ?_
  refine iwp_loopP (α := Nat × (List T_sbuf_Piece) × Int × Int) (fun z => ⟨[(0, .osl 1000 E_sbuf_Piece.sz z.2.1.length), (1, .fn 31 [.ref 1001 0]), (5, .int .i64 z.2.2.1), (6, .int .i64 z.2.2.2)], [(1000, .blk 39 (D.flat (z.2.1.map E_sbuf_Piece.d))), (1001, .blk 3 [.int .i64 a1])]⟩) (fun z => slices_DeleteFunc_sbuf_Piece_sbuf_Piece_h_Dead_1_L0 a1 z.1 z.2.1 z.2.2.1 z.2.2.2 = some r) (fun z => z.1) (fuel, a0, x1, x4) (fun i => i) ⟨(.sames rfl rfl), (.cons (EntW.lst rfl) (.cons (.blk rfl rfl rfl) .nil)), nd_of [1000, 1001] rfl (by decide), fun _ _ => rfl⟩ ?_ ?_
  ·exact h
  ·
   rintro ⟨n0, v17, v18, v19⟩ h
   cases n0 with
   | zero => exact absurd h (by unfold slices_DeleteFunc_sbuf_Piece_sbuf_Piece_h_Dead_1_L0; exact nofun)
   | succ n0 =>
    unfold slices_DeleteFunc_sbuf_Piece_sbuf_Piece_h_Dead_1_L0 at h
    refine iwp_seq ?_
    obtain ⟨x32, hx32, h⟩ := bnd_e h
    refine iwp_reg (ils_cons rfl (mvI rfl rfl rfl rfl) <|
     ils_cons rfl (iop_move rfl rfl (lb rfl) (sv (d := .osl _ _ _) rfl)) <|
     ils_cons rfl (iop_lenO rfl rfl (lb rfl) Try.underlying25 (sv (d := .osl _ _ _) rfl)) <|
     ils_cons rfl (iop_cmpx rfl rfl (lb rfl) (svI rfl) (svI rfl) rfl hx32) <|
     ils_end ?_)
    refine iwp_cond (b := _) rfl (fun hc33 => ?_) (fun hc33 => ?_)
    ·
     replace h := bif_t h hc33
     refine iwp_skip ?_
     refine thenQ_n ?_
     refine iwp_seq ?_
     refine iwp_block ?_
     obtain ⟨x34, hx34, h⟩ := bno_e h
     obtain ⟨x35, hx35, h⟩ := bno_e h
     refine iwp_reg (ils_cons rfl (iop_move rfl rfl (lb rfl) (sv (d := .osl _ _ _) rfl)) <|
      ils_cons rfl (mvI rfl rfl rfl rfl) <|
      ils_cons rfl (iop_idxO E_sbuf_Piece.toEnc0 rfl rfl (lb rfl) Try.underlying25 ti39 (sv (d := .osl _ _ _) rfl) rfl (svI rfl) hx34) <|
      ils_cons rfl (iop_loadEa E_sbuf_Piece.toEnc0 (cs := q6) rfl rfl (lb rfl) Try.underlying39 ag39 ti39 (by decide) (svR rfl) rfl hx35 (nle rfl) rfl) <|
      ils_cons rfl (iop_allocS (cs := q6) (cs' := (w14 0 0 0 false)) 0 rfl rfl (lb rfl) rfl ti39 rfl rfl (.all _)) <|
      ils_cons rfl (stA q6 q6 ti39 rfl rfl rfl rfl rfl rfl rfl rfl (nle rfl) rfl) <|
      ils_end ?_)
     obtain ⟨x36, hx36, h⟩ := bno_e h
     refine iwp_reg (ils_cons rfl (iop_move rfl rfl (lb rfl) (sv (d := .fn 31 [.ref _ _]) rfl)) <|
      ils_cons rfl (lra q6 la39 rfl rfl rfl rfl rfl (nle rfl) rfl) <|
      ils_cons rfl (iop_callvp (r := .bool x36) rfl rfl (lb rfl) cl31 (sv (d := .fn 31 [.ref _ _]) rfl) (.cons (svA q6 rfl) .nil) (.k (.cons (.ref rfl rfl (fdl_refl _) rfl) .nil)) rfl rfl (p_sbuf_Dead_1 _ _ _ hx36)) <|
      ils_cons rfl (iop_not rfl rfl (lb rfl) (svB rfl)) <|
      ils_end ?_)
     refine iwp_cond (b := _) rfl (fun hc37 => ?_) (fun hc37 => ?_)
     ·
      replace h := bif_t h hc37
      obtain ⟨x38, hx38, h⟩ := bno_e h
      obtain ⟨x39, hx39, h⟩ := bno_e h
      obtain ⟨x40, hx40, h⟩ := bnd_e h
      refine iwp_reg (ils_cons rfl (iop_move rfl rfl (lb rfl) (sv (d := .osl _ _ _) rfl)) <|
       ils_cons rfl (mvI rfl rfl rfl rfl) <|
       ils_cons rfl (lra q6 la39 rfl rfl rfl rfl rfl (nle rfl) rfl) <|
       ils_cons rfl (iop_idxO E_sbuf_Piece.toEnc0 rfl rfl (lb rfl) Try.underlying25 ti39 (sv (d := .osl _ _ _) rfl) rfl (svI rfl) hx38) <|
       ils_cons rfl (iop_storeE E_sbuf_Piece.toEnc0 (a' := x35) rfl rfl ti39 (svR rfl) rfl (svA q6 rfl) rfl rfl rfl hx39 (nle rfl) rfl hx40) <|
       ils_end ?_)
      obtain ⟨x41, hx41, h⟩ := bnd_e h
      refine iwp_region (ils_cons rfl (mvI rfl rfl rfl rfl) <|
       ils_cons rfl (iop_intx rfl rfl (lb rfl) (svI rfl) (sv (d := .int _ 1) rfl) rfl hx41) <|
       ils_cons rfl (asI rfl rfl rfl rfl) <|
       ils_nil ?_)
      refine blockQ_n ?_
      refine thenQ_n ?_
      obtain ⟨x42, hx42, h⟩ := bnd_e h
      refine iwp_region (ils_cons rfl (mvI rfl rfl rfl rfl) <|
       ils_cons rfl (iop_intx rfl rfl (lb rfl) (svI rfl) (sv (d := .int _ 1) rfl) rfl hx42) <|
       ils_cons rfl (asI rfl rfl rfl rfl) <|
       ils_nil ?_)
      refine thenQ_n ⟨(n0, x40, x41, x42), (fun i => i), ⟨(.cons (.same (congrArg (D.osl _ _) (len_set hx40 rfl).symm) rfl) (.sames rfl rfl)), (.cons (EntW.lst rfl) (.cons (.blk rfl rfl rfl) .nil)), nd_of [1000, 1001] rfl (by decide), fun _ _ => rfl⟩, ?_, ?_⟩
      exact h
      exact Nat.lt_succ_self _
     ·
      replace h := bif_f h hc37
      refine iwp_skip ?_
      refine blockQ_n ?_
      refine thenQ_n ?_
      obtain ⟨x43, hx43, h⟩ := bnd_e h
      refine iwp_region (ils_cons rfl (mvI rfl rfl rfl rfl) <|
       ils_cons rfl (iop_intx rfl rfl (lb rfl) (svI rfl) (sv (d := .int _ 1) rfl) rfl hx43) <|
       ils_cons rfl (asI rfl rfl rfl rfl) <|
       ils_nil ?_)
      refine thenQ_n ⟨(n0, v17, v18, x43), (fun i => i), ⟨(.sames rfl rfl), (.cons (EntW.lst rfl) (.cons (.blk rfl rfl rfl) .nil)), nd_of [1000, 1001] rfl (by decide), fun _ _ => rfl⟩, ?_, ?_⟩
      exact h
      exact Nat.lt_succ_self _
    ·
     replace h := bif_f h hc33
     refine iwp_exit ?_
     refine thenQ_e ?_
     refine thenQ_e ?_
     refine blockQ_e ?_
     refine thenQ_n ?_
     obtain ⟨x44, hx44, h⟩ := bno_e h
     refine iwp_reg (ils_cons rfl (iop_move rfl rfl (lb rfl) (sv (d := .osl _ _ _) rfl)) <|
      ils_cons rfl (mvI rfl rfl rfl rfl) <|
      ils_clrtail E_sbuf_Piece.toEnc0 rfl rfl rfl rfl (by decide) rfl rfl Try.underlying25 ti39 rfl rfl rfl rfl rfl (fun S1 h9 => sv ((h9 37 (by decide)).trans rfl)) hx44 <|
      ils_end ?_)
     obtain ⟨x45, hx45, h⟩ := bno_e h
     refine iwp_reg (ils_cons rfl (iop_move rfl rfl (lb rfl) (sv (d := .osl _ _ _) rfl)) <|
      ils_cons rfl (mvI rfl rfl rfl rfl) <|
      ils_cons rfl (iop_truncO E_sbuf_Piece.toEnc0 rfl rfl (lb rfl) Try.underlying25 ti39 (sv (d := .osl _ _ _) rfl) rfl (Nat.le_trans (cut_le hx44) (Nat.le_of_eq rfl)) (svI rfl) hx45) <|
      ils_cons rfl (iop_assign rfl rfl (lb rfl) (sv (d := .osl _ _ _) rfl)) <|
      ils_end ?_)
     refine iwp_ret ?_
     obtain rfl := Option.some.inj h
     refine ⟨.inr rfl, (fun i => if i = 0 then 1000 else i), ⟨.nil, (.cons (.blk rfl rfl rfl) (.cons (EntW.lst rfl) .nil)), nd_of [1001, 1000] rfl (by decide), (fun i hi => by first | rfl | (show (if _ then _ else _) = _; (repeat' split) <;> omega))⟩, (.cons (sv rfl) .nil), rfl⟩

theorem p_sbuf_Dead (a0 : T_sbuf_State) (a1 : Int) (r : T_sbuf_State) (h : sbuf_Dead a0 a1 = some r) : PureAt Try.prog 14 [.agg (v0 a0), .int .i64 a1] (.agg (v0 r)) := by
 refine pure_of_iwpF (rs := [.agg (v0 r)]) Try.func14 rfl Try.ntmps14 (nle rfl) rfl fun O hO => ?_
 show IWP _ _ _ _ ⟨[(0, .agg (v0 a0)), (1, .int .i64 a1)], []⟩ _
 unfold sbuf_Dead at h
 refine iwp_reg (ils_cons rfl (iop_box' (cs := q3) 0 rfl rfl (lb rfl) rfl (svA q3 rfl) rfl rfl) <|
  ils_cons rfl (iop_box' (cs := [.int _ _]) 1 rfl rfl (lb rfl) rfl (svI rfl) rfl rfl) <|
  ils_cons rfl (iop_allocS (cs := q5) (cs' := (w11 0 [] 0 ([] : List T_sbuf_Piece) ([] : List T_ivals_Ival) false false false false)) 2 rfl rfl (lb rfl) rfl ti29 rfl rfl (.k (.k (.k (.cons (.nils _) (.cons (.nils _) (.all _))))))) <|
  ils_end ?_)
 obtain ⟨x1, hx1, h⟩ := bno_e h
 refine iwp_reg (ils_cons rfl (lra q3 la29 rfl rfl rfl rfl rfl (nle rfl) rfl) <|
  ils_cons rfl (iop_callh2 (r' := .agg (w12 x1.1 x1.2.1 x1.2.2.1 (.osl 3 E_sbuf_Piece.sz x1.2.2.2.1.length) x1.2.2.2.2.1 x1.2.2.2.2.2.1 x1.2.2.2.2.2.2.1 x1.2.2.2.2.2.2.2.1 x1.2.2.2.2.2.2.2.2)) (H1' := [(3, .blk 39 (D.flat (x1.2.2.2.1.map E_sbuf_Piece.d)))]) 3 [] rfl rfl (lb rfl) cl19 (.cons (svA q3 rfl) .nil) rfl rfl ⟨rfl, rfl, by decide, rfl, List.forall_mem_nil _⟩ (p_sbuf_State_own_h _ _ hx1) rfl rfl (List.forall_mem_cons.2 ⟨⟨rfl, (handLr E_sbuf_Piece)⟩, List.forall_mem_nil _⟩) (by simp only [List.map_cons, List.map_nil, Ent.ren, renL_flat, renL_ref]; rfl)) <|
  ils_cons rfl (iop_allocS (cs := q5) (cs' := (w11 0 [] 0 ([] : List T_sbuf_Piece) ([] : List T_ivals_Ival) false false false false)) 4 rfl rfl (lb rfl) rfl ti29 rfl rfl (.k (.k (.k (.cons (.nils _) (.cons (.nils _) (.all _))))))) <|
  ils_cons rfl (stA q4 q4 ti29 rfl rfl rfl rfl rfl rfl rfl rfl (nle rfl) rfl) <|
  ils_end ?_)
 refine iwp_seq ?_
 obtain ⟨x2, hx2, h⟩ := bno_e h
 obtain ⟨x3, hx3, h⟩ := bnd_e h
 refine iwp_reg (ils_cons rfl (lra q3 la29 rfl rfl rfl rfl rfl (nle rfl) rfl) <|
  ils_cons rfl (iop_call (r := .int _ _) rfl rfl (lb rfl) cl13 (.cons (svA q3 rfl) .nil) rfl (p_sbuf_Check _ _ hx2)) <|
  ils_cons rfl (iop_cmpx rfl rfl (lb rfl) (svI rfl) (sv (d := .int _ 0) rfl) rfl hx3) <|
  ils_end ?_)
 refine iwp_cond (b := _) rfl (fun hc4 => ?_) (fun hc4 => ?_)
 ·
  replace h := bif_t h hc4
  refine iwp_reg (ils_cons rfl (lra q4 la29 rfl rfl rfl rfl rfl (nle rfl) rfl) <|
   ils_cons rfl (stA q4 q4 ti29 rfl rfl rfl rfl rfl rfl rfl rfl (nle rfl) rfl) <|
   ils_end ?_)
  refine iwp_ret ?_
  refine thenQ_r ?_
  obtain rfl := Option.some.inj h
  refine ⟨.inr rfl, _, (.cons (rva la29 rfl rfl (nle rfl) rfl) .nil), (.cons (.agg (.k (.k (.k (.cons (FDT E_sbuf_Piece rfl rfl) (.all _)))))) .nil)⟩
 ·
  replace h := bif_f h hc4
  refine iwp_skip ?_
  refine thenQ_n ?_
  refine iwp_reg (ils_cons rfl (iop_makeFunc rfl rfl (lb rfl) (.cons (svR rfl) .nil)) <|
   ils_cons rfl (iop_assign rfl rfl (lb rfl) (sv (d := .fn 31 [.ref _ _]) rfl)) <|
   ils_end ?_)
  refine iwp_seq ?_
  refine iwp_reg (ils_cons rfl (faR 3 rfl rfl rfl Try.underlying29 rfl ti25 (lb rfl) rfl rfl) <|
   ils_cons rfl (lrL la25 rfl rfl rfl rfl rfl (nle rfl) rfl) <|
   ils_cons rfl (iop_lenT E_sbuf_Piece (l := a0.Pieces) rfl rfl (lb rfl) Try.underlying25 (svL rfl)) <|
   ils_cons rfl (iop_move rfl rfl (lb rfl) (sv (d := .int _ 0) rfl)) <|
   ils_end ?_)
  refine iwp_block ?_
  refine iwp_loopP (α := Nat × Int × (List T_ivals_Ival) × Bool) (fun z => ⟨[(4, .ref 2 0), (5, .ref 4 0), (6, .fn 31 [.ref 1 0]), (17, .slice false (a0.Pieces.map E_sbuf_Piece.d)), (18, .int .i64 (a0.Pieces.length : Int)), (19, .int .i64 z.2.1)], [(2, .blk 29 (w11 0 [] 0 ([] : List T_sbuf_Piece) ([] : List T_ivals_Ival) false false false false)), (4, .blk 29 (w12 x1.1 x1.2.1 x1.2.2.1 (.osl 3 E_sbuf_Piece.sz x1.2.2.2.1.length) z.2.2.1 x1.2.2.2.2.2.1 x1.2.2.2.2.2.2.1 z.2.2.2 x1.2.2.2.2.2.2.2.2)), (1, .blk 3 [.int .i64 a1]), (3, .blk 39 (D.flat (x1.2.2.2.1.map E_sbuf_Piece.d)))]⟩) (fun z => sbuf_Dead_L0 a0 a1 x1 z.1 z.2.1 z.2.2.1 z.2.2.2 = some r) (fun z => z.1) (fuel, 0, x1.2.2.2.2.1, x1.2.2.2.2.2.2.2.1) (fun i => i) ⟨(.sames rfl rfl), (.cons (.blk rfl rfl rfl) (.cons (.blk rfl rfl rfl) (.cons (.blk rfl rfl rfl) (.cons (EntW.lst rfl) .nil)))), nd_of [2, 4, 1, 3] rfl (by decide), fun _ _ => rfl⟩ ?_ ?_
  ·exact h
  ·
   rintro ⟨n0, v15, v16, v17⟩ h
   cases n0 with
   | zero => exact absurd h (by unfold sbuf_Dead_L0; exact nofun)
   | succ n0 =>
    unfold sbuf_Dead_L0 at h
    obtain ⟨x28, hx28, h⟩ := bnd_e h
    refine iwp_reg (ils_cons rfl (iop_cmpx rfl rfl (lb rfl) (svI rfl) (svI rfl) rfl hx28) <|
     ils_end ?_)
    refine iwp_seq ?_
    refine iwp_cond (b := _) rfl (fun hc29 => ?_) (fun hc29 => ?_)
    ·
     replace h := bif_t h hc29
     refine iwp_skip ?_
     refine thenQ_n ?_
     refine iwp_seq ?_
     refine iwp_block ?_
     obtain ⟨x30, hx30, h⟩ := bno_e h
     refine iwp_reg (ils_cons rfl (iop_idxT E_sbuf_Piece (cs := q6) rfl rfl (lb rfl) Try.underlying25 ti39 (svL rfl) (svI rfl) hx30 rfl rfl) <|
      ils_cons rfl (iop_load_fa (cs := q6) rfl rfl (lb rfl) Try.underlying39 ag39 ti39 (by decide) (sv (d := .fptr q6) rfl) (nle rfl) rfl) <|
      ils_cons rfl (iop_allocS (cs := q6) (cs' := (w14 0 0 0 false)) 5 rfl rfl (lb rfl) rfl ti39 rfl rfl (.all _)) <|
      ils_cons rfl (stA q6 q6 ti39 rfl rfl rfl rfl rfl rfl rfl rfl (nle rfl) rfl) <|
      ils_end ?_)
     obtain ⟨x31, hx31, h⟩ := bno_e h
     refine iwp_reg (ils_cons rfl (iop_move rfl rfl (lb rfl) (sv (d := .fn 31 [.ref _ _]) rfl)) <|
      ils_cons rfl (lra q6 la39 rfl rfl rfl rfl rfl (nle rfl) rfl) <|
      ils_cons rfl (iop_callvp (r := .bool x31) rfl rfl (lb rfl) cl31 (sv (d := .fn 31 [.ref _ _]) rfl) (.cons (svA q6 rfl) .nil) (.k (.cons (.ref rfl rfl (fdl_refl _) rfl) .nil)) rfl rfl (p_sbuf_Dead_1 _ _ _ hx31)) <|
      ils_end ?_)
     refine iwp_cond (b := _) rfl (fun hc32 => ?_) (fun hc32 => ?_)
     ·
      replace h := bif_t h hc32
      obtain ⟨x33, hx33, h⟩ := bno_e h
      obtain ⟨x34, hx34, h⟩ := bno_e h
      refine iwp_drw rfl [⟨[5], [], [(26, .ref 4 4)], []⟩,
       ⟨[26], [4], [(27, .slice false (v16.map E_ivals_Ival.d))], []⟩,
       ⟨[8], [5], [(28, .agg (v1 x30))], []⟩,
       ⟨[28], [], [(29, .agg [.int .i64 x33.From, .int .i64 x33.To])], []⟩,
       ⟨[27, 29], [], [(30, .slice false (x34.map E_ivals_Ival.d))], []⟩,
       ⟨[5], [], [(31, .ref 4 4)], []⟩,
       ⟨[30, 31], [4], [], [(4, .blk 29 (w12 x1.1 x1.2.1 x1.2.2.1 (.osl 3 E_sbuf_Piece.sz x1.2.2.2.1.length) x34 x1.2.2.2.2.2.1 x1.2.2.2.2.2.2.1 v17 x1.2.2.2.2.2.2.2.2))]⟩] rfl ?_ (by kernel_rfl) ?_
      ·refine .cons (lop rfl rfl fun S hA => (iop_fieldAddr_ref rfl rfl (lb rfl) Try.underlying29 rfl ti27 (by decide) (svaR hA rfl rfl) (off' := 4) rfl)) ?_
       refine .cons (lop rfl rfl fun S hA => (iop_load_rs (d := .slice _ _) rfl rfl (lb rfl) Try.underlying27 ag27 ti27 (by decide) (svaR hA rfl rfl) (agi hA rfl rfl) (nle rfl) rfl)) ?_
       refine .cons (lop rfl rfl fun S hA => (iop_load_ra (cs := q6) rfl rfl (lb rfl) Try.underlying39 ag39 ti39 (by decide) (svaR hA rfl rfl) (agi hA rfl rfl) (nle rfl) rfl)) ?_
       refine .cons (lop rfl rfl fun S hA => (iop_call (r := .agg q7) rfl rfl (lb rfl) cl24 (.cons (svaA q6 hA rfl rfl) .nil) rfl (p_sbuf_Piece_ival _ _ hx33))) ?_
       refine .cons (lop rfl rfl fun S hA => (iop_call (r := .slice _ _) rfl rfl (lb rfl) cl32 (.cons (svaL hA rfl rfl) (.cons (svaA q7 hA rfl rfl) .nil)) rfl (p_ivals_Add _ _ _ hx34))) ?_
       refine .cons (lop rfl rfl fun S hA => (iop_fieldAddr_ref rfl rfl (lb rfl) Try.underlying29 rfl ti27 (by decide) (svaR hA rfl rfl) (off' := 4) rfl)) ?_
       refine .cons (lop rfl rfl fun S hA => (iop_store (ds' := q4) rfl rfl ti27 (svaR hA rfl rfl) (agi hA rfl rfl) (svaL hA rfl rfl) rfl rfl rfl (nle rfl) rfl)) ?_
       exact .nil
      obtain ⟨x35, hx35, h⟩ := bnd_e h
      refine iwp_region (ils_cons rfl (faR 7 rfl rfl rfl Try.underlying29 rfl ti4 (lb rfl) rfl rfl) <|
       ils_cons rfl (iop_load_rs (d := .bool _) rfl rfl (lb rfl) Try.underlying4 ag4 ti4 (by decide) (svR rfl) rfl (nle rfl) rfl) <|
       ils_cons rfl (mvB rfl rfl rfl rfl) <|
       ils_guard rfl rfl (.one rfl) rfl (by decide) (fun hb => (faR 3 rfl rfl rfl Try.underlying39 rfl ti4 (lb rfl) rfl rfl)) <|
       ils_guard rfl rfl (.one rfl) rfl (by decide) (fun hb => (iop_load_rs (d := .bool _) rfl rfl (lb rfl) Try.underlying4 ag4 ti4 (by decide) (svcR rfl hb) rfl (nle rfl) rfl)) <|
       ils_cons rfl (iop_orx rfl rfl (lb rfl) (svB rfl) rfl rfl hx35) <|
       ils_cons rfl (faR 7 rfl rfl rfl Try.underlying29 rfl ti4 (lb rfl) rfl rfl) <|
       ils_cons rfl (iop_store (ds' := q4) rfl rfl ti4 (svR rfl) rfl (svB rfl) rfl rfl rfl (nle rfl) rfl) <|
       ils_nil ?_)
      refine blockQ_n ?_
      refine thenQ_n ?_
      obtain ⟨x36, hx36, h⟩ := bnd_e h
      refine iwp_region (ils_cons rfl (iop_intx rfl rfl (lb rfl) (svI rfl) (sv (d := .int _ 1) rfl) rfl hx36) <|
       ils_cons rfl (mvI rfl rfl rfl rfl) <|
       ils_nil ?_)
      refine thenQ_n ⟨(n0, x36, x34, x35), (fun i => i), ⟨(.sames rfl rfl), (.cons (.blk rfl rfl rfl) (.cons (.blk rfl rfl rfl) (.cons (.blk rfl rfl rfl) (.cons (EntW.lst rfl) .nil)))), nd_of [2, 4, 1, 3] rfl (by decide), fun _ _ => rfl⟩, ?_, ?_⟩
      exact h
      exact Nat.lt_succ_self _
     ·
      replace h := bif_f h hc32
      refine iwp_skip ?_
      refine blockQ_n ?_
      refine thenQ_n ?_
      obtain ⟨x37, hx37, h⟩ := bnd_e h
      refine iwp_region (ils_cons rfl (iop_intx rfl rfl (lb rfl) (svI rfl) (sv (d := .int _ 1) rfl) rfl hx37) <|
       ils_cons rfl (mvI rfl rfl rfl rfl) <|
       ils_nil ?_)
      refine thenQ_n ⟨(n0, x37, v16, v17), (fun i => i), ⟨(.sames rfl rfl), (.cons (.blk rfl rfl rfl) (.cons (.blk rfl rfl rfl) (.cons (.blk rfl rfl rfl) (.cons (EntW.lst rfl) .nil)))), nd_of [2, 4, 1, 3] rfl (by decide), fun _ _ => rfl⟩, ?_, ?_⟩
      exact h
      exact Nat.lt_succ_self _
    ·
     replace h := bif_f h hc29
     refine iwp_exit ?_
     refine thenQ_e ?_
     refine thenQ_e ?_
     refine blockQ_e ?_
     refine thenQ_n ?_
     obtain ⟨x38, hx38, h⟩ := bno_e h
     refine iwp_reg (ils_cons rfl (faR 3 rfl rfl rfl Try.underlying29 rfl ti25 (lb rfl) rfl rfl) <|
      ils_cons rfl (iop_load_rs (d := .osl _ _ _) rfl rfl (lb rfl) Try.underlying25 ag25 ti25 (by decide) (svR rfl) rfl (nle rfl) rfl) <|
      ils_cons rfl (iop_move rfl rfl (lb rfl) (sv (d := .fn 31 [.ref _ _]) rfl)) <|
      ils_cons rfl (iop_callh2 (r' := .osl 5 E_sbuf_Piece.sz x38.length) (H1' := [(1, .blk 3 [.int .i64 a1]), (5, .blk 39 (D.flat (x38.map E_sbuf_Piece.d)))]) 5 [3, 1] rfl rfl (lb rfl) cl33 (.cons (sv (d := .osl _ _ _) rfl) (.cons (sv (d := .fn 31 [.ref _ _]) rfl) .nil)) rfl rfl ⟨rfl, rfl, by decide, rfl, List.forall_mem_cons.2 ⟨⟨rfl, rfl, (handL E_sbuf_Piece rfl), (handLr E_sbuf_Piece)⟩, List.forall_mem_cons.2 ⟨⟨rfl, rfl, rfl, rfl⟩, List.forall_mem_nil _⟩⟩⟩ (p_slices_DeleteFunc_sbuf_Piece_sbuf_Piece_h_Dead_1 _ _ _ hx38) rfl rfl (List.forall_mem_cons.2 ⟨⟨rfl, rfl⟩, List.forall_mem_cons.2 ⟨⟨rfl, (handLr E_sbuf_Piece)⟩, List.forall_mem_nil _⟩⟩) (by simp only [List.map_cons, List.map_nil, Ent.ren, renL_flat, renL_ref]; rfl)) <|
      ils_cons rfl (faR 3 rfl rfl rfl Try.underlying29 rfl ti25 (lb rfl) rfl rfl) <|
      ils_cons rfl (iop_store (ds' := q4) rfl rfl ti25 (svR rfl) rfl (sv (d := .osl _ _ _) rfl) rfl rfl rfl (nle rfl) rfl) <|
      ils_end ?_)
     refine iwp_reg (ils_cons rfl (lra q4 la29 rfl rfl rfl rfl rfl (nle rfl) rfl) <|
      ils_cons rfl (stA q4 q4 ti29 rfl rfl rfl rfl rfl rfl rfl rfl (nle rfl) rfl) <|
      ils_end ?_)
     refine iwp_ret ?_
     obtain rfl := Option.some.inj h
     refine ⟨.inr rfl, _, (.cons (rva la29 rfl rfl (nle rfl) rfl) .nil), (.cons (.agg (.k (.k (.k (.cons (FDT E_sbuf_Piece rfl rfl) (.all _)))))) .nil)⟩

theorem p_sbuf_Came_1 (a0 : T_sbuf_Piece) (r : Bool) (h : sbuf_Came_1 a0 = some r) : PureAt Try.prog 34 [.agg (v1 a0)] (.bool r) := by
 refine pure_of_iwp (rs := [.bool r]) Try.func34 rfl Try.ntmps34 (nle rfl) rfl fun O hO => ?_
 show IWP _ _ _ _ ⟨[(0, .agg (v1 a0))], []⟩ _
 unfold sbuf_Came_1 at h
 refine iwp_reg (ils_cons rfl (iop_box' (cs := q6) 0 rfl rfl (lb rfl) rfl (svA q6 rfl) rfl rfl) <|
  ils_cons rfl (iop_assign rfl rfl (lb rfl) (sv (d := .bool false) rfl)) <|
  ils_end ?_)
 obtain ⟨x1, hx1, h⟩ := bnd_e h
 obtain ⟨x2, hx2, h⟩ := bnd_e h
 refine iwp_reg (ils_cons rfl (faR 0 rfl rfl rfl Try.underlying39 rfl ti3 (lb rfl) rfl rfl) <|
  ils_cons rfl (iop_load_rs (d := .int _ _) rfl rfl (lb rfl) Try.underlying3 ag3 ti3 (by decide) (svR rfl) rfl (nle rfl) rfl) <|
  ils_cons rfl (faR 1 rfl rfl rfl Try.underlying39 rfl ti3 (lb rfl) rfl rfl) <|
  ils_cons rfl (iop_load_rs (d := .int _ _) rfl rfl (lb rfl) Try.underlying3 ag3 ti3 (by decide) (svR rfl) rfl (nle rfl) rfl) <|
  ils_cons rfl (iop_cmpx rfl rfl (lb rfl) (svI rfl) (svI rfl) rfl hx1) <|
  ils_cons rfl (mvB rfl rfl rfl rfl) <|
  ils_guard rfl rfl (.one rfl) rfl (by decide) (fun hb => (faR 3 rfl rfl rfl Try.underlying39 rfl ti4 (lb rfl) rfl rfl)) <|
  ils_guard rfl rfl (.one rfl) rfl (by decide) (fun hb => (iop_load_rs (d := .bool _) rfl rfl (lb rfl) Try.underlying4 ag4 ti4 (by decide) (svcR rfl hb) rfl (nle rfl) rfl)) <|
  ils_guard rfl rfl (.one rfl) rfl (by decide) (fun hb => (iop_not rfl rfl (lb rfl) (svcB rfl hb))) <|
  ils_cons rfl (iop_andx rfl rfl (lb rfl) (svB rfl) rfl rfl hx2) <|
  ils_cons rfl (asB rfl rfl rfl rfl) <|
  ils_end ?_)
 refine iwp_ret ?_
 obtain rfl := Option.some.inj h
 refine ⟨.inr rfl, (.cons (sv rfl) .nil)⟩
end Go.Proofs.Ytppjcpddodefeaa
