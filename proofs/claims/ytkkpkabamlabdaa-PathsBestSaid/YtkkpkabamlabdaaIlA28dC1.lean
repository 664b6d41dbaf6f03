/-
  A part of the proof: rules and plain facts. No condition.
-/
import Derived.Test.YtkkpkabamlabdaaProg
import Derived.KernelRfl
import Derived.Test.YtkkpkabamlabdaaIlA28dD
set_option linter.all false
set_option linter.unusedSimpArgs false
set_option linter.unusedVariables false
set_option maxRecDepth 8000
set_option maxHeartbeats 2000000
open Go Go.IL Go.Fn Go.Proofs
namespace Go.Proofs.Ytkkpkabamlabdaa
theorem ti3 : TI Try.prog 3 (some (.int .i64 0)) 1 8 := by unfold TI; kernel_rfl
theorem ti4 : TI Try.prog 4 (some (.bool false)) 1 1 := by unfold TI; kernel_rfl
theorem ti31 : TI Try.prog 31 (some (.agg #[.bool false, .bool false, .int .i64 0, .int .i64 0])) 4 24 := by unfold TI; kernel_rfl
theorem ti32 : TI Try.prog 32 (some (.agg #[.bool false, .bool false, .int .i64 0, .int .i64 0, .bool false, .bool false, .int .i64 0, .int .i64 0, .bool false, .bool false, .int .i64 0, .int .i64 0, .bool false, .bool false, .int .i64 0, .int .i64 0])) 16 96 := by unfold TI; kernel_rfl
theorem ti33 : TI Try.prog 33 (some (.slice none 0 0)) 1 24 := by unfold TI; kernel_rfl
theorem ti35 : TI Try.prog 35 (some (.agg #[.bool false, .bool false, .int .i64 0, .int .i64 0, .bool false, .bool false, .int .i64 0, .int .i64 0, .bool false, .bool false, .int .i64 0, .int .i64 0, .bool false, .bool false, .int .i64 0, .int .i64 0, .int .i64 0, .slice none 0 0])) 18 128 := by unfold TI; kernel_rfl
theorem ti60 : TI Try.prog 60 (some (.slice none 0 0)) 1 24 := by unfold TI; kernel_rfl
theorem ti65 : TI Try.prog 65 (some (.float .f64 0)) 1 8 := by unfold TI; kernel_rfl
theorem ti86 : TI Try.prog 86 (some (.agg #[.int .i64 0, .int .i64 0])) 2 16 := by unfold TI; kernel_rfl
theorem ag3 : aggOf Try.prog 3 = false := by kernel_rfl
theorem ag4 : aggOf Try.prog 4 = false := by kernel_rfl
theorem ag31 : aggOf Try.prog 31 = true := by kernel_rfl
theorem ag32 : aggOf Try.prog 32 = true := by kernel_rfl
theorem ag33 : aggOf Try.prog 33 = false := by kernel_rfl
theorem ag35 : aggOf Try.prog 35 = true := by kernel_rfl
theorem ag60 : aggOf Try.prog 60 = false := by kernel_rfl
theorem ag65 : aggOf Try.prog 65 = false := by kernel_rfl
theorem ag86 : aggOf Try.prog 86 = true := by kernel_rfl
theorem ex69 : ExternAt Try.prog 69 (Extern.SlicesOverlaps.overlaps #[33, 33] #[4]) := ⟨Try.f69, Try.func69, by kernel_rfl, by kernel_rfl, by kernel_rfl, by kernel_rfl⟩
theorem pl35 : ∀ w, (Array.mapM (m := Sem) (fun (f : Field) => Functor.map (Prod.mk f.offset) (sizeOf f.type)) (fieldsOf Try.prog 35)).run Try.prog w = .ok #[(0, 16), (16, 1), (17, 1)] w := fun w => by kernel_rfl
theorem pl86 : ∀ w, (Array.mapM (m := Sem) (fun (f : Field) => Functor.map (Prod.mk f.offset) (sizeOf f.type)) (fieldsOf Try.prog 86)).run Try.prog w = .ok #[(0, 1), (1, 1)] w := fun w => by kernel_rfl
theorem cl25 : Callable Try.prog 25 := ⟨Try.f25, Try.func25, rfl, rfl⟩
theorem cl28 : Callable Try.prog 28 := ⟨Try.f28, Try.func28, rfl, rfl⟩
theorem cl30 : Callable Try.prog 30 := ⟨Try.f30, Try.func30, rfl, rfl⟩
theorem cl38 : Callable Try.prog 38 := ⟨Try.f38, Try.func38, rfl, rfl⟩
theorem cl40 : Callable Try.prog 40 := ⟨Try.f40, Try.func40, rfl, rfl⟩
theorem cl41 : Callable Try.prog 41 := ⟨Try.f41, Try.func41, rfl, rfl⟩
theorem cl43 : Callable Try.prog 43 := ⟨Try.f43, Try.func43, rfl, rfl⟩
theorem cl46 : Callable Try.prog 46 := ⟨Try.f46, Try.func46, rfl, rfl⟩
theorem cl47 : Callable Try.prog 47 := ⟨Try.f47, Try.func47, rfl, rfl⟩
theorem cl48 : Callable Try.prog 48 := ⟨Try.f48, Try.func48, rfl, rfl⟩
theorem cl49 : Callable Try.prog 49 := ⟨Try.f49, Try.func49, rfl, rfl⟩
theorem cl52 : Callable Try.prog 52 := ⟨Try.f52, Try.func52, rfl, rfl⟩
theorem cl56 : Callable Try.prog 56 := ⟨Try.f56, Try.func56, rfl, rfl⟩
theorem cl57 : Callable Try.prog 57 := ⟨Try.f57, Try.func57, rfl, rfl⟩
theorem cl58 : Callable Try.prog 58 := ⟨Try.f58, Try.func58, rfl, rfl⟩
theorem cl61 : Callable Try.prog 61 := ⟨Try.f61, Try.func61, rfl, rfl⟩
theorem cl64 : Callable Try.prog 64 := ⟨Try.f64, Try.func64, rfl, rfl⟩
theorem cl65 : Callable Try.prog 65 := ⟨Try.f65, Try.func65, rfl, rfl⟩
theorem cl66 : Callable Try.prog 66 := ⟨Try.f66, Try.func66, rfl, rfl⟩
theorem cl67 : Callable Try.prog 67 := ⟨Try.f67, Try.func67, rfl, rfl⟩
theorem cl68 : Callable Try.prog 68 := ⟨Try.f68, Try.func68, rfl, rfl⟩
theorem cl71 : Callable Try.prog 71 := ⟨Try.f71, Try.func71, rfl, rfl⟩
theorem cl74 : Callable Try.prog 74 := ⟨Try.f74, Try.func74, rfl, rfl⟩
theorem cl77 : Callable Try.prog 77 := ⟨Try.f77, Try.func77, rfl, rfl⟩
theorem cl78 : Callable Try.prog 78 := ⟨Try.f78, Try.func78, rfl, rfl⟩
theorem cl80 : Callable Try.prog 80 := ⟨Try.f80, Try.func80, rfl, rfl⟩
theorem cl81 : Callable Try.prog 81 := ⟨Try.f81, Try.func81, rfl, rfl⟩
theorem cl82 : Callable Try.prog 82 := ⟨Try.f82, Try.func82, rfl, rfl⟩
theorem cl83 : Callable Try.prog 83 := ⟨Try.f83, Try.func83, rfl, rfl⟩
theorem cl84 : Callable Try.prog 84 := ⟨Try.f84, Try.func84, rfl, rfl⟩
def la32 := LA.mk Try.underlying32 ag32 ti32 (by decide)
def la33 := LA.mk Try.underlying33 ag33 ti33 (by decide)
def la35 := LA.mk Try.underlying35 ag35 ti35 (by decide)
def la60 := LA.mk Try.underlying60 ag60 ti60 (by decide)
abbrev v0 (x : T_paths_State) : List D := [.bool x.Lines.c0.Up, .bool x.Lines.c0.Dead, .int .i64 x.Lines.c0.Bytes, .int .i64 x.Lines.c0.Ticks, .bool x.Lines.c1.Up, .bool x.Lines.c1.Dead, .int .i64 x.Lines.c1.Bytes, .int .i64 x.Lines.c1.Ticks, .bool x.Lines.c2.Up, .bool x.Lines.c2.Dead, .int .i64 x.Lines.c2.Bytes, .int .i64 x.Lines.c2.Ticks, .bool x.Lines.c3.Up, .bool x.Lines.c3.Dead, .int .i64 x.Lines.c3.Bytes, .int .i64 x.Lines.c3.Ticks, .int .i64 x.Pinned, .slice false (x.Binds.map E_paths_Bind.d)]
abbrev v1 (x : T_anon24) : List D := [.bool x.c0.Up, .bool x.c0.Dead, .int .i64 x.c0.Bytes, .int .i64 x.c0.Ticks, .bool x.c1.Up, .bool x.c1.Dead, .int .i64 x.c1.Bytes, .int .i64 x.c1.Ticks, .bool x.c2.Up, .bool x.c2.Dead, .int .i64 x.c2.Bytes, .int .i64 x.c2.Ticks, .bool x.c3.Up, .bool x.c3.Dead, .int .i64 x.c3.Bytes, .int .i64 x.c3.Ticks]
abbrev v2 (x : T_sennitlaw28_Act) : List D := [.int .u8 x.Kind, .int .u8 x.N, .int .u8 x.M, .int .u8 x.Path]
abbrev q3 {a1 : Bool} {a2 : Bool} {a3 : IntKind} {a4 : Int} {a5 : IntKind} {a6 : Int} {a7 : Bool} {a8 : Bool} {a9 : IntKind} {a10 : Int} {a11 : IntKind} {a12 : Int} {a13 : Bool} {a14 : Bool} {a15 : IntKind} {a16 : Int} {a17 : IntKind} {a18 : Int} {a19 : Bool} {a20 : Bool} {a21 : IntKind} {a22 : Int} {a23 : IntKind} {a24 : Int} {a25 : IntKind} {a26 : Int} {a27 : Bool} {a28 : List D} : List D := [.bool a1, .bool a2, .int a3 a4, .int a5 a6, .bool a7, .bool a8, .int a9 a10, .int a11 a12, .bool a13, .bool a14, .int a15 a16, .int a17 a18, .bool a19, .bool a20, .int a21 a22, .int a23 a24, .int a25 a26, .slice a27 a28]
abbrev q4 {a1 : Bool} {a2 : Bool} {a3 : IntKind} {a4 : Int} {a5 : IntKind} {a6 : Int} {a7 : Bool} {a8 : Bool} {a9 : IntKind} {a10 : Int} {a11 : IntKind} {a12 : Int} {a13 : Bool} {a14 : Bool} {a15 : IntKind} {a16 : Int} {a17 : IntKind} {a18 : Int} {a19 : Bool} {a20 : Bool} {a21 : IntKind} {a22 : Int} {a23 : IntKind} {a24 : Int} {a25 : IntKind} {a26 : Int} {a27 : Nat} {a28 : Nat} {a29 : Nat} : List D := [.bool a1, .bool a2, .int a3 a4, .int a5 a6, .bool a7, .bool a8, .int a9 a10, .int a11 a12, .bool a13, .bool a14, .int a15 a16, .int a17 a18, .bool a19, .bool a20, .int a21 a22, .int a23 a24, .int a25 a26, .osl a27 a28 a29]
abbrev q5 {a1 : Bool} {a2 : Bool} {a3 : IntKind} {a4 : Int} {a5 : IntKind} {a6 : Int} {a7 : Bool} {a8 : Bool} {a9 : IntKind} {a10 : Int} {a11 : IntKind} {a12 : Int} {a13 : Bool} {a14 : Bool} {a15 : IntKind} {a16 : Int} {a17 : IntKind} {a18 : Int} {a19 : Bool} {a20 : Bool} {a21 : IntKind} {a22 : Int} {a23 : IntKind} {a24 : Int} {a25 : IntKind} {a26 : Int} : List D := [.bool a1, .bool a2, .int a3 a4, .int a5 a6, .bool a7, .bool a8, .int a9 a10, .int a11 a12, .bool a13, .bool a14, .int a15 a16, .int a17 a18, .bool a19, .bool a20, .int a21 a22, .int a23 a24, .int a25 a26, .nils]
abbrev q6 {a1 : Bool} {a2 : Bool} {a3 : IntKind} {a4 : Int} {a5 : IntKind} {a6 : Int} {a7 : Bool} {a8 : Bool} {a9 : IntKind} {a10 : Int} {a11 : IntKind} {a12 : Int} {a13 : Bool} {a14 : Bool} {a15 : IntKind} {a16 : Int} {a17 : IntKind} {a18 : Int} {a19 : Bool} {a20 : Bool} {a21 : IntKind} {a22 : Int} {a23 : IntKind} {a24 : Int} : List D := [.bool a1, .bool a2, .int a3 a4, .int a5 a6, .bool a7, .bool a8, .int a9 a10, .int a11 a12, .bool a13, .bool a14, .int a15 a16, .int a17 a18, .bool a19, .bool a20, .int a21 a22, .int a23 a24]
abbrev q7 {a1 : IntKind} {a2 : Int} {a3 : IntKind} {a4 : Int} {a5 : IntKind} {a6 : Int} {a7 : IntKind} {a8 : Int} : List D := [.int a1 a2, .int a3 a4, .int a5 a6, .int a7 a8]
abbrev q8 {a1 : Bool} {a2 : Bool} {a3 : IntKind} {a4 : Int} {a5 : IntKind} {a6 : Int} : List D := [.bool a1, .bool a2, .int a3 a4, .int a5 a6]
abbrev q9 {a1 : IntKind} {a2 : Int} {a3 : IntKind} {a4 : Int} : List D := [.int a1 a2, .int a3 a4]
abbrev q10 {a1 : IntKind} {a2 : Int} {a3 : Bool} : List D := [.int a1 a2, .bool a3]
abbrev q11 {a1 : Bool} {a2 : Bool} {a3 : IntKind} {a4 : Int} {a5 : IntKind} {a6 : Int} {a7 : Bool} {a8 : Bool} {a9 : IntKind} {a10 : Int} {a11 : IntKind} {a12 : Int} {a13 : Bool} {a14 : Bool} {a15 : IntKind} {a16 : Int} {a17 : IntKind} {a18 : Int} {a19 : Bool} {a20 : Bool} {a21 : IntKind} {a22 : Int} {a23 : IntKind} {a24 : Int} {a25 : IntKind} {a26 : Int} {a27 : Bool} {a28 : List D} {a29 : Bool} {a30 : List D} {a31 : Bool} : List D := [.agg [.bool a1, .bool a2, .int a3 a4, .int a5 a6, .bool a7, .bool a8, .int a9 a10, .int a11 a12, .bool a13, .bool a14, .int a15 a16, .int a17 a18, .bool a19, .bool a20, .int a21 a22, .int a23 a24, .int a25 a26, .slice a27 a28], .slice a29 a30, .bool a31]
abbrev q12 {a1 : Bool} {a2 : Bool} {a3 : IntKind} {a4 : Int} {a5 : IntKind} {a6 : Int} {a7 : Bool} {a8 : Bool} {a9 : IntKind} {a10 : Int} {a11 : IntKind} {a12 : Int} {a13 : Bool} {a14 : Bool} {a15 : IntKind} {a16 : Int} {a17 : IntKind} {a18 : Int} {a19 : Bool} {a20 : Bool} {a21 : IntKind} {a22 : Int} {a23 : IntKind} {a24 : Int} {a25 : IntKind} {a26 : Int} {a27 : Bool} {a28 : List D} {a29 : IntKind} {a30 : Int} : List D := [.agg [.bool a1, .bool a2, .int a3 a4, .int a5 a6, .bool a7, .bool a8, .int a9 a10, .int a11 a12, .bool a13, .bool a14, .int a15 a16, .int a17 a18, .bool a19, .bool a20, .int a21 a22, .int a23 a24, .int a25 a26, .slice a27 a28], .int a29 a30]
abbrev q13 {a1 : Bool} {a2 : Bool} {a3 : IntKind} {a4 : Int} {a5 : IntKind} {a6 : Int} {a7 : Bool} {a8 : Bool} {a9 : IntKind} {a10 : Int} {a11 : IntKind} {a12 : Int} {a13 : Bool} {a14 : Bool} {a15 : IntKind} {a16 : Int} {a17 : IntKind} {a18 : Int} {a19 : Bool} {a20 : Bool} {a21 : IntKind} {a22 : Int} {a23 : IntKind} {a24 : Int} {a25 : IntKind} {a26 : Int} {a27 : Bool} {a28 : List D} {a29 : Bool} : List D := [.agg [.bool a1, .bool a2, .int a3 a4, .int a5 a6, .bool a7, .bool a8, .int a9 a10, .int a11 a12, .bool a13, .bool a14, .int a15 a16, .int a17 a18, .bool a19, .bool a20, .int a21 a22, .int a23 a24, .int a25 a26, .slice a27 a28], .bool a29]
abbrev w14 (a0 : Bool) (a1 : Bool) (a2 : Int) (a3 : Int) (a4 : Bool) (a5 : Bool) (a6 : Int) (a7 : Int) (a8 : Bool) (a9 : Bool) (a10 : Int) (a11 : Int) (a12 : Bool) (a13 : Bool) (a14 : Int) (a15 : Int) (a16 : Int) (a17 : List T_paths_Bind) : List D := [.bool a0, .bool a1, .int .i64 a2, .int .i64 a3, .bool a4, .bool a5, .int .i64 a6, .int .i64 a7, .bool a8, .bool a9, .int .i64 a10, .int .i64 a11, .bool a12, .bool a13, .int .i64 a14, .int .i64 a15, .int .i64 a16, .slice false (a17.map E_paths_Bind.d)]
abbrev w15 (a0 : Bool) (a1 : Bool) (a2 : Int) (a3 : Int) (a4 : Bool) (a5 : Bool) (a6 : Int) (a7 : Int) (a8 : Bool) (a9 : Bool) (a10 : Int) (a11 : Int) (a12 : Bool) (a13 : Bool) (a14 : Int) (a15 : Int) (a16 : Int) (a17 : D) : List D := [.bool a0, .bool a1, .int .i64 a2, .int .i64 a3, .bool a4, .bool a5, .int .i64 a6, .int .i64 a7, .bool a8, .bool a9, .int .i64 a10, .int .i64 a11, .bool a12, .bool a13, .int .i64 a14, .int .i64 a15, .int .i64 a16, a17]
abbrev w16 (a0 : Bool) (a1 : Bool) (a2 : Int) (a3 : Int) : List D := [.bool a0, .bool a1, .int .i64 a2, .int .i64 a3]


theorem p_paths_New  (r : T_paths_State) (h : paths_New = some r) : PureAt Try.prog 35 [] (.agg (v0 r)) := by
 refine pure_of_iwp (rs := [.agg (v0 r)]) Try.func35 rfl Try.ntmps35 (nle rfl) rfl fun O hO => ?_
 show IWP _ _ _ _ ⟨[], []⟩ _
 unfold paths_New at h
 refine iwp_reg (ils_cons rfl (iop_allocS (cs := q5) (cs' := (w14 false false 0 0 false false 0 0 false false 0 0 false false 0 0 0 ([] : List T_paths_Bind))) 0 rfl rfl (lb rfl) rfl ti35 rfl rfl (.k4 (.k (.k4 (.k (.k4 (.k (.k (.k (.cons (.nils _) .nil)))))))))) <|
  ils_end ?_)
 refine iwp_reg (ils_cons rfl (iop_sub (d' := .agg (w14 false false 0 0 false false 0 0 false false 0 0 false false 0 0 (-1) ([] : List T_paths_Bind))) (iop_build_struct (cs := q5) rfl rfl (lb rfl) Try.underlying35 ti35 pl35 rfl (.cons (sv (d := .int _ (-1)) rfl) .nil) rfl) (.agg (.k4 (.k (.k4 (.k (.k4 (.k (.k (.k (.cons (.nils _) .nil))))))))))) <|
  ils_cons rfl (iop_store (ds' := [.bool _, .bool _, .int _ _, .int _ _, .bool _, .bool _, .int _ _, .int _ _, .bool _, .bool _, .int _ _, .int _ _, .bool _, .bool _, .int _ _, .int _ _, .int _ _, .slice false (([] : List T_paths_Bind).map E_paths_Bind.d)]) rfl rfl ti35 (svR rfl) rfl (svA q3 rfl) rfl rfl rfl (nle rfl) rfl) <|
  ils_end ?_)
 refine iwp_ret ?_
 obtain rfl := Option.some.inj h
 refine ⟨.inr rfl, (.cons (rva la35 rfl rfl (nle rfl) rfl) .nil)⟩

theorem p_slices_Clone_paths_Bind_paths_Bind_h (a0 : (List T_paths_Bind)) (r : (List T_paths_Bind)) (h : slices_Clone_paths_Bind_paths_Bind_h a0 = some r) : FnH Try.prog 64 [.slice false (a0.map E_paths_Bind.d)] [] (.osl 0 E_paths_Bind.sz r.length) [(0, .blk 86 (D.flat (r.map E_paths_Bind.d)))] := by
 refine fnh_of_iwp (rs := [.osl 0 E_paths_Bind.sz r.length]) Try.func64 rfl Try.ntmps64 (nle rfl) fun O hO => ?_
 show IWP _ _ _ _ ⟨[(0, .slice false (a0.map E_paths_Bind.d))], []⟩ _
 unfold slices_Clone_paths_Bind_paths_Bind_h at h
 refine iwp_reg (ils_cons rfl (iop_assign rfl rfl (lb rfl) (sv (d := .nils) rfl)) <|
  ils_end ?_)
 refine iwp_seq ?_
 refine iwp_reg (ils_cons rfl (mvL rfl rfl rfl rfl) <|
  ils_eqnil rfl rfl rfl (by decide) Try.underlying33 (svL rfl) rfl <| fun bn1 hbn1 =>
  ils_end ?_)
 refine iwp_cond (b := _) rfl (fun hc2 => ?_) (fun hc2 => ?_)
 ·
  replace h := bothE_t h (mapE (hbn1 hc2))
  refine iwp_reg (ils_cons rfl (iop_assign rfl rfl (lb rfl) (sv (d := .nils) rfl)) <|
   ils_end ?_)
  refine iwp_ret ?_
  refine thenQ_r ?_
  obtain rfl := Option.some.inj h
  refine ⟨.inr rfl, (fun i => if i = 0 then 50 else i), ⟨.nil, (.cons (.nilb rfl) .nil), nd_of [50] rfl (by decide), (fun i hi => by first | rfl | (show (if _ then _ else _) = _; (repeat' split) <;> omega))⟩, (.cons (svno rfl) .nil), rfl⟩
 ·
  replace h := bothE_f h
  refine iwp_skip ?_
  refine thenQ_n ?_
  obtain ⟨x3, hx3, h⟩ := bno_e h
  refine iwp_reg (ils_cons rfl (iop_bsO E_paths_Bind.toEnc0 ([] : (List T_paths_Bind)) 0 rfl rfl (lb rfl) Try.underlying33 ti86 rfl .nil rfl rfl (by decide)) <|
   ils_cons rfl (mvL rfl rfl rfl rfl) <|
   ils_cons rfl (iop_appO E_paths_Bind.toEnc0 1 rfl rfl (lb rfl) Try.underlying33 ti86 rfl rfl rfl rfl rfl (src_T E_paths_Bind (ys := a0) (svL rfl)) hx3) <|
   ils_cons rfl (iop_assign rfl rfl (lb rfl) (sv (d := .osl _ _ _) rfl)) <|
   ils_end ?_)
  refine iwp_ret ?_
  obtain rfl := Option.some.inj h
  refine ⟨.inr rfl, (fun i => if i = 0 then 1 else i), ⟨.nil, (.cons (EntW.lst rfl) .nil), nd_of [1] rfl (by decide), (fun i hi => by first | rfl | (show (if _ then _ else _) = _; (repeat' split) <;> omega))⟩, (.cons (sv rfl) .nil), rfl⟩

theorem p_paths_State_own_h (a0 : T_paths_State) (r : (Bool × Bool × Int × Int × Bool × Bool × Int × Int × Bool × Bool × Int × Int × Bool × Bool × Int × Int × Int × (List T_paths_Bind))) (h : paths_State_own_h a0 = some r) : FnH Try.prog 40 [.agg (v0 a0)] [] (.agg (w15 r.1 r.2.1 r.2.2.1 r.2.2.2.1 r.2.2.2.2.1 r.2.2.2.2.2.1 r.2.2.2.2.2.2.1 r.2.2.2.2.2.2.2.1 r.2.2.2.2.2.2.2.2.1 r.2.2.2.2.2.2.2.2.2.1 r.2.2.2.2.2.2.2.2.2.2.1 r.2.2.2.2.2.2.2.2.2.2.2.1 r.2.2.2.2.2.2.2.2.2.2.2.2.1 r.2.2.2.2.2.2.2.2.2.2.2.2.2.1 r.2.2.2.2.2.2.2.2.2.2.2.2.2.2.1 r.2.2.2.2.2.2.2.2.2.2.2.2.2.2.2.1 r.2.2.2.2.2.2.2.2.2.2.2.2.2.2.2.2.1 (.osl 0 E_paths_Bind.sz r.2.2.2.2.2.2.2.2.2.2.2.2.2.2.2.2.2.length))) [(0, .blk 86 (D.flat (r.2.2.2.2.2.2.2.2.2.2.2.2.2.2.2.2.2.map E_paths_Bind.d)))] := by
 refine fnh_of_iwp (rs := [.agg (w15 r.1 r.2.1 r.2.2.1 r.2.2.2.1 r.2.2.2.2.1 r.2.2.2.2.2.1 r.2.2.2.2.2.2.1 r.2.2.2.2.2.2.2.1 r.2.2.2.2.2.2.2.2.1 r.2.2.2.2.2.2.2.2.2.1 r.2.2.2.2.2.2.2.2.2.2.1 r.2.2.2.2.2.2.2.2.2.2.2.1 r.2.2.2.2.2.2.2.2.2.2.2.2.1 r.2.2.2.2.2.2.2.2.2.2.2.2.2.1 r.2.2.2.2.2.2.2.2.2.2.2.2.2.2.1 r.2.2.2.2.2.2.2.2.2.2.2.2.2.2.2.1 r.2.2.2.2.2.2.2.2.2.2.2.2.2.2.2.2.1 (.osl 0 E_paths_Bind.sz r.2.2.2.2.2.2.2.2.2.2.2.2.2.2.2.2.2.length))]) Try.func40 rfl Try.ntmps40 (nle rfl) fun O hO => ?_
 show IWP _ _ _ _ ⟨[(0, .agg (v0 a0))], []⟩ _
 unfold paths_State_own_h at h
 refine iwp_reg (ils_cons rfl (iop_box' (cs := q3) 0 rfl rfl (lb rfl) rfl (svA q3 rfl) rfl rfl) <|
  ils_cons rfl (iop_allocS (cs := q5) (cs' := (w14 false false 0 0 false false 0 0 false false 0 0 false false 0 0 0 ([] : List T_paths_Bind))) 1 rfl rfl (lb rfl) rfl ti35 rfl rfl (.k4 (.k (.k4 (.k (.k4 (.k (.k (.k (.cons (.nils _) .nil)))))))))) <|
  ils_end ?_)
 obtain ⟨x1, hx1, h⟩ := bno_e h
 refine iwp_reg (ils_cons rfl (faR 17 rfl rfl rfl Try.underlying35 rfl ti33 (lb rfl) rfl rfl) <|
  ils_cons rfl (lrL la33 rfl rfl rfl rfl rfl (nle rfl) rfl) <|
  ils_cons rfl (iop_callh2 (r' := .osl 2 E_paths_Bind.sz x1.length) (H1' := [(2, .blk 86 (D.flat (x1.map E_paths_Bind.d)))]) 2 [] rfl rfl (lb rfl) cl64 (.cons (svL rfl) .nil) rfl rfl ⟨rfl, rfl, by decide, rfl, List.forall_mem_nil _⟩ (p_slices_Clone_paths_Bind_paths_Bind_h _ _ hx1) rfl rfl (List.forall_mem_cons.2 ⟨⟨rfl, (handLr E_paths_Bind)⟩, List.forall_mem_nil _⟩) (by simp only [List.map_cons, List.map_nil, Ent.ren, renL_flat, renL_ref]; rfl)) <|
  ils_cons rfl (faR 17 rfl rfl rfl Try.underlying35 rfl ti33 (lb rfl) rfl rfl) <|
  ils_cons rfl (iop_store (ds' := q4) rfl rfl ti33 (svR rfl) rfl (sv (d := .osl _ _ _) rfl) rfl rfl rfl (nle rfl) rfl) <|
  ils_end ?_)
 refine iwp_reg (ils_cons rfl (lra q4 la35 rfl rfl rfl rfl rfl (nle rfl) rfl) <|
  ils_cons rfl (stA q4 q4 ti35 rfl rfl rfl rfl rfl rfl rfl rfl (nle rfl) rfl) <|
  ils_end ?_)
 refine iwp_ret ?_
 obtain rfl := Option.some.inj h
 refine ⟨.inr rfl, (fun i => if i = 0 then 2 else i), ⟨.nil, (.cons (EntW.lst rfl) .nil), nd_of [2] rfl (by decide), (fun i hi => by first | rfl | (show (if _ then _ else _) = _; (repeat' split) <;> omega))⟩, (.cons (rva la35 rfl rfl (nle rfl) rfl) .nil), rfl⟩

theorem p_paths_in (a0 : Int) (a1 : Int) (a2 : Int) (r : Bool) (h : paths_in a0 a1 a2 = some r) : PureAt Try.prog 46 [.int .i64 a0, .int .i64 a1, .int .i64 a2] (.bool r) := by
 refine pure_of_iwp (rs := [.bool r]) Try.func46 rfl Try.ntmps46 (nle rfl) rfl fun O hO => ?_
 show IWP _ _ _ _ ⟨[(0, .int .i64 a0), (1, .int .i64 a1), (2, .int .i64 a2)], []⟩ _
 unfold paths_in at h
 refine iwp_reg (ils_cons rfl (iop_assign rfl rfl (lb rfl) (sv (d := .bool false) rfl)) <|
  ils_end ?_)
 obtain ⟨x1, hx1, h⟩ := bnd_e h
 obtain ⟨x2, hx2, h⟩ := bnd_e h
 obtain ⟨x3, hx3, h⟩ := bnd_e h
 refine iwp_reg (ils_cons rfl (mvI rfl rfl rfl rfl) <|
  ils_cons rfl (mvI rfl rfl rfl rfl) <|
  ils_cons rfl (iop_cmpx rfl rfl (lb rfl) (svI rfl) (svI rfl) rfl hx1) <|
  ils_cons rfl (mvB rfl rfl rfl rfl) <|
  ils_guard rfl rfl (.one rfl) rfl (by decide) (fun hb => (mvI rfl rfl rfl rfl)) <|
  ils_guard rfl rfl (.one rfl) rfl (by decide) (fun hb => (mvI rfl rfl rfl rfl)) <|
  ils_guard rfl rfl (.one rfl) rfl (by decide) (fun hb => (iop_cmpx rfl rfl (lb rfl) (svcI rfl hb) (svcI rfl hb) rfl hx2)) <|
  ils_cons rfl (iop_andx rfl rfl (lb rfl) (svB rfl) rfl rfl hx3) <|
  ils_cons rfl (asB rfl rfl rfl rfl) <|
  ils_end ?_)
 refine iwp_ret ?_
 obtain rfl := Option.some.inj h
 refine ⟨.inr rfl, (.cons (sv rfl) .nil)⟩

theorem p_paths_path (a0 : Int) (r : Bool) (h : paths_path a0 = some r) : PureAt Try.prog 41 [.int .i64 a0] (.bool r) := by
 refine pure_of_iwp (rs := [.bool r]) Try.func41 rfl Try.ntmps41 (nle rfl) rfl fun O hO => ?_
 show IWP _ _ _ _ ⟨[(0, .int .i64 a0)], []⟩ _
 unfold paths_path at h
 refine iwp_reg (ils_cons rfl (iop_assign rfl rfl (lb rfl) (sv (d := .bool false) rfl)) <|
  ils_end ?_)
 obtain ⟨x1, hx1, h⟩ := bno_e h
 refine iwp_reg (ils_cons rfl (mvI rfl rfl rfl rfl) <|
  ils_cons rfl (iop_call (r := .bool _) rfl rfl (lb rfl) cl46 (.cons (svI rfl) (.cons (sv (d := .int _ 0) rfl) (.cons (sv (d := .int _ 3) rfl) .nil))) rfl (p_paths_in _ _ _ _ hx1)) <|
  ils_cons rfl (asB rfl rfl rfl rfl) <|
  ils_end ?_)
 refine iwp_ret ?_
 obtain rfl := Option.some.inj h
 refine ⟨.inr rfl, (.cons (sv rfl) .nil)⟩

theorem p_paths_State_numbers_1 (a0 : T_paths_Bind) (r : Bool) (h : paths_State_numbers_1 a0 = some r) : PureAt Try.prog 71 [.agg [.int .i64 a0.Stream, .int .i64 a0.Path]] (.bool r) := by
 refine pure_of_iwp (rs := [.bool r]) Try.func71 rfl Try.ntmps71 (nle rfl) rfl fun O hO => ?_
 show IWP _ _ _ _ ⟨[(0, .agg [.int .i64 a0.Stream, .int .i64 a0.Path])], []⟩ _
 unfold paths_State_numbers_1 at h
 refine iwp_reg (ils_cons rfl (iop_box' (cs := q9) 0 rfl rfl (lb rfl) rfl (svA q9 rfl) rfl rfl) <|
  ils_cons rfl (iop_assign rfl rfl (lb rfl) (sv (d := .bool false) rfl)) <|
  ils_end ?_)
 obtain ⟨x1, hx1, h⟩ := bno_e h
 obtain ⟨x2, hx2, h⟩ := bno_e h
 obtain ⟨x3, hx3, h⟩ := bnd_e h
 refine iwp_reg (ils_cons rfl (faR 0 rfl rfl rfl Try.underlying86 rfl ti3 (lb rfl) rfl rfl) <|
  ils_cons rfl (iop_load_rs (d := .int _ _) rfl rfl (lb rfl) Try.underlying3 ag3 ti3 (by decide) (svR rfl) rfl (nle rfl) rfl) <|
  ils_cons rfl (iop_call (r := .bool _) rfl rfl (lb rfl) cl46 (.cons (svI rfl) (.cons (sv (d := .int _ 1) rfl) (.cons (sv (d := .int _ 1048576) rfl) .nil))) rfl (p_paths_in _ _ _ _ hx1)) <|
  ils_cons rfl (iop_not rfl rfl (lb rfl) (svB rfl)) <|
  ils_cons rfl (mvB rfl rfl rfl rfl) <|
  ils_guard rfl rfl (.one rfl) rfl (by decide) (fun hb => (faR 1 rfl rfl rfl Try.underlying86 rfl ti3 (lb rfl) rfl rfl)) <|
  ils_guard rfl rfl (.one rfl) rfl (by decide) (fun hb => (iop_load_rs (d := .int _ _) rfl rfl (lb rfl) Try.underlying3 ag3 ti3 (by decide) (svcR rfl hb) rfl (nle rfl) rfl)) <|
  ils_guard rfl rfl (.one rfl) rfl (by decide) (fun hb => (iop_call (r := .bool _) rfl rfl (lb rfl) cl41 (.cons (svcI rfl hb) .nil) rfl (p_paths_path _ _ (gd_t hx2 hb)))) <|
  ils_guard rfl rfl (.one rfl) rfl (by decide) (fun hb => (iop_not rfl rfl (lb rfl) (svcB rfl hb))) <|
  ils_cons rfl (iop_orx rfl rfl (lb rfl) (svB rfl) rfl rfl hx3) <|
  ils_cons rfl (asB rfl rfl rfl rfl) <|
  ils_end ?_)
 refine iwp_ret ?_
 obtain rfl := Option.some.inj h
 refine ⟨.inr rfl, (.cons (sv rfl) .nil)⟩

theorem p_slices_IndexFunc_paths_Bind_paths_Bind_numbers_1 (a0 : (List T_paths_Bind)) (r : Int) (h : slices_IndexFunc_paths_Bind_paths_Bind_numbers_1 a0 = some r) : PureAt Try.prog 65 [.slice false (a0.map E_paths_Bind.d), .fn 71 []] (.int .i64 r) := by
 refine pure_of_iwp (rs := [.int .i64 r]) Try.func65 rfl Try.ntmps65 (nle rfl) rfl fun O hO => ?_
 show IWP _ _ _ _ ⟨[(0, .slice false (a0.map E_paths_Bind.d)), (1, .fn 71 [])], []⟩ _
 unfold slices_IndexFunc_paths_Bind_paths_Bind_numbers_1 at h
 refine iwp_reg (ils_cons rfl (iop_assign rfl rfl (lb rfl) (sv (d := .int _ 0) rfl)) <|
  ils_end ?_)
 refine iwp_seq ?_
 refine iwp_reg (ils_cons rfl (mvL rfl rfl rfl rfl) <|
  ils_cons rfl (iop_lenT E_paths_Bind (l := a0) rfl rfl (lb rfl) Try.underlying33 (svL rfl)) <|
  ils_cons rfl (iop_move rfl rfl (lb rfl) (sv (d := .int _ 0) rfl)) <|
  ils_end ?_)
 refine iwp_block ?_
 refine iwp_loopP (α := Nat × Int) (fun z => ⟨[(0, .slice false (a0.map E_paths_Bind.d)), (1, .fn 71 []), (7, .int .i64 (a0.length : Int)), (8, .int .i64 z.2)], []⟩) (fun z => slices_IndexFunc_paths_Bind_paths_Bind_numbers_1_L0 a0 z.1 z.2 = some r) (fun z => z.1) (fuel, 0) (fun i => i) ⟨(.sames rfl rfl), .nil, nd_of [] rfl (by decide), fun _ _ => rfl⟩ ?_ ?_
 ·exact h
 ·
  rintro ⟨n0, v7⟩ h
  cases n0 with
  | zero => exact absurd h (by unfold slices_IndexFunc_paths_Bind_paths_Bind_numbers_1_L0; exact nofun)
  | succ n0 =>
   unfold slices_IndexFunc_paths_Bind_paths_Bind_numbers_1_L0 at h
   obtain ⟨x14, hx14, h⟩ := bnd_e h
   refine iwp_reg (ils_cons rfl (iop_cmpx rfl rfl (lb rfl) (svI rfl) (svI rfl) rfl hx14) <|
    ils_end ?_)
   refine iwp_seq ?_
   refine iwp_cond (b := _) rfl (fun hc15 => ?_) (fun hc15 => ?_)
   ·
    replace h := bif_t h hc15
    refine iwp_skip ?_
    refine thenQ_n ?_
    refine iwp_seq ?_
    refine iwp_block ?_
    refine iwp_reg (ils_cons rfl (mvI rfl rfl rfl rfl) <|
     ils_cons rfl (asI rfl rfl rfl rfl) <|
     ils_end ?_)
    obtain ⟨x16, hx16, h⟩ := bno_e h
    obtain ⟨x17, hx17, h⟩ := bno_e h
    refine iwp_reg (ils_cons rfl (iop_move rfl rfl (lb rfl) (sv (d := .fn 71 []) rfl)) <|
     ils_cons rfl (mvL rfl rfl rfl rfl) <|
     ils_cons rfl (mvI rfl rfl rfl rfl) <|
     ils_cons rfl (iop_idxT E_paths_Bind (cs := q9) rfl rfl (lb rfl) Try.underlying33 ti86 (svL rfl) (svI rfl) hx16 rfl rfl) <|
     ils_cons rfl (iop_load_fa (cs := q9) rfl rfl (lb rfl) Try.underlying86 ag86 ti86 (by decide) (sv (d := .fptr q9) rfl) (nle rfl) rfl) <|
     ils_cons rfl (iop_callv (r := .bool _) rfl rfl (lb rfl) cl71 (sv (d := .fn 71 []) rfl) (.cons (svA q9 rfl) .nil) rfl (p_paths_State_numbers_1 _ _ hx17)) <|
     ils_end ?_)
    refine iwp_cond (b := _) rfl (fun hc18 => ?_) (fun hc18 => ?_)
    ·
     replace h := bif_t h hc18
     refine iwp_reg (ils_cons rfl (mvI rfl rfl rfl rfl) <|
      ils_cons rfl (asI rfl rfl rfl rfl) <|
      ils_end ?_)
     refine iwp_ret ?_
     refine blockQ_r ?_
     refine thenQ_r ?_
     refine thenQ_r ?_
     refine blockQ_r ?_
     refine thenQ_r ?_
     obtain rfl := Option.some.inj h
     refine ⟨.inr rfl, (.cons (sv rfl) .nil)⟩
    ·
     replace h := bif_f h hc18
     refine iwp_skip ?_
     refine blockQ_n ?_
     refine thenQ_n ?_
     obtain ⟨x19, hx19, h⟩ := bnd_e h
     refine iwp_region (ils_cons rfl (iop_intx rfl rfl (lb rfl) (svI rfl) (sv (d := .int _ 1) rfl) rfl hx19) <|
      ils_cons rfl (mvI rfl rfl rfl rfl) <|
      ils_nil ?_)
     refine thenQ_n ⟨(n0, x19), (fun i => i), ⟨(.sames rfl rfl), .nil, nd_of [] rfl (by decide), fun _ _ => rfl⟩, ?_, ?_⟩
     exact h
     exact Nat.lt_succ_self _
   ·
    replace h := bif_f h hc15
    refine iwp_exit ?_
    refine thenQ_e ?_
    refine thenQ_e ?_
    refine blockQ_e ?_
    refine thenQ_n ?_
    refine iwp_reg (ils_cons rfl (iop_assign rfl rfl (lb rfl) (sv (d := .int _ (-1)) rfl)) <|
     ils_end ?_)
    refine iwp_ret ?_
    obtain rfl := Option.some.inj h
    refine ⟨.inr rfl, (.cons (sv rfl) .nil)⟩

theorem p_slices_ContainsFunc_paths_Bind_paths_Bind_numbers_1 (a0 : (List T_paths_Bind)) (r : Bool) (h : slices_ContainsFunc_paths_Bind_paths_Bind_numbers_1 a0 = some r) : PureAt Try.prog 58 [.slice false (a0.map E_paths_Bind.d), .fn 71 []] (.bool r) := by
 refine pure_of_iwp (rs := [.bool r]) Try.func58 rfl Try.ntmps58 (nle rfl) rfl fun O hO => ?_
 show IWP _ _ _ _ ⟨[(0, .slice false (a0.map E_paths_Bind.d)), (1, .fn 71 [])], []⟩ _
 unfold slices_ContainsFunc_paths_Bind_paths_Bind_numbers_1 at h
 refine iwp_reg (ils_cons rfl (iop_assign rfl rfl (lb rfl) (sv (d := .bool false) rfl)) <|
  ils_end ?_)
 obtain ⟨x1, hx1, h⟩ := bno_e h
 obtain ⟨x2, hx2, h⟩ := bnd_e h
 refine iwp_reg (ils_cons rfl (mvL rfl rfl rfl rfl) <|
  ils_cons rfl (iop_move rfl rfl (lb rfl) (sv (d := .fn 71 []) rfl)) <|
  ils_cons rfl (iop_call (r := .int _ _) rfl rfl (lb rfl) cl65 (.cons (svL rfl) (.cons (sv (d := .fn 71 []) rfl) .nil)) rfl (p_slices_IndexFunc_paths_Bind_paths_Bind_numbers_1 _ _ hx1)) <|
  ils_cons rfl (iop_cmpx rfl rfl (lb rfl) (svI rfl) (sv (d := .int _ 0) rfl) rfl hx2) <|
  ils_cons rfl (asB rfl rfl rfl rfl) <|
  ils_end ?_)
 refine iwp_ret ?_
 obtain rfl := Option.some.inj h
 refine ⟨.inr rfl, (.cons (sv rfl) .nil)⟩

theorem p_paths_State_numbers (a0 : T_paths_State) (r : Bool) (h : paths_State_numbers a0 = some r) : PureAt Try.prog 56 [.agg (v0 a0)] (.bool r) := by
 refine pure_of_iwp (rs := [.bool r]) Try.func56 rfl Try.ntmps56 (nle rfl) rfl fun O hO => ?_
 show IWP _ _ _ _ ⟨[(0, .agg (v0 a0))], []⟩ _
 unfold paths_State_numbers at h
 refine iwp_reg (ils_cons rfl (iop_box' (cs := q3) 0 rfl rfl (lb rfl) rfl (svA q3 rfl) rfl rfl) <|
  ils_cons rfl (iop_assign rfl rfl (lb rfl) (sv (d := .bool false) rfl)) <|
  ils_end ?_)
 refine iwp_seq ?_
 refine iwp_reg (ils_cons rfl (faR 0 rfl rfl rfl Try.underlying35 rfl ti32 (lb rfl) rfl rfl) <|
  ils_cons rfl (lra q6 la32 rfl rfl rfl rfl rfl (nle rfl) rfl) <|
  ils_cons rfl (iop_move rfl rfl (lb rfl) (sv (d := .int _ 0) rfl)) <|
  ils_end ?_)
 refine iwp_block ?_
 refine iwp_loopP (α := Nat × Int) (fun z => ⟨[(1, .ref 0 0), (8, .agg (v1 a0.Lines)), (9, .int .i64 z.2)], [(0, .blk 35 (v0 a0))]⟩) (fun z => paths_State_numbers_L0 a0 z.1 z.2 = some r) (fun z => z.1) (fuel, 0) (fun i => i) ⟨(.sames rfl rfl), (.cons (.blk rfl rfl rfl) .nil), nd_of [0] rfl (by decide), fun _ _ => rfl⟩ ?_ ?_
 ·exact h
 ·
  rintro ⟨n0, v8⟩ h
  cases n0 with
  | zero => exact absurd h (by unfold paths_State_numbers_L0; exact nofun)
  | succ n0 =>
   unfold paths_State_numbers_L0 at h
   obtain ⟨x17, hx17, h⟩ := bnd_e h
   refine iwp_reg (ils_cons rfl (iop_cmpx rfl rfl (lb rfl) (svI rfl) (sv (d := .int _ 4) rfl) rfl hx17) <|
    ils_end ?_)
   refine iwp_seq ?_
   refine iwp_cond (b := _) rfl (fun hc18 => ?_) (fun hc18 => ?_)
   ·
    replace h := bif_t h hc18
    refine iwp_skip ?_
    refine thenQ_n ?_
    refine iwp_seq ?_
    refine iwp_block ?_
    obtain ⟨x19, hx19, h⟩ := bno_e h
    refine iwp_reg (ils_cons rfl (iop_ix_sel_a E_paths_Line (ds := q8) rfl rfl (lb rfl) Try.underlying32 Try.underlying31 ag31 ti31 (by decide) (svA q6 rfl) (svI rfl) hx19 rfl ⟨rfl, ⟨rfl, ⟨rfl, ⟨rfl, trivial⟩⟩⟩⟩ rfl rfl) <|
     ils_cons rfl (iop_allocS (cs := q8) (cs' := (w16 false false 0 0)) 1 rfl rfl (lb rfl) rfl ti31 rfl rfl (.all _)) <|
     ils_cons rfl (stA q8 q8 ti31 rfl rfl rfl rfl rfl rfl rfl rfl (nle rfl) rfl) <|
     ils_end ?_)
    obtain ⟨x20, hx20, h⟩ := bno_e h
    obtain ⟨x21, hx21, h⟩ := bno_e h
    obtain ⟨x22, hx22, h⟩ := bnd_e h
    refine iwp_reg (ils_cons rfl (faR 2 rfl rfl rfl Try.underlying31 rfl ti3 (lb rfl) rfl rfl) <|
     ils_cons rfl (iop_load_rs (d := .int _ _) rfl rfl (lb rfl) Try.underlying3 ag3 ti3 (by decide) (svR rfl) rfl (nle rfl) rfl) <|
     ils_cons rfl (iop_call (r := .bool _) rfl rfl (lb rfl) cl46 (.cons (svI rfl) (.cons (sv (d := .int _ 0) rfl) (.cons (sv (d := .int _ 1099511627776) rfl) .nil))) rfl (p_paths_in _ _ _ _ hx20)) <|
     ils_cons rfl (iop_not rfl rfl (lb rfl) (svB rfl)) <|
     ils_cons rfl (mvB rfl rfl rfl rfl) <|
     ils_guard rfl rfl (.one rfl) rfl (by decide) (fun hb => (faR 3 rfl rfl rfl Try.underlying31 rfl ti3 (lb rfl) rfl rfl)) <|
     ils_guard rfl rfl (.one rfl) rfl (by decide) (fun hb => (iop_load_rs (d := .int _ _) rfl rfl (lb rfl) Try.underlying3 ag3 ti3 (by decide) (svcR rfl hb) rfl (nle rfl) rfl)) <|
     ils_guard rfl rfl (.one rfl) rfl (by decide) (fun hb => (iop_call (r := .bool _) rfl rfl (lb rfl) cl46 (.cons (svcI rfl hb) (.cons (sv (d := .int _ 0) rfl) (.cons (sv (d := .int _ 1099511627776) rfl) .nil))) rfl (p_paths_in _ _ _ _ (gd_t hx21 hb)))) <|
     ils_guard rfl rfl (.one rfl) rfl (by decide) (fun hb => (iop_not rfl rfl (lb rfl) (svcB rfl hb))) <|
     ils_cons rfl (iop_orx rfl rfl (lb rfl) (svB rfl) rfl rfl hx22) <|
     ils_end ?_)
    refine iwp_cond (b := _) rfl (fun hc23 => ?_) (fun hc23 => ?_)
    ·
     replace h := bif_t h hc23
     refine iwp_reg (ils_cons rfl (iop_assign rfl rfl (lb rfl) (sv (d := .bool false) rfl)) <|
      ils_end ?_)
     refine iwp_ret ?_
     refine blockQ_r ?_
     refine thenQ_r ?_
     refine thenQ_r ?_
     refine blockQ_r ?_
     refine thenQ_r ?_
     obtain rfl := Option.some.inj h
     refine ⟨.inr rfl, (.cons (sv rfl) .nil)⟩
    ·
     replace h := bif_f h hc23
     refine iwp_skip ?_
     refine blockQ_n ?_
     refine thenQ_n ?_
     obtain ⟨x24, hx24, h⟩ := bnd_e h
     refine iwp_region (ils_cons rfl (iop_intx rfl rfl (lb rfl) (svI rfl) (sv (d := .int _ 1) rfl) rfl hx24) <|
      ils_cons rfl (mvI rfl rfl rfl rfl) <|
      ils_nil ?_)
     refine thenQ_n ⟨(n0, x24), (fun i => i), ⟨(.sames rfl rfl), (.cons (.blk rfl rfl rfl) .nil), nd_of [0] rfl (by decide), fun _ _ => rfl⟩, ?_, ?_⟩
     exact h
     exact Nat.lt_succ_self _
   ·
    replace h := bif_f h hc18
    refine iwp_exit ?_
    refine thenQ_e ?_
    refine thenQ_e ?_
    refine blockQ_e ?_
    refine thenQ_n ?_
    refine iwp_reg (ils_cons rfl (iop_assign rfl rfl (lb rfl) (sv (d := .fn 71 []) rfl)) <|
     ils_end ?_)
    obtain ⟨x25, hx25, h⟩ := bnd_e h
    obtain ⟨x26, hx26, h⟩ := bno_e h
    obtain ⟨x27, hx27, h⟩ := bnd_e h
    refine iwp_reg (ils_cons rfl (faR 16 rfl rfl rfl Try.underlying35 rfl ti3 (lb rfl) rfl rfl) <|
     ils_cons rfl (iop_load_rs (d := .int _ _) rfl rfl (lb rfl) Try.underlying3 ag3 ti3 (by decide) (svR rfl) rfl (nle rfl) rfl) <|
     ils_cons rfl (iop_cmpx rfl rfl (lb rfl) (svI rfl) (sv (d := .int _ (-1)) rfl) rfl hx25) <|
     ils_cons rfl (mvB rfl rfl rfl rfl) <|
     ils_guard rfl rfl (.one rfl) rfl (by decide) (fun hb => (faR 16 rfl rfl rfl Try.underlying35 rfl ti3 (lb rfl) rfl rfl)) <|
     ils_guard rfl rfl (.one rfl) rfl (by decide) (fun hb => (iop_load_rs (d := .int _ _) rfl rfl (lb rfl) Try.underlying3 ag3 ti3 (by decide) (svcR rfl hb) rfl (nle rfl) rfl)) <|
     ils_guard rfl rfl (.one rfl) rfl (by decide) (fun hb => (iop_call (r := .bool _) rfl rfl (lb rfl) cl41 (.cons (svcI rfl hb) .nil) rfl (p_paths_path _ _ (gd_t hx26 hb)))) <|
     ils_cons rfl (iop_orx rfl rfl (lb rfl) (svB rfl) rfl rfl hx27) <|
     ils_cons rfl (asB rfl rfl rfl rfl) <|
     ils_end ?_)
    obtain ⟨x28, hx28, h⟩ := bnd_e h
    obtain ⟨x29, hx29, h⟩ := bnd_e h
    obtain ⟨x30, hx30, h⟩ := bno_e h
    obtain ⟨x31, hx31, h⟩ := bnd_e h
    refine iwp_reg (ils_cons rfl (mvB rfl rfl rfl rfl) <|
     ils_cons rfl (mvB rfl rfl rfl rfl) <|
     ils_guard rfl rfl (.one rfl) rfl (by decide) (fun hb => (faR 17 rfl rfl rfl Try.underlying35 rfl ti33 (lb rfl) rfl rfl)) <|
     ils_guard rfl rfl (.one rfl) rfl (by decide) (fun hb => (iop_load_rs (d := .slice _ _) rfl rfl (lb rfl) Try.underlying33 ag33 ti33 (by decide) (svcR rfl hb) rfl (nle rfl) rfl)) <|
     ils_guard rfl rfl (.one rfl) rfl (by decide) (fun hb => (iop_lenT E_paths_Bind (l := a0.Binds) rfl rfl (lb rfl) Try.underlying33 (svcL rfl hb))) <|
     ils_guard rfl rfl (.one rfl) rfl (by decide) (fun hb => (iop_cmpx rfl rfl (lb rfl) (svcI rfl hb) (sv (d := .int _ 32) rfl) rfl hx28)) <|
     ils_cons rfl (iop_andx rfl rfl (lb rfl) (svB rfl) rfl rfl hx29) <|
     ils_cons rfl (mvB rfl rfl rfl rfl) <|
     ils_guard rfl rfl (.one rfl) rfl (by decide) (fun hb => (faR 17 rfl rfl rfl Try.underlying35 rfl ti33 (lb rfl) rfl rfl)) <|
     ils_guard rfl rfl (.one rfl) rfl (by decide) (fun hb => (iop_load_rs (d := .slice _ _) rfl rfl (lb rfl) Try.underlying33 ag33 ti33 (by decide) (svcR rfl hb) rfl (nle rfl) rfl)) <|
     ils_guard rfl rfl (.one rfl) rfl (by decide) (fun hb => (iop_move rfl rfl (lb rfl) (sv (d := .fn 71 []) rfl))) <|
     ils_guard rfl rfl (.one rfl) rfl (by decide) (fun hb => (iop_call (r := .bool _) rfl rfl (lb rfl) cl58 (.cons (svcL rfl hb) (.cons (svc (d := .fn 71 []) rfl hb) .nil)) rfl (p_slices_ContainsFunc_paths_Bind_paths_Bind_numbers_1 _ _ (gd_t hx30 hb)))) <|
     ils_guard rfl rfl (.one rfl) rfl (by decide) (fun hb => (iop_not rfl rfl (lb rfl) (svcB rfl hb))) <|
     ils_cons rfl (iop_andx rfl rfl (lb rfl) (svB rfl) rfl rfl hx31) <|
     ils_cons rfl (asB rfl rfl rfl rfl) <|
     ils_end ?_)
    refine iwp_ret ?_
    obtain rfl := Option.some.inj h
    refine ⟨.inr rfl, (.cons (sv rfl) .nil)⟩

theorem p_paths_State_up (a0 : T_paths_State) (a1 : Int) (r : Bool) (h : paths_State_up a0 a1 = some r) : PureAt Try.prog 43 [.agg (v0 a0), .int .i64 a1] (.bool r) := by
 refine pure_of_iwp (rs := [.bool r]) Try.func43 rfl Try.ntmps43 (nle rfl) rfl fun O hO => ?_
 show IWP _ _ _ _ ⟨[(0, .agg (v0 a0)), (1, .int .i64 a1)], []⟩ _
 unfold paths_State_up at h
 refine iwp_reg (ils_cons rfl (iop_box' (cs := q3) 0 rfl rfl (lb rfl) rfl (svA q3 rfl) rfl rfl) <|
  ils_cons rfl (iop_assign rfl rfl (lb rfl) (sv (d := .bool false) rfl)) <|
  ils_end ?_)
 obtain ⟨x1, hx1, h⟩ := bno_e h
 obtain ⟨hk2, h⟩ := chk_e h
 obtain ⟨x3, hx3, h⟩ := bno_e h
 obtain ⟨x4, hx4, h⟩ := bnd_e h
 refine iwp_reg (ils_cons rfl (mvI rfl rfl rfl rfl) <|
  ils_cons rfl (iop_call (r := .bool _) rfl rfl (lb rfl) cl41 (.cons (svI rfl) .nil) rfl (p_paths_path _ _ hx1)) <|
  ils_cons rfl (mvB rfl rfl rfl rfl) <|
  ils_guard rfl rfl (.one rfl) rfl (by decide) (fun hb => (mvI rfl rfl rfl rfl)) <|
  ils_guard rfl rfl (.one rfl) rfl (by decide) (fun hb => (faR 0 rfl rfl rfl Try.underlying35 rfl ti32 (lb rfl) rfl rfl)) <|
  ils_guard rfl rfl (.one rfl) rfl (by decide) (fun hb => (iop_index_sel rfl rfl (lb rfl) Try.underlying32 ti31 (svcR rfl hb) (svcI rfl hb) (hk2 hb))) <|
  ils_guard rfl rfl (.one rfl) rfl (by decide) (fun hb => (iop_field_sel rfl rfl (lb rfl) Try.underlying31 rfl ti4 (by decide) (svcR rfl hb) (k' := 0) rfl)) <|
  ils_guard rfl rfl (.one rfl) rfl (by decide) (fun hb => (iop_load_sel_s eBool (b := 0) (k := 0) (sz := 4) (d := .bool _) rfl rfl (lb rfl) Try.underlying4 ag4 ti4 (svcR rfl hb) rfl (gd_t hx3 hb) ⟨rfl, ⟨rfl, ⟨rfl, ⟨rfl, trivial⟩⟩⟩⟩ rfl)) <|
  ils_cons rfl (iop_andx rfl rfl (lb rfl) (svB rfl) rfl rfl hx4) <|
  ils_cons rfl (asB rfl rfl rfl rfl) <|
  ils_end ?_)
 refine iwp_ret ?_
 obtain rfl := Option.some.inj h
 refine ⟨.inr rfl, (.cons (sv rfl) .nil)⟩

theorem p_paths_Check_1 (a0 : T_paths_Bind) (a1 : T_paths_State) (r : Bool) (h : paths_Check_1 a0 a1 = some r) : PureAt Try.prog 57 [.agg [.int .i64 a0.Stream, .int .i64 a0.Path], .fptr (v0 a1)] (.bool r) := by
 refine pure_of_iwp (rs := [.bool r]) Try.func57 rfl Try.ntmps57 (nle rfl) rfl fun O hO => ?_
 show IWP _ _ _ _ ⟨[(0, .agg [.int .i64 a0.Stream, .int .i64 a0.Path]), (1, .fptr (v0 a1))], []⟩ _
 unfold paths_Check_1 at h
 refine iwp_reg (ils_cons rfl (iop_box' (cs := q9) 0 rfl rfl (lb rfl) rfl (svA q9 rfl) rfl rfl) <|
  ils_cons rfl (iop_assign rfl rfl (lb rfl) (sv (d := .bool false) rfl)) <|
  ils_end ?_)
 obtain ⟨x1, hx1, h⟩ := bno_e h
 refine iwp_reg (ils_cons rfl (iop_load_fa (cs := q3) rfl rfl (lb rfl) Try.underlying35 ag35 ti35 (by decide) (sv (d := .fptr q3) rfl) (nle rfl) rfl) <|
  ils_cons rfl (faR 1 rfl rfl rfl Try.underlying86 rfl ti3 (lb rfl) rfl rfl) <|
  ils_cons rfl (iop_load_rs (d := .int _ _) rfl rfl (lb rfl) Try.underlying3 ag3 ti3 (by decide) (svR rfl) rfl (nle rfl) rfl) <|
  ils_cons rfl (iop_call (r := .bool _) rfl rfl (lb rfl) cl43 (.cons (svA q3 rfl) (.cons (svI rfl) .nil)) rfl (p_paths_State_up _ _ _ hx1)) <|
  ils_cons rfl (iop_not rfl rfl (lb rfl) (svB rfl)) <|
  ils_cons rfl (asB rfl rfl rfl rfl) <|
  ils_end ?_)
 refine iwp_ret ?_
 obtain rfl := Option.some.inj h
 refine ⟨.inr rfl, (.cons (sv rfl) .nil)⟩

theorem p_slices_IndexFunc_paths_Bind_paths_Bind_Check_1 (a0 : (List T_paths_Bind)) (a1 : T_paths_State) (r : Int) (h : slices_IndexFunc_paths_Bind_paths_Bind_Check_1 a0 a1 = some r) : PureAt Try.prog 65 [.slice false (a0.map E_paths_Bind.d), .fn 57 [.fptr (v0 a1)]] (.int .i64 r) := by
 refine pure_of_iwp (rs := [.int .i64 r]) Try.func65 rfl Try.ntmps65 (nle rfl) rfl fun O hO => ?_
 show IWP _ _ _ _ ⟨[(0, .slice false (a0.map E_paths_Bind.d)), (1, .fn 57 [.fptr (v0 a1)])], []⟩ _
 unfold slices_IndexFunc_paths_Bind_paths_Bind_Check_1 at h
 refine iwp_reg (ils_cons rfl (iop_assign rfl rfl (lb rfl) (sv (d := .int _ 0) rfl)) <|
  ils_end ?_)
 refine iwp_seq ?_
 refine iwp_reg (ils_cons rfl (mvL rfl rfl rfl rfl) <|
  ils_cons rfl (iop_lenT E_paths_Bind (l := a0) rfl rfl (lb rfl) Try.underlying33 (svL rfl)) <|
  ils_cons rfl (iop_move rfl rfl (lb rfl) (sv (d := .int _ 0) rfl)) <|
  ils_end ?_)
 refine iwp_block ?_
 refine iwp_loopP (α := Nat × Int) (fun z => ⟨[(0, .slice false (a0.map E_paths_Bind.d)), (1, .fn 57 [.fptr (v0 a1)]), (7, .int .i64 (a0.length : Int)), (8, .int .i64 z.2)], []⟩) (fun z => slices_IndexFunc_paths_Bind_paths_Bind_Check_1_L0 a0 a1 z.1 z.2 = some r) (fun z => z.1) (fuel, 0) (fun i => i) ⟨(.sames rfl rfl), .nil, nd_of [] rfl (by decide), fun _ _ => rfl⟩ ?_ ?_
 ·exact h
 ·
  rintro ⟨n0, v7⟩ h
  cases n0 with
  | zero => exact absurd h (by unfold slices_IndexFunc_paths_Bind_paths_Bind_Check_1_L0; exact nofun)
  | succ n0 =>
   unfold slices_IndexFunc_paths_Bind_paths_Bind_Check_1_L0 at h
   obtain ⟨x14, hx14, h⟩ := bnd_e h
   refine iwp_reg (ils_cons rfl (iop_cmpx rfl rfl (lb rfl) (svI rfl) (svI rfl) rfl hx14) <|
    ils_end ?_)
   refine iwp_seq ?_
   refine iwp_cond (b := _) rfl (fun hc15 => ?_) (fun hc15 => ?_)
   ·
    replace h := bif_t h hc15
    refine iwp_skip ?_
    refine thenQ_n ?_
    refine iwp_seq ?_
    refine iwp_block ?_
    refine iwp_reg (ils_cons rfl (mvI rfl rfl rfl rfl) <|
     ils_cons rfl (asI rfl rfl rfl rfl) <|
     ils_end ?_)
    obtain ⟨x16, hx16, h⟩ := bno_e h
    obtain ⟨x17, hx17, h⟩ := bno_e h
    refine iwp_reg (ils_cons rfl (iop_move rfl rfl (lb rfl) (sv (d := .fn 57 [.fptr q3]) rfl)) <|
     ils_cons rfl (mvL rfl rfl rfl rfl) <|
     ils_cons rfl (mvI rfl rfl rfl rfl) <|
     ils_cons rfl (iop_idxT E_paths_Bind (cs := q9) rfl rfl (lb rfl) Try.underlying33 ti86 (svL rfl) (svI rfl) hx16 rfl rfl) <|
     ils_cons rfl (iop_load_fa (cs := q9) rfl rfl (lb rfl) Try.underlying86 ag86 ti86 (by decide) (sv (d := .fptr q9) rfl) (nle rfl) rfl) <|
     ils_cons rfl (iop_callv (r := .bool _) rfl rfl (lb rfl) cl57 (sv (d := .fn 57 [.fptr q3]) rfl) (.cons (svA q9 rfl) .nil) rfl (p_paths_Check_1 _ _ _ hx17)) <|
     ils_end ?_)
    refine iwp_cond (b := _) rfl (fun hc18 => ?_) (fun hc18 => ?_)
    ·
     replace h := bif_t h hc18
     refine iwp_reg (ils_cons rfl (mvI rfl rfl rfl rfl) <|
      ils_cons rfl (asI rfl rfl rfl rfl) <|
      ils_end ?_)
     refine iwp_ret ?_
     refine blockQ_r ?_
     refine thenQ_r ?_
     refine thenQ_r ?_
     refine blockQ_r ?_
     refine thenQ_r ?_
     obtain rfl := Option.some.inj h
     refine ⟨.inr rfl, (.cons (sv rfl) .nil)⟩
    ·
     replace h := bif_f h hc18
     refine iwp_skip ?_
     refine blockQ_n ?_
     refine thenQ_n ?_
     obtain ⟨x19, hx19, h⟩ := bnd_e h
     refine iwp_region (ils_cons rfl (iop_intx rfl rfl (lb rfl) (svI rfl) (sv (d := .int _ 1) rfl) rfl hx19) <|
      ils_cons rfl (mvI rfl rfl rfl rfl) <|
      ils_nil ?_)
     refine thenQ_n ⟨(n0, x19), (fun i => i), ⟨(.sames rfl rfl), .nil, nd_of [] rfl (by decide), fun _ _ => rfl⟩, ?_, ?_⟩
     exact h
     exact Nat.lt_succ_self _
   ·
    replace h := bif_f h hc15
    refine iwp_exit ?_
    refine thenQ_e ?_
    refine thenQ_e ?_
    refine blockQ_e ?_
    refine thenQ_n ?_
    refine iwp_reg (ils_cons rfl (iop_assign rfl rfl (lb rfl) (sv (d := .int _ (-1)) rfl)) <|
     ils_end ?_)
    refine iwp_ret ?_
    obtain rfl := Option.some.inj h
    refine ⟨.inr rfl, (.cons (sv rfl) .nil)⟩

theorem p_slices_ContainsFunc_paths_Bind_paths_Bind_Check_1 (a0 : (List T_paths_Bind)) (a1 : T_paths_State) (r : Bool) (h : slices_ContainsFunc_paths_Bind_paths_Bind_Check_1 a0 a1 = some r) : PureAt Try.prog 58 [.slice false (a0.map E_paths_Bind.d), .fn 57 [.fptr (v0 a1)]] (.bool r) := by
 refine pure_of_iwp (rs := [.bool r]) Try.func58 rfl Try.ntmps58 (nle rfl) rfl fun O hO => ?_
 show IWP _ _ _ _ ⟨[(0, .slice false (a0.map E_paths_Bind.d)), (1, .fn 57 [.fptr (v0 a1)])], []⟩ _
 unfold slices_ContainsFunc_paths_Bind_paths_Bind_Check_1 at h
 refine iwp_reg (ils_cons rfl (iop_assign rfl rfl (lb rfl) (sv (d := .bool false) rfl)) <|
  ils_end ?_)
 obtain ⟨x1, hx1, h⟩ := bno_e h
 obtain ⟨x2, hx2, h⟩ := bnd_e h
 refine iwp_reg (ils_cons rfl (mvL rfl rfl rfl rfl) <|
  ils_cons rfl (iop_move rfl rfl (lb rfl) (sv (d := .fn 57 [.fptr q3]) rfl)) <|
  ils_cons rfl (iop_call (r := .int _ _) rfl rfl (lb rfl) cl65 (.cons (svL rfl) (.cons (sv (d := .fn 57 [.fptr q3]) rfl) .nil)) rfl (p_slices_IndexFunc_paths_Bind_paths_Bind_Check_1 _ _ _ hx1)) <|
  ils_cons rfl (iop_cmpx rfl rfl (lb rfl) (svI rfl) (sv (d := .int _ 0) rfl) rfl hx2) <|
  ils_cons rfl (asB rfl rfl rfl rfl) <|
  ils_end ?_)
 refine iwp_ret ?_
 obtain rfl := Option.some.inj h
 refine ⟨.inr rfl, (.cons (sv rfl) .nil)⟩

theorem p_paths_Check (a0 : T_paths_State) (r : Int) (h : paths_Check a0 = some r) : PureAt Try.prog 28 [.agg (v0 a0)] (.int .i64 r) := by
 refine pure_of_iwp (rs := [.int .i64 r]) Try.func28 rfl Try.ntmps28 (nle rfl) rfl fun O hO => ?_
 show IWP _ _ _ _ ⟨[(0, .agg (v0 a0))], []⟩ _
 unfold paths_Check at h
 refine iwp_reg (ils_cons rfl (iop_box' (cs := q3) 0 rfl rfl (lb rfl) rfl (svA q3 rfl) rfl rfl) <|
  ils_cons rfl (iop_assign rfl rfl (lb rfl) (sv (d := .int _ 0) rfl)) <|
  ils_end ?_)
 refine iwp_seq ?_
 refine iwp_reg (ils_cons rfl (faR 0 rfl rfl rfl Try.underlying35 rfl ti32 (lb rfl) rfl rfl) <|
  ils_cons rfl (lra q6 la32 rfl rfl rfl rfl rfl (nle rfl) rfl) <|
  ils_cons rfl (iop_move rfl rfl (lb rfl) (sv (d := .int _ 0) rfl)) <|
  ils_end ?_)
 refine iwp_block ?_
 refine iwp_loopP (α := Nat × Int) (fun z => ⟨[(1, .ref 0 0), (8, .agg (v1 a0.Lines)), (9, .int .i64 z.2)], [(0, .blk 35 (v0 a0))]⟩) (fun z => paths_Check_L0 a0 z.1 z.2 = some r) (fun z => z.1) (fuel, 0) (fun i => i) ⟨(.sames rfl rfl), (.cons (.blk rfl rfl rfl) .nil), nd_of [0] rfl (by decide), fun _ _ => rfl⟩ ?_ ?_
 ·exact h
 ·
  rintro ⟨n0, v6⟩ h
  cases n0 with
  | zero => exact absurd h (by unfold paths_Check_L0; exact nofun)
  | succ n0 =>
   unfold paths_Check_L0 at h
   obtain ⟨x13, hx13, h⟩ := bnd_e h
   refine iwp_reg (ils_cons rfl (iop_cmpx rfl rfl (lb rfl) (svI rfl) (sv (d := .int _ 4) rfl) rfl hx13) <|
    ils_end ?_)
   refine iwp_seq ?_
   refine iwp_cond (b := _) rfl (fun hc14 => ?_) (fun hc14 => ?_)
   ·
    replace h := bif_t h hc14
    refine iwp_skip ?_
    refine thenQ_n ?_
    refine iwp_seq ?_
    refine iwp_block ?_
    obtain ⟨x15, hx15, h⟩ := bno_e h
    refine iwp_reg (ils_cons rfl (iop_ix_sel_a E_paths_Line (ds := q8) rfl rfl (lb rfl) Try.underlying32 Try.underlying31 ag31 ti31 (by decide) (svA q6 rfl) (svI rfl) hx15 rfl ⟨rfl, ⟨rfl, ⟨rfl, ⟨rfl, trivial⟩⟩⟩⟩ rfl rfl) <|
     ils_cons rfl (iop_allocS (cs := q8) (cs' := (w16 false false 0 0)) 1 rfl rfl (lb rfl) rfl ti31 rfl rfl (.all _)) <|
     ils_cons rfl (stA q8 q8 ti31 rfl rfl rfl rfl rfl rfl rfl rfl (nle rfl) rfl) <|
     ils_end ?_)
    obtain ⟨x16, hx16, h⟩ := bnd_e h
    refine iwp_reg (ils_cons rfl (faR 0 rfl rfl rfl Try.underlying31 rfl ti4 (lb rfl) rfl rfl) <|
     ils_cons rfl (iop_load_rs (d := .bool _) rfl rfl (lb rfl) Try.underlying4 ag4 ti4 (by decide) (svR rfl) rfl (nle rfl) rfl) <|
     ils_cons rfl (mvB rfl rfl rfl rfl) <|
     ils_guard rfl rfl (.one rfl) rfl (by decide) (fun hb => (faR 1 rfl rfl rfl Try.underlying31 rfl ti4 (lb rfl) rfl rfl)) <|
     ils_guard rfl rfl (.one rfl) rfl (by decide) (fun hb => (iop_load_rs (d := .bool _) rfl rfl (lb rfl) Try.underlying4 ag4 ti4 (by decide) (svcR rfl hb) rfl (nle rfl) rfl)) <|
     ils_cons rfl (iop_andx rfl rfl (lb rfl) (svB rfl) rfl rfl hx16) <|
     ils_end ?_)
    refine iwp_cond (b := _) rfl (fun hc17 => ?_) (fun hc17 => ?_)
    ·
     replace h := bif_t h hc17
     refine iwp_reg (ils_cons rfl (iop_assign rfl rfl (lb rfl) (sv (d := .int _ 4) rfl)) <|
      ils_end ?_)
     refine iwp_ret ?_
     refine blockQ_r ?_
     refine thenQ_r ?_
     refine thenQ_r ?_
     refine blockQ_r ?_
     refine thenQ_r ?_
     obtain rfl := Option.some.inj h
     refine ⟨.inr rfl, (.cons (sv rfl) .nil)⟩
    ·
     replace h := bif_f h hc17
     refine iwp_skip ?_
     refine blockQ_n ?_
     refine thenQ_n ?_
     obtain ⟨x18, hx18, h⟩ := bnd_e h
     refine iwp_region (ils_cons rfl (iop_intx rfl rfl (lb rfl) (svI rfl) (sv (d := .int _ 1) rfl) rfl hx18) <|
      ils_cons rfl (mvI rfl rfl rfl rfl) <|
      ils_nil ?_)
     refine thenQ_n ⟨(n0, x18), (fun i => i), ⟨(.sames rfl rfl), (.cons (.blk rfl rfl rfl) .nil), nd_of [0] rfl (by decide), fun _ _ => rfl⟩, ?_, ?_⟩
     exact h
     exact Nat.lt_succ_self _
   ·
    replace h := bif_f h hc14
    refine iwp_exit ?_
    refine thenQ_e ?_
    refine thenQ_e ?_
    refine blockQ_e ?_
    refine thenQ_n ?_
    refine iwp_seq ?_
    obtain ⟨x19, hx19, h⟩ := bno_e h
    refine iwp_reg (ils_cons rfl (lra q3 la35 rfl rfl rfl rfl rfl (nle rfl) rfl) <|
     ils_cons rfl (iop_call (r := .bool _) rfl rfl (lb rfl) cl56 (.cons (svA q3 rfl) .nil) rfl (p_paths_State_numbers _ _ hx19)) <|
     ils_cons rfl (iop_not rfl rfl (lb rfl) (svB rfl)) <|
     ils_end ?_)
    refine iwp_cond (b := _) rfl (fun hc20 => ?_) (fun hc20 => ?_)
    ·
     replace h := bif_t h hc20
     refine iwp_reg (ils_cons rfl (iop_assign rfl rfl (lb rfl) (sv (d := .int _ 8) rfl)) <|
      ils_end ?_)
     refine iwp_ret ?_
     refine thenQ_r ?_
     obtain rfl := Option.some.inj h
     refine ⟨.inr rfl, (.cons (sv rfl) .nil)⟩
    ·
     replace h := bif_f h hc20
     refine iwp_skip ?_
     refine thenQ_n ?_
     refine iwp_seq ?_
     refine iwp_reg (ils_cons rfl (iop_assign rfl rfl (lb rfl) (sv (d := .int _ 1) rfl)) <|
      ils_end ?_)
     refine iwp_block ?_
     refine iwp_loopP (α := Nat × Int) (fun z => ⟨[(1, .ref 0 0), (5, .int .i64 z.2)], [(0, .blk 35 (v0 a0))]⟩) (fun z => paths_Check_L1 a0 z.1 z.2 = some r) (fun z => z.1) (fuel, 1) (fun i => i) ⟨(.sames rfl rfl), (.cons (.blk rfl rfl rfl) .nil), nd_of [0] rfl (by decide), fun _ _ => rfl⟩ ?_ ?_
     ·exact h
     ·
      rintro ⟨n1, v29⟩ h
      cases n1 with
      | zero => exact absurd h (by unfold paths_Check_L1; exact nofun)
      | succ n1 =>
       unfold paths_Check_L1 at h
       refine iwp_seq ?_
       obtain ⟨x38, hx38, h⟩ := bnd_e h
       refine iwp_reg (ils_cons rfl (mvI rfl rfl rfl rfl) <|
        ils_cons rfl (faR 17 rfl rfl rfl Try.underlying35 rfl ti33 (lb rfl) rfl rfl) <|
        ils_cons rfl (lrL la33 rfl rfl rfl rfl rfl (nle rfl) rfl) <|
        ils_cons rfl (iop_lenT E_paths_Bind (l := a0.Binds) rfl rfl (lb rfl) Try.underlying33 (svL rfl)) <|
        ils_cons rfl (iop_cmpx rfl rfl (lb rfl) (svI rfl) (svI rfl) rfl hx38) <|
        ils_end ?_)
       refine iwp_cond (b := _) rfl (fun hc39 => ?_) (fun hc39 => ?_)
       ·
        replace h := bif_t h hc39
        refine iwp_skip ?_
        refine thenQ_n ?_
        refine iwp_seq ?_
        refine iwp_block ?_
        obtain ⟨x40, hx40, h⟩ := bnd_e h
        obtain ⟨x41, hx41, h⟩ := bno_e h
        obtain ⟨x42, hx42, h⟩ := bno_e h
        obtain ⟨x43, hx43, h⟩ := bnd_e h
        refine iwp_drw rfl [⟨[1], [], [(29, .ref 0 17)], []⟩,
         ⟨[29], [0], [(30, .slice false (a0.Binds.map E_paths_Bind.d))], []⟩,
         ⟨[5], [], [(31, .int .i64 v29)], []⟩,
         ⟨[31], [], [(32, .int .i64 x40)], []⟩,
         ⟨[30, 32], [], [(33, .fptr [.int .i64 x41.Stream, .int .i64 x41.Path])], []⟩,
         ⟨[33], [], [(34, .fptr [.int .i64 x41.Stream])], []⟩,
         ⟨[34], [], [(35, .int .i64 x41.Stream)], []⟩,
         ⟨[1], [], [(36, .ref 0 17)], []⟩,
         ⟨[36], [0], [(37, .slice false (a0.Binds.map E_paths_Bind.d))], []⟩,
         ⟨[5], [], [(38, .int .i64 v29)], []⟩,
         ⟨[37, 38], [], [(39, .fptr [.int .i64 x42.Stream, .int .i64 x42.Path])], []⟩,
         ⟨[39], [], [(40, .fptr [.int .i64 x42.Stream])], []⟩,
         ⟨[40], [], [(41, .int .i64 x42.Stream)], []⟩,
         ⟨[35, 41], [], [(42, .bool x43)], []⟩] rfl ?_ (by kernel_rfl) ?_
        ·refine .cons (lop rfl rfl fun S hA => (iop_fieldAddr_ref rfl rfl (lb rfl) Try.underlying35 rfl ti33 (by decide) (svaR hA rfl rfl) (off' := 17) rfl)) ?_
         refine .cons (lop rfl rfl fun S hA => (iop_load_rs (d := .slice _ _) rfl rfl (lb rfl) Try.underlying33 ag33 ti33 (by decide) (svaR hA rfl rfl) (agi hA rfl rfl) (nle rfl) rfl)) ?_
         refine .cons (lop rfl rfl fun S hA => (iop_move rfl rfl (lb rfl) (svaI hA rfl rfl))) ?_
         refine .cons (lop rfl rfl fun S hA => (iop_intx rfl rfl (lb rfl) (svaI hA rfl rfl) (sv (d := .int _ 1) rfl) rfl hx40)) ?_
         refine .cons (lop rfl rfl fun S hA => (iop_idxT E_paths_Bind (cs := q9) rfl rfl (lb rfl) Try.underlying33 ti86 (svaL hA rfl rfl) (svaI hA rfl rfl) hx41 rfl rfl)) ?_
         refine .cons (lop rfl rfl fun S hA => (iop_fieldAddr_fptr (cs' := [.int _ _]) rfl rfl (lb rfl) Try.underlying86 rfl ti3 (by decide) (sv (d := .fptr q9) (agr hA rfl rfl)) rfl)) ?_
         refine .cons (lop rfl rfl fun S hA => (iop_load_fs rfl rfl (lb rfl) Try.underlying3 ag3 ti3 (by decide) (sv (d := .fptr [.int _ _]) (agr hA rfl rfl)) (nle rfl))) ?_
         refine .cons (lop rfl rfl fun S hA => (iop_fieldAddr_ref rfl rfl (lb rfl) Try.underlying35 rfl ti33 (by decide) (svaR hA rfl rfl) (off' := 17) rfl)) ?_
         refine .cons (lop rfl rfl fun S hA => (iop_load_rs (d := .slice _ _) rfl rfl (lb rfl) Try.underlying33 ag33 ti33 (by decide) (svaR hA rfl rfl) (agi hA rfl rfl) (nle rfl) rfl)) ?_
         refine .cons (lop rfl rfl fun S hA => (iop_move rfl rfl (lb rfl) (svaI hA rfl rfl))) ?_
         refine .cons (lop rfl rfl fun S hA => (iop_idxT E_paths_Bind (cs := q9) rfl rfl (lb rfl) Try.underlying33 ti86 (svaL hA rfl rfl) (svaI hA rfl rfl) hx42 rfl rfl)) ?_
         refine .cons (lop rfl rfl fun S hA => (iop_fieldAddr_fptr (cs' := [.int _ _]) rfl rfl (lb rfl) Try.underlying86 rfl ti3 (by decide) (sv (d := .fptr q9) (agr hA rfl rfl)) rfl)) ?_
         refine .cons (lop rfl rfl fun S hA => (iop_load_fs rfl rfl (lb rfl) Try.underlying3 ag3 ti3 (by decide) (sv (d := .fptr [.int _ _]) (agr hA rfl rfl)) (nle rfl))) ?_
         refine .cons (lop rfl rfl fun S hA => (iop_cmpx rfl rfl (lb rfl) (svaI hA rfl rfl) (svaI hA rfl rfl) rfl hx43)) ?_
         exact .nil
        refine iwp_cond (b := _) rfl (fun hc44 => ?_) (fun hc44 => ?_)
        ·
         replace h := bif_t h hc44
         refine iwp_reg (ils_cons rfl (iop_assign rfl rfl (lb rfl) (sv (d := .int _ 10) rfl)) <|
          ils_end ?_)
         refine iwp_ret ?_
         refine blockQ_r ?_
         refine thenQ_r ?_
         refine thenQ_r ?_
         refine blockQ_r ?_
         refine thenQ_r ?_
         obtain rfl := Option.some.inj h
         refine ⟨.inr rfl, (.cons (sv rfl) .nil)⟩
        ·
         replace h := bif_f h hc44
         refine iwp_skip ?_
         refine blockQ_n ?_
         refine thenQ_n ?_
         obtain ⟨x45, hx45, h⟩ := bnd_e h
         refine iwp_region (ils_cons rfl (mvI rfl rfl rfl rfl) <|
          ils_cons rfl (iop_intx rfl rfl (lb rfl) (svI rfl) (sv (d := .int _ 1) rfl) rfl hx45) <|
          ils_cons rfl (asI rfl rfl rfl rfl) <|
          ils_nil ?_)
         refine thenQ_n ⟨(n1, x45), (fun i => i), ⟨(.sames rfl rfl), (.cons (.blk rfl rfl rfl) .nil), nd_of [0] rfl (by decide), fun _ _ => rfl⟩, ?_, ?_⟩
         exact h
         exact Nat.lt_succ_self _
       ·
        replace h := bif_f h hc39
        refine iwp_exit ?_
        refine thenQ_e ?_
        refine thenQ_e ?_
        refine blockQ_e ?_
        refine thenQ_n ?_
        refine iwp_reg (ils_cons rfl (iop_makeFunc rfl rfl (lb rfl) (.cons (svR rfl) .nil)) <|
         ils_cons rfl (iop_assign rfl rfl (lb rfl) (sv (d := .fn 57 [.ref _ _]) rfl)) <|
         ils_end ?_)
        refine iwp_seq ?_
        obtain ⟨x46, hx46, h⟩ := bnd_e h
        obtain ⟨x47, hx47, h⟩ := bno_e h
        obtain ⟨x48, hx48, h⟩ := bnd_e h
        obtain ⟨x49, hx49, h⟩ := bno_e h
        obtain ⟨x50, hx50, h⟩ := bnd_e h
        refine iwp_reg (ils_cons rfl (faR 16 rfl rfl rfl Try.underlying35 rfl ti3 (lb rfl) rfl rfl) <|
         ils_cons rfl (iop_load_rs (d := .int _ _) rfl rfl (lb rfl) Try.underlying3 ag3 ti3 (by decide) (svR rfl) rfl (nle rfl) rfl) <|
         ils_cons rfl (iop_cmpx rfl rfl (lb rfl) (svI rfl) (sv (d := .int _ (-1)) rfl) rfl hx46) <|
         ils_cons rfl (mvB rfl rfl rfl rfl) <|
         ils_guard rfl rfl (.one rfl) rfl (by decide) (fun hb => (lra q3 la35 rfl rfl rfl rfl rfl (nle rfl) rfl)) <|
         ils_guard rfl rfl (.one rfl) rfl (by decide) (fun hb => (faR 16 rfl rfl rfl Try.underlying35 rfl ti3 (lb rfl) rfl rfl)) <|
         ils_guard rfl rfl (.one rfl) rfl (by decide) (fun hb => (iop_load_rs (d := .int _ _) rfl rfl (lb rfl) Try.underlying3 ag3 ti3 (by decide) (svcR rfl hb) rfl (nle rfl) rfl)) <|
         ils_guard rfl rfl (.one rfl) rfl (by decide) (fun hb => (iop_call (r := .bool _) rfl rfl (lb rfl) cl43 (.cons (svcA (v0 a0) rfl hb) (.cons (svcI rfl hb) .nil)) rfl (p_paths_State_up _ _ _ (gd_t hx47 hb)))) <|
         ils_guard rfl rfl (.one rfl) rfl (by decide) (fun hb => (iop_not rfl rfl (lb rfl) (svcB rfl hb))) <|
         ils_cons rfl (iop_andx rfl rfl (lb rfl) (svB rfl) rfl rfl hx48) <|
         ils_cons rfl (mvB rfl rfl rfl rfl) <|
         ils_guard rfl rfl (.one rfl) rfl (by decide) (fun hb => (faR 17 rfl rfl rfl Try.underlying35 rfl ti33 (lb rfl) rfl rfl)) <|
         ils_guard rfl rfl (.one rfl) rfl (by decide) (fun hb => (iop_load_rs (d := .slice _ _) rfl rfl (lb rfl) Try.underlying33 ag33 ti33 (by decide) (svcR rfl hb) rfl (nle rfl) rfl)) <|
         ils_guard rfl rfl (.one rfl) rfl (by decide) (fun hb => (iop_move rfl rfl (lb rfl) (sv (d := .fn 57 [.ref _ _]) rfl))) <|
         ils_guard rfl rfl (.one rfl) rfl (by decide) (fun hb => (iop_callp (r := .bool x49) rfl rfl (lb rfl) cl58 (.cons (svcL rfl hb) (.cons (svc (d := .fn 57 [.ref _ _]) rfl hb) .nil)) (.k (.cons (.fn (.cons (.ref rfl rfl (fdl_refl _) rfl) .nil)) .nil)) rfl rfl (p_slices_ContainsFunc_paths_Bind_paths_Bind_Check_1 _ _ _ (gd_t hx49 hb)))) <|
         ils_cons rfl (iop_orx rfl rfl (lb rfl) (svB rfl) rfl rfl hx50) <|
         ils_end ?_)
        refine iwp_cond (b := _) rfl (fun hc51 => ?_) (fun hc51 => ?_)
        ·
         replace h := bif_t h hc51
         refine iwp_reg (ils_cons rfl (iop_assign rfl rfl (lb rfl) (sv (d := .int _ 9) rfl)) <|
          ils_end ?_)
         refine iwp_ret ?_
         refine thenQ_r ?_
         obtain rfl := Option.some.inj h
         refine ⟨.inr rfl, (.cons (sv rfl) .nil)⟩
        ·
         replace h := bif_f h hc51
         refine iwp_skip ?_
         refine thenQ_n ?_
         refine iwp_reg (ils_cons rfl (iop_assign rfl rfl (lb rfl) (sv (d := .int _ 0) rfl)) <|
          ils_end ?_)
         refine iwp_ret ?_
         obtain rfl := Option.some.inj h
         refine ⟨.inr rfl, (.cons (sv rfl) .nil)⟩

theorem p_paths_Rise (a0 : T_paths_State) (a1 : Int) (r : (T_paths_State × Bool)) (h : paths_Rise a0 a1 = some r) : PureAt Try.prog 10 [.agg (v0 a0), .int .i64 a1] (retD [.agg (v0 r.1), .bool r.2]) := by
 refine pure_of_iwpF (rs := [.agg (v0 r.1), .bool r.2]) Try.func10 rfl Try.ntmps10 (nle rfl) rfl fun O hO => ?_
 show IWP _ _ _ _ ⟨[(0, .agg (v0 a0)), (1, .int .i64 a1)], []⟩ _
 unfold paths_Rise at h
 refine iwp_reg (ils_cons rfl (iop_box' (cs := q3) 0 rfl rfl (lb rfl) rfl (svA q3 rfl) rfl rfl) <|
  ils_cons rfl (iop_allocS (cs := q5) (cs' := (w14 false false 0 0 false false 0 0 false false 0 0 false false 0 0 0 ([] : List T_paths_Bind))) 1 rfl rfl (lb rfl) rfl ti35 rfl rfl (.k4 (.k (.k4 (.k (.k4 (.k (.k (.k (.cons (.nils _) .nil)))))))))) <|
  ils_cons rfl (iop_assign rfl rfl (lb rfl) (sv (d := .bool false) rfl)) <|
  ils_end ?_)
 obtain ⟨x1, hx1, h⟩ := bno_e h
 refine iwp_reg (ils_cons rfl (lra q3 la35 rfl rfl rfl rfl rfl (nle rfl) rfl) <|
  ils_cons rfl (iop_callh2 (r' := .agg (w15 x1.1 x1.2.1 x1.2.2.1 x1.2.2.2.1 x1.2.2.2.2.1 x1.2.2.2.2.2.1 x1.2.2.2.2.2.2.1 x1.2.2.2.2.2.2.2.1 x1.2.2.2.2.2.2.2.2.1 x1.2.2.2.2.2.2.2.2.2.1 x1.2.2.2.2.2.2.2.2.2.2.1 x1.2.2.2.2.2.2.2.2.2.2.2.1 x1.2.2.2.2.2.2.2.2.2.2.2.2.1 x1.2.2.2.2.2.2.2.2.2.2.2.2.2.1 x1.2.2.2.2.2.2.2.2.2.2.2.2.2.2.1 x1.2.2.2.2.2.2.2.2.2.2.2.2.2.2.2.1 x1.2.2.2.2.2.2.2.2.2.2.2.2.2.2.2.2.1 (.osl 2 E_paths_Bind.sz x1.2.2.2.2.2.2.2.2.2.2.2.2.2.2.2.2.2.length))) (H1' := [(2, .blk 86 (D.flat (x1.2.2.2.2.2.2.2.2.2.2.2.2.2.2.2.2.2.map E_paths_Bind.d)))]) 2 [] rfl rfl (lb rfl) cl40 (.cons (svA q3 rfl) .nil) rfl rfl ⟨rfl, rfl, by decide, rfl, List.forall_mem_nil _⟩ (p_paths_State_own_h _ _ hx1) rfl rfl (List.forall_mem_cons.2 ⟨⟨rfl, (handLr E_paths_Bind)⟩, List.forall_mem_nil _⟩) (by simp only [List.map_cons, List.map_nil, Ent.ren, renL_flat, renL_ref]; rfl)) <|
  ils_cons rfl (iop_allocS (cs := q5) (cs' := (w14 false false 0 0 false false 0 0 false false 0 0 false false 0 0 0 ([] : List T_paths_Bind))) 3 rfl rfl (lb rfl) rfl ti35 rfl rfl (.k4 (.k (.k4 (.k (.k4 (.k (.k (.k (.cons (.nils _) .nil)))))))))) <|
  ils_cons rfl (stA q4 q4 ti35 rfl rfl rfl rfl rfl rfl rfl rfl (nle rfl) rfl) <|
  ils_end ?_)
 refine iwp_seq ?_
 obtain ⟨x2, hx2, h⟩ := bno_e h
 obtain ⟨x3, hx3, h⟩ := bno_e h
 obtain ⟨x4, hx4, h⟩ := bnd_e h
 obtain ⟨x5, hx5, h⟩ := bnd_e h
 obtain ⟨hk6, h⟩ := chk_e h
 obtain ⟨x7, hx7, h⟩ := bno_e h
 obtain ⟨x8, hx8, h⟩ := bnd_e h
 obtain ⟨hk9, h⟩ := chk_e h
 obtain ⟨x10, hx10, h⟩ := bno_e h
 obtain ⟨x11, hx11, h⟩ := bnd_e h
 refine iwp_reg (ils_cons rfl (mvI rfl rfl rfl rfl) <|
  ils_cons rfl (iop_call (r := .bool _) rfl rfl (lb rfl) cl41 (.cons (svI rfl) .nil) rfl (p_paths_path _ _ hx2)) <|
  ils_cons rfl (iop_not rfl rfl (lb rfl) (svB rfl)) <|
  ils_cons rfl (mvB rfl rfl rfl rfl) <|
  ils_guard rfl rfl (.one rfl) rfl (by decide) (fun hb => (lra q3 la35 rfl rfl rfl rfl rfl (nle rfl) rfl)) <|
  ils_guard rfl rfl (.one rfl) rfl (by decide) (fun hb => (iop_call (r := .int _ _) rfl rfl (lb rfl) cl28 (.cons (svcA (v0 a0) rfl hb) .nil) rfl (p_paths_Check _ _ (gd_t hx3 hb)))) <|
  ils_guard rfl rfl (.one rfl) rfl (by decide) (fun hb => (iop_cmpx rfl rfl (lb rfl) (svcI rfl hb) (sv (d := .int _ 0) rfl) rfl hx4)) <|
  ils_cons rfl (iop_orx rfl rfl (lb rfl) (svB rfl) rfl rfl hx5) <|
  ils_cons rfl (mvB rfl rfl rfl rfl) <|
  ils_guard rfl rfl (.one rfl) rfl (by decide) (fun hb => (mvI rfl rfl rfl rfl)) <|
  ils_guard rfl rfl (.one rfl) rfl (by decide) (fun hb => (faR 0 rfl rfl rfl Try.underlying35 rfl ti32 (lb rfl) rfl rfl)) <|
  ils_guard rfl rfl (.one rfl) rfl (by decide) (fun hb => (iop_index_sel rfl rfl (lb rfl) Try.underlying32 ti31 (svcR rfl hb) (svcI rfl hb) (hk6 hb))) <|
  ils_guard rfl rfl (.one rfl) rfl (by decide) (fun hb => (iop_field_sel rfl rfl (lb rfl) Try.underlying31 rfl ti4 (by decide) (svcR rfl hb) (k' := 0) rfl)) <|
  ils_guard rfl rfl (.one rfl) rfl (by decide) (fun hb => (iop_load_sel_s eBool (b := 0) (k := 0) (sz := 4) (d := .bool _) rfl rfl (lb rfl) Try.underlying4 ag4 ti4 (svcR rfl hb) rfl (gd_t hx7 hb) ⟨rfl, ⟨rfl, ⟨rfl, ⟨rfl, trivial⟩⟩⟩⟩ rfl)) <|
  ils_cons rfl (iop_orx rfl rfl (lb rfl) (svB rfl) rfl rfl hx8) <|
  ils_cons rfl (mvB rfl rfl rfl rfl) <|
  ils_guard rfl rfl (.one rfl) rfl (by decide) (fun hb => (mvI rfl rfl rfl rfl)) <|
  ils_guard rfl rfl (.one rfl) rfl (by decide) (fun hb => (faR 0 rfl rfl rfl Try.underlying35 rfl ti32 (lb rfl) rfl rfl)) <|
  ils_guard rfl rfl (.one rfl) rfl (by decide) (fun hb => (iop_index_sel rfl rfl (lb rfl) Try.underlying32 ti31 (svcR rfl hb) (svcI rfl hb) (hk9 hb))) <|
  ils_guard rfl rfl (.one rfl) rfl (by decide) (fun hb => (iop_field_sel rfl rfl (lb rfl) Try.underlying31 rfl ti4 (by decide) (svcR rfl hb) (k' := 1) rfl)) <|
  ils_guard rfl rfl (.one rfl) rfl (by decide) (fun hb => (iop_load_sel_s eBool (b := 0) (k := 1) (sz := 4) (d := .bool _) rfl rfl (lb rfl) Try.underlying4 ag4 ti4 (svcR rfl hb) rfl (gd_t hx10 hb) ⟨rfl, ⟨rfl, ⟨rfl, ⟨rfl, trivial⟩⟩⟩⟩ rfl)) <|
  ils_cons rfl (iop_orx rfl rfl (lb rfl) (svB rfl) rfl rfl hx11) <|
  ils_end ?_)
 refine iwp_cond (b := _) rfl (fun hc12 => ?_) (fun hc12 => ?_)
 ·
  replace h := bif_t h hc12
  refine iwp_reg (ils_cons rfl (lra q4 la35 rfl rfl rfl rfl rfl (nle rfl) rfl) <|
   ils_cons rfl (stA q4 q4 ti35 rfl rfl rfl rfl rfl rfl rfl rfl (nle rfl) rfl) <|
   ils_cons rfl (iop_assign rfl rfl (lb rfl) (sv (d := .bool false) rfl)) <|
   ils_end ?_)
  refine iwp_ret ?_
  refine thenQ_r ?_
  obtain rfl := Option.some.inj h
  refine ⟨.inr rfl, _, (.cons (rva la35 rfl rfl (nle rfl) rfl) (.cons (sv rfl) .nil)), (.cons (.agg (.k4 (.k (.k4 (.k (.k4 (.k (.k (.k (.cons (FDT E_paths_Bind rfl rfl) .nil)))))))))) (.all _))⟩
 ·
  replace h := bif_f h hc12
  refine iwp_skip ?_
  refine thenQ_n ?_
  obtain ⟨hk13, h⟩ := chk_e h
  obtain ⟨x14, hx14, h⟩ := bnd_e h
  obtain ⟨x15, hx15, h⟩ := bnd_e h
  obtain ⟨x16, hx16, h⟩ := bnd_e h
  obtain ⟨x17, hx17, h⟩ := bnd_e h
  refine iwp_reg (ils_cons rfl (mvI rfl rfl rfl rfl) <|
   ils_cons rfl (faR 0 rfl rfl rfl Try.underlying35 rfl ti32 (lb rfl) rfl rfl) <|
   ils_cons rfl (iop_index_sel rfl rfl (lb rfl) Try.underlying32 ti31 (svR rfl) (svI rfl) hk13) <|
   ils_cons rfl (iop_field_sel rfl rfl (lb rfl) Try.underlying31 rfl ti4 (by decide) (svR rfl) (k' := 0) rfl) <|
   ils_cons rfl (iop_store_sel (b := 0) (k := 0) (sz := 4) (cs' := (w15 x14.Up x14.Dead x14.Bytes x14.Ticks x15.Up x15.Dead x15.Bytes x15.Ticks x16.Up x16.Dead x16.Bytes x16.Ticks x17.Up x17.Dead x17.Bytes x17.Ticks x1.2.2.2.2.2.2.2.2.2.2.2.2.2.2.2.2.1 (.osl 2 E_paths_Bind.sz x1.2.2.2.2.2.2.2.2.2.2.2.2.2.2.2.2.2.length))) rfl rfl ti4 (svR rfl) rfl (sv (d := .bool true) rfl) rfl rfl rfl hk13 rfl ⟨⟨⟨⟨trivial, fun h => by rw [← hx14, ← hx15, ← hx16, ← hx17, h]; rfl⟩, fun h => by rw [← hx14, ← hx15, ← hx16, ← hx17, h]; rfl⟩, fun h => by rw [← hx14, ← hx15, ← hx16, ← hx17, h]; rfl⟩, fun h => by rw [← hx14, ← hx15, ← hx16, ← hx17, h]; rfl⟩) <|
   ils_end ?_)
  refine iwp_reg (ils_cons rfl (lra q4 la35 rfl rfl rfl rfl rfl (nle rfl) rfl) <|
   ils_cons rfl (stA q4 q4 ti35 rfl rfl rfl rfl rfl rfl rfl rfl (nle rfl) rfl) <|
   ils_cons rfl (iop_assign rfl rfl (lb rfl) (sv (d := .bool true) rfl)) <|
   ils_end ?_)
  refine iwp_ret ?_
  obtain rfl := Option.some.inj h
  refine ⟨.inr rfl, _, (.cons (rva la35 rfl rfl (nle rfl) rfl) (.cons (sv rfl) .nil)), (.cons (.agg (.k4 (.k (.k4 (.k (.k4 (.k (.k (.k (.cons (FDT E_paths_Bind rfl rfl) .nil)))))))))) (.all _))⟩

theorem p_paths_Note (a0 : T_paths_State) (a1 : Int) (a2 : Int) (a3 : Int) (r : T_paths_State) (h : paths_Note a0 a1 a2 a3 = some r) : PureAt Try.prog 21 [.agg (v0 a0), .int .i64 a1, .int .i64 a2, .int .i64 a3] (.agg (v0 r)) := by
 refine pure_of_iwpF (rs := [.agg (v0 r)]) Try.func21 rfl Try.ntmps21 (nle rfl) rfl fun O hO => ?_
 show IWP _ _ _ _ ⟨[(0, .agg (v0 a0)), (1, .int .i64 a1), (2, .int .i64 a2), (3, .int .i64 a3)], []⟩ _
 unfold paths_Note at h
 refine iwp_reg (ils_cons rfl (iop_box' (cs := q3) 0 rfl rfl (lb rfl) rfl (svA q3 rfl) rfl rfl) <|
  ils_cons rfl (iop_allocS (cs := q5) (cs' := (w14 false false 0 0 false false 0 0 false false 0 0 false false 0 0 0 ([] : List T_paths_Bind))) 1 rfl rfl (lb rfl) rfl ti35 rfl rfl (.k4 (.k (.k4 (.k (.k4 (.k (.k (.k (.cons (.nils _) .nil)))))))))) <|
  ils_end ?_)
 obtain ⟨x1, hx1, h⟩ := bno_e h
 refine iwp_reg (ils_cons rfl (lra q3 la35 rfl rfl rfl rfl rfl (nle rfl) rfl) <|
  ils_cons rfl (iop_callh2 (r' := .agg (w15 x1.1 x1.2.1 x1.2.2.1 x1.2.2.2.1 x1.2.2.2.2.1 x1.2.2.2.2.2.1 x1.2.2.2.2.2.2.1 x1.2.2.2.2.2.2.2.1 x1.2.2.2.2.2.2.2.2.1 x1.2.2.2.2.2.2.2.2.2.1 x1.2.2.2.2.2.2.2.2.2.2.1 x1.2.2.2.2.2.2.2.2.2.2.2.1 x1.2.2.2.2.2.2.2.2.2.2.2.2.1 x1.2.2.2.2.2.2.2.2.2.2.2.2.2.1 x1.2.2.2.2.2.2.2.2.2.2.2.2.2.2.1 x1.2.2.2.2.2.2.2.2.2.2.2.2.2.2.2.1 x1.2.2.2.2.2.2.2.2.2.2.2.2.2.2.2.2.1 (.osl 2 E_paths_Bind.sz x1.2.2.2.2.2.2.2.2.2.2.2.2.2.2.2.2.2.length))) (H1' := [(2, .blk 86 (D.flat (x1.2.2.2.2.2.2.2.2.2.2.2.2.2.2.2.2.2.map E_paths_Bind.d)))]) 2 [] rfl rfl (lb rfl) cl40 (.cons (svA q3 rfl) .nil) rfl rfl ⟨rfl, rfl, by decide, rfl, List.forall_mem_nil _⟩ (p_paths_State_own_h _ _ hx1) rfl rfl (List.forall_mem_cons.2 ⟨⟨rfl, (handLr E_paths_Bind)⟩, List.forall_mem_nil _⟩) (by simp only [List.map_cons, List.map_nil, Ent.ren, renL_flat, renL_ref]; rfl)) <|
  ils_cons rfl (iop_allocS (cs := q5) (cs' := (w14 false false 0 0 false false 0 0 false false 0 0 false false 0 0 0 ([] : List T_paths_Bind))) 3 rfl rfl (lb rfl) rfl ti35 rfl rfl (.k4 (.k (.k4 (.k (.k4 (.k (.k (.k (.cons (.nils _) .nil)))))))))) <|
  ils_cons rfl (stA q4 q4 ti35 rfl rfl rfl rfl rfl rfl rfl rfl (nle rfl) rfl) <|
  ils_end ?_)
 refine iwp_seq ?_
 obtain ⟨x2, hx2, h⟩ := bno_e h
 obtain ⟨x3, hx3, h⟩ := bno_e h
 obtain ⟨x4, hx4, h⟩ := bnd_e h
 obtain ⟨x5, hx5, h⟩ := bno_e h
 obtain ⟨x6, hx6, h⟩ := bnd_e h
 obtain ⟨x7, hx7, h⟩ := bno_e h
 obtain ⟨x8, hx8, h⟩ := bnd_e h
 obtain ⟨x9, hx9, h⟩ := bnd_e h
 refine iwp_reg (ils_cons rfl (lra q3 la35 rfl rfl rfl rfl rfl (nle rfl) rfl) <|
  ils_cons rfl (mvI rfl rfl rfl rfl) <|
  ils_cons rfl (iop_call (r := .bool _) rfl rfl (lb rfl) cl43 (.cons (svA q3 rfl) (.cons (svI rfl) .nil)) rfl (p_paths_State_up _ _ _ hx2)) <|
  ils_cons rfl (iop_not rfl rfl (lb rfl) (svB rfl)) <|
  ils_cons rfl (mvB rfl rfl rfl rfl) <|
  ils_guard rfl rfl (.one rfl) rfl (by decide) (fun hb => (mvI rfl rfl rfl rfl)) <|
  ils_guard rfl rfl (.one rfl) rfl (by decide) (fun hb => (iop_call (r := .bool _) rfl rfl (lb rfl) cl46 (.cons (svcI rfl hb) (.cons (sv (d := .int _ 0) rfl) (.cons (sv (d := .int _ 1048576) rfl) .nil))) rfl (p_paths_in _ _ _ _ (gd_t hx3 hb)))) <|
  ils_guard rfl rfl (.one rfl) rfl (by decide) (fun hb => (iop_not rfl rfl (lb rfl) (svcB rfl hb))) <|
  ils_cons rfl (iop_orx rfl rfl (lb rfl) (svB rfl) rfl rfl hx4) <|
  ils_cons rfl (mvB rfl rfl rfl rfl) <|
  ils_guard rfl rfl (.one rfl) rfl (by decide) (fun hb => (mvI rfl rfl rfl rfl)) <|
  ils_guard rfl rfl (.one rfl) rfl (by decide) (fun hb => (iop_call (r := .bool _) rfl rfl (lb rfl) cl46 (.cons (svcI rfl hb) (.cons (sv (d := .int _ 0) rfl) (.cons (sv (d := .int _ 1048576) rfl) .nil))) rfl (p_paths_in _ _ _ _ (gd_t hx5 hb)))) <|
  ils_guard rfl rfl (.one rfl) rfl (by decide) (fun hb => (iop_not rfl rfl (lb rfl) (svcB rfl hb))) <|
  ils_cons rfl (iop_orx rfl rfl (lb rfl) (svB rfl) rfl rfl hx6) <|
  ils_cons rfl (mvB rfl rfl rfl rfl) <|
  ils_guard rfl rfl (.one rfl) rfl (by decide) (fun hb => (lra q3 la35 rfl rfl rfl rfl rfl (nle rfl) rfl)) <|
  ils_guard rfl rfl (.one rfl) rfl (by decide) (fun hb => (iop_call (r := .int _ _) rfl rfl (lb rfl) cl28 (.cons (svcA (v0 a0) rfl hb) .nil) rfl (p_paths_Check _ _ (gd_t hx7 hb)))) <|
  ils_guard rfl rfl (.one rfl) rfl (by decide) (fun hb => (iop_cmpx rfl rfl (lb rfl) (svcI rfl hb) (sv (d := .int _ 0) rfl) rfl hx8)) <|
  ils_cons rfl (iop_orx rfl rfl (lb rfl) (svB rfl) rfl rfl hx9) <|
  ils_end ?_)
 refine iwp_cond (b := _) rfl (fun hc10 => ?_) (fun hc10 => ?_)
 ·
  replace h := bif_t h hc10
  refine iwp_reg (ils_cons rfl (lra q4 la35 rfl rfl rfl rfl rfl (nle rfl) rfl) <|
   ils_cons rfl (stA q4 q4 ti35 rfl rfl rfl rfl rfl rfl rfl rfl (nle rfl) rfl) <|
   ils_end ?_)
  refine iwp_ret ?_
  refine thenQ_r ?_
  obtain rfl := Option.some.inj h
  refine ⟨.inr rfl, _, (.cons (rva la35 rfl rfl (nle rfl) rfl) .nil), (.cons (.agg (.k4 (.k (.k4 (.k (.k4 (.k (.k (.k (.cons (FDT E_paths_Bind rfl rfl) .nil)))))))))) .nil)⟩
 ·
  replace h := bif_f h hc10
  refine iwp_skip ?_
  refine thenQ_n ?_
  obtain ⟨hk11, h⟩ := chk_e h
  refine iwp_reg (ils_cons rfl (mvI rfl rfl rfl rfl) <|
   ils_cons rfl (faR 0 rfl rfl rfl Try.underlying35 rfl ti32 (lb rfl) rfl rfl) <|
   ils_cons rfl (iop_index_sel rfl rfl (lb rfl) Try.underlying32 ti31 (svR rfl) (svI rfl) hk11) <|
   ils_cons rfl (iop_assign rfl rfl (lb rfl) (svR rfl)) <|
   ils_end ?_)
  obtain ⟨x12, hx12, h⟩ := bno_e h
  obtain ⟨x13, hx13, h⟩ := bnd_e h
  obtain ⟨x14, hx14, h⟩ := bno_e h
  obtain ⟨x15, hx15, h⟩ := bnd_e h
  obtain ⟨x16, hx16, h⟩ := bnd_e h
  obtain ⟨x17, hx17, h⟩ := bnd_e h
  obtain ⟨x18, hx18, h⟩ := bnd_e h
  obtain ⟨x19, hx19, h⟩ := bnd_e h
  obtain ⟨x20, hx20, h⟩ := bnd_e h
  obtain ⟨x21, hx21, h⟩ := bnd_e h
  obtain ⟨x22, hx22, h⟩ := bnd_e h
  obtain ⟨x23, hx23, h⟩ := bnd_e h
  refine iwp_drw rfl [⟨[10], [], [(36, .ref 3 (0 + (a1 : Int).toNat * 4 + 0))], []⟩,
   ⟨[10], [], [(37, .ref 3 (0 + (a1 : Int).toNat * 4 + 0))], []⟩,
   ⟨[10], [], [(38, .ref 3 (0 + (a1 : Int).toNat * 4 + 0))], []⟩,
   ⟨[38], [], [(39, .ref 3 (0 + (a1 : Int).toNat * 4 + 0))], []⟩,
   ⟨[39], [], [(40, .ref 3 (0 + (a1 : Int).toNat * 4 + 2))], []⟩,
   ⟨[40], [3], [(41, .int .i64 x12)], []⟩,
   ⟨[2], [], [(42, .int .i64 a2)], []⟩,
   ⟨[41, 42], [], [(43, .int .i64 x13)], []⟩,
   ⟨[10], [], [(44, .ref 3 (0 + (a1 : Int).toNat * 4 + 0))], []⟩,
   ⟨[44], [], [(45, .ref 3 (0 + (a1 : Int).toNat * 4 + 0))], []⟩,
   ⟨[45], [], [(46, .ref 3 (0 + (a1 : Int).toNat * 4 + 3))], []⟩,
   ⟨[46], [3], [(47, .int .i64 x14)], []⟩,
   ⟨[3], [], [(48, .int .i64 a3)], []⟩,
   ⟨[47, 48], [], [(49, .int .i64 x15)], []⟩,
   ⟨[36], [], [(50, .ref 3 (0 + (a1 : Int).toNat * 4 + 0))], []⟩,
   ⟨[50], [], [(51, .ref 3 (0 + (a1 : Int).toNat * 4 + 2))], []⟩,
   ⟨[43, 51], [3], [], [(3, .blk 35 (w15 x16.Up x16.Dead x16.Bytes x16.Ticks x17.Up x17.Dead x17.Bytes x17.Ticks x18.Up x18.Dead x18.Bytes x18.Ticks x19.Up x19.Dead x19.Bytes x19.Ticks x1.2.2.2.2.2.2.2.2.2.2.2.2.2.2.2.2.1 (.osl 2 E_paths_Bind.sz x1.2.2.2.2.2.2.2.2.2.2.2.2.2.2.2.2.2.length)))]⟩,
   ⟨[37], [], [(52, .ref 3 (0 + (a1 : Int).toNat * 4 + 0))], []⟩,
   ⟨[52], [], [(53, .ref 3 (0 + (a1 : Int).toNat * 4 + 3))], []⟩,
   ⟨[49, 53], [3], [], [(3, .blk 35 (w15 x20.Up x20.Dead x20.Bytes x20.Ticks x21.Up x21.Dead x21.Bytes x21.Ticks x22.Up x22.Dead x22.Bytes x22.Ticks x23.Up x23.Dead x23.Bytes x23.Ticks x1.2.2.2.2.2.2.2.2.2.2.2.2.2.2.2.2.1 (.osl 2 E_paths_Bind.sz x1.2.2.2.2.2.2.2.2.2.2.2.2.2.2.2.2.2.length)))]⟩] rfl ?_ (by kernel_rfl) ?_
  ·refine .cons (lop rfl rfl fun S hA => (iop_move rfl rfl (lb rfl) (svaR hA rfl rfl))) ?_
   refine .cons (lop rfl rfl fun S hA => (iop_move rfl rfl (lb rfl) (svaR hA rfl rfl))) ?_
   refine .cons (lop rfl rfl fun S hA => (iop_move rfl rfl (lb rfl) (svaR hA rfl rfl))) ?_
   refine .cons (lop rfl rfl fun S hA => (iop_nilCheck_ref rfl rfl (lb rfl) (svaR hA rfl rfl))) ?_
   refine .cons (lop rfl rfl fun S hA => (iop_field_sel rfl rfl (lb rfl) Try.underlying31 rfl ti3 (by decide) (svaR hA rfl rfl) (k' := 2) rfl)) ?_
   refine .cons (lop rfl rfl fun S hA => (iop_load_sel_s (eInt .i64) (b := 0) (k := 2) (sz := 4) (d := .int _ _) rfl rfl (lb rfl) Try.underlying3 ag3 ti3 (svaR hA rfl rfl) (agi hA rfl rfl) hx12 ⟨rfl, ⟨rfl, ⟨rfl, ⟨rfl, trivial⟩⟩⟩⟩ rfl)) ?_
   refine .cons (lop rfl rfl fun S hA => (iop_move rfl rfl (lb rfl) (svaI hA rfl rfl))) ?_
   refine .cons (lop rfl rfl fun S hA => (iop_intx rfl rfl (lb rfl) (svaI hA rfl rfl) (svaI hA rfl rfl) rfl hx13)) ?_
   refine .cons (lop rfl rfl fun S hA => (iop_move rfl rfl (lb rfl) (svaR hA rfl rfl))) ?_
   refine .cons (lop rfl rfl fun S hA => (iop_nilCheck_ref rfl rfl (lb rfl) (svaR hA rfl rfl))) ?_
   refine .cons (lop rfl rfl fun S hA => (iop_field_sel rfl rfl (lb rfl) Try.underlying31 rfl ti3 (by decide) (svaR hA rfl rfl) (k' := 3) rfl)) ?_
   refine .cons (lop rfl rfl fun S hA => (iop_load_sel_s (eInt .i64) (b := 0) (k := 3) (sz := 4) (d := .int _ _) rfl rfl (lb rfl) Try.underlying3 ag3 ti3 (svaR hA rfl rfl) (agi hA rfl rfl) hx14 ⟨rfl, ⟨rfl, ⟨rfl, ⟨rfl, trivial⟩⟩⟩⟩ rfl)) ?_
   refine .cons (lop rfl rfl fun S hA => (iop_move rfl rfl (lb rfl) (svaI hA rfl rfl))) ?_
   refine .cons (lop rfl rfl fun S hA => (iop_intx rfl rfl (lb rfl) (svaI hA rfl rfl) (svaI hA rfl rfl) rfl hx15)) ?_
   refine .cons (lop rfl rfl fun S hA => (iop_nilCheck_ref rfl rfl (lb rfl) (svaR hA rfl rfl))) ?_
   refine .cons (lop rfl rfl fun S hA => (iop_field_sel rfl rfl (lb rfl) Try.underlying31 rfl ti3 (by decide) (svaR hA rfl rfl) (k' := 2) rfl)) ?_
   refine .cons (lop rfl rfl fun S hA => (iop_store_sel (b := 0) (k := 2) (sz := 4) (cs' := (w15 x16.Up x16.Dead x16.Bytes x16.Ticks x17.Up x17.Dead x17.Bytes x17.Ticks x18.Up x18.Dead x18.Bytes x18.Ticks x19.Up x19.Dead x19.Bytes x19.Ticks x1.2.2.2.2.2.2.2.2.2.2.2.2.2.2.2.2.1 (.osl 2 E_paths_Bind.sz x1.2.2.2.2.2.2.2.2.2.2.2.2.2.2.2.2.2.length))) rfl rfl ti3 (svaR hA rfl rfl) (agi hA rfl rfl) (svaI hA rfl rfl) rfl rfl rfl hk11 rfl ⟨⟨⟨⟨trivial, fun h => by rw [← hx16, ← hx17, ← hx18, ← hx19, h]; rfl⟩, fun h => by rw [← hx16, ← hx17, ← hx18, ← hx19, h]; rfl⟩, fun h => by rw [← hx16, ← hx17, ← hx18, ← hx19, h]; rfl⟩, fun h => by rw [← hx16, ← hx17, ← hx18, ← hx19, h]; rfl⟩)) ?_
   refine .cons (lop rfl rfl fun S hA => (iop_nilCheck_ref rfl rfl (lb rfl) (svaR hA rfl rfl))) ?_
   refine .cons (lop rfl rfl fun S hA => (iop_field_sel rfl rfl (lb rfl) Try.underlying31 rfl ti3 (by decide) (svaR hA rfl rfl) (k' := 3) rfl)) ?_
   refine .cons (lop rfl rfl fun S hA => (iop_store_sel (b := 0) (k := 3) (sz := 4) (cs' := (w15 x20.Up x20.Dead x20.Bytes x20.Ticks x21.Up x21.Dead x21.Bytes x21.Ticks x22.Up x22.Dead x22.Bytes x22.Ticks x23.Up x23.Dead x23.Bytes x23.Ticks x1.2.2.2.2.2.2.2.2.2.2.2.2.2.2.2.2.1 (.osl 2 E_paths_Bind.sz x1.2.2.2.2.2.2.2.2.2.2.2.2.2.2.2.2.2.length))) rfl rfl ti3 (svaR hA rfl rfl) (agi hA rfl rfl) (svaI hA rfl rfl) rfl rfl rfl hk11 rfl ⟨⟨⟨⟨trivial, fun h => by rw [← hx20, ← hx21, ← hx22, ← hx23, h]; rfl⟩, fun h => by rw [← hx20, ← hx21, ← hx22, ← hx23, h]; rfl⟩, fun h => by rw [← hx20, ← hx21, ← hx22, ← hx23, h]; rfl⟩, fun h => by rw [← hx20, ← hx21, ← hx22, ← hx23, h]; rfl⟩)) ?_
   exact .nil
  refine iwp_seq ?_
  obtain ⟨x24, hx24, h⟩ := bno_e h
  obtain ⟨x25, hx25, h⟩ := bno_e h
  obtain ⟨x26, hx26, h⟩ := bnd_e h
  obtain ⟨x27, hx27, h⟩ := bnd_e h
  refine iwp_drw rfl [⟨[10], [], [(54, .ref 3 (0 + (a1 : Int).toNat * 4 + 0))], []⟩,
   ⟨[54], [], [(55, .ref 3 (0 + (a1 : Int).toNat * 4 + 0))], []⟩,
   ⟨[55], [], [(56, .ref 3 (0 + (a1 : Int).toNat * 4 + 2))], []⟩,
   ⟨[56], [3], [(57, .int .i64 x24)], []⟩,
   ⟨[10], [], [(58, .ref 3 (0 + (a1 : Int).toNat * 4 + 0))], []⟩,
   ⟨[58], [], [(59, .ref 3 (0 + (a1 : Int).toNat * 4 + 0))], []⟩,
   ⟨[59], [], [(60, .ref 3 (0 + (a1 : Int).toNat * 4 + 3))], []⟩,
   ⟨[60], [3], [(61, .int .i64 x25)], []⟩,
   ⟨[57, 61], [], [(62, .int .i64 x26)], []⟩,
   ⟨[62], [], [(63, .bool x27)], []⟩] rfl ?_ (by kernel_rfl) ?_
  ·refine .cons (lop rfl rfl fun S hA => (iop_move rfl rfl (lb rfl) (svaR hA rfl rfl))) ?_
   refine .cons (lop rfl rfl fun S hA => (iop_nilCheck_ref rfl rfl (lb rfl) (svaR hA rfl rfl))) ?_
   refine .cons (lop rfl rfl fun S hA => (iop_field_sel rfl rfl (lb rfl) Try.underlying31 rfl ti3 (by decide) (svaR hA rfl rfl) (k' := 2) rfl)) ?_
   refine .cons (lop rfl rfl fun S hA => (iop_load_sel_s (eInt .i64) (b := 0) (k := 2) (sz := 4) (d := .int _ _) rfl rfl (lb rfl) Try.underlying3 ag3 ti3 (svaR hA rfl rfl) (agi hA rfl rfl) hx24 ⟨rfl, ⟨rfl, ⟨rfl, ⟨rfl, trivial⟩⟩⟩⟩ rfl)) ?_
   refine .cons (lop rfl rfl fun S hA => (iop_move rfl rfl (lb rfl) (svaR hA rfl rfl))) ?_
   refine .cons (lop rfl rfl fun S hA => (iop_nilCheck_ref rfl rfl (lb rfl) (svaR hA rfl rfl))) ?_
   refine .cons (lop rfl rfl fun S hA => (iop_field_sel rfl rfl (lb rfl) Try.underlying31 rfl ti3 (by decide) (svaR hA rfl rfl) (k' := 3) rfl)) ?_
   refine .cons (lop rfl rfl fun S hA => (iop_load_sel_s (eInt .i64) (b := 0) (k := 3) (sz := 4) (d := .int _ _) rfl rfl (lb rfl) Try.underlying3 ag3 ti3 (svaR hA rfl rfl) (agi hA rfl rfl) hx25 ⟨rfl, ⟨rfl, ⟨rfl, ⟨rfl, trivial⟩⟩⟩⟩ rfl)) ?_
   refine .cons (lop rfl rfl fun S hA => (iop_max2 rfl rfl (lb rfl) (svaI hA rfl rfl) (svaI hA rfl rfl) hx26)) ?_
   refine .cons (lop rfl rfl fun S hA => (iop_cmpx rfl rfl (lb rfl) (svaI hA rfl rfl) (sv (d := .int _ 1073741824) rfl) rfl hx27)) ?_
   exact .nil
  refine iwp_cond (b := _) rfl (fun hc28 => ?_) (fun hc28 => ?_)
  ·
   replace h := bif_t h hc28
   obtain ⟨x29, hx29, h⟩ := bno_e h
   obtain ⟨x30, hx30, h⟩ := bno_e h
   obtain ⟨x31, hx31, h⟩ := bnd_e h
   obtain ⟨x32, hx32, h⟩ := bnd_e h
   obtain ⟨x33, hx33, h⟩ := bnd_e h
   obtain ⟨x34, hx34, h⟩ := bnd_e h
   refine iwp_reg (ils_cons rfl (mvR rfl rfl rfl rfl) <|
    ils_cons rfl (iop_nilCheck_ref rfl rfl (lb rfl) (svR rfl)) <|
    ils_cons rfl (iop_field_sel rfl rfl (lb rfl) Try.underlying31 rfl ti3 (by decide) (svR rfl) (k' := 2) rfl) <|
    ils_cons rfl (iop_load_sel_s (eInt .i64) (b := 0) (k := 2) (sz := 4) (d := .int _ _) rfl rfl (lb rfl) Try.underlying3 ag3 ti3 (svR rfl) rfl hx29 ⟨rfl, ⟨rfl, ⟨rfl, ⟨rfl, trivial⟩⟩⟩⟩ rfl) <|
    ils_cons rfl (iop_quox rfl rfl (lb rfl) (svI rfl) (sv (d := .int _ 2) rfl) hx30) <|
    ils_cons rfl (iop_nilCheck_ref rfl rfl (lb rfl) (svR rfl)) <|
    ils_cons rfl (iop_field_sel rfl rfl (lb rfl) Try.underlying31 rfl ti3 (by decide) (svR rfl) (k' := 2) rfl) <|
    ils_cons rfl (iop_store_sel (b := 0) (k := 2) (sz := 4) (cs' := (w15 x31.Up x31.Dead x31.Bytes x31.Ticks x32.Up x32.Dead x32.Bytes x32.Ticks x33.Up x33.Dead x33.Bytes x33.Ticks x34.Up x34.Dead x34.Bytes x34.Ticks x1.2.2.2.2.2.2.2.2.2.2.2.2.2.2.2.2.1 (.osl 2 E_paths_Bind.sz x1.2.2.2.2.2.2.2.2.2.2.2.2.2.2.2.2.2.length))) rfl rfl ti3 (svR rfl) rfl (svI rfl) rfl rfl rfl hk11 rfl ⟨⟨⟨⟨trivial, fun h => by rw [← hx31, ← hx32, ← hx33, ← hx34, h]; rfl⟩, fun h => by rw [← hx31, ← hx32, ← hx33, ← hx34, h]; rfl⟩, fun h => by rw [← hx31, ← hx32, ← hx33, ← hx34, h]; rfl⟩, fun h => by rw [← hx31, ← hx32, ← hx33, ← hx34, h]; rfl⟩) <|
    ils_end ?_)
   obtain ⟨x35, hx35, h⟩ := bno_e h
   obtain ⟨x36, hx36, h⟩ := bno_e h
   obtain ⟨x37, hx37, h⟩ := bnd_e h
   obtain ⟨x38, hx38, h⟩ := bnd_e h
   obtain ⟨x39, hx39, h⟩ := bnd_e h
   obtain ⟨x40, hx40, h⟩ := bnd_e h
   refine iwp_region (ils_cons rfl (mvR rfl rfl rfl rfl) <|
    ils_cons rfl (iop_nilCheck_ref rfl rfl (lb rfl) (svR rfl)) <|
    ils_cons rfl (iop_field_sel rfl rfl (lb rfl) Try.underlying31 rfl ti3 (by decide) (svR rfl) (k' := 3) rfl) <|
    ils_cons rfl (iop_load_sel_s (eInt .i64) (b := 0) (k := 3) (sz := 4) (d := .int _ _) rfl rfl (lb rfl) Try.underlying3 ag3 ti3 (svR rfl) rfl hx35 ⟨rfl, ⟨rfl, ⟨rfl, ⟨rfl, trivial⟩⟩⟩⟩ rfl) <|
    ils_cons rfl (iop_quox rfl rfl (lb rfl) (svI rfl) (sv (d := .int _ 2) rfl) hx36) <|
    ils_cons rfl (iop_nilCheck_ref rfl rfl (lb rfl) (svR rfl)) <|
    ils_cons rfl (iop_field_sel rfl rfl (lb rfl) Try.underlying31 rfl ti3 (by decide) (svR rfl) (k' := 3) rfl) <|
    ils_cons rfl (iop_store_sel (b := 0) (k := 3) (sz := 4) (cs' := (w15 x37.Up x37.Dead x37.Bytes x37.Ticks x38.Up x38.Dead x38.Bytes x38.Ticks x39.Up x39.Dead x39.Bytes x39.Ticks x40.Up x40.Dead x40.Bytes x40.Ticks x1.2.2.2.2.2.2.2.2.2.2.2.2.2.2.2.2.1 (.osl 2 E_paths_Bind.sz x1.2.2.2.2.2.2.2.2.2.2.2.2.2.2.2.2.2.length))) rfl rfl ti3 (svR rfl) rfl (svI rfl) rfl rfl rfl hk11 rfl ⟨⟨⟨⟨trivial, fun h => by rw [← hx37, ← hx38, ← hx39, ← hx40, h]; rfl⟩, fun h => by rw [← hx37, ← hx38, ← hx39, ← hx40, h]; rfl⟩, fun h => by rw [← hx37, ← hx38, ← hx39, ← hx40, h]; rfl⟩, fun h => by rw [← hx37, ← hx38, ← hx39, ← hx40, h]; rfl⟩) <|
    ils_nil ?_)
   refine thenQ_n ?_
   refine iwp_reg (ils_cons rfl (lra q4 la35 rfl rfl rfl rfl rfl (nle rfl) rfl) <|
    ils_cons rfl (stA q4 q4 ti35 rfl rfl rfl rfl rfl rfl rfl rfl (nle rfl) rfl) <|
    ils_end ?_)
   refine iwp_ret ?_
   obtain rfl := Option.some.inj h
   refine ⟨.inr rfl, _, (.cons (rva la35 rfl rfl (nle rfl) rfl) .nil), (.cons (.agg (.k4 (.k (.k4 (.k (.k4 (.k (.k (.k (.cons (FDT E_paths_Bind rfl rfl) .nil)))))))))) .nil)⟩
  ·
   replace h := bif_f h hc28
   refine iwp_skip ?_
   refine thenQ_n ?_
   refine iwp_reg (ils_cons rfl (lra q4 la35 rfl rfl rfl rfl rfl (nle rfl) rfl) <|
    ils_cons rfl (stA q4 q4 ti35 rfl rfl rfl rfl rfl rfl rfl rfl (nle rfl) rfl) <|
    ils_end ?_)
   refine iwp_ret ?_
   obtain rfl := Option.some.inj h
   refine ⟨.inr rfl, _, (.cons (rva la35 rfl rfl (nle rfl) rfl) .nil), (.cons (.agg (.k4 (.k (.k4 (.k (.k4 (.k (.k (.k (.cons (FDT E_paths_Bind rfl rfl) .nil)))))))))) .nil)⟩

theorem p_paths_State_find_1 (a0 : T_paths_Bind) (a1 : Int) (r : Int) (h : paths_State_find_1 a0 a1 = some r) : PureAt Try.prog 67 [.agg [.int .i64 a0.Stream, .int .i64 a0.Path], .int .i64 a1] (.int .i64 r) := by
 refine pure_of_iwp (rs := [.int .i64 r]) Try.func67 rfl Try.ntmps67 (nle rfl) rfl fun O hO => ?_
 show IWP _ _ _ _ ⟨[(0, .agg [.int .i64 a0.Stream, .int .i64 a0.Path]), (1, .int .i64 a1)], []⟩ _
 unfold paths_State_find_1 at h
 refine iwp_reg (ils_cons rfl (iop_box' (cs := q9) 0 rfl rfl (lb rfl) rfl (svA q9 rfl) rfl rfl) <|
  ils_cons rfl (iop_assign rfl rfl (lb rfl) (sv (d := .int _ 0) rfl)) <|
  ils_end ?_)
 obtain ⟨x1, hx1, h⟩ := bnd_e h
 refine iwp_reg (ils_cons rfl (faR 0 rfl rfl rfl Try.underlying86 rfl ti3 (lb rfl) rfl rfl) <|
  ils_cons rfl (iop_load_rs (d := .int _ _) rfl rfl (lb rfl) Try.underlying3 ag3 ti3 (by decide) (svR rfl) rfl (nle rfl) rfl) <|
  ils_cons rfl (mvI rfl rfl rfl rfl) <|
  ils_cons rfl (iop_intx rfl rfl (lb rfl) (svI rfl) (svI rfl) rfl hx1) <|
  ils_cons rfl (asI rfl rfl rfl rfl) <|
  ils_end ?_)
 refine iwp_ret ?_
 obtain rfl := Option.some.inj h
 refine ⟨.inr rfl, (.cons (sv rfl) .nil)⟩

theorem p_slices_BinarySearchFunc_paths_Bind_paths_Bind_int_find_1 (a0 : (List T_paths_Bind)) (a1 : Int) (r : (Int × Bool)) (h : slices_BinarySearchFunc_paths_Bind_paths_Bind_int_find_1 a0 a1 = some r) : PureAt Try.prog 66 [.slice false (a0.map E_paths_Bind.d), .int .i64 a1, .fn 67 []] (retD [.int .i64 r.1, .bool r.2]) := by
 refine pure_of_iwp (rs := [.int .i64 r.1, .bool r.2]) Try.func66 rfl Try.ntmps66 (nle rfl) rfl fun O hO => ?_
 show IWP _ _ _ _ ⟨[(0, .slice false (a0.map E_paths_Bind.d)), (1, .int .i64 a1), (2, .fn 67 [])], []⟩ _
 unfold slices_BinarySearchFunc_paths_Bind_paths_Bind_int_find_1 at h
 refine iwp_reg (ils_cons rfl (iop_assign rfl rfl (lb rfl) (sv (d := .int _ 0) rfl)) <|
  ils_cons rfl (iop_assign rfl rfl (lb rfl) (sv (d := .bool false) rfl)) <|
  ils_end ?_)
 refine iwp_reg (ils_cons rfl (mvL rfl rfl rfl rfl) <|
  ils_cons rfl (iop_lenT E_paths_Bind (l := a0) rfl rfl (lb rfl) Try.underlying33 (svL rfl)) <|
  ils_cons rfl (asI rfl rfl rfl rfl) <|
  ils_end ?_)
 refine iwp_reg (ils_cons rfl (mvI rfl rfl rfl rfl) <|
  ils_cons rfl (iop_assign rfl rfl (lb rfl) (sv (d := .int _ 0) rfl)) <|
  ils_cons rfl (asI rfl rfl rfl rfl) <|
  ils_end ?_)
 refine iwp_seq ?_
 refine iwp_block ?_
 refine iwp_loopP (α := Nat × Int × Int) (fun z => ⟨[(0, .slice false (a0.map E_paths_Bind.d)), (1, .int .i64 a1), (2, .fn 67 []), (8, .int .i64 (a0.length : Int)), (9, .int .i64 z.2.1), (10, .int .i64 z.2.2)], []⟩) (fun z => slices_BinarySearchFunc_paths_Bind_paths_Bind_int_find_1_L0 a0 a1 z.1 z.2.1 z.2.2 = some r) (fun z => z.1) (fuel, 0, (a0.length : Int)) (fun i => i) ⟨(.sames rfl rfl), .nil, nd_of [] rfl (by decide), fun _ _ => rfl⟩ ?_ ?_
 ·exact h
 ·
  rintro ⟨n0, v12, v13⟩ h
  cases n0 with
  | zero => exact absurd h (by unfold slices_BinarySearchFunc_paths_Bind_paths_Bind_int_find_1_L0; exact nofun)
  | succ n0 =>
   unfold slices_BinarySearchFunc_paths_Bind_paths_Bind_int_find_1_L0 at h
   refine iwp_seq ?_
   obtain ⟨x25, hx25, h⟩ := bnd_e h
   refine iwp_reg (ils_cons rfl (mvI rfl rfl rfl rfl) <|
    ils_cons rfl (mvI rfl rfl rfl rfl) <|
    ils_cons rfl (iop_cmpx rfl rfl (lb rfl) (svI rfl) (svI rfl) rfl hx25) <|
    ils_end ?_)
   refine iwp_cond (b := _) rfl (fun hc26 => ?_) (fun hc26 => ?_)
   ·
    replace h := bif_t h hc26
    refine iwp_skip ?_
    refine thenQ_n ?_
    refine iwp_block ?_
    obtain ⟨x27, hx27, h⟩ := bnd_e h
    obtain ⟨x28, hx28, h⟩ := bnd_e h
    obtain ⟨x29, hx29, h⟩ := bno_e h
    obtain ⟨x30, hx30, h⟩ := bnd_e h
    refine iwp_reg (ils_cons rfl (mvI rfl rfl rfl rfl) <|
     ils_cons rfl (mvI rfl rfl rfl rfl) <|
     ils_cons rfl (iop_intx rfl rfl (lb rfl) (svI rfl) (svI rfl) rfl hx27) <|
     ils_cons rfl (iop_int_conv rfl rfl (lb rfl) ⟨_, Try.underlying3⟩ Try.underlying110 (svI rfl) hx28) <|
     ils_cons rfl (iop_shrx rfl rfl (lb rfl) (svI rfl) (sv (d := .int _ 1) rfl) hx29) <|
     ils_cons rfl (iop_int_conv rfl rfl (lb rfl) ⟨_, Try.underlying110⟩ Try.underlying3 (svI rfl) hx30) <|
     ils_cons rfl (asI rfl rfl rfl rfl) <|
     ils_end ?_)
    obtain ⟨x31, hx31, h⟩ := bno_e h
    obtain ⟨x32, hx32, h⟩ := bno_e h
    obtain ⟨x33, hx33, h⟩ := bnd_e h
    refine iwp_reg (ils_cons rfl (iop_move rfl rfl (lb rfl) (sv (d := .fn 67 []) rfl)) <|
     ils_cons rfl (mvL rfl rfl rfl rfl) <|
     ils_cons rfl (mvI rfl rfl rfl rfl) <|
     ils_cons rfl (iop_idxT E_paths_Bind (cs := q9) rfl rfl (lb rfl) Try.underlying33 ti86 (svL rfl) (svI rfl) hx31 rfl rfl) <|
     ils_cons rfl (iop_load_fa (cs := q9) rfl rfl (lb rfl) Try.underlying86 ag86 ti86 (by decide) (sv (d := .fptr q9) rfl) (nle rfl) rfl) <|
     ils_cons rfl (mvI rfl rfl rfl rfl) <|
     ils_cons rfl (iop_callv (r := .int _ _) rfl rfl (lb rfl) cl67 (sv (d := .fn 67 []) rfl) (.cons (svA q9 rfl) (.cons (svI rfl) .nil)) rfl (p_paths_State_find_1 _ _ _ hx32)) <|
     ils_cons rfl (iop_cmpx rfl rfl (lb rfl) (svI rfl) (sv (d := .int _ 0) rfl) rfl hx33) <|
     ils_end ?_)
    refine iwp_cond (b := _) rfl (fun hc34 => ?_) (fun hc34 => ?_)
    ·
     replace h := bif_t h hc34
     obtain ⟨x35, hx35, h⟩ := bnd_e h
     refine iwp_region (ils_cons rfl (mvI rfl rfl rfl rfl) <|
      ils_cons rfl (iop_intx rfl rfl (lb rfl) (svI rfl) (sv (d := .int _ 1) rfl) rfl hx35) <|
      ils_cons rfl (asI rfl rfl rfl rfl) <|
      ils_nil ?_)
     refine blockQ_n ?_
     refine thenQ_n ⟨(n0, x35, v13), (fun i => i), ⟨(.sames rfl rfl), .nil, nd_of [] rfl (by decide), fun _ _ => rfl⟩, ?_, ?_⟩
     exact h
     exact Nat.lt_succ_self _
    ·
     replace h := bif_f h hc34
     refine iwp_region (ils_cons rfl (mvI rfl rfl rfl rfl) <|
      ils_cons rfl (asI rfl rfl rfl rfl) <|
      ils_nil ?_)
     refine blockQ_n ?_
     refine thenQ_n ⟨(n0, v12, x30), (fun i => i), ⟨(.sames rfl rfl), .nil, nd_of [] rfl (by decide), fun _ _ => rfl⟩, ?_, ?_⟩
     exact h
     exact Nat.lt_succ_self _
   ·
    replace h := bif_f h hc26
    refine iwp_exit ?_
    refine thenQ_e ?_
    refine thenQ_e ?_
    refine blockQ_e ?_
    refine thenQ_n ?_
    obtain ⟨x36, hx36, h⟩ := bnd_e h
    obtain ⟨x37, hx37, h⟩ := bno_e h
    obtain ⟨x38, hx38, h⟩ := bno_e h
    obtain ⟨x39, hx39, h⟩ := bnd_e h
    obtain ⟨x40, hx40, h⟩ := bnd_e h
    refine iwp_reg (ils_cons rfl (mvI rfl rfl rfl rfl) <|
     ils_cons rfl (mvI rfl rfl rfl rfl) <|
     ils_cons rfl (mvI rfl rfl rfl rfl) <|
     ils_cons rfl (iop_cmpx rfl rfl (lb rfl) (svI rfl) (svI rfl) rfl hx36) <|
     ils_cons rfl (mvB rfl rfl rfl rfl) <|
     ils_guard rfl rfl (.one rfl) rfl (by decide) (fun hb => (iop_move rfl rfl (lb rfl) (sv (d := .fn 67 []) rfl))) <|
     ils_guard rfl rfl (.one rfl) rfl (by decide) (fun hb => (mvL rfl rfl rfl rfl)) <|
     ils_guard rfl rfl (.one rfl) rfl (by decide) (fun hb => (mvI rfl rfl rfl rfl)) <|
     ils_guard rfl rfl (.one rfl) rfl (by decide) (fun hb => (iop_idxT E_paths_Bind (cs := q9) rfl rfl (lb rfl) Try.underlying33 ti86 (svcL rfl hb) (svcI rfl hb) (gd_t hx37 hb) rfl rfl)) <|
     ils_guard rfl rfl (.one rfl) rfl (by decide) (fun hb => (iop_load_fa (cs := q9) rfl rfl (lb rfl) Try.underlying86 ag86 ti86 (by decide) (svc (d := .fptr q9) rfl hb) (nle rfl) rfl)) <|
     ils_guard rfl rfl (.one rfl) rfl (by decide) (fun hb => (mvI rfl rfl rfl rfl)) <|
     ils_guard rfl rfl (.one rfl) rfl (by decide) (fun hb => (iop_callv (r := .int _ _) rfl rfl (lb rfl) cl67 (svc (d := .fn 67 []) rfl hb) (.cons (svc (d := .agg [.int .i64 x37.Stream, .int .i64 x37.Path]) rfl hb) (.cons (svcI rfl hb) .nil)) rfl (p_paths_State_find_1 _ _ _ (gd_t hx38 hb)))) <|
     ils_guard rfl rfl (.one rfl) rfl (by decide) (fun hb => (iop_cmpx rfl rfl (lb rfl) (svcI rfl hb) (sv (d := .int _ 0) rfl) rfl hx39)) <|
     ils_cons rfl (iop_andx rfl rfl (lb rfl) (svB rfl) rfl rfl hx40) <|
     ils_cons rfl (asI rfl rfl rfl rfl) <|
     ils_cons rfl (asB rfl rfl rfl rfl) <|
     ils_end ?_)
    refine iwp_ret ?_
    obtain rfl := Option.some.inj h
    refine ⟨.inr rfl, (.cons (sv rfl) (.cons (sv rfl) .nil))⟩

theorem p_paths_State_find (a0 : T_paths_State) (a1 : Int) (r : (Int × Bool)) (h : paths_State_find a0 a1 = some r) : PureAt Try.prog 47 [.agg (v0 a0), .int .i64 a1] (retD [.int .i64 r.1, .bool r.2]) := by
 refine pure_of_iwp (rs := [.int .i64 r.1, .bool r.2]) Try.func47 rfl Try.ntmps47 (nle rfl) rfl fun O hO => ?_
 show IWP _ _ _ _ ⟨[(0, .agg (v0 a0)), (1, .int .i64 a1)], []⟩ _
 unfold paths_State_find at h
 refine iwp_reg (ils_cons rfl (iop_box' (cs := q3) 0 rfl rfl (lb rfl) rfl (svA q3 rfl) rfl rfl) <|
  ils_cons rfl (iop_assign rfl rfl (lb rfl) (sv (d := .int _ 0) rfl)) <|
  ils_cons rfl (iop_assign rfl rfl (lb rfl) (sv (d := .bool false) rfl)) <|
  ils_end ?_)
 obtain ⟨x1, hx1, h⟩ := bno_e h
 refine iwp_reg (ils_cons rfl (faR 17 rfl rfl rfl Try.underlying35 rfl ti33 (lb rfl) rfl rfl) <|
  ils_cons rfl (lrL la33 rfl rfl rfl rfl rfl (nle rfl) rfl) <|
  ils_cons rfl (mvI rfl rfl rfl rfl) <|
  ils_cons rfl (iop_call (r := .tuple q10) rfl rfl (lb rfl) cl66 (.cons (svL rfl) (.cons (svI rfl) (.cons (sv (d := .fn 67 []) rfl) .nil))) rfl (p_slices_BinarySearchFunc_paths_Bind_paths_Bind_int_find_1 _ _ _ hx1)) <|
  ils_cons rfl (iop_extract (d := .int _ _) rfl rfl (lb rfl) (sv (d := .tuple q10) rfl) rfl) <|
  ils_cons rfl (iop_extract (d := .bool _) rfl rfl (lb rfl) (sv (d := .tuple q10) rfl) rfl) <|
  ils_cons rfl (asI rfl rfl rfl rfl) <|
  ils_cons rfl (asB rfl rfl rfl rfl) <|
  ils_end ?_)
 refine iwp_ret ?_
 obtain rfl := Option.some.inj h
 refine ⟨.inr rfl, (.cons (sv rfl) (.cons (sv rfl) .nil))⟩

theorem p_gauge_Rate (a0 : Int) (a1 : Int) (r : Nat) (h : gauge_Rate a0 a1 = some r) : PureAt Try.prog 52 [.int .i64 a0, .int .i64 a1] (.float .f64 r) := by
 refine pure_of_iwp (rs := [.float .f64 r]) Try.func52 rfl Try.ntmps52 (nle rfl) rfl fun O hO => ?_
 show IWP _ _ _ _ ⟨[(0, .int .i64 a0), (1, .int .i64 a1)], []⟩ _
 unfold gauge_Rate at h
 refine iwp_reg (ils_cons rfl (iop_assign rfl rfl (lb rfl) (sv (d := .float _ _) rfl)) <|
  ils_end ?_)
 obtain ⟨x1, hx1, h⟩ := bnd_e h
 obtain ⟨x2, hx2, h⟩ := bnd_e h
 refine iwp_reg (ils_cons rfl (mvI rfl rfl rfl rfl) <|
  ils_cons rfl (iop_fintx rfl rfl (lb rfl) ⟨_, Try.underlying3⟩ Try.underlying65 (svI rfl) hx1) <|
  ils_cons rfl (mvI rfl rfl rfl rfl) <|
  ils_cons rfl (iop_fintx rfl rfl (lb rfl) ⟨_, Try.underlying3⟩ Try.underlying65 (svI rfl) hx2) <|
  ils_cons rfl (iop_assign rfl rfl (lb rfl) (sv (d := .float _ _) rfl)) <|
  ils_cons rfl (iop_assign rfl rfl (lb rfl) (sv (d := .float _ _) rfl)) <|
  ils_end ?_)
 obtain ⟨x3, hx3, h⟩ := bnd_e h
 refine iwp_reg (ils_cons rfl (iop_move rfl rfl (lb rfl) (sv (d := .float _ _) rfl)) <|
  ils_cons rfl (iop_move rfl rfl (lb rfl) (sv (d := .float _ _) rfl)) <|
  ils_cons rfl (iop_farx rfl rfl (lb rfl) (sv (d := .float _ _) rfl) (sv (d := .float _ _) rfl) rfl hx3) <|
  ils_cons rfl (iop_assign rfl rfl (lb rfl) (sv (d := .float _ _) rfl)) <|
  ils_end ?_)
 refine iwp_ret ?_
 obtain rfl := Option.some.inj h
 refine ⟨.inr rfl, (.cons (sv rfl) .nil)⟩

theorem p_paths_Rates (a0 : T_paths_State) (r : (List Nat)) (h : paths_Rates a0 = some r) : PureAt Try.prog 25 [.agg (v0 a0)] (.slice false (r.map (eFlt .f64).d)) := by
 refine pure_of_iwp (rs := [.slice false (r.map (eFlt .f64).d)]) Try.func25 rfl Try.ntmps25 (nle rfl) rfl fun O hO => ?_
 show IWP _ _ _ _ ⟨[(0, .agg (v0 a0))], []⟩ _
 unfold paths_Rates at h
 refine iwp_reg (ils_cons rfl (iop_box' (cs := q3) 0 rfl rfl (lb rfl) rfl (svA q3 rfl) rfl rfl) <|
  ils_cons rfl (iop_assign rfl rfl (lb rfl) (sv (d := .nils) rfl)) <|
  ils_end ?_)
 refine iwp_reg (ils_cons rfl (iop_assign rfl rfl (lb rfl) (sv (d := .nils) rfl)) <|
  ils_end ?_)
 refine iwp_seq ?_
 refine iwp_reg (ils_cons rfl (iop_move rfl rfl (lb rfl) (sv (d := .int _ 0) rfl)) <|
  ils_end ?_)
 refine iwp_block ?_
 refine iwp_loopP (α := Nat × (List Nat) × Int) (fun z => ⟨[(1, .ref 0 0), (3, .gsl 22 (eFlt .f64).sz (z.2.1.map (eFlt .f64).d)), (6, .int .i64 z.2.2)], [(0, .blk 35 (v0 a0)), (22, .tail 65 (eFlt .f64).sz z.2.1.length)]⟩) (fun z => paths_Rates_L0 a0 z.1 z.2.1 z.2.2 = some r) (fun z => z.1) (fuel, ([] : (List Nat)), 0) (fun i => if i = 22 then 73 else i) ⟨(.s rfl rfl (.cons (.nils rfl) (.sames rfl rfl))), (.cons (.blk rfl rfl rfl) (.cons (.nils rfl) .nil)), nd_of [0, 73] rfl (by decide), (fun i hi => by first | rfl | (show (if _ then _ else _) = _; (repeat' split) <;> omega))⟩ ?_ ?_
 ·exact h
 ·
  rintro ⟨n0, v14, v15⟩ h
  cases n0 with
  | zero => exact absurd h (by unfold paths_Rates_L0; exact nofun)
  | succ n0 =>
   unfold paths_Rates_L0 at h
   obtain ⟨x33, hx33, h⟩ := bnd_e h
   refine iwp_reg (ils_cons rfl (iop_cmpx rfl rfl (lb rfl) (svI rfl) (sv (d := .int _ 4) rfl) rfl hx33) <|
    ils_end ?_)
   refine iwp_seq ?_
   refine iwp_cond (b := _) rfl (fun hc34 => ?_) (fun hc34 => ?_)
   ·
    replace h := bif_t h hc34
    refine iwp_skip ?_
    refine thenQ_n ?_
    refine iwp_seq ?_
    refine iwp_block ?_
    refine iwp_reg (ils_cons rfl (mvI rfl rfl rfl rfl) <|
     ils_cons rfl (asI rfl rfl rfl rfl) <|
     ils_end ?_)
    refine iwp_reg (ils_cons rfl (iop_allocS (cs := q8) (cs' := (w16 false false 0 0)) 23 rfl rfl (lb rfl) rfl ti31 rfl rfl (.all _)) <|
     ils_end ?_)
    refine iwp_join (α := Bool × Bool × Int × Int) (fun z => ⟨[(1, .ref 0 0), (3, .gsl 22 (eFlt .f64).sz (v14.map (eFlt .f64).d)), (6, .int .i64 v15), (5, .ref 23 0)], [(0, .blk 35 (v0 a0)), (22, .tail 65 (eFlt .f64).sz v14.length), (23, .blk 31 (w16 z.1 z.2.1 z.2.2.1 z.2.2.2))]⟩) (fun z => paths_Rates_J1 v14 v15 (paths_Rates_L0 a0 n0) z.1 z.2.1 z.2.2.1 z.2.2.2 = some r) ?_ ?_
    ·
     obtain ⟨x46, hx46, h⟩ := bno_e h
     refine iwp_reg (ils_cons rfl (lra q3 la35 rfl rfl rfl rfl rfl (nle rfl) rfl) <|
      ils_cons rfl (mvI rfl rfl rfl rfl) <|
      ils_cons rfl (iop_call (r := .bool _) rfl rfl (lb rfl) cl43 (.cons (svA q3 rfl) (.cons (svI rfl) .nil)) rfl (p_paths_State_up _ _ _ hx46)) <|
      ils_end ?_)
     refine iwp_cond (b := _) rfl (fun hc47 => ?_) (fun hc47 => ?_)
     ·
      replace h := bif_t h hc47
      obtain ⟨hk48, h⟩ := chk_e h
      obtain ⟨x49, hx49, h⟩ := bno_e h
      refine iwp_region (ils_cons rfl (mvI rfl rfl rfl rfl) <|
       ils_cons rfl (faR 0 rfl rfl rfl Try.underlying35 rfl ti32 (lb rfl) rfl rfl) <|
       ils_cons rfl (iop_index_sel rfl rfl (lb rfl) Try.underlying32 ti31 (svR rfl) (svI rfl) hk48) <|
       ils_cons rfl (iop_load_sel_a E_paths_Line (b := 0) (k := 0) (sz := 4) (ds := q8) rfl rfl (lb rfl) Try.underlying31 ag31 ti31 (by decide) (svR rfl) rfl hx49 ⟨rfl, ⟨rfl, ⟨rfl, ⟨rfl, trivial⟩⟩⟩⟩ rfl rfl) <|
       ils_cons rfl (stA q8 q8 ti31 rfl rfl rfl rfl rfl rfl rfl rfl (nle rfl) rfl) <|
       ils_nil ?_)
      refine thenQ_n ⟨(x49.Up, x49.Dead, x49.Bytes, x49.Ticks), (fun i => i), ⟨(.sames rfl rfl), (.cons (.blk rfl rfl rfl) (.cons (.tail rfl) (.cons (.blk rfl rfl rfl) .nil))), nd_of [0, 22, 23] rfl (by decide), fun _ _ => rfl⟩, ?_⟩
      exact h
     ·
      replace h := bif_f h hc47
      refine iwp_skip ?_
      refine thenQ_n ⟨(false, false, 0, 0), (fun i => i), ⟨(.sames rfl rfl), (.cons (.blk rfl rfl rfl) (.cons (.tail rfl) (.cons (.blk rfl rfl rfl) .nil))), nd_of [0, 22, 23] rfl (by decide), fun _ _ => rfl⟩, ?_⟩
      exact h
    ·
     rintro ⟨v39, v40, v41, v42⟩ h
     unfold paths_Rates_J1 at h
     obtain ⟨x43, hx43, h⟩ := bno_e h
     obtain ⟨x44, hx44, h⟩ := bno_e h
     refine iwp_region (ils_cons rfl (iop_move rfl rfl (lb rfl) (sv (d := .gsl _ _ _) rfl)) <|
      ils_cons rfl (faR 2 rfl rfl rfl Try.underlying31 rfl ti3 (lb rfl) rfl rfl) <|
      ils_cons rfl (iop_load_rs (d := .int _ _) rfl rfl (lb rfl) Try.underlying3 ag3 ti3 (by decide) (svR rfl) rfl (nle rfl) rfl) <|
      ils_cons rfl (faR 3 rfl rfl rfl Try.underlying31 rfl ti3 (lb rfl) rfl rfl) <|
      ils_cons rfl (iop_load_rs (d := .int _ _) rfl rfl (lb rfl) Try.underlying3 ag3 ti3 (by decide) (svR rfl) rfl (nle rfl) rfl) <|
      ils_cons rfl (iop_call (r := .float _ _) rfl rfl (lb rfl) cl52 (.cons (svI rfl) (.cons (svI rfl) .nil)) rfl (p_gauge_Rate _ _ _ hx43)) <|
      ils_cons rfl (iop_bsT (eFlt .f64) ([x43] : (List Nat)) 24 rfl rfl (lb rfl) Try.underlying60 ti65 rfl (.cons (sv (d := .float _ _) rfl) .nil) rfl rfl (by decide)) <|
      ils_cons rfl (iop_appT (eFlt .f64) 25 rfl rfl (lb rfl) Try.underlying60 ti65 rfl rfl rfl rfl (svg rfl) hx44) <|
      ils_cons rfl (iop_assign rfl rfl (lb rfl) (sv (d := .gsl _ _ _) rfl)) <|
      ils_nil ?_)
     refine blockQ_n ?_
     refine thenQ_n ?_
     obtain ⟨x45, hx45, h⟩ := bnd_e h
     refine iwp_region (ils_cons rfl (iop_intx rfl rfl (lb rfl) (svI rfl) (sv (d := .int _ 1) rfl) rfl hx45) <|
      ils_cons rfl (mvI rfl rfl rfl rfl) <|
      ils_nil ?_)
     refine thenQ_n ⟨(n0, x44, x45), (fun i => if i = 22 then 25 else i), ⟨(.sames rfl rfl), (.cons (.blk rfl rfl rfl) (.cons (.tail rfl) .nil)), nd_of [0, 25] rfl (by decide), (fun i hi => by first | rfl | (show (if _ then _ else _) = _; (repeat' split) <;> omega))⟩, ?_, ?_⟩
     exact h
     exact Nat.lt_succ_self _
   ·
    replace h := bif_f h hc34
    refine iwp_exit ?_
    refine thenQ_e ?_
    refine thenQ_e ?_
    refine blockQ_e ?_
    refine thenQ_n ?_
    refine iwp_reg (ils_cons rfl (iop_move rfl rfl (lb rfl) (sv (d := .gsl _ _ _) rfl)) <|
     ils_cons rfl (iop_assign rfl rfl (lb rfl) (sv (d := .gsl _ _ _) rfl)) <|
     ils_end ?_)
    refine iwp_ret ?_
    obtain rfl := Option.some.inj h
    refine ⟨.inr rfl, (.cons (svg_of rfl rfl) .nil)⟩

theorem p_math_IsNaN (a0 : Nat) (r : Bool) (h : math_IsNaN a0 = some r) : PureAt Try.prog 61 [.float .f64 a0] (.bool r) := by
 refine pure_of_iwp (rs := [.bool r]) Try.func61 rfl Try.ntmps61 (nle rfl) rfl fun O hO => ?_
 show IWP _ _ _ _ ⟨[(0, .float .f64 a0)], []⟩ _
 unfold math_IsNaN at h
 refine iwp_reg (ils_cons rfl (iop_assign rfl rfl (lb rfl) (sv (d := .bool false) rfl)) <|
  ils_end ?_)
 obtain ⟨x1, hx1, h⟩ := bnd_e h
 refine iwp_reg (ils_cons rfl (iop_move rfl rfl (lb rfl) (sv (d := .float _ _) rfl)) <|
  ils_cons rfl (iop_move rfl rfl (lb rfl) (sv (d := .float _ _) rfl)) <|
  ils_cons rfl (iop_fcmpx rfl rfl (lb rfl) (sv (d := .float _ _) rfl) (sv (d := .float _ _) rfl) rfl hx1) <|
  ils_cons rfl (asB rfl rfl rfl rfl) <|
  ils_end ?_)
 refine iwp_ret ?_
 obtain rfl := Option.some.inj h
 refine ⟨.inr rfl, (.cons (sv rfl) .nil)⟩

theorem p_gauge_Compare (a0 : Nat) (a1 : Nat) (r : Int) (h : gauge_Compare a0 a1 = some r) : PureAt Try.prog 38 [.float .f64 a0, .float .f64 a1] (.int .i64 r) := by
 refine pure_of_iwp (rs := [.int .i64 r]) Try.func38 rfl Try.ntmps38 (nle rfl) rfl fun O hO => ?_
 show IWP _ _ _ _ ⟨[(0, .float .f64 a0), (1, .float .f64 a1)], []⟩ _
 unfold gauge_Compare at h
 refine iwp_reg (ils_cons rfl (iop_assign rfl rfl (lb rfl) (sv (d := .int _ 0) rfl)) <|
  ils_end ?_)
 refine iwp_seq ?_
 refine iwp_block ?_
 refine iwp_join (α := Bool) (fun z => ⟨[(0, .float .f64 a0), (1, .float .f64 a1), (5, .bool z)], []⟩) (fun z => gauge_Compare_J0 a0 a1 z = some r) ?_ ?_
 ·
  obtain ⟨x14, hx14, h⟩ := bnd_e h
  refine iwp_reg (ils_cons rfl (iop_move rfl rfl (lb rfl) (sv (d := .float _ _) rfl)) <|
   ils_cons rfl (iop_move rfl rfl (lb rfl) (sv (d := .float _ _) rfl)) <|
   ils_cons rfl (iop_fcmpx rfl rfl (lb rfl) (sv (d := .float _ _) rfl) (sv (d := .float _ _) rfl) rfl hx14) <|
   ils_cons rfl (asB rfl rfl rfl rfl) <|
   ils_end ?_)
  refine iwp_cond (b := _) rfl (fun hc15 => ?_) (fun hc15 => ?_)
  ·
   replace h := bif_t h hc15
   refine iwp_skip ?_
   refine thenQ_n ⟨x14, (fun i => i), ⟨(.sames rfl rfl), .nil, nd_of [] rfl (by decide), fun _ _ => rfl⟩, ?_⟩
   exact h
  ·
   replace h := bif_f h hc15
   obtain ⟨x16, hx16, h⟩ := bno_e h
   obtain ⟨x17, hx17, h⟩ := bno_e h
   obtain ⟨x18, hx18, h⟩ := bnd_e h
   refine iwp_region (ils_cons rfl (iop_move rfl rfl (lb rfl) (sv (d := .float _ _) rfl)) <|
    ils_cons rfl (iop_call (r := .bool _) rfl rfl (lb rfl) cl61 (.cons (sv (d := .float _ _) rfl) .nil) rfl (p_math_IsNaN _ _ hx16)) <|
    ils_cons rfl (mvB rfl rfl rfl rfl) <|
    ils_guard rfl rfl (.one rfl) rfl (by decide) (fun hb => (iop_move rfl rfl (lb rfl) (sv (d := .float _ _) rfl))) <|
    ils_guard rfl rfl (.one rfl) rfl (by decide) (fun hb => (iop_call (r := .bool _) rfl rfl (lb rfl) cl61 (.cons (svc (d := .float _ _) rfl hb) .nil) rfl (p_math_IsNaN _ _ (gd_t hx17 hb)))) <|
    ils_guard rfl rfl (.one rfl) rfl (by decide) (fun hb => (iop_not rfl rfl (lb rfl) (svcB rfl hb))) <|
    ils_cons rfl (iop_andx rfl rfl (lb rfl) (svB rfl) rfl rfl hx18) <|
    ils_cons rfl (asB rfl rfl rfl rfl) <|
    ils_nil ?_)
   refine thenQ_n ⟨x18, (fun i => i), ⟨(.sames rfl rfl), .nil, nd_of [] rfl (by decide), fun _ _ => rfl⟩, ?_⟩
   exact h
 ·
  rintro v6 h
  unfold gauge_Compare_J0 at h
  refine iwp_cond (b := _) rfl (fun hc7 => ?_) (fun hc7 => ?_)
  ·
   replace h := bif_t h hc7
   refine iwp_reg (ils_cons rfl (iop_assign rfl rfl (lb rfl) (sv (d := .int _ (-1)) rfl)) <|
    ils_end ?_)
   refine iwp_ret ?_
   refine blockQ_r ?_
   refine thenQ_r ?_
   obtain rfl := Option.some.inj h
   refine ⟨.inr rfl, (.cons (sv rfl) .nil)⟩
  ·
   replace h := bif_f h hc7
   refine iwp_seq ?_
   obtain ⟨x8, hx8, h⟩ := bnd_e h
   refine iwp_reg (ils_cons rfl (iop_move rfl rfl (lb rfl) (sv (d := .float _ _) rfl)) <|
    ils_cons rfl (iop_move rfl rfl (lb rfl) (sv (d := .float _ _) rfl)) <|
    ils_cons rfl (iop_fcmpx rfl rfl (lb rfl) (sv (d := .float _ _) rfl) (sv (d := .float _ _) rfl) rfl hx8) <|
    ils_cons rfl (asB rfl rfl rfl rfl) <|
    ils_end ?_)
   refine iwp_cond (b := _) rfl (fun hc9 => ?_) (fun hc9 => ?_)
   ·
    replace h := bif_t h hc9
    refine iwp_skip ?_
    refine thenQ_n ?_
    refine iwp_cond_t rfl hc9 ?_
    refine iwp_reg (ils_cons rfl (iop_assign rfl rfl (lb rfl) (sv (d := .int _ 1) rfl)) <|
     ils_end ?_)
    refine iwp_ret ?_
    refine blockQ_r ?_
    refine thenQ_r ?_
    obtain rfl := Option.some.inj h
    refine ⟨.inr rfl, (.cons (sv rfl) .nil)⟩
   ·
    replace h := bif_f h hc9
    obtain ⟨x10, hx10, h⟩ := bno_e h
    obtain ⟨x11, hx11, h⟩ := bno_e h
    obtain ⟨x12, hx12, h⟩ := bnd_e h
    refine iwp_region (ils_cons rfl (iop_move rfl rfl (lb rfl) (sv (d := .float _ _) rfl)) <|
     ils_cons rfl (iop_call (r := .bool _) rfl rfl (lb rfl) cl61 (.cons (sv (d := .float _ _) rfl) .nil) rfl (p_math_IsNaN _ _ hx10)) <|
     ils_cons rfl (mvB rfl rfl rfl rfl) <|
     ils_guard rfl rfl (.one rfl) rfl (by decide) (fun hb => (iop_move rfl rfl (lb rfl) (sv (d := .float _ _) rfl))) <|
     ils_guard rfl rfl (.one rfl) rfl (by decide) (fun hb => (iop_call (r := .bool _) rfl rfl (lb rfl) cl61 (.cons (svc (d := .float _ _) rfl hb) .nil) rfl (p_math_IsNaN _ _ (gd_t hx11 hb)))) <|
     ils_guard rfl rfl (.one rfl) rfl (by decide) (fun hb => (iop_not rfl rfl (lb rfl) (svcB rfl hb))) <|
     ils_cons rfl (iop_andx rfl rfl (lb rfl) (svB rfl) rfl rfl hx12) <|
     ils_cons rfl (asB rfl rfl rfl rfl) <|
     ils_nil ?_)
    refine thenQ_n ?_
    refine iwp_cond (b := _) rfl (fun hc13 => ?_) (fun hc13 => ?_)
    ·
     replace h := bif_t h hc13
     refine iwp_reg (ils_cons rfl (iop_assign rfl rfl (lb rfl) (sv (d := .int _ 1) rfl)) <|
      ils_end ?_)
     refine iwp_ret ?_
     refine blockQ_r ?_
     refine thenQ_r ?_
     obtain rfl := Option.some.inj h
     refine ⟨.inr rfl, (.cons (sv rfl) .nil)⟩
    ·
     replace h := bif_f h hc13
     refine iwp_skip ?_
     refine blockQ_n ?_
     refine thenQ_n ?_
     refine iwp_reg (ils_cons rfl (iop_assign rfl rfl (lb rfl) (sv (d := .int _ 0) rfl)) <|
      ils_end ?_)
     refine iwp_ret ?_
     obtain rfl := Option.some.inj h
     refine ⟨.inr rfl, (.cons (sv rfl) .nil)⟩

theorem p_gauge_Order_1 (a0 : Int) (a1 : Int) (a2 : (List Nat)) (r : Int) (h : gauge_Order_1 a0 a1 a2 = some r) : PureAt Try.prog 78 [.int .i64 a0, .int .i64 a1, .fptr [.slice false (a2.map (eFlt .f64).d)]] (.int .i64 r) := by
 refine pure_of_iwp (rs := [.int .i64 r]) Try.func78 rfl Try.ntmps78 (nle rfl) rfl fun O hO => ?_
 show IWP _ _ _ _ ⟨[(0, .int .i64 a0), (1, .int .i64 a1), (2, .fptr [.slice false (a2.map (eFlt .f64).d)])], []⟩ _
 unfold gauge_Order_1 at h
 refine iwp_reg (ils_cons rfl (iop_assign rfl rfl (lb rfl) (sv (d := .int _ 0) rfl)) <|
  ils_end ?_)
 obtain ⟨x1, hx1, h⟩ := bno_e h
 obtain ⟨x2, hx2, h⟩ := bno_e h
 obtain ⟨x3, hx3, h⟩ := bno_e h
 refine iwp_drw rfl [⟨[2], [], [(6, .slice false (a2.map (eFlt .f64).d))], []⟩,
  ⟨[1], [], [(7, .int .i64 a1)], []⟩,
  ⟨[6, 7], [], [(8, .fptr [.float .f64 x1])], []⟩,
  ⟨[8], [], [(9, .float .f64 x1)], []⟩,
  ⟨[2], [], [(10, .slice false (a2.map (eFlt .f64).d))], []⟩,
  ⟨[0], [], [(11, .int .i64 a0)], []⟩,
  ⟨[10, 11], [], [(12, .fptr [.float .f64 x2])], []⟩,
  ⟨[12], [], [(13, .float .f64 x2)], []⟩,
  ⟨[9, 13], [], [(14, .int .i64 x3)], []⟩,
  ⟨[14], [], [(5, .int .i64 x3)], []⟩] rfl ?_ (by kernel_rfl) ?_
 ·refine .cons (lop rfl rfl fun S hA => (iop_load_fs rfl rfl (lb rfl) Try.underlying60 ag60 ti60 (by decide) (sv (d := .fptr [.slice _ _]) (agr hA rfl rfl)) (nle rfl))) ?_
  refine .cons (lop rfl rfl fun S hA => (iop_move rfl rfl (lb rfl) (svaI hA rfl rfl))) ?_
  refine .cons (lop rfl rfl fun S hA => (iop_idxT (eFlt .f64) (cs := [.float _ _]) rfl rfl (lb rfl) Try.underlying60 ti65 (svaL hA rfl rfl) (svaI hA rfl rfl) hx1 rfl rfl)) ?_
  refine .cons (lop rfl rfl fun S hA => (iop_load_fs rfl rfl (lb rfl) Try.underlying65 ag65 ti65 (by decide) (sv (d := .fptr [.float _ _]) (agr hA rfl rfl)) (nle rfl))) ?_
  refine .cons (lop rfl rfl fun S hA => (iop_load_fs rfl rfl (lb rfl) Try.underlying60 ag60 ti60 (by decide) (sv (d := .fptr [.slice _ _]) (agr hA rfl rfl)) (nle rfl))) ?_
  refine .cons (lop rfl rfl fun S hA => (iop_move rfl rfl (lb rfl) (svaI hA rfl rfl))) ?_
  refine .cons (lop rfl rfl fun S hA => (iop_idxT (eFlt .f64) (cs := [.float _ _]) rfl rfl (lb rfl) Try.underlying60 ti65 (svaL hA rfl rfl) (svaI hA rfl rfl) hx2 rfl rfl)) ?_
  refine .cons (lop rfl rfl fun S hA => (iop_load_fs rfl rfl (lb rfl) Try.underlying65 ag65 ti65 (by decide) (sv (d := .fptr [.float _ _]) (agr hA rfl rfl)) (nle rfl))) ?_
  refine .cons (lop rfl rfl fun S hA => (iop_call (r := .int _ _) rfl rfl (lb rfl) cl38 (.cons (sv (d := .float _ _) (agr hA rfl rfl)) (.cons (sv (d := .float _ _) (agr hA rfl rfl)) .nil)) rfl (p_gauge_Compare _ _ _ hx3))) ?_
  refine .cons (lop rfl rfl fun S hA => (iop_assign rfl rfl (lb rfl) (svaI hA rfl rfl))) ?_
  exact .nil
 refine iwp_ret ?_
 obtain rfl := Option.some.inj h
 refine ⟨.inr rfl, (.cons (sv rfl) .nil)⟩

theorem p_slices_insertionSortCmpFunc_int_h_Order_1 (a0 : Int) (a1 : Int) (a2 : (List Int)) (a3 : (List Nat)) (r : (List Int)) (h : slices_insertionSortCmpFunc_int_h_Order_1 a0 a1 a2 a3 = some r) : FnH Try.prog 81 [.osl 1000 (eInt .i64).sz a2.length, .int .i64 a0, .int .i64 a1, .fn 78 [.ref 1001 0]] [(1000, .blk 3 (D.flat (a2.map (eInt .i64).d))), (1001, .blk 60 [.slice false (a3.map (eFlt .f64).d)])] (retD []) [(1000, .blk 3 (D.flat (r.map (eInt .i64).d))), (1001, .blk 60 [.slice false (a3.map (eFlt .f64).d)])] := by
 refine fnh_of_iwp (rs := []) Try.func81 rfl Try.ntmps81 (nle rfl) fun O hO => ?_
 show IWP _ _ _ _ ⟨[(0, .osl 1000 (eInt .i64).sz a2.length), (1, .int .i64 a0), (2, .int .i64 a1), (3, .fn 78 [.ref 1001 0])], [(1000, .blk 3 (D.flat (a2.map (eInt .i64).d))), (1001, .blk 60 [.slice false (a3.map (eFlt .f64).d)])]⟩ _
 unfold slices_insertionSortCmpFunc_int_h_Order_1 at h
 obtain ⟨x1, hx1, h⟩ := bnd_e h
 refine iwp_reg (ils_cons rfl (mvI rfl rfl rfl rfl) <|
  ils_cons rfl (iop_intx rfl rfl (lb rfl) (svI rfl) (sv (d := .int _ 1) rfl) rfl hx1) <|
  ils_cons rfl (asI rfl rfl rfl rfl) <|
  ils_end ?_)
 refine iwp_block ?_
 refine iwp_loopP (α := Nat × (List Int) × Int) (fun z => ⟨[(0, .osl 1000 (eInt .i64).sz z.2.1.length), (1, .int .i64 a0), (2, .int .i64 a1), (3, .fn 78 [.ref 1001 0]), (8, .int .i64 z.2.2)], [(1000, .blk 3 (D.flat (z.2.1.map (eInt .i64).d))), (1001, .blk 60 [.slice false (a3.map (eFlt .f64).d)])]⟩) (fun z => slices_insertionSortCmpFunc_int_h_Order_1_L0 a0 a1 a3 z.1 z.2.1 z.2.2 = some r) (fun z => z.1) (fuel, a2, x1) (fun i => i) ⟨(.sames rfl rfl), (.cons (EntW.lst rfl) (.cons (.blk rfl rfl rfl) .nil)), nd_of [1000, 1001] rfl (by decide), fun _ _ => rfl⟩ ?_ ?_
 ·exact h
 ·
  rintro ⟨n0, v76, v77⟩ h
  cases n0 with
  | zero => exact absurd h (by unfold slices_insertionSortCmpFunc_int_h_Order_1_L0; exact nofun)
  | succ n0 =>
   unfold slices_insertionSortCmpFunc_int_h_Order_1_L0 at h
   refine iwp_seq ?_
   obtain ⟨x152, hx152, h⟩ := bnd_e h
   refine iwp_reg (ils_cons rfl (mvI rfl rfl rfl rfl) <|
    ils_cons rfl (mvI rfl rfl rfl rfl) <|
    ils_cons rfl (iop_cmpx rfl rfl (lb rfl) (svI rfl) (svI rfl) rfl hx152) <|
    ils_end ?_)
   refine iwp_cond (b := _) rfl (fun hc153 => ?_) (fun hc153 => ?_)
   ·
    replace h := bif_t h hc153
    refine iwp_skip ?_
    refine thenQ_n ?_
    refine iwp_seq ?_
    refine iwp_block ?_
    refine iwp_reg (ils_cons rfl (mvI rfl rfl rfl rfl) <|
     ils_cons rfl (asI rfl rfl rfl rfl) <|
     ils_end ?_)
    refine iwp_block ?_
    refine iwp_loopP (α := Nat × (List Int) × Int) (fun z => ⟨[(0, .osl 1000 (eInt .i64).sz z.2.1.length), (1, .int .i64 a0), (2, .int .i64 a1), (3, .fn 78 [.ref 1001 0]), (8, .int .i64 v77), (9, .int .i64 z.2.2)], [(1000, .blk 3 (D.flat (z.2.1.map (eInt .i64).d))), (1001, .blk 60 [.slice false (a3.map (eFlt .f64).d)])]⟩) (fun z => slices_insertionSortCmpFunc_int_h_Order_1_L1 a0 a3 v77 (slices_insertionSortCmpFunc_int_h_Order_1_L0 a0 a1 a3 n0) z.1 z.2.1 z.2.2 = some r) (fun z => z.1) (fuel, v76, v77) (fun i => i) ⟨(.sames rfl rfl), (.cons (EntW.lst rfl) (.cons (.blk rfl rfl rfl) .nil)), nd_of [1000, 1001] rfl (by decide), fun _ _ => rfl⟩ ?_ ?_
    ·exact h
    ·
     rintro ⟨n1, v177, v178⟩ h
     cases n1 with
     | zero => exact absurd h (by unfold slices_insertionSortCmpFunc_int_h_Order_1_L1; exact nofun)
     | succ n1 =>
      unfold slices_insertionSortCmpFunc_int_h_Order_1_L1 at h
      refine iwp_seq ?_
      obtain ⟨x202, hx202, h⟩ := bnd_e h
      obtain ⟨x203, hx203, h⟩ := bno_e h
      obtain ⟨x204, hx204, h⟩ := bno_e h
      obtain ⟨x205, hx205, h⟩ := bnd_e h
      obtain ⟨x206, hx206, h⟩ := bno_e h
      obtain ⟨x207, hx207, h⟩ := bno_e h
      obtain ⟨x208, hx208, h⟩ := bno_e h
      obtain ⟨x209, hx209, h⟩ := bnd_e h
      obtain ⟨x210, hx210, h⟩ := bnd_e h
      refine iwp_drw rfl [⟨[9], [], [(18, .int .i64 v178)], []⟩,
       ⟨[1], [], [(19, .int .i64 a0)], []⟩,
       ⟨[18, 19], [], [(20, .bool x202)], []⟩,
       ⟨[20], [], [(21, .bool x202)], []⟩,
       ⟨[3, 21], [], [(22, .cnd (x202 == true) (.fn 78 [.ref 1001 0]))], []⟩,
       ⟨[0, 21], [], [(23, .cnd (x202 == true) (.osl 1000 (eInt .i64).sz v177.length))], []⟩,
       ⟨[9, 21], [], [(24, .cnd (x202 == true) (.int .i64 v178))], []⟩,
       ⟨[21, 23, 24], [], [(25, .cnd (x202 == true) (.ref 1000 (((v178 : Int).toNat) * (eInt .i64).sz + 0)))], []⟩,
       ⟨[21, 25], [1000], [(26, .cnd (x202 == true) (.int .i64 x204))], []⟩,
       ⟨[0, 21], [], [(27, .cnd (x202 == true) (.osl 1000 (eInt .i64).sz v177.length))], []⟩,
       ⟨[9, 21], [], [(28, .cnd (x202 == true) (.int .i64 v178))], []⟩,
       ⟨[21, 28], [], [(29, .cnd (x202 == true) (.int .i64 x205))], []⟩,
       ⟨[21, 27, 29], [], [(30, .cnd (x202 == true) (.ref 1000 (((x205 : Int).toNat) * (eInt .i64).sz + 0)))], []⟩,
       ⟨[21, 30], [1000], [(31, .cnd (x202 == true) (.int .i64 x207))], []⟩,
       ⟨[21, 22, 26, 31], [1001], [(32, .cnd (x202 == true) (.int .i64 x208))], []⟩,
       ⟨[21, 32], [], [(33, .cnd (x202 == true) (.bool x209))], []⟩,
       ⟨[21, 33], [], [(34, .bool x210)], []⟩] rfl ?_ (by kernel_rfl) ?_
      ·refine .cons (lop rfl rfl fun S hA => (iop_move rfl rfl (lb rfl) (svaI hA rfl rfl))) ?_
       refine .cons (lop rfl rfl fun S hA => (iop_move rfl rfl (lb rfl) (svaI hA rfl rfl))) ?_
       refine .cons (lop rfl rfl fun S hA => (iop_cmpx rfl rfl (lb rfl) (svaI hA rfl rfl) (svaI hA rfl rfl) rfl hx202)) ?_
       refine .cons (lop rfl rfl fun S hA => (iop_move rfl rfl (lb rfl) (svaB hA rfl rfl))) ?_
       refine .cons (lopg rfl rfl rfl rfl (by decide) (fun S hA => grd1 hA rfl rfl) (fun S hA hb => (iop_move rfl rfl (lb rfl) (sv (d := .fn 78 [.ref _ _]) (agr hA rfl rfl))))) ?_
       refine .cons (lopg rfl rfl rfl rfl (by decide) (fun S hA => grd1 hA rfl rfl) (fun S hA hb => (iop_move rfl rfl (lb rfl) (sv (d := .osl _ _ _) (agr hA rfl rfl))))) ?_
       refine .cons (lopg rfl rfl rfl rfl (by decide) (fun S hA => grd1 hA rfl rfl) (fun S hA hb => (iop_move rfl rfl (lb rfl) (svaI hA rfl rfl)))) ?_
       refine .cons (lopg rfl rfl rfl rfl (by decide) (fun S hA => grd1 hA rfl rfl) (fun S hA hb => (iop_idxO (eInt .i64).toEnc0 rfl rfl (lb rfl) Try.underlying41 ti3 (svc (d := .osl _ _ _) (agr hA rfl rfl) hb) rfl (svc (d := .int _ _) (agr hA rfl rfl) hb) (gd_t hx203 hb)))) ?_
       refine .cons (lopg rfl rfl rfl rfl (by decide) (fun S hA => grd1 hA rfl rfl) (fun S hA hb => (iop_loadEs (eInt .i64).toEnc0 (d := .int _ _) rfl rfl (lb rfl) Try.underlying3 ag3 ti3 (by decide) (svc (d := .ref _ _) (agr hA rfl rfl) hb) (agi hA rfl rfl) (gd_t hx204 hb) (nle rfl) rfl))) ?_
       refine .cons (lopg rfl rfl rfl rfl (by decide) (fun S hA => grd1 hA rfl rfl) (fun S hA hb => (iop_move rfl rfl (lb rfl) (sv (d := .osl _ _ _) (agr hA rfl rfl))))) ?_
       refine .cons (lopg rfl rfl rfl rfl (by decide) (fun S hA => grd1 hA rfl rfl) (fun S hA hb => (iop_move rfl rfl (lb rfl) (svaI hA rfl rfl)))) ?_
       refine .cons (lopg rfl rfl rfl rfl (by decide) (fun S hA => grd1 hA rfl rfl) (fun S hA hb => (iop_intx rfl rfl (lb rfl) (svc (d := .int _ _) (agr hA rfl rfl) hb) (sv (d := .int _ 1) rfl) rfl hx205))) ?_
       refine .cons (lopg rfl rfl rfl rfl (by decide) (fun S hA => grd1 hA rfl rfl) (fun S hA hb => (iop_idxO (eInt .i64).toEnc0 rfl rfl (lb rfl) Try.underlying41 ti3 (svc (d := .osl _ _ _) (agr hA rfl rfl) hb) rfl (svc (d := .int _ _) (agr hA rfl rfl) hb) (gd_t hx206 hb)))) ?_
       refine .cons (lopg rfl rfl rfl rfl (by decide) (fun S hA => grd1 hA rfl rfl) (fun S hA hb => (iop_loadEs (eInt .i64).toEnc0 (d := .int _ _) rfl rfl (lb rfl) Try.underlying3 ag3 ti3 (by decide) (svc (d := .ref _ _) (agr hA rfl rfl) hb) (agi hA rfl rfl) (gd_t hx207 hb) (nle rfl) rfl))) ?_
       refine .cons (lopg rfl rfl rfl rfl (by decide) (fun S hA => grd1 hA rfl rfl) (fun S hA hb => (iop_callvp (r := .int .i64 x208) rfl rfl (lb rfl) cl78 (svc (d := .fn 78 [.ref _ _]) (agr hA rfl rfl) hb) (.cons (svc (d := .int _ _) (agr hA rfl rfl) hb) (.cons (svc (d := .int _ _) (agr hA rfl rfl) hb) .nil)) (.k (.k (.cons (.ref (agi hA rfl rfl) rfl (fdl_refl _) rfl) .nil))) rfl rfl (p_gauge_Order_1 _ _ _ _ (gd_t hx208 hb))))) ?_
       refine .cons (lopg rfl rfl rfl rfl (by decide) (fun S hA => grd1 hA rfl rfl) (fun S hA hb => (iop_cmpx rfl rfl (lb rfl) (svc (d := .int _ _) (agr hA rfl rfl) hb) (sv (d := .int _ 0) rfl) rfl hx209))) ?_
       refine .cons (lop rfl rfl fun S hA => (iop_andx rfl rfl (lb rfl) (svaB hA rfl rfl) (agr hA rfl rfl) rfl hx210)) ?_
       exact .nil
      refine iwp_cond (b := _) rfl (fun hc211 => ?_) (fun hc211 => ?_)
      ·
       replace h := bif_t h hc211
       refine iwp_skip ?_
       refine thenQ_n ?_
       refine iwp_seq ?_
       refine iwp_block ?_
       obtain ⟨x212, hx212, h⟩ := bnd_e h
       obtain ⟨x213, hx213, h⟩ := bnd_e h
       obtain ⟨x214, hx214, h⟩ := bno_e h
       obtain ⟨x215, hx215, h⟩ := bno_e h
       obtain ⟨x216, hx216, h⟩ := bno_e h
       obtain ⟨x217, hx217, h⟩ := bno_e h
       obtain ⟨x218, hx218, h⟩ := bno_e h
       obtain ⟨x219, hx219, h⟩ := bno_e h
       obtain ⟨x220, hx220, h⟩ := bnd_e h
       obtain ⟨x221, hx221, h⟩ := bno_e h
       obtain ⟨x222, hx222, h⟩ := bno_e h
       obtain ⟨x223, hx223, h⟩ := bnd_e h
       refine iwp_draw rfl [⟨[0], [], [(37, .osl 1000 (eInt .i64).sz v177.length)], []⟩,
        ⟨[9], [], [(38, .int .i64 v178)], []⟩,
        ⟨[0], [], [(39, .osl 1000 (eInt .i64).sz v177.length)], []⟩,
        ⟨[9], [], [(40, .int .i64 v178)], []⟩,
        ⟨[40], [], [(41, .int .i64 x212)], []⟩,
        ⟨[0], [], [(42, .osl 1000 (eInt .i64).sz v177.length)], []⟩,
        ⟨[9], [], [(43, .int .i64 v178)], []⟩,
        ⟨[43], [], [(44, .int .i64 x213)], []⟩,
        ⟨[42, 44], [], [(45, .ref 1000 (((x213 : Int).toNat) * (eInt .i64).sz + 0))], []⟩,
        ⟨[45], [1000], [(46, .int .i64 x215)], []⟩,
        ⟨[0], [], [(47, .osl 1000 (eInt .i64).sz v177.length)], []⟩,
        ⟨[9], [], [(48, .int .i64 v178)], []⟩,
        ⟨[47, 48], [], [(49, .ref 1000 (((v178 : Int).toNat) * (eInt .i64).sz + 0))], []⟩,
        ⟨[49], [1000], [(50, .int .i64 x217)], []⟩,
        ⟨[37, 38], [], [(51, .ref 1000 (((v178 : Int).toNat) * (eInt .i64).sz + 0))], []⟩,
        ⟨[46, 51], [1000], [], [(1000, .blk 3 (D.flat (x220.map (eInt .i64).d)))]⟩,
        ⟨[39, 41], [], [(52, .ref 1000 (((x212 : Int).toNat) * (eInt .i64).sz + 0))], []⟩,
        ⟨[50, 52], [1000], [], [(1000, .blk 3 (D.flat (x223.map (eInt .i64).d)))]⟩] rfl ?_ (by kernel_rfl) ?_
       ·refine .cons (lop rfl rfl fun S hA => (iop_move rfl rfl (lb rfl) (sv (d := .osl _ _ _) (agr hA rfl rfl)))) ?_
        refine .cons (lop rfl rfl fun S hA => (iop_move rfl rfl (lb rfl) (svaI hA rfl rfl))) ?_
        refine .cons (lop rfl rfl fun S hA => (iop_move rfl rfl (lb rfl) (sv (d := .osl _ _ _) (agr hA rfl rfl)))) ?_
        refine .cons (lop rfl rfl fun S hA => (iop_move rfl rfl (lb rfl) (svaI hA rfl rfl))) ?_
        refine .cons (lop rfl rfl fun S hA => (iop_intx rfl rfl (lb rfl) (svaI hA rfl rfl) (sv (d := .int _ 1) rfl) rfl hx212)) ?_
        refine .cons (lop rfl rfl fun S hA => (iop_move rfl rfl (lb rfl) (sv (d := .osl _ _ _) (agr hA rfl rfl)))) ?_
        refine .cons (lop rfl rfl fun S hA => (iop_move rfl rfl (lb rfl) (svaI hA rfl rfl))) ?_
        refine .cons (lop rfl rfl fun S hA => (iop_intx rfl rfl (lb rfl) (svaI hA rfl rfl) (sv (d := .int _ 1) rfl) rfl hx213)) ?_
        refine .cons (lop rfl rfl fun S hA => (iop_idxO (eInt .i64).toEnc0 rfl rfl (lb rfl) Try.underlying41 ti3 (sv (d := .osl _ _ _) (agr hA rfl rfl)) rfl (svaI hA rfl rfl) hx214)) ?_
        refine .cons (lop rfl rfl fun S hA => (iop_loadEs (eInt .i64).toEnc0 (d := .int _ _) rfl rfl (lb rfl) Try.underlying3 ag3 ti3 (by decide) (svaR hA rfl rfl) (agi hA rfl rfl) hx215 (nle rfl) rfl)) ?_
        refine .cons (lop rfl rfl fun S hA => (iop_move rfl rfl (lb rfl) (sv (d := .osl _ _ _) (agr hA rfl rfl)))) ?_
        refine .cons (lop rfl rfl fun S hA => (iop_move rfl rfl (lb rfl) (svaI hA rfl rfl))) ?_
        refine .cons (lop rfl rfl fun S hA => (iop_idxO (eInt .i64).toEnc0 rfl rfl (lb rfl) Try.underlying41 ti3 (sv (d := .osl _ _ _) (agr hA rfl rfl)) rfl (svaI hA rfl rfl) hx216)) ?_
        refine .cons (lop rfl rfl fun S hA => (iop_loadEs (eInt .i64).toEnc0 (d := .int _ _) rfl rfl (lb rfl) Try.underlying3 ag3 ti3 (by decide) (svaR hA rfl rfl) (agi hA rfl rfl) hx217 (nle rfl) rfl)) ?_
        refine .cons (lop rfl rfl fun S hA => (iop_idxO (eInt .i64).toEnc0 rfl rfl (lb rfl) Try.underlying41 ti3 (sv (d := .osl _ _ _) (agr hA rfl rfl)) rfl (svaI hA rfl rfl) hx218)) ?_
        refine .cons (lop rfl rfl fun S hA => (iop_storeE (eInt .i64).toEnc0 (a' := x215) rfl rfl ti3 (svaR hA rfl rfl) (agi hA rfl rfl) (svaI hA rfl rfl) rfl rfl rfl hx219 (nle rfl) rfl hx220)) ?_
        refine .cons (lop rfl rfl fun S hA => (iop_idxO (eInt .i64).toEnc0 rfl rfl (lb rfl) Try.underlying41 ti3 (sv (d := .osl _ _ _) (agr hA rfl rfl)) (len_set hx220 rfl) (svaI hA rfl rfl) hx221)) ?_
        refine .cons (lop rfl rfl fun S hA => (iop_storeE (eInt .i64).toEnc0 (a' := x217) rfl rfl ti3 (svaR hA rfl rfl) (agi hA rfl rfl) (svaI hA rfl rfl) rfl rfl rfl hx222 (nle rfl) rfl hx223)) ?_
        exact .nil
       refine blockQ_n ?_
       refine thenQ_n ?_
       obtain ⟨x224, hx224, h⟩ := bnd_e h
       refine iwp_region (ils_cons rfl (mvI rfl rfl rfl rfl) <|
        ils_cons rfl (iop_intx rfl rfl (lb rfl) (svI rfl) (sv (d := .int _ 1) rfl) rfl hx224) <|
        ils_cons rfl (asI rfl rfl rfl rfl) <|
        ils_nil ?_)
       refine thenQ_n ⟨(n1, x223, x224), (fun i => i), ⟨(.cons (.same (congrArg (D.osl _ _) (len_set hx223 (len_set hx220 rfl)).symm) rfl) (.sames rfl rfl)), (.cons (EntW.lst rfl) (.cons (.blk rfl rfl rfl) .nil)), nd_of [1000, 1001] rfl (by decide), fun _ _ => rfl⟩, ?_, ?_⟩
       exact h
       exact Nat.lt_succ_self _
      ·
       replace h := bif_f h hc211
       refine iwp_exit ?_
       refine thenQ_e ?_
       refine thenQ_e ?_
       refine blockQ_e ?_
       refine blockQ_n ?_
       refine thenQ_n ?_
       obtain ⟨x225, hx225, h⟩ := bnd_e h
       refine iwp_region (ils_cons rfl (mvI rfl rfl rfl rfl) <|
        ils_cons rfl (iop_intx rfl rfl (lb rfl) (svI rfl) (sv (d := .int _ 1) rfl) rfl hx225) <|
        ils_cons rfl (asI rfl rfl rfl rfl) <|
        ils_nil ?_)
       refine thenQ_n ⟨(n0, v177, x225), (fun i => i), ⟨(.sames rfl rfl), (.cons (EntW.lst rfl) (.cons (.blk rfl rfl rfl) .nil)), nd_of [1000, 1001] rfl (by decide), fun _ _ => rfl⟩, ?_, ?_⟩
       exact h
       exact Nat.lt_succ_self _
   ·
    replace h := bif_f h hc153
    refine iwp_exit ?_
    refine thenQ_e ?_
    refine thenQ_e ?_
    refine blockQ_e ?_
    obtain rfl := Option.some.inj h
    refine ⟨.inl rfl, (fun i => i), ⟨.nil, (.cons (EntW.lst rfl) (.cons (.blk rfl rfl rfl) .nil)), nd_of [1000, 1001] rfl (by decide), fun _ _ => rfl⟩, .nil, rfl⟩

theorem p_slices_swapRangeCmpFunc_int_h_Order_1 (a0 : Int) (a1 : Int) (a2 : Int) (a3 : (List Int)) (a4 : (List Nat)) (r : (List Int)) (h : slices_swapRangeCmpFunc_int_h_Order_1 a0 a1 a2 a3 a4 = some r) : FnH Try.prog 84 [.osl 1000 (eInt .i64).sz a3.length, .int .i64 a0, .int .i64 a1, .int .i64 a2, .fn 78 [.ref 1001 0]] [(1000, .blk 3 (D.flat (a3.map (eInt .i64).d))), (1001, .blk 60 [.slice false (a4.map (eFlt .f64).d)])] (retD []) [(1000, .blk 3 (D.flat (r.map (eInt .i64).d))), (1001, .blk 60 [.slice false (a4.map (eFlt .f64).d)])] := by
 refine fnh_of_iwp (rs := []) Try.func84 rfl Try.ntmps84 (nle rfl) fun O hO => ?_
 show IWP _ _ _ _ ⟨[(0, .osl 1000 (eInt .i64).sz a3.length), (1, .int .i64 a0), (2, .int .i64 a1), (3, .int .i64 a2), (4, .fn 78 [.ref 1001 0])], [(1000, .blk 3 (D.flat (a3.map (eInt .i64).d))), (1001, .blk 60 [.slice false (a4.map (eFlt .f64).d)])]⟩ _
 unfold slices_swapRangeCmpFunc_int_h_Order_1 at h
 refine iwp_reg (ils_cons rfl (iop_assign rfl rfl (lb rfl) (sv (d := .int _ 0) rfl)) <|
  ils_end ?_)
 refine iwp_block ?_
 refine iwp_loopP (α := Nat × (List Int) × Int) (fun z => ⟨[(0, .osl 1000 (eInt .i64).sz z.2.1.length), (1, .int .i64 a0), (2, .int .i64 a1), (3, .int .i64 a2), (10, .int .i64 z.2.2)], [(1000, .blk 3 (D.flat (z.2.1.map (eInt .i64).d))), (1001, .blk 60 [.slice false (a4.map (eFlt .f64).d)])]⟩) (fun z => slices_swapRangeCmpFunc_int_h_Order_1_L0 a0 a1 a2 z.1 z.2.1 z.2.2 = some r) (fun z => z.1) (fuel, a3, 0) (fun i => i) ⟨(.sames rfl rfl), (.cons (EntW.lst rfl) (.cons (.blk rfl rfl rfl) .nil)), nd_of [1000, 1001] rfl (by decide), fun _ _ => rfl⟩ ?_ ?_
 ·exact h
 ·
  rintro ⟨n0, v18, v19⟩ h
  cases n0 with
  | zero => exact absurd h (by unfold slices_swapRangeCmpFunc_int_h_Order_1_L0; exact nofun)
  | succ n0 =>
   unfold slices_swapRangeCmpFunc_int_h_Order_1_L0 at h
   refine iwp_seq ?_
   obtain ⟨x37, hx37, h⟩ := bnd_e h
   refine iwp_reg (ils_cons rfl (mvI rfl rfl rfl rfl) <|
    ils_cons rfl (mvI rfl rfl rfl rfl) <|
    ils_cons rfl (iop_cmpx rfl rfl (lb rfl) (svI rfl) (svI rfl) rfl hx37) <|
    ils_end ?_)
   refine iwp_cond (b := _) rfl (fun hc38 => ?_) (fun hc38 => ?_)
   ·
    replace h := bif_t h hc38
    refine iwp_skip ?_
    refine thenQ_n ?_
    refine iwp_seq ?_
    refine iwp_block ?_
    obtain ⟨x39, hx39, h⟩ := bnd_e h
    obtain ⟨x40, hx40, h⟩ := bnd_e h
    obtain ⟨x41, hx41, h⟩ := bnd_e h
    obtain ⟨x42, hx42, h⟩ := bno_e h
    obtain ⟨x43, hx43, h⟩ := bno_e h
    obtain ⟨x44, hx44, h⟩ := bnd_e h
    obtain ⟨x45, hx45, h⟩ := bno_e h
    obtain ⟨x46, hx46, h⟩ := bno_e h
    obtain ⟨x47, hx47, h⟩ := bno_e h
    obtain ⟨x48, hx48, h⟩ := bno_e h
    obtain ⟨x49, hx49, h⟩ := bnd_e h
    obtain ⟨x50, hx50, h⟩ := bno_e h
    obtain ⟨x51, hx51, h⟩ := bno_e h
    obtain ⟨x52, hx52, h⟩ := bnd_e h
    refine iwp_draw rfl [⟨[0], [], [(16, .osl 1000 (eInt .i64).sz v18.length)], []⟩,
     ⟨[1], [], [(17, .int .i64 a0)], []⟩,
     ⟨[10], [], [(18, .int .i64 v19)], []⟩,
     ⟨[17, 18], [], [(19, .int .i64 x39)], []⟩,
     ⟨[0], [], [(20, .osl 1000 (eInt .i64).sz v18.length)], []⟩,
     ⟨[2], [], [(21, .int .i64 a1)], []⟩,
     ⟨[10], [], [(22, .int .i64 v19)], []⟩,
     ⟨[21, 22], [], [(23, .int .i64 x40)], []⟩,
     ⟨[0], [], [(24, .osl 1000 (eInt .i64).sz v18.length)], []⟩,
     ⟨[2], [], [(25, .int .i64 a1)], []⟩,
     ⟨[10], [], [(26, .int .i64 v19)], []⟩,
     ⟨[25, 26], [], [(27, .int .i64 x41)], []⟩,
     ⟨[24, 27], [], [(28, .ref 1000 (((x41 : Int).toNat) * (eInt .i64).sz + 0))], []⟩,
     ⟨[28], [1000], [(29, .int .i64 x43)], []⟩,
     ⟨[0], [], [(30, .osl 1000 (eInt .i64).sz v18.length)], []⟩,
     ⟨[1], [], [(31, .int .i64 a0)], []⟩,
     ⟨[10], [], [(32, .int .i64 v19)], []⟩,
     ⟨[31, 32], [], [(33, .int .i64 x44)], []⟩,
     ⟨[30, 33], [], [(34, .ref 1000 (((x44 : Int).toNat) * (eInt .i64).sz + 0))], []⟩,
     ⟨[34], [1000], [(35, .int .i64 x46)], []⟩,
     ⟨[16, 19], [], [(36, .ref 1000 (((x39 : Int).toNat) * (eInt .i64).sz + 0))], []⟩,
     ⟨[29, 36], [1000], [], [(1000, .blk 3 (D.flat (x49.map (eInt .i64).d)))]⟩,
     ⟨[20, 23], [], [(37, .ref 1000 (((x40 : Int).toNat) * (eInt .i64).sz + 0))], []⟩,
     ⟨[35, 37], [1000], [], [(1000, .blk 3 (D.flat (x52.map (eInt .i64).d)))]⟩] rfl ?_ (by kernel_rfl) ?_
    ·refine .cons (lop rfl rfl fun S hA => (iop_move rfl rfl (lb rfl) (sv (d := .osl _ _ _) (agr hA rfl rfl)))) ?_
     refine .cons (lop rfl rfl fun S hA => (iop_move rfl rfl (lb rfl) (svaI hA rfl rfl))) ?_
     refine .cons (lop rfl rfl fun S hA => (iop_move rfl rfl (lb rfl) (svaI hA rfl rfl))) ?_
     refine .cons (lop rfl rfl fun S hA => (iop_intx rfl rfl (lb rfl) (svaI hA rfl rfl) (svaI hA rfl rfl) rfl hx39)) ?_
     refine .cons (lop rfl rfl fun S hA => (iop_move rfl rfl (lb rfl) (sv (d := .osl _ _ _) (agr hA rfl rfl)))) ?_
     refine .cons (lop rfl rfl fun S hA => (iop_move rfl rfl (lb rfl) (svaI hA rfl rfl))) ?_
     refine .cons (lop rfl rfl fun S hA => (iop_move rfl rfl (lb rfl) (svaI hA rfl rfl))) ?_
     refine .cons (lop rfl rfl fun S hA => (iop_intx rfl rfl (lb rfl) (svaI hA rfl rfl) (svaI hA rfl rfl) rfl hx40)) ?_
     refine .cons (lop rfl rfl fun S hA => (iop_move rfl rfl (lb rfl) (sv (d := .osl _ _ _) (agr hA rfl rfl)))) ?_
     refine .cons (lop rfl rfl fun S hA => (iop_move rfl rfl (lb rfl) (svaI hA rfl rfl))) ?_
     refine .cons (lop rfl rfl fun S hA => (iop_move rfl rfl (lb rfl) (svaI hA rfl rfl))) ?_
     refine .cons (lop rfl rfl fun S hA => (iop_intx rfl rfl (lb rfl) (svaI hA rfl rfl) (svaI hA rfl rfl) rfl hx41)) ?_
     refine .cons (lop rfl rfl fun S hA => (iop_idxO (eInt .i64).toEnc0 rfl rfl (lb rfl) Try.underlying41 ti3 (sv (d := .osl _ _ _) (agr hA rfl rfl)) rfl (svaI hA rfl rfl) hx42)) ?_
     refine .cons (lop rfl rfl fun S hA => (iop_loadEs (eInt .i64).toEnc0 (d := .int _ _) rfl rfl (lb rfl) Try.underlying3 ag3 ti3 (by decide) (svaR hA rfl rfl) (agi hA rfl rfl) hx43 (nle rfl) rfl)) ?_
     refine .cons (lop rfl rfl fun S hA => (iop_move rfl rfl (lb rfl) (sv (d := .osl _ _ _) (agr hA rfl rfl)))) ?_
     refine .cons (lop rfl rfl fun S hA => (iop_move rfl rfl (lb rfl) (svaI hA rfl rfl))) ?_
     refine .cons (lop rfl rfl fun S hA => (iop_move rfl rfl (lb rfl) (svaI hA rfl rfl))) ?_
     refine .cons (lop rfl rfl fun S hA => (iop_intx rfl rfl (lb rfl) (svaI hA rfl rfl) (svaI hA rfl rfl) rfl hx44)) ?_
     refine .cons (lop rfl rfl fun S hA => (iop_idxO (eInt .i64).toEnc0 rfl rfl (lb rfl) Try.underlying41 ti3 (sv (d := .osl _ _ _) (agr hA rfl rfl)) rfl (svaI hA rfl rfl) hx45)) ?_
     refine .cons (lop rfl rfl fun S hA => (iop_loadEs (eInt .i64).toEnc0 (d := .int _ _) rfl rfl (lb rfl) Try.underlying3 ag3 ti3 (by decide) (svaR hA rfl rfl) (agi hA rfl rfl) hx46 (nle rfl) rfl)) ?_
     refine .cons (lop rfl rfl fun S hA => (iop_idxO (eInt .i64).toEnc0 rfl rfl (lb rfl) Try.underlying41 ti3 (sv (d := .osl _ _ _) (agr hA rfl rfl)) rfl (svaI hA rfl rfl) hx47)) ?_
     refine .cons (lop rfl rfl fun S hA => (iop_storeE (eInt .i64).toEnc0 (a' := x43) rfl rfl ti3 (svaR hA rfl rfl) (agi hA rfl rfl) (svaI hA rfl rfl) rfl rfl rfl hx48 (nle rfl) rfl hx49)) ?_
     refine .cons (lop rfl rfl fun S hA => (iop_idxO (eInt .i64).toEnc0 rfl rfl (lb rfl) Try.underlying41 ti3 (sv (d := .osl _ _ _) (agr hA rfl rfl)) (len_set hx49 rfl) (svaI hA rfl rfl) hx50)) ?_
     refine .cons (lop rfl rfl fun S hA => (iop_storeE (eInt .i64).toEnc0 (a' := x46) rfl rfl ti3 (svaR hA rfl rfl) (agi hA rfl rfl) (svaI hA rfl rfl) rfl rfl rfl hx51 (nle rfl) rfl hx52)) ?_
     exact .nil
    refine blockQ_n ?_
    refine thenQ_n ?_
    obtain ⟨x53, hx53, h⟩ := bnd_e h
    refine iwp_region (ils_cons rfl (mvI rfl rfl rfl rfl) <|
     ils_cons rfl (iop_intx rfl rfl (lb rfl) (svI rfl) (sv (d := .int _ 1) rfl) rfl hx53) <|
     ils_cons rfl (asI rfl rfl rfl rfl) <|
     ils_nil ?_)
    refine thenQ_n ⟨(n0, x52, x53), (fun i => i), ⟨(.cons (.same (congrArg (D.osl _ _) (len_set hx52 (len_set hx49 rfl)).symm) rfl) (.sames rfl rfl)), (.cons (EntW.lst rfl) (.cons (.blk rfl rfl rfl) .nil)), nd_of [1000, 1001] rfl (by decide), fun _ _ => rfl⟩, ?_, ?_⟩
    exact h
    exact Nat.lt_succ_self _
   ·
    replace h := bif_f h hc38
    refine iwp_exit ?_
    refine thenQ_e ?_
    refine thenQ_e ?_
    refine blockQ_e ?_
    obtain rfl := Option.some.inj h
    refine ⟨.inl rfl, (fun i => i), ⟨.nil, (.cons (EntW.lst rfl) (.cons (.blk rfl rfl rfl) .nil)), nd_of [1000, 1001] rfl (by decide), fun _ _ => rfl⟩, .nil, rfl⟩

theorem p_slices_rotateCmpFunc_int_h_Order_1 (a0 : Int) (a1 : Int) (a2 : Int) (a3 : (List Int)) (a4 : (List Nat)) (r : (List Int)) (h : slices_rotateCmpFunc_int_h_Order_1 a0 a1 a2 a3 a4 = some r) : FnH Try.prog 83 [.osl 1000 (eInt .i64).sz a3.length, .int .i64 a0, .int .i64 a1, .int .i64 a2, .fn 78 [.ref 1001 0]] [(1000, .blk 3 (D.flat (a3.map (eInt .i64).d))), (1001, .blk 60 [.slice false (a4.map (eFlt .f64).d)])] (retD []) [(1000, .blk 3 (D.flat (r.map (eInt .i64).d))), (1001, .blk 60 [.slice false (a4.map (eFlt .f64).d)])] := by
 refine fnh_of_iwp (rs := []) Try.func83 rfl Try.ntmps83 (nle rfl) fun O hO => ?_
 show IWP _ _ _ _ ⟨[(0, .osl 1000 (eInt .i64).sz a3.length), (1, .int .i64 a0), (2, .int .i64 a1), (3, .int .i64 a2), (4, .fn 78 [.ref 1001 0])], [(1000, .blk 3 (D.flat (a3.map (eInt .i64).d))), (1001, .blk 60 [.slice false (a4.map (eFlt .f64).d)])]⟩ _
 unfold slices_rotateCmpFunc_int_h_Order_1 at h
 obtain ⟨x1, hx1, h⟩ := bnd_e h
 refine iwp_reg (ils_cons rfl (mvI rfl rfl rfl rfl) <|
  ils_cons rfl (mvI rfl rfl rfl rfl) <|
  ils_cons rfl (iop_intx rfl rfl (lb rfl) (svI rfl) (svI rfl) rfl hx1) <|
  ils_cons rfl (asI rfl rfl rfl rfl) <|
  ils_end ?_)
 obtain ⟨x2, hx2, h⟩ := bnd_e h
 refine iwp_reg (ils_cons rfl (mvI rfl rfl rfl rfl) <|
  ils_cons rfl (mvI rfl rfl rfl rfl) <|
  ils_cons rfl (iop_intx rfl rfl (lb rfl) (svI rfl) (svI rfl) rfl hx2) <|
  ils_cons rfl (asI rfl rfl rfl rfl) <|
  ils_end ?_)
 refine iwp_seq ?_
 refine iwp_block ?_
 refine iwp_loopP (α := Nat × (List Int) × Int × Int) (fun z => ⟨[(0, .osl 1000 (eInt .i64).sz z.2.1.length), (2, .int .i64 a1), (4, .fn 78 [.ref 1001 0]), (10, .int .i64 z.2.2.1), (11, .int .i64 z.2.2.2)], [(1000, .blk 3 (D.flat (z.2.1.map (eInt .i64).d))), (1001, .blk 60 [.slice false (a4.map (eFlt .f64).d)])]⟩) (fun z => slices_rotateCmpFunc_int_h_Order_1_L0 a1 a4 z.1 z.2.1 z.2.2.1 z.2.2.2 = some r) (fun z => z.1) (fuel, a3, x1, x2) (fun i => i) ⟨(.sames rfl rfl), (.cons (EntW.lst rfl) (.cons (.blk rfl rfl rfl) .nil)), nd_of [1000, 1001] rfl (by decide), fun _ _ => rfl⟩ ?_ ?_
 ·exact h
 ·
  rintro ⟨n0, v17, v18, v19⟩ h
  cases n0 with
  | zero => exact absurd h (by unfold slices_rotateCmpFunc_int_h_Order_1_L0; exact nofun)
  | succ n0 =>
   unfold slices_rotateCmpFunc_int_h_Order_1_L0 at h
   refine iwp_seq ?_
   obtain ⟨x34, hx34, h⟩ := bnd_e h
   refine iwp_reg (ils_cons rfl (mvI rfl rfl rfl rfl) <|
    ils_cons rfl (mvI rfl rfl rfl rfl) <|
    ils_cons rfl (iop_cmpx rfl rfl (lb rfl) (svI rfl) (svI rfl) rfl hx34) <|
    ils_end ?_)
   refine iwp_cond (b := _) rfl (fun hc35 => ?_) (fun hc35 => ?_)
   ·
    replace h := bif_t h hc35
    refine iwp_skip ?_
    refine thenQ_n ?_
    refine iwp_block ?_
    obtain ⟨x36, hx36, h⟩ := bnd_e h
    refine iwp_reg (ils_cons rfl (mvI rfl rfl rfl rfl) <|
     ils_cons rfl (mvI rfl rfl rfl rfl) <|
     ils_cons rfl (iop_cmpx rfl rfl (lb rfl) (svI rfl) (svI rfl) rfl hx36) <|
     ils_end ?_)
    refine iwp_cond (b := _) rfl (fun hc37 => ?_) (fun hc37 => ?_)
    ·
     replace h := bif_t h hc37
     obtain ⟨x38, hx38, h⟩ := bnd_e h
     obtain ⟨x39, hx39, h⟩ := bno_e h
     obtain ⟨hk40, h⟩ := chk_e h
     refine iwp_reg (ils_cons rfl (iop_move rfl rfl (lb rfl) (sv (d := .osl _ _ _) rfl)) <|
      ils_cons rfl (mvI rfl rfl rfl rfl) <|
      ils_cons rfl (mvI rfl rfl rfl rfl) <|
      ils_cons rfl (iop_intx rfl rfl (lb rfl) (svI rfl) (svI rfl) rfl hx38) <|
      ils_cons rfl (mvI rfl rfl rfl rfl) <|
      ils_cons rfl (mvI rfl rfl rfl rfl) <|
      ils_cons rfl (iop_move rfl rfl (lb rfl) (sv (d := .fn 78 [.ref _ _]) rfl)) <|
      ils_cons rfl (iop_callh2 (r' := .tuple []) (H1' := [(1000, .blk 3 (D.flat (x39.map (eInt .i64).d))), (1001, .blk 60 [.slice false (a4.map (eFlt .f64).d)])]) 0 [1000, 1001] rfl rfl (lb rfl) cl84 (.cons (sv (d := .osl _ _ _) rfl) (.cons (svI rfl) (.cons (svI rfl) (.cons (svI rfl) (.cons (sv (d := .fn 78 [.ref _ _]) rfl) .nil))))) rfl rfl ⟨rfl, rfl, by decide, rfl, List.forall_mem_cons.2 ⟨⟨rfl, rfl, (handL (eInt .i64) rfl), (handLr (eInt .i64))⟩, List.forall_mem_cons.2 ⟨⟨rfl, rfl, rfl, rfl⟩, List.forall_mem_nil _⟩⟩⟩ (p_slices_swapRangeCmpFunc_int_h_Order_1 _ _ _ _ _ _ hx39) rfl rfl (List.forall_mem_cons.2 ⟨⟨rfl, (handLr (eInt .i64))⟩, List.forall_mem_cons.2 ⟨⟨rfl, rfl⟩, List.forall_mem_nil _⟩⟩) (by simp only [List.map_cons, List.map_nil, Ent.ren, renL_flat, renL_ref]; rfl)) <|
      ils_end ?_)
     obtain ⟨x41, hx41, h⟩ := bnd_e h
     refine iwp_region (ils_cons rfl (mvI rfl rfl rfl rfl) <|
      ils_cons rfl (mvI rfl rfl rfl rfl) <|
      ils_cons rfl (iop_intx rfl rfl (lb rfl) (svI rfl) (svI rfl) rfl hx41) <|
      ils_cons rfl (asI rfl rfl rfl rfl) <|
      ils_nil ?_)
     refine blockQ_n ?_
     refine thenQ_n ⟨(n0, x39, x41, v19), (fun i => i), ⟨(.cons (.same (congrArg (D.osl _ _) hk40.symm) rfl) (.sames rfl rfl)), (.cons (EntW.lst rfl) (.cons (.blk rfl rfl rfl) .nil)), nd_of [1000, 1001] rfl (by decide), fun _ _ => rfl⟩, ?_, ?_⟩
     exact h
     exact Nat.lt_succ_self _
    ·
     replace h := bif_f h hc37
     obtain ⟨x42, hx42, h⟩ := bnd_e h
     obtain ⟨x43, hx43, h⟩ := bnd_e h
     obtain ⟨x44, hx44, h⟩ := bnd_e h
     obtain ⟨x45, hx45, h⟩ := bno_e h
     obtain ⟨hk46, h⟩ := chk_e h
     refine iwp_reg (ils_cons rfl (iop_move rfl rfl (lb rfl) (sv (d := .osl _ _ _) rfl)) <|
      ils_cons rfl (mvI rfl rfl rfl rfl) <|
      ils_cons rfl (mvI rfl rfl rfl rfl) <|
      ils_cons rfl (iop_intx rfl rfl (lb rfl) (svI rfl) (svI rfl) rfl hx42) <|
      ils_cons rfl (mvI rfl rfl rfl rfl) <|
      ils_cons rfl (mvI rfl rfl rfl rfl) <|
      ils_cons rfl (iop_intx rfl rfl (lb rfl) (svI rfl) (svI rfl) rfl hx43) <|
      ils_cons rfl (mvI rfl rfl rfl rfl) <|
      ils_cons rfl (iop_intx rfl rfl (lb rfl) (svI rfl) (svI rfl) rfl hx44) <|
      ils_cons rfl (mvI rfl rfl rfl rfl) <|
      ils_cons rfl (iop_move rfl rfl (lb rfl) (sv (d := .fn 78 [.ref _ _]) rfl)) <|
      ils_cons rfl (iop_callh2 (r' := .tuple []) (H1' := [(1000, .blk 3 (D.flat (x45.map (eInt .i64).d))), (1001, .blk 60 [.slice false (a4.map (eFlt .f64).d)])]) 0 [1000, 1001] rfl rfl (lb rfl) cl84 (.cons (sv (d := .osl _ _ _) rfl) (.cons (svI rfl) (.cons (svI rfl) (.cons (svI rfl) (.cons (sv (d := .fn 78 [.ref _ _]) rfl) .nil))))) rfl rfl ⟨rfl, rfl, by decide, rfl, List.forall_mem_cons.2 ⟨⟨rfl, rfl, (handL (eInt .i64) rfl), (handLr (eInt .i64))⟩, List.forall_mem_cons.2 ⟨⟨rfl, rfl, rfl, rfl⟩, List.forall_mem_nil _⟩⟩⟩ (p_slices_swapRangeCmpFunc_int_h_Order_1 _ _ _ _ _ _ hx45) rfl rfl (List.forall_mem_cons.2 ⟨⟨rfl, (handLr (eInt .i64))⟩, List.forall_mem_cons.2 ⟨⟨rfl, rfl⟩, List.forall_mem_nil _⟩⟩) (by simp only [List.map_cons, List.map_nil, Ent.ren, renL_flat, renL_ref]; rfl)) <|
      ils_end ?_)
     obtain ⟨x47, hx47, h⟩ := bnd_e h
     refine iwp_region (ils_cons rfl (mvI rfl rfl rfl rfl) <|
      ils_cons rfl (mvI rfl rfl rfl rfl) <|
      ils_cons rfl (iop_intx rfl rfl (lb rfl) (svI rfl) (svI rfl) rfl hx47) <|
      ils_cons rfl (asI rfl rfl rfl rfl) <|
      ils_nil ?_)
     refine blockQ_n ?_
     refine thenQ_n ⟨(n0, x45, v18, x47), (fun i => i), ⟨(.cons (.same (congrArg (D.osl _ _) hk46.symm) rfl) (.sames rfl rfl)), (.cons (EntW.lst rfl) (.cons (.blk rfl rfl rfl) .nil)), nd_of [1000, 1001] rfl (by decide), fun _ _ => rfl⟩, ?_, ?_⟩
     exact h
     exact Nat.lt_succ_self _
   ·
    replace h := bif_f h hc35
    refine iwp_exit ?_
    refine thenQ_e ?_
    refine thenQ_e ?_
    refine blockQ_e ?_
    refine thenQ_n ?_
    obtain ⟨x48, hx48, h⟩ := bnd_e h
    obtain ⟨x49, hx49, h⟩ := bno_e h
    obtain ⟨hk50, h⟩ := chk_e h
    refine iwp_region (ils_cons rfl (iop_move rfl rfl (lb rfl) (sv (d := .osl _ _ _) rfl)) <|
     ils_cons rfl (mvI rfl rfl rfl rfl) <|
     ils_cons rfl (mvI rfl rfl rfl rfl) <|
     ils_cons rfl (iop_intx rfl rfl (lb rfl) (svI rfl) (svI rfl) rfl hx48) <|
     ils_cons rfl (mvI rfl rfl rfl rfl) <|
     ils_cons rfl (mvI rfl rfl rfl rfl) <|
     ils_cons rfl (iop_move rfl rfl (lb rfl) (sv (d := .fn 78 [.ref _ _]) rfl)) <|
     ils_cons rfl (iop_callh2 (r' := .tuple []) (H1' := [(1000, .blk 3 (D.flat (x49.map (eInt .i64).d))), (1001, .blk 60 [.slice false (a4.map (eFlt .f64).d)])]) 0 [1000, 1001] rfl rfl (lb rfl) cl84 (.cons (sv (d := .osl _ _ _) rfl) (.cons (svI rfl) (.cons (svI rfl) (.cons (svI rfl) (.cons (sv (d := .fn 78 [.ref _ _]) rfl) .nil))))) rfl rfl ⟨rfl, rfl, by decide, rfl, List.forall_mem_cons.2 ⟨⟨rfl, rfl, (handL (eInt .i64) rfl), (handLr (eInt .i64))⟩, List.forall_mem_cons.2 ⟨⟨rfl, rfl, rfl, rfl⟩, List.forall_mem_nil _⟩⟩⟩ (p_slices_swapRangeCmpFunc_int_h_Order_1 _ _ _ _ _ _ hx49) rfl rfl (List.forall_mem_cons.2 ⟨⟨rfl, (handLr (eInt .i64))⟩, List.forall_mem_cons.2 ⟨⟨rfl, rfl⟩, List.forall_mem_nil _⟩⟩) (by simp only [List.map_cons, List.map_nil, Ent.ren, renL_flat, renL_ref]; rfl)) <|
     ils_nil ?_)
    obtain rfl := Option.some.inj h
    refine ⟨.inl rfl, (fun i => i), ⟨.nil, (.cons (EntW.lst rfl) (.cons (.blk rfl rfl rfl) .nil)), nd_of [1000, 1001] rfl (by decide), fun _ _ => rfl⟩, .nil, rfl⟩

theorem p_slices_symMergeCmpFunc_int_h_Order_1 (nr : Nat) : ∀ (a0 : Int) (a1 : Int) (a2 : Int) (a3 : (List Int)) (a4 : (List Nat)) (r : (List Int)) (h : slices_symMergeCmpFunc_int_h_Order_1 nr a0 a1 a2 a3 a4 = some r), FnH Try.prog 82 [.osl 1000 (eInt .i64).sz a3.length, .int .i64 a0, .int .i64 a1, .int .i64 a2, .fn 78 [.ref 1001 0]] [(1000, .blk 3 (D.flat (a3.map (eInt .i64).d))), (1001, .blk 60 [.slice false (a4.map (eFlt .f64).d)])] (retD []) [(1000, .blk 3 (D.flat (r.map (eInt .i64).d))), (1001, .blk 60 [.slice false (a4.map (eFlt .f64).d)])] := by
 induction nr with
 | zero => intro a0 a1 a2 a3 a4 r h; cases h
 | succ nr ih =>
 intro a0 a1 a2 a3 a4 r h
 replace h : slices_symMergeCmpFunc_int_h_Order_1_B (slices_symMergeCmpFunc_int_h_Order_1 nr) a0 a1 a2 a3 a4 = some r := h
 refine fnh_of_iwp (rs := []) Try.func82 rfl Try.ntmps82 (nle rfl) fun O hO => ?_
 show IWP _ _ _ _ ⟨[(0, .osl 1000 (eInt .i64).sz a3.length), (1, .int .i64 a0), (2, .int .i64 a1), (3, .int .i64 a2), (4, .fn 78 [.ref 1001 0])], [(1000, .blk 3 (D.flat (a3.map (eInt .i64).d))), (1001, .blk 60 [.slice false (a4.map (eFlt .f64).d)])]⟩ _
 unfold slices_symMergeCmpFunc_int_h_Order_1_B at h
 refine iwp_seq ?_
 obtain ⟨x1, hx1, h⟩ := bnd_e h
 obtain ⟨x2, hx2, h⟩ := bnd_e h
 refine iwp_reg (ils_cons rfl (mvI rfl rfl rfl rfl) <|
  ils_cons rfl (mvI rfl rfl rfl rfl) <|
  ils_cons rfl (iop_intx rfl rfl (lb rfl) (svI rfl) (svI rfl) rfl hx1) <|
  ils_cons rfl (iop_cmpx rfl rfl (lb rfl) (svI rfl) (sv (d := .int _ 1) rfl) rfl hx2) <|
  ils_end ?_)
 refine iwp_cond (b := _) rfl (fun hc3 => ?_) (fun hc3 => ?_)
 ·
  replace h := bif_t h hc3
  refine iwp_reg (ils_cons rfl (mvI rfl rfl rfl rfl) <|
   ils_cons rfl (asI rfl rfl rfl rfl) <|
   ils_end ?_)
  refine iwp_reg (ils_cons rfl (mvI rfl rfl rfl rfl) <|
   ils_cons rfl (asI rfl rfl rfl rfl) <|
   ils_end ?_)
  refine iwp_seq ?_
  refine iwp_block ?_
  refine iwp_loopP (α := Nat × Int × Int) (fun z => ⟨[(0, .osl 1000 (eInt .i64).sz a3.length), (1, .int .i64 a0), (4, .fn 78 [.ref 1001 0]), (10, .int .i64 z.2.1), (11, .int .i64 z.2.2)], [(1000, .blk 3 (D.flat (a3.map (eInt .i64).d))), (1001, .blk 60 [.slice false (a4.map (eFlt .f64).d)])]⟩) (fun z => slices_symMergeCmpFunc_int_h_Order_1_L0 a0 a3 a4 z.1 z.2.1 z.2.2 = some r) (fun z => z.1) (fuel, a1, a2) (fun i => i) ⟨(.sames rfl rfl), (.cons (EntW.lst rfl) (.cons (.blk rfl rfl rfl) .nil)), nd_of [1000, 1001] rfl (by decide), fun _ _ => rfl⟩ ?_ ?_
  ·exact h
  ·
   rintro ⟨n0, v18, v19⟩ h
   cases n0 with
   | zero => exact absurd h (by unfold slices_symMergeCmpFunc_int_h_Order_1_L0; exact nofun)
   | succ n0 =>
    unfold slices_symMergeCmpFunc_int_h_Order_1_L0 at h
    refine iwp_seq ?_
    obtain ⟨x34, hx34, h⟩ := bnd_e h
    refine iwp_reg (ils_cons rfl (mvI rfl rfl rfl rfl) <|
     ils_cons rfl (mvI rfl rfl rfl rfl) <|
     ils_cons rfl (iop_cmpx rfl rfl (lb rfl) (svI rfl) (svI rfl) rfl hx34) <|
     ils_end ?_)
    refine iwp_cond (b := _) rfl (fun hc35 => ?_) (fun hc35 => ?_)
    ·
     replace h := bif_t h hc35
     refine iwp_skip ?_
     refine thenQ_n ?_
     refine iwp_block ?_
     obtain ⟨x36, hx36, h⟩ := bnd_e h
     obtain ⟨x37, hx37, h⟩ := bnd_e h
     obtain ⟨x38, hx38, h⟩ := bno_e h
     obtain ⟨x39, hx39, h⟩ := bnd_e h
     refine iwp_reg (ils_cons rfl (mvI rfl rfl rfl rfl) <|
      ils_cons rfl (mvI rfl rfl rfl rfl) <|
      ils_cons rfl (iop_intx rfl rfl (lb rfl) (svI rfl) (svI rfl) rfl hx36) <|
      ils_cons rfl (iop_int_conv rfl rfl (lb rfl) ⟨_, Try.underlying3⟩ Try.underlying110 (svI rfl) hx37) <|
      ils_cons rfl (iop_shrx rfl rfl (lb rfl) (svI rfl) (sv (d := .int _ 1) rfl) hx38) <|
      ils_cons rfl (iop_int_conv rfl rfl (lb rfl) ⟨_, Try.underlying110⟩ Try.underlying3 (svI rfl) hx39) <|
      ils_cons rfl (asI rfl rfl rfl rfl) <|
      ils_end ?_)
     obtain ⟨x40, hx40, h⟩ := bno_e h
     obtain ⟨x41, hx41, h⟩ := bno_e h
     obtain ⟨x42, hx42, h⟩ := bno_e h
     obtain ⟨x43, hx43, h⟩ := bno_e h
     obtain ⟨x44, hx44, h⟩ := bno_e h
     obtain ⟨x45, hx45, h⟩ := bnd_e h
     refine iwp_drw rfl [⟨[4], [], [(40, .fn 78 [.ref 1001 0])], []⟩,
      ⟨[0], [], [(41, .osl 1000 (eInt .i64).sz a3.length)], []⟩,
      ⟨[12], [], [(42, .int .i64 x39)], []⟩,
      ⟨[41, 42], [], [(43, .ref 1000 (((x39 : Int).toNat) * (eInt .i64).sz + 0))], []⟩,
      ⟨[43], [1000], [(44, .int .i64 x41)], []⟩,
      ⟨[0], [], [(45, .osl 1000 (eInt .i64).sz a3.length)], []⟩,
      ⟨[1], [], [(46, .int .i64 a0)], []⟩,
      ⟨[45, 46], [], [(47, .ref 1000 (((a0 : Int).toNat) * (eInt .i64).sz + 0))], []⟩,
      ⟨[47], [1000], [(48, .int .i64 x43)], []⟩,
      ⟨[40, 44, 48], [1001], [(49, .int .i64 x44)], []⟩,
      ⟨[49], [], [(50, .bool x45)], []⟩] rfl ?_ (by kernel_rfl) ?_
     ·refine .cons (lop rfl rfl fun S hA => (iop_move rfl rfl (lb rfl) (sv (d := .fn 78 [.ref _ _]) (agr hA rfl rfl)))) ?_
      refine .cons (lop rfl rfl fun S hA => (iop_move rfl rfl (lb rfl) (sv (d := .osl _ _ _) (agr hA rfl rfl)))) ?_
      refine .cons (lop rfl rfl fun S hA => (iop_move rfl rfl (lb rfl) (svaI hA rfl rfl))) ?_
      refine .cons (lop rfl rfl fun S hA => (iop_idxO (eInt .i64).toEnc0 rfl rfl (lb rfl) Try.underlying41 ti3 (sv (d := .osl _ _ _) (agr hA rfl rfl)) rfl (svaI hA rfl rfl) hx40)) ?_
      refine .cons (lop rfl rfl fun S hA => (iop_loadEs (eInt .i64).toEnc0 (d := .int _ _) rfl rfl (lb rfl) Try.underlying3 ag3 ti3 (by decide) (svaR hA rfl rfl) (agi hA rfl rfl) hx41 (nle rfl) rfl)) ?_
      refine .cons (lop rfl rfl fun S hA => (iop_move rfl rfl (lb rfl) (sv (d := .osl _ _ _) (agr hA rfl rfl)))) ?_
      refine .cons (lop rfl rfl fun S hA => (iop_move rfl rfl (lb rfl) (svaI hA rfl rfl))) ?_
      refine .cons (lop rfl rfl fun S hA => (iop_idxO (eInt .i64).toEnc0 rfl rfl (lb rfl) Try.underlying41 ti3 (sv (d := .osl _ _ _) (agr hA rfl rfl)) rfl (svaI hA rfl rfl) hx42)) ?_
      refine .cons (lop rfl rfl fun S hA => (iop_loadEs (eInt .i64).toEnc0 (d := .int _ _) rfl rfl (lb rfl) Try.underlying3 ag3 ti3 (by decide) (svaR hA rfl rfl) (agi hA rfl rfl) hx43 (nle rfl) rfl)) ?_
      refine .cons (lop rfl rfl fun S hA => (iop_callvp (r := .int .i64 x44) rfl rfl (lb rfl) cl78 (sv (d := .fn 78 [.ref _ _]) (agr hA rfl rfl)) (.cons (svaI hA rfl rfl) (.cons (svaI hA rfl rfl) .nil)) (.k (.k (.cons (.ref (agi hA rfl rfl) rfl (fdl_refl _) rfl) .nil))) rfl rfl (p_gauge_Order_1 _ _ _ _ hx44))) ?_
      refine .cons (lop rfl rfl fun S hA => (iop_cmpx rfl rfl (lb rfl) (svaI hA rfl rfl) (sv (d := .int _ 0) rfl) rfl hx45)) ?_
      exact .nil
     refine iwp_cond (b := _) rfl (fun hc46 => ?_) (fun hc46 => ?_)
     ·
      replace h := bif_t h hc46
      obtain ⟨x47, hx47, h⟩ := bnd_e h
      refine iwp_region (ils_cons rfl (mvI rfl rfl rfl rfl) <|
       ils_cons rfl (iop_intx rfl rfl (lb rfl) (svI rfl) (sv (d := .int _ 1) rfl) rfl hx47) <|
       ils_cons rfl (asI rfl rfl rfl rfl) <|
       ils_nil ?_)
      refine blockQ_n ?_
      refine thenQ_n ⟨(n0, x47, v19), (fun i => i), ⟨(.sames rfl rfl), (.cons (EntW.lst rfl) (.cons (.blk rfl rfl rfl) .nil)), nd_of [1000, 1001] rfl (by decide), fun _ _ => rfl⟩, ?_, ?_⟩
      exact h
      exact Nat.lt_succ_self _
     ·
      replace h := bif_f h hc46
      refine iwp_region (ils_cons rfl (mvI rfl rfl rfl rfl) <|
       ils_cons rfl (asI rfl rfl rfl rfl) <|
       ils_nil ?_)
      refine blockQ_n ?_
      refine thenQ_n ⟨(n0, v18, x39), (fun i => i), ⟨(.sames rfl rfl), (.cons (EntW.lst rfl) (.cons (.blk rfl rfl rfl) .nil)), nd_of [1000, 1001] rfl (by decide), fun _ _ => rfl⟩, ?_, ?_⟩
      exact h
      exact Nat.lt_succ_self _
    ·
     replace h := bif_f h hc35
     refine iwp_exit ?_
     refine thenQ_e ?_
     refine thenQ_e ?_
     refine blockQ_e ?_
     refine thenQ_n ?_
     refine iwp_seq ?_
     refine iwp_reg (ils_cons rfl (mvI rfl rfl rfl rfl) <|
      ils_cons rfl (asI rfl rfl rfl rfl) <|
      ils_end ?_)
     refine iwp_block ?_
     refine iwp_loopP (α := Nat × (List Int) × Int) (fun z => ⟨[(0, .osl 1000 (eInt .i64).sz z.2.1.length), (10, .int .i64 v18), (13, .int .i64 z.2.2)], [(1000, .blk 3 (D.flat (z.2.1.map (eInt .i64).d))), (1001, .blk 60 [.slice false (a4.map (eFlt .f64).d)])]⟩) (fun z => slices_symMergeCmpFunc_int_h_Order_1_L1 v18 z.1 z.2.1 z.2.2 = some r) (fun z => z.1) (fuel, a3, a0) (fun i => i) ⟨(.sames rfl rfl), (.cons (EntW.lst rfl) (.cons (.blk rfl rfl rfl) .nil)), nd_of [1000, 1001] rfl (by decide), fun _ _ => rfl⟩ ?_ ?_
     ·exact h
     ·
      rintro ⟨n1, v64, v65⟩ h
      cases n1 with
      | zero => exact absurd h (by unfold slices_symMergeCmpFunc_int_h_Order_1_L1; exact nofun)
      | succ n1 =>
       unfold slices_symMergeCmpFunc_int_h_Order_1_L1 at h
       refine iwp_seq ?_
       obtain ⟨x82, hx82, h⟩ := bnd_e h
       obtain ⟨x83, hx83, h⟩ := bnd_e h
       refine iwp_reg (ils_cons rfl (mvI rfl rfl rfl rfl) <|
        ils_cons rfl (mvI rfl rfl rfl rfl) <|
        ils_cons rfl (iop_intx rfl rfl (lb rfl) (svI rfl) (sv (d := .int _ 1) rfl) rfl hx82) <|
        ils_cons rfl (iop_cmpx rfl rfl (lb rfl) (svI rfl) (svI rfl) rfl hx83) <|
        ils_end ?_)
       refine iwp_cond (b := _) rfl (fun hc84 => ?_) (fun hc84 => ?_)
       ·
        replace h := bif_t h hc84
        refine iwp_skip ?_
        refine thenQ_n ?_
        refine iwp_seq ?_
        refine iwp_block ?_
        obtain ⟨x85, hx85, h⟩ := bnd_e h
        obtain ⟨x86, hx86, h⟩ := bnd_e h
        obtain ⟨x87, hx87, h⟩ := bno_e h
        obtain ⟨x88, hx88, h⟩ := bno_e h
        obtain ⟨x89, hx89, h⟩ := bno_e h
        obtain ⟨x90, hx90, h⟩ := bno_e h
        obtain ⟨x91, hx91, h⟩ := bno_e h
        obtain ⟨x92, hx92, h⟩ := bno_e h
        obtain ⟨x93, hx93, h⟩ := bnd_e h
        obtain ⟨x94, hx94, h⟩ := bno_e h
        obtain ⟨x95, hx95, h⟩ := bno_e h
        obtain ⟨x96, hx96, h⟩ := bnd_e h
        refine iwp_draw rfl [⟨[0], [], [(61, .osl 1000 (eInt .i64).sz v64.length)], []⟩,
         ⟨[13], [], [(62, .int .i64 v65)], []⟩,
         ⟨[0], [], [(63, .osl 1000 (eInt .i64).sz v64.length)], []⟩,
         ⟨[13], [], [(64, .int .i64 v65)], []⟩,
         ⟨[64], [], [(65, .int .i64 x85)], []⟩,
         ⟨[0], [], [(66, .osl 1000 (eInt .i64).sz v64.length)], []⟩,
         ⟨[13], [], [(67, .int .i64 v65)], []⟩,
         ⟨[67], [], [(68, .int .i64 x86)], []⟩,
         ⟨[66, 68], [], [(69, .ref 1000 (((x86 : Int).toNat) * (eInt .i64).sz + 0))], []⟩,
         ⟨[69], [1000], [(70, .int .i64 x88)], []⟩,
         ⟨[0], [], [(71, .osl 1000 (eInt .i64).sz v64.length)], []⟩,
         ⟨[13], [], [(72, .int .i64 v65)], []⟩,
         ⟨[71, 72], [], [(73, .ref 1000 (((v65 : Int).toNat) * (eInt .i64).sz + 0))], []⟩,
         ⟨[73], [1000], [(74, .int .i64 x90)], []⟩,
         ⟨[61, 62], [], [(75, .ref 1000 (((v65 : Int).toNat) * (eInt .i64).sz + 0))], []⟩,
         ⟨[70, 75], [1000], [], [(1000, .blk 3 (D.flat (x93.map (eInt .i64).d)))]⟩,
         ⟨[63, 65], [], [(76, .ref 1000 (((x85 : Int).toNat) * (eInt .i64).sz + 0))], []⟩,
         ⟨[74, 76], [1000], [], [(1000, .blk 3 (D.flat (x96.map (eInt .i64).d)))]⟩] rfl ?_ (by kernel_rfl) ?_
        ·refine .cons (lop rfl rfl fun S hA => (iop_move rfl rfl (lb rfl) (sv (d := .osl _ _ _) (agr hA rfl rfl)))) ?_
         refine .cons (lop rfl rfl fun S hA => (iop_move rfl rfl (lb rfl) (svaI hA rfl rfl))) ?_
         refine .cons (lop rfl rfl fun S hA => (iop_move rfl rfl (lb rfl) (sv (d := .osl _ _ _) (agr hA rfl rfl)))) ?_
         refine .cons (lop rfl rfl fun S hA => (iop_move rfl rfl (lb rfl) (svaI hA rfl rfl))) ?_
         refine .cons (lop rfl rfl fun S hA => (iop_intx rfl rfl (lb rfl) (svaI hA rfl rfl) (sv (d := .int _ 1) rfl) rfl hx85)) ?_
         refine .cons (lop rfl rfl fun S hA => (iop_move rfl rfl (lb rfl) (sv (d := .osl _ _ _) (agr hA rfl rfl)))) ?_
         refine .cons (lop rfl rfl fun S hA => (iop_move rfl rfl (lb rfl) (svaI hA rfl rfl))) ?_
         refine .cons (lop rfl rfl fun S hA => (iop_intx rfl rfl (lb rfl) (svaI hA rfl rfl) (sv (d := .int _ 1) rfl) rfl hx86)) ?_
         refine .cons (lop rfl rfl fun S hA => (iop_idxO (eInt .i64).toEnc0 rfl rfl (lb rfl) Try.underlying41 ti3 (sv (d := .osl _ _ _) (agr hA rfl rfl)) rfl (svaI hA rfl rfl) hx87)) ?_
         refine .cons (lop rfl rfl fun S hA => (iop_loadEs (eInt .i64).toEnc0 (d := .int _ _) rfl rfl (lb rfl) Try.underlying3 ag3 ti3 (by decide) (svaR hA rfl rfl) (agi hA rfl rfl) hx88 (nle rfl) rfl)) ?_
         refine .cons (lop rfl rfl fun S hA => (iop_move rfl rfl (lb rfl) (sv (d := .osl _ _ _) (agr hA rfl rfl)))) ?_
         refine .cons (lop rfl rfl fun S hA => (iop_move rfl rfl (lb rfl) (svaI hA rfl rfl))) ?_
         refine .cons (lop rfl rfl fun S hA => (iop_idxO (eInt .i64).toEnc0 rfl rfl (lb rfl) Try.underlying41 ti3 (sv (d := .osl _ _ _) (agr hA rfl rfl)) rfl (svaI hA rfl rfl) hx89)) ?_
         refine .cons (lop rfl rfl fun S hA => (iop_loadEs (eInt .i64).toEnc0 (d := .int _ _) rfl rfl (lb rfl) Try.underlying3 ag3 ti3 (by decide) (svaR hA rfl rfl) (agi hA rfl rfl) hx90 (nle rfl) rfl)) ?_
         refine .cons (lop rfl rfl fun S hA => (iop_idxO (eInt .i64).toEnc0 rfl rfl (lb rfl) Try.underlying41 ti3 (sv (d := .osl _ _ _) (agr hA rfl rfl)) rfl (svaI hA rfl rfl) hx91)) ?_
         refine .cons (lop rfl rfl fun S hA => (iop_storeE (eInt .i64).toEnc0 (a' := x88) rfl rfl ti3 (svaR hA rfl rfl) (agi hA rfl rfl) (svaI hA rfl rfl) rfl rfl rfl hx92 (nle rfl) rfl hx93)) ?_
         refine .cons (lop rfl rfl fun S hA => (iop_idxO (eInt .i64).toEnc0 rfl rfl (lb rfl) Try.underlying41 ti3 (sv (d := .osl _ _ _) (agr hA rfl rfl)) (len_set hx93 rfl) (svaI hA rfl rfl) hx94)) ?_
         refine .cons (lop rfl rfl fun S hA => (iop_storeE (eInt .i64).toEnc0 (a' := x90) rfl rfl ti3 (svaR hA rfl rfl) (agi hA rfl rfl) (svaI hA rfl rfl) rfl rfl rfl hx95 (nle rfl) rfl hx96)) ?_
         exact .nil
        refine blockQ_n ?_
        refine thenQ_n ?_
        obtain ⟨x97, hx97, h⟩ := bnd_e h
        refine iwp_region (ils_cons rfl (mvI rfl rfl rfl rfl) <|
         ils_cons rfl (iop_intx rfl rfl (lb rfl) (svI rfl) (sv (d := .int _ 1) rfl) rfl hx97) <|
         ils_cons rfl (asI rfl rfl rfl rfl) <|
         ils_nil ?_)
        refine thenQ_n ⟨(n1, x96, x97), (fun i => i), ⟨(.cons (.same (congrArg (D.osl _ _) (len_set hx96 (len_set hx93 rfl)).symm) rfl) (.sames rfl rfl)), (.cons (EntW.lst rfl) (.cons (.blk rfl rfl rfl) .nil)), nd_of [1000, 1001] rfl (by decide), fun _ _ => rfl⟩, ?_, ?_⟩
        exact h
        exact Nat.lt_succ_self _
       ·
        replace h := bif_f h hc84
        refine iwp_exit ?_
        refine thenQ_e ?_
        refine thenQ_e ?_
        refine blockQ_e ?_
        refine thenQ_n ?_
        refine iwp_ret ?_
        refine thenQ_r ?_
        obtain rfl := Option.some.inj h
        refine ⟨.inr rfl, (fun i => i), ⟨.nil, (.cons (EntW.lst rfl) (.cons (.blk rfl rfl rfl) .nil)), nd_of [1000, 1001] rfl (by decide), fun _ _ => rfl⟩, .nil, rfl⟩
 ·
  replace h := bif_f h hc3
  refine iwp_skip ?_
  refine thenQ_n ?_
  refine iwp_seq ?_
  obtain ⟨x98, hx98, h⟩ := bnd_e h
  obtain ⟨x99, hx99, h⟩ := bnd_e h
  refine iwp_reg (ils_cons rfl (mvI rfl rfl rfl rfl) <|
   ils_cons rfl (mvI rfl rfl rfl rfl) <|
   ils_cons rfl (iop_intx rfl rfl (lb rfl) (svI rfl) (svI rfl) rfl hx98) <|
   ils_cons rfl (iop_cmpx rfl rfl (lb rfl) (svI rfl) (sv (d := .int _ 1) rfl) rfl hx99) <|
   ils_end ?_)
  refine iwp_cond (b := _) rfl (fun hc100 => ?_) (fun hc100 => ?_)
  ·
   replace h := bif_t h hc100
   refine iwp_reg (ils_cons rfl (mvI rfl rfl rfl rfl) <|
    ils_cons rfl (asI rfl rfl rfl rfl) <|
    ils_end ?_)
   refine iwp_reg (ils_cons rfl (mvI rfl rfl rfl rfl) <|
    ils_cons rfl (asI rfl rfl rfl rfl) <|
    ils_end ?_)
   refine iwp_seq ?_
   refine iwp_block ?_
   refine iwp_loopP (α := Nat × Int × Int) (fun z => ⟨[(0, .osl 1000 (eInt .i64).sz a3.length), (2, .int .i64 a1), (4, .fn 78 [.ref 1001 0]), (14, .int .i64 z.2.1), (15, .int .i64 z.2.2)], [(1000, .blk 3 (D.flat (a3.map (eInt .i64).d))), (1001, .blk 60 [.slice false (a4.map (eFlt .f64).d)])]⟩) (fun z => slices_symMergeCmpFunc_int_h_Order_1_L2 a1 a3 a4 z.1 z.2.1 z.2.2 = some r) (fun z => z.1) (fuel, a0, a1) (fun i => i) ⟨(.sames rfl rfl), (.cons (EntW.lst rfl) (.cons (.blk rfl rfl rfl) .nil)), nd_of [1000, 1001] rfl (by decide), fun _ _ => rfl⟩ ?_ ?_
   ·exact h
   ·
    rintro ⟨n2, v115, v116⟩ h
    cases n2 with
    | zero => exact absurd h (by unfold slices_symMergeCmpFunc_int_h_Order_1_L2; exact nofun)
    | succ n2 =>
     unfold slices_symMergeCmpFunc_int_h_Order_1_L2 at h
     refine iwp_seq ?_
     obtain ⟨x131, hx131, h⟩ := bnd_e h
     refine iwp_reg (ils_cons rfl (mvI rfl rfl rfl rfl) <|
      ils_cons rfl (mvI rfl rfl rfl rfl) <|
      ils_cons rfl (iop_cmpx rfl rfl (lb rfl) (svI rfl) (svI rfl) rfl hx131) <|
      ils_end ?_)
     refine iwp_cond (b := _) rfl (fun hc132 => ?_) (fun hc132 => ?_)
     ·
      replace h := bif_t h hc132
      refine iwp_skip ?_
      refine thenQ_n ?_
      refine iwp_block ?_
      obtain ⟨x133, hx133, h⟩ := bnd_e h
      obtain ⟨x134, hx134, h⟩ := bnd_e h
      obtain ⟨x135, hx135, h⟩ := bno_e h
      obtain ⟨x136, hx136, h⟩ := bnd_e h
      refine iwp_reg (ils_cons rfl (mvI rfl rfl rfl rfl) <|
       ils_cons rfl (mvI rfl rfl rfl rfl) <|
       ils_cons rfl (iop_intx rfl rfl (lb rfl) (svI rfl) (svI rfl) rfl hx133) <|
       ils_cons rfl (iop_int_conv rfl rfl (lb rfl) ⟨_, Try.underlying3⟩ Try.underlying110 (svI rfl) hx134) <|
       ils_cons rfl (iop_shrx rfl rfl (lb rfl) (svI rfl) (sv (d := .int _ 1) rfl) hx135) <|
       ils_cons rfl (iop_int_conv rfl rfl (lb rfl) ⟨_, Try.underlying110⟩ Try.underlying3 (svI rfl) hx136) <|
       ils_cons rfl (asI rfl rfl rfl rfl) <|
       ils_end ?_)
      obtain ⟨x137, hx137, h⟩ := bno_e h
      obtain ⟨x138, hx138, h⟩ := bno_e h
      obtain ⟨x139, hx139, h⟩ := bno_e h
      obtain ⟨x140, hx140, h⟩ := bno_e h
      obtain ⟨x141, hx141, h⟩ := bno_e h
      obtain ⟨x142, hx142, h⟩ := bnd_e h
      refine iwp_drw rfl [⟨[4], [], [(92, .fn 78 [.ref 1001 0])], []⟩,
       ⟨[0], [], [(93, .osl 1000 (eInt .i64).sz a3.length)], []⟩,
       ⟨[2], [], [(94, .int .i64 a1)], []⟩,
       ⟨[93, 94], [], [(95, .ref 1000 (((a1 : Int).toNat) * (eInt .i64).sz + 0))], []⟩,
       ⟨[95], [1000], [(96, .int .i64 x138)], []⟩,
       ⟨[0], [], [(97, .osl 1000 (eInt .i64).sz a3.length)], []⟩,
       ⟨[16], [], [(98, .int .i64 x136)], []⟩,
       ⟨[97, 98], [], [(99, .ref 1000 (((x136 : Int).toNat) * (eInt .i64).sz + 0))], []⟩,
       ⟨[99], [1000], [(100, .int .i64 x140)], []⟩,
       ⟨[92, 96, 100], [1001], [(101, .int .i64 x141)], []⟩,
       ⟨[101], [], [(102, .bool x142)], []⟩,
       ⟨[102], [], [(103, .bool (!x142))], []⟩] rfl ?_ (by kernel_rfl) ?_
      ·refine .cons (lop rfl rfl fun S hA => (iop_move rfl rfl (lb rfl) (sv (d := .fn 78 [.ref _ _]) (agr hA rfl rfl)))) ?_
       refine .cons (lop rfl rfl fun S hA => (iop_move rfl rfl (lb rfl) (sv (d := .osl _ _ _) (agr hA rfl rfl)))) ?_
       refine .cons (lop rfl rfl fun S hA => (iop_move rfl rfl (lb rfl) (svaI hA rfl rfl))) ?_
       refine .cons (lop rfl rfl fun S hA => (iop_idxO (eInt .i64).toEnc0 rfl rfl (lb rfl) Try.underlying41 ti3 (sv (d := .osl _ _ _) (agr hA rfl rfl)) rfl (svaI hA rfl rfl) hx137)) ?_
       refine .cons (lop rfl rfl fun S hA => (iop_loadEs (eInt .i64).toEnc0 (d := .int _ _) rfl rfl (lb rfl) Try.underlying3 ag3 ti3 (by decide) (svaR hA rfl rfl) (agi hA rfl rfl) hx138 (nle rfl) rfl)) ?_
       refine .cons (lop rfl rfl fun S hA => (iop_move rfl rfl (lb rfl) (sv (d := .osl _ _ _) (agr hA rfl rfl)))) ?_
       refine .cons (lop rfl rfl fun S hA => (iop_move rfl rfl (lb rfl) (svaI hA rfl rfl))) ?_
       refine .cons (lop rfl rfl fun S hA => (iop_idxO (eInt .i64).toEnc0 rfl rfl (lb rfl) Try.underlying41 ti3 (sv (d := .osl _ _ _) (agr hA rfl rfl)) rfl (svaI hA rfl rfl) hx139)) ?_
       refine .cons (lop rfl rfl fun S hA => (iop_loadEs (eInt .i64).toEnc0 (d := .int _ _) rfl rfl (lb rfl) Try.underlying3 ag3 ti3 (by decide) (svaR hA rfl rfl) (agi hA rfl rfl) hx140 (nle rfl) rfl)) ?_
       refine .cons (lop rfl rfl fun S hA => (iop_callvp (r := .int .i64 x141) rfl rfl (lb rfl) cl78 (sv (d := .fn 78 [.ref _ _]) (agr hA rfl rfl)) (.cons (svaI hA rfl rfl) (.cons (svaI hA rfl rfl) .nil)) (.k (.k (.cons (.ref (agi hA rfl rfl) rfl (fdl_refl _) rfl) .nil))) rfl rfl (p_gauge_Order_1 _ _ _ _ hx141))) ?_
       refine .cons (lop rfl rfl fun S hA => (iop_cmpx rfl rfl (lb rfl) (svaI hA rfl rfl) (sv (d := .int _ 0) rfl) rfl hx142)) ?_
       refine .cons (lop rfl rfl fun S hA => (iop_not rfl rfl (lb rfl) (svaB hA rfl rfl))) ?_
       exact .nil
      refine iwp_cond (b := _) rfl (fun hc143 => ?_) (fun hc143 => ?_)
      ·
       replace h := bif_t h hc143
       obtain ⟨x144, hx144, h⟩ := bnd_e h
       refine iwp_region (ils_cons rfl (mvI rfl rfl rfl rfl) <|
        ils_cons rfl (iop_intx rfl rfl (lb rfl) (svI rfl) (sv (d := .int _ 1) rfl) rfl hx144) <|
        ils_cons rfl (asI rfl rfl rfl rfl) <|
        ils_nil ?_)
       refine blockQ_n ?_
       refine thenQ_n ⟨(n2, x144, v116), (fun i => i), ⟨(.sames rfl rfl), (.cons (EntW.lst rfl) (.cons (.blk rfl rfl rfl) .nil)), nd_of [1000, 1001] rfl (by decide), fun _ _ => rfl⟩, ?_, ?_⟩
       exact h
       exact Nat.lt_succ_self _
      ·
       replace h := bif_f h hc143
       refine iwp_region (ils_cons rfl (mvI rfl rfl rfl rfl) <|
        ils_cons rfl (asI rfl rfl rfl rfl) <|
        ils_nil ?_)
       refine blockQ_n ?_
       refine thenQ_n ⟨(n2, v115, x136), (fun i => i), ⟨(.sames rfl rfl), (.cons (EntW.lst rfl) (.cons (.blk rfl rfl rfl) .nil)), nd_of [1000, 1001] rfl (by decide), fun _ _ => rfl⟩, ?_, ?_⟩
       exact h
       exact Nat.lt_succ_self _
     ·
      replace h := bif_f h hc132
      refine iwp_exit ?_
      refine thenQ_e ?_
      refine thenQ_e ?_
      refine blockQ_e ?_
      refine thenQ_n ?_
      refine iwp_seq ?_
      refine iwp_reg (ils_cons rfl (mvI rfl rfl rfl rfl) <|
       ils_cons rfl (asI rfl rfl rfl rfl) <|
       ils_end ?_)
      refine iwp_block ?_
      refine iwp_loopP (α := Nat × (List Int) × Int) (fun z => ⟨[(0, .osl 1000 (eInt .i64).sz z.2.1.length), (14, .int .i64 v115), (17, .int .i64 z.2.2)], [(1000, .blk 3 (D.flat (z.2.1.map (eInt .i64).d))), (1001, .blk 60 [.slice false (a4.map (eFlt .f64).d)])]⟩) (fun z => slices_symMergeCmpFunc_int_h_Order_1_L3 v115 z.1 z.2.1 z.2.2 = some r) (fun z => z.1) (fuel, a3, a1) (fun i => i) ⟨(.sames rfl rfl), (.cons (EntW.lst rfl) (.cons (.blk rfl rfl rfl) .nil)), nd_of [1000, 1001] rfl (by decide), fun _ _ => rfl⟩ ?_ ?_
      ·exact h
      ·
       rintro ⟨n3, v160, v161⟩ h
       cases n3 with
       | zero => exact absurd h (by unfold slices_symMergeCmpFunc_int_h_Order_1_L3; exact nofun)
       | succ n3 =>
        unfold slices_symMergeCmpFunc_int_h_Order_1_L3 at h
        refine iwp_seq ?_
        obtain ⟨x177, hx177, h⟩ := bnd_e h
        refine iwp_reg (ils_cons rfl (mvI rfl rfl rfl rfl) <|
         ils_cons rfl (mvI rfl rfl rfl rfl) <|
         ils_cons rfl (iop_cmpx rfl rfl (lb rfl) (svI rfl) (svI rfl) rfl hx177) <|
         ils_end ?_)
        refine iwp_cond (b := _) rfl (fun hc178 => ?_) (fun hc178 => ?_)
        ·
         replace h := bif_t h hc178
         refine iwp_skip ?_
         refine thenQ_n ?_
         refine iwp_seq ?_
         refine iwp_block ?_
         obtain ⟨x179, hx179, h⟩ := bnd_e h
         obtain ⟨x180, hx180, h⟩ := bnd_e h
         obtain ⟨x181, hx181, h⟩ := bno_e h
         obtain ⟨x182, hx182, h⟩ := bno_e h
         obtain ⟨x183, hx183, h⟩ := bno_e h
         obtain ⟨x184, hx184, h⟩ := bno_e h
         obtain ⟨x185, hx185, h⟩ := bno_e h
         obtain ⟨x186, hx186, h⟩ := bno_e h
         obtain ⟨x187, hx187, h⟩ := bnd_e h
         obtain ⟨x188, hx188, h⟩ := bno_e h
         obtain ⟨x189, hx189, h⟩ := bno_e h
         obtain ⟨x190, hx190, h⟩ := bnd_e h
         refine iwp_draw rfl [⟨[0], [], [(113, .osl 1000 (eInt .i64).sz v160.length)], []⟩,
          ⟨[17], [], [(114, .int .i64 v161)], []⟩,
          ⟨[0], [], [(115, .osl 1000 (eInt .i64).sz v160.length)], []⟩,
          ⟨[17], [], [(116, .int .i64 v161)], []⟩,
          ⟨[116], [], [(117, .int .i64 x179)], []⟩,
          ⟨[0], [], [(118, .osl 1000 (eInt .i64).sz v160.length)], []⟩,
          ⟨[17], [], [(119, .int .i64 v161)], []⟩,
          ⟨[119], [], [(120, .int .i64 x180)], []⟩,
          ⟨[118, 120], [], [(121, .ref 1000 (((x180 : Int).toNat) * (eInt .i64).sz + 0))], []⟩,
          ⟨[121], [1000], [(122, .int .i64 x182)], []⟩,
          ⟨[0], [], [(123, .osl 1000 (eInt .i64).sz v160.length)], []⟩,
          ⟨[17], [], [(124, .int .i64 v161)], []⟩,
          ⟨[123, 124], [], [(125, .ref 1000 (((v161 : Int).toNat) * (eInt .i64).sz + 0))], []⟩,
          ⟨[125], [1000], [(126, .int .i64 x184)], []⟩,
          ⟨[113, 114], [], [(127, .ref 1000 (((v161 : Int).toNat) * (eInt .i64).sz + 0))], []⟩,
          ⟨[122, 127], [1000], [], [(1000, .blk 3 (D.flat (x187.map (eInt .i64).d)))]⟩,
          ⟨[115, 117], [], [(128, .ref 1000 (((x179 : Int).toNat) * (eInt .i64).sz + 0))], []⟩,
          ⟨[126, 128], [1000], [], [(1000, .blk 3 (D.flat (x190.map (eInt .i64).d)))]⟩] rfl ?_ (by kernel_rfl) ?_
         ·refine .cons (lop rfl rfl fun S hA => (iop_move rfl rfl (lb rfl) (sv (d := .osl _ _ _) (agr hA rfl rfl)))) ?_
          refine .cons (lop rfl rfl fun S hA => (iop_move rfl rfl (lb rfl) (svaI hA rfl rfl))) ?_
          refine .cons (lop rfl rfl fun S hA => (iop_move rfl rfl (lb rfl) (sv (d := .osl _ _ _) (agr hA rfl rfl)))) ?_
          refine .cons (lop rfl rfl fun S hA => (iop_move rfl rfl (lb rfl) (svaI hA rfl rfl))) ?_
          refine .cons (lop rfl rfl fun S hA => (iop_intx rfl rfl (lb rfl) (svaI hA rfl rfl) (sv (d := .int _ 1) rfl) rfl hx179)) ?_
          refine .cons (lop rfl rfl fun S hA => (iop_move rfl rfl (lb rfl) (sv (d := .osl _ _ _) (agr hA rfl rfl)))) ?_
          refine .cons (lop rfl rfl fun S hA => (iop_move rfl rfl (lb rfl) (svaI hA rfl rfl))) ?_
          refine .cons (lop rfl rfl fun S hA => (iop_intx rfl rfl (lb rfl) (svaI hA rfl rfl) (sv (d := .int _ 1) rfl) rfl hx180)) ?_
          refine .cons (lop rfl rfl fun S hA => (iop_idxO (eInt .i64).toEnc0 rfl rfl (lb rfl) Try.underlying41 ti3 (sv (d := .osl _ _ _) (agr hA rfl rfl)) rfl (svaI hA rfl rfl) hx181)) ?_
          refine .cons (lop rfl rfl fun S hA => (iop_loadEs (eInt .i64).toEnc0 (d := .int _ _) rfl rfl (lb rfl) Try.underlying3 ag3 ti3 (by decide) (svaR hA rfl rfl) (agi hA rfl rfl) hx182 (nle rfl) rfl)) ?_
          refine .cons (lop rfl rfl fun S hA => (iop_move rfl rfl (lb rfl) (sv (d := .osl _ _ _) (agr hA rfl rfl)))) ?_
          refine .cons (lop rfl rfl fun S hA => (iop_move rfl rfl (lb rfl) (svaI hA rfl rfl))) ?_
          refine .cons (lop rfl rfl fun S hA => (iop_idxO (eInt .i64).toEnc0 rfl rfl (lb rfl) Try.underlying41 ti3 (sv (d := .osl _ _ _) (agr hA rfl rfl)) rfl (svaI hA rfl rfl) hx183)) ?_
          refine .cons (lop rfl rfl fun S hA => (iop_loadEs (eInt .i64).toEnc0 (d := .int _ _) rfl rfl (lb rfl) Try.underlying3 ag3 ti3 (by decide) (svaR hA rfl rfl) (agi hA rfl rfl) hx184 (nle rfl) rfl)) ?_
          refine .cons (lop rfl rfl fun S hA => (iop_idxO (eInt .i64).toEnc0 rfl rfl (lb rfl) Try.underlying41 ti3 (sv (d := .osl _ _ _) (agr hA rfl rfl)) rfl (svaI hA rfl rfl) hx185)) ?_
          refine .cons (lop rfl rfl fun S hA => (iop_storeE (eInt .i64).toEnc0 (a' := x182) rfl rfl ti3 (svaR hA rfl rfl) (agi hA rfl rfl) (svaI hA rfl rfl) rfl rfl rfl hx186 (nle rfl) rfl hx187)) ?_
          refine .cons (lop rfl rfl fun S hA => (iop_idxO (eInt .i64).toEnc0 rfl rfl (lb rfl) Try.underlying41 ti3 (sv (d := .osl _ _ _) (agr hA rfl rfl)) (len_set hx187 rfl) (svaI hA rfl rfl) hx188)) ?_
          refine .cons (lop rfl rfl fun S hA => (iop_storeE (eInt .i64).toEnc0 (a' := x184) rfl rfl ti3 (svaR hA rfl rfl) (agi hA rfl rfl) (svaI hA rfl rfl) rfl rfl rfl hx189 (nle rfl) rfl hx190)) ?_
          exact .nil
         refine blockQ_n ?_
         refine thenQ_n ?_
         obtain ⟨x191, hx191, h⟩ := bnd_e h
         refine iwp_region (ils_cons rfl (mvI rfl rfl rfl rfl) <|
          ils_cons rfl (iop_intx rfl rfl (lb rfl) (svI rfl) (sv (d := .int _ 1) rfl) rfl hx191) <|
          ils_cons rfl (asI rfl rfl rfl rfl) <|
          ils_nil ?_)
         refine thenQ_n ⟨(n3, x190, x191), (fun i => i), ⟨(.cons (.same (congrArg (D.osl _ _) (len_set hx190 (len_set hx187 rfl)).symm) rfl) (.sames rfl rfl)), (.cons (EntW.lst rfl) (.cons (.blk rfl rfl rfl) .nil)), nd_of [1000, 1001] rfl (by decide), fun _ _ => rfl⟩, ?_, ?_⟩
         exact h
         exact Nat.lt_succ_self _
        ·
         replace h := bif_f h hc178
         refine iwp_exit ?_
         refine thenQ_e ?_
         refine thenQ_e ?_
         refine blockQ_e ?_
         refine thenQ_n ?_
         refine iwp_ret ?_
         refine thenQ_r ?_
         obtain rfl := Option.some.inj h
         refine ⟨.inr rfl, (fun i => i), ⟨.nil, (.cons (EntW.lst rfl) (.cons (.blk rfl rfl rfl) .nil)), nd_of [1000, 1001] rfl (by decide), fun _ _ => rfl⟩, .nil, rfl⟩
  ·
   replace h := bif_f h hc100
   refine iwp_skip ?_
   refine thenQ_n ?_
   obtain ⟨x192, hx192, h⟩ := bnd_e h
   obtain ⟨x193, hx193, h⟩ := bnd_e h
   obtain ⟨x194, hx194, h⟩ := bno_e h
   obtain ⟨x195, hx195, h⟩ := bnd_e h
   refine iwp_reg (ils_cons rfl (mvI rfl rfl rfl rfl) <|
    ils_cons rfl (mvI rfl rfl rfl rfl) <|
    ils_cons rfl (iop_intx rfl rfl (lb rfl) (svI rfl) (svI rfl) rfl hx192) <|
    ils_cons rfl (iop_int_conv rfl rfl (lb rfl) ⟨_, Try.underlying3⟩ Try.underlying110 (svI rfl) hx193) <|
    ils_cons rfl (iop_shrx rfl rfl (lb rfl) (svI rfl) (sv (d := .int _ 1) rfl) hx194) <|
    ils_cons rfl (iop_int_conv rfl rfl (lb rfl) ⟨_, Try.underlying110⟩ Try.underlying3 (svI rfl) hx195) <|
    ils_cons rfl (asI rfl rfl rfl rfl) <|
    ils_end ?_)
   obtain ⟨x196, hx196, h⟩ := bnd_e h
   refine iwp_reg (ils_cons rfl (mvI rfl rfl rfl rfl) <|
    ils_cons rfl (mvI rfl rfl rfl rfl) <|
    ils_cons rfl (iop_intx rfl rfl (lb rfl) (svI rfl) (svI rfl) rfl hx196) <|
    ils_cons rfl (asI rfl rfl rfl rfl) <|
    ils_end ?_)
   refine iwp_reg (ils_cons rfl (iop_assign rfl rfl (lb rfl) (sv (d := .int _ 0) rfl)) <|
    ils_cons rfl (iop_assign rfl rfl (lb rfl) (sv (d := .int _ 0) rfl)) <|
    ils_end ?_)
   refine iwp_join (α := Int × Int) (fun z => ⟨[(0, .osl 1000 (eInt .i64).sz a3.length), (1, .int .i64 a0), (2, .int .i64 a1), (3, .int .i64 a2), (4, .fn 78 [.ref 1001 0]), (18, .int .i64 x195), (19, .int .i64 x196), (20, .int .i64 z.1), (21, .int .i64 z.2)], [(1000, .blk 3 (D.flat (a3.map (eInt .i64).d))), (1001, .blk 60 [.slice false (a4.map (eFlt .f64).d)])]⟩) (fun z => slices_symMergeCmpFunc_int_h_Order_1_J4 (slices_symMergeCmpFunc_int_h_Order_1 nr) a0 a1 a2 a3 a4 x195 x196 z.1 z.2 = some r) ?_ ?_
   ·
    obtain ⟨x283, hx283, h⟩ := bnd_e h
    refine iwp_reg (ils_cons rfl (mvI rfl rfl rfl rfl) <|
     ils_cons rfl (mvI rfl rfl rfl rfl) <|
     ils_cons rfl (iop_cmpx rfl rfl (lb rfl) (svI rfl) (svI rfl) rfl hx283) <|
     ils_end ?_)
    refine iwp_cond (b := _) rfl (fun hc284 => ?_) (fun hc284 => ?_)
    ·
     replace h := bif_t h hc284
     obtain ⟨x285, hx285, h⟩ := bnd_e h
     refine iwp_reg (ils_cons rfl (mvI rfl rfl rfl rfl) <|
      ils_cons rfl (mvI rfl rfl rfl rfl) <|
      ils_cons rfl (iop_intx rfl rfl (lb rfl) (svI rfl) (svI rfl) rfl hx285) <|
      ils_cons rfl (asI rfl rfl rfl rfl) <|
      ils_end ?_)
     refine iwp_region (ils_cons rfl (mvI rfl rfl rfl rfl) <|
      ils_cons rfl (asI rfl rfl rfl rfl) <|
      ils_nil ?_)
     refine thenQ_n ⟨(x285, x195), (fun i => i), ⟨(.sames rfl rfl), (.cons (EntW.lst rfl) (.cons (.blk rfl rfl rfl) .nil)), nd_of [1000, 1001] rfl (by decide), fun _ _ => rfl⟩, ?_⟩
     exact h
    ·
     replace h := bif_f h hc284
     refine iwp_reg (ils_cons rfl (mvI rfl rfl rfl rfl) <|
      ils_cons rfl (asI rfl rfl rfl rfl) <|
      ils_end ?_)
     refine iwp_region (ils_cons rfl (mvI rfl rfl rfl rfl) <|
      ils_cons rfl (asI rfl rfl rfl rfl) <|
      ils_nil ?_)
     refine thenQ_n ⟨(a0, a1), (fun i => i), ⟨(.sames rfl rfl), (.cons (EntW.lst rfl) (.cons (.blk rfl rfl rfl) .nil)), nd_of [1000, 1001] rfl (by decide), fun _ _ => rfl⟩, ?_⟩
     exact h
   ·
    rintro ⟨v200, v201⟩ h
    unfold slices_symMergeCmpFunc_int_h_Order_1_J4 at h
    obtain ⟨x202, hx202, h⟩ := bnd_e h
    refine iwp_reg (ils_cons rfl (mvI rfl rfl rfl rfl) <|
     ils_cons rfl (iop_intx rfl rfl (lb rfl) (svI rfl) (sv (d := .int _ 1) rfl) rfl hx202) <|
     ils_cons rfl (asI rfl rfl rfl rfl) <|
     ils_end ?_)
    refine iwp_seq ?_
    refine iwp_block ?_
    refine iwp_loopP (α := Nat × Int × Int) (fun z => ⟨[(0, .osl 1000 (eInt .i64).sz a3.length), (1, .int .i64 a0), (2, .int .i64 a1), (3, .int .i64 a2), (4, .fn 78 [.ref 1001 0]), (18, .int .i64 x195), (19, .int .i64 x196), (20, .int .i64 z.2.1), (21, .int .i64 z.2.2), (22, .int .i64 x202)], [(1000, .blk 3 (D.flat (a3.map (eInt .i64).d))), (1001, .blk 60 [.slice false (a4.map (eFlt .f64).d)])]⟩) (fun z => slices_symMergeCmpFunc_int_h_Order_1_L5 (slices_symMergeCmpFunc_int_h_Order_1 nr) a0 a1 a2 a3 a4 x195 x196 x202 z.1 z.2.1 z.2.2 = some r) (fun z => z.1) (fuel, v200, v201) (fun i => i) ⟨(.sames rfl rfl), (.cons (EntW.lst rfl) (.cons (.blk rfl rfl rfl) .nil)), nd_of [1000, 1001] rfl (by decide), fun _ _ => rfl⟩ ?_ ?_
    ·exact h
    ·
     rintro ⟨n5, v218, v219⟩ h
     cases n5 with
     | zero => exact absurd h (by unfold slices_symMergeCmpFunc_int_h_Order_1_L5; exact nofun)
     | succ n5 =>
      unfold slices_symMergeCmpFunc_int_h_Order_1_L5 at h
      refine iwp_seq ?_
      obtain ⟨x235, hx235, h⟩ := bnd_e h
      refine iwp_reg (ils_cons rfl (mvI rfl rfl rfl rfl) <|
       ils_cons rfl (mvI rfl rfl rfl rfl) <|
       ils_cons rfl (iop_cmpx rfl rfl (lb rfl) (svI rfl) (svI rfl) rfl hx235) <|
       ils_end ?_)
      refine iwp_cond (b := _) rfl (fun hc236 => ?_) (fun hc236 => ?_)
      ·
       replace h := bif_t h hc236
       refine iwp_skip ?_
       refine thenQ_n ?_
       refine iwp_block ?_
       obtain ⟨x237, hx237, h⟩ := bnd_e h
       obtain ⟨x238, hx238, h⟩ := bnd_e h
       obtain ⟨x239, hx239, h⟩ := bno_e h
       obtain ⟨x240, hx240, h⟩ := bnd_e h
       refine iwp_reg (ils_cons rfl (mvI rfl rfl rfl rfl) <|
        ils_cons rfl (mvI rfl rfl rfl rfl) <|
        ils_cons rfl (iop_intx rfl rfl (lb rfl) (svI rfl) (svI rfl) rfl hx237) <|
        ils_cons rfl (iop_int_conv rfl rfl (lb rfl) ⟨_, Try.underlying3⟩ Try.underlying110 (svI rfl) hx238) <|
        ils_cons rfl (iop_shrx rfl rfl (lb rfl) (svI rfl) (sv (d := .int _ 1) rfl) hx239) <|
        ils_cons rfl (iop_int_conv rfl rfl (lb rfl) ⟨_, Try.underlying110⟩ Try.underlying3 (svI rfl) hx240) <|
        ils_cons rfl (asI rfl rfl rfl rfl) <|
        ils_end ?_)
       obtain ⟨x241, hx241, h⟩ := bnd_e h
       obtain ⟨x242, hx242, h⟩ := bno_e h
       obtain ⟨x243, hx243, h⟩ := bno_e h
       obtain ⟨x244, hx244, h⟩ := bno_e h
       obtain ⟨x245, hx245, h⟩ := bno_e h
       obtain ⟨x246, hx246, h⟩ := bno_e h
       obtain ⟨x247, hx247, h⟩ := bnd_e h
       refine iwp_drw rfl [⟨[4], [], [(158, .fn 78 [.ref 1001 0])], []⟩,
        ⟨[0], [], [(159, .osl 1000 (eInt .i64).sz a3.length)], []⟩,
        ⟨[22], [], [(160, .int .i64 x202)], []⟩,
        ⟨[23], [], [(161, .int .i64 x240)], []⟩,
        ⟨[160, 161], [], [(162, .int .i64 x241)], []⟩,
        ⟨[159, 162], [], [(163, .ref 1000 (((x241 : Int).toNat) * (eInt .i64).sz + 0))], []⟩,
        ⟨[163], [1000], [(164, .int .i64 x243)], []⟩,
        ⟨[0], [], [(165, .osl 1000 (eInt .i64).sz a3.length)], []⟩,
        ⟨[23], [], [(166, .int .i64 x240)], []⟩,
        ⟨[165, 166], [], [(167, .ref 1000 (((x240 : Int).toNat) * (eInt .i64).sz + 0))], []⟩,
        ⟨[167], [1000], [(168, .int .i64 x245)], []⟩,
        ⟨[158, 164, 168], [1001], [(169, .int .i64 x246)], []⟩,
        ⟨[169], [], [(170, .bool x247)], []⟩,
        ⟨[170], [], [(171, .bool (!x247))], []⟩] rfl ?_ (by kernel_rfl) ?_
       ·refine .cons (lop rfl rfl fun S hA => (iop_move rfl rfl (lb rfl) (sv (d := .fn 78 [.ref _ _]) (agr hA rfl rfl)))) ?_
        refine .cons (lop rfl rfl fun S hA => (iop_move rfl rfl (lb rfl) (sv (d := .osl _ _ _) (agr hA rfl rfl)))) ?_
        refine .cons (lop rfl rfl fun S hA => (iop_move rfl rfl (lb rfl) (svaI hA rfl rfl))) ?_
        refine .cons (lop rfl rfl fun S hA => (iop_move rfl rfl (lb rfl) (svaI hA rfl rfl))) ?_
        refine .cons (lop rfl rfl fun S hA => (iop_intx rfl rfl (lb rfl) (svaI hA rfl rfl) (svaI hA rfl rfl) rfl hx241)) ?_
        refine .cons (lop rfl rfl fun S hA => (iop_idxO (eInt .i64).toEnc0 rfl rfl (lb rfl) Try.underlying41 ti3 (sv (d := .osl _ _ _) (agr hA rfl rfl)) rfl (svaI hA rfl rfl) hx242)) ?_
        refine .cons (lop rfl rfl fun S hA => (iop_loadEs (eInt .i64).toEnc0 (d := .int _ _) rfl rfl (lb rfl) Try.underlying3 ag3 ti3 (by decide) (svaR hA rfl rfl) (agi hA rfl rfl) hx243 (nle rfl) rfl)) ?_
        refine .cons (lop rfl rfl fun S hA => (iop_move rfl rfl (lb rfl) (sv (d := .osl _ _ _) (agr hA rfl rfl)))) ?_
        refine .cons (lop rfl rfl fun S hA => (iop_move rfl rfl (lb rfl) (svaI hA rfl rfl))) ?_
        refine .cons (lop rfl rfl fun S hA => (iop_idxO (eInt .i64).toEnc0 rfl rfl (lb rfl) Try.underlying41 ti3 (sv (d := .osl _ _ _) (agr hA rfl rfl)) rfl (svaI hA rfl rfl) hx244)) ?_
        refine .cons (lop rfl rfl fun S hA => (iop_loadEs (eInt .i64).toEnc0 (d := .int _ _) rfl rfl (lb rfl) Try.underlying3 ag3 ti3 (by decide) (svaR hA rfl rfl) (agi hA rfl rfl) hx245 (nle rfl) rfl)) ?_
        refine .cons (lop rfl rfl fun S hA => (iop_callvp (r := .int .i64 x246) rfl rfl (lb rfl) cl78 (sv (d := .fn 78 [.ref _ _]) (agr hA rfl rfl)) (.cons (svaI hA rfl rfl) (.cons (svaI hA rfl rfl) .nil)) (.k (.k (.cons (.ref (agi hA rfl rfl) rfl (fdl_refl _) rfl) .nil))) rfl rfl (p_gauge_Order_1 _ _ _ _ hx246))) ?_
        refine .cons (lop rfl rfl fun S hA => (iop_cmpx rfl rfl (lb rfl) (svaI hA rfl rfl) (sv (d := .int _ 0) rfl) rfl hx247)) ?_
        refine .cons (lop rfl rfl fun S hA => (iop_not rfl rfl (lb rfl) (svaB hA rfl rfl))) ?_
        exact .nil
       refine iwp_cond (b := _) rfl (fun hc248 => ?_) (fun hc248 => ?_)
       ·
        replace h := bif_t h hc248
        obtain ⟨x249, hx249, h⟩ := bnd_e h
        refine iwp_region (ils_cons rfl (mvI rfl rfl rfl rfl) <|
         ils_cons rfl (iop_intx rfl rfl (lb rfl) (svI rfl) (sv (d := .int _ 1) rfl) rfl hx249) <|
         ils_cons rfl (asI rfl rfl rfl rfl) <|
         ils_nil ?_)
        refine blockQ_n ?_
        refine thenQ_n ⟨(n5, x249, v219), (fun i => i), ⟨(.sames rfl rfl), (.cons (EntW.lst rfl) (.cons (.blk rfl rfl rfl) .nil)), nd_of [1000, 1001] rfl (by decide), fun _ _ => rfl⟩, ?_, ?_⟩
        exact h
        exact Nat.lt_succ_self _
       ·
        replace h := bif_f h hc248
        refine iwp_region (ils_cons rfl (mvI rfl rfl rfl rfl) <|
         ils_cons rfl (asI rfl rfl rfl rfl) <|
         ils_nil ?_)
        refine blockQ_n ?_
        refine thenQ_n ⟨(n5, v218, x240), (fun i => i), ⟨(.sames rfl rfl), (.cons (EntW.lst rfl) (.cons (.blk rfl rfl rfl) .nil)), nd_of [1000, 1001] rfl (by decide), fun _ _ => rfl⟩, ?_, ?_⟩
        exact h
        exact Nat.lt_succ_self _
      ·
       replace h := bif_f h hc236
       refine iwp_exit ?_
       refine thenQ_e ?_
       refine thenQ_e ?_
       refine blockQ_e ?_
       refine thenQ_n ?_
       obtain ⟨x250, hx250, h⟩ := bnd_e h
       refine iwp_reg (ils_cons rfl (mvI rfl rfl rfl rfl) <|
        ils_cons rfl (mvI rfl rfl rfl rfl) <|
        ils_cons rfl (iop_intx rfl rfl (lb rfl) (svI rfl) (svI rfl) rfl hx250) <|
        ils_cons rfl (asI rfl rfl rfl rfl) <|
        ils_end ?_)
       refine iwp_join (α := (List Int)) (fun z => ⟨[(0, .osl 1000 (eInt .i64).sz z.length), (1, .int .i64 a0), (3, .int .i64 a2), (4, .fn 78 [.ref 1001 0]), (18, .int .i64 x195), (20, .int .i64 v218), (24, .int .i64 x250)], [(1000, .blk 3 (D.flat (z.map (eInt .i64).d))), (1001, .blk 60 [.slice false (a4.map (eFlt .f64).d)])]⟩) (fun z => slices_symMergeCmpFunc_int_h_Order_1_J6 (slices_symMergeCmpFunc_int_h_Order_1 nr) a0 a2 a4 x195 v218 x250 z = some r) ?_ ?_
       ·
        obtain ⟨x277, hx277, h⟩ := bnd_e h
        obtain ⟨x278, hx278, h⟩ := bnd_e h
        obtain ⟨x279, hx279, h⟩ := bnd_e h
        refine iwp_reg (ils_cons rfl (mvI rfl rfl rfl rfl) <|
         ils_cons rfl (mvI rfl rfl rfl rfl) <|
         ils_cons rfl (iop_cmpx rfl rfl (lb rfl) (svI rfl) (svI rfl) rfl hx277) <|
         ils_cons rfl (mvB rfl rfl rfl rfl) <|
         ils_guard rfl rfl (.one rfl) rfl (by decide) (fun hb => (mvI rfl rfl rfl rfl)) <|
         ils_guard rfl rfl (.one rfl) rfl (by decide) (fun hb => (mvI rfl rfl rfl rfl)) <|
         ils_guard rfl rfl (.one rfl) rfl (by decide) (fun hb => (iop_cmpx rfl rfl (lb rfl) (svcI rfl hb) (svcI rfl hb) rfl hx278)) <|
         ils_cons rfl (iop_andx rfl rfl (lb rfl) (svB rfl) rfl rfl hx279) <|
         ils_end ?_)
        refine iwp_cond (b := _) rfl (fun hc280 => ?_) (fun hc280 => ?_)
        ·
         replace h := bif_t h hc280
         obtain ⟨x281, hx281, h⟩ := bno_e h
         obtain ⟨hk282, h⟩ := chk_e h
         refine iwp_region (ils_cons rfl (iop_move rfl rfl (lb rfl) (sv (d := .osl _ _ _) rfl)) <|
          ils_cons rfl (mvI rfl rfl rfl rfl) <|
          ils_cons rfl (mvI rfl rfl rfl rfl) <|
          ils_cons rfl (mvI rfl rfl rfl rfl) <|
          ils_cons rfl (iop_move rfl rfl (lb rfl) (sv (d := .fn 78 [.ref _ _]) rfl)) <|
          ils_cons rfl (iop_callh2 (r' := .tuple []) (H1' := [(1000, .blk 3 (D.flat (x281.map (eInt .i64).d))), (1001, .blk 60 [.slice false (a4.map (eFlt .f64).d)])]) 0 [1000, 1001] rfl rfl (lb rfl) cl83 (.cons (sv (d := .osl _ _ _) rfl) (.cons (svI rfl) (.cons (svI rfl) (.cons (svI rfl) (.cons (sv (d := .fn 78 [.ref _ _]) rfl) .nil))))) rfl rfl ⟨rfl, rfl, by decide, rfl, List.forall_mem_cons.2 ⟨⟨rfl, rfl, (handL (eInt .i64) rfl), (handLr (eInt .i64))⟩, List.forall_mem_cons.2 ⟨⟨rfl, rfl, rfl, rfl⟩, List.forall_mem_nil _⟩⟩⟩ (p_slices_rotateCmpFunc_int_h_Order_1 _ _ _ _ _ _ hx281) rfl rfl (List.forall_mem_cons.2 ⟨⟨rfl, (handLr (eInt .i64))⟩, List.forall_mem_cons.2 ⟨⟨rfl, rfl⟩, List.forall_mem_nil _⟩⟩) (by simp only [List.map_cons, List.map_nil, Ent.ren, renL_flat, renL_ref]; rfl)) <|
          ils_nil ?_)
         refine thenQ_n ⟨x281, (fun i => i), ⟨(.cons (.same (congrArg (D.osl _ _) hk282.symm) rfl) (.sames rfl rfl)), (.cons (EntW.lst rfl) (.cons (.blk rfl rfl rfl) .nil)), nd_of [1000, 1001] rfl (by decide), fun _ _ => rfl⟩, ?_⟩
         exact h
        ·
         replace h := bif_f h hc280
         refine iwp_skip ?_
         refine thenQ_n ⟨a3, (fun i => i), ⟨(.sames rfl rfl), (.cons (EntW.lst rfl) (.cons (.blk rfl rfl rfl) .nil)), nd_of [1000, 1001] rfl (by decide), fun _ _ => rfl⟩, ?_⟩
         exact h
       ·
        rintro v257 h
        unfold slices_symMergeCmpFunc_int_h_Order_1_J6 at h
        refine iwp_join (α := (List Int)) (fun z => ⟨[(0, .osl 1000 (eInt .i64).sz z.length), (3, .int .i64 a2), (4, .fn 78 [.ref 1001 0]), (18, .int .i64 x195), (24, .int .i64 x250)], [(1000, .blk 3 (D.flat (z.map (eInt .i64).d))), (1001, .blk 60 [.slice false (a4.map (eFlt .f64).d)])]⟩) (fun z => slices_symMergeCmpFunc_int_h_Order_1_J7 (slices_symMergeCmpFunc_int_h_Order_1 nr) a2 a4 x195 x250 z = some r) ?_ ?_
        ·
         obtain ⟨x271, hx271, h⟩ := bnd_e h
         obtain ⟨x272, hx272, h⟩ := bnd_e h
         obtain ⟨x273, hx273, h⟩ := bnd_e h
         refine iwp_reg (ils_cons rfl (mvI rfl rfl rfl rfl) <|
          ils_cons rfl (mvI rfl rfl rfl rfl) <|
          ils_cons rfl (iop_cmpx rfl rfl (lb rfl) (svI rfl) (svI rfl) rfl hx271) <|
          ils_cons rfl (mvB rfl rfl rfl rfl) <|
          ils_guard rfl rfl (.one rfl) rfl (by decide) (fun hb => (mvI rfl rfl rfl rfl)) <|
          ils_guard rfl rfl (.one rfl) rfl (by decide) (fun hb => (mvI rfl rfl rfl rfl)) <|
          ils_guard rfl rfl (.one rfl) rfl (by decide) (fun hb => (iop_cmpx rfl rfl (lb rfl) (svcI rfl hb) (svcI rfl hb) rfl hx272)) <|
          ils_cons rfl (iop_andx rfl rfl (lb rfl) (svB rfl) rfl rfl hx273) <|
          ils_end ?_)
         refine iwp_cond (b := _) rfl (fun hc274 => ?_) (fun hc274 => ?_)
         ·
          replace h := bif_t h hc274
          obtain ⟨x275, hx275, h⟩ := bno_e h
          obtain ⟨hk276, h⟩ := chk_e h
          refine iwp_region (ils_cons rfl (iop_move rfl rfl (lb rfl) (sv (d := .osl _ _ _) rfl)) <|
           ils_cons rfl (mvI rfl rfl rfl rfl) <|
           ils_cons rfl (mvI rfl rfl rfl rfl) <|
           ils_cons rfl (mvI rfl rfl rfl rfl) <|
           ils_cons rfl (iop_move rfl rfl (lb rfl) (sv (d := .fn 78 [.ref _ _]) rfl)) <|
           ils_cons rfl (iop_callh2 (r' := .tuple []) (H1' := [(1000, .blk 3 (D.flat (x275.map (eInt .i64).d))), (1001, .blk 60 [.slice false (a4.map (eFlt .f64).d)])]) 0 [1000, 1001] rfl rfl (lb rfl) cl82 (.cons (sv (d := .osl _ _ _) rfl) (.cons (svI rfl) (.cons (svI rfl) (.cons (svI rfl) (.cons (sv (d := .fn 78 [.ref _ _]) rfl) .nil))))) rfl rfl ⟨rfl, rfl, by decide, rfl, List.forall_mem_cons.2 ⟨⟨rfl, rfl, (handL (eInt .i64) rfl), (handLr (eInt .i64))⟩, List.forall_mem_cons.2 ⟨⟨rfl, rfl, rfl, rfl⟩, List.forall_mem_nil _⟩⟩⟩ (ih _ _ _ _ _ _ hx275) rfl rfl (List.forall_mem_cons.2 ⟨⟨rfl, (handLr (eInt .i64))⟩, List.forall_mem_cons.2 ⟨⟨rfl, rfl⟩, List.forall_mem_nil _⟩⟩) (by simp only [List.map_cons, List.map_nil, Ent.ren, renL_flat, renL_ref]; rfl)) <|
           ils_nil ?_)
          refine thenQ_n ⟨x275, (fun i => i), ⟨(.cons (.same (congrArg (D.osl _ _) hk276.symm) rfl) (.sames rfl rfl)), (.cons (EntW.lst rfl) (.cons (.blk rfl rfl rfl) .nil)), nd_of [1000, 1001] rfl (by decide), fun _ _ => rfl⟩, ?_⟩
          exact h
         ·
          replace h := bif_f h hc274
          refine iwp_skip ?_
          refine thenQ_n ⟨v257, (fun i => i), ⟨(.sames rfl rfl), (.cons (EntW.lst rfl) (.cons (.blk rfl rfl rfl) .nil)), nd_of [1000, 1001] rfl (by decide), fun _ _ => rfl⟩, ?_⟩
          exact h
        ·
         rintro v264 h
         unfold slices_symMergeCmpFunc_int_h_Order_1_J7 at h
         obtain ⟨x265, hx265, h⟩ := bnd_e h
         obtain ⟨x266, hx266, h⟩ := bnd_e h
         obtain ⟨x267, hx267, h⟩ := bnd_e h
         refine iwp_reg (ils_cons rfl (mvI rfl rfl rfl rfl) <|
          ils_cons rfl (mvI rfl rfl rfl rfl) <|
          ils_cons rfl (iop_cmpx rfl rfl (lb rfl) (svI rfl) (svI rfl) rfl hx265) <|
          ils_cons rfl (mvB rfl rfl rfl rfl) <|
          ils_guard rfl rfl (.one rfl) rfl (by decide) (fun hb => (mvI rfl rfl rfl rfl)) <|
          ils_guard rfl rfl (.one rfl) rfl (by decide) (fun hb => (mvI rfl rfl rfl rfl)) <|
          ils_guard rfl rfl (.one rfl) rfl (by decide) (fun hb => (iop_cmpx rfl rfl (lb rfl) (svcI rfl hb) (svcI rfl hb) rfl hx266)) <|
          ils_cons rfl (iop_andx rfl rfl (lb rfl) (svB rfl) rfl rfl hx267) <|
          ils_end ?_)
         refine iwp_cond (b := _) rfl (fun hc268 => ?_) (fun hc268 => ?_)
         ·
          replace h := bif_t h hc268
          obtain ⟨x269, hx269, h⟩ := bno_e h
          obtain ⟨hk270, h⟩ := chk_e h
          refine iwp_region (ils_cons rfl (iop_move rfl rfl (lb rfl) (sv (d := .osl _ _ _) rfl)) <|
           ils_cons rfl (mvI rfl rfl rfl rfl) <|
           ils_cons rfl (mvI rfl rfl rfl rfl) <|
           ils_cons rfl (mvI rfl rfl rfl rfl) <|
           ils_cons rfl (iop_move rfl rfl (lb rfl) (sv (d := .fn 78 [.ref _ _]) rfl)) <|
           ils_cons rfl (iop_callh2 (r' := .tuple []) (H1' := [(1000, .blk 3 (D.flat (x269.map (eInt .i64).d))), (1001, .blk 60 [.slice false (a4.map (eFlt .f64).d)])]) 0 [1000, 1001] rfl rfl (lb rfl) cl82 (.cons (sv (d := .osl _ _ _) rfl) (.cons (svI rfl) (.cons (svI rfl) (.cons (svI rfl) (.cons (sv (d := .fn 78 [.ref _ _]) rfl) .nil))))) rfl rfl ⟨rfl, rfl, by decide, rfl, List.forall_mem_cons.2 ⟨⟨rfl, rfl, (handL (eInt .i64) rfl), (handLr (eInt .i64))⟩, List.forall_mem_cons.2 ⟨⟨rfl, rfl, rfl, rfl⟩, List.forall_mem_nil _⟩⟩⟩ (ih _ _ _ _ _ _ hx269) rfl rfl (List.forall_mem_cons.2 ⟨⟨rfl, (handLr (eInt .i64))⟩, List.forall_mem_cons.2 ⟨⟨rfl, rfl⟩, List.forall_mem_nil _⟩⟩) (by simp only [List.map_cons, List.map_nil, Ent.ren, renL_flat, renL_ref]; rfl)) <|
           ils_nil ?_)
          obtain rfl := Option.some.inj h
          refine ⟨.inl rfl, (fun i => i), ⟨.nil, (.cons (EntW.lst rfl) (.cons (.blk rfl rfl rfl) .nil)), nd_of [1000, 1001] rfl (by decide), fun _ _ => rfl⟩, .nil, rfl⟩
         ·
          replace h := bif_f h hc268
          refine iwp_skip ?_
          obtain rfl := Option.some.inj h
          refine ⟨.inl rfl, (fun i => i), ⟨.nil, (.cons (EntW.lst rfl) (.cons (.blk rfl rfl rfl) .nil)), nd_of [1000, 1001] rfl (by decide), fun _ _ => rfl⟩, .nil, rfl⟩

theorem p_slices_stableCmpFunc_int_h_Order_1 (a0 : Int) (a1 : (List Int)) (a2 : (List Nat)) (r : (List Int)) (h : slices_stableCmpFunc_int_h_Order_1 a0 a1 a2 = some r) : FnH Try.prog 80 [.osl 1000 (eInt .i64).sz a1.length, .int .i64 a0, .fn 78 [.ref 1001 0]] [(1000, .blk 3 (D.flat (a1.map (eInt .i64).d))), (1001, .blk 60 [.slice false (a2.map (eFlt .f64).d)])] (retD []) [(1000, .blk 3 (D.flat (r.map (eInt .i64).d))), (1001, .blk 60 [.slice false (a2.map (eFlt .f64).d)])] := by
 refine fnh_of_iwp (rs := []) Try.func80 rfl Try.ntmps80 (nle rfl) fun O hO => ?_
 show IWP _ _ _ _ ⟨[(0, .osl 1000 (eInt .i64).sz a1.length), (1, .int .i64 a0), (2, .fn 78 [.ref 1001 0])], [(1000, .blk 3 (D.flat (a1.map (eInt .i64).d))), (1001, .blk 60 [.slice false (a2.map (eFlt .f64).d)])]⟩ _
 unfold slices_stableCmpFunc_int_h_Order_1 at h
 refine iwp_reg (ils_cons rfl (iop_assign rfl rfl (lb rfl) (sv (d := .int _ 20) rfl)) <|
  ils_end ?_)
 refine iwp_reg (ils_cons rfl (mvI rfl rfl rfl rfl) <|
  ils_cons rfl (iop_assign rfl rfl (lb rfl) (sv (d := .int _ 0) rfl)) <|
  ils_cons rfl (asI rfl rfl rfl rfl) <|
  ils_end ?_)
 refine iwp_seq ?_
 refine iwp_block ?_
 refine iwp_loopP (α := Nat × (List Int) × Int × Int) (fun z => ⟨[(0, .osl 1000 (eInt .i64).sz z.2.1.length), (1, .int .i64 a0), (2, .fn 78 [.ref 1001 0]), (6, .int .i64 20), (7, .int .i64 z.2.2.1), (8, .int .i64 z.2.2.2)], [(1000, .blk 3 (D.flat (z.2.1.map (eInt .i64).d))), (1001, .blk 60 [.slice false (a2.map (eFlt .f64).d)])]⟩) (fun z => slices_stableCmpFunc_int_h_Order_1_L0 a0 a2 z.1 z.2.1 z.2.2.1 z.2.2.2 = some r) (fun z => z.1) (fuel, a1, 0, 20) (fun i => i) ⟨(.sames rfl rfl), (.cons (EntW.lst rfl) (.cons (.blk rfl rfl rfl) .nil)), nd_of [1000, 1001] rfl (by decide), fun _ _ => rfl⟩ ?_ ?_
 ·exact h
 ·
  rintro ⟨n0, v6, v7, v8⟩ h
  cases n0 with
  | zero => exact absurd h (by unfold slices_stableCmpFunc_int_h_Order_1_L0; exact nofun)
  | succ n0 =>
   unfold slices_stableCmpFunc_int_h_Order_1_L0 at h
   refine iwp_seq ?_
   obtain ⟨x14, hx14, h⟩ := bnd_e h
   refine iwp_reg (ils_cons rfl (mvI rfl rfl rfl rfl) <|
    ils_cons rfl (mvI rfl rfl rfl rfl) <|
    ils_cons rfl (iop_cmpx rfl rfl (lb rfl) (svI rfl) (svI rfl) rfl hx14) <|
    ils_end ?_)
   refine iwp_cond (b := _) rfl (fun hc15 => ?_) (fun hc15 => ?_)
   ·
    replace h := bif_t h hc15
    refine iwp_skip ?_
    refine thenQ_n ?_
    refine iwp_block ?_
    obtain ⟨x16, hx16, h⟩ := bno_e h
    obtain ⟨hk17, h⟩ := chk_e h
    refine iwp_reg (ils_cons rfl (iop_move rfl rfl (lb rfl) (sv (d := .osl _ _ _) rfl)) <|
     ils_cons rfl (mvI rfl rfl rfl rfl) <|
     ils_cons rfl (mvI rfl rfl rfl rfl) <|
     ils_cons rfl (iop_move rfl rfl (lb rfl) (sv (d := .fn 78 [.ref _ _]) rfl)) <|
     ils_cons rfl (iop_callh2 (r' := .tuple []) (H1' := [(1000, .blk 3 (D.flat (x16.map (eInt .i64).d))), (1001, .blk 60 [.slice false (a2.map (eFlt .f64).d)])]) 0 [1000, 1001] rfl rfl (lb rfl) cl81 (.cons (sv (d := .osl _ _ _) rfl) (.cons (svI rfl) (.cons (svI rfl) (.cons (sv (d := .fn 78 [.ref _ _]) rfl) .nil)))) rfl rfl ⟨rfl, rfl, by decide, rfl, List.forall_mem_cons.2 ⟨⟨rfl, rfl, (handL (eInt .i64) rfl), (handLr (eInt .i64))⟩, List.forall_mem_cons.2 ⟨⟨rfl, rfl, rfl, rfl⟩, List.forall_mem_nil _⟩⟩⟩ (p_slices_insertionSortCmpFunc_int_h_Order_1 _ _ _ _ _ hx16) rfl rfl (List.forall_mem_cons.2 ⟨⟨rfl, (handLr (eInt .i64))⟩, List.forall_mem_cons.2 ⟨⟨rfl, rfl⟩, List.forall_mem_nil _⟩⟩) (by simp only [List.map_cons, List.map_nil, Ent.ren, renL_flat, renL_ref]; rfl)) <|
     ils_end ?_)
    refine iwp_reg (ils_cons rfl (mvI rfl rfl rfl rfl) <|
     ils_cons rfl (asI rfl rfl rfl rfl) <|
     ils_end ?_)
    obtain ⟨x18, hx18, h⟩ := bnd_e h
    refine iwp_region (ils_cons rfl (mvI rfl rfl rfl rfl) <|
     ils_cons rfl (mvI rfl rfl rfl rfl) <|
     ils_cons rfl (iop_intx rfl rfl (lb rfl) (svI rfl) (svI rfl) rfl hx18) <|
     ils_cons rfl (asI rfl rfl rfl rfl) <|
     ils_nil ?_)
    refine blockQ_n ?_
    refine thenQ_n ⟨(n0, x16, v8, x18), (fun i => i), ⟨(.cons (.same (congrArg (D.osl _ _) hk17.symm) rfl) (.sames rfl rfl)), (.cons (EntW.lst rfl) (.cons (.blk rfl rfl rfl) .nil)), nd_of [1000, 1001] rfl (by decide), fun _ _ => rfl⟩, ?_, ?_⟩
    exact h
    exact Nat.lt_succ_self _
   ·
    replace h := bif_f h hc15
    refine iwp_exit ?_
    refine thenQ_e ?_
    refine thenQ_e ?_
    refine blockQ_e ?_
    refine thenQ_n ?_
    obtain ⟨x19, hx19, h⟩ := bno_e h
    obtain ⟨hk20, h⟩ := chk_e h
    refine iwp_reg (ils_cons rfl (iop_move rfl rfl (lb rfl) (sv (d := .osl _ _ _) rfl)) <|
     ils_cons rfl (mvI rfl rfl rfl rfl) <|
     ils_cons rfl (mvI rfl rfl rfl rfl) <|
     ils_cons rfl (iop_move rfl rfl (lb rfl) (sv (d := .fn 78 [.ref _ _]) rfl)) <|
     ils_cons rfl (iop_callh2 (r' := .tuple []) (H1' := [(1000, .blk 3 (D.flat (x19.map (eInt .i64).d))), (1001, .blk 60 [.slice false (a2.map (eFlt .f64).d)])]) 0 [1000, 1001] rfl rfl (lb rfl) cl81 (.cons (sv (d := .osl _ _ _) rfl) (.cons (svI rfl) (.cons (svI rfl) (.cons (sv (d := .fn 78 [.ref _ _]) rfl) .nil)))) rfl rfl ⟨rfl, rfl, by decide, rfl, List.forall_mem_cons.2 ⟨⟨rfl, rfl, (handL (eInt .i64) rfl), (handLr (eInt .i64))⟩, List.forall_mem_cons.2 ⟨⟨rfl, rfl, rfl, rfl⟩, List.forall_mem_nil _⟩⟩⟩ (p_slices_insertionSortCmpFunc_int_h_Order_1 _ _ _ _ _ hx19) rfl rfl (List.forall_mem_cons.2 ⟨⟨rfl, (handLr (eInt .i64))⟩, List.forall_mem_cons.2 ⟨⟨rfl, rfl⟩, List.forall_mem_nil _⟩⟩) (by simp only [List.map_cons, List.map_nil, Ent.ren, renL_flat, renL_ref]; rfl)) <|
     ils_end ?_)
    refine iwp_block ?_
    refine iwp_loopP (α := Nat × (List Int) × Int) (fun z => ⟨[(0, .osl 1000 (eInt .i64).sz z.2.1.length), (1, .int .i64 a0), (2, .fn 78 [.ref 1001 0]), (6, .int .i64 z.2.2)], [(1000, .blk 3 (D.flat (z.2.1.map (eInt .i64).d))), (1001, .blk 60 [.slice false (a2.map (eFlt .f64).d)])]⟩) (fun z => slices_stableCmpFunc_int_h_Order_1_L1 a0 a2 z.1 z.2.1 z.2.2 = some r) (fun z => z.1) (fuel, x19, 20) (fun i => i) ⟨(.cons (.same (congrArg (D.osl _ _) hk20.symm) rfl) (.sames rfl rfl)), (.cons (EntW.lst rfl) (.cons (.blk rfl rfl rfl) .nil)), nd_of [1000, 1001] rfl (by decide), fun _ _ => rfl⟩ ?_ ?_
    ·exact h
    ·
     rintro ⟨n1, v55, v56⟩ h
     cases n1 with
     | zero => exact absurd h (by unfold slices_stableCmpFunc_int_h_Order_1_L1; exact nofun)
     | succ n1 =>
      unfold slices_stableCmpFunc_int_h_Order_1_L1 at h
      refine iwp_seq ?_
      obtain ⟨x91, hx91, h⟩ := bnd_e h
      refine iwp_reg (ils_cons rfl (mvI rfl rfl rfl rfl) <|
       ils_cons rfl (mvI rfl rfl rfl rfl) <|
       ils_cons rfl (iop_cmpx rfl rfl (lb rfl) (svI rfl) (svI rfl) rfl hx91) <|
       ils_end ?_)
      refine iwp_cond (b := _) rfl (fun hc92 => ?_) (fun hc92 => ?_)
      ·
       replace h := bif_t h hc92
       refine iwp_skip ?_
       refine thenQ_n ?_
       refine iwp_block ?_
       obtain ⟨x93, hx93, h⟩ := bnd_e h
       refine iwp_reg (ils_cons rfl (mvI rfl rfl rfl rfl) <|
        ils_cons rfl (iop_intx rfl rfl (lb rfl) (sv (d := .int _ 2) rfl) (svI rfl) rfl hx93) <|
        ils_cons rfl (iop_assign rfl rfl (lb rfl) (sv (d := .int _ 0) rfl)) <|
        ils_cons rfl (asI rfl rfl rfl rfl) <|
        ils_end ?_)
       refine iwp_seq ?_
       refine iwp_block ?_
       refine iwp_loopP (α := Nat × (List Int) × Int × Int) (fun z => ⟨[(0, .osl 1000 (eInt .i64).sz z.2.1.length), (1, .int .i64 a0), (2, .fn 78 [.ref 1001 0]), (6, .int .i64 v56), (7, .int .i64 z.2.2.1), (8, .int .i64 z.2.2.2)], [(1000, .blk 3 (D.flat (z.2.1.map (eInt .i64).d))), (1001, .blk 60 [.slice false (a2.map (eFlt .f64).d)])]⟩) (fun z => slices_stableCmpFunc_int_h_Order_1_L2 a0 a2 v56 (slices_stableCmpFunc_int_h_Order_1_L1 a0 a2 n1) z.1 z.2.1 z.2.2.1 z.2.2.2 = some r) (fun z => z.1) (fuel, v55, 0, x93) (fun i => i) ⟨(.sames rfl rfl), (.cons (EntW.lst rfl) (.cons (.blk rfl rfl rfl) .nil)), nd_of [1000, 1001] rfl (by decide), fun _ _ => rfl⟩ ?_ ?_
       ·exact h
       ·
        rintro ⟨n2, v101, v102, v103⟩ h
        cases n2 with
        | zero => exact absurd h (by unfold slices_stableCmpFunc_int_h_Order_1_L2; exact nofun)
        | succ n2 =>
         unfold slices_stableCmpFunc_int_h_Order_1_L2 at h
         refine iwp_seq ?_
         obtain ⟨x111, hx111, h⟩ := bnd_e h
         refine iwp_reg (ils_cons rfl (mvI rfl rfl rfl rfl) <|
          ils_cons rfl (mvI rfl rfl rfl rfl) <|
          ils_cons rfl (iop_cmpx rfl rfl (lb rfl) (svI rfl) (svI rfl) rfl hx111) <|
          ils_end ?_)
         refine iwp_cond (b := _) rfl (fun hc112 => ?_) (fun hc112 => ?_)
         ·
          replace h := bif_t h hc112
          refine iwp_skip ?_
          refine thenQ_n ?_
          refine iwp_block ?_
          obtain ⟨x113, hx113, h⟩ := bnd_e h
          obtain ⟨x114, hx114, h⟩ := bno_e h
          obtain ⟨hk115, h⟩ := chk_e h
          refine iwp_reg (ils_cons rfl (iop_move rfl rfl (lb rfl) (sv (d := .osl _ _ _) rfl)) <|
           ils_cons rfl (mvI rfl rfl rfl rfl) <|
           ils_cons rfl (mvI rfl rfl rfl rfl) <|
           ils_cons rfl (mvI rfl rfl rfl rfl) <|
           ils_cons rfl (iop_intx rfl rfl (lb rfl) (svI rfl) (svI rfl) rfl hx113) <|
           ils_cons rfl (mvI rfl rfl rfl rfl) <|
           ils_cons rfl (iop_move rfl rfl (lb rfl) (sv (d := .fn 78 [.ref _ _]) rfl)) <|
           ils_cons rfl (iop_callh2 (r' := .tuple []) (H1' := [(1000, .blk 3 (D.flat (x114.map (eInt .i64).d))), (1001, .blk 60 [.slice false (a2.map (eFlt .f64).d)])]) 0 [1000, 1001] rfl rfl (lb rfl) cl82 (.cons (sv (d := .osl _ _ _) rfl) (.cons (svI rfl) (.cons (svI rfl) (.cons (svI rfl) (.cons (sv (d := .fn 78 [.ref _ _]) rfl) .nil))))) rfl rfl ⟨rfl, rfl, by decide, rfl, List.forall_mem_cons.2 ⟨⟨rfl, rfl, (handL (eInt .i64) rfl), (handLr (eInt .i64))⟩, List.forall_mem_cons.2 ⟨⟨rfl, rfl, rfl, rfl⟩, List.forall_mem_nil _⟩⟩⟩ (p_slices_symMergeCmpFunc_int_h_Order_1 _ _ _ _ _ _ _ hx114) rfl rfl (List.forall_mem_cons.2 ⟨⟨rfl, (handLr (eInt .i64))⟩, List.forall_mem_cons.2 ⟨⟨rfl, rfl⟩, List.forall_mem_nil _⟩⟩) (by simp only [List.map_cons, List.map_nil, Ent.ren, renL_flat, renL_ref]; rfl)) <|
           ils_end ?_)
          refine iwp_reg (ils_cons rfl (mvI rfl rfl rfl rfl) <|
           ils_cons rfl (asI rfl rfl rfl rfl) <|
           ils_end ?_)
          obtain ⟨x116, hx116, h⟩ := bnd_e h
          obtain ⟨x117, hx117, h⟩ := bnd_e h
          refine iwp_region (ils_cons rfl (mvI rfl rfl rfl rfl) <|
           ils_cons rfl (mvI rfl rfl rfl rfl) <|
           ils_cons rfl (iop_intx rfl rfl (lb rfl) (sv (d := .int _ 2) rfl) (svI rfl) rfl hx116) <|
           ils_cons rfl (iop_intx rfl rfl (lb rfl) (svI rfl) (svI rfl) rfl hx117) <|
           ils_cons rfl (asI rfl rfl rfl rfl) <|
           ils_nil ?_)
          refine blockQ_n ?_
          refine thenQ_n ⟨(n2, x114, v103, x117), (fun i => i), ⟨(.cons (.same (congrArg (D.osl _ _) hk115.symm) rfl) (.sames rfl rfl)), (.cons (EntW.lst rfl) (.cons (.blk rfl rfl rfl) .nil)), nd_of [1000, 1001] rfl (by decide), fun _ _ => rfl⟩, ?_, ?_⟩
          exact h
          exact Nat.lt_succ_self _
         ·
          replace h := bif_f h hc112
          refine iwp_exit ?_
          refine thenQ_e ?_
          refine thenQ_e ?_
          refine blockQ_e ?_
          refine thenQ_n ?_
          refine iwp_seq ?_
          obtain ⟨x118, hx118, h⟩ := bnd_e h
          refine iwp_reg (ils_cons rfl (mvI rfl rfl rfl rfl) <|
           ils_cons rfl (mvI rfl rfl rfl rfl) <|
           ils_cons rfl (iop_intx rfl rfl (lb rfl) (svI rfl) (svI rfl) rfl hx118) <|
           ils_cons rfl (asI rfl rfl rfl rfl) <|
           ils_end ?_)
          obtain ⟨x119, hx119, h⟩ := bnd_e h
          refine iwp_reg (ils_cons rfl (mvI rfl rfl rfl rfl) <|
           ils_cons rfl (mvI rfl rfl rfl rfl) <|
           ils_cons rfl (iop_cmpx rfl rfl (lb rfl) (svI rfl) (svI rfl) rfl hx119) <|
           ils_end ?_)
          refine iwp_cond (b := _) rfl (fun hc120 => ?_) (fun hc120 => ?_)
          ·
           replace h := bif_t h hc120
           obtain ⟨x121, hx121, h⟩ := bno_e h
           obtain ⟨hk122, h⟩ := chk_e h
           refine iwp_region (ils_cons rfl (iop_move rfl rfl (lb rfl) (sv (d := .osl _ _ _) rfl)) <|
            ils_cons rfl (mvI rfl rfl rfl rfl) <|
            ils_cons rfl (mvI rfl rfl rfl rfl) <|
            ils_cons rfl (mvI rfl rfl rfl rfl) <|
            ils_cons rfl (iop_move rfl rfl (lb rfl) (sv (d := .fn 78 [.ref _ _]) rfl)) <|
            ils_cons rfl (iop_callh2 (r' := .tuple []) (H1' := [(1000, .blk 3 (D.flat (x121.map (eInt .i64).d))), (1001, .blk 60 [.slice false (a2.map (eFlt .f64).d)])]) 0 [1000, 1001] rfl rfl (lb rfl) cl82 (.cons (sv (d := .osl _ _ _) rfl) (.cons (svI rfl) (.cons (svI rfl) (.cons (svI rfl) (.cons (sv (d := .fn 78 [.ref _ _]) rfl) .nil))))) rfl rfl ⟨rfl, rfl, by decide, rfl, List.forall_mem_cons.2 ⟨⟨rfl, rfl, (handL (eInt .i64) rfl), (handLr (eInt .i64))⟩, List.forall_mem_cons.2 ⟨⟨rfl, rfl, rfl, rfl⟩, List.forall_mem_nil _⟩⟩⟩ (p_slices_symMergeCmpFunc_int_h_Order_1 _ _ _ _ _ _ _ hx121) rfl rfl (List.forall_mem_cons.2 ⟨⟨rfl, (handLr (eInt .i64))⟩, List.forall_mem_cons.2 ⟨⟨rfl, rfl⟩, List.forall_mem_nil _⟩⟩) (by simp only [List.map_cons, List.map_nil, Ent.ren, renL_flat, renL_ref]; rfl)) <|
            ils_nil ?_)
           refine thenQ_n ?_
           obtain ⟨x123, hx123, h⟩ := bnd_e h
           refine iwp_region (ils_cons rfl (mvI rfl rfl rfl rfl) <|
            ils_cons rfl (iop_intx rfl rfl (lb rfl) (svI rfl) (sv (d := .int _ 2) rfl) rfl hx123) <|
            ils_cons rfl (asI rfl rfl rfl rfl) <|
            ils_nil ?_)
           refine blockQ_n ?_
           refine thenQ_n ⟨(n1, x121, x123), (fun i => i), ⟨(.cons (.same (congrArg (D.osl _ _) hk122.symm) rfl) (.sames rfl rfl)), (.cons (EntW.lst rfl) (.cons (.blk rfl rfl rfl) .nil)), nd_of [1000, 1001] rfl (by decide), fun _ _ => rfl⟩, ?_, ?_⟩
           exact h
           exact Nat.lt_succ_self _
          ·
           replace h := bif_f h hc120
           refine iwp_skip ?_
           refine thenQ_n ?_
           obtain ⟨x124, hx124, h⟩ := bnd_e h
           refine iwp_region (ils_cons rfl (mvI rfl rfl rfl rfl) <|
            ils_cons rfl (iop_intx rfl rfl (lb rfl) (svI rfl) (sv (d := .int _ 2) rfl) rfl hx124) <|
            ils_cons rfl (asI rfl rfl rfl rfl) <|
            ils_nil ?_)
           refine blockQ_n ?_
           refine thenQ_n ⟨(n1, v101, x124), (fun i => i), ⟨(.sames rfl rfl), (.cons (EntW.lst rfl) (.cons (.blk rfl rfl rfl) .nil)), nd_of [1000, 1001] rfl (by decide), fun _ _ => rfl⟩, ?_, ?_⟩
           exact h
           exact Nat.lt_succ_self _
      ·
       replace h := bif_f h hc92
       refine iwp_exit ?_
       refine thenQ_e ?_
       refine thenQ_e ?_
       refine blockQ_e ?_
       obtain rfl := Option.some.inj h
       refine ⟨.inl rfl, (fun i => i), ⟨.nil, (.cons (EntW.lst rfl) (.cons (.blk rfl rfl rfl) .nil)), nd_of [1000, 1001] rfl (by decide), fun _ _ => rfl⟩, .nil, rfl⟩

theorem p_slices_SortStableFunc_int_int_h_Order_1 (a0 : (List Int)) (a1 : (List Nat)) (r : (List Int)) (h : slices_SortStableFunc_int_int_h_Order_1 a0 a1 = some r) : FnH Try.prog 77 [.osl 1000 (eInt .i64).sz a0.length, .fn 78 [.ref 1001 0]] [(1000, .blk 3 (D.flat (a0.map (eInt .i64).d))), (1001, .blk 60 [.slice false (a1.map (eFlt .f64).d)])] (retD []) [(1000, .blk 3 (D.flat (r.map (eInt .i64).d))), (1001, .blk 60 [.slice false (a1.map (eFlt .f64).d)])] := by
 refine fnh_of_iwp (rs := []) Try.func77 rfl Try.ntmps77 (nle rfl) fun O hO => ?_
 show IWP _ _ _ _ ⟨[(0, .osl 1000 (eInt .i64).sz a0.length), (1, .fn 78 [.ref 1001 0])], [(1000, .blk 3 (D.flat (a0.map (eInt .i64).d))), (1001, .blk 60 [.slice false (a1.map (eFlt .f64).d)])]⟩ _
 unfold slices_SortStableFunc_int_int_h_Order_1 at h
 obtain ⟨x1, hx1, h⟩ := bno_e h
 obtain ⟨hk2, h⟩ := chk_e h
 refine iwp_region (ils_cons rfl (iop_move rfl rfl (lb rfl) (sv (d := .osl _ _ _) rfl)) <|
  ils_cons rfl (iop_move rfl rfl (lb rfl) (sv (d := .osl _ _ _) rfl)) <|
  ils_cons rfl (iop_lenO rfl rfl (lb rfl) Try.underlying41 (sv (d := .osl _ _ _) rfl)) <|
  ils_cons rfl (iop_move rfl rfl (lb rfl) (sv (d := .fn 78 [.ref _ _]) rfl)) <|
  ils_cons rfl (iop_callh2 (r' := .tuple []) (H1' := [(1000, .blk 3 (D.flat (x1.map (eInt .i64).d))), (1001, .blk 60 [.slice false (a1.map (eFlt .f64).d)])]) 0 [1000, 1001] rfl rfl (lb rfl) cl80 (.cons (sv (d := .osl _ _ _) rfl) (.cons (svI rfl) (.cons (sv (d := .fn 78 [.ref _ _]) rfl) .nil))) rfl rfl ⟨rfl, rfl, by decide, rfl, List.forall_mem_cons.2 ⟨⟨rfl, rfl, (handL (eInt .i64) rfl), (handLr (eInt .i64))⟩, List.forall_mem_cons.2 ⟨⟨rfl, rfl, rfl, rfl⟩, List.forall_mem_nil _⟩⟩⟩ (p_slices_stableCmpFunc_int_h_Order_1 _ _ _ _ hx1) rfl rfl (List.forall_mem_cons.2 ⟨⟨rfl, (handLr (eInt .i64))⟩, List.forall_mem_cons.2 ⟨⟨rfl, rfl⟩, List.forall_mem_nil _⟩⟩) (by simp only [List.map_cons, List.map_nil, Ent.ren, renL_flat, renL_ref]; rfl)) <|
  ils_nil ?_)
 obtain rfl := Option.some.inj h
 refine ⟨.inl rfl, (fun i => i), ⟨.nil, (.cons (EntW.lst rfl) (.cons (.blk rfl rfl rfl) .nil)), nd_of [1000, 1001] rfl (by decide), fun _ _ => rfl⟩, .nil, rfl⟩

theorem p_gauge_Order (a0 : (List Nat)) (r : (List Int)) (h : gauge_Order a0 = some r) : PureAt Try.prog 74 [.slice false (a0.map (eFlt .f64).d)] (.slice false (r.map (eInt .i64).d)) := by
 refine pure_of_iwpF (rs := [.slice false (r.map (eInt .i64).d)]) Try.func74 rfl Try.ntmps74 (nle rfl) rfl fun O hO => ?_
 show IWP _ _ _ _ ⟨[(0, .slice false (a0.map (eFlt .f64).d))], []⟩ _
 unfold gauge_Order at h
 refine iwp_reg (ils_cons rfl (iop_box' (cs := [.slice _ _]) 0 rfl rfl (lb rfl) rfl (svL rfl) rfl rfl) <|
  ils_cons rfl (iop_assign rfl rfl (lb rfl) (sv (d := .nils) rfl)) <|
  ils_end ?_)
 refine iwp_reg (ils_cons rfl (iop_assign rfl rfl (lb rfl) (sv (d := .nils) rfl)) <|
  ils_end ?_)
 refine iwp_seq ?_
 refine iwp_reg (ils_cons rfl (lrL la60 rfl rfl rfl rfl rfl (nle rfl) rfl) <|
  ils_cons rfl (iop_lenT (eFlt .f64) (l := a0) rfl rfl (lb rfl) Try.underlying60 (svL rfl)) <|
  ils_cons rfl (iop_move rfl rfl (lb rfl) (sv (d := .int _ 0) rfl)) <|
  ils_end ?_)
 refine iwp_block ?_
 refine iwp_loopP (α := Nat × (List Int) × Int) (fun z => ⟨[(1, .ref 0 0), (3, .osl 22 (eInt .i64).sz z.2.1.length), (6, .int .i64 (a0.length : Int)), (7, .int .i64 z.2.2)], [(0, .blk 60 [.slice false (a0.map (eFlt .f64).d)]), (22, .blk 3 (D.flat (z.2.1.map (eInt .i64).d)))]⟩) (fun z => gauge_Order_L0 a0 z.1 z.2.1 z.2.2 = some r) (fun z => z.1) (fuel, ([] : (List Int)), 0) (fun i => if i = 22 then 73 else i) ⟨(.s rfl rfl (.cons (.nilo rfl) (.sames rfl rfl))), (.cons (.blk rfl rfl rfl) (.cons (.nilb rfl) .nil)), nd_of [0, 73] rfl (by decide), (fun i hi => by first | rfl | (show (if _ then _ else _) = _; (repeat' split) <;> omega))⟩ ?_ ?_
 ·exact h
 ·
  rintro ⟨n0, v5, v6⟩ h
  cases n0 with
  | zero => exact absurd h (by unfold gauge_Order_L0; exact nofun)
  | succ n0 =>
   unfold gauge_Order_L0 at h
   obtain ⟨x11, hx11, h⟩ := bnd_e h
   refine iwp_reg (ils_cons rfl (iop_cmpx rfl rfl (lb rfl) (svI rfl) (svI rfl) rfl hx11) <|
    ils_end ?_)
   refine iwp_seq ?_
   refine iwp_cond (b := _) rfl (fun hc12 => ?_) (fun hc12 => ?_)
   ·
    replace h := bif_t h hc12
    refine iwp_skip ?_
    refine thenQ_n ?_
    refine iwp_seq ?_
    refine iwp_block ?_
    refine iwp_reg (ils_cons rfl (mvI rfl rfl rfl rfl) <|
     ils_cons rfl (asI rfl rfl rfl rfl) <|
     ils_end ?_)
    obtain ⟨x13, hx13, h⟩ := bno_e h
    refine iwp_region (ils_cons rfl (iop_move rfl rfl (lb rfl) (sv (d := .osl _ _ _) rfl)) <|
     ils_cons rfl (mvI rfl rfl rfl rfl) <|
     ils_cons rfl (iop_bsO (eInt .i64).toEnc0 ([v6] : (List Int)) 23 rfl rfl (lb rfl) Try.underlying41 ti3 rfl (.cons (svI rfl) .nil) rfl rfl (by decide)) <|
     ils_cons rfl (iop_appO (eInt .i64).toEnc0 24 rfl rfl (lb rfl) Try.underlying41 ti3 rfl rfl rfl rfl rfl (src_O (eInt .i64).toEnc0 rfl rfl rfl) hx13) <|
     ils_cons rfl (iop_assign rfl rfl (lb rfl) (sv (d := .osl _ _ _) rfl)) <|
     ils_nil ?_)
    refine blockQ_n ?_
    refine thenQ_n ?_
    obtain ⟨x14, hx14, h⟩ := bnd_e h
    refine iwp_region (ils_cons rfl (iop_intx rfl rfl (lb rfl) (svI rfl) (sv (d := .int _ 1) rfl) rfl hx14) <|
     ils_cons rfl (mvI rfl rfl rfl rfl) <|
     ils_nil ?_)
    refine thenQ_n ⟨(n0, x13, x14), (fun i => if i = 22 then 24 else i), ⟨(.sames rfl rfl), (.cons (.blk rfl rfl rfl) (.cons (EntW.lst rfl) .nil)), nd_of [0, 24] rfl (by decide), (fun i hi => by first | rfl | (show (if _ then _ else _) = _; (repeat' split) <;> omega))⟩, ?_, ?_⟩
    exact h
    exact Nat.lt_succ_self _
   ·
    replace h := bif_f h hc12
    refine iwp_exit ?_
    refine thenQ_e ?_
    refine thenQ_e ?_
    refine blockQ_e ?_
    refine thenQ_n ?_
    obtain ⟨x15, hx15, h⟩ := bno_e h
    obtain ⟨hk16, h⟩ := chk_e h
    refine iwp_reg (ils_cons rfl (iop_move rfl rfl (lb rfl) (sv (d := .osl _ _ _) rfl)) <|
     ils_cons rfl (iop_makeFunc rfl rfl (lb rfl) (.cons (svR rfl) .nil)) <|
     ils_cons rfl (iop_callh2 (r' := .tuple []) (H1' := [(22, .blk 3 (D.flat (x15.map (eInt .i64).d))), (0, .blk 60 [.slice false (a0.map (eFlt .f64).d)])]) 23 [22, 0] rfl rfl (lb rfl) cl77 (.cons (sv (d := .osl _ _ _) rfl) (.cons (sv (d := .fn 78 [.ref _ _]) rfl) .nil)) rfl rfl ⟨rfl, rfl, by decide, rfl, List.forall_mem_cons.2 ⟨⟨rfl, rfl, (handL (eInt .i64) rfl), (handLr (eInt .i64))⟩, List.forall_mem_cons.2 ⟨⟨rfl, rfl, rfl, rfl⟩, List.forall_mem_nil _⟩⟩⟩ (p_slices_SortStableFunc_int_int_h_Order_1 _ _ _ hx15) rfl rfl (List.forall_mem_cons.2 ⟨⟨rfl, (handLr (eInt .i64))⟩, List.forall_mem_cons.2 ⟨⟨rfl, rfl⟩, List.forall_mem_nil _⟩⟩) (by simp only [List.map_cons, List.map_nil, Ent.ren, renL_flat, renL_ref]; rfl)) <|
     ils_end ?_)
    refine iwp_reg (ils_cons rfl (iop_move rfl rfl (lb rfl) (sv (d := .osl _ _ _) rfl)) <|
     ils_cons rfl (iop_assign rfl rfl (lb rfl) (sv (d := .osl _ _ _) rfl)) <|
     ils_end ?_)
    refine iwp_ret ?_
    obtain rfl := Option.some.inj h
    refine ⟨.inr rfl, _, (.cons (sv rfl) .nil), (.cons (FDT (eInt .i64) rfl hk16) .nil)⟩

theorem p_gauge_Best (a0 : (List Nat)) (r : Int) (h : gauge_Best a0 = some r) : PureAt Try.prog 68 [.slice false (a0.map (eFlt .f64).d)] (.int .i64 r) := by
 refine pure_of_iwp (rs := [.int .i64 r]) Try.func68 rfl Try.ntmps68 (nle rfl) rfl fun O hO => ?_
 show IWP _ _ _ _ ⟨[(0, .slice false (a0.map (eFlt .f64).d))], []⟩ _
 unfold gauge_Best at h
 refine iwp_reg (ils_cons rfl (iop_assign rfl rfl (lb rfl) (sv (d := .int _ 0) rfl)) <|
  ils_end ?_)
 obtain ⟨x1, hx1, h⟩ := bno_e h
 refine iwp_reg (ils_cons rfl (mvL rfl rfl rfl rfl) <|
  ils_cons rfl (iop_call (r := .slice _ _) rfl rfl (lb rfl) cl74 (.cons (svL rfl) .nil) rfl (p_gauge_Order _ _ hx1)) <|
  ils_cons rfl (iop_assign rfl rfl (lb rfl) (svL rfl)) <|
  ils_end ?_)
 refine iwp_seq ?_
 obtain ⟨x2, hx2, h⟩ := bnd_e h
 obtain ⟨x3, hx3, h⟩ := bno_e h
 obtain ⟨x4, hx4, h⟩ := bno_e h
 obtain ⟨x5, hx5, h⟩ := bno_e h
 obtain ⟨x6, hx6, h⟩ := bnd_e h
 refine iwp_reg (ils_cons rfl (mvL rfl rfl rfl rfl) <|
  ils_cons rfl (iop_lenT (eInt .i64) (l := x1) rfl rfl (lb rfl) Try.underlying41 (svL rfl)) <|
  ils_cons rfl (iop_cmpx rfl rfl (lb rfl) (svI rfl) (sv (d := .int _ 0) rfl) rfl hx2) <|
  ils_cons rfl (mvB rfl rfl rfl rfl) <|
  ils_guard rfl rfl (.one rfl) rfl (by decide) (fun hb => (mvL rfl rfl rfl rfl)) <|
  ils_guard rfl rfl (.one rfl) rfl (by decide) (fun hb => (mvL rfl rfl rfl rfl)) <|
  ils_guard rfl rfl (.one rfl) rfl (by decide) (fun hb => (iop_idxT (eInt .i64) (cs := [.int _ _]) rfl rfl (lb rfl) Try.underlying41 ti3 (svcL rfl hb) (sv (d := .int _ 0) rfl) (gd_t hx3 hb) rfl rfl)) <|
  ils_guard rfl rfl (.one rfl) rfl (by decide) (fun hb => (iop_load_fs rfl rfl (lb rfl) Try.underlying3 ag3 ti3 (by decide) (svc (d := .fptr [.int _ _]) rfl hb) (nle rfl))) <|
  ils_guard rfl rfl (.one rfl) rfl (by decide) (fun hb => (iop_idxT (eFlt .f64) (cs := [.float _ _]) rfl rfl (lb rfl) Try.underlying60 ti65 (svcL rfl hb) (svcI rfl hb) (gd_t hx4 hb) rfl rfl)) <|
  ils_guard rfl rfl (.one rfl) rfl (by decide) (fun hb => (iop_load_fs rfl rfl (lb rfl) Try.underlying65 ag65 ti65 (by decide) (svc (d := .fptr [.float _ _]) rfl hb) (nle rfl))) <|
  ils_guard rfl rfl (.one rfl) rfl (by decide) (fun hb => (iop_call (r := .bool _) rfl rfl (lb rfl) cl61 (.cons (svc (d := .float _ _) rfl hb) .nil) rfl (p_math_IsNaN _ _ (gd_t hx5 hb)))) <|
  ils_cons rfl (iop_orx rfl rfl (lb rfl) (svB rfl) rfl rfl hx6) <|
  ils_end ?_)
 refine iwp_cond (b := _) rfl (fun hc7 => ?_) (fun hc7 => ?_)
 ·
  replace h := bif_t h hc7
  refine iwp_reg (ils_cons rfl (iop_assign rfl rfl (lb rfl) (sv (d := .int _ (-1)) rfl)) <|
   ils_end ?_)
  refine iwp_ret ?_
  refine thenQ_r ?_
  obtain rfl := Option.some.inj h
  refine ⟨.inr rfl, (.cons (sv rfl) .nil)⟩
 ·
  replace h := bif_f h hc7
  refine iwp_skip ?_
  refine thenQ_n ?_
  obtain ⟨x8, hx8, h⟩ := bno_e h
  refine iwp_reg (ils_cons rfl (mvL rfl rfl rfl rfl) <|
   ils_cons rfl (iop_idxT (eInt .i64) (cs := [.int _ _]) rfl rfl (lb rfl) Try.underlying41 ti3 (svL rfl) (sv (d := .int _ 0) rfl) hx8 rfl rfl) <|
   ils_cons rfl (iop_load_fs rfl rfl (lb rfl) Try.underlying3 ag3 ti3 (by decide) (sv (d := .fptr [.int _ _]) rfl) (nle rfl)) <|
   ils_cons rfl (asI rfl rfl rfl rfl) <|
   ils_end ?_)
  refine iwp_ret ?_
  obtain rfl := Option.some.inj h
  refine ⟨.inr rfl, (.cons (sv rfl) .nil)⟩

theorem p_paths_Alive (a0 : T_paths_State) (r : (List Int)) (h : paths_Alive a0 = some r) : PureAt Try.prog 30 [.agg (v0 a0)] (.slice false (r.map (eInt .i64).d)) := by
 refine pure_of_iwp (rs := [.slice false (r.map (eInt .i64).d)]) Try.func30 rfl Try.ntmps30 (nle rfl) rfl fun O hO => ?_
 show IWP _ _ _ _ ⟨[(0, .agg (v0 a0))], []⟩ _
 unfold paths_Alive at h
 refine iwp_reg (ils_cons rfl (iop_box' (cs := q3) 0 rfl rfl (lb rfl) rfl (svA q3 rfl) rfl rfl) <|
  ils_cons rfl (iop_assign rfl rfl (lb rfl) (sv (d := .nils) rfl)) <|
  ils_end ?_)
 refine iwp_reg (ils_cons rfl (iop_assign rfl rfl (lb rfl) (sv (d := .nils) rfl)) <|
  ils_end ?_)
 refine iwp_seq ?_
 refine iwp_reg (ils_cons rfl (iop_move rfl rfl (lb rfl) (sv (d := .int _ 0) rfl)) <|
  ils_end ?_)
 refine iwp_block ?_
 refine iwp_loopP (α := Nat × (List Int) × Int) (fun z => ⟨[(1, .ref 0 0), (3, .gsl 22 (eInt .i64).sz (z.2.1.map (eInt .i64).d)), (5, .int .i64 z.2.2)], [(0, .blk 35 (v0 a0)), (22, .tail 3 (eInt .i64).sz z.2.1.length)]⟩) (fun z => paths_Alive_L0 a0 z.1 z.2.1 z.2.2 = some r) (fun z => z.1) (fuel, ([] : (List Int)), 0) (fun i => if i = 22 then 73 else i) ⟨(.s rfl rfl (.cons (.nils rfl) (.sames rfl rfl))), (.cons (.blk rfl rfl rfl) (.cons (.nils rfl) .nil)), nd_of [0, 73] rfl (by decide), (fun i hi => by first | rfl | (show (if _ then _ else _) = _; (repeat' split) <;> omega))⟩ ?_ ?_
 ·exact h
 ·
  rintro ⟨n0, v8, v9⟩ h
  cases n0 with
  | zero => exact absurd h (by unfold paths_Alive_L0; exact nofun)
  | succ n0 =>
   unfold paths_Alive_L0 at h
   obtain ⟨x17, hx17, h⟩ := bnd_e h
   refine iwp_reg (ils_cons rfl (iop_cmpx rfl rfl (lb rfl) (svI rfl) (sv (d := .int _ 4) rfl) rfl hx17) <|
    ils_end ?_)
   refine iwp_seq ?_
   refine iwp_cond (b := _) rfl (fun hc18 => ?_) (fun hc18 => ?_)
   ·
    replace h := bif_t h hc18
    refine iwp_skip ?_
    refine thenQ_n ?_
    refine iwp_seq ?_
    refine iwp_block ?_
    refine iwp_reg (ils_cons rfl (mvI rfl rfl rfl rfl) <|
     ils_cons rfl (asI rfl rfl rfl rfl) <|
     ils_end ?_)
    obtain ⟨x19, hx19, h⟩ := bno_e h
    refine iwp_reg (ils_cons rfl (lra q3 la35 rfl rfl rfl rfl rfl (nle rfl) rfl) <|
     ils_cons rfl (mvI rfl rfl rfl rfl) <|
     ils_cons rfl (iop_call (r := .bool _) rfl rfl (lb rfl) cl43 (.cons (svA q3 rfl) (.cons (svI rfl) .nil)) rfl (p_paths_State_up _ _ _ hx19)) <|
     ils_end ?_)
    refine iwp_cond (b := _) rfl (fun hc20 => ?_) (fun hc20 => ?_)
    ·
     replace h := bif_t h hc20
     obtain ⟨x21, hx21, h⟩ := bno_e h
     refine iwp_region (ils_cons rfl (iop_move rfl rfl (lb rfl) (sv (d := .gsl _ _ _) rfl)) <|
      ils_cons rfl (mvI rfl rfl rfl rfl) <|
      ils_cons rfl (iop_bsT (eInt .i64) ([v9] : (List Int)) 23 rfl rfl (lb rfl) Try.underlying41 ti3 rfl (.cons (svI rfl) .nil) rfl rfl (by decide)) <|
      ils_cons rfl (iop_appT (eInt .i64) 24 rfl rfl (lb rfl) Try.underlying41 ti3 rfl rfl rfl rfl (svg rfl) hx21) <|
      ils_cons rfl (iop_assign rfl rfl (lb rfl) (sv (d := .gsl _ _ _) rfl)) <|
      ils_nil ?_)
     refine blockQ_n ?_
     refine thenQ_n ?_
     obtain ⟨x22, hx22, h⟩ := bnd_e h
     refine iwp_region (ils_cons rfl (iop_intx rfl rfl (lb rfl) (svI rfl) (sv (d := .int _ 1) rfl) rfl hx22) <|
      ils_cons rfl (mvI rfl rfl rfl rfl) <|
      ils_nil ?_)
     refine thenQ_n ⟨(n0, x21, x22), (fun i => if i = 22 then 24 else i), ⟨(.sames rfl rfl), (.cons (.blk rfl rfl rfl) (.cons (.tail rfl) .nil)), nd_of [0, 24] rfl (by decide), (fun i hi => by first | rfl | (show (if _ then _ else _) = _; (repeat' split) <;> omega))⟩, ?_, ?_⟩
     exact h
     exact Nat.lt_succ_self _
    ·
     replace h := bif_f h hc20
     refine iwp_skip ?_
     refine blockQ_n ?_
     refine thenQ_n ?_
     obtain ⟨x23, hx23, h⟩ := bnd_e h
     refine iwp_region (ils_cons rfl (iop_intx rfl rfl (lb rfl) (svI rfl) (sv (d := .int _ 1) rfl) rfl hx23) <|
      ils_cons rfl (mvI rfl rfl rfl rfl) <|
      ils_nil ?_)
     refine thenQ_n ⟨(n0, v8, x23), (fun i => i), ⟨(.sames rfl rfl), (.cons (.blk rfl rfl rfl) (.cons (.tail rfl) .nil)), nd_of [0, 22] rfl (by decide), fun _ _ => rfl⟩, ?_, ?_⟩
     exact h
     exact Nat.lt_succ_self _
   ·
    replace h := bif_f h hc18
    refine iwp_exit ?_
    refine thenQ_e ?_
    refine thenQ_e ?_
    refine blockQ_e ?_
    refine thenQ_n ?_
    refine iwp_reg (ils_cons rfl (iop_move rfl rfl (lb rfl) (sv (d := .gsl _ _ _) rfl)) <|
     ils_cons rfl (iop_assign rfl rfl (lb rfl) (sv (d := .gsl _ _ _) rfl)) <|
     ils_end ?_)
    refine iwp_ret ?_
    obtain rfl := Option.some.inj h
    refine ⟨.inr rfl, (.cons (svg_of rfl rfl) .nil)⟩

theorem p_paths_State_best (a0 : T_paths_State) (r : Int) (h : paths_State_best a0 = some r) : PureAt Try.prog 48 [.agg (v0 a0)] (.int .i64 r) := by
 refine pure_of_iwp (rs := [.int .i64 r]) Try.func48 rfl Try.ntmps48 (nle rfl) rfl fun O hO => ?_
 show IWP _ _ _ _ ⟨[(0, .agg (v0 a0))], []⟩ _
 unfold paths_State_best at h
 refine iwp_reg (ils_cons rfl (iop_box' (cs := q3) 0 rfl rfl (lb rfl) rfl (svA q3 rfl) rfl rfl) <|
  ils_cons rfl (iop_assign rfl rfl (lb rfl) (sv (d := .int _ 0) rfl)) <|
  ils_end ?_)
 refine iwp_seq ?_
 obtain ⟨x1, hx1, h⟩ := bno_e h
 obtain ⟨x2, hx2, h⟩ := bno_e h
 refine iwp_reg (ils_cons rfl (lra q3 la35 rfl rfl rfl rfl rfl (nle rfl) rfl) <|
  ils_cons rfl (iop_call (r := .slice _ _) rfl rfl (lb rfl) cl25 (.cons (svA q3 rfl) .nil) rfl (p_paths_Rates _ _ hx1)) <|
  ils_cons rfl (iop_call (r := .int _ _) rfl rfl (lb rfl) cl68 (.cons (svL rfl) .nil) rfl (p_gauge_Best _ _ hx2)) <|
  ils_cons rfl (asI rfl rfl rfl rfl) <|
  ils_end ?_)
 obtain ⟨x3, hx3, h⟩ := bnd_e h
 refine iwp_reg (ils_cons rfl (mvI rfl rfl rfl rfl) <|
  ils_cons rfl (iop_cmpx rfl rfl (lb rfl) (svI rfl) (sv (d := .int _ 0) rfl) rfl hx3) <|
  ils_end ?_)
 refine iwp_cond (b := _) rfl (fun hc4 => ?_) (fun hc4 => ?_)
 ·
  replace h := bif_t h hc4
  refine iwp_reg (ils_cons rfl (mvI rfl rfl rfl rfl) <|
   ils_cons rfl (asI rfl rfl rfl rfl) <|
   ils_end ?_)
  refine iwp_ret ?_
  refine thenQ_r ?_
  obtain rfl := Option.some.inj h
  refine ⟨.inr rfl, (.cons (sv rfl) .nil)⟩
 ·
  replace h := bif_f h hc4
  refine iwp_skip ?_
  refine thenQ_n ?_
  refine iwp_seq ?_
  obtain ⟨x5, hx5, h⟩ := bno_e h
  refine iwp_reg (ils_cons rfl (lra q3 la35 rfl rfl rfl rfl rfl (nle rfl) rfl) <|
   ils_cons rfl (iop_call (r := .slice _ _) rfl rfl (lb rfl) cl30 (.cons (svA q3 rfl) .nil) rfl (p_paths_Alive _ _ hx5)) <|
   ils_cons rfl (iop_assign rfl rfl (lb rfl) (svL rfl)) <|
   ils_end ?_)
  obtain ⟨x6, hx6, h⟩ := bnd_e h
  refine iwp_reg (ils_cons rfl (mvL rfl rfl rfl rfl) <|
   ils_cons rfl (iop_lenT (eInt .i64) (l := x5) rfl rfl (lb rfl) Try.underlying41 (svL rfl)) <|
   ils_cons rfl (iop_cmpx rfl rfl (lb rfl) (svI rfl) (sv (d := .int _ 0) rfl) rfl hx6) <|
   ils_end ?_)
  refine iwp_cond (b := _) rfl (fun hc7 => ?_) (fun hc7 => ?_)
  ·
   replace h := bif_t h hc7
   obtain ⟨x8, hx8, h⟩ := bno_e h
   refine iwp_reg (ils_cons rfl (mvL rfl rfl rfl rfl) <|
    ils_cons rfl (iop_idxT (eInt .i64) (cs := [.int _ _]) rfl rfl (lb rfl) Try.underlying41 ti3 (svL rfl) (sv (d := .int _ 0) rfl) hx8 rfl rfl) <|
    ils_cons rfl (iop_load_fs rfl rfl (lb rfl) Try.underlying3 ag3 ti3 (by decide) (sv (d := .fptr [.int _ _]) rfl) (nle rfl)) <|
    ils_cons rfl (asI rfl rfl rfl rfl) <|
    ils_end ?_)
   refine iwp_ret ?_
   refine thenQ_r ?_
   obtain rfl := Option.some.inj h
   refine ⟨.inr rfl, (.cons (sv rfl) .nil)⟩
  ·
   replace h := bif_f h hc7
   refine iwp_skip ?_
   refine thenQ_n ?_
   refine iwp_reg (ils_cons rfl (iop_assign rfl rfl (lb rfl) (sv (d := .int _ (-1)) rfl)) <|
    ils_end ?_)
   refine iwp_ret ?_
   obtain rfl := Option.some.inj h
   refine ⟨.inr rfl, (.cons (sv rfl) .nil)⟩

set_option maxRecDepth 8000 in
set_option maxHeartbeats 4000000 in
theorem p_slices_Insert_paths_Bind_paths_Bind_h (a0 : Int) (a1 : List T_paths_Bind) (a2 : List T_paths_Bind) (r : List T_paths_Bind) (h : slices_Insert_paths_Bind_paths_Bind_h a0 a1 a2 = some r) : FnH Try.prog 49 [.osl 1000 E_paths_Bind.sz a2.length, .int .i64 a0, .slice false (a1.map E_paths_Bind.d)] [(1000, .blk 86 (D.flat (a2.map E_paths_Bind.d)))] (.osl 0 E_paths_Bind.sz r.length) [(0, .blk 86 (D.flat (r.map E_paths_Bind.d)))] := by
 replace h : insS 16 a2 a0 a1 = some r := h
 obtain ⟨i, rfl, hi, hm, hb, hr⟩ := insS_e h
 have hX := E_paths_Bind.toEnc0.flat_len a2
 have hV := E_paths_Bind.toEnc0.flat_len a1
 have hp := E_paths_Bind.pos
 have hvt : ∀ k, a1.length ≤ k → (D.flat (a1.map E_paths_Bind.d)).take (min a1.length k * E_paths_Bind.sz) = D.flat (a1.map E_paths_Bind.d) := fun k hk => by
  rw [Nat.min_eq_left hk, ← hV, List.take_length]
 refine fnh_of_iwp (rs := [.osl 0 E_paths_Bind.sz r.length]) Try.func49 rfl Try.ntmps49 (nle rfl) fun O hO => ?_
 show IWP _ _ _ _ ⟨[(0, .osl 1000 E_paths_Bind.sz a2.length), (1, .int .i64 (i : Int)), (2, .slice false (a1.map E_paths_Bind.d))], [(1000, .blk 86 (D.flat (a2.map E_paths_Bind.d)))]⟩ _
 refine iwp_open 0 (id := 1000) (sz := E_paths_Bind.sz) (n := a2.length) rfl rfl hX (fun hn => ?_) (fun c hc hcm => ?_)
 ·
  obtain rfl := List.length_eq_zero_iff.1 hn
  obtain rfl : i = 0 := by simpa using hi
  refine iwp_reg (ils_cons rfl (iop_assign rfl rfl (lb rfl) (sv (d := .nils) rfl)) <| ils_end ?_)
  refine iwp_reg (ils_cons rfl (iop_move rfl rfl (lb rfl) (sv (d := .nils) rfl)) <| ils_cons rfl (mvI rfl rfl rfl rfl) <|
   ils_cons rfl (iop_cutT E_paths_Bind (s := []) (r := []) (b := false) rfl rfl (lb rfl) Try.underlying33 ti86 (svn rfl) ⟨_, (svI rfl)⟩ rfl rfl) <| ils_end ?_)
  refine iwp_reg (ils_cons rfl (mvL rfl rfl rfl rfl) <| ils_cons rfl (iop_lenT E_paths_Bind (l := a1) rfl rfl (lb rfl) Try.underlying33 (svL rfl)) <|
   ils_cons rfl (asI rfl rfl rfl rfl) <| ils_end ?_)
  refine iwp_seq ?_
  refine iwp_reg (ils_cons rfl (mvI rfl rfl rfl rfl) <| ils_cons rfl (iop_cmpx rfl rfl (lb rfl) (svI rfl) (sv (d := .int _ 0) rfl) rfl rfl) <| ils_end ?_)
  refine iwp_cond (b := _) rfl (fun h1 => ?_) (fun h1 => ?_)
  ·have h2 := of_decide_eq_true h1
   obtain rfl := List.length_eq_zero_iff.1 (show a1.length = 0 by omega)
   have hr' : [] = r := by simpa using hr
   subst hr'
   refine iwp_reg (ils_cons rfl (iop_move rfl rfl (lb rfl) (sv (d := .nils) rfl)) <| ils_cons rfl (iop_assign rfl rfl (lb rfl) (sv (d := .nils) rfl)) <| ils_end ?_)
   refine iwp_ret ?_
   refine thenQ_r ?_
   refine ⟨.inr rfl, (fun i => if i = 0 then 50 else i), ⟨.nil, (.cons (.nilb rfl) .nil), nd_of [50] rfl (by decide), (fun i hi => by first | rfl | (show (if _ then _ else _) = _; (repeat' split) <;> omega))⟩, (.cons (svno rfl) .nil), rfl⟩
  ·refine iwp_skip ?_
   refine thenQ_n ?_
   refine iwp_reg (ils_cons rfl (iop_move rfl rfl (lb rfl) (sv (d := .nils) rfl)) <| ils_cons rfl (iop_lenT E_paths_Bind (l := []) (b := false) rfl rfl (lb rfl) Try.underlying33 (svn rfl)) <|
    ils_cons rfl (asI rfl rfl rfl rfl) <| ils_end ?_)
   refine iwp_seq ?_
   refine iwp_reg (ils_cons rfl (mvI rfl rfl rfl rfl) <| ils_cons rfl (mvI rfl rfl rfl rfl) <| ils_cons rfl (iop_cmpx rfl rfl (lb rfl) (svI rfl) (svI rfl) rfl rfl) <| ils_end ?_)
   refine iwp_cond_t rfl rfl ?_
   have ha : app 16 ([] : List T_paths_Bind) a1 = some r := by
    rw [← hr]; unfold maxLen at hm; simpa using app_ok hm hb
   refine iwp_reg (ils_cons rfl (iop_move rfl rfl (lb rfl) (sv (d := .nils) rfl)) <| ils_cons rfl (mvL rfl rfl rfl rfl) <|
    ils_cons rfl (iop_appOn E_paths_Bind.toEnc0 0 rfl rfl (lb rfl) Try.underlying33 ti86 rfl rfl rfl (src_T E_paths_Bind (ys := a1) (svL rfl)) ha) <|
    ils_cons rfl (iop_assign rfl rfl (lb rfl) (sv (d := .osl _ _ _) rfl)) <| ils_end ?_)
   refine iwp_ret ?_
   refine thenQ_r ?_
   refine ⟨.inr rfl, (fun i => i), ⟨.nil, (.cons (EntW.lst rfl) .nil), nd_of [0] rfl (by decide), fun _ _ => rfl⟩, (.cons (sv rfl) .nil), rfl⟩
 ·refine iwp_reg (ils_cons rfl (iop_assign rfl rfl (lb rfl) (sv (d := .nils) rfl)) <| ils_end ?_)
  refine iwp_reg (ils_cons rfl (iop_move rfl rfl (lb rfl) (sv (d := .rsl _ _ _ _ _) rfl)) <| ils_cons rfl (mvI rfl rfl rfl rfl) <|
   ils_cons rfl (iop_slice_rsl (sz := E_paths_Bind.sz) (l := (i : Int)) (h := (a2.length : Int)) (m := (c : Int)) rfl rfl (lb rfl) Try.underlying33 ti86 (sv (d := .rsl _ _ _ _ _) rfl) ⟨_, (svI rfl)⟩ rfl rfl (by simp) (by omega) (by omega) (by omega) (by omega) rfl) <| ils_end ?_)
  refine iwp_reg (ils_cons rfl (mvL rfl rfl rfl rfl) <| ils_cons rfl (iop_lenT E_paths_Bind (l := a1) rfl rfl (lb rfl) Try.underlying33 (svL rfl)) <|
   ils_cons rfl (asI rfl rfl rfl rfl) <| ils_end ?_)
  refine iwp_seq ?_
  refine iwp_reg (ils_cons rfl (mvI rfl rfl rfl rfl) <| ils_cons rfl (iop_cmpx rfl rfl (lb rfl) (svI rfl) (sv (d := .int _ 0) rfl) rfl rfl) <| ils_end ?_)
  refine iwp_cond (b := _) rfl (fun h1 => ?_) (fun h1 => ?_)
  ·have h2 := of_decide_eq_true h1
   obtain rfl := List.length_eq_zero_iff.1 (show a1.length = 0 by omega)
   have hr' : a2 = r := by simpa using hr
   subst hr'
   refine iwp_reg (ils_cons rfl (iop_move rfl rfl (lb rfl) (sv (d := .rsl _ _ _ _ _) rfl)) <| ils_cons rfl (iop_assign rfl rfl (lb rfl) (sv (d := .rsl _ _ _ _ _) rfl)) <| ils_end ?_)
   refine iwp_close 6 (id := 1000) rfl rfl hX ?_
   refine iwp_ret ?_
   refine thenQ_r ?_
   refine ⟨.inr rfl, (fun i => if i = 0 then 1000 else i), ⟨.nil, (.cons (EntW.lst rfl) .nil), nd_of [1000] rfl (by decide), (fun i hi => by first | rfl | (show (if _ then _ else _) = _; (repeat' split) <;> omega))⟩, (.cons (sv rfl) .nil), rfl⟩
  ·have h2 := of_decide_eq_false h1
   have hm0 : 0 < a1.length := by omega
   refine iwp_skip ?_
   refine thenQ_n ?_
   refine iwp_reg (ils_cons rfl (iop_move rfl rfl (lb rfl) (sv (d := .rsl _ _ _ _ _) rfl)) <| ils_cons rfl (iop_len_rsl rfl rfl (lb rfl) Try.underlying33 (sv (d := .rsl _ _ _ _ _) rfl) rfl) <|
    ils_cons rfl (asI rfl rfl rfl rfl) <| ils_end ?_)
   refine iwp_seq ?_
   refine iwp_reg (ils_cons rfl (mvI rfl rfl rfl rfl) <| ils_cons rfl (mvI rfl rfl rfl rfl) <| ils_cons rfl (iop_cmpx rfl rfl (lb rfl) (svI rfl) (svI rfl) rfl rfl) <| ils_end ?_)
   refine iwp_cond (b := _) rfl (fun h3 => ?_) (fun h3 => ?_)
   ·have h4 := of_decide_eq_true h3
    obtain rfl : i = a2.length := by omega
    have hr' : a2 ++ a1 = r := by simpa using hr
    have ha : app 16 a2 a1 = some r := by
     rw [← hr']; unfold maxLen at hm; exact app_ok hm hb
    refine iwp_reg (ils_cons rfl (iop_move rfl rfl (lb rfl) (sv (d := .rsl _ _ _ _ _) rfl)) <| ils_cons rfl (mvL rfl rfl rfl rfl) <|
     ils_close 23 (id := 1000) rfl rfl hX <|
     ils_cons rfl (iop_appO E_paths_Bind.toEnc0 0 rfl rfl (lb rfl) Try.underlying33 ti86 rfl rfl rfl rfl rfl (src_T E_paths_Bind (ys := a1) (svL rfl)) ha) <|
     ils_cons rfl (iop_assign rfl rfl (lb rfl) (sv (d := .osl _ _ _) rfl)) <| ils_end ?_)
    refine iwp_ret ?_
    refine thenQ_r ?_
    refine ⟨.inr rfl, (fun i => i), ⟨.nil, (.cons (EntW.lst rfl) .nil), nd_of [0] rfl (by decide), fun _ _ => rfl⟩, (.cons (sv rfl) .nil), rfl⟩
   ·have h4 := of_decide_eq_false h3
    have hin : i < a2.length := by omega
    have hXt : (D.flat ((a2.take i).map E_paths_Bind.d)).length = i * E_paths_Bind.sz := by rw [E_paths_Bind.toEnc0.flat_len, List.length_take, Nat.min_eq_left hi]
    have hXd : (D.flat ((a2.drop i).map E_paths_Bind.d)).length = (a2.length - i) * E_paths_Bind.sz := by rw [E_paths_Bind.toEnc0.flat_len, List.length_drop]
    have hXs : D.flat (a2.map E_paths_Bind.d) = D.flat ((a2.take i).map E_paths_Bind.d) ++ D.flat ((a2.drop i).map E_paths_Bind.d) := by
     rw [E_paths_Bind.toEnc0.flat_append, List.take_append_drop]
    have hR : D.flat (r.map E_paths_Bind.d) = D.flat ((a2.take i).map E_paths_Bind.d) ++ D.flat (a1.map E_paths_Bind.d) ++ D.flat ((a2.drop i).map E_paths_Bind.d) := by
     rw [← hr, E_paths_Bind.toEnc0.flat_append, E_paths_Bind.toEnc0.flat_append]
    have hRl : (D.flat (r.map E_paths_Bind.d)).length = r.length * E_paths_Bind.sz := E_paths_Bind.toEnc0.flat_len r
    have hrl : r.length = a2.length + a1.length := by rw [← hr]; simp; omega
    refine iwp_skip ?_
    refine thenQ_n ?_
    refine iwp_seq ?_
    refine iwp_reg (ils_cons rfl (mvI rfl rfl rfl rfl) <| ils_cons rfl (mvI rfl rfl rfl rfl) <| ils_cons rfl (iop_intx rfl rfl (lb rfl) (svI rfl) (svI rfl) rfl (wN hm)) <|
     ils_cons rfl (iop_move rfl rfl (lb rfl) (sv (d := .rsl _ _ _ _ _) rfl)) <| ils_cons rfl (iop_cap_rsl rfl rfl (lb rfl) Try.underlying33 (sv (d := .rsl _ _ _ _ _) rfl) rfl) <| ils_cons rfl (iop_cmpx rfl rfl (lb rfl) (svI rfl) (svI rfl) rfl rfl) <| ils_end ?_)
    refine iwp_cond (b := _) rfl (fun h5 => ?_) (fun h5 => ?_)
    ·have h6 := of_decide_eq_true h5
     have hcn : c < a2.length + a1.length := by omega
     obtain ⟨K, hK⟩ : ∃ K, K = a2.length + a1.length - i := ⟨_, rfl⟩
     have hKm : i + K = a2.length + a1.length := by omega
     have w1 : IntKind.wrap .i64 (((a2.length + a1.length : Nat) : Int) - (i : Int)) = (K : Int) := by rw [hK]; exact wS (by omega) hm
     have hD0 : i * E_paths_Bind.sz ≤ (D.flat (a2.map E_paths_Bind.d) ++ List.replicate ((c - a2.length) * E_paths_Bind.sz) D.dead).length := by
      rw [List.length_append, hX]; exact Nat.le_trans (Nat.mul_le_mul_right _ hi) (Nat.le_add_right _ _)
     have hT0 : (D.flat (a2.map E_paths_Bind.d) ++ List.replicate ((c - a2.length) * E_paths_Bind.sz) D.dead).take (i * E_paths_Bind.sz) = D.flat ((a2.take i).map E_paths_Bind.d) := by
      rw [List.take_append_of_le_length (by rw [hX]; exact Nat.mul_le_mul_right _ hi), E_paths_Bind.toEnc0.flat_take]
     refine iwp_reg (ils_cons rfl (iop_move rfl rfl (lb rfl) (sv (d := .rsl _ _ _ _ _) rfl)) <| ils_cons rfl (mvI rfl rfl rfl rfl) <|
      ils_cons rfl (iop_slice_rsl (sz := E_paths_Bind.sz) (l := 0) (h := (i : Int)) (m := (c : Int)) (d := .rsl 1000 E_paths_Bind.sz 0 i c) rfl rfl (lb rfl) Try.underlying33 ti86 (sv (d := .rsl _ _ _ _ _) rfl) rfl ⟨_, (svI rfl)⟩ rfl (by simp) (by omega) (by omega) (by omega) (by omega) (by simp only [Int.toNat_natCast, Int.toNat_zero, Nat.zero_mul, Nat.zero_add, Nat.sub_zero])) <|
      ils_cons rfl (mvI rfl rfl rfl rfl) <| ils_cons rfl (mvI rfl rfl rfl rfl) <| ils_cons rfl (iop_intx rfl rfl (lb rfl) (svI rfl) (svI rfl) rfl (wN hm)) <|
      ils_cons rfl (mvI rfl rfl rfl rfl) <| ils_cons rfl (iop_intx rfl rfl (lb rfl) (svI rfl) (svI rfl) rfl w1) <|
      ils_cons rfl (iop_app_made (sz := E_paths_Bind.sz) (k := K) 0 rfl rfl (lb rfl) Try.underlying33 Try.underlying3 ti86 rfl (sv (d := .rsl _ _ _ _ _) rfl) rfl rfl (svI rfl) rfl (by omega) hD0 (by omega) (by rw [hKm]; exact hm) (by rw [hKm]; exact hb)) <|
      ils_cons rfl (iop_assign rfl rfl (lb rfl) (sv (d := .osl _ _ _) rfl)) <| ils_end ?_)
     have hY0 : ((D.flat (a2.map E_paths_Bind.d) ++ List.replicate ((c - a2.length) * E_paths_Bind.sz) D.dead).take (i * E_paths_Bind.sz) ++ List.replicate (K * E_paths_Bind.sz) D.dead).length = (i + K) * E_paths_Bind.sz := by
      rw [List.length_append, List.length_take, List.length_replicate, Nat.min_eq_left hD0, Nat.add_mul]
     refine iwp_open 9 (id := 0) rfl rfl hY0 (fun h0 => absurd h0 (by omega)) (fun c1 hc1 hcm1 => ?_)
     rw [hT0]
     rw [hT0] at hY0
     have w2 : IntKind.wrap .i64 ((i : Int) + (a1.length : Int)) = ((i + a1.length : Nat) : Int) := wN (by omega)
     have hKs : (K - a1.length) * E_paths_Bind.sz = (a2.length - i) * E_paths_Bind.sz := by congr 1; omega
     obtain ⟨J, hJ⟩ : ∃ J, J = List.replicate ((c1 - (i + K)) * E_paths_Bind.sz) D.dead := ⟨_, rfl⟩
     obtain ⟨Z, hZ⟩ : ∃ Z, Z = List.replicate (K * E_paths_Bind.sz) D.dead := ⟨_, rfl⟩
     have hZl : Z.length = K * E_paths_Bind.sz := by rw [hZ, List.length_replicate]
     have hKsp : K * E_paths_Bind.sz = a1.length * E_paths_Bind.sz + (a2.length - i) * E_paths_Bind.sz := by rw [← Nat.add_mul]; congr 1; omega
     rw [← hJ, ← hZ]
     have hYl : (D.flat ((a2.take i).map E_paths_Bind.d) ++ Z ++ J).length = i * E_paths_Bind.sz + K * E_paths_Bind.sz + J.length := by simp only [List.length_append, hXt, hZl]
     refine iwp_reg (ils_cons rfl (iop_move rfl rfl (lb rfl) (sv (d := .rsl _ _ _ _ _) rfl)) <| ils_cons rfl (mvI rfl rfl rfl rfl) <|
      ils_cons rfl (iop_slice_rsl (sz := E_paths_Bind.sz) (l := (i : Int)) (h := ((i + K : Nat) : Int)) (m := (c1 : Int)) (d := .rsl 0 E_paths_Bind.sz (i * E_paths_Bind.sz) K (c1 - i)) rfl rfl (lb rfl) Try.underlying33 ti86 (sv (d := .rsl _ _ _ _ _) rfl) ⟨_, (svI rfl)⟩ rfl rfl (by simp) (by omega) (by omega) (by omega) (by omega) (by simp only [Int.toNat_natCast, Nat.zero_add]; congr 1; omega)) <|
      ils_cons rfl (mvL rfl rfl rfl rfl) <|
      ils_cons rfl (iop_copy_rsl (sz := E_paths_Bind.sz) (ds' := splice (D.flat ((a2.take i).map E_paths_Bind.d) ++ Z ++ J) (i * E_paths_Bind.sz) (D.flat (a1.map E_paths_Bind.d))) rfl rfl (lb rfl) Try.underlying33 ti86 (sv (d := .rsl _ _ _ _ _) rfl) rfl (src_T E_paths_Bind (ys := a1) (svL rfl)) hV (all_take' (E_paths_Bind.toEnc0.one a1) _) (by rw [hYl]; omega) rfl (by rw [hvt _ (by omega)])) <| ils_end ?_)
     have e1 : splice (D.flat ((a2.take i).map E_paths_Bind.d) ++ Z ++ J) (i * E_paths_Bind.sz) (D.flat (a1.map E_paths_Bind.d)) = D.flat ((a2.take i).map E_paths_Bind.d) ++ D.flat (a1.map E_paths_Bind.d) ++ (Z.drop (a1.length * E_paths_Bind.sz) ++ J) := by
      have e2 : D.flat ((a2.take i).map E_paths_Bind.d) ++ Z ++ J = D.flat ((a2.take i).map E_paths_Bind.d) ++ Z.take (a1.length * E_paths_Bind.sz) ++ (Z.drop (a1.length * E_paths_Bind.sz) ++ J) := by
       rw [List.append_assoc (D.flat ((a2.take i).map E_paths_Bind.d)), List.append_assoc (D.flat ((a2.take i).map E_paths_Bind.d)), ← List.append_assoc (Z.take _), List.take_append_drop]
      rw [e2]; exact splice_at hXt (by rw [List.length_take, hZl, hV]; omega)
     have hres := ins_new (J := J) (Y := D.flat ((a2.drop i).map E_paths_Bind.d)) hXt hV (show Z.length = a1.length * E_paths_Bind.sz + (D.flat ((a2.drop i).map E_paths_Bind.d)).length by rw [hZl, hXd, hKsp])
     have hlen1 : (splice (D.flat ((a2.take i).map E_paths_Bind.d) ++ Z ++ J) (i * E_paths_Bind.sz) (D.flat (a1.map E_paths_Bind.d))).length = i * E_paths_Bind.sz + K * E_paths_Bind.sz + J.length := by
      rw [e1]; simp only [List.length_append, hXt, hV, List.length_drop, hZl]; omega
     obtain ⟨Y1, hY1⟩ : ∃ Y1, Y1 = splice (D.flat ((a2.take i).map E_paths_Bind.d) ++ Z ++ J) (i * E_paths_Bind.sz) (D.flat (a1.map E_paths_Bind.d)) := ⟨_, rfl⟩
     rw [← hY1] at hlen1 hres ⊢
     obtain ⟨es, hes⟩ : ∃ es, es = ((D.flat (a2.map E_paths_Bind.d) ++ List.replicate ((c - a2.length) * E_paths_Bind.sz) D.dead).drop (i * E_paths_Bind.sz)).take ((a2.length - i) * E_paths_Bind.sz) := ⟨_, rfl⟩
     have hes' : es = D.flat ((a2.drop i).map E_paths_Bind.d) := by
      rw [hes, List.drop_append_of_le_length (by rw [hX]; exact Nat.mul_le_mul_right _ hi), E_paths_Bind.toEnc0.flat_drop, List.take_append_of_le_length (by rw [hXd]; exact Nat.le_refl _), ← hXd, List.take_length]
     have hfit2 : i * E_paths_Bind.sz + (a2.length - i) * E_paths_Bind.sz ≤ (D.flat (a2.map E_paths_Bind.d) ++ List.replicate ((c - a2.length) * E_paths_Bind.sz) D.dead).length := by
      rw [List.length_append, hX, ← Nat.add_mul, show i + (a2.length - i) = a2.length by omega]; exact Nat.le_add_right _ _
     have him : (i + a1.length) * E_paths_Bind.sz = i * E_paths_Bind.sz + a1.length * E_paths_Bind.sz := Nat.add_mul _ _ _
     refine iwp_drw rfl [⟨[9], [], [(46, .rsl 0 E_paths_Bind.sz 0 (i + K) c1)], []⟩, ⟨[1], [], [(47, .int .i64 (i : Int))], []⟩, ⟨[7], [], [(48, .int .i64 (a1.length : Int))], []⟩, ⟨[47, 48], [], [(49, .int .i64 ((i + a1.length : Nat) : Int))], []⟩,
      ⟨[46, 49], [], [(50, .rsl 0 E_paths_Bind.sz ((i + a1.length) * E_paths_Bind.sz) (K - a1.length) (c1 - (i + a1.length)))], []⟩, ⟨[0], [], [(51, .rsl 1000 E_paths_Bind.sz 0 a2.length c)], []⟩, ⟨[1], [], [(52, .int .i64 (i : Int))], []⟩, ⟨[51, 52], [], [(53, .rsl 1000 E_paths_Bind.sz (i * E_paths_Bind.sz) (a2.length - i) (c - i))], []⟩,
      ⟨[50, 53], [0, 1000], [(54, .int .i64 ((min (a2.length - i) (K - a1.length) : Nat) : Int))], [(0, .blk 86 (splice Y1 ((i + a1.length) * E_paths_Bind.sz) es))]⟩] rfl ?_ (by kernel_rfl) ?_
     ·refine .cons (lop rfl rfl fun S hA => (iop_move rfl rfl (lb rfl) (sv (d := .rsl _ _ _ _ _) (agr hA rfl rfl)))) ?_
      refine .cons (lop rfl rfl fun S hA => (iop_move rfl rfl (lb rfl) (svaI hA rfl rfl))) ?_
      refine .cons (lop rfl rfl fun S hA => (iop_move rfl rfl (lb rfl) (svaI hA rfl rfl))) ?_
      refine .cons (lop rfl rfl fun S hA => (iop_intx rfl rfl (lb rfl) (svaI hA rfl rfl) (svaI hA rfl rfl) rfl w2)) ?_
      refine .cons (lop rfl rfl fun S hA => (iop_slice_rsl (sz := E_paths_Bind.sz) (l := ((i + a1.length : Nat) : Int)) (h := ((i + K : Nat) : Int)) (m := (c1 : Int)) (d := .rsl 0 E_paths_Bind.sz ((i + a1.length) * E_paths_Bind.sz) (K - a1.length) (c1 - (i + a1.length))) rfl rfl (lb rfl) Try.underlying33 ti86 (sv (d := .rsl _ _ _ _ _) (agr hA rfl rfl)) ⟨_, (svaI hA rfl rfl)⟩ rfl rfl (by simp) (by omega) (by omega) (by omega) (by omega) (by simp only [Int.toNat_natCast, Nat.zero_add]; congr 1; omega))) ?_
      refine .cons (lop rfl rfl fun S hA => (iop_move rfl rfl (lb rfl) (sv (d := .rsl _ _ _ _ _) (agr hA rfl rfl)))) ?_
      refine .cons (lop rfl rfl fun S hA => (iop_move rfl rfl (lb rfl) (svaI hA rfl rfl))) ?_
      refine .cons (lop rfl rfl fun S hA => (iop_slice_rsl (sz := E_paths_Bind.sz) (l := (i : Int)) (h := (a2.length : Int)) (m := (c : Int)) (d := .rsl 1000 E_paths_Bind.sz (i * E_paths_Bind.sz) (a2.length - i) (c - i)) rfl rfl (lb rfl) Try.underlying33 ti86 (sv (d := .rsl _ _ _ _ _) (agr hA rfl rfl)) ⟨_, (svaI hA rfl rfl)⟩ rfl rfl (by simp) (by omega) (by omega) (by omega) (by omega) (by simp only [Int.toNat_natCast, Nat.zero_add]))) ?_
      refine .cons (lop rfl rfl fun S hA => (iop_copy_rsl (sz := E_paths_Bind.sz) (es := es) (ds' := splice Y1 ((i + a1.length) * E_paths_Bind.sz) es) rfl rfl (lb rfl) Try.underlying33 ti86 (sv (d := .rsl _ _ _ _ _) (agr hA rfl rfl)) (agi hA rfl rfl) (hes ▸ src_rsl (sv (d := .rsl _ _ _ _ _) (agr hA rfl rfl)) (agi hA rfl rfl) hfit2) (by rw [hes', hXd]) (all_take' (by rw [hes']; exact E_paths_Bind.toEnc0.one _) _) (by rw [hlen1, him, hKs]; omega) rfl (by rw [show min (a2.length - i) (K - a1.length) = a2.length - i by omega, hes', ← hXd, List.take_length]))) ?_
      exact .nil
     ·rw [hes', him, hres, ← hR]
      refine iwp_reg (ils_cons rfl (iop_move rfl rfl (lb rfl) (sv (d := .rsl _ _ _ _ _) rfl)) <| ils_cons rfl (iop_assign rfl rfl (lb rfl) (sv (d := .rsl _ _ _ _ _) rfl)) <| ils_end ?_)
      refine iwp_close 6 (id := 0) rfl rfl (show (D.flat (r.map E_paths_Bind.d)).length = (i + K) * E_paths_Bind.sz by rw [hRl, hrl, hKm]) ?_
      refine iwp_ret ?_
      refine thenQ_r ?_
      refine ⟨.inr rfl, (fun i => i), ⟨.nil, (.cons (EntW.lst rfl) .nil), nd_of [0] rfl (by decide), fun _ _ => rfl⟩, (.cons (sv (congrArg (D.osl _ _) (show i + K = r.length by omega))) .nil), rfl⟩
    ·have h6 := of_decide_eq_false h5
     have hcn : a2.length + a1.length ≤ c := by omega
     have w2 : IntKind.wrap .i64 ((i : Int) + (a1.length : Int)) = ((i + a1.length : Nat) : Int) := wN (by omega)
     have him : (i + a1.length) * E_paths_Bind.sz = i * E_paths_Bind.sz + a1.length * E_paths_Bind.sz := Nat.add_mul _ _ _
     obtain ⟨J, hJ⟩ : ∃ J, J = List.replicate ((c - a2.length) * E_paths_Bind.sz) D.dead := ⟨_, rfl⟩
     have hJl : J.length = (c - a2.length) * E_paths_Bind.sz := by rw [hJ, List.length_replicate]
     have hJm : a1.length * E_paths_Bind.sz ≤ J.length := by rw [hJl]; exact Nat.mul_le_mul_right _ (by omega)
     have hni : a2.length * E_paths_Bind.sz = i * E_paths_Bind.sz + (a2.length - i) * E_paths_Bind.sz := by rw [← Nat.add_mul]; congr 1; omega
     have hnm : (a2.length + a1.length - i) * E_paths_Bind.sz = (a2.length - i) * E_paths_Bind.sz + a1.length * E_paths_Bind.sz := by rw [← Nat.add_mul]; congr 1; omega
     have hnm2 : (a2.length + a1.length - (i + a1.length)) * E_paths_Bind.sz = (a2.length - i) * E_paths_Bind.sz := by congr 1; omega
     rw [← hJ]
     have hD0 : (D.flat (a2.map E_paths_Bind.d) ++ J).length = i * E_paths_Bind.sz + (a2.length - i) * E_paths_Bind.sz + J.length := by rw [List.length_append, hX, hni]
     refine iwp_skip ?_
     refine thenQ_n ?_
     refine iwp_reg (ils_cons rfl (iop_move rfl rfl (lb rfl) (sv (d := .rsl _ _ _ _ _) rfl)) <| ils_cons rfl (mvI rfl rfl rfl rfl) <| ils_cons rfl (mvI rfl rfl rfl rfl) <|
      ils_cons rfl (iop_intx rfl rfl (lb rfl) (svI rfl) (svI rfl) rfl (wN hm)) <|
      ils_cons rfl (iop_slice_rsl (sz := E_paths_Bind.sz) (l := 0) (h := ((a2.length + a1.length : Nat) : Int)) (m := (c : Int)) (d := .rsl 1000 E_paths_Bind.sz 0 (a2.length + a1.length) c) rfl rfl (lb rfl) Try.underlying33 ti86 (sv (d := .rsl _ _ _ _ _) rfl) rfl ⟨_, (svI rfl)⟩ rfl (by simp) (by omega) (by omega) (by omega) (by omega) (by simp only [Int.toNat_natCast, Int.toNat_zero, Nat.zero_mul, Nat.zero_add, Nat.sub_zero])) <|
      ils_cons rfl (iop_assign rfl rfl (lb rfl) (sv (d := .rsl _ _ _ _ _) rfl)) <| ils_end ?_)
     refine iwp_seq ?_
     refine iwp_reg (ils_cons rfl (mvL rfl rfl rfl rfl) <| ils_cons rfl (iop_move rfl rfl (lb rfl) (sv (d := .rsl _ _ _ _ _) rfl)) <| ils_cons rfl (mvI rfl rfl rfl rfl) <| ils_cons rfl (mvI rfl rfl rfl rfl) <|
      ils_cons rfl (iop_intx rfl rfl (lb rfl) (svI rfl) (svI rfl) rfl w2) <|
      ils_cons rfl (iop_slice_rsl (sz := E_paths_Bind.sz) (l := ((i + a1.length : Nat) : Int)) (h := ((a2.length + a1.length : Nat) : Int)) (m := (c : Int)) rfl rfl (lb rfl) Try.underlying33 ti86 (sv (d := .rsl _ _ _ _ _) rfl) ⟨_, (svI rfl)⟩ rfl rfl (by simp) (by omega) (by omega) (by omega) (by omega) rfl) <|
      ils_cons rfl (iop_overlaps rfl rfl (lb rfl) ex69 Try.underlying33 ti86 (svL rfl) (by intro e; have e9 := congrArg List.length e; rw [List.length_map, List.length_nil] at e9; omega) (sv (d := .rsl _ _ _ _ _) rfl) rfl (by intro e; have := congrArg List.length e; rw [hD0] at this; simp only [List.length_nil] at this; have h9 : 0 < (a2.length - i) * E_paths_Bind.sz := Nat.mul_pos (Nat.sub_pos_of_lt hin) hp; clear hnm hnm2 him; omega)) <|
      ils_cons rfl (iop_not rfl rfl (lb rfl) (svB rfl)) <| ils_end ?_)
     refine iwp_cond_t rfl rfl ?_
     obtain ⟨es, hes⟩ : ∃ es, es = ((D.flat (a2.map E_paths_Bind.d) ++ J).drop (i * E_paths_Bind.sz)).take ((a2.length + a1.length - i) * E_paths_Bind.sz) := ⟨_, rfl⟩
     have hes' : es.take ((a2.length - i) * E_paths_Bind.sz) = D.flat ((a2.drop i).map E_paths_Bind.d) := by
      rw [hes, List.take_take, Nat.min_eq_left (by omega), List.drop_append_of_le_length (by omega), E_paths_Bind.toEnc0.flat_drop, List.take_append_of_le_length (by rw [hXd]; exact Nat.le_refl _), ← hXd, List.take_length]
     have hesl : es.length = (a2.length + a1.length - i) * E_paths_Bind.sz := by
      rw [hes, List.length_take, List.length_drop, hD0]; omega
     have hres := ins_place (J := J) (Y := D.flat ((a2.drop i).map E_paths_Bind.d)) hXt hV hJm
     rw [← hXs] at hres
     refine iwp_drw rfl [⟨[0], [], [(69, .rsl 1000 E_paths_Bind.sz 0 (a2.length + a1.length) c)], []⟩, ⟨[1], [], [(70, .int .i64 (i : Int))], []⟩, ⟨[7], [], [(71, .int .i64 (a1.length : Int))], []⟩, ⟨[70, 71], [], [(72, .int .i64 ((i + a1.length : Nat) : Int))], []⟩,
      ⟨[69, 72], [], [(73, .rsl 1000 E_paths_Bind.sz ((i + a1.length) * E_paths_Bind.sz) (a2.length + a1.length - (i + a1.length)) (c - (i + a1.length)))], []⟩, ⟨[0], [], [(74, .rsl 1000 E_paths_Bind.sz 0 (a2.length + a1.length) c)], []⟩, ⟨[1], [], [(75, .int .i64 (i : Int))], []⟩, ⟨[74, 75], [], [(76, .rsl 1000 E_paths_Bind.sz (i * E_paths_Bind.sz) (a2.length + a1.length - i) (c - i))], []⟩,
      ⟨[73, 76], [1000], [(77, .int .i64 ((min (a2.length + a1.length - i) (a2.length + a1.length - (i + a1.length)) : Nat) : Int))], [(1000, .blk 86 (splice (D.flat (a2.map E_paths_Bind.d) ++ J) (i * E_paths_Bind.sz + a1.length * E_paths_Bind.sz) (D.flat ((a2.drop i).map E_paths_Bind.d))))]⟩] rfl ?_ (by kernel_rfl) ?_
     ·refine .cons (lop rfl rfl fun S hA => (iop_move rfl rfl (lb rfl) (sv (d := .rsl _ _ _ _ _) (agr hA rfl rfl)))) ?_
      refine .cons (lop rfl rfl fun S hA => (iop_move rfl rfl (lb rfl) (svaI hA rfl rfl))) ?_
      refine .cons (lop rfl rfl fun S hA => (iop_move rfl rfl (lb rfl) (svaI hA rfl rfl))) ?_
      refine .cons (lop rfl rfl fun S hA => (iop_intx rfl rfl (lb rfl) (svaI hA rfl rfl) (svaI hA rfl rfl) rfl w2)) ?_
      refine .cons (lop rfl rfl fun S hA => (iop_slice_rsl (sz := E_paths_Bind.sz) (l := ((i + a1.length : Nat) : Int)) (h := ((a2.length + a1.length : Nat) : Int)) (m := (c : Int)) (d := .rsl 1000 E_paths_Bind.sz ((i + a1.length) * E_paths_Bind.sz) (a2.length + a1.length - (i + a1.length)) (c - (i + a1.length))) rfl rfl (lb rfl) Try.underlying33 ti86 (sv (d := .rsl _ _ _ _ _) (agr hA rfl rfl)) ⟨_, (svaI hA rfl rfl)⟩ rfl rfl (by simp) (by omega) (by omega) (by omega) (by omega) (by simp only [Int.toNat_natCast, Nat.zero_add]))) ?_
      refine .cons (lop rfl rfl fun S hA => (iop_move rfl rfl (lb rfl) (sv (d := .rsl _ _ _ _ _) (agr hA rfl rfl)))) ?_
      refine .cons (lop rfl rfl fun S hA => (iop_move rfl rfl (lb rfl) (svaI hA rfl rfl))) ?_
      refine .cons (lop rfl rfl fun S hA => (iop_slice_rsl (sz := E_paths_Bind.sz) (l := (i : Int)) (h := ((a2.length + a1.length : Nat) : Int)) (m := (c : Int)) (d := .rsl 1000 E_paths_Bind.sz (i * E_paths_Bind.sz) (a2.length + a1.length - i) (c - i)) rfl rfl (lb rfl) Try.underlying33 ti86 (sv (d := .rsl _ _ _ _ _) (agr hA rfl rfl)) ⟨_, (svaI hA rfl rfl)⟩ rfl rfl (by simp) (by omega) (by omega) (by omega) (by omega) (by simp only [Int.toNat_natCast, Nat.zero_add]))) ?_
      refine .cons (lop rfl rfl fun S hA => (iop_copy_rsl (sz := E_paths_Bind.sz) (es := es) (ds' := splice (D.flat (a2.map E_paths_Bind.d) ++ J) (i * E_paths_Bind.sz + a1.length * E_paths_Bind.sz) (D.flat ((a2.drop i).map E_paths_Bind.d))) rfl rfl (lb rfl) Try.underlying33 ti86 (sv (d := .rsl _ _ _ _ _) (agr hA rfl rfl)) (agi hA rfl rfl) (hes ▸ src_rsl (sv (d := .rsl _ _ _ _ _) (agr hA rfl rfl)) (agi hA rfl rfl) (by rw [hD0]; omega)) hesl (by rw [show min (a2.length + a1.length - i) (a2.length + a1.length - (i + a1.length)) = a2.length - i by omega, hes']; exact E_paths_Bind.toEnc0.one _) (by rw [hD0, him, hnm2]; omega) rfl (by rw [show min (a2.length + a1.length - i) (a2.length + a1.length - (i + a1.length)) = a2.length - i by omega, hes', him]))) ?_
      exact .nil
     ·refine iwp_reg (ils_cons rfl (iop_move rfl rfl (lb rfl) (sv (d := .rsl _ _ _ _ _) rfl)) <| ils_cons rfl (mvI rfl rfl rfl rfl) <|
       ils_cons rfl (iop_slice_rsl (sz := E_paths_Bind.sz) (l := (i : Int)) (h := ((a2.length + a1.length : Nat) : Int)) (m := (c : Int)) (d := .rsl 1000 E_paths_Bind.sz (i * E_paths_Bind.sz) (a2.length + a1.length - i) (c - i)) rfl rfl (lb rfl) Try.underlying33 ti86 (sv (d := .rsl _ _ _ _ _) rfl) ⟨_, (svI rfl)⟩ rfl rfl (by simp) (by omega) (by omega) (by omega) (by omega) (by simp only [Int.toNat_natCast, Nat.zero_add])) <|
       ils_cons rfl (mvL rfl rfl rfl rfl) <|
       ils_cons rfl (iop_copy_rsl (sz := E_paths_Bind.sz) (ds' := D.flat (r.map E_paths_Bind.d) ++ J.drop (a1.length * E_paths_Bind.sz)) rfl rfl (lb rfl) Try.underlying33 ti86 (sv (d := .rsl _ _ _ _ _) rfl) rfl (src_T E_paths_Bind (ys := a1) (svL rfl)) hV (all_take' (E_paths_Bind.toEnc0.one a1) _) (by rw [length_splice', hD0]; omega; rw [hD0, hXd]; omega) rfl (by rw [hvt _ (by omega), hres, hR])) <| ils_end ?_)
      refine iwp_reg (ils_cons rfl (iop_move rfl rfl (lb rfl) (sv (d := .rsl _ _ _ _ _) rfl)) <| ils_cons rfl (iop_assign rfl rfl (lb rfl) (sv (d := .rsl _ _ _ _ _) rfl)) <| ils_end ?_)
      refine iwp_close 6 (id := 1000) rfl rfl (show (D.flat (r.map E_paths_Bind.d)).length = (a2.length + a1.length) * E_paths_Bind.sz by rw [hRl, hrl]) ?_
      refine iwp_ret ?_
      refine thenQ_r ?_
      refine ⟨.inr rfl, (fun i => if i = 0 then 1000 else i), ⟨.nil, (.cons (EntW.lst rfl) .nil), nd_of [1000] rfl (by decide), (fun i hi => by first | rfl | (show (if _ then _ else _) = _; (repeat' split) <;> omega))⟩, (.cons (sv (congrArg (D.osl _ _) hrl.symm)) .nil), rfl⟩

theorem p_paths_Choose (a0 : T_paths_State) (a1 : Int) (r : (T_paths_State × Int)) (h : paths_Choose a0 a1 = some r) : PureAt Try.prog 14 [.agg (v0 a0), .int .i64 a1] (retD [.agg (v0 r.1), .int .i64 r.2]) := by
 refine pure_of_iwpF (rs := [.agg (v0 r.1), .int .i64 r.2]) Try.func14 rfl Try.ntmps14 (nle rfl) rfl fun O hO => ?_
 show IWP _ _ _ _ ⟨[(0, .agg (v0 a0)), (1, .int .i64 a1)], []⟩ _
 unfold paths_Choose at h
 refine iwp_reg (ils_cons rfl (iop_box' (cs := q3) 0 rfl rfl (lb rfl) rfl (svA q3 rfl) rfl rfl) <|
  ils_cons rfl (iop_allocS (cs := q5) (cs' := (w14 false false 0 0 false false 0 0 false false 0 0 false false 0 0 0 ([] : List T_paths_Bind))) 1 rfl rfl (lb rfl) rfl ti35 rfl rfl (.k4 (.k (.k4 (.k (.k4 (.k (.k (.k (.cons (.nils _) .nil)))))))))) <|
  ils_cons rfl (iop_assign rfl rfl (lb rfl) (sv (d := .int _ 0) rfl)) <|
  ils_end ?_)
 obtain ⟨x1, hx1, h⟩ := bno_e h
 refine iwp_reg (ils_cons rfl (lra q3 la35 rfl rfl rfl rfl rfl (nle rfl) rfl) <|
  ils_cons rfl (iop_callh2 (r' := .agg (w15 x1.1 x1.2.1 x1.2.2.1 x1.2.2.2.1 x1.2.2.2.2.1 x1.2.2.2.2.2.1 x1.2.2.2.2.2.2.1 x1.2.2.2.2.2.2.2.1 x1.2.2.2.2.2.2.2.2.1 x1.2.2.2.2.2.2.2.2.2.1 x1.2.2.2.2.2.2.2.2.2.2.1 x1.2.2.2.2.2.2.2.2.2.2.2.1 x1.2.2.2.2.2.2.2.2.2.2.2.2.1 x1.2.2.2.2.2.2.2.2.2.2.2.2.2.1 x1.2.2.2.2.2.2.2.2.2.2.2.2.2.2.1 x1.2.2.2.2.2.2.2.2.2.2.2.2.2.2.2.1 x1.2.2.2.2.2.2.2.2.2.2.2.2.2.2.2.2.1 (.osl 2 E_paths_Bind.sz x1.2.2.2.2.2.2.2.2.2.2.2.2.2.2.2.2.2.length))) (H1' := [(2, .blk 86 (D.flat (x1.2.2.2.2.2.2.2.2.2.2.2.2.2.2.2.2.2.map E_paths_Bind.d)))]) 2 [] rfl rfl (lb rfl) cl40 (.cons (svA q3 rfl) .nil) rfl rfl ⟨rfl, rfl, by decide, rfl, List.forall_mem_nil _⟩ (p_paths_State_own_h _ _ hx1) rfl rfl (List.forall_mem_cons.2 ⟨⟨rfl, (handLr E_paths_Bind)⟩, List.forall_mem_nil _⟩) (by simp only [List.map_cons, List.map_nil, Ent.ren, renL_flat, renL_ref]; rfl)) <|
  ils_cons rfl (iop_allocS (cs := q5) (cs' := (w14 false false 0 0 false false 0 0 false false 0 0 false false 0 0 0 ([] : List T_paths_Bind))) 3 rfl rfl (lb rfl) rfl ti35 rfl rfl (.k4 (.k (.k4 (.k (.k4 (.k (.k (.k (.cons (.nils _) .nil)))))))))) <|
  ils_cons rfl (stA q4 q4 ti35 rfl rfl rfl rfl rfl rfl rfl rfl (nle rfl) rfl) <|
  ils_end ?_)
 refine iwp_seq ?_
 obtain ⟨x2, hx2, h⟩ := bno_e h
 obtain ⟨x3, hx3, h⟩ := bno_e h
 obtain ⟨x4, hx4, h⟩ := bnd_e h
 obtain ⟨x5, hx5, h⟩ := bnd_e h
 refine iwp_reg (ils_cons rfl (mvI rfl rfl rfl rfl) <|
  ils_cons rfl (iop_call (r := .bool _) rfl rfl (lb rfl) cl46 (.cons (svI rfl) (.cons (sv (d := .int _ 1) rfl) (.cons (sv (d := .int _ 1048576) rfl) .nil))) rfl (p_paths_in _ _ _ _ hx2)) <|
  ils_cons rfl (iop_not rfl rfl (lb rfl) (svB rfl)) <|
  ils_cons rfl (mvB rfl rfl rfl rfl) <|
  ils_guard rfl rfl (.one rfl) rfl (by decide) (fun hb => (lra q3 la35 rfl rfl rfl rfl rfl (nle rfl) rfl)) <|
  ils_guard rfl rfl (.one rfl) rfl (by decide) (fun hb => (iop_call (r := .int _ _) rfl rfl (lb rfl) cl28 (.cons (svcA (v0 a0) rfl hb) .nil) rfl (p_paths_Check _ _ (gd_t hx3 hb)))) <|
  ils_guard rfl rfl (.one rfl) rfl (by decide) (fun hb => (iop_cmpx rfl rfl (lb rfl) (svcI rfl hb) (sv (d := .int _ 0) rfl) rfl hx4)) <|
  ils_cons rfl (iop_orx rfl rfl (lb rfl) (svB rfl) rfl rfl hx5) <|
  ils_end ?_)
 refine iwp_cond (b := _) rfl (fun hc6 => ?_) (fun hc6 => ?_)
 ·
  replace h := bif_t h hc6
  refine iwp_reg (ils_cons rfl (lra q4 la35 rfl rfl rfl rfl rfl (nle rfl) rfl) <|
   ils_cons rfl (stA q4 q4 ti35 rfl rfl rfl rfl rfl rfl rfl rfl (nle rfl) rfl) <|
   ils_cons rfl (iop_assign rfl rfl (lb rfl) (sv (d := .int _ (-1)) rfl)) <|
   ils_end ?_)
  refine iwp_ret ?_
  refine thenQ_r ?_
  obtain rfl := Option.some.inj h
  refine ⟨.inr rfl, _, (.cons (rva la35 rfl rfl (nle rfl) rfl) (.cons (sv rfl) .nil)), (.cons (.agg (.k4 (.k (.k4 (.k (.k4 (.k (.k (.k (.cons (FDT E_paths_Bind rfl rfl) .nil)))))))))) (.all _))⟩
 ·
  replace h := bif_f h hc6
  refine iwp_skip ?_
  refine thenQ_n ?_
  obtain ⟨x7, hx7, h⟩ := bno_e h
  refine iwp_reg (ils_cons rfl (lra q3 la35 rfl rfl rfl rfl rfl (nle rfl) rfl) <|
   ils_cons rfl (mvI rfl rfl rfl rfl) <|
   ils_cons rfl (iop_call (r := .tuple q10) rfl rfl (lb rfl) cl47 (.cons (svA q3 rfl) (.cons (svI rfl) .nil)) rfl (p_paths_State_find _ _ _ hx7)) <|
   ils_cons rfl (iop_move rfl rfl (lb rfl) (sv (d := .tuple q10) rfl)) <|
   ils_cons rfl (iop_extract (d := .int _ _) rfl rfl (lb rfl) (sv (d := .tuple q10) rfl) rfl) <|
   ils_cons rfl (iop_extract (d := .bool _) rfl rfl (lb rfl) (sv (d := .tuple q10) rfl) rfl) <|
   ils_cons rfl (asI rfl rfl rfl rfl) <|
   ils_cons rfl (asB rfl rfl rfl rfl) <|
   ils_end ?_)
  refine iwp_seq ?_
  refine iwp_reg (ils_cons rfl (mvB rfl rfl rfl rfl) <|
   ils_end ?_)
  refine iwp_cond (b := _) rfl (fun hc8 => ?_) (fun hc8 => ?_)
  ·
   replace h := bif_t h hc8
   obtain ⟨x9, hx9, h⟩ := bno_e h
   refine iwp_drw rfl [⟨[6], [3], [(28, .agg (w15 x1.1 x1.2.1 x1.2.2.1 x1.2.2.2.1 x1.2.2.2.2.1 x1.2.2.2.2.2.1 x1.2.2.2.2.2.2.1 x1.2.2.2.2.2.2.2.1 x1.2.2.2.2.2.2.2.2.1 x1.2.2.2.2.2.2.2.2.2.1 x1.2.2.2.2.2.2.2.2.2.2.1 x1.2.2.2.2.2.2.2.2.2.2.2.1 x1.2.2.2.2.2.2.2.2.2.2.2.2.1 x1.2.2.2.2.2.2.2.2.2.2.2.2.2.1 x1.2.2.2.2.2.2.2.2.2.2.2.2.2.2.1 x1.2.2.2.2.2.2.2.2.2.2.2.2.2.2.2.1 x1.2.2.2.2.2.2.2.2.2.2.2.2.2.2.2.2.1 (.osl 2 E_paths_Bind.sz x1.2.2.2.2.2.2.2.2.2.2.2.2.2.2.2.2.2.length)))], []⟩,
    ⟨[2], [], [(29, .ref 0 17)], []⟩,
    ⟨[29], [0], [(30, .slice false (a0.Binds.map E_paths_Bind.d))], []⟩,
    ⟨[7], [], [(31, .int .i64 x7.1)], []⟩,
    ⟨[30, 31], [], [(32, .fptr [.int .i64 x9.Stream, .int .i64 x9.Path])], []⟩,
    ⟨[32], [], [(33, .fptr [.int .i64 x9.Path])], []⟩,
    ⟨[33], [], [(34, .int .i64 x9.Path)], []⟩,
    ⟨[4, 28], [1], [], [(1, .blk 35 (w15 x1.1 x1.2.1 x1.2.2.1 x1.2.2.2.1 x1.2.2.2.2.1 x1.2.2.2.2.2.1 x1.2.2.2.2.2.2.1 x1.2.2.2.2.2.2.2.1 x1.2.2.2.2.2.2.2.2.1 x1.2.2.2.2.2.2.2.2.2.1 x1.2.2.2.2.2.2.2.2.2.2.1 x1.2.2.2.2.2.2.2.2.2.2.2.1 x1.2.2.2.2.2.2.2.2.2.2.2.2.1 x1.2.2.2.2.2.2.2.2.2.2.2.2.2.1 x1.2.2.2.2.2.2.2.2.2.2.2.2.2.2.1 x1.2.2.2.2.2.2.2.2.2.2.2.2.2.2.2.1 x1.2.2.2.2.2.2.2.2.2.2.2.2.2.2.2.2.1 (.osl 2 E_paths_Bind.sz x1.2.2.2.2.2.2.2.2.2.2.2.2.2.2.2.2.2.length)))]⟩,
    ⟨[34], [], [(5, .int .i64 x9.Path)], []⟩] rfl ?_ (by kernel_rfl) ?_
   ·refine .cons (lop rfl rfl fun S hA => (iop_load_ra (cs := q4) rfl rfl (lb rfl) Try.underlying35 ag35 ti35 (by decide) (svaR hA rfl rfl) (agi hA rfl rfl) (nle rfl) rfl)) ?_
    refine .cons (lop rfl rfl fun S hA => (iop_fieldAddr_ref rfl rfl (lb rfl) Try.underlying35 rfl ti33 (by decide) (svaR hA rfl rfl) (off' := 17) rfl)) ?_
    refine .cons (lop rfl rfl fun S hA => (iop_load_rs (d := .slice _ _) rfl rfl (lb rfl) Try.underlying33 ag33 ti33 (by decide) (svaR hA rfl rfl) (agi hA rfl rfl) (nle rfl) rfl)) ?_
    refine .cons (lop rfl rfl fun S hA => (iop_move rfl rfl (lb rfl) (svaI hA rfl rfl))) ?_
    refine .cons (lop rfl rfl fun S hA => (iop_idxT E_paths_Bind (cs := q9) rfl rfl (lb rfl) Try.underlying33 ti86 (svaL hA rfl rfl) (svaI hA rfl rfl) hx9 rfl rfl)) ?_
    refine .cons (lop rfl rfl fun S hA => (iop_fieldAddr_fptr (cs' := [.int _ _]) rfl rfl (lb rfl) Try.underlying86 rfl ti3 (by decide) (sv (d := .fptr q9) (agr hA rfl rfl)) rfl)) ?_
    refine .cons (lop rfl rfl fun S hA => (iop_load_fs rfl rfl (lb rfl) Try.underlying3 ag3 ti3 (by decide) (sv (d := .fptr [.int _ _]) (agr hA rfl rfl)) (nle rfl))) ?_
    refine .cons (lop rfl rfl fun S hA => (iop_store (ds' := q4) rfl rfl ti35 (svaR hA rfl rfl) (agi hA rfl rfl) (svaA q4 hA rfl rfl) rfl rfl rfl (nle rfl) rfl)) ?_
    refine .cons (lop rfl rfl fun S hA => (iop_assign rfl rfl (lb rfl) (svaI hA rfl rfl))) ?_
    exact .nil
   refine iwp_ret ?_
   refine thenQ_r ?_
   obtain rfl := Option.some.inj h
   refine ⟨.inr rfl, _, (.cons (rva la35 rfl rfl (nle rfl) rfl) (.cons (sv rfl) .nil)), (.cons (.agg (.k4 (.k (.k4 (.k (.k4 (.k (.k (.k (.cons (FDT E_paths_Bind rfl rfl) .nil)))))))))) (.all _))⟩
  ·
   replace h := bif_f h hc8
   refine iwp_skip ?_
   refine thenQ_n ?_
   obtain ⟨x10, hx10, h⟩ := bno_e h
   refine iwp_reg (ils_cons rfl (lra q3 la35 rfl rfl rfl rfl rfl (nle rfl) rfl) <|
    ils_cons rfl (iop_call (r := .int _ _) rfl rfl (lb rfl) cl48 (.cons (svA q3 rfl) .nil) rfl (p_paths_State_best _ _ hx10)) <|
    ils_cons rfl (asI rfl rfl rfl rfl) <|
    ils_end ?_)
   refine iwp_join (α := (List T_paths_Bind)) (fun z => ⟨[(4, .ref 1 0), (6, .ref 3 0), (9, .int .i64 x10)], [(1, .blk 35 (w14 false false 0 0 false false 0 0 false false 0 0 false false 0 0 0 ([] : List T_paths_Bind))), (3, .blk 35 (w15 x1.1 x1.2.1 x1.2.2.1 x1.2.2.2.1 x1.2.2.2.2.1 x1.2.2.2.2.2.1 x1.2.2.2.2.2.2.1 x1.2.2.2.2.2.2.2.1 x1.2.2.2.2.2.2.2.2.1 x1.2.2.2.2.2.2.2.2.2.1 x1.2.2.2.2.2.2.2.2.2.2.1 x1.2.2.2.2.2.2.2.2.2.2.2.1 x1.2.2.2.2.2.2.2.2.2.2.2.2.1 x1.2.2.2.2.2.2.2.2.2.2.2.2.2.1 x1.2.2.2.2.2.2.2.2.2.2.2.2.2.2.1 x1.2.2.2.2.2.2.2.2.2.2.2.2.2.2.2.1 x1.2.2.2.2.2.2.2.2.2.2.2.2.2.2.2.2.1 (.osl 5 E_paths_Bind.sz z.length))), (5, .blk 86 (D.flat (z.map E_paths_Bind.d)))]⟩) (fun z => paths_Choose_J0 x1 x10 z = some r) ?_ ?_
   ·
    obtain ⟨x17, hx17, h⟩ := bnd_e h
    obtain ⟨x18, hx18, h⟩ := bnd_e h
    obtain ⟨x19, hx19, h⟩ := bnd_e h
    refine iwp_reg (ils_cons rfl (mvI rfl rfl rfl rfl) <|
     ils_cons rfl (iop_cmpx rfl rfl (lb rfl) (svI rfl) (sv (d := .int _ (-1)) rfl) rfl hx17) <|
     ils_cons rfl (mvB rfl rfl rfl rfl) <|
     ils_guard rfl rfl (.one rfl) rfl (by decide) (fun hb => (faR 17 rfl rfl rfl Try.underlying35 rfl ti33 (lb rfl) rfl rfl)) <|
     ils_guard rfl rfl (.one rfl) rfl (by decide) (fun hb => (iop_load_rs (d := .slice _ _) rfl rfl (lb rfl) Try.underlying33 ag33 ti33 (by decide) (svcR rfl hb) rfl (nle rfl) rfl)) <|
     ils_guard rfl rfl (.one rfl) rfl (by decide) (fun hb => (iop_lenT E_paths_Bind (l := a0.Binds) rfl rfl (lb rfl) Try.underlying33 (svcL rfl hb))) <|
     ils_guard rfl rfl (.one rfl) rfl (by decide) (fun hb => (iop_cmpx rfl rfl (lb rfl) (svcI rfl hb) (sv (d := .int _ 32) rfl) rfl hx18)) <|
     ils_cons rfl (iop_andx rfl rfl (lb rfl) (svB rfl) rfl rfl hx19) <|
     ils_end ?_)
    refine iwp_cond (b := _) rfl (fun hc20 => ?_) (fun hc20 => ?_)
    ·
     replace h := bif_t h hc20
     obtain ⟨x21, hx21, h⟩ := bno_e h
     refine iwp_region (ils_cons rfl (faR 17 rfl rfl rfl Try.underlying35 rfl ti33 (lb rfl) rfl rfl) <|
      ils_cons rfl (iop_load_rs (d := .osl _ _ _) rfl rfl (lb rfl) Try.underlying33 ag33 ti33 (by decide) (svR rfl) rfl (nle rfl) rfl) <|
      ils_cons rfl (mvI rfl rfl rfl rfl) <|
      ils_cons rfl (mvI rfl rfl rfl rfl) <|
      ils_cons rfl (mvI rfl rfl rfl rfl) <|
      ils_cons rfl (iop_build_struct (cs := q9) rfl rfl (lb rfl) Try.underlying86 ti86 pl86 rfl (.cons (svI rfl) (.cons (svI rfl) .nil)) rfl) <|
      ils_cons rfl (iop_bsT E_paths_Bind ([(⟨a1, x10⟩ : T_paths_Bind)] : (List T_paths_Bind)) 4 rfl rfl (lb rfl) Try.underlying33 ti86 rfl (.cons (svA q9 rfl) .nil) rfl rfl (by decide)) <|
      ils_cons rfl (iop_callh2 (r' := .osl 5 E_paths_Bind.sz x21.length) (H1' := [(5, .blk 86 (D.flat (x21.map E_paths_Bind.d)))]) 5 [2] rfl rfl (lb rfl) cl49 (.cons (sv (d := .osl _ _ _) rfl) (.cons (svI rfl) (.cons (svg rfl) .nil))) rfl rfl ⟨rfl, rfl, by decide, rfl, List.forall_mem_cons.2 ⟨⟨rfl, rfl, (handL E_paths_Bind rfl), (handLr E_paths_Bind)⟩, List.forall_mem_nil _⟩⟩ (p_slices_Insert_paths_Bind_paths_Bind_h _ _ _ _ hx21) rfl rfl (List.forall_mem_cons.2 ⟨⟨rfl, (handLr E_paths_Bind)⟩, List.forall_mem_nil _⟩) (by simp only [List.map_cons, List.map_nil, Ent.ren, renL_flat, renL_ref]; rfl)) <|
      ils_cons rfl (faR 17 rfl rfl rfl Try.underlying35 rfl ti33 (lb rfl) rfl rfl) <|
      ils_cons rfl (iop_store (ds' := q4) rfl rfl ti33 (svR rfl) rfl (sv (d := .osl _ _ _) rfl) rfl rfl rfl (nle rfl) rfl) <|
      ils_nil ?_)
     refine thenQ_n ⟨x21, (fun i => i), ⟨(.sames rfl rfl), (.cons (.blk rfl rfl rfl) (.cons (.blk rfl rfl rfl) (.cons (EntW.lst rfl) .nil))), nd_of [1, 3, 5] rfl (by decide), fun _ _ => rfl⟩, ?_⟩
     exact h
    ·
     replace h := bif_f h hc20
     refine iwp_skip ?_
     refine thenQ_n ⟨x1.2.2.2.2.2.2.2.2.2.2.2.2.2.2.2.2.2, (fun i => if i = 5 then 2 else i), ⟨(.sames rfl rfl), (.cons (.blk rfl rfl rfl) (.cons (.blk rfl rfl rfl) (.cons (EntW.lst rfl) .nil))), nd_of [1, 3, 2] rfl (by decide), (fun i hi => by first | rfl | (show (if _ then _ else _) = _; (repeat' split) <;> omega))⟩, ?_⟩
     exact h
   ·
    rintro v16 h
    unfold paths_Choose_J0 at h
    refine iwp_reg (ils_cons rfl (lra q4 la35 rfl rfl rfl rfl rfl (nle rfl) rfl) <|
     ils_cons rfl (mvI rfl rfl rfl rfl) <|
     ils_cons rfl (stA q4 q4 ti35 rfl rfl rfl rfl rfl rfl rfl rfl (nle rfl) rfl) <|
     ils_cons rfl (asI rfl rfl rfl rfl) <|
     ils_end ?_)
    refine iwp_ret ?_
    obtain rfl := Option.some.inj h
    refine ⟨.inr rfl, _, (.cons (rva la35 rfl rfl (nle rfl) rfl) (.cons (sv rfl) .nil)), (.cons (.agg (.k4 (.k (.k4 (.k (.k4 (.k (.k (.k (.cons (FDT E_paths_Bind rfl rfl) .nil)))))))))) (.all _))⟩

theorem p_paths_Pin (a0 : T_paths_State) (r : (T_paths_State × Int)) (h : paths_Pin a0 = some r) : PureAt Try.prog 16 [.agg (v0 a0)] (retD [.agg (v0 r.1), .int .i64 r.2]) := by
 refine pure_of_iwpF (rs := [.agg (v0 r.1), .int .i64 r.2]) Try.func16 rfl Try.ntmps16 (nle rfl) rfl fun O hO => ?_
 show IWP _ _ _ _ ⟨[(0, .agg (v0 a0))], []⟩ _
 unfold paths_Pin at h
 refine iwp_reg (ils_cons rfl (iop_box' (cs := q3) 0 rfl rfl (lb rfl) rfl (svA q3 rfl) rfl rfl) <|
  ils_cons rfl (iop_allocS (cs := q5) (cs' := (w14 false false 0 0 false false 0 0 false false 0 0 false false 0 0 0 ([] : List T_paths_Bind))) 1 rfl rfl (lb rfl) rfl ti35 rfl rfl (.k4 (.k (.k4 (.k (.k4 (.k (.k (.k (.cons (.nils _) .nil)))))))))) <|
  ils_cons rfl (iop_assign rfl rfl (lb rfl) (sv (d := .int _ 0) rfl)) <|
  ils_end ?_)
 obtain ⟨x1, hx1, h⟩ := bno_e h
 refine iwp_reg (ils_cons rfl (lra q3 la35 rfl rfl rfl rfl rfl (nle rfl) rfl) <|
  ils_cons rfl (iop_callh2 (r' := .agg (w15 x1.1 x1.2.1 x1.2.2.1 x1.2.2.2.1 x1.2.2.2.2.1 x1.2.2.2.2.2.1 x1.2.2.2.2.2.2.1 x1.2.2.2.2.2.2.2.1 x1.2.2.2.2.2.2.2.2.1 x1.2.2.2.2.2.2.2.2.2.1 x1.2.2.2.2.2.2.2.2.2.2.1 x1.2.2.2.2.2.2.2.2.2.2.2.1 x1.2.2.2.2.2.2.2.2.2.2.2.2.1 x1.2.2.2.2.2.2.2.2.2.2.2.2.2.1 x1.2.2.2.2.2.2.2.2.2.2.2.2.2.2.1 x1.2.2.2.2.2.2.2.2.2.2.2.2.2.2.2.1 x1.2.2.2.2.2.2.2.2.2.2.2.2.2.2.2.2.1 (.osl 2 E_paths_Bind.sz x1.2.2.2.2.2.2.2.2.2.2.2.2.2.2.2.2.2.length))) (H1' := [(2, .blk 86 (D.flat (x1.2.2.2.2.2.2.2.2.2.2.2.2.2.2.2.2.2.map E_paths_Bind.d)))]) 2 [] rfl rfl (lb rfl) cl40 (.cons (svA q3 rfl) .nil) rfl rfl ⟨rfl, rfl, by decide, rfl, List.forall_mem_nil _⟩ (p_paths_State_own_h _ _ hx1) rfl rfl (List.forall_mem_cons.2 ⟨⟨rfl, (handLr E_paths_Bind)⟩, List.forall_mem_nil _⟩) (by simp only [List.map_cons, List.map_nil, Ent.ren, renL_flat, renL_ref]; rfl)) <|
  ils_cons rfl (iop_allocS (cs := q5) (cs' := (w14 false false 0 0 false false 0 0 false false 0 0 false false 0 0 0 ([] : List T_paths_Bind))) 3 rfl rfl (lb rfl) rfl ti35 rfl rfl (.k4 (.k (.k4 (.k (.k4 (.k (.k (.k (.cons (.nils _) .nil)))))))))) <|
  ils_cons rfl (stA q4 q4 ti35 rfl rfl rfl rfl rfl rfl rfl rfl (nle rfl) rfl) <|
  ils_end ?_)
 refine iwp_seq ?_
 obtain ⟨x2, hx2, h⟩ := bno_e h
 obtain ⟨x3, hx3, h⟩ := bnd_e h
 refine iwp_reg (ils_cons rfl (lra q3 la35 rfl rfl rfl rfl rfl (nle rfl) rfl) <|
  ils_cons rfl (iop_call (r := .int _ _) rfl rfl (lb rfl) cl28 (.cons (svA q3 rfl) .nil) rfl (p_paths_Check _ _ hx2)) <|
  ils_cons rfl (iop_cmpx rfl rfl (lb rfl) (svI rfl) (sv (d := .int _ 0) rfl) rfl hx3) <|
  ils_end ?_)
 refine iwp_cond (b := _) rfl (fun hc4 => ?_) (fun hc4 => ?_)
 ·
  replace h := bif_t h hc4
  refine iwp_reg (ils_cons rfl (lra q4 la35 rfl rfl rfl rfl rfl (nle rfl) rfl) <|
   ils_cons rfl (stA q4 q4 ti35 rfl rfl rfl rfl rfl rfl rfl rfl (nle rfl) rfl) <|
   ils_cons rfl (iop_assign rfl rfl (lb rfl) (sv (d := .int _ (-1)) rfl)) <|
   ils_end ?_)
  refine iwp_ret ?_
  refine thenQ_r ?_
  obtain rfl := Option.some.inj h
  refine ⟨.inr rfl, _, (.cons (rva la35 rfl rfl (nle rfl) rfl) (.cons (sv rfl) .nil)), (.cons (.agg (.k4 (.k (.k4 (.k (.k4 (.k (.k (.k (.cons (FDT E_paths_Bind rfl rfl) .nil)))))))))) (.all _))⟩
 ·
  replace h := bif_f h hc4
  refine iwp_skip ?_
  refine thenQ_n ?_
  refine iwp_join (α := Int) (fun z => ⟨[(2, .ref 1 0), (4, .ref 3 0)], [(1, .blk 35 (w14 false false 0 0 false false 0 0 false false 0 0 false false 0 0 0 ([] : List T_paths_Bind))), (3, .blk 35 (w15 x1.1 x1.2.1 x1.2.2.1 x1.2.2.2.1 x1.2.2.2.2.1 x1.2.2.2.2.2.1 x1.2.2.2.2.2.2.1 x1.2.2.2.2.2.2.2.1 x1.2.2.2.2.2.2.2.2.1 x1.2.2.2.2.2.2.2.2.2.1 x1.2.2.2.2.2.2.2.2.2.2.1 x1.2.2.2.2.2.2.2.2.2.2.2.1 x1.2.2.2.2.2.2.2.2.2.2.2.2.1 x1.2.2.2.2.2.2.2.2.2.2.2.2.2.1 x1.2.2.2.2.2.2.2.2.2.2.2.2.2.2.1 x1.2.2.2.2.2.2.2.2.2.2.2.2.2.2.2.1 z (.osl 2 E_paths_Bind.sz x1.2.2.2.2.2.2.2.2.2.2.2.2.2.2.2.2.2.length))), (2, .blk 86 (D.flat (x1.2.2.2.2.2.2.2.2.2.2.2.2.2.2.2.2.2.map E_paths_Bind.d)))]⟩) (fun z => paths_Pin_J0 x1 z = some r) ?_ ?_
  ·
   obtain ⟨x9, hx9, h⟩ := bnd_e h
   refine iwp_reg (ils_cons rfl (faR 16 rfl rfl rfl Try.underlying35 rfl ti3 (lb rfl) rfl rfl) <|
    ils_cons rfl (iop_load_rs (d := .int _ _) rfl rfl (lb rfl) Try.underlying3 ag3 ti3 (by decide) (svR rfl) rfl (nle rfl) rfl) <|
    ils_cons rfl (iop_cmpx rfl rfl (lb rfl) (svI rfl) (sv (d := .int _ (-1)) rfl) rfl hx9) <|
    ils_end ?_)
   refine iwp_cond (b := _) rfl (fun hc10 => ?_) (fun hc10 => ?_)
   ·
    replace h := bif_t h hc10
    obtain ⟨x11, hx11, h⟩ := bno_e h
    refine iwp_region (ils_cons rfl (lra q3 la35 rfl rfl rfl rfl rfl (nle rfl) rfl) <|
     ils_cons rfl (iop_call (r := .int _ _) rfl rfl (lb rfl) cl48 (.cons (svA q3 rfl) .nil) rfl (p_paths_State_best _ _ hx11)) <|
     ils_cons rfl (faR 16 rfl rfl rfl Try.underlying35 rfl ti3 (lb rfl) rfl rfl) <|
     ils_cons rfl (iop_store (ds' := q4) rfl rfl ti3 (svR rfl) rfl (svI rfl) rfl rfl rfl (nle rfl) rfl) <|
     ils_nil ?_)
    refine thenQ_n ⟨x11, (fun i => i), ⟨(.sames rfl rfl), (.cons (.blk rfl rfl rfl) (.cons (.blk rfl rfl rfl) (.cons (EntW.lst rfl) .nil))), nd_of [1, 3, 2] rfl (by decide), fun _ _ => rfl⟩, ?_⟩
    exact h
   ·
    replace h := bif_f h hc10
    refine iwp_skip ?_
    refine thenQ_n ⟨x1.2.2.2.2.2.2.2.2.2.2.2.2.2.2.2.2.1, (fun i => i), ⟨(.sames rfl rfl), (.cons (.blk rfl rfl rfl) (.cons (.blk rfl rfl rfl) (.cons (EntW.lst rfl) .nil))), nd_of [1, 3, 2] rfl (by decide), fun _ _ => rfl⟩, ?_⟩
    exact h
  ·
   rintro v8 h
   unfold paths_Pin_J0 at h
   refine iwp_drw rfl [⟨[4], [3], [(17, .agg (w15 x1.1 x1.2.1 x1.2.2.1 x1.2.2.2.1 x1.2.2.2.2.1 x1.2.2.2.2.2.1 x1.2.2.2.2.2.2.1 x1.2.2.2.2.2.2.2.1 x1.2.2.2.2.2.2.2.2.1 x1.2.2.2.2.2.2.2.2.2.1 x1.2.2.2.2.2.2.2.2.2.2.1 x1.2.2.2.2.2.2.2.2.2.2.2.1 x1.2.2.2.2.2.2.2.2.2.2.2.2.1 x1.2.2.2.2.2.2.2.2.2.2.2.2.2.1 x1.2.2.2.2.2.2.2.2.2.2.2.2.2.2.1 x1.2.2.2.2.2.2.2.2.2.2.2.2.2.2.2.1 v8 (.osl 2 E_paths_Bind.sz x1.2.2.2.2.2.2.2.2.2.2.2.2.2.2.2.2.2.length)))], []⟩,
    ⟨[4], [], [(18, .ref 3 16)], []⟩,
    ⟨[18], [3], [(19, .int .i64 v8)], []⟩,
    ⟨[2, 17], [1], [], [(1, .blk 35 (w15 x1.1 x1.2.1 x1.2.2.1 x1.2.2.2.1 x1.2.2.2.2.1 x1.2.2.2.2.2.1 x1.2.2.2.2.2.2.1 x1.2.2.2.2.2.2.2.1 x1.2.2.2.2.2.2.2.2.1 x1.2.2.2.2.2.2.2.2.2.1 x1.2.2.2.2.2.2.2.2.2.2.1 x1.2.2.2.2.2.2.2.2.2.2.2.1 x1.2.2.2.2.2.2.2.2.2.2.2.2.1 x1.2.2.2.2.2.2.2.2.2.2.2.2.2.1 x1.2.2.2.2.2.2.2.2.2.2.2.2.2.2.1 x1.2.2.2.2.2.2.2.2.2.2.2.2.2.2.2.1 v8 (.osl 2 E_paths_Bind.sz x1.2.2.2.2.2.2.2.2.2.2.2.2.2.2.2.2.2.length)))]⟩,
    ⟨[19], [], [(3, .int .i64 v8)], []⟩] rfl ?_ (by kernel_rfl) ?_
   ·refine .cons (lop rfl rfl fun S hA => (iop_load_ra (cs := q4) rfl rfl (lb rfl) Try.underlying35 ag35 ti35 (by decide) (svaR hA rfl rfl) (agi hA rfl rfl) (nle rfl) rfl)) ?_
    refine .cons (lop rfl rfl fun S hA => (iop_fieldAddr_ref rfl rfl (lb rfl) Try.underlying35 rfl ti3 (by decide) (svaR hA rfl rfl) (off' := 16) rfl)) ?_
    refine .cons (lop rfl rfl fun S hA => (iop_load_rs (d := .int _ _) rfl rfl (lb rfl) Try.underlying3 ag3 ti3 (by decide) (svaR hA rfl rfl) (agi hA rfl rfl) (nle rfl) rfl)) ?_
    refine .cons (lop rfl rfl fun S hA => (iop_store (ds' := q4) rfl rfl ti35 (svaR hA rfl rfl) (agi hA rfl rfl) (svaA q4 hA rfl rfl) rfl rfl rfl (nle rfl) rfl)) ?_
    refine .cons (lop rfl rfl fun S hA => (iop_assign rfl rfl (lb rfl) (svaI hA rfl rfl))) ?_
    exact .nil
   refine iwp_ret ?_
   obtain rfl := Option.some.inj h
   refine ⟨.inr rfl, _, (.cons (rva la35 rfl rfl (nle rfl) rfl) (.cons (sv rfl) .nil)), (.cons (.agg (.k4 (.k (.k4 (.k (.k4 (.k (.k (.k (.cons (FDT E_paths_Bind rfl rfl) .nil)))))))))) (.all _))⟩

theorem p_paths_Fall_1 (a0 : T_paths_Bind) (a1 : Int) (r : Bool) (h : paths_Fall_1 a0 a1 = some r) : PureAt Try.prog 45 [.agg [.int .i64 a0.Stream, .int .i64 a0.Path], .fptr [.int .i64 a1]] (.bool r) := by
 refine pure_of_iwp (rs := [.bool r]) Try.func45 rfl Try.ntmps45 (nle rfl) rfl fun O hO => ?_
 show IWP _ _ _ _ ⟨[(0, .agg [.int .i64 a0.Stream, .int .i64 a0.Path]), (1, .fptr [.int .i64 a1])], []⟩ _
 unfold paths_Fall_1 at h
 refine iwp_reg (ils_cons rfl (iop_box' (cs := q9) 0 rfl rfl (lb rfl) rfl (svA q9 rfl) rfl rfl) <|
  ils_cons rfl (iop_assign rfl rfl (lb rfl) (sv (d := .bool false) rfl)) <|
  ils_end ?_)
 obtain ⟨x1, hx1, h⟩ := bnd_e h
 refine iwp_reg (ils_cons rfl (faR 1 rfl rfl rfl Try.underlying86 rfl ti3 (lb rfl) rfl rfl) <|
  ils_cons rfl (iop_load_rs (d := .int _ _) rfl rfl (lb rfl) Try.underlying3 ag3 ti3 (by decide) (svR rfl) rfl (nle rfl) rfl) <|
  ils_cons rfl (iop_load_fs rfl rfl (lb rfl) Try.underlying3 ag3 ti3 (by decide) (sv (d := .fptr [.int _ _]) rfl) (nle rfl)) <|
  ils_cons rfl (iop_cmpx rfl rfl (lb rfl) (svI rfl) (svI rfl) rfl hx1) <|
  ils_cons rfl (asB rfl rfl rfl rfl) <|
  ils_end ?_)
 refine iwp_ret ?_
 obtain rfl := Option.some.inj h
 refine ⟨.inr rfl, (.cons (sv rfl) .nil)⟩
end Go.Proofs.Ytkkpkabamlabdaa
