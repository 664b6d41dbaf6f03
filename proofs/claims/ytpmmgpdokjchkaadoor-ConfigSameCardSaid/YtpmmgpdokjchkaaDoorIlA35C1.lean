/-
  A part of the proof: rules and plain facts. No condition.
-/
import Derived.Test.YtpmmgpdokjchkaaDoorProg
import Derived.KernelRfl
import Derived.Test.YtpmmgpdokjchkaaDoorIlP100
import Derived.Test.YtpmmgpdokjchkaaDoorIlSh
import Derived.Test.YtpmmgpdokjchkaaDoorIlIt35
set_option linter.all false
set_option linter.unusedSimpArgs false
set_option linter.unusedVariables false
set_option maxRecDepth 8000
set_option maxHeartbeats 2000000
open Go Go.IL Go.Fn Go.Proofs
namespace Go.Proofs.YtpmmgpdokjchkaaDoor
theorem ti3 : TI Tryd.prog 3 (some (.int .i64 0)) 1 8 := by unfold TI; kernel_rfl
theorem ti4 : TI Tryd.prog 4 (some (.bool false)) 1 1 := by unfold TI; kernel_rfl
theorem ti5 : TI Tryd.prog 5 (some (.int .u8 0)) 1 1 := by unfold TI; kernel_rfl
theorem ti9 : TI Tryd.prog 9 (some (.string ⟨#[]⟩)) 1 16 := by unfold TI; kernel_rfl
theorem ti23 : TI Tryd.prog 23 (some (.agg #[.int .i64 0, .int .i64 0, .int .i64 0, .int .i64 0])) 4 32 := by unfold TI; kernel_rfl
theorem ti24 : TI Tryd.prog 24 (some (.agg #[.int .i64 0, .int .i64 0, .int .i64 0, .int .i64 0, .int .i64 0, .int .i64 0, .int .i64 0, .int .i64 0])) 8 64 := by unfold TI; kernel_rfl
theorem ti25 : TI Tryd.prog 25 (some (.int .u32 0)) 1 4 := by unfold TI; kernel_rfl
theorem ti26 : TI Tryd.prog 26 (some (.agg #[.int .u32 0, .int .u32 0])) 2 8 := by unfold TI; kernel_rfl
theorem ti28 : TI Tryd.prog 28 (some (.agg #[.int .i64 0, .int .i64 0, .int .i64 0, .int .i64 0, .int .i64 0, .int .i64 0, .int .i64 0, .int .i64 0, .int .i64 0, .int .u32 0, .int .u32 0])) 11 80 := by unfold TI; kernel_rfl
theorem ti29 : TI Tryd.prog 29 (some (.agg #[.int .i64 0, .int .i64 0, .int .i64 0, .int .i64 0])) 4 32 := by unfold TI; kernel_rfl
theorem ti30 : TI Tryd.prog 30 (some (.agg #[.int .i64 0, .int .i64 0, .int .i64 0, .int .i64 0, .int .i64 0, .int .i64 0, .int .i64 0, .int .i64 0])) 8 64 := by unfold TI; kernel_rfl
theorem ti32 : TI Tryd.prog 32 (some (.agg #[.int .i64 0, .int .i64 0, .int .i64 0, .int .i64 0, .int .i64 0, .int .i64 0, .int .i64 0, .int .i64 0, .int .i64 0, .int .u32 0, .int .u32 0])) 11 80 := by unfold TI; kernel_rfl
theorem ti34 : TI Tryd.prog 34 (some (.int .i64 0)) 1 8 := by unfold TI; kernel_rfl
theorem ti60 : TI Tryd.prog 60 (some (.pointer none)) 1 8 := by unfold TI; kernel_rfl
theorem ti61 : TI Tryd.prog 61 (some (.agg #[.bool false, .bool false, .bool false, .bool false, .bool false])) 5 5 := by unfold TI; kernel_rfl
theorem ti63 : TI Tryd.prog 63 (some (.agg #[.int .i64 0, .int .i64 0, .int .i64 0, .int .i64 0, .int .i64 0, .int .i64 0, .int .i64 0, .int .i64 0, .int .i64 0, .int .u32 0, .int .u32 0, .bool false, .bool false, .bool false, .bool false, .bool false])) 16 88 := by unfold TI; kernel_rfl
theorem ti71 : TI Tryd.prog 71 (some (.agg #[.int .i64 0, .int .i64 0, .int .i64 0, .int .i64 0])) 4 32 := by unfold TI; kernel_rfl
theorem ag3 : aggOf Tryd.prog 3 = false := by kernel_rfl
theorem ag4 : aggOf Tryd.prog 4 = false := by kernel_rfl
theorem ag5 : aggOf Tryd.prog 5 = false := by kernel_rfl
theorem ag9 : aggOf Tryd.prog 9 = false := by kernel_rfl
theorem ag23 : aggOf Tryd.prog 23 = true := by kernel_rfl
theorem ag25 : aggOf Tryd.prog 25 = false := by kernel_rfl
theorem ag26 : aggOf Tryd.prog 26 = true := by kernel_rfl
theorem ag28 : aggOf Tryd.prog 28 = true := by kernel_rfl
theorem ag29 : aggOf Tryd.prog 29 = true := by kernel_rfl
theorem ag30 : aggOf Tryd.prog 30 = true := by kernel_rfl
theorem ag32 : aggOf Tryd.prog 32 = true := by kernel_rfl
theorem ag34 : aggOf Tryd.prog 34 = false := by kernel_rfl
theorem ag60 : aggOf Tryd.prog 60 = false := by kernel_rfl
theorem ag71 : aggOf Tryd.prog 71 = true := by kernel_rfl
theorem ex50 : ExternAt Tryd.prog 50 Extern.BytealgCount.count := ⟨Tryd.f50, Tryd.func50, by kernel_rfl, by kernel_rfl, by kernel_rfl, by kernel_rfl⟩
theorem ex64 : ExternAt Tryd.prog 64 Extern.BytealgIndexByte.indexByte := ⟨Tryd.f64, Tryd.func64, by kernel_rfl, by kernel_rfl, by kernel_rfl, by kernel_rfl⟩
theorem pl28 : ∀ w, (Array.mapM (m := Sem) (fun (f : Field) => Functor.map (Prod.mk f.offset) (sizeOf f.type)) (fieldsOf Tryd.prog 28)).run Tryd.prog w = .ok #[(0, 1), (1, 8), (9, 2)] w := fun w => by kernel_rfl
theorem pl29 : ∀ w, (Array.mapM (m := Sem) (fun (f : Field) => Functor.map (Prod.mk f.offset) (sizeOf f.type)) (fieldsOf Tryd.prog 29)).run Tryd.prog w = .ok #[(0, 1), (1, 1), (2, 1), (3, 1)] w := fun w => by kernel_rfl
theorem pl32 : ∀ w, (Array.mapM (m := Sem) (fun (f : Field) => Functor.map (Prod.mk f.offset) (sizeOf f.type)) (fieldsOf Tryd.prog 32)).run Tryd.prog w = .ok #[(0, 1), (1, 8), (9, 2)] w := fun w => by kernel_rfl
theorem pl63 : ∀ w, (Array.mapM (m := Sem) (fun (f : Field) => Functor.map (Prod.mk f.offset) (sizeOf f.type)) (fieldsOf Tryd.prog 63)).run Tryd.prog w = .ok #[(0, 11), (11, 5)] w := fun w => by kernel_rfl
theorem st28 : Tryd.prog.stoodInHeld 28 = false ∧ Tryd.prog.eqGuardType Tryd.prog.depth 28 = false := ⟨by kernel_rfl, by kernel_rfl⟩
theorem st71 : Tryd.prog.stoodInHeld 71 = false ∧ Tryd.prog.eqGuardType Tryd.prog.depth 71 = false := ⟨by kernel_rfl, by kernel_rfl⟩
theorem cl6 : Callable Tryd.prog 6 := ⟨Tryd.f6, Tryd.func6, rfl, rfl⟩
theorem cl7 : Callable Tryd.prog 7 := ⟨Tryd.f7, Tryd.func7, rfl, rfl⟩
theorem cl9 : Callable Tryd.prog 9 := ⟨Tryd.f9, Tryd.func9, rfl, rfl⟩
theorem cl11 : Callable Tryd.prog 11 := ⟨Tryd.f11, Tryd.func11, rfl, rfl⟩
theorem cl13 : Callable Tryd.prog 13 := ⟨Tryd.f13, Tryd.func13, rfl, rfl⟩
theorem cl14 : Callable Tryd.prog 14 := ⟨Tryd.f14, Tryd.func14, rfl, rfl⟩
theorem cl16 : Callable Tryd.prog 16 := ⟨Tryd.f16, Tryd.func16, rfl, rfl⟩
theorem cl17 : Callable Tryd.prog 17 := ⟨Tryd.f17, Tryd.func17, rfl, rfl⟩
theorem cl18 : Callable Tryd.prog 18 := ⟨Tryd.f18, Tryd.func18, rfl, rfl⟩
theorem cl20 : Callable Tryd.prog 20 := ⟨Tryd.f20, Tryd.func20, rfl, rfl⟩
theorem cl22 : Callable Tryd.prog 22 := ⟨Tryd.f22, Tryd.func22, rfl, rfl⟩
theorem cl24 : Callable Tryd.prog 24 := ⟨Tryd.f24, Tryd.func24, rfl, rfl⟩
theorem cl25 : Callable Tryd.prog 25 := ⟨Tryd.f25, Tryd.func25, rfl, rfl⟩
theorem cl26 : Callable Tryd.prog 26 := ⟨Tryd.f26, Tryd.func26, rfl, rfl⟩
theorem cl27 : Callable Tryd.prog 27 := ⟨Tryd.f27, Tryd.func27, rfl, rfl⟩
theorem cl29 : Callable Tryd.prog 29 := ⟨Tryd.f29, Tryd.func29, rfl, rfl⟩
theorem cl30 : Callable Tryd.prog 30 := ⟨Tryd.f30, Tryd.func30, rfl, rfl⟩
theorem cl32 : Callable Tryd.prog 32 := ⟨Tryd.f32, Tryd.func32, rfl, rfl⟩
theorem cl33 : Callable Tryd.prog 33 := ⟨Tryd.f33, Tryd.func33, rfl, rfl⟩
theorem cl34 : Callable Tryd.prog 34 := ⟨Tryd.f34, Tryd.func34, rfl, rfl⟩
theorem cl35 : Callable Tryd.prog 35 := ⟨Tryd.f35, Tryd.func35, rfl, rfl⟩
theorem cl37 : Callable Tryd.prog 37 := ⟨Tryd.f37, Tryd.func37, rfl, rfl⟩
theorem cl38 : Callable Tryd.prog 38 := ⟨Tryd.f38, Tryd.func38, rfl, rfl⟩
theorem cl39 : Callable Tryd.prog 39 := ⟨Tryd.f39, Tryd.func39, rfl, rfl⟩
theorem cl42 : Callable Tryd.prog 42 := ⟨Tryd.f42, Tryd.func42, rfl, rfl⟩
theorem cl43 : Callable Tryd.prog 43 := ⟨Tryd.f43, Tryd.func43, rfl, rfl⟩
theorem cl51 : Callable Tryd.prog 51 := ⟨Tryd.f51, Tryd.func51, rfl, rfl⟩
theorem cl58 : Callable Tryd.prog 58 := ⟨Tryd.f58, Tryd.func58, rfl, rfl⟩
def la26 := LA.mk Tryd.underlying26 ag26 ti26 (by decide)
def la28 := LA.mk Tryd.underlying28 ag28 ti28 (by decide)
def la29 := LA.mk Tryd.underlying29 ag29 ti29 (by decide)
def la30 := LA.mk Tryd.underlying30 ag30 ti30 (by decide)
def la32 := LA.mk Tryd.underlying32 ag32 ti32 (by decide)
def la71 := LA.mk Tryd.underlying71 ag71 ti71 (by decide)
abbrev v0 (x : T_config_reader) : List D := [.int .i64 x.Config.Paths, .int .i64 x.Config.Values.c0.Streams, .int .i64 x.Config.Values.c0.Window, .int .i64 x.Config.Values.c0.Whole, .int .i64 x.Config.Values.c0.Chunk, .int .i64 x.Config.Values.c1.Streams, .int .i64 x.Config.Values.c1.Window, .int .i64 x.Config.Values.c1.Whole, .int .i64 x.Config.Values.c1.Chunk, .int .u32 x.Config.First.c0, .int .u32 x.Config.First.c1, .bool x.seen.c0, .bool x.seen.c1, .bool x.seen.c2, .bool x.seen.c3, .bool x.seen.c4]
abbrev v1 (x : T_world_Config) : List D := [.int .i64 x.Paths, .int .i64 x.Values.c0.Streams, .int .i64 x.Values.c0.Window, .int .i64 x.Values.c0.Whole, .int .i64 x.Values.c0.Chunk, .int .i64 x.Values.c1.Streams, .int .i64 x.Values.c1.Window, .int .i64 x.Values.c1.Whole, .int .i64 x.Values.c1.Chunk, .int .u32 x.First.c0, .int .u32 x.First.c1]
abbrev v2 (x : T_anon24) : List D := [.int .i64 x.c0.Streams, .int .i64 x.c0.Window, .int .i64 x.c0.Whole, .int .i64 x.c0.Chunk, .int .i64 x.c1.Streams, .int .i64 x.c1.Window, .int .i64 x.c1.Whole, .int .i64 x.c1.Chunk]
abbrev v3 (x : T_tune_Values) : List D := [.int .i64 x.Streams, .int .i64 x.Window, .int .i64 x.Whole, .int .i64 x.Chunk]
abbrev v4 (x : T_tune_row) : List D := [.int .i64 x.c0, .int .i64 x.c1, .int .i64 x.c2, .int .i64 x.c3]
abbrev q5 {a1 : IntKind} {a2 : Int} {a3 : IntKind} {a4 : Int} {a5 : IntKind} {a6 : Int} {a7 : IntKind} {a8 : Int} {a9 : IntKind} {a10 : Int} {a11 : IntKind} {a12 : Int} {a13 : IntKind} {a14 : Int} {a15 : IntKind} {a16 : Int} {a17 : IntKind} {a18 : Int} {a19 : IntKind} {a20 : Int} {a21 : IntKind} {a22 : Int} {a23 : Bool} {a24 : Bool} {a25 : Bool} {a26 : Bool} {a27 : Bool} : List D := [.int a1 a2, .int a3 a4, .int a5 a6, .int a7 a8, .int a9 a10, .int a11 a12, .int a13 a14, .int a15 a16, .int a17 a18, .int a19 a20, .int a21 a22, .bool a23, .bool a24, .bool a25, .bool a26, .bool a27]
abbrev q6 {a1 : IntKind} {a2 : Int} {a3 : IntKind} {a4 : Int} {a5 : IntKind} {a6 : Int} {a7 : IntKind} {a8 : Int} {a9 : IntKind} {a10 : Int} {a11 : IntKind} {a12 : Int} {a13 : IntKind} {a14 : Int} {a15 : IntKind} {a16 : Int} {a17 : IntKind} {a18 : Int} {a19 : IntKind} {a20 : Int} {a21 : IntKind} {a22 : Int} : List D := [.int a1 a2, .int a3 a4, .int a5 a6, .int a7 a8, .int a9 a10, .int a11 a12, .int a13 a14, .int a15 a16, .int a17 a18, .int a19 a20, .int a21 a22]
abbrev q7 {a1 : IntKind} {a2 : Int} {a3 : IntKind} {a4 : Int} {a5 : IntKind} {a6 : Int} {a7 : IntKind} {a8 : Int} {a9 : IntKind} {a10 : Int} {a11 : IntKind} {a12 : Int} {a13 : IntKind} {a14 : Int} {a15 : IntKind} {a16 : Int} : List D := [.int a1 a2, .int a3 a4, .int a5 a6, .int a7 a8, .int a9 a10, .int a11 a12, .int a13 a14, .int a15 a16]
abbrev q8 {a1 : IntKind} {a2 : Int} {a3 : IntKind} {a4 : Int} {a5 : IntKind} {a6 : Int} {a7 : IntKind} {a8 : Int} : List D := [.int a1 a2, .int a3 a4, .int a5 a6, .int a7 a8]
abbrev q9 {a1 : IntKind} {a2 : Int} {a3 : IntKind} {a4 : Int} : List D := [.int a1 a2, .int a3 a4]
abbrev q10 {a1 : List UInt8} {a2 : IntKind} {a3 : Int} : List D := [.str a1, .int a2 a3]
abbrev q11 {a1 : IntKind} {a2 : Int} {a3 : IntKind} {a4 : Int} {a5 : IntKind} {a6 : Int} {a7 : IntKind} {a8 : Int} {a9 : IntKind} {a10 : Int} {a11 : IntKind} {a12 : Int} {a13 : IntKind} {a14 : Int} {a15 : IntKind} {a16 : Int} {a17 : IntKind} {a18 : Int} {a19 : IntKind} {a20 : Int} {a21 : IntKind} {a22 : Int} {a23 : IntKind} {a24 : Int} {a25 : IntKind} {a26 : Int} : List D := [.agg [.int a1 a2, .int a3 a4, .int a5 a6, .int a7 a8, .int a9 a10, .int a11 a12, .int a13 a14, .int a15 a16, .int a17 a18, .int a19 a20, .int a21 a22], .int a23 a24, .int a25 a26]
abbrev w12 (a0 : Int) (a1 : Int) (a2 : Int) (a3 : Int) (a4 : Int) (a5 : Int) (a6 : Int) (a7 : Int) (a8 : Int) (a9 : Int) (a10 : Int) (a11 : Bool) (a12 : Bool) (a13 : Bool) (a14 : Bool) (a15 : Bool) : List D := [.int .i64 a0, .int .i64 a1, .int .i64 a2, .int .i64 a3, .int .i64 a4, .int .i64 a5, .int .i64 a6, .int .i64 a7, .int .i64 a8, .int .u32 a9, .int .u32 a10, .bool a11, .bool a12, .bool a13, .bool a14, .bool a15]
abbrev w13 (a0 : Int) (a1 : Int) (a2 : Int) (a3 : Int) (a4 : Int) (a5 : Int) (a6 : Int) (a7 : Int) (a8 : Int) (a9 : Int) (a10 : Int) : List D := [.int .i64 a0, .int .i64 a1, .int .i64 a2, .int .i64 a3, .int .i64 a4, .int .i64 a5, .int .i64 a6, .int .i64 a7, .int .i64 a8, .int .u32 a9, .int .u32 a10]
abbrev w14 (a0 : Int) (a1 : Int) (a2 : Int) (a3 : Int) : List D := [.int .i64 a0, .int .i64 a1, .int .i64 a2, .int .i64 a3]


theorem p_sennitlaw32_Conf (a0 : T_world_Config) (r : T_world_Config) (h : sennitlaw32_Conf a0 = some r) : PureAt Tryd.prog 6 [.agg (v1 a0)] (.agg (v1 r)) := by
 refine pure_of_iwp (rs := [.agg (v1 r)]) Tryd.func6 rfl Tryd.ntmps6 (nle rfl) rfl fun O hO => ?_
 show IWP _ _ _ _ ⟨[(0, .agg (v1 a0))], []⟩ _
 unfold sennitlaw32_Conf at h
 refine iwp_reg (ils_cons rfl (iop_box' (cs := q6) 0 rfl rfl (lb rfl) rfl (svA q6 rfl) rfl rfl) <|
  ils_cons rfl (iop_allocS (cs := q6) (cs' := (w13 0 0 0 0 0 0 0 0 0 0 0)) 1 rfl rfl (lb rfl) rfl ti32 rfl rfl (.all _)) <|
  ils_end ?_)
 refine iwp_reg (ils_cons rfl (faR 0 rfl rfl rfl Tryd.underlying28 rfl ti3 (lb rfl) rfl rfl) <|
  ils_cons rfl (iop_load_rs (d := .int _ _) rfl rfl (lb rfl) Tryd.underlying3 ag3 ti3 (by decide) (svR rfl) rfl (nle rfl) rfl) <|
  ils_cons rfl (faR 9 rfl rfl rfl Tryd.underlying28 rfl ti26 (lb rfl) rfl rfl) <|
  ils_cons rfl (lra q9 la26 rfl rfl rfl rfl rfl (nle rfl) rfl) <|
  ils_cons rfl (iop_build_struct (cs := q6) rfl rfl (lb rfl) Tryd.underlying32 ti32 pl32 rfl (.cons (svI rfl) (.cons (svA q9 rfl) .nil)) rfl) <|
  ils_cons rfl (iop_allocS (cs := q6) (cs' := (w13 0 0 0 0 0 0 0 0 0 0 0)) 2 rfl rfl (lb rfl) rfl ti32 rfl rfl (.all _)) <|
  ils_cons rfl (stA q6 q6 ti32 rfl rfl rfl rfl rfl rfl rfl rfl (nle rfl) rfl) <|
  ils_end ?_)
 refine iwp_drw rfl [⟨[1], [], [(9, .ref 0 1)], []⟩,
  ⟨[9], [], [(10, .ref 0 1)], []⟩,
  ⟨[10], [0], [(11, .agg (v3 a0.Values.c0))], []⟩,
  ⟨[1], [], [(12, .ref 0 1)], []⟩,
  ⟨[12], [], [(13, .ref 0 5)], []⟩,
  ⟨[13], [0], [(14, .agg (v3 a0.Values.c1))], []⟩,
  ⟨[3], [], [(15, .ref 2 1)], []⟩,
  ⟨[15], [], [(16, .ref 2 1)], []⟩,
  ⟨[11, 16], [2], [], [(2, .blk 32 (w13 a0.Paths a0.Values.c0.Streams a0.Values.c0.Window a0.Values.c0.Whole a0.Values.c0.Chunk 0 0 0 0 a0.First.c0 a0.First.c1))]⟩,
  ⟨[3], [], [(17, .ref 2 1)], []⟩,
  ⟨[17], [], [(18, .ref 2 5)], []⟩,
  ⟨[14, 18], [2], [], [(2, .blk 32 (v1 a0))]⟩] rfl ?_ (by kernel_rfl) ?_
 ·refine .cons (lop rfl rfl fun S hA => (iop_fieldAddr_ref rfl rfl (lb rfl) Tryd.underlying28 rfl ti24 (by decide) (svaR hA rfl rfl) (off' := 1) rfl)) ?_
  refine .cons (lop rfl rfl fun S hA => (iop_index_ref rfl rfl (lb rfl) Tryd.underlying24 ti23 (svaR hA rfl rfl) (sv (d := .int _ 0) rfl) (by decide) (by decide) (off' := 1) rfl)) ?_
  refine .cons (lop rfl rfl fun S hA => (iop_load_ra (cs := q8) rfl rfl (lb rfl) Tryd.underlying23 ag23 ti23 (by decide) (svaR hA rfl rfl) (agi hA rfl rfl) (nle rfl) rfl)) ?_
  refine .cons (lop rfl rfl fun S hA => (iop_fieldAddr_ref rfl rfl (lb rfl) Tryd.underlying28 rfl ti24 (by decide) (svaR hA rfl rfl) (off' := 1) rfl)) ?_
  refine .cons (lop rfl rfl fun S hA => (iop_index_ref rfl rfl (lb rfl) Tryd.underlying24 ti23 (svaR hA rfl rfl) (sv (d := .int _ 1) rfl) (by decide) (by decide) (off' := 5) rfl)) ?_
  refine .cons (lop rfl rfl fun S hA => (iop_load_ra (cs := q8) rfl rfl (lb rfl) Tryd.underlying23 ag23 ti23 (by decide) (svaR hA rfl rfl) (agi hA rfl rfl) (nle rfl) rfl)) ?_
  refine .cons (lop rfl rfl fun S hA => (iop_fieldAddr_ref rfl rfl (lb rfl) Tryd.underlying32 rfl ti30 (by decide) (svaR hA rfl rfl) (off' := 1) rfl)) ?_
  refine .cons (lop rfl rfl fun S hA => (iop_index_ref rfl rfl (lb rfl) Tryd.underlying30 ti29 (svaR hA rfl rfl) (sv (d := .int _ 0) rfl) (by decide) (by decide) (off' := 1) rfl)) ?_
  refine .cons (lop rfl rfl fun S hA => (iop_store (ds' := q6) rfl rfl ti29 (svaR hA rfl rfl) (agi hA rfl rfl) (svaA q8 hA rfl rfl) rfl rfl rfl (nle rfl) rfl)) ?_
  refine .cons (lop rfl rfl fun S hA => (iop_fieldAddr_ref rfl rfl (lb rfl) Tryd.underlying32 rfl ti30 (by decide) (svaR hA rfl rfl) (off' := 1) rfl)) ?_
  refine .cons (lop rfl rfl fun S hA => (iop_index_ref rfl rfl (lb rfl) Tryd.underlying30 ti29 (svaR hA rfl rfl) (sv (d := .int _ 1) rfl) (by decide) (by decide) (off' := 5) rfl)) ?_
  refine .cons (lop rfl rfl fun S hA => (iop_store (ds' := q6) rfl rfl ti29 (svaR hA rfl rfl) (agi hA rfl rfl) (svaA q8 hA rfl rfl) rfl rfl rfl (nle rfl) rfl)) ?_
  exact .nil
 refine iwp_reg (ils_cons rfl (lra q6 la32 rfl rfl rfl rfl rfl (nle rfl) rfl) <|
  ils_cons rfl (stA q6 q6 ti32 rfl rfl rfl rfl rfl rfl rfl rfl (nle rfl) rfl) <|
  ils_end ?_)
 refine iwp_ret ?_
 obtain rfl := Option.some.inj h
 refine ⟨.inr rfl, (.cons (rva la32 rfl rfl (nle rfl) rfl) .nil)⟩

theorem p_tune_Values_row (a0 : T_tune_Values) (r : T_tune_row) (h : tune_Values_row a0 = some r) : PureAt Tryd.prog 29 [.agg (v3 a0)] (.agg (v4 r)) := by
 refine pure_of_iwp (rs := [.agg (v4 r)]) Tryd.func29 rfl Tryd.ntmps29 (nle rfl) rfl fun O hO => ?_
 show IWP _ _ _ _ ⟨[(0, .agg (v3 a0))], []⟩ _
 unfold tune_Values_row at h
 refine iwp_reg (ils_cons rfl (iop_box' (cs := q8) 0 rfl rfl (lb rfl) rfl (svA q8 rfl) rfl rfl) <|
  ils_cons rfl (iop_allocS (cs := q8) (cs' := (w14 0 0 0 0)) 1 rfl rfl (lb rfl) rfl ti71 rfl rfl (.all _)) <|
  ils_end ?_)
 refine iwp_reg (ils_cons rfl (faR 0 rfl rfl rfl Tryd.underlying29 rfl ti3 (lb rfl) rfl rfl) <|
  ils_cons rfl (iop_load_rs (d := .int _ _) rfl rfl (lb rfl) Tryd.underlying3 ag3 ti3 (by decide) (svR rfl) rfl (nle rfl) rfl) <|
  ils_cons rfl (faR 1 rfl rfl rfl Tryd.underlying29 rfl ti3 (lb rfl) rfl rfl) <|
  ils_cons rfl (iop_load_rs (d := .int _ _) rfl rfl (lb rfl) Tryd.underlying3 ag3 ti3 (by decide) (svR rfl) rfl (nle rfl) rfl) <|
  ils_cons rfl (faR 2 rfl rfl rfl Tryd.underlying29 rfl ti3 (lb rfl) rfl rfl) <|
  ils_cons rfl (iop_load_rs (d := .int _ _) rfl rfl (lb rfl) Tryd.underlying3 ag3 ti3 (by decide) (svR rfl) rfl (nle rfl) rfl) <|
  ils_cons rfl (faR 3 rfl rfl rfl Tryd.underlying29 rfl ti3 (lb rfl) rfl rfl) <|
  ils_cons rfl (iop_load_rs (d := .int _ _) rfl rfl (lb rfl) Tryd.underlying3 ag3 ti3 (by decide) (svR rfl) rfl (nle rfl) rfl) <|
  ils_cons rfl (iop_build_array (cs := q8) rfl rfl (lb rfl) Tryd.underlying71 ti71 ti3 rfl (.cons (svI rfl) (.cons (svI rfl) (.cons (svI rfl) (.cons (svI rfl) .nil)))) rfl) <|
  ils_cons rfl (stA q8 q8 ti71 rfl rfl rfl rfl rfl rfl rfl rfl (nle rfl) rfl) <|
  ils_end ?_)
 refine iwp_ret ?_
 obtain rfl := Option.some.inj h
 refine ⟨.inr rfl, (.cons (rva la71 rfl rfl (nle rfl) rfl) .nil)⟩

theorem p_tune_ends  (r : (T_tune_row × T_tune_row)) (h : tune_ends = some r) : PureAt Tryd.prog 37 [] (retD [.agg (v4 r.1), .agg (v4 r.2)]) := by
 refine pure_of_iwp (rs := [.agg (v4 r.1), .agg (v4 r.2)]) Tryd.func37 rfl Tryd.ntmps37 (nle rfl) rfl fun O hO => ?_
 show IWP _ _ _ _ ⟨[], []⟩ _
 unfold tune_ends at h
 refine iwp_reg (ils_cons rfl (iop_allocS (cs := q8) (cs' := (w14 0 0 0 0)) 0 rfl rfl (lb rfl) rfl ti71 rfl rfl (.all _)) <|
  ils_cons rfl (iop_allocS (cs := q8) (cs' := (w14 0 0 0 0)) 1 rfl rfl (lb rfl) rfl ti71 rfl rfl (.all _)) <|
  ils_end ?_)
 refine iwp_reg (ils_cons rfl (iop_build_array (cs := q8) rfl rfl (lb rfl) Tryd.underlying71 ti71 ti3 rfl (.cons (sv (d := .int _ 0) rfl) (.cons (sv (d := .int _ 1) rfl) (.cons (sv (d := .int _ 1) rfl) (.cons (sv (d := .int _ 1) rfl) .nil)))) rfl) <|
  ils_cons rfl (iop_build_array (cs := q8) rfl rfl (lb rfl) Tryd.underlying71 ti71 ti3 rfl (.cons (sv (d := .int _ 8) rfl) (.cons (sv (d := .int _ 4096) rfl) (.cons (sv (d := .int _ 1048576) rfl) (.cons (sv (d := .int _ 32) rfl) .nil)))) rfl) <|
  ils_cons rfl (stA q8 q8 ti71 rfl rfl rfl rfl rfl rfl rfl rfl (nle rfl) rfl) <|
  ils_cons rfl (stA q8 q8 ti71 rfl rfl rfl rfl rfl rfl rfl rfl (nle rfl) rfl) <|
  ils_end ?_)
 refine iwp_ret ?_
 obtain rfl := Option.some.inj h
 refine ⟨.inr rfl, (.cons (rva la71 rfl rfl (nle rfl) rfl) (.cons (rva la71 rfl rfl (nle rfl) rfl) .nil))⟩

theorem p_tune_row_bent (a0 : T_tune_row) (r : T_tune_row) (h : tune_row_bent a0 = some r) : PureAt Tryd.prog 30 [.agg (v4 a0)] (.agg (v4 r)) := by
 refine pure_of_iwp (rs := [.agg (v4 r)]) Tryd.func30 rfl Tryd.ntmps30 (nle rfl) rfl fun O hO => ?_
 show IWP _ _ _ _ ⟨[(0, .agg (v4 a0))], []⟩ _
 unfold tune_row_bent at h
 refine iwp_reg (ils_cons rfl (iop_box' (cs := q8) 0 rfl rfl (lb rfl) rfl (svA q8 rfl) rfl rfl) <|
  ils_cons rfl (iop_allocS (cs := q8) (cs' := (w14 0 0 0 0)) 1 rfl rfl (lb rfl) rfl ti71 rfl rfl (.all _)) <|
  ils_end ?_)
 obtain ⟨x1, hx1, h⟩ := bno_e h
 refine iwp_reg (ils_cons rfl (iop_call (r := .tuple [.agg q8, .agg q8]) rfl rfl (lb rfl) cl37 .nil rfl (p_tune_ends  _ hx1)) <|
  ils_cons rfl (iop_move rfl rfl (lb rfl) (sv (d := .tuple [.agg q8, .agg q8]) rfl)) <|
  ils_cons rfl (iop_extract (d := .agg q8) rfl rfl (lb rfl) (sv (d := .tuple [.agg q8, .agg q8]) rfl) rfl) <|
  ils_cons rfl (iop_extract (d := .agg q8) rfl rfl (lb rfl) (sv (d := .tuple [.agg q8, .agg q8]) rfl) rfl) <|
  ils_cons rfl (iop_allocS (cs := q8) (cs' := (w14 0 0 0 0)) 2 rfl rfl (lb rfl) rfl ti71 rfl rfl (.all _)) <|
  ils_cons rfl (iop_allocS (cs := q8) (cs' := (w14 0 0 0 0)) 3 rfl rfl (lb rfl) rfl ti71 rfl rfl (.all _)) <|
  ils_cons rfl (stA q8 q8 ti71 rfl rfl rfl rfl rfl rfl rfl rfl (nle rfl) rfl) <|
  ils_cons rfl (stA q8 q8 ti71 rfl rfl rfl rfl rfl rfl rfl rfl (nle rfl) rfl) <|
  ils_end ?_)
 refine iwp_seq ?_
 refine iwp_reg (ils_cons rfl (lra q8 la71 rfl rfl rfl rfl rfl (nle rfl) rfl) <|
  ils_cons rfl (iop_move rfl rfl (lb rfl) (sv (d := .int _ 0) rfl)) <|
  ils_end ?_)
 refine iwp_block ?_
 refine iwp_loopP (α := Nat × Int × Int × Int × Int × Int) (fun z => ⟨[(1, .ref 0 0), (2, .ref 1 0), (3, .ref 2 0), (4, .ref 3 0), (11, .agg (v4 a0)), (12, .int .i64 z.2.1)], [(0, .blk 71 (w14 z.2.2.1 z.2.2.2.1 z.2.2.2.2.1 z.2.2.2.2.2)), (1, .blk 71 (w14 0 0 0 0)), (2, .blk 71 (v4 x1.1)), (3, .blk 71 (v4 x1.2))]⟩) (fun z => tune_row_bent_L0 a0 x1 z.1 z.2.1 z.2.2.1 z.2.2.2.1 z.2.2.2.2.1 z.2.2.2.2.2 = some r) (fun z => z.1) (fuel, 0, a0.c0, a0.c1, a0.c2, a0.c3) (fun i => i) ⟨(.sames rfl rfl), (.cons (.blk rfl rfl rfl) (.cons (.blk rfl rfl rfl) (.cons (.blk rfl rfl rfl) (.cons (.blk rfl rfl rfl) .nil)))), nd_of [0, 1, 2, 3] rfl (by decide), fun _ _ => rfl⟩ ?_ ?_
 ·exact h
 ·
  rintro ⟨n0, v7, v8, v24, v25, v26⟩ h
  cases n0 with
  | zero => exact absurd h (by unfold tune_row_bent_L0; exact nofun)
  | succ n0 =>
   unfold tune_row_bent_L0 at h
   obtain ⟨x42, hx42, h⟩ := bnd_e h
   refine iwp_reg (ils_cons rfl (iop_cmpx rfl rfl (lb rfl) (svI rfl) (sv (d := .int _ 4) rfl) rfl hx42) <|
    ils_end ?_)
   refine iwp_seq ?_
   refine iwp_cond (b := _) rfl (fun hc43 => ?_) (fun hc43 => ?_)
   ·
    replace h := bif_t h hc43
    refine iwp_skip ?_
    refine thenQ_n ?_
    refine iwp_seq ?_
    refine iwp_block ?_
    obtain ⟨x44, hx44, h⟩ := bno_e h
    refine iwp_reg (ils_cons rfl (mvI rfl rfl rfl rfl) <|
     ils_cons rfl (iop_ix_sel_s (eInt .i64) (d := .int _ _) rfl rfl (lb rfl) Tryd.underlying71 Tryd.underlying3 ag3 ti3 (svA q8 rfl) (svI rfl) hx44 rfl ⟨rfl, ⟨rfl, ⟨rfl, ⟨rfl, trivial⟩⟩⟩⟩ rfl) <|
     ils_cons rfl (asI rfl rfl rfl rfl) <|
     ils_cons rfl (asI rfl rfl rfl rfl) <|
     ils_end ?_)
    obtain ⟨hk45, h⟩ := chk_e h
    obtain ⟨x46, hx46, h⟩ := bno_e h
    obtain ⟨hk47, h⟩ := chk_e h
    obtain ⟨x48, hx48, h⟩ := bno_e h
    obtain ⟨x49, hx49, h⟩ := bnd_e h
    obtain ⟨x50, hx50, h⟩ := bnd_e h
    obtain ⟨hk51, h⟩ := chk_e h
    obtain ⟨x52, hx52, h⟩ := bnd_e h
    obtain ⟨x53, hx53, h⟩ := bnd_e h
    obtain ⟨x54, hx54, h⟩ := bnd_e h
    obtain ⟨x55, hx55, h⟩ := bnd_e h
    refine iwp_draw rfl [⟨[5], [], [(16, .int .i64 v7)], []⟩,
     ⟨[5], [], [(17, .int .i64 v7)], []⟩,
     ⟨[3, 17], [], [(18, .ref 2 (0 + (v7 : Int).toNat * 1 + 0))], []⟩,
     ⟨[18], [2], [(19, .int .i64 x46)], []⟩,
     ⟨[6], [], [(20, .int .i64 x44)], []⟩,
     ⟨[5], [], [(21, .int .i64 v7)], []⟩,
     ⟨[4, 21], [], [(22, .ref 3 (0 + (v7 : Int).toNat * 1 + 0))], []⟩,
     ⟨[22], [3], [(23, .int .i64 x48)], []⟩,
     ⟨[20, 23], [], [(24, .int .i64 x49)], []⟩,
     ⟨[19, 24], [], [(25, .int .i64 x50)], []⟩,
     ⟨[1, 16], [], [(26, .ref 0 (0 + (v7 : Int).toNat * 1 + 0))], []⟩,
     ⟨[25, 26], [0], [], [(0, .blk 71 (w14 x52 x53 x54 x55))]⟩] rfl ?_ (by kernel_rfl) ?_
    ·refine .cons (lop rfl rfl fun S hA => (iop_move rfl rfl (lb rfl) (svaI hA rfl rfl))) ?_
     refine .cons (lop rfl rfl fun S hA => (iop_move rfl rfl (lb rfl) (svaI hA rfl rfl))) ?_
     refine .cons (lop rfl rfl fun S hA => (iop_index_sel rfl rfl (lb rfl) Tryd.underlying71 ti3 (svaR hA rfl rfl) (svaI hA rfl rfl) hk45)) ?_
     refine .cons (lop rfl rfl fun S hA => (iop_load_sel_s (eInt .i64) (b := 0) (k := 0) (sz := 1) (d := .int _ _) rfl rfl (lb rfl) Tryd.underlying3 ag3 ti3 (svaR hA rfl rfl) (agi hA rfl rfl) hx46 ⟨rfl, ⟨rfl, ⟨rfl, ⟨rfl, trivial⟩⟩⟩⟩ rfl)) ?_
     refine .cons (lop rfl rfl fun S hA => (iop_move rfl rfl (lb rfl) (svaI hA rfl rfl))) ?_
     refine .cons (lop rfl rfl fun S hA => (iop_move rfl rfl (lb rfl) (svaI hA rfl rfl))) ?_
     refine .cons (lop rfl rfl fun S hA => (iop_index_sel rfl rfl (lb rfl) Tryd.underlying71 ti3 (svaR hA rfl rfl) (svaI hA rfl rfl) hk47)) ?_
     refine .cons (lop rfl rfl fun S hA => (iop_load_sel_s (eInt .i64) (b := 0) (k := 0) (sz := 1) (d := .int _ _) rfl rfl (lb rfl) Tryd.underlying3 ag3 ti3 (svaR hA rfl rfl) (agi hA rfl rfl) hx48 ⟨rfl, ⟨rfl, ⟨rfl, ⟨rfl, trivial⟩⟩⟩⟩ rfl)) ?_
     refine .cons (lop rfl rfl fun S hA => (iop_min2 rfl rfl (lb rfl) (svaI hA rfl rfl) (svaI hA rfl rfl) hx49)) ?_
     refine .cons (lop rfl rfl fun S hA => (iop_max2 rfl rfl (lb rfl) (svaI hA rfl rfl) (svaI hA rfl rfl) hx50)) ?_
     refine .cons (lop rfl rfl fun S hA => (iop_index_sel rfl rfl (lb rfl) Tryd.underlying71 ti3 (svaR hA rfl rfl) (svaI hA rfl rfl) hk51)) ?_
     refine .cons (lop rfl rfl fun S hA => (iop_store_sel (b := 0) (k := 0) (sz := 1) (cs' := (w14 x52 x53 x54 x55)) rfl rfl ti3 (svaR hA rfl rfl) (agi hA rfl rfl) (svaI hA rfl rfl) rfl rfl rfl hk51 rfl ⟨⟨⟨⟨trivial, fun h => by rw [← hx52, ← hx53, ← hx54, ← hx55, h]; rfl⟩, fun h => by rw [← hx52, ← hx53, ← hx54, ← hx55, h]; rfl⟩, fun h => by rw [← hx52, ← hx53, ← hx54, ← hx55, h]; rfl⟩, fun h => by rw [← hx52, ← hx53, ← hx54, ← hx55, h]; rfl⟩)) ?_
     exact .nil
    refine blockQ_n ?_
    refine thenQ_n ?_
    obtain ⟨x56, hx56, h⟩ := bnd_e h
    refine iwp_region (ils_cons rfl (iop_intx rfl rfl (lb rfl) (svI rfl) (sv (d := .int _ 1) rfl) rfl hx56) <|
     ils_cons rfl (mvI rfl rfl rfl rfl) <|
     ils_nil ?_)
    refine thenQ_n ⟨(n0, x56, x52, x53, x54, x55), (fun i => i), ⟨(.sames rfl rfl), (.cons (.blk rfl rfl rfl) (.cons (.blk rfl rfl rfl) (.cons (.blk rfl rfl rfl) (.cons (.blk rfl rfl rfl) .nil)))), nd_of [0, 1, 2, 3] rfl (by decide), fun _ _ => rfl⟩, ?_, ?_⟩
    exact h
    exact Nat.lt_succ_self _
   ·
    replace h := bif_f h hc43
    refine iwp_exit ?_
    refine thenQ_e ?_
    refine thenQ_e ?_
    refine blockQ_e ?_
    refine thenQ_n ?_
    refine iwp_reg (ils_cons rfl (lra q8 la71 rfl rfl rfl rfl rfl (nle rfl) rfl) <|
     ils_cons rfl (stA q8 q8 ti71 rfl rfl rfl rfl rfl rfl rfl rfl (nle rfl) rfl) <|
     ils_end ?_)
    refine iwp_ret ?_
    obtain rfl := Option.some.inj h
    refine ⟨.inr rfl, (.cons (rva la71 rfl rfl (nle rfl) rfl) .nil)⟩

theorem p_tune_Check (a0 : T_tune_Values) (r : Int) (h : tune_Check a0 = some r) : PureAt Tryd.prog 20 [.agg (v3 a0)] (.int .i64 r) := by
 refine pure_of_iwp (rs := [.int .i64 r]) Tryd.func20 rfl Tryd.ntmps20 (nle rfl) rfl fun O hO => ?_
 show IWP _ _ _ _ ⟨[(0, .agg (v3 a0))], []⟩ _
 unfold tune_Check at h
 refine iwp_reg (ils_cons rfl (iop_box' (cs := q8) 0 rfl rfl (lb rfl) rfl (svA q8 rfl) rfl rfl) <|
  ils_cons rfl (iop_assign rfl rfl (lb rfl) (sv (d := .int _ 0) rfl)) <|
  ils_end ?_)
 refine iwp_seq ?_
 obtain ⟨x1, hx1, h⟩ := bno_e h
 refine iwp_reg (ils_cons rfl (lra q8 la29 rfl rfl rfl rfl rfl (nle rfl) rfl) <|
  ils_cons rfl (iop_call (r := .agg q8) rfl rfl (lb rfl) cl29 (.cons (svA q8 rfl) .nil) rfl (p_tune_Values_row _ _ hx1)) <|
  ils_cons rfl (iop_allocS (cs := q8) (cs' := (w14 0 0 0 0)) 1 rfl rfl (lb rfl) rfl ti71 rfl rfl (.all _)) <|
  ils_cons rfl (stA q8 q8 ti71 rfl rfl rfl rfl rfl rfl rfl rfl (nle rfl) rfl) <|
  ils_end ?_)
 obtain ⟨x2, hx2, h⟩ := bno_e h
 obtain ⟨x3, hx3, h⟩ := bnd_e h
 refine iwp_drw rfl [⟨[3], [1], [(6, .agg (v4 x1))], []⟩,
  ⟨[3], [1], [(7, .agg (v4 x1))], []⟩,
  ⟨[7], [], [(8, .agg (v4 x2))], []⟩,
  ⟨[6, 8], [], [(9, .bool (!x3))], []⟩] rfl ?_ (by kernel_rfl) ?_
 ·refine .cons (lop rfl rfl fun S hA => (iop_load_ra (cs := q8) rfl rfl (lb rfl) Tryd.underlying71 ag71 ti71 (by decide) (svaR hA rfl rfl) (agi hA rfl rfl) (nle rfl) rfl)) ?_
  refine .cons (lop rfl rfl fun S hA => (iop_load_ra (cs := q8) rfl rfl (lb rfl) Tryd.underlying71 ag71 ti71 (by decide) (svaR hA rfl rfl) (agi hA rfl rfl) (nle rfl) rfl)) ?_
  refine .cons (lop rfl rfl fun S hA => (iop_call (r := .agg q8) rfl rfl (lb rfl) cl30 (.cons (svaA q8 hA rfl rfl) .nil) rfl (p_tune_row_bent _ _ hx2))) ?_
  refine .cons (lop rfl rfl fun S hA => (iop_net rfl rfl (lb rfl) st71.2 (svaA q8 hA rfl rfl) (svaA q8 hA rfl rfl) (Eq.trans (by kernel_rfl) (congrArg some hx3)))) ?_
  exact .nil
 refine iwp_cond (b := _) rfl (fun hc4 => ?_) (fun hc4 => ?_)
 ·
  replace h := bif_t h hc4
  refine iwp_reg (ils_cons rfl (iop_assign rfl rfl (lb rfl) (sv (d := .int _ 8) rfl)) <|
   ils_end ?_)
  refine iwp_ret ?_
  refine thenQ_r ?_
  obtain rfl := Option.some.inj h
  refine ⟨.inr rfl, (.cons (sv rfl) .nil)⟩
 ·
  replace h := bif_f h hc4
  refine iwp_skip ?_
  refine thenQ_n ?_
  refine iwp_reg (ils_cons rfl (iop_assign rfl rfl (lb rfl) (sv (d := .int _ 0) rfl)) <|
   ils_end ?_)
  refine iwp_ret ?_
  obtain rfl := Option.some.inj h
  refine ⟨.inr rfl, (.cons (sv rfl) .nil)⟩

theorem p_config_Check (a0 : T_world_Config) (r : Int) (h : config_Check a0 = some r) : PureAt Tryd.prog 9 [.agg (v1 a0)] (.int .i64 r) := by
 refine pure_of_iwp (rs := [.int .i64 r]) Tryd.func9 rfl Tryd.ntmps9 (nle rfl) rfl fun O hO => ?_
 show IWP _ _ _ _ ⟨[(0, .agg (v1 a0))], []⟩ _
 unfold config_Check at h
 refine iwp_reg (ils_cons rfl (iop_box' (cs := q6) 0 rfl rfl (lb rfl) rfl (svA q6 rfl) rfl rfl) <|
  ils_cons rfl (iop_assign rfl rfl (lb rfl) (sv (d := .int _ 0) rfl)) <|
  ils_end ?_)
 refine iwp_seq ?_
 obtain ⟨x1, hx1, h⟩ := bnd_e h
 obtain ⟨x2, hx2, h⟩ := bnd_e h
 obtain ⟨x3, hx3, h⟩ := bnd_e h
 refine iwp_reg (ils_cons rfl (faR 0 rfl rfl rfl Tryd.underlying32 rfl ti3 (lb rfl) rfl rfl) <|
  ils_cons rfl (iop_load_rs (d := .int _ _) rfl rfl (lb rfl) Tryd.underlying3 ag3 ti3 (by decide) (svR rfl) rfl (nle rfl) rfl) <|
  ils_cons rfl (iop_cmpx rfl rfl (lb rfl) (svI rfl) (sv (d := .int _ 1) rfl) rfl hx1) <|
  ils_cons rfl (mvB rfl rfl rfl rfl) <|
  ils_guard rfl rfl (.one rfl) rfl (by decide) (fun hb => (faR 0 rfl rfl rfl Tryd.underlying32 rfl ti3 (lb rfl) rfl rfl)) <|
  ils_guard rfl rfl (.one rfl) rfl (by decide) (fun hb => (iop_load_rs (d := .int _ _) rfl rfl (lb rfl) Tryd.underlying3 ag3 ti3 (by decide) (svcR rfl hb) rfl (nle rfl) rfl)) <|
  ils_guard rfl rfl (.one rfl) rfl (by decide) (fun hb => (iop_cmpx rfl rfl (lb rfl) (svcI rfl hb) (sv (d := .int _ 4) rfl) rfl hx2)) <|
  ils_cons rfl (iop_orx rfl rfl (lb rfl) (svB rfl) rfl rfl hx3) <|
  ils_end ?_)
 refine iwp_cond (b := _) rfl (fun hc4 => ?_) (fun hc4 => ?_)
 ·
  replace h := bif_t h hc4
  refine iwp_reg (ils_cons rfl (iop_assign rfl rfl (lb rfl) (sv (d := .int _ 8) rfl)) <|
   ils_end ?_)
  refine iwp_ret ?_
  refine thenQ_r ?_
  obtain rfl := Option.some.inj h
  refine ⟨.inr rfl, (.cons (sv rfl) .nil)⟩
 ·
  replace h := bif_f h hc4
  refine iwp_skip ?_
  refine thenQ_n ?_
  refine iwp_seq ?_
  refine iwp_reg (ils_cons rfl (faR 1 rfl rfl rfl Tryd.underlying32 rfl ti30 (lb rfl) rfl rfl) <|
   ils_cons rfl (lra q7 la30 rfl rfl rfl rfl rfl (nle rfl) rfl) <|
   ils_cons rfl (iop_move rfl rfl (lb rfl) (sv (d := .int _ 0) rfl)) <|
   ils_end ?_)
  refine iwp_block ?_
  refine iwp_loopP (α := Nat × Int) (fun z => ⟨[(15, .agg (v2 a0.Values)), (16, .int .i64 z.2)], []⟩) (fun z => config_Check_L0 a0 z.1 z.2 = some r) (fun z => z.1) (fuel, 0) (fun i => i) ⟨(.sames rfl rfl), .nil, nd_of [] rfl (by decide), fun _ _ => rfl⟩ ?_ ?_
  ·exact h
  ·
   rintro ⟨n0, v11⟩ h
   cases n0 with
   | zero => exact absurd h (by unfold config_Check_L0; exact nofun)
   | succ n0 =>
    unfold config_Check_L0 at h
    obtain ⟨x19, hx19, h⟩ := bnd_e h
    refine iwp_reg (ils_cons rfl (iop_cmpx rfl rfl (lb rfl) (svI rfl) (sv (d := .int _ 2) rfl) rfl hx19) <|
     ils_end ?_)
    refine iwp_seq ?_
    refine iwp_cond (b := _) rfl (fun hc20 => ?_) (fun hc20 => ?_)
    ·
     replace h := bif_t h hc20
     refine iwp_skip ?_
     refine thenQ_n ?_
     refine iwp_seq ?_
     refine iwp_block ?_
     obtain ⟨x21, hx21, h⟩ := bno_e h
     refine iwp_reg (ils_cons rfl (iop_ix_sel_a E_tune_Values (ds := q8) rfl rfl (lb rfl) Tryd.underlying30 Tryd.underlying29 ag29 ti29 (by decide) (svA q7 rfl) (svI rfl) hx21 rfl ⟨rfl, ⟨rfl, trivial⟩⟩ rfl rfl) <|
      ils_cons rfl (iop_allocS (cs := q8) (cs' := (w14 0 0 0 0)) 0 rfl rfl (lb rfl) rfl ti29 rfl rfl (.all _)) <|
      ils_cons rfl (stA q8 q8 ti29 rfl rfl rfl rfl rfl rfl rfl rfl (nle rfl) rfl) <|
      ils_end ?_)
     obtain ⟨x22, hx22, h⟩ := bno_e h
     refine iwp_reg (ils_cons rfl (lra q8 la29 rfl rfl rfl rfl rfl (nle rfl) rfl) <|
      ils_cons rfl (iop_call (r := .int _ _) rfl rfl (lb rfl) cl20 (.cons (svA q8 rfl) .nil) rfl (p_tune_Check _ _ hx22)) <|
      ils_cons rfl (asI rfl rfl rfl rfl) <|
      ils_end ?_)
     obtain ⟨x23, hx23, h⟩ := bnd_e h
     refine iwp_reg (ils_cons rfl (mvI rfl rfl rfl rfl) <|
      ils_cons rfl (iop_cmpx rfl rfl (lb rfl) (svI rfl) (sv (d := .int _ 0) rfl) rfl hx23) <|
      ils_end ?_)
     refine iwp_cond (b := _) rfl (fun hc24 => ?_) (fun hc24 => ?_)
     ·
      replace h := bif_t h hc24
      refine iwp_reg (ils_cons rfl (mvI rfl rfl rfl rfl) <|
       ils_cons rfl (asI rfl rfl rfl rfl) <|
       ils_end ?_)
      refine iwp_ret ?_
      refine blockQ_r ?_
      refine thenQ_r ?_
      refine thenQ_r ?_
      refine blockQ_r ?_
      refine thenQ_r ?_
      obtain rfl := Option.some.inj h
      refine ⟨.inr rfl, (.cons (sv rfl) .nil)⟩
     ·
      replace h := bif_f h hc24
      refine iwp_skip ?_
      refine blockQ_n ?_
      refine thenQ_n ?_
      obtain ⟨x25, hx25, h⟩ := bnd_e h
      refine iwp_region (ils_cons rfl (iop_intx rfl rfl (lb rfl) (svI rfl) (sv (d := .int _ 1) rfl) rfl hx25) <|
       ils_cons rfl (mvI rfl rfl rfl rfl) <|
       ils_nil ?_)
      refine thenQ_n ⟨(n0, x25), (fun i => i), ⟨(.sames rfl rfl), .nil, nd_of [] rfl (by decide), fun _ _ => rfl⟩, ?_, ?_⟩
      exact h
      exact Nat.lt_succ_self _
    ·
     replace h := bif_f h hc20
     refine iwp_exit ?_
     refine thenQ_e ?_
     refine thenQ_e ?_
     refine blockQ_e ?_
     refine thenQ_n ?_
     refine iwp_reg (ils_cons rfl (iop_assign rfl rfl (lb rfl) (sv (d := .int _ 0) rfl)) <|
      ils_end ?_)
     refine iwp_ret ?_
     obtain rfl := Option.some.inj h
     refine ⟨.inr rfl, (.cons (sv rfl) .nil)⟩

theorem p_strconv_Itoa (a0 : Int) (r : (List UInt8)) (h : strconv_Itoa a0 = some r) : PureAt Tryd.prog 27 [.int .i64 a0] (.str r) := p_itoa a0 r h

theorem p_config_line (a0 : (List UInt8)) (a1 : (List Int)) (r : (List UInt8)) (h : config_line a0 a1 = some r) : PureAt Tryd.prog 18 [.str a0, .slice false (a1.map (eInt .i64).d)] (.str r) := by
 refine pure_of_iwp (rs := [.str r]) Tryd.func18 rfl Tryd.ntmps18 (nle rfl) rfl fun O hO => ?_
 show IWP _ _ _ _ ⟨[(0, .str a0), (1, .slice false (a1.map (eInt .i64).d))], []⟩ _
 unfold config_line at h
 refine iwp_reg (ils_cons rfl (iop_assign rfl rfl (lb rfl) (sv (d := .str []) rfl)) <|
  ils_end ?_)
 refine iwp_seq ?_
 refine iwp_reg (ils_cons rfl (mvL rfl rfl rfl rfl) <|
  ils_cons rfl (iop_lenT (eInt .i64) (l := a1) rfl rfl (lb rfl) Tryd.underlying54 (svL rfl)) <|
  ils_cons rfl (iop_move rfl rfl (lb rfl) (sv (d := .int _ 0) rfl)) <|
  ils_end ?_)
 refine iwp_block ?_
 refine iwp_loopP (α := Nat × (List UInt8) × Int) (fun z => ⟨[(0, .str z.2.1), (7, .slice false (a1.map (eInt .i64).d)), (8, .int .i64 (a1.length : Int)), (9, .int .i64 z.2.2)], []⟩) (fun z => config_line_L0 a1 z.1 z.2.1 z.2.2 = some r) (fun z => z.1) (fuel, a0, 0) (fun i => i) ⟨(.sames rfl rfl), .nil, nd_of [] rfl (by decide), fun _ _ => rfl⟩ ?_ ?_
 ·exact h
 ·
  rintro ⟨n0, v8, v9⟩ h
  cases n0 with
  | zero => exact absurd h (by unfold config_line_L0; exact nofun)
  | succ n0 =>
   unfold config_line_L0 at h
   obtain ⟨x17, hx17, h⟩ := bnd_e h
   refine iwp_reg (ils_cons rfl (iop_cmpx rfl rfl (lb rfl) (svI rfl) (svI rfl) rfl hx17) <|
    ils_end ?_)
   refine iwp_seq ?_
   refine iwp_cond (b := _) rfl (fun hc18 => ?_) (fun hc18 => ?_)
   ·
    replace h := bif_t h hc18
    refine iwp_skip ?_
    refine thenQ_n ?_
    refine iwp_seq ?_
    refine iwp_block ?_
    obtain ⟨x19, hx19, h⟩ := bno_e h
    refine iwp_reg (ils_cons rfl (iop_idxT (eInt .i64) (cs := [.int _ _]) rfl rfl (lb rfl) Tryd.underlying54 ti3 (svL rfl) (svI rfl) hx19 rfl rfl) <|
     ils_cons rfl (iop_load_fs rfl rfl (lb rfl) Tryd.underlying3 ag3 ti3 (by decide) (sv (d := .fptr [.int _ _]) rfl) (nle rfl)) <|
     ils_cons rfl (asI rfl rfl rfl rfl) <|
     ils_end ?_)
    obtain ⟨x20, hx20, h⟩ := bno_e h
    obtain ⟨x21, hx21, h⟩ := bno_e h
    obtain ⟨x22, hx22, h⟩ := bno_e h
    refine iwp_region (ils_cons rfl (iop_move rfl rfl (lb rfl) (sv (d := .str _) rfl)) <|
     ils_cons rfl (mvI rfl rfl rfl rfl) <|
     ils_cons rfl (iop_call (r := .str _) rfl rfl (lb rfl) cl27 (.cons (svI rfl) .nil) rfl (p_strconv_Itoa _ _ hx20)) <|
     ils_cons rfl (iop_catx rfl rfl (lb rfl) (sv (d := .str [32]) rfl) (sv (d := .str _) rfl) hx21) <|
     ils_cons rfl (iop_catx rfl rfl (lb rfl) (sv (d := .str _) rfl) (sv (d := .str _) rfl) hx22) <|
     ils_cons rfl (iop_assign rfl rfl (lb rfl) (sv (d := .str _) rfl)) <|
     ils_nil ?_)
    refine blockQ_n ?_
    refine thenQ_n ?_
    obtain ⟨x23, hx23, h⟩ := bnd_e h
    refine iwp_region (ils_cons rfl (iop_intx rfl rfl (lb rfl) (svI rfl) (sv (d := .int _ 1) rfl) rfl hx23) <|
     ils_cons rfl (mvI rfl rfl rfl rfl) <|
     ils_nil ?_)
    refine thenQ_n ⟨(n0, x22, x23), (fun i => i), ⟨(.sames rfl rfl), .nil, nd_of [] rfl (by decide), fun _ _ => rfl⟩, ?_, ?_⟩
    exact h
    exact Nat.lt_succ_self _
   ·
    replace h := bif_f h hc18
    refine iwp_exit ?_
    refine thenQ_e ?_
    refine thenQ_e ?_
    refine blockQ_e ?_
    refine thenQ_n ?_
    obtain ⟨x24, hx24, h⟩ := bno_e h
    refine iwp_reg (ils_cons rfl (iop_move rfl rfl (lb rfl) (sv (d := .str _) rfl)) <|
     ils_cons rfl (iop_catx rfl rfl (lb rfl) (sv (d := .str _) rfl) (sv (d := .str [10]) rfl) hx24) <|
     ils_cons rfl (iop_assign rfl rfl (lb rfl) (sv (d := .str _) rfl)) <|
     ils_end ?_)
    refine iwp_ret ?_
    obtain rfl := Option.some.inj h
    refine ⟨.inr rfl, (.cons (sv rfl) .nil)⟩

theorem p_config_Print (a0 : T_world_Config) (r : ((List UInt8) × Int)) (h : config_Print a0 = some r) : PureAt Tryd.prog 7 [.agg (v1 a0)] (retD [.str r.1, .int .i64 r.2]) := by
 refine pure_of_iwp (rs := [.str r.1, .int .i64 r.2]) Tryd.func7 rfl Tryd.ntmps7 (nle rfl) rfl fun O hO => ?_
 show IWP _ _ _ _ ⟨[(0, .agg (v1 a0))], []⟩ _
 unfold config_Print at h
 refine iwp_reg (ils_cons rfl (iop_box' (cs := q6) 0 rfl rfl (lb rfl) rfl (svA q6 rfl) rfl rfl) <|
  ils_cons rfl (iop_assign rfl rfl (lb rfl) (sv (d := .str []) rfl)) <|
  ils_cons rfl (iop_assign rfl rfl (lb rfl) (sv (d := .int _ 0) rfl)) <|
  ils_end ?_)
 refine iwp_seq ?_
 obtain ⟨x1, hx1, h⟩ := bno_e h
 refine iwp_reg (ils_cons rfl (lra q6 la32 rfl rfl rfl rfl rfl (nle rfl) rfl) <|
  ils_cons rfl (iop_call (r := .int _ _) rfl rfl (lb rfl) cl9 (.cons (svA q6 rfl) .nil) rfl (p_config_Check _ _ hx1)) <|
  ils_cons rfl (asI rfl rfl rfl rfl) <|
  ils_end ?_)
 obtain ⟨x2, hx2, h⟩ := bnd_e h
 refine iwp_reg (ils_cons rfl (mvI rfl rfl rfl rfl) <|
  ils_cons rfl (iop_cmpx rfl rfl (lb rfl) (svI rfl) (sv (d := .int _ 0) rfl) rfl hx2) <|
  ils_end ?_)
 refine iwp_cond (b := _) rfl (fun hc3 => ?_) (fun hc3 => ?_)
 ·
  replace h := bif_t h hc3
  refine iwp_reg (ils_cons rfl (mvI rfl rfl rfl rfl) <|
   ils_cons rfl (iop_assign rfl rfl (lb rfl) (sv (d := .str []) rfl)) <|
   ils_cons rfl (asI rfl rfl rfl rfl) <|
   ils_end ?_)
  refine iwp_ret ?_
  refine thenQ_r ?_
  obtain rfl := Option.some.inj h
  refine ⟨.inr rfl, (.cons (sv rfl) (.cons (sv rfl) .nil))⟩
 ·
  replace h := bif_f h hc3
  refine iwp_skip ?_
  refine thenQ_n ?_
  obtain ⟨x4, hx4, h⟩ := bno_e h
  refine iwp_reg (ils_cons rfl (faR 0 rfl rfl rfl Tryd.underlying32 rfl ti3 (lb rfl) rfl rfl) <|
   ils_cons rfl (iop_load_rs (d := .int _ _) rfl rfl (lb rfl) Tryd.underlying3 ag3 ti3 (by decide) (svR rfl) rfl (nle rfl) rfl) <|
   ils_cons rfl (iop_bsT (eInt .i64) ([a0.Paths] : (List Int)) 1 rfl rfl (lb rfl) Tryd.underlying54 ti3 rfl (.cons (svI rfl) .nil) rfl rfl (by decide)) <|
   ils_cons rfl (iop_call (r := .str _) rfl rfl (lb rfl) cl18 (.cons (sv (d := .str [112, 97, 116, 104, 115]) rfl) (.cons (svg rfl) .nil)) rfl (p_config_line _ _ _ hx4)) <|
   ils_cons rfl (iop_assign rfl rfl (lb rfl) (sv (d := .str _) rfl)) <|
   ils_end ?_)
  refine iwp_seq ?_
  refine iwp_reg (ils_cons rfl (faR 1 rfl rfl rfl Tryd.underlying32 rfl ti30 (lb rfl) rfl rfl) <|
   ils_cons rfl (lra q7 la30 rfl rfl rfl rfl rfl (nle rfl) rfl) <|
   ils_cons rfl (iop_move rfl rfl (lb rfl) (sv (d := .int _ 0) rfl)) <|
   ils_end ?_)
  refine iwp_block ?_
  refine iwp_loopP (α := Nat × (List UInt8) × Int) (fun z => ⟨[(1, .ref 0 0), (5, .str z.2.1), (20, .agg (v2 a0.Values)), (21, .int .i64 z.2.2)], [(0, .blk 32 (v1 a0))]⟩) (fun z => config_Print_L0 a0 z.1 z.2.1 z.2.2 = some r) (fun z => z.1) (fuel, x4, 0) (fun i => i) ⟨(.sames rfl rfl), (.cons (.blk rfl rfl rfl) .nil), nd_of [0] rfl (by decide), fun _ _ => rfl⟩ ?_ ?_
  ·exact h
  ·
   rintro ⟨n0, v10, v11⟩ h
   cases n0 with
   | zero => exact absurd h (by unfold config_Print_L0; exact nofun)
   | succ n0 =>
    unfold config_Print_L0 at h
    obtain ⟨x18, hx18, h⟩ := bnd_e h
    refine iwp_reg (ils_cons rfl (iop_cmpx rfl rfl (lb rfl) (svI rfl) (sv (d := .int _ 2) rfl) rfl hx18) <|
     ils_end ?_)
    refine iwp_seq ?_
    refine iwp_cond (b := _) rfl (fun hc19 => ?_) (fun hc19 => ?_)
    ·
     replace h := bif_t h hc19
     refine iwp_skip ?_
     refine thenQ_n ?_
     refine iwp_seq ?_
     refine iwp_block ?_
     obtain ⟨x20, hx20, h⟩ := bno_e h
     refine iwp_reg (ils_cons rfl (mvI rfl rfl rfl rfl) <|
      ils_cons rfl (iop_ix_sel_a E_tune_Values (ds := q8) rfl rfl (lb rfl) Tryd.underlying30 Tryd.underlying29 ag29 ti29 (by decide) (svA q7 rfl) (svI rfl) hx20 rfl ⟨rfl, ⟨rfl, trivial⟩⟩ rfl rfl) <|
      ils_cons rfl (iop_allocS (cs := q8) (cs' := (w14 0 0 0 0)) 1 rfl rfl (lb rfl) rfl ti29 rfl rfl (.all _)) <|
      ils_cons rfl (asI rfl rfl rfl rfl) <|
      ils_cons rfl (stA q8 q8 ti29 rfl rfl rfl rfl rfl rfl rfl rfl (nle rfl) rfl) <|
      ils_end ?_)
     obtain ⟨x21, hx21, h⟩ := bno_e h
     obtain ⟨x22, hx22, h⟩ := bno_e h
     refine iwp_region (ils_cons rfl (iop_move rfl rfl (lb rfl) (sv (d := .str _) rfl)) <|
      ils_cons rfl (mvI rfl rfl rfl rfl) <|
      ils_cons rfl (faR 0 rfl rfl rfl Tryd.underlying29 rfl ti3 (lb rfl) rfl rfl) <|
      ils_cons rfl (iop_load_rs (d := .int _ _) rfl rfl (lb rfl) Tryd.underlying3 ag3 ti3 (by decide) (svR rfl) rfl (nle rfl) rfl) <|
      ils_cons rfl (faR 1 rfl rfl rfl Tryd.underlying29 rfl ti3 (lb rfl) rfl rfl) <|
      ils_cons rfl (iop_load_rs (d := .int _ _) rfl rfl (lb rfl) Tryd.underlying3 ag3 ti3 (by decide) (svR rfl) rfl (nle rfl) rfl) <|
      ils_cons rfl (faR 2 rfl rfl rfl Tryd.underlying29 rfl ti3 (lb rfl) rfl rfl) <|
      ils_cons rfl (iop_load_rs (d := .int _ _) rfl rfl (lb rfl) Tryd.underlying3 ag3 ti3 (by decide) (svR rfl) rfl (nle rfl) rfl) <|
      ils_cons rfl (faR 3 rfl rfl rfl Tryd.underlying29 rfl ti3 (lb rfl) rfl rfl) <|
      ils_cons rfl (iop_load_rs (d := .int _ _) rfl rfl (lb rfl) Tryd.underlying3 ag3 ti3 (by decide) (svR rfl) rfl (nle rfl) rfl) <|
      ils_cons rfl (iop_bsT (eInt .i64) ([v11, x20.Streams, x20.Window, x20.Whole, x20.Chunk] : (List Int)) 2 rfl rfl (lb rfl) Tryd.underlying54 ti3 rfl (.cons (svI rfl) (.cons (svI rfl) (.cons (svI rfl) (.cons (svI rfl) (.cons (svI rfl) .nil))))) rfl rfl (by decide)) <|
      ils_cons rfl (iop_call (r := .str _) rfl rfl (lb rfl) cl18 (.cons (sv (d := .str [118, 97, 108, 117, 101, 115]) rfl) (.cons (svg rfl) .nil)) rfl (p_config_line _ _ _ hx21)) <|
      ils_cons rfl (iop_catx rfl rfl (lb rfl) (sv (d := .str _) rfl) (sv (d := .str _) rfl) hx22) <|
      ils_cons rfl (iop_assign rfl rfl (lb rfl) (sv (d := .str _) rfl)) <|
      ils_nil ?_)
     refine blockQ_n ?_
     refine thenQ_n ?_
     obtain ⟨x23, hx23, h⟩ := bnd_e h
     refine iwp_region (ils_cons rfl (iop_intx rfl rfl (lb rfl) (svI rfl) (sv (d := .int _ 1) rfl) rfl hx23) <|
      ils_cons rfl (mvI rfl rfl rfl rfl) <|
      ils_nil ?_)
     refine thenQ_n ⟨(n0, x22, x23), (fun i => i), ⟨(.sames rfl rfl), (.cons (.blk rfl rfl rfl) .nil), nd_of [0] rfl (by decide), fun _ _ => rfl⟩, ?_, ?_⟩
     exact h
     exact Nat.lt_succ_self _
    ·
     replace h := bif_f h hc19
     refine iwp_exit ?_
     refine thenQ_e ?_
     refine thenQ_e ?_
     refine blockQ_e ?_
     refine thenQ_n ?_
     refine iwp_seq ?_
     refine iwp_reg (ils_cons rfl (faR 9 rfl rfl rfl Tryd.underlying32 rfl ti26 (lb rfl) rfl rfl) <|
      ils_cons rfl (lra q9 la26 rfl rfl rfl rfl rfl (nle rfl) rfl) <|
      ils_cons rfl (iop_move rfl rfl (lb rfl) (sv (d := .int _ 0) rfl)) <|
      ils_end ?_)
     refine iwp_block ?_
     refine iwp_loopP (α := Nat × (List UInt8) × Int) (fun z => ⟨[(5, .str z.2.1), (40, .agg [.int .u32 a0.First.c0, .int .u32 a0.First.c1]), (41, .int .i64 z.2.2)], []⟩) (fun z => config_Print_L1 a0 z.1 z.2.1 z.2.2 = some r) (fun z => z.1) (fuel, v10, 0) (fun i => i) ⟨(.sames rfl rfl), .nil, nd_of [] rfl (by decide), fun _ _ => rfl⟩ ?_ ?_
     ·exact h
     ·
      rintro ⟨n1, v30, v31⟩ h
      cases n1 with
      | zero => exact absurd h (by unfold config_Print_L1; exact nofun)
      | succ n1 =>
       unfold config_Print_L1 at h
       obtain ⟨x39, hx39, h⟩ := bnd_e h
       refine iwp_reg (ils_cons rfl (iop_cmpx rfl rfl (lb rfl) (svI rfl) (sv (d := .int _ 2) rfl) rfl hx39) <|
        ils_end ?_)
       refine iwp_seq ?_
       refine iwp_cond (b := _) rfl (fun hc40 => ?_) (fun hc40 => ?_)
       ·
        replace h := bif_t h hc40
        refine iwp_skip ?_
        refine thenQ_n ?_
        refine iwp_seq ?_
        refine iwp_block ?_
        obtain ⟨x41, hx41, h⟩ := bno_e h
        refine iwp_reg (ils_cons rfl (mvI rfl rfl rfl rfl) <|
         ils_cons rfl (iop_ix_sel_s (eInt .u32) (d := .int _ _) rfl rfl (lb rfl) Tryd.underlying26 Tryd.underlying25 ag25 ti25 (svA q9 rfl) (svI rfl) hx41 rfl ⟨rfl, ⟨rfl, trivial⟩⟩ rfl) <|
         ils_cons rfl (asI rfl rfl rfl rfl) <|
         ils_cons rfl (asI rfl rfl rfl rfl) <|
         ils_end ?_)
        obtain ⟨x42, hx42, h⟩ := bnd_e h
        obtain ⟨x43, hx43, h⟩ := bno_e h
        obtain ⟨x44, hx44, h⟩ := bno_e h
        refine iwp_region (ils_cons rfl (iop_move rfl rfl (lb rfl) (sv (d := .str _) rfl)) <|
         ils_cons rfl (mvI rfl rfl rfl rfl) <|
         ils_cons rfl (mvI rfl rfl rfl rfl) <|
         ils_cons rfl (iop_int_conv rfl rfl (lb rfl) ⟨_, Tryd.underlying25⟩ Tryd.underlying3 (svI rfl) hx42) <|
         ils_cons rfl (iop_bsT (eInt .i64) ([v31, x42] : (List Int)) 0 rfl rfl (lb rfl) Tryd.underlying54 ti3 rfl (.cons (svI rfl) (.cons (svI rfl) .nil)) rfl rfl (by decide)) <|
         ils_cons rfl (iop_call (r := .str _) rfl rfl (lb rfl) cl18 (.cons (sv (d := .str [102, 105, 114, 115, 116]) rfl) (.cons (svg rfl) .nil)) rfl (p_config_line _ _ _ hx43)) <|
         ils_cons rfl (iop_catx rfl rfl (lb rfl) (sv (d := .str _) rfl) (sv (d := .str _) rfl) hx44) <|
         ils_cons rfl (iop_assign rfl rfl (lb rfl) (sv (d := .str _) rfl)) <|
         ils_nil ?_)
        refine blockQ_n ?_
        refine thenQ_n ?_
        obtain ⟨x45, hx45, h⟩ := bnd_e h
        refine iwp_region (ils_cons rfl (iop_intx rfl rfl (lb rfl) (svI rfl) (sv (d := .int _ 1) rfl) rfl hx45) <|
         ils_cons rfl (mvI rfl rfl rfl rfl) <|
         ils_nil ?_)
        refine thenQ_n ⟨(n1, x44, x45), (fun i => i), ⟨(.sames rfl rfl), .nil, nd_of [] rfl (by decide), fun _ _ => rfl⟩, ?_, ?_⟩
        exact h
        exact Nat.lt_succ_self _
       ·
        replace h := bif_f h hc40
        refine iwp_exit ?_
        refine thenQ_e ?_
        refine thenQ_e ?_
        refine blockQ_e ?_
        refine thenQ_n ?_
        refine iwp_reg (ils_cons rfl (iop_move rfl rfl (lb rfl) (sv (d := .str _) rfl)) <|
         ils_cons rfl (iop_assign rfl rfl (lb rfl) (sv (d := .str _) rfl)) <|
         ils_cons rfl (iop_assign rfl rfl (lb rfl) (sv (d := .int _ 0) rfl)) <|
         ils_end ?_)
        refine iwp_ret ?_
        obtain rfl := Option.some.inj h
        refine ⟨.inr rfl, (.cons (sv rfl) (.cons (sv rfl) .nil))⟩

theorem p_config_Digest (a0 : T_world_Config) (r : Int) (h : config_Digest a0 = some r) : PureAt Tryd.prog 11 [.agg (v1 a0)] (.int .u32 r) := by
 refine pure_of_iwp (rs := [.int .u32 r]) Tryd.func11 rfl Tryd.ntmps11 (nle rfl) rfl fun O hO => ?_
 show IWP _ _ _ _ ⟨[(0, .agg (v1 a0))], []⟩ _
 unfold config_Digest at h
 refine iwp_reg (ils_cons rfl (iop_box' (cs := q6) 0 rfl rfl (lb rfl) rfl (svA q6 rfl) rfl rfl) <|
  ils_cons rfl (iop_assign rfl rfl (lb rfl) (sv (d := .int _ 0) rfl)) <|
  ils_end ?_)
 obtain ⟨x1, hx1, h⟩ := bno_e h
 refine iwp_reg (ils_cons rfl (lra q6 la32 rfl rfl rfl rfl rfl (nle rfl) rfl) <|
  ils_cons rfl (iop_call (r := .tuple q10) rfl rfl (lb rfl) cl7 (.cons (svA q6 rfl) .nil) rfl (p_config_Print _ _ hx1)) <|
  ils_cons rfl (iop_move rfl rfl (lb rfl) (sv (d := .tuple q10) rfl)) <|
  ils_cons rfl (iop_extract (d := .str _) rfl rfl (lb rfl) (sv (d := .tuple q10) rfl) rfl) <|
  ils_cons rfl (iop_extract (d := .int _ _) rfl rfl (lb rfl) (sv (d := .tuple q10) rfl) rfl) <|
  ils_cons rfl (iop_assign rfl rfl (lb rfl) (sv (d := .str _) rfl)) <|
  ils_cons rfl (asI rfl rfl rfl rfl) <|
  ils_end ?_)
 refine iwp_seq ?_
 obtain ⟨x2, hx2, h⟩ := bnd_e h
 refine iwp_reg (ils_cons rfl (mvI rfl rfl rfl rfl) <|
  ils_cons rfl (iop_cmpx rfl rfl (lb rfl) (svI rfl) (sv (d := .int _ 0) rfl) rfl hx2) <|
  ils_end ?_)
 refine iwp_cond (b := _) rfl (fun hc3 => ?_) (fun hc3 => ?_)
 ·
  replace h := bif_t h hc3
  refine iwp_reg (ils_cons rfl (iop_assign rfl rfl (lb rfl) (sv (d := .int _ 0) rfl)) <|
   ils_end ?_)
  refine iwp_ret ?_
  refine thenQ_r ?_
  obtain rfl := Option.some.inj h
  refine ⟨.inr rfl, (.cons (sv rfl) .nil)⟩
 ·
  replace h := bif_f h hc3
  refine iwp_skip ?_
  refine thenQ_n ?_
  refine iwp_reg (ils_cons rfl (iop_assign rfl rfl (lb rfl) (sv (d := .int _ 2166136261) rfl)) <|
   ils_end ?_)
  refine iwp_seq ?_
  refine iwp_reg (ils_cons rfl (iop_move rfl rfl (lb rfl) (sv (d := .str _) rfl)) <|
   ils_cons rfl (iop_str_bytes rfl rfl (lb rfl) Tryd.underlying9 Tryd.underlying57 Tryd.underlying5 (sv (d := .str _) rfl)) <|
   ils_cons rfl (iop_lenT eByte (l := x1.1) rfl rfl (lb rfl) Tryd.underlying57 (svL rfl)) <|
   ils_cons rfl (iop_move rfl rfl (lb rfl) (sv (d := .int _ 0) rfl)) <|
   ils_end ?_)
  refine iwp_block ?_
  refine iwp_loopP (α := Nat × Int × Int) (fun z => ⟨[(5, .int .u32 z.2.1), (16, .slice false (x1.1.map eByte.d)), (17, .int .i64 (x1.1.length : Int)), (18, .int .i64 z.2.2)], []⟩) (fun z => config_Digest_L0 x1 z.1 z.2.1 z.2.2 = some r) (fun z => z.1) (fuel, 2166136261, 0) (fun i => i) ⟨(.sames rfl rfl), .nil, nd_of [] rfl (by decide), fun _ _ => rfl⟩ ?_ ?_
  ·exact h
  ·
   rintro ⟨n0, v11, v12⟩ h
   cases n0 with
   | zero => exact absurd h (by unfold config_Digest_L0; exact nofun)
   | succ n0 =>
    unfold config_Digest_L0 at h
    obtain ⟨x20, hx20, h⟩ := bnd_e h
    refine iwp_reg (ils_cons rfl (iop_cmpx rfl rfl (lb rfl) (svI rfl) (svI rfl) rfl hx20) <|
     ils_end ?_)
    refine iwp_seq ?_
    refine iwp_cond (b := _) rfl (fun hc21 => ?_) (fun hc21 => ?_)
    ·
     replace h := bif_t h hc21
     refine iwp_skip ?_
     refine thenQ_n ?_
     refine iwp_seq ?_
     refine iwp_block ?_
     obtain ⟨x22, hx22, h⟩ := bno_e h
     refine iwp_reg (ils_cons rfl (iop_idxT eByte (cs := [.int _ _]) rfl rfl (lb rfl) Tryd.underlying57 ti5 (svL rfl) (svI rfl) hx22 rfl rfl) <|
      ils_cons rfl (iop_load_fs rfl rfl (lb rfl) Tryd.underlying5 ag5 ti5 (by decide) (sv (d := .fptr [.int _ _]) rfl) (nle rfl)) <|
      ils_cons rfl (asI rfl rfl rfl rfl) <|
      ils_end ?_)
     obtain ⟨x23, hx23, h⟩ := bnd_e h
     obtain ⟨x24, hx24, h⟩ := bnd_e h
     refine iwp_reg (ils_cons rfl (mvI rfl rfl rfl rfl) <|
      ils_cons rfl (mvI rfl rfl rfl rfl) <|
      ils_cons rfl (iop_int_conv rfl rfl (lb rfl) ⟨_, Tryd.underlying5⟩ Tryd.underlying25 (svI rfl) hx23) <|
      ils_cons rfl (iop_intx rfl rfl (lb rfl) (svI rfl) (svI rfl) rfl hx24) <|
      ils_cons rfl (asI rfl rfl rfl rfl) <|
      ils_end ?_)
     obtain ⟨x25, hx25, h⟩ := bnd_e h
     refine iwp_region (ils_cons rfl (mvI rfl rfl rfl rfl) <|
      ils_cons rfl (iop_intx rfl rfl (lb rfl) (svI rfl) (sv (d := .int _ 16777619) rfl) rfl hx25) <|
      ils_cons rfl (asI rfl rfl rfl rfl) <|
      ils_nil ?_)
     refine blockQ_n ?_
     refine thenQ_n ?_
     obtain ⟨x26, hx26, h⟩ := bnd_e h
     refine iwp_region (ils_cons rfl (iop_intx rfl rfl (lb rfl) (svI rfl) (sv (d := .int _ 1) rfl) rfl hx26) <|
      ils_cons rfl (mvI rfl rfl rfl rfl) <|
      ils_nil ?_)
     refine thenQ_n ⟨(n0, x25, x26), (fun i => i), ⟨(.sames rfl rfl), .nil, nd_of [] rfl (by decide), fun _ _ => rfl⟩, ?_, ?_⟩
     exact h
     exact Nat.lt_succ_self _
    ·
     replace h := bif_f h hc21
     refine iwp_exit ?_
     refine thenQ_e ?_
     refine thenQ_e ?_
     refine blockQ_e ?_
     refine thenQ_n ?_
     refine iwp_reg (ils_cons rfl (mvI rfl rfl rfl rfl) <|
      ils_cons rfl (asI rfl rfl rfl rfl) <|
      ils_end ?_)
     refine iwp_ret ?_
     obtain rfl := Option.some.inj h
     refine ⟨.inr rfl, (.cons (sv rfl) .nil)⟩

theorem p_tune_First  (r : T_tune_Values) (h : tune_First = some r) : PureAt Tryd.prog 22 [] (.agg (v3 r)) := by
 refine pure_of_iwp (rs := [.agg (v3 r)]) Tryd.func22 rfl Tryd.ntmps22 (nle rfl) rfl fun O hO => ?_
 show IWP _ _ _ _ ⟨[], []⟩ _
 unfold tune_First at h
 refine iwp_reg (ils_cons rfl (iop_allocS (cs := q8) (cs' := (w14 0 0 0 0)) 0 rfl rfl (lb rfl) rfl ti29 rfl rfl (.all _)) <|
  ils_end ?_)
 refine iwp_reg (ils_cons rfl (iop_build_struct (cs := q8) rfl rfl (lb rfl) Tryd.underlying29 ti29 pl29 rfl (.cons (sv (d := .int _ 8) rfl) (.cons (sv (d := .int _ 256) rfl) (.cons (sv (d := .int _ 4096) rfl) (.cons (sv (d := .int _ 32) rfl) .nil)))) rfl) <|
  ils_cons rfl (stA q8 q8 ti29 rfl rfl rfl rfl rfl rfl rfl rfl (nle rfl) rfl) <|
  ils_end ?_)
 refine iwp_ret ?_
 obtain rfl := Option.some.inj h
 refine ⟨.inr rfl, (.cons (rva la29 rfl rfl (nle rfl) rfl) .nil)⟩

theorem p_config_First  (r : T_world_Config) (h : config_First = some r) : PureAt Tryd.prog 14 [] (.agg (v1 r)) := by
 refine pure_of_iwp (rs := [.agg (v1 r)]) Tryd.func14 rfl Tryd.ntmps14 (nle rfl) rfl fun O hO => ?_
 show IWP _ _ _ _ ⟨[], []⟩ _
 unfold config_First at h
 refine iwp_reg (ils_cons rfl (iop_allocS (cs := q6) (cs' := (w13 0 0 0 0 0 0 0 0 0 0 0)) 0 rfl rfl (lb rfl) rfl ti32 rfl rfl (.all _)) <|
  ils_end ?_)
 obtain ⟨x1, hx1, h⟩ := bno_e h
 refine iwp_reg (ils_cons rfl (iop_call (r := .agg q8) rfl rfl (lb rfl) cl22 .nil rfl (p_tune_First  _ hx1)) <|
  ils_cons rfl (iop_allocS (cs := q8) (cs' := (w14 0 0 0 0)) 1 rfl rfl (lb rfl) rfl ti29 rfl rfl (.all _)) <|
  ils_cons rfl (stA q8 q8 ti29 rfl rfl rfl rfl rfl rfl rfl rfl (nle rfl) rfl) <|
  ils_end ?_)
 refine iwp_reg (ils_cons rfl (lra q8 la29 rfl rfl rfl rfl rfl (nle rfl) rfl) <|
  ils_cons rfl (lra q8 la29 rfl rfl rfl rfl rfl (nle rfl) rfl) <|
  ils_cons rfl (iop_build_array (cs := q7) rfl rfl (lb rfl) Tryd.underlying30 ti30 ti29 rfl (.cons (svA q8 rfl) (.cons (svA q8 rfl) .nil)) rfl) <|
  ils_cons rfl (iop_build_array (cs := q9) rfl rfl (lb rfl) Tryd.underlying26 ti26 ti25 rfl (.cons (sv (d := .int _ 1) rfl) (.cons (sv (d := .int _ 2) rfl) .nil)) rfl) <|
  ils_cons rfl (iop_build_struct (cs := q6) rfl rfl (lb rfl) Tryd.underlying32 ti32 pl32 rfl (.cons (sv (d := .int _ 2) rfl) (.cons (svA q7 rfl) (.cons (svA q9 rfl) .nil))) rfl) <|
  ils_cons rfl (stA q6 q6 ti32 rfl rfl rfl rfl rfl rfl rfl rfl (nle rfl) rfl) <|
  ils_end ?_)
 refine iwp_ret ?_
 obtain rfl := Option.some.inj h
 refine ⟨.inr rfl, (.cons (rva la32 rfl rfl (nle rfl) rfl) .nil)⟩

theorem p_sennitlaw35_back (a0 : T_world_Config) (r : T_world_Config) (h : sennitlaw35_back a0 = some r) : PureAt Tryd.prog 13 [.agg (v1 a0)] (.agg (v1 r)) := by
 refine pure_of_iwp (rs := [.agg (v1 r)]) Tryd.func13 rfl Tryd.ntmps13 (nle rfl) rfl fun O hO => ?_
 show IWP _ _ _ _ ⟨[(0, .agg (v1 a0))], []⟩ _
 unfold sennitlaw35_back at h
 refine iwp_reg (ils_cons rfl (iop_box' (cs := q6) 0 rfl rfl (lb rfl) rfl (svA q6 rfl) rfl rfl) <|
  ils_cons rfl (iop_allocS (cs := q6) (cs' := (w13 0 0 0 0 0 0 0 0 0 0 0)) 1 rfl rfl (lb rfl) rfl ti28 rfl rfl (.all _)) <|
  ils_end ?_)
 refine iwp_reg (ils_cons rfl (faR 0 rfl rfl rfl Tryd.underlying32 rfl ti3 (lb rfl) rfl rfl) <|
  ils_cons rfl (iop_load_rs (d := .int _ _) rfl rfl (lb rfl) Tryd.underlying3 ag3 ti3 (by decide) (svR rfl) rfl (nle rfl) rfl) <|
  ils_cons rfl (faR 9 rfl rfl rfl Tryd.underlying32 rfl ti26 (lb rfl) rfl rfl) <|
  ils_cons rfl (lra q9 la26 rfl rfl rfl rfl rfl (nle rfl) rfl) <|
  ils_cons rfl (iop_build_struct (cs := q6) rfl rfl (lb rfl) Tryd.underlying28 ti28 pl28 rfl (.cons (svI rfl) (.cons (svA q9 rfl) .nil)) rfl) <|
  ils_cons rfl (iop_allocS (cs := q6) (cs' := (w13 0 0 0 0 0 0 0 0 0 0 0)) 2 rfl rfl (lb rfl) rfl ti28 rfl rfl (.all _)) <|
  ils_cons rfl (stA q6 q6 ti28 rfl rfl rfl rfl rfl rfl rfl rfl (nle rfl) rfl) <|
  ils_end ?_)
 refine iwp_drw rfl [⟨[1], [], [(9, .ref 0 1)], []⟩,
  ⟨[9], [], [(10, .ref 0 1)], []⟩,
  ⟨[10], [0], [(11, .agg (v3 a0.Values.c0))], []⟩,
  ⟨[1], [], [(12, .ref 0 1)], []⟩,
  ⟨[12], [], [(13, .ref 0 5)], []⟩,
  ⟨[13], [0], [(14, .agg (v3 a0.Values.c1))], []⟩,
  ⟨[3], [], [(15, .ref 2 1)], []⟩,
  ⟨[15], [], [(16, .ref 2 1)], []⟩,
  ⟨[11, 16], [2], [], [(2, .blk 28 (w13 a0.Paths a0.Values.c0.Streams a0.Values.c0.Window a0.Values.c0.Whole a0.Values.c0.Chunk 0 0 0 0 a0.First.c0 a0.First.c1))]⟩,
  ⟨[3], [], [(17, .ref 2 1)], []⟩,
  ⟨[17], [], [(18, .ref 2 5)], []⟩,
  ⟨[14, 18], [2], [], [(2, .blk 28 (v1 a0))]⟩] rfl ?_ (by kernel_rfl) ?_
 ·refine .cons (lop rfl rfl fun S hA => (iop_fieldAddr_ref rfl rfl (lb rfl) Tryd.underlying32 rfl ti30 (by decide) (svaR hA rfl rfl) (off' := 1) rfl)) ?_
  refine .cons (lop rfl rfl fun S hA => (iop_index_ref rfl rfl (lb rfl) Tryd.underlying30 ti29 (svaR hA rfl rfl) (sv (d := .int _ 0) rfl) (by decide) (by decide) (off' := 1) rfl)) ?_
  refine .cons (lop rfl rfl fun S hA => (iop_load_ra (cs := q8) rfl rfl (lb rfl) Tryd.underlying29 ag29 ti29 (by decide) (svaR hA rfl rfl) (agi hA rfl rfl) (nle rfl) rfl)) ?_
  refine .cons (lop rfl rfl fun S hA => (iop_fieldAddr_ref rfl rfl (lb rfl) Tryd.underlying32 rfl ti30 (by decide) (svaR hA rfl rfl) (off' := 1) rfl)) ?_
  refine .cons (lop rfl rfl fun S hA => (iop_index_ref rfl rfl (lb rfl) Tryd.underlying30 ti29 (svaR hA rfl rfl) (sv (d := .int _ 1) rfl) (by decide) (by decide) (off' := 5) rfl)) ?_
  refine .cons (lop rfl rfl fun S hA => (iop_load_ra (cs := q8) rfl rfl (lb rfl) Tryd.underlying29 ag29 ti29 (by decide) (svaR hA rfl rfl) (agi hA rfl rfl) (nle rfl) rfl)) ?_
  refine .cons (lop rfl rfl fun S hA => (iop_fieldAddr_ref rfl rfl (lb rfl) Tryd.underlying28 rfl ti24 (by decide) (svaR hA rfl rfl) (off' := 1) rfl)) ?_
  refine .cons (lop rfl rfl fun S hA => (iop_index_ref rfl rfl (lb rfl) Tryd.underlying24 ti23 (svaR hA rfl rfl) (sv (d := .int _ 0) rfl) (by decide) (by decide) (off' := 1) rfl)) ?_
  refine .cons (lop rfl rfl fun S hA => (iop_store (ds' := q6) rfl rfl ti23 (svaR hA rfl rfl) (agi hA rfl rfl) (svaA q8 hA rfl rfl) rfl rfl rfl (nle rfl) rfl)) ?_
  refine .cons (lop rfl rfl fun S hA => (iop_fieldAddr_ref rfl rfl (lb rfl) Tryd.underlying28 rfl ti24 (by decide) (svaR hA rfl rfl) (off' := 1) rfl)) ?_
  refine .cons (lop rfl rfl fun S hA => (iop_index_ref rfl rfl (lb rfl) Tryd.underlying24 ti23 (svaR hA rfl rfl) (sv (d := .int _ 1) rfl) (by decide) (by decide) (off' := 5) rfl)) ?_
  refine .cons (lop rfl rfl fun S hA => (iop_store (ds' := q6) rfl rfl ti23 (svaR hA rfl rfl) (agi hA rfl rfl) (svaA q8 hA rfl rfl) rfl rfl rfl (nle rfl) rfl)) ?_
  exact .nil
 refine iwp_reg (ils_cons rfl (lra q6 la28 rfl rfl rfl rfl rfl (nle rfl) rfl) <|
  ils_cons rfl (stA q6 q6 ti28 rfl rfl rfl rfl rfl rfl rfl rfl (nle rfl) rfl) <|
  ils_end ?_)
 refine iwp_ret ?_
 obtain rfl := Option.some.inj h
 refine ⟨.inr rfl, (.cons (rva la28 rfl rfl (nle rfl) rfl) .nil)⟩

theorem p_internal_stringslite_IndexByte (a0 : (List UInt8)) (a1 : Int) (r : Int) (h : internal_stringslite_IndexByte a0 a1 = some r) : PureAt Tryd.prog 58 [.str a0, .int .u8 a1] (.int .i64 r) := by
 refine pure_of_iwp (rs := [.int .i64 r]) Tryd.func58 rfl Tryd.ntmps58 (nle rfl) rfl fun O hO => ?_
 show IWP _ _ _ _ ⟨[(0, .str a0), (1, .int .u8 a1)], []⟩ _
 unfold internal_stringslite_IndexByte at h
 refine iwp_reg (ils_cons rfl (iop_assign rfl rfl (lb rfl) (sv (d := .int _ 0) rfl)) <|
  ils_end ?_)
 obtain ⟨x1, hx1, h⟩ := bnd_e h
 refine iwp_reg (ils_cons rfl (iop_move rfl rfl (lb rfl) (sv (d := .str _) rfl)) <|
  ils_cons rfl (mvI rfl rfl rfl rfl) <|
  ils_cons rfl (iop_idxB rfl rfl (lb rfl) ex64 (sv (d := .str _) rfl) (svI rfl) hx1) <|
  ils_cons rfl (asI rfl rfl rfl rfl) <|
  ils_end ?_)
 refine iwp_ret ?_
 obtain rfl := Option.some.inj h
 refine ⟨.inr rfl, (.cons (sv rfl) .nil)⟩

theorem p_internal_stringslite_Index (a0 : (List UInt8)) (a1 : (List UInt8)) (r : Int) (h : internal_stringslite_Index a0 a1 = some r) : PureAt Tryd.prog 51 [.str a0, .str a1] (.int .i64 r) := by
 refine pure_of_iwp (rs := [.int .i64 r]) Tryd.func51 rfl Tryd.ntmps51 (nle rfl) rfl fun O hO => ?_
 show IWP _ _ _ _ ⟨[(0, .str a0), (1, .str a1)], []⟩ _
 unfold internal_stringslite_Index at h
 refine iwp_reg (ils_cons rfl (iop_assign rfl rfl (lb rfl) (sv (d := .int _ 0) rfl)) <|
  ils_end ?_)
 refine iwp_reg (ils_cons rfl (iop_move rfl rfl (lb rfl) (sv (d := .str _) rfl)) <|
  ils_cons rfl (iop_len_str rfl rfl (lb rfl) Tryd.underlying9 (sv (d := .str _) rfl) rfl) <|
  ils_cons rfl (asI rfl rfl rfl rfl) <|
  ils_end ?_)
 refine iwp_seq ?_
 refine iwp_block ?_
 obtain ⟨x1, hx1, h⟩ := bnd_e h
 obtain ⟨x2, hx2, h⟩ := bnd_e h
 obtain ⟨x3, hx3, h⟩ := bnd_e h
 refine iwp_reg (ils_cons rfl (mvI rfl rfl rfl rfl) <|
  ils_cons rfl (iop_cmpx rfl rfl (lb rfl) (svI rfl) (sv (d := .int _ 0) rfl) rfl hx1) <|
  ils_cons rfl (mvB rfl rfl rfl rfl) <|
  ils_guard rfl rfl (.one rfl) rfl (by decide) (fun hb => (iop_move rfl rfl (lb rfl) (sv (d := .str _) rfl))) <|
  ils_guard rfl rfl (.one rfl) rfl (by decide) (fun hb => (iop_move rfl rfl (lb rfl) (sv (d := .str _) rfl))) <|
  ils_guard rfl rfl (.one rfl) rfl (by decide) (fun hb => (iop_strx rfl rfl (lb rfl) (svc (d := .str _) rfl hb) (svc (d := .str _) rfl hb) rfl hx2)) <|
  ils_cons rfl (iop_orx rfl rfl (lb rfl) (svB rfl) rfl rfl hx3) <|
  ils_cons rfl (asB rfl rfl rfl rfl) <|
  ils_end ?_)
 refine iwp_cond (b := _) rfl (fun hc4 => ?_) (fun hc4 => ?_)
 ·
  replace h := bif_t h hc4
  refine iwp_reg (ils_cons rfl (iop_assign rfl rfl (lb rfl) (sv (d := .int _ 0) rfl)) <|
   ils_end ?_)
  refine iwp_ret ?_
  refine blockQ_r ?_
  refine thenQ_r ?_
  obtain rfl := Option.some.inj h
  refine ⟨.inr rfl, (.cons (sv rfl) .nil)⟩
 ·
  replace h := bif_f h hc4
  obtain ⟨x5, hx5, h⟩ := bnd_e h
  refine iwp_reg (ils_cons rfl (mvI rfl rfl rfl rfl) <|
   ils_cons rfl (iop_cmpx rfl rfl (lb rfl) (svI rfl) (sv (d := .int _ 1) rfl) rfl hx5) <|
   ils_cons rfl (asB rfl rfl rfl rfl) <|
   ils_end ?_)
  refine iwp_cond (b := _) rfl (fun hc6 => ?_) (fun hc6 => ?_)
  ·
   replace h := bif_t h hc6
   obtain ⟨x7, hx7, h⟩ := bno_e h
   obtain ⟨x8, hx8, h⟩ := bno_e h
   refine iwp_reg (ils_cons rfl (iop_move rfl rfl (lb rfl) (sv (d := .str _) rfl)) <|
    ils_cons rfl (iop_move rfl rfl (lb rfl) (sv (d := .str _) rfl)) <|
    ils_cons rfl (iop_str_at rfl rfl (lb rfl) Tryd.underlying9 (sv (d := .str _) rfl) (sv (d := .int _ 0) rfl) hx7) <|
    ils_cons rfl (iop_call (r := .int _ _) rfl rfl (lb rfl) cl58 (.cons (sv (d := .str _) rfl) (.cons (svI rfl) .nil)) rfl (p_internal_stringslite_IndexByte _ _ _ hx8)) <|
    ils_cons rfl (asI rfl rfl rfl rfl) <|
    ils_end ?_)
   refine iwp_ret ?_
   refine blockQ_r ?_
   refine thenQ_r ?_
   obtain rfl := Option.some.inj h
   refine ⟨.inr rfl, (.cons (sv rfl) .nil)⟩
  ·
   replace h := bif_f h hc6
   obtain ⟨x9, hx9, h⟩ := bnd_e h
   refine iwp_reg (ils_cons rfl (mvI rfl rfl rfl rfl) <|
    ils_cons rfl (iop_move rfl rfl (lb rfl) (sv (d := .str _) rfl)) <|
    ils_cons rfl (iop_len_str rfl rfl (lb rfl) Tryd.underlying9 (sv (d := .str _) rfl) rfl) <|
    ils_cons rfl (iop_cmpx rfl rfl (lb rfl) (svI rfl) (svI rfl) rfl hx9) <|
    ils_cons rfl (asB rfl rfl rfl rfl) <|
    ils_end ?_)
   refine iwp_cond (b := _) rfl (fun hc10 => ?_) (fun hc10 => ?_)
   ·
    replace h := bif_t h hc10
    refine iwp_reg (ils_cons rfl (iop_assign rfl rfl (lb rfl) (sv (d := .int _ (-1)) rfl)) <|
     ils_end ?_)
    refine iwp_ret ?_
    refine blockQ_r ?_
    refine thenQ_r ?_
    obtain rfl := Option.some.inj h
    refine ⟨.inr rfl, (.cons (sv rfl) .nil)⟩
   ·
    replace h := bif_f h hc10
    cases h

theorem p_strings_Index (a0 : (List UInt8)) (a1 : (List UInt8)) (r : Int) (h : strings_Index a0 a1 = some r) : PureAt Tryd.prog 43 [.str a0, .str a1] (.int .i64 r) := by
 refine pure_of_iwp (rs := [.int .i64 r]) Tryd.func43 rfl Tryd.ntmps43 (nle rfl) rfl fun O hO => ?_
 show IWP _ _ _ _ ⟨[(0, .str a0), (1, .str a1)], []⟩ _
 unfold strings_Index at h
 refine iwp_reg (ils_cons rfl (iop_assign rfl rfl (lb rfl) (sv (d := .int _ 0) rfl)) <|
  ils_end ?_)
 obtain ⟨x1, hx1, h⟩ := bno_e h
 refine iwp_reg (ils_cons rfl (iop_move rfl rfl (lb rfl) (sv (d := .str _) rfl)) <|
  ils_cons rfl (iop_move rfl rfl (lb rfl) (sv (d := .str _) rfl)) <|
  ils_cons rfl (iop_call (r := .int _ _) rfl rfl (lb rfl) cl51 (.cons (sv (d := .str _) rfl) (.cons (sv (d := .str _) rfl) .nil)) rfl (p_internal_stringslite_Index _ _ _ hx1)) <|
  ils_cons rfl (asI rfl rfl rfl rfl) <|
  ils_end ?_)
 refine iwp_ret ?_
 obtain rfl := Option.some.inj h
 refine ⟨.inr rfl, (.cons (sv rfl) .nil)⟩

theorem p_strings_Count (a0 : (List UInt8)) (a1 : (List UInt8)) (r : Int) (h : strings_Count a0 a1 = some r) : PureAt Tryd.prog 42 [.str a0, .str a1] (.int .i64 r) := by
 refine pure_of_iwp (rs := [.int .i64 r]) Tryd.func42 rfl Tryd.ntmps42 (nle rfl) rfl fun O hO => ?_
 show IWP _ _ _ _ ⟨[(0, .str a0), (1, .str a1)], []⟩ _
 unfold strings_Count at h
 refine iwp_reg (ils_cons rfl (iop_assign rfl rfl (lb rfl) (sv (d := .int _ 0) rfl)) <|
  ils_end ?_)
 refine iwp_seq ?_
 obtain ⟨x1, hx1, h⟩ := bnd_e h
 refine iwp_reg (ils_cons rfl (iop_move rfl rfl (lb rfl) (sv (d := .str _) rfl)) <|
  ils_cons rfl (iop_len_str rfl rfl (lb rfl) Tryd.underlying9 (sv (d := .str _) rfl) rfl) <|
  ils_cons rfl (iop_cmpx rfl rfl (lb rfl) (svI rfl) (sv (d := .int _ 0) rfl) rfl hx1) <|
  ils_end ?_)
 refine iwp_cond (b := _) rfl (fun hc2 => ?_) (fun hc2 => ?_)
 ·
  replace h := bif_t h hc2
  cases h
 ·
  replace h := bif_f h hc2
  refine iwp_skip ?_
  refine thenQ_n ?_
  refine iwp_seq ?_
  obtain ⟨x3, hx3, h⟩ := bnd_e h
  refine iwp_reg (ils_cons rfl (iop_move rfl rfl (lb rfl) (sv (d := .str _) rfl)) <|
   ils_cons rfl (iop_len_str rfl rfl (lb rfl) Tryd.underlying9 (sv (d := .str _) rfl) rfl) <|
   ils_cons rfl (iop_cmpx rfl rfl (lb rfl) (svI rfl) (sv (d := .int _ 1) rfl) rfl hx3) <|
   ils_end ?_)
  refine iwp_cond (b := _) rfl (fun hc4 => ?_) (fun hc4 => ?_)
  ·
   replace h := bif_t h hc4
   obtain ⟨x5, hx5, h⟩ := bno_e h
   obtain ⟨x6, hx6, h⟩ := bnd_e h
   refine iwp_reg (ils_cons rfl (iop_move rfl rfl (lb rfl) (sv (d := .str _) rfl)) <|
    ils_cons rfl (iop_move rfl rfl (lb rfl) (sv (d := .str _) rfl)) <|
    ils_cons rfl (iop_str_at rfl rfl (lb rfl) Tryd.underlying9 (sv (d := .str _) rfl) (sv (d := .int _ 0) rfl) hx5) <|
    ils_cons rfl (iop_cntB rfl rfl (lb rfl) ex50 (sv (d := .str _) rfl) (svI rfl) hx6) <|
    ils_cons rfl (asI rfl rfl rfl rfl) <|
    ils_end ?_)
   refine iwp_ret ?_
   refine thenQ_r ?_
   obtain rfl := Option.some.inj h
   refine ⟨.inr rfl, (.cons (sv rfl) .nil)⟩
  ·
   replace h := bif_f h hc4
   refine iwp_skip ?_
   refine thenQ_n ?_
   refine iwp_reg (ils_cons rfl (iop_assign rfl rfl (lb rfl) (sv (d := .int _ 0) rfl)) <|
    ils_end ?_)
   refine iwp_block ?_
   refine iwp_loopP (α := Nat × (List UInt8) × Int) (fun z => ⟨[(0, .str z.2.1), (1, .str a1), (5, .int .i64 z.2.2)], []⟩) (fun z => strings_Count_L0 a1 z.1 z.2.1 z.2.2 = some r) (fun z => z.1) (fuel, a0, 0) (fun i => i) ⟨(.sames rfl rfl), .nil, nd_of [] rfl (by decide), fun _ _ => rfl⟩ ?_ ?_
   ·exact h
   ·
    rintro ⟨n0, v13, v14⟩ h
    cases n0 with
    | zero => exact absurd h (by unfold strings_Count_L0; exact nofun)
    | succ n0 =>
     unfold strings_Count_L0 at h
     refine iwp_block ?_
     obtain ⟨x21, hx21, h⟩ := bno_e h
     refine iwp_reg (ils_cons rfl (iop_move rfl rfl (lb rfl) (sv (d := .str _) rfl)) <|
      ils_cons rfl (iop_move rfl rfl (lb rfl) (sv (d := .str _) rfl)) <|
      ils_cons rfl (iop_call (r := .int _ _) rfl rfl (lb rfl) cl43 (.cons (sv (d := .str _) rfl) (.cons (sv (d := .str _) rfl) .nil)) rfl (p_strings_Index _ _ _ hx21)) <|
      ils_cons rfl (asI rfl rfl rfl rfl) <|
      ils_end ?_)
     refine iwp_seq ?_
     obtain ⟨x22, hx22, h⟩ := bnd_e h
     refine iwp_reg (ils_cons rfl (mvI rfl rfl rfl rfl) <|
      ils_cons rfl (iop_cmpx rfl rfl (lb rfl) (svI rfl) (sv (d := .int _ (-1)) rfl) rfl hx22) <|
      ils_end ?_)
     refine iwp_cond (b := _) rfl (fun hc23 => ?_) (fun hc23 => ?_)
     ·
      replace h := bif_t h hc23
      refine iwp_reg (ils_cons rfl (mvI rfl rfl rfl rfl) <|
       ils_cons rfl (asI rfl rfl rfl rfl) <|
       ils_end ?_)
      refine iwp_ret ?_
      refine thenQ_r ?_
      refine blockQ_r ?_
      refine thenQ_r ?_
      refine blockQ_r ?_
      obtain rfl := Option.some.inj h
      refine ⟨.inr rfl, (.cons (sv rfl) .nil)⟩
     ·
      replace h := bif_f h hc23
      refine iwp_skip ?_
      refine thenQ_n ?_
      obtain ⟨x24, hx24, h⟩ := bnd_e h
      refine iwp_reg (ils_cons rfl (mvI rfl rfl rfl rfl) <|
       ils_cons rfl (iop_intx rfl rfl (lb rfl) (svI rfl) (sv (d := .int _ 1) rfl) rfl hx24) <|
       ils_cons rfl (asI rfl rfl rfl rfl) <|
       ils_end ?_)
      obtain ⟨x25, hx25, h⟩ := bnd_e h
      obtain ⟨x26, hx26, h⟩ := bno_e h
      refine iwp_region (ils_cons rfl (iop_move rfl rfl (lb rfl) (sv (d := .str _) rfl)) <|
       ils_cons rfl (mvI rfl rfl rfl rfl) <|
       ils_cons rfl (iop_move rfl rfl (lb rfl) (sv (d := .str _) rfl)) <|
       ils_cons rfl (iop_len_str rfl rfl (lb rfl) Tryd.underlying9 (sv (d := .str _) rfl) rfl) <|
       ils_cons rfl (iop_intx rfl rfl (lb rfl) (svI rfl) (svI rfl) rfl hx25) <|
       ils_cons rfl (iop_cutS rfl rfl (lb rfl) Tryd.underlying9 (sv (d := .str _) rfl) ⟨_, (svI rfl)⟩ rfl hx26) <|
       ils_cons rfl (iop_assign rfl rfl (lb rfl) (sv (d := .str _) rfl)) <|
       ils_nil ?_)
      refine blockQ_n ?_
      refine thenQ_n ⟨(n0, x26, x24), (fun i => i), ⟨(.sames rfl rfl), .nil, nd_of [] rfl (by decide), fun _ _ => rfl⟩, ?_, ?_⟩
      exact h
      exact Nat.lt_succ_self _

theorem p_strings_genSplit (a0 : (List UInt8)) (a1 : (List UInt8)) (a2 : Int) (a3 : Int) (r : (List (List UInt8))) (h : strings_genSplit a0 a1 a2 a3 = some r) : PureAt Tryd.prog 38 [.str a0, .str a1, .int .i64 a2, .int .i64 a3] (.slice false (r.map eStr.d)) := by
 refine pure_of_iwpF (rs := [.slice false (r.map eStr.d)]) Tryd.func38 rfl Tryd.ntmps38 (nle rfl) rfl fun O hO => ?_
 show IWP _ _ _ _ ⟨[(0, .str a0), (1, .str a1), (2, .int .i64 a2), (3, .int .i64 a3)], []⟩ _
 unfold strings_genSplit at h
 refine iwp_reg (ils_cons rfl (iop_assign rfl rfl (lb rfl) (sv (d := .nils) rfl)) <|
  ils_end ?_)
 refine iwp_seq ?_
 obtain ⟨x1, hx1, h⟩ := bnd_e h
 refine iwp_reg (ils_cons rfl (mvI rfl rfl rfl rfl) <|
  ils_cons rfl (iop_cmpx rfl rfl (lb rfl) (svI rfl) (sv (d := .int _ 0) rfl) rfl hx1) <|
  ils_end ?_)
 refine iwp_cond (b := _) rfl (fun hc2 => ?_) (fun hc2 => ?_)
 ·
  replace h := bif_t h hc2
  refine iwp_reg (ils_cons rfl (iop_assign rfl rfl (lb rfl) (sv (d := .nils) rfl)) <|
   ils_end ?_)
  refine iwp_ret ?_
  refine thenQ_r ?_
  obtain rfl := Option.some.inj h
  refine ⟨.inr rfl, _, (.cons (sv rfl) .nil), (.cons (.nils _) .nil)⟩
 ·
  replace h := bif_f h hc2
  refine iwp_skip ?_
  refine thenQ_n ?_
  refine iwp_seq ?_
  obtain ⟨x3, hx3, h⟩ := bnd_e h
  refine iwp_reg (ils_cons rfl (iop_move rfl rfl (lb rfl) (sv (d := .str _) rfl)) <|
   ils_cons rfl (iop_strx rfl rfl (lb rfl) (sv (d := .str _) rfl) (sv (d := .str []) rfl) rfl hx3) <|
   ils_end ?_)
  refine iwp_cond (b := _) rfl (fun hc4 => ?_) (fun hc4 => ?_)
  ·
   replace h := bif_t h hc4
   cases h
  ·
   replace h := bif_f h hc4
   refine iwp_skip ?_
   refine thenQ_n ?_
   refine iwp_join (α := Int) (fun z => ⟨[(0, .str a0), (1, .str a1), (2, .int .i64 a2), (3, .int .i64 z)], []⟩) (fun z => strings_genSplit_J0 a0 a1 a2 z = some r) ?_ ?_
   ·
    obtain ⟨x106, hx106, h⟩ := bnd_e h
    refine iwp_reg (ils_cons rfl (mvI rfl rfl rfl rfl) <|
     ils_cons rfl (iop_cmpx rfl rfl (lb rfl) (svI rfl) (sv (d := .int _ 0) rfl) rfl hx106) <|
     ils_end ?_)
    refine iwp_cond (b := _) rfl (fun hc107 => ?_) (fun hc107 => ?_)
    ·
     replace h := bif_t h hc107
     obtain ⟨x108, hx108, h⟩ := bno_e h
     obtain ⟨x109, hx109, h⟩ := bnd_e h
     refine iwp_region (ils_cons rfl (iop_move rfl rfl (lb rfl) (sv (d := .str _) rfl)) <|
      ils_cons rfl (iop_move rfl rfl (lb rfl) (sv (d := .str _) rfl)) <|
      ils_cons rfl (iop_call (r := .int _ _) rfl rfl (lb rfl) cl42 (.cons (sv (d := .str _) rfl) (.cons (sv (d := .str _) rfl) .nil)) rfl (p_strings_Count _ _ _ hx108)) <|
      ils_cons rfl (iop_intx rfl rfl (lb rfl) (svI rfl) (sv (d := .int _ 1) rfl) rfl hx109) <|
      ils_cons rfl (asI rfl rfl rfl rfl) <|
      ils_nil ?_)
     refine thenQ_n ⟨x109, (fun i => i), ⟨(.sames rfl rfl), .nil, nd_of [] rfl (by decide), fun _ _ => rfl⟩, ?_⟩
     exact h
    ·
     replace h := bif_f h hc107
     refine iwp_skip ?_
     refine thenQ_n ⟨a3, (fun i => i), ⟨(.sames rfl rfl), .nil, nd_of [] rfl (by decide), fun _ _ => rfl⟩, ?_⟩
     exact h
   ·
    rintro v9 h
    unfold strings_genSplit_J0 at h
    obtain ⟨x10, hx10, h⟩ := bnd_e h
    obtain ⟨x11, hx11, h⟩ := bnd_e h
    refine iwp_reg (ils_cons rfl (mvI rfl rfl rfl rfl) <|
     ils_cons rfl (iop_move rfl rfl (lb rfl) (sv (d := .str _) rfl)) <|
     ils_cons rfl (iop_len_str rfl rfl (lb rfl) Tryd.underlying9 (sv (d := .str _) rfl) rfl) <|
     ils_cons rfl (iop_intx rfl rfl (lb rfl) (svI rfl) (sv (d := .int _ 1) rfl) rfl hx10) <|
     ils_cons rfl (iop_min2 rfl rfl (lb rfl) (svI rfl) (svI rfl) hx11) <|
     ils_cons rfl (asI rfl rfl rfl rfl) <|
     ils_end ?_)
    obtain ⟨x12, hx12, h⟩ := bno_e h
    refine iwp_reg (ils_cons rfl (mvI rfl rfl rfl rfl) <|
     ils_cons rfl (iop_makeT eStr.toEnc0 ([] : (List UInt8)) 0 rfl rfl (lb rfl) Tryd.underlying75 ti9 rfl rfl (svI rfl) hx12 (.all _)) <|
     ils_cons rfl (iop_assign rfl rfl (lb rfl) (sv (d := .osl _ _ _) rfl)) <|
     ils_end ?_)
    obtain ⟨x13, hx13, h⟩ := bnd_e h
    refine iwp_reg (ils_cons rfl (mvI rfl rfl rfl rfl) <|
     ils_cons rfl (iop_intx rfl rfl (lb rfl) (svI rfl) (sv (d := .int _ 1) rfl) rfl hx13) <|
     ils_cons rfl (asI rfl rfl rfl rfl) <|
     ils_end ?_)
    refine iwp_reg (ils_cons rfl (iop_assign rfl rfl (lb rfl) (sv (d := .int _ 0) rfl)) <|
     ils_end ?_)
    refine iwp_join (α := (List UInt8) × (List (List UInt8)) × Int) (fun z => ⟨[(0, .str z.1), (9, .osl 0 eStr.sz z.2.1.length), (10, .int .i64 z.2.2)], [(0, .blk 9 (D.flat (z.2.1.map eStr.d)))]⟩) (fun z => strings_genSplit_J2 z.1 z.2.1 z.2.2 = some r) ?_ ?_
    ·
     refine iwp_block ?_
     refine iwp_loopP (α := Nat × (List UInt8) × (List (List UInt8)) × Int) (fun z => ⟨[(0, .str z.2.1), (1, .str a1), (2, .int .i64 a2), (3, .int .i64 x13), (9, .osl 0 eStr.sz z.2.2.1.length), (10, .int .i64 z.2.2.2)], [(0, .blk 9 (D.flat (z.2.2.1.map eStr.d)))]⟩) (fun z => strings_genSplit_L3 a1 a2 x13 z.1 z.2.1 z.2.2.1 z.2.2.2 = some r) (fun z => z.1) (fuel, a0, x12, 0) (fun i => i) ⟨(.sames rfl rfl), (.cons (EntW.lst rfl) .nil), nd_of [0] rfl (by decide), fun _ _ => rfl⟩ ?_ ?_
     ·exact h
     ·
      rintro ⟨n3, v77, v78, v79⟩ h
      cases n3 with
      | zero => exact absurd h (by unfold strings_genSplit_L3; exact nofun)
      | succ n3 =>
       unfold strings_genSplit_L3 at h
       refine iwp_seq ?_
       obtain ⟨x93, hx93, h⟩ := bnd_e h
       refine iwp_reg (ils_cons rfl (mvI rfl rfl rfl rfl) <|
        ils_cons rfl (mvI rfl rfl rfl rfl) <|
        ils_cons rfl (iop_cmpx rfl rfl (lb rfl) (svI rfl) (svI rfl) rfl hx93) <|
        ils_end ?_)
       refine iwp_cond (b := _) rfl (fun hc94 => ?_) (fun hc94 => ?_)
       ·
        replace h := bif_t h hc94
        refine iwp_skip ?_
        refine thenQ_n ?_
        refine iwp_block ?_
        obtain ⟨x95, hx95, h⟩ := bno_e h
        refine iwp_reg (ils_cons rfl (iop_move rfl rfl (lb rfl) (sv (d := .str _) rfl)) <|
         ils_cons rfl (iop_move rfl rfl (lb rfl) (sv (d := .str _) rfl)) <|
         ils_cons rfl (iop_call (r := .int _ _) rfl rfl (lb rfl) cl43 (.cons (sv (d := .str _) rfl) (.cons (sv (d := .str _) rfl) .nil)) rfl (p_strings_Index _ _ _ hx95)) <|
         ils_cons rfl (asI rfl rfl rfl rfl) <|
         ils_end ?_)
        refine iwp_seq ?_
        obtain ⟨x96, hx96, h⟩ := bnd_e h
        refine iwp_reg (ils_cons rfl (mvI rfl rfl rfl rfl) <|
         ils_cons rfl (iop_cmpx rfl rfl (lb rfl) (svI rfl) (sv (d := .int _ 0) rfl) rfl hx96) <|
         ils_end ?_)
        refine iwp_cond (b := _) rfl (fun hc97 => ?_) (fun hc97 => ?_)
        ·
         replace h := bif_t h hc97
         refine iwp_exit ?_
         refine thenQ_e ?_
         refine blockQ_x rfl ?_
         refine thenQ_e ?_
         refine blockQ_e ?_
         refine thenQ_n ⟨(v77, v78, v79), (fun i => i), ⟨(.sames rfl rfl), (.cons (EntW.lst rfl) .nil), nd_of [0] rfl (by decide), fun _ _ => rfl⟩, ?_⟩
         exact h
        ·
         replace h := bif_f h hc97
         refine iwp_skip ?_
         refine thenQ_n ?_
         obtain ⟨x98, hx98, h⟩ := bnd_e h
         obtain ⟨x99, hx99, h⟩ := bno_e h
         obtain ⟨x100, hx100, h⟩ := bno_e h
         obtain ⟨x101, hx101, h⟩ := bno_e h
         obtain ⟨x102, hx102, h⟩ := bnd_e h
         refine iwp_reg (ils_cons rfl (iop_move rfl rfl (lb rfl) (sv (d := .osl _ _ _) rfl)) <|
          ils_cons rfl (mvI rfl rfl rfl rfl) <|
          ils_cons rfl (iop_move rfl rfl (lb rfl) (sv (d := .str _) rfl)) <|
          ils_cons rfl (mvI rfl rfl rfl rfl) <|
          ils_cons rfl (mvI rfl rfl rfl rfl) <|
          ils_cons rfl (iop_intx rfl rfl (lb rfl) (svI rfl) (svI rfl) rfl hx98) <|
          ils_cons rfl (iop_cutS rfl rfl (lb rfl) Tryd.underlying9 (sv (d := .str _) rfl) rfl ⟨_, (svI rfl)⟩ hx99) <|
          ils_cons rfl (iop_idxO eStr.toEnc0 rfl rfl (lb rfl) Tryd.underlying75 ti9 (sv (d := .osl _ _ _) rfl) rfl (svI rfl) hx100) <|
          ils_cons rfl (iop_storeE eStr.toEnc0 (a' := x99) rfl rfl ti9 (svR rfl) rfl (sv (d := .str _) rfl) rfl rfl rfl hx101 (nle rfl) rfl hx102) <|
          ils_end ?_)
         obtain ⟨x103, hx103, h⟩ := bnd_e h
         obtain ⟨x104, hx104, h⟩ := bno_e h
         refine iwp_reg (ils_cons rfl (iop_move rfl rfl (lb rfl) (sv (d := .str _) rfl)) <|
          ils_cons rfl (mvI rfl rfl rfl rfl) <|
          ils_cons rfl (iop_move rfl rfl (lb rfl) (sv (d := .str _) rfl)) <|
          ils_cons rfl (iop_len_str rfl rfl (lb rfl) Tryd.underlying9 (sv (d := .str _) rfl) rfl) <|
          ils_cons rfl (iop_intx rfl rfl (lb rfl) (svI rfl) (svI rfl) rfl hx103) <|
          ils_cons rfl (iop_cutS rfl rfl (lb rfl) Tryd.underlying9 (sv (d := .str _) rfl) ⟨_, (svI rfl)⟩ rfl hx104) <|
          ils_cons rfl (iop_assign rfl rfl (lb rfl) (sv (d := .str _) rfl)) <|
          ils_end ?_)
         obtain ⟨x105, hx105, h⟩ := bnd_e h
         refine iwp_region (ils_cons rfl (mvI rfl rfl rfl rfl) <|
          ils_cons rfl (iop_intx rfl rfl (lb rfl) (svI rfl) (sv (d := .int _ 1) rfl) rfl hx105) <|
          ils_cons rfl (asI rfl rfl rfl rfl) <|
          ils_nil ?_)
         refine blockQ_n ?_
         refine thenQ_n ⟨(n3, x104, x102, x105), (fun i => i), ⟨(.s rfl rfl (.s rfl rfl (.s rfl rfl (.s rfl rfl (.cons (.same (congrArg (D.osl _ _) (len_set hx102 rfl).symm) rfl) (.sames rfl rfl)))))), (.cons (EntW.lst rfl) .nil), nd_of [0] rfl (by decide), fun _ _ => rfl⟩, ?_, ?_⟩
         exact h
         exact Nat.lt_succ_self _
       ·
        replace h := bif_f h hc94
        refine iwp_exit ?_
        refine thenQ_e ?_
        refine thenQ_e ?_
        refine blockQ_e ?_
        refine thenQ_n ⟨(v77, v78, v79), (fun i => i), ⟨(.sames rfl rfl), (.cons (EntW.lst rfl) .nil), nd_of [0] rfl (by decide), fun _ _ => rfl⟩, ?_⟩
        exact h
    ·
     rintro ⟨v56, v57, v58⟩ h
     unfold strings_genSplit_J2 at h
     obtain ⟨x59, hx59, h⟩ := bno_e h
     obtain ⟨x60, hx60, h⟩ := bno_e h
     obtain ⟨x61, hx61, h⟩ := bnd_e h
     refine iwp_reg (ils_cons rfl (iop_move rfl rfl (lb rfl) (sv (d := .osl _ _ _) rfl)) <|
      ils_cons rfl (mvI rfl rfl rfl rfl) <|
      ils_cons rfl (iop_move rfl rfl (lb rfl) (sv (d := .str _) rfl)) <|
      ils_cons rfl (iop_idxO eStr.toEnc0 rfl rfl (lb rfl) Tryd.underlying75 ti9 (sv (d := .osl _ _ _) rfl) rfl (svI rfl) hx59) <|
      ils_cons rfl (iop_storeE eStr.toEnc0 (a' := v56) rfl rfl ti9 (svR rfl) rfl (sv (d := .str _) rfl) rfl rfl rfl hx60 (nle rfl) rfl hx61) <|
      ils_end ?_)
     obtain ⟨x62, hx62, h⟩ := bnd_e h
     obtain ⟨x63, hx63, h⟩ := bno_e h
     refine iwp_reg (ils_cons rfl (iop_move rfl rfl (lb rfl) (sv (d := .osl _ _ _) rfl)) <|
      ils_cons rfl (mvI rfl rfl rfl rfl) <|
      ils_cons rfl (iop_intx rfl rfl (lb rfl) (svI rfl) (sv (d := .int _ 1) rfl) rfl hx62) <|
      ils_cons rfl (iop_truncO eStr.toEnc0 rfl rfl (lb rfl) Tryd.underlying75 ti9 (sv (d := .osl _ _ _) rfl) rfl (Nat.le_of_eq (len_set hx61 rfl)) (svI rfl) hx63) <|
      ils_cons rfl (iop_assign rfl rfl (lb rfl) (sv (d := .osl _ _ _) rfl)) <|
      ils_end ?_)
     refine iwp_ret ?_
     obtain rfl := Option.some.inj h
     refine ⟨.inr rfl, _, (.cons (sv rfl) .nil), (.cons (FDT eStr rfl rfl) .nil)⟩

theorem p_strings_Split (a0 : (List UInt8)) (a1 : (List UInt8)) (r : (List (List UInt8))) (h : strings_Split a0 a1 = some r) : PureAt Tryd.prog 33 [.str a0, .str a1] (.slice false (r.map eStr.d)) := by
 refine pure_of_iwp (rs := [.slice false (r.map eStr.d)]) Tryd.func33 rfl Tryd.ntmps33 (nle rfl) rfl fun O hO => ?_
 show IWP _ _ _ _ ⟨[(0, .str a0), (1, .str a1)], []⟩ _
 unfold strings_Split at h
 refine iwp_reg (ils_cons rfl (iop_assign rfl rfl (lb rfl) (sv (d := .nils) rfl)) <|
  ils_end ?_)
 obtain ⟨x1, hx1, h⟩ := bno_e h
 refine iwp_reg (ils_cons rfl (iop_move rfl rfl (lb rfl) (sv (d := .str _) rfl)) <|
  ils_cons rfl (iop_move rfl rfl (lb rfl) (sv (d := .str _) rfl)) <|
  ils_cons rfl (iop_call (r := .slice _ _) rfl rfl (lb rfl) cl38 (.cons (sv (d := .str _) rfl) (.cons (sv (d := .str _) rfl) (.cons (sv (d := .int _ 0) rfl) (.cons (sv (d := .int _ (-1)) rfl) .nil)))) rfl (p_strings_genSplit _ _ _ _ _ hx1)) <|
  ils_cons rfl (iop_assign rfl rfl (lb rfl) (svL rfl)) <|
  ils_end ?_)
 refine iwp_ret ?_
 obtain rfl := Option.some.inj h
 refine ⟨.inr rfl, (.cons (sv rfl) .nil)⟩

theorem p_config_number (a0 : (List UInt8)) (r : (Int × Bool)) (h : config_number a0 = some r) : PureAt Tryd.prog 39 [.str a0] (retD [.int .i64 r.1, .bool r.2]) := by
 refine pure_of_iwp (rs := [.int .i64 r.1, .bool r.2]) Tryd.func39 rfl Tryd.ntmps39 (nle rfl) rfl fun O hO => ?_
 show IWP _ _ _ _ ⟨[(0, .str a0)], []⟩ _
 unfold config_number at h
 refine iwp_reg (ils_cons rfl (iop_assign rfl rfl (lb rfl) (sv (d := .int _ 0) rfl)) <|
  ils_cons rfl (iop_assign rfl rfl (lb rfl) (sv (d := .bool false) rfl)) <|
  ils_end ?_)
 refine iwp_seq ?_
 obtain ⟨x1, hx1, h⟩ := bnd_e h
 obtain ⟨x2, hx2, h⟩ := bnd_e h
 obtain ⟨x3, hx3, h⟩ := bnd_e h
 obtain ⟨x4, hx4, h⟩ := bnd_e h
 obtain ⟨x5, hx5, h⟩ := bno_e h
 obtain ⟨x6, hx6, h⟩ := bnd_e h
 obtain ⟨x7, hx7, h⟩ := bnd_e h
 obtain ⟨x8, hx8, h⟩ := bnd_e h
 refine iwp_reg (ils_cons rfl (iop_move rfl rfl (lb rfl) (sv (d := .str _) rfl)) <|
  ils_cons rfl (iop_strx rfl rfl (lb rfl) (sv (d := .str _) rfl) (sv (d := .str []) rfl) rfl hx1) <|
  ils_cons rfl (mvB rfl rfl rfl rfl) <|
  ils_guard rfl rfl (.one rfl) rfl (by decide) (fun hb => (iop_move rfl rfl (lb rfl) (sv (d := .str _) rfl))) <|
  ils_guard rfl rfl (.one rfl) rfl (by decide) (fun hb => (iop_len_str rfl rfl (lb rfl) Tryd.underlying9 (svc (d := .str _) rfl hb) rfl)) <|
  ils_guard rfl rfl (.one rfl) rfl (by decide) (fun hb => (iop_cmpx rfl rfl (lb rfl) (svcI rfl hb) (sv (d := .int _ 10) rfl) rfl hx2)) <|
  ils_cons rfl (iop_orx rfl rfl (lb rfl) (svB rfl) rfl rfl hx3) <|
  ils_cons rfl (mvB rfl rfl rfl rfl) <|
  ils_guard rfl rfl (.one rfl) rfl (by decide) (fun hb => (iop_move rfl rfl (lb rfl) (sv (d := .str _) rfl))) <|
  ils_guard rfl rfl (.one rfl) rfl (by decide) (fun hb => (iop_len_str rfl rfl (lb rfl) Tryd.underlying9 (svc (d := .str _) rfl hb) rfl)) <|
  ils_guard rfl rfl (.one rfl) rfl (by decide) (fun hb => (iop_cmpx rfl rfl (lb rfl) (svcI rfl hb) (sv (d := .int _ 1) rfl) rfl hx4)) <|
  ils_guard rfl rfl (.one rfl) rfl (by decide) (fun hb => (iop_move rfl rfl (lb rfl) (svcB rfl hb))) <|
  ils_guard rfl rfl (.two rfl) rfl (by decide) (fun hb => (iop_move rfl rfl (lb rfl) (sv (d := .str _) rfl))) <|
  ils_guard rfl rfl (.two rfl) rfl (by decide) (fun hb => (iop_str_at rfl rfl (lb rfl) Tryd.underlying9 (svc (d := .str _) rfl hb) (sv (d := .int _ 0) rfl) (gd_t hx5 hb))) <|
  ils_guard rfl rfl (.two rfl) rfl (by decide) (fun hb => (iop_cmpx rfl rfl (lb rfl) (svcI rfl hb) (sv (d := .int _ 48) rfl) rfl hx6)) <|
  ils_guard rfl rfl (.one rfl) rfl (by decide) (fun hb => (iop_and2x rfl rfl (lb rfl) hb (svcB rfl hb) rfl rfl hx7)) <|
  ils_cons rfl (iop_orx rfl rfl (lb rfl) (svB rfl) rfl rfl hx8) <|
  ils_end ?_)
 refine iwp_cond (b := _) rfl (fun hc9 => ?_) (fun hc9 => ?_)
 ·
  replace h := bif_t h hc9
  refine iwp_reg (ils_cons rfl (iop_assign rfl rfl (lb rfl) (sv (d := .int _ 0) rfl)) <|
   ils_cons rfl (iop_assign rfl rfl (lb rfl) (sv (d := .bool false) rfl)) <|
   ils_end ?_)
  refine iwp_ret ?_
  refine thenQ_r ?_
  obtain rfl := Option.some.inj h
  refine ⟨.inr rfl, (.cons (sv rfl) (.cons (sv rfl) .nil))⟩
 ·
  replace h := bif_f h hc9
  refine iwp_skip ?_
  refine thenQ_n ?_
  refine iwp_reg (ils_cons rfl (iop_assign rfl rfl (lb rfl) (sv (d := .int _ 0) rfl)) <|
   ils_end ?_)
  refine iwp_seq ?_
  refine iwp_reg (ils_cons rfl (iop_move rfl rfl (lb rfl) (sv (d := .str _) rfl)) <|
   ils_cons rfl (iop_str_bytes rfl rfl (lb rfl) Tryd.underlying9 Tryd.underlying57 Tryd.underlying5 (sv (d := .str _) rfl)) <|
   ils_cons rfl (iop_lenT eByte (l := a0) rfl rfl (lb rfl) Tryd.underlying57 (svL rfl)) <|
   ils_cons rfl (iop_move rfl rfl (lb rfl) (sv (d := .int _ 0) rfl)) <|
   ils_end ?_)
  refine iwp_block ?_
  refine iwp_loopP (α := Nat × Int × Int) (fun z => ⟨[(4, .int .i64 z.2.1), (25, .slice false (a0.map eByte.d)), (26, .int .i64 (a0.length : Int)), (27, .int .i64 z.2.2)], []⟩) (fun z => config_number_L0 a0 z.1 z.2.1 z.2.2 = some r) (fun z => z.1) (fuel, 0, 0) (fun i => i) ⟨(.sames rfl rfl), .nil, nd_of [] rfl (by decide), fun _ _ => rfl⟩ ?_ ?_
  ·exact h
  ·
   rintro ⟨n0, v22, v23⟩ h
   cases n0 with
   | zero => exact absurd h (by unfold config_number_L0; exact nofun)
   | succ n0 =>
    unfold config_number_L0 at h
    obtain ⟨x36, hx36, h⟩ := bnd_e h
    refine iwp_reg (ils_cons rfl (iop_cmpx rfl rfl (lb rfl) (svI rfl) (svI rfl) rfl hx36) <|
     ils_end ?_)
    refine iwp_seq ?_
    refine iwp_cond (b := _) rfl (fun hc37 => ?_) (fun hc37 => ?_)
    ·
     replace h := bif_t h hc37
     refine iwp_skip ?_
     refine thenQ_n ?_
     refine iwp_seq ?_
     refine iwp_block ?_
     obtain ⟨x38, hx38, h⟩ := bno_e h
     refine iwp_reg (ils_cons rfl (iop_idxT eByte (cs := [.int _ _]) rfl rfl (lb rfl) Tryd.underlying57 ti5 (svL rfl) (svI rfl) hx38 rfl rfl) <|
      ils_cons rfl (iop_load_fs rfl rfl (lb rfl) Tryd.underlying5 ag5 ti5 (by decide) (sv (d := .fptr [.int _ _]) rfl) (nle rfl)) <|
      ils_cons rfl (asI rfl rfl rfl rfl) <|
      ils_end ?_)
     refine iwp_seq ?_
     obtain ⟨x39, hx39, h⟩ := bnd_e h
     obtain ⟨x40, hx40, h⟩ := bnd_e h
     obtain ⟨x41, hx41, h⟩ := bnd_e h
     refine iwp_reg (ils_cons rfl (mvI rfl rfl rfl rfl) <|
      ils_cons rfl (iop_cmpx rfl rfl (lb rfl) (svI rfl) (sv (d := .int _ 48) rfl) rfl hx39) <|
      ils_cons rfl (mvB rfl rfl rfl rfl) <|
      ils_guard rfl rfl (.one rfl) rfl (by decide) (fun hb => (mvI rfl rfl rfl rfl)) <|
      ils_guard rfl rfl (.one rfl) rfl (by decide) (fun hb => (iop_cmpx rfl rfl (lb rfl) (svcI rfl hb) (sv (d := .int _ 57) rfl) rfl hx40)) <|
      ils_cons rfl (iop_orx rfl rfl (lb rfl) (svB rfl) rfl rfl hx41) <|
      ils_end ?_)
     refine iwp_cond (b := _) rfl (fun hc42 => ?_) (fun hc42 => ?_)
     ·
      replace h := bif_t h hc42
      refine iwp_reg (ils_cons rfl (iop_assign rfl rfl (lb rfl) (sv (d := .int _ 0) rfl)) <|
       ils_cons rfl (iop_assign rfl rfl (lb rfl) (sv (d := .bool false) rfl)) <|
       ils_end ?_)
      refine iwp_ret ?_
      refine thenQ_r ?_
      refine blockQ_r ?_
      refine thenQ_r ?_
      refine thenQ_r ?_
      refine blockQ_r ?_
      refine thenQ_r ?_
      obtain rfl := Option.some.inj h
      refine ⟨.inr rfl, (.cons (sv rfl) (.cons (sv rfl) .nil))⟩
     ·
      replace h := bif_f h hc42
      refine iwp_skip ?_
      refine thenQ_n ?_
      obtain ⟨x43, hx43, h⟩ := bnd_e h
      obtain ⟨x44, hx44, h⟩ := bnd_e h
      obtain ⟨x45, hx45, h⟩ := bnd_e h
      obtain ⟨x46, hx46, h⟩ := bnd_e h
      refine iwp_region (ils_cons rfl (mvI rfl rfl rfl rfl) <|
       ils_cons rfl (iop_intx rfl rfl (lb rfl) (sv (d := .int _ 10) rfl) (svI rfl) rfl hx43) <|
       ils_cons rfl (mvI rfl rfl rfl rfl) <|
       ils_cons rfl (iop_intx rfl rfl (lb rfl) (svI rfl) (sv (d := .int _ 48) rfl) rfl hx44) <|
       ils_cons rfl (iop_int_conv rfl rfl (lb rfl) ⟨_, Tryd.underlying5⟩ Tryd.underlying3 (svI rfl) hx45) <|
       ils_cons rfl (iop_intx rfl rfl (lb rfl) (svI rfl) (svI rfl) rfl hx46) <|
       ils_cons rfl (asI rfl rfl rfl rfl) <|
       ils_nil ?_)
      refine blockQ_n ?_
      refine thenQ_n ?_
      obtain ⟨x47, hx47, h⟩ := bnd_e h
      refine iwp_region (ils_cons rfl (iop_intx rfl rfl (lb rfl) (svI rfl) (sv (d := .int _ 1) rfl) rfl hx47) <|
       ils_cons rfl (mvI rfl rfl rfl rfl) <|
       ils_nil ?_)
      refine thenQ_n ⟨(n0, x46, x47), (fun i => i), ⟨(.sames rfl rfl), .nil, nd_of [] rfl (by decide), fun _ _ => rfl⟩, ?_, ?_⟩
      exact h
      exact Nat.lt_succ_self _
    ·
     replace h := bif_f h hc37
     refine iwp_exit ?_
     refine thenQ_e ?_
     refine thenQ_e ?_
     refine blockQ_e ?_
     refine thenQ_n ?_
     refine iwp_reg (ils_cons rfl (mvI rfl rfl rfl rfl) <|
      ils_cons rfl (asI rfl rfl rfl rfl) <|
      ils_cons rfl (iop_assign rfl rfl (lb rfl) (sv (d := .bool true) rfl)) <|
      ils_end ?_)
     refine iwp_ret ?_
     obtain rfl := Option.some.inj h
     refine ⟨.inr rfl, (.cons (sv rfl) (.cons (sv rfl) .nil))⟩

theorem p_config_numbers (a0 : (List (List UInt8))) (a1 : Int) (r : ((List Int) × Bool)) (h : config_numbers a0 a1 = some r) : PureAt Tryd.prog 34 [.slice false (a0.map eStr.d), .int .i64 a1] (retD [.slice false (r.1.map (eInt .i64).d), .bool r.2]) := by
 refine pure_of_iwp (rs := [.slice false (r.1.map (eInt .i64).d), .bool r.2]) Tryd.func34 rfl Tryd.ntmps34 (nle rfl) rfl fun O hO => ?_
 show IWP _ _ _ _ ⟨[(0, .slice false (a0.map eStr.d)), (1, .int .i64 a1)], []⟩ _
 unfold config_numbers at h
 refine iwp_reg (ils_cons rfl (iop_assign rfl rfl (lb rfl) (sv (d := .nils) rfl)) <|
  ils_cons rfl (iop_assign rfl rfl (lb rfl) (sv (d := .bool false) rfl)) <|
  ils_end ?_)
 refine iwp_reg (ils_cons rfl (iop_assign rfl rfl (lb rfl) (sv (d := .nils) rfl)) <|
  ils_end ?_)
 refine iwp_seq ?_
 refine iwp_reg (ils_cons rfl (mvL rfl rfl rfl rfl) <|
  ils_cons rfl (iop_lenT eStr (l := a0) rfl rfl (lb rfl) Tryd.underlying75 (svL rfl)) <|
  ils_cons rfl (iop_move rfl rfl (lb rfl) (sv (d := .int _ 0) rfl)) <|
  ils_end ?_)
 refine iwp_block ?_
 refine iwp_loopP (α := Nat × (List Int) × Int) (fun z => ⟨[(1, .int .i64 a1), (6, .gsl 21 (eInt .i64).sz (z.2.1.map (eInt .i64).d)), (11, .slice false (a0.map eStr.d)), (12, .int .i64 (a0.length : Int)), (13, .int .i64 z.2.2)], [(21, .tail 3 (eInt .i64).sz z.2.1.length)]⟩) (fun z => config_numbers_L0 a0 a1 z.1 z.2.1 z.2.2 = some r) (fun z => z.1) (fuel, ([] : (List Int)), 0) (fun i => if i = 21 then 71 else i) ⟨(.s rfl rfl (.cons (.nils rfl) (.sames rfl rfl))), (.cons (.nils rfl) .nil), nd_of [71] rfl (by decide), (fun i hi => by first | rfl | (show (if _ then _ else _) = _; (repeat' split) <;> omega))⟩ ?_ ?_
 ·exact h
 ·
  rintro ⟨n0, v8, v9⟩ h
  cases n0 with
  | zero => exact absurd h (by unfold config_numbers_L0; exact nofun)
  | succ n0 =>
   unfold config_numbers_L0 at h
   obtain ⟨x17, hx17, h⟩ := bnd_e h
   refine iwp_reg (ils_cons rfl (iop_cmpx rfl rfl (lb rfl) (svI rfl) (svI rfl) rfl hx17) <|
    ils_end ?_)
   refine iwp_seq ?_
   refine iwp_cond (b := _) rfl (fun hc18 => ?_) (fun hc18 => ?_)
   ·
    replace h := bif_t h hc18
    refine iwp_skip ?_
    refine thenQ_n ?_
    refine iwp_seq ?_
    refine iwp_block ?_
    obtain ⟨x19, hx19, h⟩ := bno_e h
    refine iwp_reg (ils_cons rfl (iop_idxT eStr (cs := [.str _]) rfl rfl (lb rfl) Tryd.underlying75 ti9 (svL rfl) (svI rfl) hx19 rfl rfl) <|
     ils_cons rfl (iop_load_fs rfl rfl (lb rfl) Tryd.underlying9 ag9 ti9 (by decide) (sv (d := .fptr [.str _]) rfl) (nle rfl)) <|
     ils_cons rfl (iop_assign rfl rfl (lb rfl) (sv (d := .str _) rfl)) <|
     ils_end ?_)
    obtain ⟨x20, hx20, h⟩ := bno_e h
    refine iwp_reg (ils_cons rfl (iop_move rfl rfl (lb rfl) (sv (d := .str _) rfl)) <|
     ils_cons rfl (iop_call (r := .tuple [.int _ _, .bool _]) rfl rfl (lb rfl) cl39 (.cons (sv (d := .str _) rfl) .nil) rfl (p_config_number _ _ hx20)) <|
     ils_cons rfl (iop_move rfl rfl (lb rfl) (sv (d := .tuple [.int _ _, .bool _]) rfl)) <|
     ils_cons rfl (iop_extract (d := .int _ _) rfl rfl (lb rfl) (sv (d := .tuple [.int _ _, .bool _]) rfl) rfl) <|
     ils_cons rfl (iop_extract (d := .bool _) rfl rfl (lb rfl) (sv (d := .tuple [.int _ _, .bool _]) rfl) rfl) <|
     ils_cons rfl (asI rfl rfl rfl rfl) <|
     ils_cons rfl (asB rfl rfl rfl rfl) <|
     ils_end ?_)
    refine iwp_seq ?_
    refine iwp_reg (ils_cons rfl (mvB rfl rfl rfl rfl) <|
     ils_cons rfl (iop_not rfl rfl (lb rfl) (svB rfl)) <|
     ils_end ?_)
    refine iwp_cond (b := _) rfl (fun hc21 => ?_) (fun hc21 => ?_)
    ·
     replace h := bif_t h hc21
     refine iwp_reg (ils_cons rfl (iop_assign rfl rfl (lb rfl) (sv (d := .nils) rfl)) <|
      ils_cons rfl (iop_assign rfl rfl (lb rfl) (sv (d := .bool false) rfl)) <|
      ils_end ?_)
     refine iwp_ret ?_
     refine thenQ_r ?_
     refine blockQ_r ?_
     refine thenQ_r ?_
     refine thenQ_r ?_
     refine blockQ_r ?_
     refine thenQ_r ?_
     obtain rfl := Option.some.inj h
     refine ⟨.inr rfl, (.cons (svn_of rfl rfl) (.cons (sv rfl) .nil))⟩
    ·
     replace h := bif_f h hc21
     refine iwp_skip ?_
     refine thenQ_n ?_
     obtain ⟨x22, hx22, h⟩ := bno_e h
     refine iwp_region (ils_cons rfl (iop_move rfl rfl (lb rfl) (sv (d := .gsl _ _ _) rfl)) <|
      ils_cons rfl (mvI rfl rfl rfl rfl) <|
      ils_cons rfl (iop_bsT (eInt .i64) ([x20.1] : (List Int)) 22 rfl rfl (lb rfl) Tryd.underlying54 ti3 rfl (.cons (svI rfl) .nil) rfl rfl (by decide)) <|
      ils_cons rfl (iop_appT (eInt .i64) 23 rfl rfl (lb rfl) Tryd.underlying54 ti3 rfl rfl rfl rfl (svg rfl) hx22) <|
      ils_cons rfl (iop_assign rfl rfl (lb rfl) (sv (d := .gsl _ _ _) rfl)) <|
      ils_nil ?_)
     refine blockQ_n ?_
     refine thenQ_n ?_
     obtain ⟨x23, hx23, h⟩ := bnd_e h
     refine iwp_region (ils_cons rfl (iop_intx rfl rfl (lb rfl) (svI rfl) (sv (d := .int _ 1) rfl) rfl hx23) <|
      ils_cons rfl (mvI rfl rfl rfl rfl) <|
      ils_nil ?_)
     refine thenQ_n ⟨(n0, x22, x23), (fun i => if i = 21 then 23 else i), ⟨(.sames rfl rfl), (.cons (.tail rfl) .nil), nd_of [23] rfl (by decide), (fun i hi => by first | rfl | (show (if _ then _ else _) = _; (repeat' split) <;> omega))⟩, ?_, ?_⟩
     exact h
     exact Nat.lt_succ_self _
   ·
    replace h := bif_f h hc18
    refine iwp_exit ?_
    refine thenQ_e ?_
    refine thenQ_e ?_
    refine blockQ_e ?_
    refine thenQ_n ?_
    obtain ⟨x24, hx24, h⟩ := bnd_e h
    refine iwp_reg (ils_cons rfl (iop_move rfl rfl (lb rfl) (sv (d := .gsl _ _ _) rfl)) <|
     ils_cons rfl (iop_move rfl rfl (lb rfl) (sv (d := .gsl _ _ _) rfl)) <|
     ils_cons rfl (iop_lenT (eInt .i64) (l := v8) rfl rfl (lb rfl) Tryd.underlying54 (svg rfl)) <|
     ils_cons rfl (mvI rfl rfl rfl rfl) <|
     ils_cons rfl (iop_cmpx rfl rfl (lb rfl) (svI rfl) (svI rfl) rfl hx24) <|
     ils_cons rfl (iop_assign rfl rfl (lb rfl) (sv (d := .gsl _ _ _) rfl)) <|
     ils_cons rfl (asB rfl rfl rfl rfl) <|
     ils_end ?_)
    refine iwp_ret ?_
    obtain rfl := Option.some.inj h
    refine ⟨.inr rfl, (.cons (svg_of rfl rfl) (.cons (sv rfl) .nil))⟩

theorem p_config_reader_take_h (a0 : (List UInt8)) (a1 : T_config_reader) (r : (Int × T_config_reader)) (h : config_reader_take_h a0 a1 = some r) : FnH Tryd.prog 25 [.ref 1000 0, .str a0] [(1000, .blk 63 (v0 a1))] (.int .i64 r.1) [(1000, .blk 63 (v0 r.2))] := by
 refine fnh_of_iwp (rs := [.int .i64 r.1]) Tryd.func25 rfl Tryd.ntmps25 (nle rfl) fun O hO => ?_
 show IWP _ _ _ _ ⟨[(0, .ref 1000 0), (1, .str a0)], [(1000, .blk 63 (v0 a1))]⟩ _
 unfold config_reader_take_h at h
 refine iwp_reg (ils_cons rfl (iop_assign rfl rfl (lb rfl) (sv (d := .int _ 0) rfl)) <|
  ils_end ?_)
 obtain ⟨x1, hx1, h⟩ := bno_e h
 refine iwp_reg (ils_cons rfl (iop_move rfl rfl (lb rfl) (sv (d := .str _) rfl)) <|
  ils_cons rfl (iop_call (r := .slice _ _) rfl rfl (lb rfl) cl33 (.cons (sv (d := .str _) rfl) (.cons (sv (d := .str [32]) rfl) .nil)) rfl (p_strings_Split _ _ _ hx1)) <|
  ils_cons rfl (iop_assign rfl rfl (lb rfl) (svL rfl)) <|
  ils_end ?_)
 refine iwp_reg (ils_cons rfl (iop_assign rfl rfl (lb rfl) (sv (d := .int _ 0) rfl)) <|
  ils_end ?_)
 refine iwp_join (α := Int) (fun z => ⟨[(0, .ref 1000 0), (5, .slice false (x1.map eStr.d)), (6, .int .i64 z)], [(1000, .blk 63 (v0 a1))]⟩) (fun z => config_reader_take_h_J0 a1 x1 z = some r) ?_ ?_
 ·
  obtain ⟨x68, hx68, h⟩ := bno_e h
  refine iwp_reg (ils_cons rfl (mvL rfl rfl rfl rfl) <|
   ils_cons rfl (iop_idxT eStr (cs := [.str _]) rfl rfl (lb rfl) Tryd.underlying75 ti9 (svL rfl) (sv (d := .int _ 0) rfl) hx68 rfl rfl) <|
   ils_cons rfl (iop_load_fs rfl rfl (lb rfl) Tryd.underlying9 ag9 ti9 (by decide) (sv (d := .fptr [.str _]) rfl) (nle rfl)) <|
   ils_end ?_)
  refine iwp_block ?_
  obtain ⟨x69, hx69, h⟩ := bnd_e h
  refine iwp_reg (ils_cons rfl (iop_strx rfl rfl (lb rfl) (sv (d := .str _) rfl) (sv (d := .str [112, 97, 116, 104, 115]) rfl) rfl hx69) <|
   ils_cons rfl (asB rfl rfl rfl rfl) <|
   ils_end ?_)
  refine iwp_cond (b := _) rfl (fun hc70 => ?_) (fun hc70 => ?_)
  ·
   replace h := bif_t h hc70
   refine iwp_region (ils_cons rfl (iop_assign rfl rfl (lb rfl) (sv (d := .int _ 1) rfl)) <|
    ils_nil ?_)
   refine blockQ_n ?_
   refine thenQ_n ⟨1, (fun i => i), ⟨(.sames rfl rfl), (.cons (.blk rfl rfl rfl) .nil), nd_of [1000] rfl (by decide), fun _ _ => rfl⟩, ?_⟩
   exact h
  ·
   replace h := bif_f h hc70
   obtain ⟨x71, hx71, h⟩ := bnd_e h
   refine iwp_reg (ils_cons rfl (iop_strx rfl rfl (lb rfl) (sv (d := .str _) rfl) (sv (d := .str [102, 105, 114, 115, 116]) rfl) rfl hx71) <|
    ils_cons rfl (asB rfl rfl rfl rfl) <|
    ils_end ?_)
   refine iwp_cond (b := _) rfl (fun hc72 => ?_) (fun hc72 => ?_)
   ·
    replace h := bif_t h hc72
    refine iwp_region (ils_cons rfl (iop_assign rfl rfl (lb rfl) (sv (d := .int _ 2) rfl)) <|
     ils_nil ?_)
    refine blockQ_n ?_
    refine thenQ_n ⟨2, (fun i => i), ⟨(.sames rfl rfl), (.cons (.blk rfl rfl rfl) .nil), nd_of [1000] rfl (by decide), fun _ _ => rfl⟩, ?_⟩
    exact h
   ·
    replace h := bif_f h hc72
    obtain ⟨x73, hx73, h⟩ := bnd_e h
    refine iwp_reg (ils_cons rfl (iop_strx rfl rfl (lb rfl) (sv (d := .str _) rfl) (sv (d := .str [118, 97, 108, 117, 101, 115]) rfl) rfl hx73) <|
     ils_cons rfl (asB rfl rfl rfl rfl) <|
     ils_end ?_)
    refine iwp_cond (b := _) rfl (fun hc74 => ?_) (fun hc74 => ?_)
    ·
     replace h := bif_t h hc74
     refine iwp_region (ils_cons rfl (iop_assign rfl rfl (lb rfl) (sv (d := .int _ 5) rfl)) <|
      ils_nil ?_)
     refine blockQ_n ?_
     refine thenQ_n ⟨5, (fun i => i), ⟨(.sames rfl rfl), (.cons (.blk rfl rfl rfl) .nil), nd_of [1000] rfl (by decide), fun _ _ => rfl⟩, ?_⟩
     exact h
    ·
     replace h := bif_f h hc74
     refine iwp_reg (ils_cons rfl (iop_assign rfl rfl (lb rfl) (sv (d := .int _ 12) rfl)) <|
      ils_end ?_)
     refine iwp_ret ?_
     refine blockQ_r ?_
     refine thenQ_r ?_
     obtain rfl := Option.some.inj h
     refine ⟨.inr rfl, (fun i => i), ⟨.nil, (.cons (.blk rfl rfl rfl) .nil), nd_of [1000] rfl (by decide), fun _ _ => rfl⟩, (.cons (sv rfl) .nil), rfl⟩
 ·
  rintro v9 h
  unfold config_reader_take_h_J0 at h
  obtain ⟨x10, hx10, h⟩ := bno_e h
  obtain ⟨x11, hx11, h⟩ := bno_e h
  refine iwp_reg (ils_cons rfl (mvL rfl rfl rfl rfl) <|
   ils_cons rfl (iop_cutT eStr rfl rfl (lb rfl) Tryd.underlying75 ti9 (svL rfl) ⟨_, (sv (d := .int _ 1) rfl)⟩ rfl hx10) <|
   ils_cons rfl (mvI rfl rfl rfl rfl) <|
   ils_cons rfl (iop_call (r := .tuple [.slice _ _, .bool _]) rfl rfl (lb rfl) cl34 (.cons (svL rfl) (.cons (svI rfl) .nil)) rfl (p_config_numbers _ _ _ hx11)) <|
   ils_cons rfl (iop_move rfl rfl (lb rfl) (sv (d := .tuple [.slice _ _, .bool _]) rfl)) <|
   ils_cons rfl (iop_extract (d := .slice _ _) rfl rfl (lb rfl) (sv (d := .tuple [.slice _ _, .bool _]) rfl) rfl) <|
   ils_cons rfl (iop_extract (d := .bool _) rfl rfl (lb rfl) (sv (d := .tuple [.slice _ _, .bool _]) rfl) rfl) <|
   ils_cons rfl (iop_assign rfl rfl (lb rfl) (svL rfl)) <|
   ils_cons rfl (asB rfl rfl rfl rfl) <|
   ils_end ?_)
  refine iwp_seq ?_
  obtain ⟨x12, hx12, h⟩ := bnd_e h
  obtain ⟨x13, hx13, h⟩ := bno_e h
  obtain ⟨x14, hx14, h⟩ := bnd_e h
  obtain ⟨x15, hx15, h⟩ := bnd_e h
  obtain ⟨x16, hx16, h⟩ := bnd_e h
  obtain ⟨x17, hx17, h⟩ := bnd_e h
  obtain ⟨x18, hx18, h⟩ := bno_e h
  obtain ⟨x19, hx19, h⟩ := bnd_e h
  obtain ⟨x20, hx20, h⟩ := bnd_e h
  obtain ⟨x21, hx21, h⟩ := bnd_e h
  refine iwp_reg (ils_cons rfl (mvB rfl rfl rfl rfl) <|
   ils_cons rfl (iop_not rfl rfl (lb rfl) (svB rfl)) <|
   ils_cons rfl (mvB rfl rfl rfl rfl) <|
   ils_guard rfl rfl (.one rfl) rfl (by decide) (fun hb => (mvI rfl rfl rfl rfl)) <|
   ils_guard rfl rfl (.one rfl) rfl (by decide) (fun hb => (iop_cmpx rfl rfl (lb rfl) (svcI rfl hb) (sv (d := .int _ 1) rfl) rfl hx12)) <|
   ils_guard rfl rfl (.one rfl) rfl (by decide) (fun hb => (iop_move rfl rfl (lb rfl) (svcB rfl hb))) <|
   ils_guard rfl rfl (.two rfl) rfl (by decide) (fun hb => (mvL rfl rfl rfl rfl)) <|
   ils_guard rfl rfl (.two rfl) rfl (by decide) (fun hb => (iop_idxT (eInt .i64) (cs := [.int _ _]) rfl rfl (lb rfl) Tryd.underlying54 ti3 (svcL rfl hb) (sv (d := .int _ 0) rfl) (gd_t hx13 hb) rfl rfl)) <|
   ils_guard rfl rfl (.two rfl) rfl (by decide) (fun hb => (iop_load_fs rfl rfl (lb rfl) Tryd.underlying3 ag3 ti3 (by decide) (svc (d := .fptr [.int _ _]) rfl hb) (nle rfl))) <|
   ils_guard rfl rfl (.two rfl) rfl (by decide) (fun hb => (iop_cmpx rfl rfl (lb rfl) (svcI rfl hb) (sv (d := .int _ 1) rfl) rfl hx14)) <|
   ils_guard rfl rfl (.one rfl) rfl (by decide) (fun hb => (iop_and2x rfl rfl (lb rfl) hb (svcB rfl hb) rfl rfl hx15)) <|
   ils_cons rfl (iop_orx rfl rfl (lb rfl) (svB rfl) rfl rfl hx16) <|
   ils_cons rfl (mvB rfl rfl rfl rfl) <|
   ils_guard rfl rfl (.one rfl) rfl (by decide) (fun hb => (mvI rfl rfl rfl rfl)) <|
   ils_guard rfl rfl (.one rfl) rfl (by decide) (fun hb => (iop_cmpx rfl rfl (lb rfl) (svcI rfl hb) (sv (d := .int _ 2) rfl) rfl hx17)) <|
   ils_guard rfl rfl (.one rfl) rfl (by decide) (fun hb => (iop_move rfl rfl (lb rfl) (svcB rfl hb))) <|
   ils_guard rfl rfl (.two rfl) rfl (by decide) (fun hb => (mvL rfl rfl rfl rfl)) <|
   ils_guard rfl rfl (.two rfl) rfl (by decide) (fun hb => (iop_idxT (eInt .i64) (cs := [.int _ _]) rfl rfl (lb rfl) Tryd.underlying54 ti3 (svcL rfl hb) (sv (d := .int _ 1) rfl) (gd_t hx18 hb) rfl rfl)) <|
   ils_guard rfl rfl (.two rfl) rfl (by decide) (fun hb => (iop_load_fs rfl rfl (lb rfl) Tryd.underlying3 ag3 ti3 (by decide) (svc (d := .fptr [.int _ _]) rfl hb) (nle rfl))) <|
   ils_guard rfl rfl (.two rfl) rfl (by decide) (fun hb => (iop_cmpx rfl rfl (lb rfl) (svcI rfl hb) (sv (d := .int _ 4294967295) rfl) rfl hx19)) <|
   ils_guard rfl rfl (.one rfl) rfl (by decide) (fun hb => (iop_and2x rfl rfl (lb rfl) hb (svcB rfl hb) rfl rfl hx20)) <|
   ils_cons rfl (iop_orx rfl rfl (lb rfl) (svB rfl) rfl rfl hx21) <|
   ils_end ?_)
  refine iwp_cond (b := _) rfl (fun hc22 => ?_) (fun hc22 => ?_)
  ·
   replace h := bif_t h hc22
   refine iwp_reg (ils_cons rfl (iop_assign rfl rfl (lb rfl) (sv (d := .int _ 60) rfl)) <|
    ils_end ?_)
   refine iwp_ret ?_
   refine thenQ_r ?_
   obtain rfl := Option.some.inj h
   refine ⟨.inr rfl, (fun i => i), ⟨.nil, (.cons (.blk rfl rfl rfl) .nil), nd_of [1000] rfl (by decide), fun _ _ => rfl⟩, (.cons (sv rfl) .nil), rfl⟩
  ·
   replace h := bif_f h hc22
   refine iwp_skip ?_
   refine thenQ_n ?_
   refine iwp_reg (ils_cons rfl (iop_assign rfl rfl (lb rfl) (sv (d := .int _ 0) rfl)) <|
    ils_end ?_)
   refine iwp_join (α := Int) (fun z => ⟨[(0, .ref 1000 0), (6, .int .i64 v9), (7, .slice false (x11.1.map (eInt .i64).d)), (9, .int .i64 z)], [(1000, .blk 63 (v0 a1))]⟩) (fun z => config_reader_take_h_J1 a1 v9 x11 z = some r) ?_ ?_
   ·
    refine iwp_reg (ils_cons rfl (mvI rfl rfl rfl rfl) <|
     ils_end ?_)
    refine iwp_block ?_
    obtain ⟨x60, hx60, h⟩ := bnd_e h
    refine iwp_reg (ils_cons rfl (iop_cmpx rfl rfl (lb rfl) (svI rfl) (sv (d := .int _ 2) rfl) rfl hx60) <|
     ils_cons rfl (asB rfl rfl rfl rfl) <|
     ils_end ?_)
    refine iwp_cond (b := _) rfl (fun hc61 => ?_) (fun hc61 => ?_)
    ·
     replace h := bif_t h hc61
     obtain ⟨x62, hx62, h⟩ := bno_e h
     obtain ⟨x63, hx63, h⟩ := bnd_e h
     refine iwp_region (ils_cons rfl (mvL rfl rfl rfl rfl) <|
      ils_cons rfl (iop_idxT (eInt .i64) (cs := [.int _ _]) rfl rfl (lb rfl) Tryd.underlying54 ti3 (svL rfl) (sv (d := .int _ 0) rfl) hx62 rfl rfl) <|
      ils_cons rfl (iop_load_fs rfl rfl (lb rfl) Tryd.underlying3 ag3 ti3 (by decide) (sv (d := .fptr [.int _ _]) rfl) (nle rfl)) <|
      ils_cons rfl (iop_intx rfl rfl (lb rfl) (sv (d := .int _ 3) rfl) (svI rfl) rfl hx63) <|
      ils_cons rfl (asI rfl rfl rfl rfl) <|
      ils_nil ?_)
     refine blockQ_n ?_
     refine thenQ_n ⟨x63, (fun i => i), ⟨(.sames rfl rfl), (.cons (.blk rfl rfl rfl) .nil), nd_of [1000] rfl (by decide), fun _ _ => rfl⟩, ?_⟩
     exact h
    ·
     replace h := bif_f h hc61
     obtain ⟨x64, hx64, h⟩ := bnd_e h
     refine iwp_reg (ils_cons rfl (iop_cmpx rfl rfl (lb rfl) (svI rfl) (sv (d := .int _ 5) rfl) rfl hx64) <|
      ils_cons rfl (asB rfl rfl rfl rfl) <|
      ils_end ?_)
     refine iwp_cond (b := _) rfl (fun hc65 => ?_) (fun hc65 => ?_)
     ·
      replace h := bif_t h hc65
      obtain ⟨x66, hx66, h⟩ := bno_e h
      obtain ⟨x67, hx67, h⟩ := bnd_e h
      refine iwp_region (ils_cons rfl (mvL rfl rfl rfl rfl) <|
       ils_cons rfl (iop_idxT (eInt .i64) (cs := [.int _ _]) rfl rfl (lb rfl) Tryd.underlying54 ti3 (svL rfl) (sv (d := .int _ 0) rfl) hx66 rfl rfl) <|
       ils_cons rfl (iop_load_fs rfl rfl (lb rfl) Tryd.underlying3 ag3 ti3 (by decide) (sv (d := .fptr [.int _ _]) rfl) (nle rfl)) <|
       ils_cons rfl (iop_intx rfl rfl (lb rfl) (sv (d := .int _ 1) rfl) (svI rfl) rfl hx67) <|
       ils_cons rfl (asI rfl rfl rfl rfl) <|
       ils_nil ?_)
      refine blockQ_n ?_
      refine thenQ_n ⟨x67, (fun i => i), ⟨(.sames rfl rfl), (.cons (.blk rfl rfl rfl) .nil), nd_of [1000] rfl (by decide), fun _ _ => rfl⟩, ?_⟩
      exact h
     ·
      replace h := bif_f h hc65
      refine iwp_skip ?_
      refine blockQ_n ?_
      refine thenQ_n ⟨0, (fun i => i), ⟨(.sames rfl rfl), (.cons (.blk rfl rfl rfl) .nil), nd_of [1000] rfl (by decide), fun _ _ => rfl⟩, ?_⟩
      exact h
   ·
    rintro v31 h
    unfold config_reader_take_h_J1 at h
    refine iwp_seq ?_
    obtain ⟨hk32, h⟩ := chk_e h
    obtain ⟨x33, hx33, h⟩ := bno_e h
    refine iwp_reg (ils_cons rfl (mvR rfl rfl rfl rfl) <|
     ils_cons rfl (mvI rfl rfl rfl rfl) <|
     ils_cons rfl (iop_nilCheck_ref rfl rfl (lb rfl) (svR rfl)) <|
     ils_cons rfl (faR 11 rfl rfl rfl Tryd.underlying63 rfl ti61 (lb rfl) rfl rfl) <|
     ils_cons rfl (iop_index_sel rfl rfl (lb rfl) Tryd.underlying61 ti4 (svR rfl) (svI rfl) hk32) <|
     ils_cons rfl (iop_load_sel_s eBool (b := 11) (k := 0) (sz := 1) (d := .bool _) rfl rfl (lb rfl) Tryd.underlying4 ag4 ti4 (svR rfl) rfl hx33 ⟨rfl, ⟨rfl, ⟨rfl, ⟨rfl, ⟨rfl, trivial⟩⟩⟩⟩⟩ rfl) <|
     ils_end ?_)
    refine iwp_cond (b := _) rfl (fun hc34 => ?_) (fun hc34 => ?_)
    ·
     replace h := bif_t h hc34
     refine iwp_reg (ils_cons rfl (iop_assign rfl rfl (lb rfl) (sv (d := .int _ 13) rfl)) <|
      ils_end ?_)
     refine iwp_ret ?_
     refine thenQ_r ?_
     obtain rfl := Option.some.inj h
     refine ⟨.inr rfl, (fun i => i), ⟨.nil, (.cons (.blk rfl rfl rfl) .nil), nd_of [1000] rfl (by decide), fun _ _ => rfl⟩, (.cons (sv rfl) .nil), rfl⟩
    ·
     replace h := bif_f h hc34
     refine iwp_skip ?_
     refine thenQ_n ?_
     obtain ⟨hk35, h⟩ := chk_e h
     obtain ⟨x36, hx36, h⟩ := bnd_e h
     obtain ⟨x37, hx37, h⟩ := bnd_e h
     obtain ⟨x38, hx38, h⟩ := bnd_e h
     obtain ⟨x39, hx39, h⟩ := bnd_e h
     obtain ⟨x40, hx40, h⟩ := bnd_e h
     refine iwp_reg (ils_cons rfl (mvR rfl rfl rfl rfl) <|
      ils_cons rfl (mvI rfl rfl rfl rfl) <|
      ils_cons rfl (iop_nilCheck_ref rfl rfl (lb rfl) (svR rfl)) <|
      ils_cons rfl (faR 11 rfl rfl rfl Tryd.underlying63 rfl ti61 (lb rfl) rfl rfl) <|
      ils_cons rfl (iop_index_sel rfl rfl (lb rfl) Tryd.underlying61 ti4 (svR rfl) (svI rfl) hk35) <|
      ils_cons rfl (iop_store_sel (b := 11) (k := 0) (sz := 1) (cs' := (w12 a1.Config.Paths a1.Config.Values.c0.Streams a1.Config.Values.c0.Window a1.Config.Values.c0.Whole a1.Config.Values.c0.Chunk a1.Config.Values.c1.Streams a1.Config.Values.c1.Window a1.Config.Values.c1.Whole a1.Config.Values.c1.Chunk a1.Config.First.c0 a1.Config.First.c1 x36 x37 x38 x39 x40)) rfl rfl ti4 (svR rfl) rfl (sv (d := .bool true) rfl) rfl rfl rfl hk35 rfl ⟨⟨⟨⟨⟨trivial, fun h => by rw [← hx36, ← hx37, ← hx38, ← hx39, ← hx40, h]; rfl⟩, fun h => by rw [← hx36, ← hx37, ← hx38, ← hx39, ← hx40, h]; rfl⟩, fun h => by rw [← hx36, ← hx37, ← hx38, ← hx39, ← hx40, h]; rfl⟩, fun h => by rw [← hx36, ← hx37, ← hx38, ← hx39, ← hx40, h]; rfl⟩, fun h => by rw [← hx36, ← hx37, ← hx38, ← hx39, ← hx40, h]; rfl⟩) <|
      ils_end ?_)
     refine iwp_seq ?_
     refine iwp_reg (ils_cons rfl (mvI rfl rfl rfl rfl) <|
      ils_end ?_)
     refine iwp_block ?_
     obtain ⟨x41, hx41, h⟩ := bnd_e h
     refine iwp_reg (ils_cons rfl (iop_cmpx rfl rfl (lb rfl) (svI rfl) (sv (d := .int _ 1) rfl) rfl hx41) <|
      ils_cons rfl (asB rfl rfl rfl rfl) <|
      ils_end ?_)
     refine iwp_cond (b := _) rfl (fun hc42 => ?_) (fun hc42 => ?_)
     ·
      replace h := bif_t h hc42
      obtain ⟨x43, hx43, h⟩ := bno_e h
      refine iwp_region (ils_cons rfl (mvR rfl rfl rfl rfl) <|
       ils_cons rfl (mvL rfl rfl rfl rfl) <|
       ils_cons rfl (iop_idxT (eInt .i64) (cs := [.int _ _]) rfl rfl (lb rfl) Tryd.underlying54 ti3 (svL rfl) (sv (d := .int _ 0) rfl) hx43 rfl rfl) <|
       ils_cons rfl (iop_load_fs rfl rfl (lb rfl) Tryd.underlying3 ag3 ti3 (by decide) (sv (d := .fptr [.int _ _]) rfl) (nle rfl)) <|
       ils_cons rfl (iop_nilCheck_ref rfl rfl (lb rfl) (svR rfl)) <|
       ils_cons rfl (faR 0 rfl rfl rfl Tryd.underlying63 rfl ti32 (lb rfl) rfl rfl) <|
       ils_cons rfl (faR 0 rfl rfl rfl Tryd.underlying32 rfl ti3 (lb rfl) rfl rfl) <|
       ils_cons rfl (iop_store (ds' := q5) rfl rfl ti3 (svR rfl) rfl (svI rfl) rfl rfl rfl (nle rfl) rfl) <|
       ils_nil ?_)
      refine blockQ_n ?_
      refine thenQ_n ?_
      refine iwp_reg (ils_cons rfl (iop_assign rfl rfl (lb rfl) (sv (d := .int _ 0) rfl)) <|
       ils_end ?_)
      refine iwp_ret ?_
      obtain rfl := Option.some.inj h
      refine ⟨.inr rfl, (fun i => i), ⟨.nil, (.cons (.blk rfl rfl rfl) .nil), nd_of [1000] rfl (by decide), fun _ _ => rfl⟩, (.cons (sv rfl) .nil), rfl⟩
     ·
      replace h := bif_f h hc42
      obtain ⟨x44, hx44, h⟩ := bnd_e h
      refine iwp_reg (ils_cons rfl (iop_cmpx rfl rfl (lb rfl) (svI rfl) (sv (d := .int _ 2) rfl) rfl hx44) <|
       ils_cons rfl (asB rfl rfl rfl rfl) <|
       ils_end ?_)
      refine iwp_cond (b := _) rfl (fun hc45 => ?_) (fun hc45 => ?_)
      ·
       replace h := bif_t h hc45
       obtain ⟨x46, hx46, h⟩ := bno_e h
       obtain ⟨x47, hx47, h⟩ := bno_e h
       obtain ⟨x48, hx48, h⟩ := bnd_e h
       obtain ⟨hk49, h⟩ := chk_e h
       obtain ⟨x50, hx50, h⟩ := bnd_e h
       obtain ⟨x51, hx51, h⟩ := bnd_e h
       refine iwp_draw rfl [⟨[0], [], [(107, .ref 1000 0)], []⟩,
        ⟨[7], [], [(108, .slice false (x11.1.map (eInt .i64).d))], []⟩,
        ⟨[108], [], [(109, .fptr [.int .i64 x46])], []⟩,
        ⟨[109], [], [(110, .int .i64 x46)], []⟩,
        ⟨[7], [], [(111, .slice false (x11.1.map (eInt .i64).d))], []⟩,
        ⟨[111], [], [(112, .fptr [.int .i64 x47])], []⟩,
        ⟨[112], [], [(113, .int .i64 x47)], []⟩,
        ⟨[113], [], [(114, .int .u32 x48)], []⟩,
        ⟨[107], [], [(115, .ref 1000 0)], []⟩,
        ⟨[115], [], [(116, .ref 1000 0)], []⟩,
        ⟨[116], [], [(117, .ref 1000 9)], []⟩,
        ⟨[110, 117], [], [(118, .ref 1000 (9 + (x46 : Int).toNat * 1 + 0))], []⟩,
        ⟨[114, 118], [1000], [], [(1000, .blk 63 (w12 a1.Config.Paths a1.Config.Values.c0.Streams a1.Config.Values.c0.Window a1.Config.Values.c0.Whole a1.Config.Values.c0.Chunk a1.Config.Values.c1.Streams a1.Config.Values.c1.Window a1.Config.Values.c1.Whole a1.Config.Values.c1.Chunk x50 x51 x36 x37 x38 x39 x40))]⟩] rfl ?_ (by kernel_rfl) ?_
       ·refine .cons (lop rfl rfl fun S hA => (iop_move rfl rfl (lb rfl) (svaR hA rfl rfl))) ?_
        refine .cons (lop rfl rfl fun S hA => (iop_move rfl rfl (lb rfl) (svaL hA rfl rfl))) ?_
        refine .cons (lop rfl rfl fun S hA => (iop_idxT (eInt .i64) (cs := [.int _ _]) rfl rfl (lb rfl) Tryd.underlying54 ti3 (svaL hA rfl rfl) (sv (d := .int _ 0) rfl) hx46 rfl rfl)) ?_
        refine .cons (lop rfl rfl fun S hA => (iop_load_fs rfl rfl (lb rfl) Tryd.underlying3 ag3 ti3 (by decide) (sv (d := .fptr [.int _ _]) (agr hA rfl rfl)) (nle rfl))) ?_
        refine .cons (lop rfl rfl fun S hA => (iop_move rfl rfl (lb rfl) (svaL hA rfl rfl))) ?_
        refine .cons (lop rfl rfl fun S hA => (iop_idxT (eInt .i64) (cs := [.int _ _]) rfl rfl (lb rfl) Tryd.underlying54 ti3 (svaL hA rfl rfl) (sv (d := .int _ 1) rfl) hx47 rfl rfl)) ?_
        refine .cons (lop rfl rfl fun S hA => (iop_load_fs rfl rfl (lb rfl) Tryd.underlying3 ag3 ti3 (by decide) (sv (d := .fptr [.int _ _]) (agr hA rfl rfl)) (nle rfl))) ?_
        refine .cons (lop rfl rfl fun S hA => (iop_int_conv rfl rfl (lb rfl) ⟨_, Tryd.underlying3⟩ Tryd.underlying25 (svaI hA rfl rfl) hx48)) ?_
        refine .cons (lop rfl rfl fun S hA => (iop_nilCheck_ref rfl rfl (lb rfl) (svaR hA rfl rfl))) ?_
        refine .cons (lop rfl rfl fun S hA => (iop_fieldAddr_ref rfl rfl (lb rfl) Tryd.underlying63 rfl ti32 (by decide) (svaR hA rfl rfl) (off' := 0) rfl)) ?_
        refine .cons (lop rfl rfl fun S hA => (iop_fieldAddr_ref rfl rfl (lb rfl) Tryd.underlying32 rfl ti26 (by decide) (svaR hA rfl rfl) (off' := 9) rfl)) ?_
        refine .cons (lop rfl rfl fun S hA => (iop_index_sel rfl rfl (lb rfl) Tryd.underlying26 ti25 (svaR hA rfl rfl) (svaI hA rfl rfl) hk49)) ?_
        refine .cons (lop rfl rfl fun S hA => (iop_store_sel (b := 9) (k := 0) (sz := 1) (cs' := (w12 a1.Config.Paths a1.Config.Values.c0.Streams a1.Config.Values.c0.Window a1.Config.Values.c0.Whole a1.Config.Values.c0.Chunk a1.Config.Values.c1.Streams a1.Config.Values.c1.Window a1.Config.Values.c1.Whole a1.Config.Values.c1.Chunk x50 x51 x36 x37 x38 x39 x40)) rfl rfl ti25 (svaR hA rfl rfl) (agi hA rfl rfl) (svaI hA rfl rfl) rfl rfl rfl hk49 rfl ⟨⟨trivial, fun h => by rw [← hx50, ← hx51, h]; rfl⟩, fun h => by rw [← hx50, ← hx51, h]; rfl⟩)) ?_
        exact .nil
       refine blockQ_n ?_
       refine thenQ_n ?_
       refine iwp_reg (ils_cons rfl (iop_assign rfl rfl (lb rfl) (sv (d := .int _ 0) rfl)) <|
        ils_end ?_)
       refine iwp_ret ?_
       obtain rfl := Option.some.inj h
       refine ⟨.inr rfl, (fun i => i), ⟨.nil, (.cons (.blk rfl rfl rfl) .nil), nd_of [1000] rfl (by decide), fun _ _ => rfl⟩, (.cons (sv rfl) .nil), rfl⟩
      ·
       replace h := bif_f h hc45
       obtain ⟨x52, hx52, h⟩ := bno_e h
       obtain ⟨x53, hx53, h⟩ := bno_e h
       obtain ⟨x54, hx54, h⟩ := bno_e h
       obtain ⟨x55, hx55, h⟩ := bno_e h
       obtain ⟨x56, hx56, h⟩ := bno_e h
       obtain ⟨hk57, h⟩ := chk_e h
       obtain ⟨x58, hx58, h⟩ := bnd_e h
       obtain ⟨x59, hx59, h⟩ := bnd_e h
       refine iwp_draw rfl [⟨[0], [], [(75, .ref 1000 0)], []⟩,
        ⟨[7], [], [(76, .slice false (x11.1.map (eInt .i64).d))], []⟩,
        ⟨[76], [], [(77, .fptr [.int .i64 x52])], []⟩,
        ⟨[77], [], [(78, .int .i64 x52)], []⟩,
        ⟨[7], [], [(79, .slice false (x11.1.map (eInt .i64).d))], []⟩,
        ⟨[79], [], [(80, .fptr [.int .i64 x53])], []⟩,
        ⟨[80], [], [(81, .int .i64 x53)], []⟩,
        ⟨[7], [], [(82, .slice false (x11.1.map (eInt .i64).d))], []⟩,
        ⟨[82], [], [(83, .fptr [.int .i64 x54])], []⟩,
        ⟨[83], [], [(84, .int .i64 x54)], []⟩,
        ⟨[7], [], [(85, .slice false (x11.1.map (eInt .i64).d))], []⟩,
        ⟨[85], [], [(86, .fptr [.int .i64 x55])], []⟩,
        ⟨[86], [], [(87, .int .i64 x55)], []⟩,
        ⟨[7], [], [(88, .slice false (x11.1.map (eInt .i64).d))], []⟩,
        ⟨[88], [], [(89, .fptr [.int .i64 x56])], []⟩,
        ⟨[89], [], [(90, .int .i64 x56)], []⟩,
        ⟨[81, 84, 87, 90], [], [(91, .agg (w14 x53 x54 x55 x56))], []⟩,
        ⟨[75], [], [(92, .ref 1000 0)], []⟩,
        ⟨[92], [], [(93, .ref 1000 0)], []⟩,
        ⟨[93], [], [(94, .ref 1000 1)], []⟩,
        ⟨[78, 94], [], [(95, .ref 1000 (1 + (x52 : Int).toNat * 4 + 0))], []⟩,
        ⟨[91, 95], [1000], [], [(1000, .blk 63 (w12 a1.Config.Paths x58.Streams x58.Window x58.Whole x58.Chunk x59.Streams x59.Window x59.Whole x59.Chunk a1.Config.First.c0 a1.Config.First.c1 x36 x37 x38 x39 x40))]⟩] rfl ?_ (by kernel_rfl) ?_
       ·refine .cons (lop rfl rfl fun S hA => (iop_move rfl rfl (lb rfl) (svaR hA rfl rfl))) ?_
        refine .cons (lop rfl rfl fun S hA => (iop_move rfl rfl (lb rfl) (svaL hA rfl rfl))) ?_
        refine .cons (lop rfl rfl fun S hA => (iop_idxT (eInt .i64) (cs := [.int _ _]) rfl rfl (lb rfl) Tryd.underlying54 ti3 (svaL hA rfl rfl) (sv (d := .int _ 0) rfl) hx52 rfl rfl)) ?_
        refine .cons (lop rfl rfl fun S hA => (iop_load_fs rfl rfl (lb rfl) Tryd.underlying3 ag3 ti3 (by decide) (sv (d := .fptr [.int _ _]) (agr hA rfl rfl)) (nle rfl))) ?_
        refine .cons (lop rfl rfl fun S hA => (iop_move rfl rfl (lb rfl) (svaL hA rfl rfl))) ?_
        refine .cons (lop rfl rfl fun S hA => (iop_idxT (eInt .i64) (cs := [.int _ _]) rfl rfl (lb rfl) Tryd.underlying54 ti3 (svaL hA rfl rfl) (sv (d := .int _ 1) rfl) hx53 rfl rfl)) ?_
        refine .cons (lop rfl rfl fun S hA => (iop_load_fs rfl rfl (lb rfl) Tryd.underlying3 ag3 ti3 (by decide) (sv (d := .fptr [.int _ _]) (agr hA rfl rfl)) (nle rfl))) ?_
        refine .cons (lop rfl rfl fun S hA => (iop_move rfl rfl (lb rfl) (svaL hA rfl rfl))) ?_
        refine .cons (lop rfl rfl fun S hA => (iop_idxT (eInt .i64) (cs := [.int _ _]) rfl rfl (lb rfl) Tryd.underlying54 ti3 (svaL hA rfl rfl) (sv (d := .int _ 2) rfl) hx54 rfl rfl)) ?_
        refine .cons (lop rfl rfl fun S hA => (iop_load_fs rfl rfl (lb rfl) Tryd.underlying3 ag3 ti3 (by decide) (sv (d := .fptr [.int _ _]) (agr hA rfl rfl)) (nle rfl))) ?_
        refine .cons (lop rfl rfl fun S hA => (iop_move rfl rfl (lb rfl) (svaL hA rfl rfl))) ?_
        refine .cons (lop rfl rfl fun S hA => (iop_idxT (eInt .i64) (cs := [.int _ _]) rfl rfl (lb rfl) Tryd.underlying54 ti3 (svaL hA rfl rfl) (sv (d := .int _ 3) rfl) hx55 rfl rfl)) ?_
        refine .cons (lop rfl rfl fun S hA => (iop_load_fs rfl rfl (lb rfl) Tryd.underlying3 ag3 ti3 (by decide) (sv (d := .fptr [.int _ _]) (agr hA rfl rfl)) (nle rfl))) ?_
        refine .cons (lop rfl rfl fun S hA => (iop_move rfl rfl (lb rfl) (svaL hA rfl rfl))) ?_
        refine .cons (lop rfl rfl fun S hA => (iop_idxT (eInt .i64) (cs := [.int _ _]) rfl rfl (lb rfl) Tryd.underlying54 ti3 (svaL hA rfl rfl) (sv (d := .int _ 4) rfl) hx56 rfl rfl)) ?_
        refine .cons (lop rfl rfl fun S hA => (iop_load_fs rfl rfl (lb rfl) Tryd.underlying3 ag3 ti3 (by decide) (sv (d := .fptr [.int _ _]) (agr hA rfl rfl)) (nle rfl))) ?_
        refine .cons (lop rfl rfl fun S hA => (iop_build_struct (cs := q8) rfl rfl (lb rfl) Tryd.underlying29 ti29 pl29 rfl (.cons (svaI hA rfl rfl) (.cons (svaI hA rfl rfl) (.cons (svaI hA rfl rfl) (.cons (svaI hA rfl rfl) .nil)))) rfl)) ?_
        refine .cons (lop rfl rfl fun S hA => (iop_nilCheck_ref rfl rfl (lb rfl) (svaR hA rfl rfl))) ?_
        refine .cons (lop rfl rfl fun S hA => (iop_fieldAddr_ref rfl rfl (lb rfl) Tryd.underlying63 rfl ti32 (by decide) (svaR hA rfl rfl) (off' := 0) rfl)) ?_
        refine .cons (lop rfl rfl fun S hA => (iop_fieldAddr_ref rfl rfl (lb rfl) Tryd.underlying32 rfl ti30 (by decide) (svaR hA rfl rfl) (off' := 1) rfl)) ?_
        refine .cons (lop rfl rfl fun S hA => (iop_index_sel rfl rfl (lb rfl) Tryd.underlying30 ti29 (svaR hA rfl rfl) (svaI hA rfl rfl) hk57)) ?_
        refine .cons (lop rfl rfl fun S hA => (iop_store_sel (b := 1) (k := 0) (sz := 4) (cs' := (w12 a1.Config.Paths x58.Streams x58.Window x58.Whole x58.Chunk x59.Streams x59.Window x59.Whole x59.Chunk a1.Config.First.c0 a1.Config.First.c1 x36 x37 x38 x39 x40)) rfl rfl ti29 (svaR hA rfl rfl) (agi hA rfl rfl) (svaA q8 hA rfl rfl) rfl rfl rfl hk57 rfl ⟨⟨trivial, fun h => by rw [← hx58, ← hx59, h]; rfl⟩, fun h => by rw [← hx58, ← hx59, h]; rfl⟩)) ?_
        exact .nil
       refine blockQ_n ?_
       refine thenQ_n ?_
       refine iwp_reg (ils_cons rfl (iop_assign rfl rfl (lb rfl) (sv (d := .int _ 0) rfl)) <|
        ils_end ?_)
       refine iwp_ret ?_
       obtain rfl := Option.some.inj h
       refine ⟨.inr rfl, (fun i => i), ⟨.nil, (.cons (.blk rfl rfl rfl) .nil), nd_of [1000] rfl (by decide), fun _ _ => rfl⟩, (.cons (sv rfl) .nil), rfl⟩

theorem p_internal_stringslite_HasSuffix (a0 : (List UInt8)) (a1 : (List UInt8)) (r : Bool) (h : internal_stringslite_HasSuffix a0 a1 = some r) : PureAt Tryd.prog 35 [.str a0, .str a1] (.bool r) := by
 refine pure_of_iwp (rs := [.bool r]) Tryd.func35 rfl Tryd.ntmps35 (nle rfl) rfl fun O hO => ?_
 show IWP _ _ _ _ ⟨[(0, .str a0), (1, .str a1)], []⟩ _
 unfold internal_stringslite_HasSuffix at h
 refine iwp_reg (ils_cons rfl (iop_assign rfl rfl (lb rfl) (sv (d := .bool false) rfl)) <|
  ils_end ?_)
 obtain ⟨x1, hx1, h⟩ := bnd_e h
 obtain ⟨x2, hx2, h⟩ := bnd_e h
 obtain ⟨x3, hx3, h⟩ := bno_e h
 obtain ⟨x4, hx4, h⟩ := bnd_e h
 obtain ⟨x5, hx5, h⟩ := bnd_e h
 refine iwp_reg (ils_cons rfl (iop_move rfl rfl (lb rfl) (sv (d := .str _) rfl)) <|
  ils_cons rfl (iop_len_str rfl rfl (lb rfl) Tryd.underlying9 (sv (d := .str _) rfl) rfl) <|
  ils_cons rfl (iop_move rfl rfl (lb rfl) (sv (d := .str _) rfl)) <|
  ils_cons rfl (iop_len_str rfl rfl (lb rfl) Tryd.underlying9 (sv (d := .str _) rfl) rfl) <|
  ils_cons rfl (iop_cmpx rfl rfl (lb rfl) (svI rfl) (svI rfl) rfl hx1) <|
  ils_cons rfl (mvB rfl rfl rfl rfl) <|
  ils_guard rfl rfl (.one rfl) rfl (by decide) (fun hb => (iop_move rfl rfl (lb rfl) (sv (d := .str _) rfl))) <|
  ils_guard rfl rfl (.one rfl) rfl (by decide) (fun hb => (iop_move rfl rfl (lb rfl) (sv (d := .str _) rfl))) <|
  ils_guard rfl rfl (.one rfl) rfl (by decide) (fun hb => (iop_len_str rfl rfl (lb rfl) Tryd.underlying9 (svc (d := .str _) rfl hb) rfl)) <|
  ils_guard rfl rfl (.one rfl) rfl (by decide) (fun hb => (iop_move rfl rfl (lb rfl) (sv (d := .str _) rfl))) <|
  ils_guard rfl rfl (.one rfl) rfl (by decide) (fun hb => (iop_len_str rfl rfl (lb rfl) Tryd.underlying9 (svc (d := .str _) rfl hb) rfl)) <|
  ils_guard rfl rfl (.one rfl) rfl (by decide) (fun hb => (iop_intx rfl rfl (lb rfl) (svcI rfl hb) (svcI rfl hb) rfl hx2)) <|
  ils_guard rfl rfl (.one rfl) rfl (by decide) (fun hb => (iop_cutS rfl rfl (lb rfl) Tryd.underlying9 (svc (d := .str _) rfl hb) ⟨_, (svcI rfl hb)⟩ rfl (gd_t hx3 hb))) <|
  ils_guard rfl rfl (.one rfl) rfl (by decide) (fun hb => (iop_move rfl rfl (lb rfl) (sv (d := .str _) rfl))) <|
  ils_guard rfl rfl (.one rfl) rfl (by decide) (fun hb => (iop_strx rfl rfl (lb rfl) (svc (d := .str _) rfl hb) (svc (d := .str _) rfl hb) rfl hx4)) <|
  ils_cons rfl (iop_andx rfl rfl (lb rfl) (svB rfl) rfl rfl hx5) <|
  ils_cons rfl (asB rfl rfl rfl rfl) <|
  ils_end ?_)
 refine iwp_ret ?_
 obtain rfl := Option.some.inj h
 refine ⟨.inr rfl, (.cons (sv rfl) .nil)⟩

theorem p_strings_HasSuffix (a0 : (List UInt8)) (a1 : (List UInt8)) (r : Bool) (h : strings_HasSuffix a0 a1 = some r) : PureAt Tryd.prog 26 [.str a0, .str a1] (.bool r) := by
 refine pure_of_iwp (rs := [.bool r]) Tryd.func26 rfl Tryd.ntmps26 (nle rfl) rfl fun O hO => ?_
 show IWP _ _ _ _ ⟨[(0, .str a0), (1, .str a1)], []⟩ _
 unfold strings_HasSuffix at h
 refine iwp_reg (ils_cons rfl (iop_assign rfl rfl (lb rfl) (sv (d := .bool false) rfl)) <|
  ils_end ?_)
 obtain ⟨x1, hx1, h⟩ := bno_e h
 refine iwp_reg (ils_cons rfl (iop_move rfl rfl (lb rfl) (sv (d := .str _) rfl)) <|
  ils_cons rfl (iop_move rfl rfl (lb rfl) (sv (d := .str _) rfl)) <|
  ils_cons rfl (iop_call (r := .bool _) rfl rfl (lb rfl) cl35 (.cons (sv (d := .str _) rfl) (.cons (sv (d := .str _) rfl) .nil)) rfl (p_internal_stringslite_HasSuffix _ _ _ hx1)) <|
  ils_cons rfl (asB rfl rfl rfl rfl) <|
  ils_end ?_)
 refine iwp_ret ?_
 obtain rfl := Option.some.inj h
 refine ⟨.inr rfl, (.cons (sv rfl) .nil)⟩

theorem p_config_Parse (a0 : (List UInt8)) (r : (T_world_Config × Int × Int)) (h : config_Parse a0 = some r) : PureAt Tryd.prog 17 [.str a0] (retD [.agg (v1 r.1), .int .i64 r.2.1, .int .i64 r.2.2]) := by
 refine pure_of_iwp (rs := [.agg (v1 r.1), .int .i64 r.2.1, .int .i64 r.2.2]) Tryd.func17 rfl Tryd.ntmps17 (nle rfl) rfl fun O hO => ?_
 show IWP _ _ _ _ ⟨[(0, .str a0)], []⟩ _
 unfold config_Parse at h
 refine iwp_reg (ils_cons rfl (iop_allocS (cs := q6) (cs' := (w13 0 0 0 0 0 0 0 0 0 0 0)) 0 rfl rfl (lb rfl) rfl ti32 rfl rfl (.all _)) <|
  ils_cons rfl (iop_allocS (cs := [.int _ _]) (cs' := [.int .i64 0]) 1 rfl rfl (lb rfl) rfl ti3 rfl rfl (.all _)) <|
  ils_cons rfl (iop_allocS (cs := [.int _ _]) (cs' := [.int .i64 0]) 2 rfl rfl (lb rfl) rfl ti34 rfl rfl (.all _)) <|
  ils_end ?_)
 obtain ⟨x1, hx1, h⟩ := bno_e h
 refine iwp_reg (ils_cons rfl (iop_call (r := .agg q6) rfl rfl (lb rfl) cl14 .nil rfl (p_config_First  _ hx1)) <|
  ils_cons rfl (iop_build_struct (cs := q5) rfl rfl (lb rfl) Tryd.underlying63 ti63 pl63 rfl (.cons (svA q6 rfl) .nil) rfl) <|
  ils_cons rfl (iop_box' (cs := q5) 3 rfl rfl (lb rfl) rfl (svA q5 rfl) rfl rfl) <|
  ils_cons rfl (iop_allocS (cs := [.nilp]) (cs' := [.nilp]) 4 rfl rfl (lb rfl) rfl ti60 rfl rfl (.all _)) <|
  ils_cons rfl (iop_store (ds' := [.ref _ _]) rfl rfl ti60 (svR rfl) rfl (svR rfl) rfl rfl rfl (nle rfl) rfl) <|
  ils_end ?_)
 refine iwp_seq ?_
 refine iwp_reg (ils_cons rfl (iop_move rfl rfl (lb rfl) (sv (d := .str _) rfl)) <|
  ?_)
 refine ils_weak (S' := ⟨[(0, .str a0), (2, .ref 0 0), (3, .ref 1 0), (4, .ref 2 0), (5, .ref 4 0), (13, .str a0)], [(0, .blk 32 (w13 0 0 0 0 0 0 0 0 0 0 0)), (1, .blk 3 [.int .i64 0]), (2, .blk 34 [.int .i64 0]), (3, .blk 63 (w12 x1.Paths x1.Values.c0.Streams x1.Values.c0.Window x1.Values.c0.Whole x1.Values.c0.Chunk x1.Values.c1.Streams x1.Values.c1.Window x1.Values.c1.Whole x1.Values.c1.Chunk x1.First.c0 x1.First.c1 false false false false false)), (4, .blk 60 [.ref 3 0])]⟩) (fun i => i) ⟨(.sames rfl rfl), (.cons (.blk rfl rfl rfl) (.cons (.blk rfl rfl rfl) (.cons (.blk rfl rfl rfl) (.cons (.blk rfl rfl rfl) (.cons (.blk rfl rfl rfl) .nil))))), nd_of [0, 1, 2, 3, 4] rfl (by decide), fun _ _ => rfl⟩ ?_
 refine ils_inl 1 5 rfl rfl rfl (by decide) cl24 Tryd.func24 rfl (.cons (sv (d := .str _) rfl) .nil) Tryd.ntmps24 (nle rfl) rfl hO fun O1 hO1 => ?_
 show IWP _ _ _ _ ⟨[(0, .str a0)], [(5, .kept 1 [.str a0, .dead, .ref 0 0, .ref 1 0, .ref 2 0, .ref 4 0, .dead, .dead, .dead, .dead, .dead, .dead, .dead, .str a0, .dead, .dead, .dead, .dead, .dead, .dead, .dead, .dead, .dead, .dead, .dead, .dead, .dead, .dead, .dead, .dead, .dead, .dead, .dead, .dead, .dead, .dead, .dead, .dead, .dead, .dead, .dead, .dead, .dead, .dead, .dead, .dead]), (0, .blk 32 (w13 0 0 0 0 0 0 0 0 0 0 0)), (1, .blk 3 [.int .i64 0]), (2, .blk 34 [.int .i64 0]), (3, .blk 63 (w12 x1.Paths x1.Values.c0.Streams x1.Values.c0.Window x1.Values.c0.Whole x1.Values.c0.Chunk x1.Values.c1.Streams x1.Values.c1.Window x1.Values.c1.Whole x1.Values.c1.Chunk x1.First.c0 x1.First.c1 false false false false false)), (4, .blk 60 [.ref 3 0])]⟩ _
 refine iwp_reg (ils_cons rfl (iop_box' (cs := [.str _]) 6 rfl rfl (lb rfl) rfl (sv (d := .str _) rfl) rfl rfl) <|
  ils_cons rfl (iop_assign rfl rfl (lb rfl) (sv (d := .nilf) rfl)) <|
  ils_end ?_)
 refine iwp_reg (ils_cons rfl (iop_makeFunc rfl rfl (lb rfl) (.cons (svR rfl) .nil)) <|
  ils_cons rfl (iop_assign rfl rfl (lb rfl) (sv (d := .fn 32 [.ref _ _]) rfl)) <|
  ils_end ?_)
 refine iwp_ret ?_
 refine ⟨.inr rfl, 5, _, [.fn 32 [.ref 6 0]], (.cons (sv rfl) .nil), rfl, rfl, ⟨[(0, .str a0), (2, .ref 0 0), (3, .ref 1 0), (4, .ref 2 0), (5, .ref 4 0), (14, .fn 32 [.ref 6 0])], [(0, .blk 32 (w13 0 0 0 0 0 0 0 0 0 0 0)), (1, .blk 3 [.int .i64 0]), (2, .blk 34 [.int .i64 0]), (3, .blk 63 (w12 x1.Paths x1.Values.c0.Streams x1.Values.c0.Window x1.Values.c0.Whole x1.Values.c0.Chunk x1.Values.c1.Streams x1.Values.c1.Window x1.Values.c1.Whole x1.Values.c1.Chunk x1.First.c0 x1.First.c1 false false false false false)), (4, .blk 60 [.ref 3 0]), (6, .blk 9 [.str a0])]⟩, (fun i => i), ⟨(.sames rfl rfl), (.cons (.blk rfl rfl rfl) (.cons (.blk rfl rfl rfl) (.cons (.blk rfl rfl rfl) (.cons (.blk rfl rfl rfl) (.cons (.blk rfl rfl rfl) (.cons (.blk rfl rfl rfl) .nil)))))), nd_of [0, 1, 2, 3, 4, 6] rfl (by decide), fun _ _ => rfl⟩, ?_⟩
 refine ils_end ?_
 refine iwp_block ?_
 refine iwp_weak (S' := ⟨[(0, .str a0), (2, .ref 0 0), (3, .ref 1 0), (4, .ref 2 0), (5, .ref 4 0), (14, .fn 32 [.ref 6 0])], [(0, .blk 32 (w13 0 0 0 0 0 0 0 0 0 0 0)), (1, .blk 3 [.int .i64 0]), (2, .blk 34 [.int .i64 0]), (3, .blk 63 (w12 x1.Paths x1.Values.c0.Streams x1.Values.c0.Window x1.Values.c0.Whole x1.Values.c0.Chunk x1.Values.c1.Streams x1.Values.c1.Window x1.Values.c1.Whole x1.Values.c1.Chunk x1.First.c0 x1.First.c1 false false false false false)), (4, .blk 60 [.ref 3 0]), (6, .blk 9 [.str a0])]⟩) (fun i => i) ⟨(.sames rfl rfl), (.cons (.blk rfl rfl rfl) (.cons (.blk rfl rfl rfl) (.cons (.blk rfl rfl rfl) (.cons (.blk rfl rfl rfl) (.cons (.blk rfl rfl rfl) (.cons (.blk rfl rfl rfl) .nil)))))), nd_of [0, 1, 2, 3, 4, 6] rfl (by decide), fun _ _ => rfl⟩ ?_
 refine iwp_range 1 7 8 (sv (d := .fn 32 [.ref _ _]) rfl) cl32 Tryd.func32 rfl rfl Tryd.ntmps32 (nle rfl) rfl rfl hO fun O1 hO1 hlc1 => ?_
 show IWP _ _ _ _ ⟨[(0, .yld 7), (1, .ref 6 0)], [(8, .kept 1 [.str a0, .dead, .ref 0 0, .ref 1 0, .ref 2 0, .ref 4 0, .dead, .dead, .dead, .dead, .dead, .dead, .dead, .dead, .fn 32 [.ref 6 0], .dead, .dead, .dead, .dead, .dead, .dead, .dead, .dead, .dead, .dead, .dead, .dead, .dead, .dead, .dead, .dead, .dead, .dead, .dead, .dead, .dead, .dead, .dead, .dead, .dead, .dead, .dead, .dead, .dead, .dead, .dead]), (7, .loop 1 [.str a0, .dead, .ref 0 0, .ref 1 0, .ref 2 0, .ref 4 0, .dead, .dead, .dead, .dead, .dead, .dead, .dead, .dead, .fn 32 [.ref 6 0], .dead, .dead, .dead, .dead, .dead, .dead, .dead, .dead, .dead, .dead, .dead, .dead, .dead, .dead, .dead, .dead, .dead, .dead, .dead, .dead, .dead, .dead, .dead, .dead, .dead, .dead, .dead, .dead, .dead, .dead, .dead] .ready none), (0, .blk 32 (w13 0 0 0 0 0 0 0 0 0 0 0)), (1, .blk 3 [.int .i64 0]), (2, .blk 34 [.int .i64 0]), (3, .blk 63 (w12 x1.Paths x1.Values.c0.Streams x1.Values.c0.Window x1.Values.c0.Whole x1.Values.c0.Chunk x1.Values.c1.Streams x1.Values.c1.Window x1.Values.c1.Whole x1.Values.c1.Chunk x1.First.c0 x1.First.c1 false false false false false)), (4, .blk 60 [.ref 3 0]), (6, .blk 9 [.str a0])]⟩ _
 obtain ⟨x71, hx71, h⟩ := bno_e h
 refine iwp_reg (ils_cons rfl (iop_load_rs (d := .str _) rfl rfl (lb rfl) Tryd.underlying9 ag9 ti9 (by decide) (svR rfl) rfl (nle rfl) rfl) <|
  ils_cons rfl (iop_call (r := .slice _ _) rfl rfl (lb rfl) cl33 (.cons (sv (d := .str _) rfl) (.cons (sv (d := .str [10]) rfl) .nil)) rfl (p_strings_Split _ _ _ hx71)) <|
  ils_cons rfl (iop_lenT eStr (l := x71) rfl rfl (lb rfl) Tryd.underlying75 (svL rfl)) <|
  ils_cons rfl (iop_move rfl rfl (lb rfl) (sv (d := .int _ 0) rfl)) <|
  ils_end ?_)
 refine iwp_block ?_
 refine iwp_loopP (α := Nat × Int × Int × Int × Int × Int × Int × Int × Int × Int × Int × Int × Int × Bool × Bool × Bool × Bool × Bool) (fun z => ⟨[(0, .yld 7), (6, .slice false (x71.map eStr.d)), (7, .int .i64 (x71.length : Int)), (8, .int .i64 z.2.1)], [(7, .loop 1 [.str a0, .dead, .ref 0 0, .ref 1 0, .ref 2 0, .ref 4 0, .dead, .dead, .dead, .dead, .dead, .dead, .dead, .dead, .fn 32 [.ref 6 0], .dead, .dead, .dead, .dead, .dead, .dead, .dead, .dead, .dead, .dead, .dead, .dead, .dead, .dead, .dead, .dead, .dead, .dead, .dead, .dead, .dead, .dead, .dead, .dead, .dead, .dead, .dead, .dead, .dead, .dead, .dead] .ready none), (8, .kept 1 [.str a0, .dead, .ref 0 0, .ref 1 0, .ref 2 0, .ref 4 0, .dead, .dead, .dead, .dead, .dead, .dead, .dead, .dead, .fn 32 [.ref 6 0], .dead, .dead, .dead, .dead, .dead, .dead, .dead, .dead, .dead, .dead, .dead, .dead, .dead, .dead, .dead, .dead, .dead, .dead, .dead, .dead, .dead, .dead, .dead, .dead, .dead, .dead, .dead, .dead, .dead, .dead, .dead]), (0, .blk 32 (w13 0 0 0 0 0 0 0 0 0 0 0)), (1, .blk 3 [.int .i64 0]), (2, .blk 34 [.int .i64 0]), (4, .blk 60 [.ref 3 0]), (6, .blk 9 [.str a0]), (3, .blk 63 (w12 z.2.2.1 z.2.2.2.1 z.2.2.2.2.1 z.2.2.2.2.2.1 z.2.2.2.2.2.2.1 z.2.2.2.2.2.2.2.1 z.2.2.2.2.2.2.2.2.1 z.2.2.2.2.2.2.2.2.2.1 z.2.2.2.2.2.2.2.2.2.2.1 z.2.2.2.2.2.2.2.2.2.2.2.1 z.2.2.2.2.2.2.2.2.2.2.2.2.1 z.2.2.2.2.2.2.2.2.2.2.2.2.2.1 z.2.2.2.2.2.2.2.2.2.2.2.2.2.2.1 z.2.2.2.2.2.2.2.2.2.2.2.2.2.2.2.1 z.2.2.2.2.2.2.2.2.2.2.2.2.2.2.2.2.1 z.2.2.2.2.2.2.2.2.2.2.2.2.2.2.2.2.2))]⟩) (fun z => config_Parse_L1 a0 x71 z.1 z.2.1 z.2.2.1 z.2.2.2.1 z.2.2.2.2.1 z.2.2.2.2.2.1 z.2.2.2.2.2.2.1 z.2.2.2.2.2.2.2.1 z.2.2.2.2.2.2.2.2.1 z.2.2.2.2.2.2.2.2.2.1 z.2.2.2.2.2.2.2.2.2.2.1 z.2.2.2.2.2.2.2.2.2.2.2.1 z.2.2.2.2.2.2.2.2.2.2.2.2.1 z.2.2.2.2.2.2.2.2.2.2.2.2.2.1 z.2.2.2.2.2.2.2.2.2.2.2.2.2.2.1 z.2.2.2.2.2.2.2.2.2.2.2.2.2.2.2.1 z.2.2.2.2.2.2.2.2.2.2.2.2.2.2.2.2.1 z.2.2.2.2.2.2.2.2.2.2.2.2.2.2.2.2.2 = some r) (fun z => z.1) (fuel, 0, x1.Paths, x1.Values.c0.Streams, x1.Values.c0.Window, x1.Values.c0.Whole, x1.Values.c0.Chunk, x1.Values.c1.Streams, x1.Values.c1.Window, x1.Values.c1.Whole, x1.Values.c1.Chunk, x1.First.c0, x1.First.c1, false, false, false, false, false) (fun i => i) ⟨(.sames rfl rfl), (.cons (.loop rfl rfl rfl) (.cons (.kept rfl rfl rfl) (.cons (.blk rfl rfl rfl) (.cons (.blk rfl rfl rfl) (.cons (.blk rfl rfl rfl) (.cons (.blk rfl rfl rfl) (.cons (.blk rfl rfl rfl) (.cons (.blk rfl rfl rfl) .nil)))))))), nd_of [7, 8, 0, 1, 2, 4, 6, 3] rfl (by decide), fun _ _ => rfl⟩ ?_ ?_
 ·exact h
 ·
  rintro ⟨n1, v89, v90, v91, v92, v93, v94, v95, v96, v97, v98, v99, v100, v101, v102, v103, v104, v105⟩ h
  cases n1 with
  | zero => exact absurd h (by unfold config_Parse_L1; exact nofun)
  | succ n1 =>
   unfold config_Parse_L1 at h
   obtain ⟨x123, hx123, h⟩ := bnd_e h
   refine iwp_reg (ils_cons rfl (iop_cmpx rfl rfl (lb rfl) (svI rfl) (svI rfl) rfl hx123) <|
    ils_end ?_)
   refine iwp_seq ?_
   refine iwp_cond (b := _) rfl (fun hc124 => ?_) (fun hc124 => ?_)
   ·
    replace h := bif_t h hc124
    refine iwp_skip ?_
    refine thenQ_n ?_
    refine iwp_seq ?_
    refine iwp_block ?_
    obtain ⟨x125, hx125, h⟩ := bno_e h
    refine iwp_reg (ils_cons rfl (mvI rfl rfl rfl rfl) <|
     ils_cons rfl (iop_idxT eStr (cs := [.str _]) rfl rfl (lb rfl) Tryd.underlying75 ti9 (svL rfl) (svI rfl) hx125 rfl rfl) <|
     ils_cons rfl (iop_load_fs rfl rfl (lb rfl) Tryd.underlying9 ag9 ti9 (by decide) (sv (d := .fptr [.str _]) rfl) (nle rfl)) <|
     ils_cons rfl (asI rfl rfl rfl rfl) <|
     ils_cons rfl (iop_assign rfl rfl (lb rfl) (sv (d := .str _) rfl)) <|
     ils_end ?_)
    obtain ⟨x126, hx126, h⟩ := bnd_e h
    obtain ⟨x127, hx127, h⟩ := bno_e h
    obtain ⟨x128, hx128, h⟩ := bnd_e h
    obtain ⟨x129, hx129, h⟩ := bnd_e h
    obtain ⟨x130, hx130, h⟩ := bnd_e h
    refine iwp_reg (ils_cons rfl (iop_move rfl rfl (lb rfl) (sv (d := .str _) rfl)) <|
     ils_cons rfl (iop_strx rfl rfl (lb rfl) (sv (d := .str _) rfl) (sv (d := .str []) rfl) rfl hx126) <|
     ils_cons rfl (mvB rfl rfl rfl rfl) <|
     ils_guard rfl rfl (.one rfl) rfl (by decide) (fun hb => (iop_move rfl rfl (lb rfl) (sv (d := .str _) rfl))) <|
     ils_guard rfl rfl (.one rfl) rfl (by decide) (fun hb => (iop_str_at rfl rfl (lb rfl) Tryd.underlying9 (svc (d := .str _) rfl hb) (sv (d := .int _ 0) rfl) (gd_t hx127 hb))) <|
     ils_guard rfl rfl (.one rfl) rfl (by decide) (fun hb => (iop_cmpx rfl rfl (lb rfl) (svcI rfl hb) (sv (d := .int _ 35) rfl) rfl hx128)) <|
     ils_cons rfl (iop_andx rfl rfl (lb rfl) (svB rfl) rfl rfl hx129) <|
     ils_cons rfl (mvB rfl rfl rfl rfl) <|
     ils_guard rfl rfl (.one rfl) rfl (by decide) (fun hb => (iop_move rfl rfl (lb rfl) (sv (d := .yld _) rfl))) <|
     ils_guard rfl rfl (.one rfl) rfl (by decide) (fun hb => (mvI rfl rfl rfl rfl)) <|
     ils_guard rfl rfl (.one rfl) rfl (by decide) (fun hb => (iop_intx rfl rfl (lb rfl) (svcI rfl hb) (sv (d := .int _ 1) rfl) rfl hx130)) <|
     ils_guard rfl rfl (.one rfl) rfl (by decide) (fun hb => (iop_move rfl rfl (lb rfl) (sv (d := .str _) rfl))) <|
     ?_)
    refine ils_gsplit rfl rfl (.one rfl) rfl (by decide) (fun hc131 => ?_) (fun hc131 => ?_)
    ·
     replace h := bif_t h hc131
     refine ils_uncnd 21 rfl hc131 ?_
     refine ils_uncnd 22 rfl hc131 ?_
     refine ils_uncnd 23 rfl hc131 ?_
     refine ils_uncnd 24 rfl hc131 ?_
     refine ils_weak (S' := ⟨[(0, .yld 7), (6, .slice false (x71.map eStr.d)), (7, .int .i64 (x71.length : Int)), (8, .int .i64 v89), (20, .bool x129), (21, .yld 7), (22, .int .i64 v89), (23, .int .i64 x130), (24, .str x125)], [(0, .blk 32 (w13 0 0 0 0 0 0 0 0 0 0 0)), (1, .blk 3 [.int .i64 0]), (2, .blk 34 [.int .i64 0]), (3, .blk 63 (w12 v90 v91 v92 v93 v94 v95 v96 v97 v98 v99 v100 v101 v102 v103 v104 v105)), (4, .blk 60 [.ref 3 0]), (6, .blk 9 [.str a0]), (7, .loop 1 [.str a0, .dead, .ref 0 0, .ref 1 0, .ref 2 0, .ref 4 0, .dead, .dead, .dead, .dead, .dead, .dead, .dead, .dead, .fn 32 [.ref 6 0], .dead, .dead, .dead, .dead, .dead, .dead, .dead, .dead, .dead, .dead, .dead, .dead, .dead, .dead, .dead, .dead, .dead, .dead, .dead, .dead, .dead, .dead, .dead, .dead, .dead, .dead, .dead, .dead, .dead, .dead, .dead] .ready none), (8, .kept 1 [.str a0, .dead, .ref 0 0, .ref 1 0, .ref 2 0, .ref 4 0, .dead, .dead, .dead, .dead, .dead, .dead, .dead, .dead, .fn 32 [.ref 6 0], .dead, .dead, .dead, .dead, .dead, .dead, .dead, .dead, .dead, .dead, .dead, .dead, .dead, .dead, .dead, .dead, .dead, .dead, .dead, .dead, .dead, .dead, .dead, .dead, .dead, .dead, .dead, .dead, .dead, .dead, .dead])]⟩) (fun i => i) ⟨(.sames rfl rfl), (.cons (.blk rfl rfl rfl) (.cons (.blk rfl rfl rfl) (.cons (.blk rfl rfl rfl) (.cons (.blk rfl rfl rfl) (.cons (.blk rfl rfl rfl) (.cons (.blk rfl rfl rfl) (.cons (.loop rfl rfl rfl) (.cons (.kept rfl rfl rfl) .nil)))))))), nd_of [0, 1, 2, 3, 4, 6, 7, 8] rfl (by decide), fun _ _ => rfl⟩ ?_
     refine ils_yield 2 7 9 rfl rfl rfl (by decide) rfl (.cons (svI rfl) (.cons (sv (d := .str _) rfl) .nil)) rfl rfl rfl rfl rfl rfl hO1 hlc1 ⟨[(16, .str x125), (15, .int .i64 x130), (2, .ref 0 0), (3, .ref 1 0), (4, .ref 2 0), (5, .ref 4 0)], [(0, .blk 32 (w13 0 0 0 0 0 0 0 0 0 0 0)), (1, .blk 3 [.int .i64 0]), (2, .blk 34 [.int .i64 0]), (3, .blk 63 (w12 v90 v91 v92 v93 v94 v95 v96 v97 v98 v99 v100 v101 v102 v103 v104 v105)), (4, .blk 60 [.ref 3 0]), (6, .blk 9 [.str a0]), (7, .loop 1 [.str a0, .dead, .ref 0 0, .ref 1 0, .ref 2 0, .ref 4 0, .dead, .dead, .dead, .dead, .dead, .dead, .dead, .dead, .fn 32 [.ref 6 0], .dead, .dead, .dead, .dead, .dead, .dead, .dead, .dead, .dead, .dead, .dead, .dead, .dead, .dead, .dead, .dead, .dead, .dead, .dead, .dead, .dead, .dead, .dead, .dead, .dead, .dead, .dead, .dead, .dead, .dead, .dead] .ready none), (8, .kept 1 [.str a0, .dead, .ref 0 0, .ref 1 0, .ref 2 0, .ref 4 0, .dead, .dead, .dead, .dead, .dead, .dead, .dead, .dead, .fn 32 [.ref 6 0], .dead, .dead, .dead, .dead, .dead, .dead, .dead, .dead, .dead, .dead, .dead, .dead, .dead, .dead, .dead, .dead, .dead, .dead, .dead, .dead, .dead, .dead, .dead, .dead, .dead, .dead, .dead, .dead, .dead, .dead, .dead]), (9, .kept 2 [.yld 7, .dead, .dead, .dead, .dead, .dead, .slice false (x71.map eStr.d), .int .i64 (x71.length : Int), .int .i64 v89, .dead, .dead, .dead, .dead, .dead, .dead, .dead, .dead, .dead, .dead, .dead, .bool x129, .yld 7, .int .i64 v89, .int .i64 x130, .str x125, .dead, .dead, .dead, .dead])]⟩ (fun i => i) ⟨(.sames rfl rfl), (.cons (.blk rfl rfl rfl) (.cons (.blk rfl rfl rfl) (.cons (.blk rfl rfl rfl) (.cons (.blk rfl rfl rfl) (.cons (.blk rfl rfl rfl) (.cons (.blk rfl rfl rfl) (.cons (.loop rfl rfl rfl) (.cons (.kept rfl rfl rfl) (.cons (.kept rfl rfl rfl) .nil))))))))), nd_of [0, 1, 2, 3, 4, 6, 7, 8, 9] rfl (by decide), fun _ _ => rfl⟩ fun O2 => ?_
     refine iwp_reg (ils_cons rfl (asI rfl rfl rfl rfl) <|
      ils_end ?_)
     refine iwp_region (ils_cons rfl (iop_assign rfl rfl (lb rfl) (sv (d := .str _) rfl)) <|
      ils_nil ?_)
     refine ⟨rfl, 7, _, rfl, ⟨[(2, .ref 0 0), (3, .ref 1 0), (4, .ref 2 0), (5, .ref 4 0), (6, .int .i64 x130), (7, .str x125)], [(0, .blk 32 (w13 0 0 0 0 0 0 0 0 0 0 0)), (1, .blk 3 [.int .i64 0]), (2, .blk 34 [.int .i64 0]), (3, .blk 63 (w12 v90 v91 v92 v93 v94 v95 v96 v97 v98 v99 v100 v101 v102 v103 v104 v105)), (4, .blk 60 [.ref 3 0]), (6, .blk 9 [.str a0]), (7, .loop 1 [.str a0, .dead, .ref 0 0, .ref 1 0, .ref 2 0, .ref 4 0, .dead, .dead, .dead, .dead, .dead, .dead, .dead, .dead, .fn 32 [.ref 6 0], .dead, .dead, .dead, .dead, .dead, .dead, .dead, .dead, .dead, .dead, .dead, .dead, .dead, .dead, .dead, .dead, .dead, .dead, .dead, .dead, .dead, .dead, .dead, .dead, .dead, .dead, .dead, .dead, .dead, .dead, .dead] .busy none), (8, .kept 1 [.str a0, .dead, .ref 0 0, .ref 1 0, .ref 2 0, .ref 4 0, .dead, .dead, .dead, .dead, .dead, .dead, .dead, .dead, .fn 32 [.ref 6 0], .dead, .dead, .dead, .dead, .dead, .dead, .dead, .dead, .dead, .dead, .dead, .dead, .dead, .dead, .dead, .dead, .dead, .dead, .dead, .dead, .dead, .dead, .dead, .dead, .dead, .dead, .dead, .dead, .dead, .dead, .dead]), (9, .kept 2 [.yld 7, .dead, .dead, .dead, .dead, .dead, .slice false (x71.map eStr.d), .int .i64 (x71.length : Int), .int .i64 v89, .dead, .dead, .dead, .dead, .dead, .dead, .dead, .dead, .dead, .dead, .dead, .bool x129, .yld 7, .int .i64 v89, .int .i64 x130, .str x125, .dead, .dead, .dead, .dead])]⟩, (fun i => i), ⟨(.sames rfl rfl), (.cons (.blk rfl rfl rfl) (.cons (.blk rfl rfl rfl) (.cons (.blk rfl rfl rfl) (.cons (.blk rfl rfl rfl) (.cons (.blk rfl rfl rfl) (.cons (.blk rfl rfl rfl) (.cons (.loop rfl rfl rfl) (.cons (.kept rfl rfl rfl) (.cons (.kept rfl rfl rfl) .nil))))))))), nd_of [0, 1, 2, 3, 4, 6, 7, 8, 9] rfl (by decide), fun _ _ => rfl⟩, ?_⟩
     refine iwp_block ?_
     obtain ⟨x132, hx132, h⟩ := bno_e h
     refine iwp_reg (ils_cons rfl (iop_load_rs (d := .ref _ _) rfl rfl (lb rfl) Tryd.underlying60 ag60 ti60 (by decide) (svR rfl) rfl (nle rfl) rfl) <|
      ils_cons rfl (iop_move rfl rfl (lb rfl) (sv (d := .str _) rfl)) <|
      ils_cons rfl (iop_callh2 (r' := .int .i64 x132.1) (H1' := [(3, .blk 63 (v0 x132.2))]) 10 [3] rfl rfl (lb rfl) cl25 (.cons (svR rfl) (.cons (sv (d := .str _) rfl) .nil)) rfl rfl ⟨rfl, rfl, by decide, rfl, List.forall_mem_cons.2 ⟨⟨rfl, rfl, rfl, rfl⟩, List.forall_mem_nil _⟩⟩ (p_config_reader_take_h _ _ _ hx132) rfl rfl (List.forall_mem_cons.2 ⟨⟨rfl, rfl⟩, List.forall_mem_nil _⟩) rfl) <|
      ils_cons rfl (asI rfl rfl rfl rfl) <|
      ils_end ?_)
     obtain ⟨x133, hx133, h⟩ := bnd_e h
     refine iwp_reg (ils_cons rfl (mvI rfl rfl rfl rfl) <|
      ils_cons rfl (iop_cmpx rfl rfl (lb rfl) (svI rfl) (sv (d := .int _ 0) rfl) rfl hx133) <|
      ils_end ?_)
     refine iwp_cond (b := _) rfl (fun hc134 => ?_) (fun hc134 => ?_)
     ·
      replace h := bif_t h hc134
      refine iwp_reg (ils_cons rfl (iop_build_struct (cs := q6) rfl rfl (lb rfl) Tryd.underlying32 ti32 pl32 rfl .nil rfl) <|
       ils_cons rfl (mvI rfl rfl rfl rfl) <|
       ils_cons rfl (mvI rfl rfl rfl rfl) <|
       ils_cons rfl (stA q6 q6 ti32 rfl rfl rfl rfl rfl rfl rfl rfl (nle rfl) rfl) <|
       ils_cons rfl (iop_store (ds' := [.int _ _]) rfl rfl ti3 (svR rfl) rfl (svI rfl) rfl rfl rfl (nle rfl) rfl) <|
       ils_cons rfl (iop_store (ds' := [.int _ _]) rfl rfl ti34 (svR rfl) rfl (svI rfl) rfl rfl rfl (nle rfl) rfl) <|
       ils_end ?_)
      refine iwp_ret ?_
      refine blockQ_r ?_
      refine ⟨7, 9, _, _, (some .ret), rfl, rfl, rfl, rfl, (by decide), ⟨[(0, .yld 7), (6, .slice false (x71.map eStr.d)), (7, .int .i64 (x71.length : Int)), (8, .int .i64 v89), (20, .bool x129), (21, .yld 7), (22, .int .i64 v89), (23, .int .i64 x130), (24, .str x125), (25, .bool false)], [(0, .blk 32 (w13 0 0 0 0 0 0 0 0 0 0 0)), (1, .blk 3 [.int .i64 x130]), (2, .blk 34 [.int .i64 x132.1]), (3, .blk 63 (v0 x132.2)), (4, .blk 60 [.ref 3 0]), (6, .blk 9 [.str a0]), (7, .loop 1 [.str a0, .dead, .ref 0 0, .ref 1 0, .ref 2 0, .ref 4 0, .dead, .dead, .dead, .dead, .dead, .dead, .dead, .dead, .fn 32 [.ref 6 0], .dead, .dead, .dead, .dead, .dead, .dead, .dead, .dead, .dead, .dead, .dead, .dead, .dead, .dead, .dead, .dead, .dead, .dead, .dead, .dead, .dead, .dead, .dead, .dead, .dead, .dead, .dead, .dead, .dead, .dead, .dead] .done (some .ret)), (8, .kept 1 [.str a0, .dead, .ref 0 0, .ref 1 0, .ref 2 0, .ref 4 0, .dead, .dead, .dead, .dead, .dead, .dead, .dead, .dead, .fn 32 [.ref 6 0], .dead, .dead, .dead, .dead, .dead, .dead, .dead, .dead, .dead, .dead, .dead, .dead, .dead, .dead, .dead, .dead, .dead, .dead, .dead, .dead, .dead, .dead, .dead, .dead, .dead, .dead, .dead, .dead, .dead, .dead, .dead])]⟩, (fun i => i), ⟨(.sames rfl rfl), (.cons (.blk rfl rfl rfl) (.cons (.blk rfl rfl rfl) (.cons (.blk rfl rfl rfl) (.cons (.blk rfl rfl rfl) (.cons (.blk rfl rfl rfl) (.cons (.blk rfl rfl rfl) (.cons (.loop rfl rfl rfl) (.cons (.kept rfl rfl rfl) .nil)))))))), nd_of [0, 1, 2, 3, 4, 6, 7, 8] rfl (by decide), fun _ _ => rfl⟩, ?_⟩
      obtain ⟨x135, hx135, h⟩ := bnd_e h
      refine ils_guard rfl rfl (.one rfl) rfl (by decide) (fun hb => (iop_not rfl rfl (lb rfl) (svB rfl))) <|
       ils_cons rfl (iop_andx rfl rfl (lb rfl) (svB rfl) rfl rfl hx135) <|
       ils_end ?_
      refine iwp_cond_t rfl (and_tt hx135 (beq_t hc131)) ?_
      refine iwp_ret ?_
      refine blockQ_r ?_
      refine thenQ_r ?_
      refine thenQ_r ?_
      refine blockQ_r ?_
      refine ⟨.inr rfl, 7, 8, _, _, _, _, rfl, (by simp), rfl, rfl, ⟨[(2, .ref 0 0), (3, .ref 1 0), (4, .ref 2 0)], [(0, .blk 32 (w13 0 0 0 0 0 0 0 0 0 0 0)), (1, .blk 3 [.int .i64 x130]), (2, .blk 34 [.int .i64 x132.1])]⟩, (fun i => i), ⟨(.sames rfl rfl), (.cons (.blk rfl rfl rfl) (.cons (.blk rfl rfl rfl) (.cons (.blk rfl rfl rfl) .nil))), nd_of [0, 1, 2] rfl (by decide), fun _ _ => rfl⟩, ?_⟩
      refine iwp_ret ?_
      refine blockQ_r ?_
      refine thenQ_r ?_
      obtain rfl := Option.some.inj h
      refine ⟨.inr rfl, (.cons (rva la32 rfl rfl (nle rfl) rfl) (.cons (resv_s rfl rfl Tryd.underlying3 ag3 ti3 (by decide) (nle rfl) rfl) (.cons (resv_s rfl rfl Tryd.underlying34 ag34 ti34 (by decide) (nle rfl) rfl) .nil)))⟩
     ·
      replace h := bif_f h hc134
      refine iwp_skip ?_
      refine blockQ_n ?_
      refine ⟨7, 9, _, _, none, rfl, rfl, rfl, rfl, (by decide), ⟨[(0, .yld 7), (6, .slice false (x71.map eStr.d)), (7, .int .i64 (x71.length : Int)), (8, .int .i64 v89), (20, .bool x129), (21, .yld 7), (22, .int .i64 v89), (23, .int .i64 x130), (24, .str x125), (25, .bool true)], [(0, .blk 32 (w13 0 0 0 0 0 0 0 0 0 0 0)), (1, .blk 3 [.int .i64 0]), (2, .blk 34 [.int .i64 0]), (3, .blk 63 (v0 x132.2)), (4, .blk 60 [.ref 3 0]), (6, .blk 9 [.str a0]), (7, .loop 1 [.str a0, .dead, .ref 0 0, .ref 1 0, .ref 2 0, .ref 4 0, .dead, .dead, .dead, .dead, .dead, .dead, .dead, .dead, .fn 32 [.ref 6 0], .dead, .dead, .dead, .dead, .dead, .dead, .dead, .dead, .dead, .dead, .dead, .dead, .dead, .dead, .dead, .dead, .dead, .dead, .dead, .dead, .dead, .dead, .dead, .dead, .dead, .dead, .dead, .dead, .dead, .dead, .dead] .ready none), (8, .kept 1 [.str a0, .dead, .ref 0 0, .ref 1 0, .ref 2 0, .ref 4 0, .dead, .dead, .dead, .dead, .dead, .dead, .dead, .dead, .fn 32 [.ref 6 0], .dead, .dead, .dead, .dead, .dead, .dead, .dead, .dead, .dead, .dead, .dead, .dead, .dead, .dead, .dead, .dead, .dead, .dead, .dead, .dead, .dead, .dead, .dead, .dead, .dead, .dead, .dead, .dead, .dead, .dead, .dead])]⟩, (fun i => i), ⟨(.sames rfl rfl), (.cons (.blk rfl rfl rfl) (.cons (.blk rfl rfl rfl) (.cons (.blk rfl rfl rfl) (.cons (.blk rfl rfl rfl) (.cons (.blk rfl rfl rfl) (.cons (.blk rfl rfl rfl) (.cons (.loop rfl rfl rfl) (.cons (.kept rfl rfl rfl) .nil)))))))), nd_of [0, 1, 2, 3, 4, 6, 7, 8] rfl (by decide), fun _ _ => rfl⟩, ?_⟩
      obtain ⟨x136, hx136, h⟩ := bnd_e h
      refine ils_guard rfl rfl (.one rfl) rfl (by decide) (fun hb => (iop_not rfl rfl (lb rfl) (svB rfl))) <|
       ils_cons rfl (iop_andx rfl rfl (lb rfl) (svB rfl) rfl rfl hx136) <|
       ils_end ?_
      refine iwp_cond_f rfl (and_ff hx136) ?_
      refine iwp_skip ?_
      refine blockQ_n ?_
      refine thenQ_n ?_
      obtain ⟨x137, hx137, h⟩ := bnd_e h
      refine iwp_region (ils_cons rfl (iop_intx rfl rfl (lb rfl) (svI rfl) (sv (d := .int _ 1) rfl) rfl hx137) <|
       ils_cons rfl (mvI rfl rfl rfl rfl) <|
       ils_nil ?_)
      refine thenQ_n ⟨(n1, x137, x132.2.Config.Paths, x132.2.Config.Values.c0.Streams, x132.2.Config.Values.c0.Window, x132.2.Config.Values.c0.Whole, x132.2.Config.Values.c0.Chunk, x132.2.Config.Values.c1.Streams, x132.2.Config.Values.c1.Window, x132.2.Config.Values.c1.Whole, x132.2.Config.Values.c1.Chunk, x132.2.Config.First.c0, x132.2.Config.First.c1, x132.2.seen.c0, x132.2.seen.c1, x132.2.seen.c2, x132.2.seen.c3, x132.2.seen.c4), (fun i => i), ⟨(.sames rfl rfl), (.cons (.loop rfl rfl rfl) (.cons (.kept rfl rfl rfl) (.cons (.blk rfl rfl rfl) (.cons (.blk rfl rfl rfl) (.cons (.blk rfl rfl rfl) (.cons (.blk rfl rfl rfl) (.cons (.blk rfl rfl rfl) (.cons (.blk rfl rfl rfl) .nil)))))))), nd_of [7, 8, 0, 1, 2, 4, 6, 3] rfl (by decide), fun _ _ => rfl⟩, ?_, ?_⟩
      exact h
      exact Nat.lt_succ_self _
    ·
     replace h := bif_f h hc131
     obtain ⟨x138, hx138, h⟩ := bnd_e h
     refine ils_guard rfl rfl (.one rfl) rfl (by decide) (fun hb => (iop_not rfl rfl (lb rfl) (svcB rfl hb))) <|
      ils_cons rfl (iop_andx rfl rfl (lb rfl) (svB rfl) rfl rfl hx138) <|
      ils_end ?_
     refine iwp_cond_f rfl (and_cf hx138 (beq_f hc131)) ?_
     refine iwp_skip ?_
     refine blockQ_n ?_
     refine thenQ_n ?_
     obtain ⟨x139, hx139, h⟩ := bnd_e h
     refine iwp_region (ils_cons rfl (iop_intx rfl rfl (lb rfl) (svI rfl) (sv (d := .int _ 1) rfl) rfl hx139) <|
      ils_cons rfl (mvI rfl rfl rfl rfl) <|
      ils_nil ?_)
     refine thenQ_n ⟨(n1, x139, v90, v91, v92, v93, v94, v95, v96, v97, v98, v99, v100, v101, v102, v103, v104, v105), (fun i => i), ⟨(.sames rfl rfl), (.cons (.loop rfl rfl rfl) (.cons (.kept rfl rfl rfl) (.cons (.blk rfl rfl rfl) (.cons (.blk rfl rfl rfl) (.cons (.blk rfl rfl rfl) (.cons (.blk rfl rfl rfl) (.cons (.blk rfl rfl rfl) (.cons (.blk rfl rfl rfl) .nil)))))))), nd_of [7, 8, 0, 1, 2, 4, 6, 3] rfl (by decide), fun _ _ => rfl⟩, ?_, ?_⟩
     exact h
     exact Nat.lt_succ_self _
   ·
    replace h := bif_f h hc124
    refine iwp_exit ?_
    refine thenQ_e ?_
    refine thenQ_e ?_
    refine blockQ_e ?_
    refine ⟨.inl rfl, 7, 8, _, _, _, _, rfl, (by simp), rfl, rfl, ⟨[(0, .str a0), (2, .ref 0 0), (3, .ref 1 0), (4, .ref 2 0), (5, .ref 4 0)], [(0, .blk 32 (w13 0 0 0 0 0 0 0 0 0 0 0)), (1, .blk 3 [.int .i64 0]), (2, .blk 34 [.int .i64 0]), (3, .blk 63 (w12 v90 v91 v92 v93 v94 v95 v96 v97 v98 v99 v100 v101 v102 v103 v104 v105)), (4, .blk 60 [.ref 3 0])]⟩, (fun i => i), ⟨(.sames rfl rfl), (.cons (.blk rfl rfl rfl) (.cons (.blk rfl rfl rfl) (.cons (.blk rfl rfl rfl) (.cons (.blk rfl rfl rfl) (.cons (.blk rfl rfl rfl) .nil))))), nd_of [0, 1, 2, 3, 4] rfl (by decide), fun _ _ => rfl⟩, ?_⟩
    refine blockQ_n ?_
    refine thenQ_n ?_
    refine iwp_seq ?_
    obtain ⟨x140, hx140, h⟩ := bnd_e h
    obtain ⟨x141, hx141, h⟩ := bno_e h
    obtain ⟨x142, hx142, h⟩ := bnd_e h
    refine iwp_reg (ils_cons rfl (iop_move rfl rfl (lb rfl) (sv (d := .str _) rfl)) <|
     ils_cons rfl (iop_strx rfl rfl (lb rfl) (sv (d := .str _) rfl) (sv (d := .str []) rfl) rfl hx140) <|
     ils_cons rfl (mvB rfl rfl rfl rfl) <|
     ils_guard rfl rfl (.one rfl) rfl (by decide) (fun hb => (iop_move rfl rfl (lb rfl) (sv (d := .str _) rfl))) <|
     ils_guard rfl rfl (.one rfl) rfl (by decide) (fun hb => (iop_call (r := .bool _) rfl rfl (lb rfl) cl26 (.cons (svc (d := .str _) rfl hb) (.cons (sv (d := .str [10]) rfl) .nil)) rfl (p_strings_HasSuffix _ _ _ (gd_t hx141 hb)))) <|
     ils_guard rfl rfl (.one rfl) rfl (by decide) (fun hb => (iop_not rfl rfl (lb rfl) (svcB rfl hb))) <|
     ils_cons rfl (iop_andx rfl rfl (lb rfl) (svB rfl) rfl rfl hx142) <|
     ils_end ?_)
    refine iwp_cond (b := _) rfl (fun hc143 => ?_) (fun hc143 => ?_)
    ·
     replace h := bif_t h hc143
     refine iwp_reg (ils_cons rfl (iop_build_struct (cs := q6) rfl rfl (lb rfl) Tryd.underlying32 ti32 pl32 rfl .nil rfl) <|
      ils_cons rfl (stA q6 q6 ti32 rfl rfl rfl rfl rfl rfl rfl rfl (nle rfl) rfl) <|
      ils_cons rfl (iop_store (ds' := [.int _ _]) rfl rfl ti3 (svR rfl) rfl (sv (d := .int _ 0) rfl) rfl rfl rfl (nle rfl) rfl) <|
      ils_cons rfl (iop_store (ds' := [.int _ _]) rfl rfl ti34 (svR rfl) rfl (sv (d := .int _ 3) rfl) rfl rfl rfl (nle rfl) rfl) <|
      ils_end ?_)
     refine iwp_ret ?_
     refine thenQ_r ?_
     obtain rfl := Option.some.inj h
     refine ⟨.inr rfl, (.cons (rva la32 rfl rfl (nle rfl) rfl) (.cons (resv_s rfl rfl Tryd.underlying3 ag3 ti3 (by decide) (nle rfl) rfl) (.cons (resv_s rfl rfl Tryd.underlying34 ag34 ti34 (by decide) (nle rfl) rfl) .nil)))⟩
    ·
     replace h := bif_f h hc143
     refine iwp_skip ?_
     refine thenQ_n ?_
     refine iwp_seq ?_
     obtain ⟨x144, hx144, h⟩ := bno_e h
     refine iwp_reg (ils_cons rfl (iop_load_rs (d := .ref _ _) rfl rfl (lb rfl) Tryd.underlying60 ag60 ti60 (by decide) (svR rfl) rfl (nle rfl) rfl) <|
      ils_cons rfl (iop_nilCheck_ref rfl rfl (lb rfl) (svR rfl)) <|
      ils_cons rfl (faR 0 rfl rfl rfl Tryd.underlying63 rfl ti32 (lb rfl) rfl rfl) <|
      ils_cons rfl (lra q6 la32 rfl rfl rfl rfl rfl (nle rfl) rfl) <|
      ils_cons rfl (iop_call (r := .int _ _) rfl rfl (lb rfl) cl9 (.cons (svA q6 rfl) .nil) rfl (p_config_Check _ _ hx144)) <|
      ils_cons rfl (asI rfl rfl rfl rfl) <|
      ils_end ?_)
     obtain ⟨x145, hx145, h⟩ := bnd_e h
     refine iwp_reg (ils_cons rfl (mvI rfl rfl rfl rfl) <|
      ils_cons rfl (iop_cmpx rfl rfl (lb rfl) (svI rfl) (sv (d := .int _ 0) rfl) rfl hx145) <|
      ils_end ?_)
     refine iwp_cond (b := _) rfl (fun hc146 => ?_) (fun hc146 => ?_)
     ·
      replace h := bif_t h hc146
      refine iwp_reg (ils_cons rfl (iop_build_struct (cs := q6) rfl rfl (lb rfl) Tryd.underlying32 ti32 pl32 rfl .nil rfl) <|
       ils_cons rfl (mvI rfl rfl rfl rfl) <|
       ils_cons rfl (stA q6 q6 ti32 rfl rfl rfl rfl rfl rfl rfl rfl (nle rfl) rfl) <|
       ils_cons rfl (iop_store (ds' := [.int _ _]) rfl rfl ti3 (svR rfl) rfl (sv (d := .int _ 0) rfl) rfl rfl rfl (nle rfl) rfl) <|
       ils_cons rfl (iop_store (ds' := [.int _ _]) rfl rfl ti34 (svR rfl) rfl (svI rfl) rfl rfl rfl (nle rfl) rfl) <|
       ils_end ?_)
      refine iwp_ret ?_
      refine thenQ_r ?_
      obtain rfl := Option.some.inj h
      refine ⟨.inr rfl, (.cons (rva la32 rfl rfl (nle rfl) rfl) (.cons (resv_s rfl rfl Tryd.underlying3 ag3 ti3 (by decide) (nle rfl) rfl) (.cons (resv_s rfl rfl Tryd.underlying34 ag34 ti34 (by decide) (nle rfl) rfl) .nil)))⟩
     ·
      replace h := bif_f h hc146
      refine iwp_skip ?_
      refine thenQ_n ?_
      refine iwp_reg (ils_cons rfl (iop_load_rs (d := .ref _ _) rfl rfl (lb rfl) Tryd.underlying60 ag60 ti60 (by decide) (svR rfl) rfl (nle rfl) rfl) <|
       ils_cons rfl (iop_nilCheck_ref rfl rfl (lb rfl) (svR rfl)) <|
       ils_cons rfl (faR 0 rfl rfl rfl Tryd.underlying63 rfl ti32 (lb rfl) rfl rfl) <|
       ils_cons rfl (lra q6 la32 rfl rfl rfl rfl rfl (nle rfl) rfl) <|
       ils_cons rfl (stA q6 q6 ti32 rfl rfl rfl rfl rfl rfl rfl rfl (nle rfl) rfl) <|
       ils_cons rfl (iop_store (ds' := [.int _ _]) rfl rfl ti3 (svR rfl) rfl (sv (d := .int _ 0) rfl) rfl rfl rfl (nle rfl) rfl) <|
       ils_cons rfl (iop_store (ds' := [.int _ _]) rfl rfl ti34 (svR rfl) rfl (sv (d := .int _ 0) rfl) rfl rfl rfl (nle rfl) rfl) <|
       ils_end ?_)
      refine iwp_ret ?_
      obtain rfl := Option.some.inj h
      refine ⟨.inr rfl, (.cons (rva la32 rfl rfl (nle rfl) rfl) (.cons (resv_s rfl rfl Tryd.underlying3 ag3 ti3 (by decide) (nle rfl) rfl) (.cons (resv_s rfl rfl Tryd.underlying34 ag34 ti34 (by decide) (nle rfl) rfl) .nil)))⟩

theorem p_sennitlaw35_awake  (r : Bool) (h : sennitlaw35_awake = some r) : PureAt Tryd.prog 16 [] (.bool r) := by
 refine pure_of_iwp (rs := [.bool r]) Tryd.func16 rfl Tryd.ntmps16 (nle rfl) rfl fun O hO => ?_
 show IWP _ _ _ _ ⟨[], []⟩ _
 unfold sennitlaw35_awake at h
 refine iwp_reg (ils_cons rfl (iop_assign rfl rfl (lb rfl) (sv (d := .bool false) rfl)) <|
  ils_end ?_)
 obtain ⟨x1, hx1, h⟩ := bno_e h
 refine iwp_reg (ils_cons rfl (iop_call (r := .tuple q11) rfl rfl (lb rfl) cl17 (.cons (sv (d := .str [35, 32, 120, 10, 102, 105, 114, 115, 116, 32, 49, 32, 52, 50, 57, 52, 57, 54, 55, 50, 57, 53, 10, 10, 112, 97, 116, 104, 115, 32, 51, 10]) rfl) .nil) rfl (p_config_Parse _ _ hx1)) <|
  ils_cons rfl (iop_move rfl rfl (lb rfl) (sv (d := .tuple q11) rfl)) <|
  ils_cons rfl (iop_extract (d := .agg q6) rfl rfl (lb rfl) (sv (d := .tuple q11) rfl) rfl) <|
  ils_cons rfl (iop_extract (d := .int _ _) rfl rfl (lb rfl) (sv (d := .tuple q11) rfl) rfl) <|
  ils_cons rfl (iop_extract (d := .int _ _) rfl rfl (lb rfl) (sv (d := .tuple q11) rfl) rfl) <|
  ils_cons rfl (iop_allocS (cs := q6) (cs' := (w13 0 0 0 0 0 0 0 0 0 0 0)) 0 rfl rfl (lb rfl) rfl ti32 rfl rfl (.all _)) <|
  ils_cons rfl (stA q6 q6 ti32 rfl rfl rfl rfl rfl rfl rfl rfl (nle rfl) rfl) <|
  ils_cons rfl (asI rfl rfl rfl rfl) <|
  ils_cons rfl (asI rfl rfl rfl rfl) <|
  ils_end ?_)
 obtain ⟨x2, hx2, h⟩ := bno_e h
 refine iwp_reg (ils_cons rfl (iop_call (r := .tuple q11) rfl rfl (lb rfl) cl17 (.cons (sv (d := .str [112, 97, 116, 104, 115, 32, 51, 10, 112, 97, 116, 104, 115, 32, 51, 10]) rfl) .nil) rfl (p_config_Parse _ _ hx2)) <|
  ils_cons rfl (iop_move rfl rfl (lb rfl) (sv (d := .tuple q11) rfl)) <|
  ils_cons rfl (iop_extract (d := .agg q6) rfl rfl (lb rfl) (sv (d := .tuple q11) rfl) rfl) <|
  ils_cons rfl (iop_extract (d := .int _ _) rfl rfl (lb rfl) (sv (d := .tuple q11) rfl) rfl) <|
  ils_cons rfl (iop_extract (d := .int _ _) rfl rfl (lb rfl) (sv (d := .tuple q11) rfl) rfl) <|
  ils_cons rfl (iop_allocS (cs := q6) (cs' := (w13 0 0 0 0 0 0 0 0 0 0 0)) 1 rfl rfl (lb rfl) rfl ti32 rfl rfl (.all _)) <|
  ils_cons rfl (stA q6 q6 ti32 rfl rfl rfl rfl rfl rfl rfl rfl (nle rfl) rfl) <|
  ils_cons rfl (asI rfl rfl rfl rfl) <|
  ils_cons rfl (asI rfl rfl rfl rfl) <|
  ils_end ?_)
 obtain ⟨x3, hx3, h⟩ := bno_e h
 refine iwp_reg (ils_cons rfl (iop_call (r := .tuple q11) rfl rfl (lb rfl) cl17 (.cons (sv (d := .str [112, 97, 116, 104, 32, 51, 10]) rfl) .nil) rfl (p_config_Parse _ _ hx3)) <|
  ils_cons rfl (iop_move rfl rfl (lb rfl) (sv (d := .tuple q11) rfl)) <|
  ils_cons rfl (iop_extract (d := .agg q6) rfl rfl (lb rfl) (sv (d := .tuple q11) rfl) rfl) <|
  ils_cons rfl (iop_extract (d := .int _ _) rfl rfl (lb rfl) (sv (d := .tuple q11) rfl) rfl) <|
  ils_cons rfl (iop_extract (d := .int _ _) rfl rfl (lb rfl) (sv (d := .tuple q11) rfl) rfl) <|
  ils_cons rfl (iop_allocS (cs := q6) (cs' := (w13 0 0 0 0 0 0 0 0 0 0 0)) 2 rfl rfl (lb rfl) rfl ti32 rfl rfl (.all _)) <|
  ils_cons rfl (stA q6 q6 ti32 rfl rfl rfl rfl rfl rfl rfl rfl (nle rfl) rfl) <|
  ils_cons rfl (asI rfl rfl rfl rfl) <|
  ils_cons rfl (asI rfl rfl rfl rfl) <|
  ils_end ?_)
 obtain ⟨x4, hx4, h⟩ := bno_e h
 refine iwp_reg (ils_cons rfl (iop_call (r := .tuple q11) rfl rfl (lb rfl) cl17 (.cons (sv (d := .str [112, 97, 116, 104, 115, 32, 51]) rfl) .nil) rfl (p_config_Parse _ _ hx4)) <|
  ils_cons rfl (iop_move rfl rfl (lb rfl) (sv (d := .tuple q11) rfl)) <|
  ils_cons rfl (iop_extract (d := .agg q6) rfl rfl (lb rfl) (sv (d := .tuple q11) rfl) rfl) <|
  ils_cons rfl (iop_extract (d := .int _ _) rfl rfl (lb rfl) (sv (d := .tuple q11) rfl) rfl) <|
  ils_cons rfl (iop_extract (d := .int _ _) rfl rfl (lb rfl) (sv (d := .tuple q11) rfl) rfl) <|
  ils_cons rfl (iop_allocS (cs := q6) (cs' := (w13 0 0 0 0 0 0 0 0 0 0 0)) 3 rfl rfl (lb rfl) rfl ti32 rfl rfl (.all _)) <|
  ils_cons rfl (stA q6 q6 ti32 rfl rfl rfl rfl rfl rfl rfl rfl (nle rfl) rfl) <|
  ils_cons rfl (asI rfl rfl rfl rfl) <|
  ils_cons rfl (asI rfl rfl rfl rfl) <|
  ils_end ?_)
 obtain ⟨x5, hx5, h⟩ := bno_e h
 refine iwp_reg (ils_cons rfl (iop_call (r := .tuple q11) rfl rfl (lb rfl) cl17 (.cons (sv (d := .str [118, 97, 108, 117, 101, 115, 32, 50, 32, 49, 32, 49, 32, 49, 32, 49, 10]) rfl) .nil) rfl (p_config_Parse _ _ hx5)) <|
  ils_cons rfl (iop_move rfl rfl (lb rfl) (sv (d := .tuple q11) rfl)) <|
  ils_cons rfl (iop_extract (d := .agg q6) rfl rfl (lb rfl) (sv (d := .tuple q11) rfl) rfl) <|
  ils_cons rfl (iop_extract (d := .int _ _) rfl rfl (lb rfl) (sv (d := .tuple q11) rfl) rfl) <|
  ils_cons rfl (iop_extract (d := .int _ _) rfl rfl (lb rfl) (sv (d := .tuple q11) rfl) rfl) <|
  ils_cons rfl (iop_allocS (cs := q6) (cs' := (w13 0 0 0 0 0 0 0 0 0 0 0)) 4 rfl rfl (lb rfl) rfl ti32 rfl rfl (.all _)) <|
  ils_cons rfl (stA q6 q6 ti32 rfl rfl rfl rfl rfl rfl rfl rfl (nle rfl) rfl) <|
  ils_cons rfl (asI rfl rfl rfl rfl) <|
  ils_cons rfl (asI rfl rfl rfl rfl) <|
  ils_end ?_)
 obtain ⟨x6, hx6, h⟩ := bno_e h
 obtain ⟨x7, hx7, h⟩ := bno_e h
 refine iwp_reg (ils_cons rfl (iop_call (r := .agg q6) rfl rfl (lb rfl) cl14 .nil rfl (p_config_First  _ hx6)) <|
  ils_cons rfl (iop_call (r := .tuple q10) rfl rfl (lb rfl) cl7 (.cons (svA q6 rfl) .nil) rfl (p_config_Print _ _ hx7)) <|
  ils_cons rfl (iop_move rfl rfl (lb rfl) (sv (d := .tuple q10) rfl)) <|
  ils_cons rfl (iop_extract (d := .str _) rfl rfl (lb rfl) (sv (d := .tuple q10) rfl) rfl) <|
  ils_cons rfl (iop_extract (d := .int _ _) rfl rfl (lb rfl) (sv (d := .tuple q10) rfl) rfl) <|
  ils_cons rfl (iop_assign rfl rfl (lb rfl) (sv (d := .str _) rfl)) <|
  ils_cons rfl (asI rfl rfl rfl rfl) <|
  ils_end ?_)
 obtain ⟨x8, hx8, h⟩ := bno_e h
 refine iwp_reg (ils_cons rfl (iop_call (r := .tuple q11) rfl rfl (lb rfl) cl17 (.cons (sv (d := .str [112, 97, 116, 104, 115, 32, 53, 10]) rfl) .nil) rfl (p_config_Parse _ _ hx8)) <|
  ils_cons rfl (iop_move rfl rfl (lb rfl) (sv (d := .tuple q11) rfl)) <|
  ils_cons rfl (iop_extract (d := .agg q6) rfl rfl (lb rfl) (sv (d := .tuple q11) rfl) rfl) <|
  ils_cons rfl (iop_extract (d := .int _ _) rfl rfl (lb rfl) (sv (d := .tuple q11) rfl) rfl) <|
  ils_cons rfl (iop_extract (d := .int _ _) rfl rfl (lb rfl) (sv (d := .tuple q11) rfl) rfl) <|
  ils_cons rfl (iop_allocS (cs := q6) (cs' := (w13 0 0 0 0 0 0 0 0 0 0 0)) 5 rfl rfl (lb rfl) rfl ti32 rfl rfl (.all _)) <|
  ils_cons rfl (stA q6 q6 ti32 rfl rfl rfl rfl rfl rfl rfl rfl (nle rfl) rfl) <|
  ils_cons rfl (asI rfl rfl rfl rfl) <|
  ils_cons rfl (asI rfl rfl rfl rfl) <|
  ils_end ?_)
 obtain ⟨x9, hx9, h⟩ := bnd_e h
 obtain ⟨x10, hx10, h⟩ := bnd_e h
 obtain ⟨x11, hx11, h⟩ := bnd_e h
 obtain ⟨x12, hx12, h⟩ := bnd_e h
 obtain ⟨x13, hx13, h⟩ := bnd_e h
 obtain ⟨x14, hx14, h⟩ := bnd_e h
 obtain ⟨x15, hx15, h⟩ := bnd_e h
 obtain ⟨x16, hx16, h⟩ := bnd_e h
 obtain ⟨x17, hx17, h⟩ := bnd_e h
 obtain ⟨x18, hx18, h⟩ := bnd_e h
 obtain ⟨x19, hx19, h⟩ := bnd_e h
 obtain ⟨x20, hx20, h⟩ := bnd_e h
 obtain ⟨x21, hx21, h⟩ := bnd_e h
 obtain ⟨x22, hx22, h⟩ := bnd_e h
 obtain ⟨x23, hx23, h⟩ := bnd_e h
 obtain ⟨x24, hx24, h⟩ := bnd_e h
 obtain ⟨x25, hx25, h⟩ := bnd_e h
 obtain ⟨x26, hx26, h⟩ := bnd_e h
 obtain ⟨x27, hx27, h⟩ := bnd_e h
 obtain ⟨x28, hx28, h⟩ := bnd_e h
 obtain ⟨x29, hx29, h⟩ := bnd_e h
 obtain ⟨x30, hx30, h⟩ := bnd_e h
 obtain ⟨x31, hx31, h⟩ := bnd_e h
 obtain ⟨x32, hx32, h⟩ := bnd_e h
 obtain ⟨x33, hx33, h⟩ := bnd_e h
 obtain ⟨x34, hx34, h⟩ := bnd_e h
 obtain ⟨x35, hx35, h⟩ := bnd_e h
 obtain ⟨x36, hx36, h⟩ := bnd_e h
 obtain ⟨x37, hx37, h⟩ := bnd_e h
 obtain ⟨x38, hx38, h⟩ := bnd_e h
 obtain ⟨x39, hx39, h⟩ := bnd_e h
 obtain ⟨x40, hx40, h⟩ := bnd_e h
 obtain ⟨x41, hx41, h⟩ := bnd_e h
 obtain ⟨x42, hx42, h⟩ := bno_e h
 obtain ⟨x43, hx43, h⟩ := bnd_e h
 obtain ⟨x44, hx44, h⟩ := bnd_e h
 obtain ⟨x45, hx45, h⟩ := bno_e h
 obtain ⟨x46, hx46, h⟩ := bnd_e h
 obtain ⟨x47, hx47, h⟩ := bnd_e h
 obtain ⟨x48, hx48, h⟩ := bno_e h
 obtain ⟨x49, hx49, h⟩ := bnd_e h
 obtain ⟨x50, hx50, h⟩ := bnd_e h
 obtain ⟨x51, hx51, h⟩ := bnd_e h
 obtain ⟨x52, hx52, h⟩ := bnd_e h
 obtain ⟨x53, hx53, h⟩ := bnd_e h
 obtain ⟨x54, hx54, h⟩ := bnd_e h
 refine iwp_reg (ils_cons rfl (faR 0 rfl rfl rfl Tryd.underlying32 rfl ti3 (lb rfl) rfl rfl) <|
  ils_cons rfl (iop_load_rs (d := .int _ _) rfl rfl (lb rfl) Tryd.underlying3 ag3 ti3 (by decide) (svR rfl) rfl (nle rfl) rfl) <|
  ils_cons rfl (iop_cmpx rfl rfl (lb rfl) (svI rfl) (sv (d := .int _ 3) rfl) rfl hx9) <|
  ils_cons rfl (mvB rfl rfl rfl rfl) <|
  ils_guard rfl rfl (.one rfl) rfl (by decide) (fun hb => (faR 9 rfl rfl rfl Tryd.underlying32 rfl ti26 (lb rfl) rfl rfl)) <|
  ils_guard rfl rfl (.one rfl) rfl (by decide) (fun hb => (iop_index_ref rfl rfl (lb rfl) Tryd.underlying26 ti25 (svcR rfl hb) (sv (d := .int _ 1) rfl) (by decide) (by decide) (off' := 10) rfl)) <|
  ils_guard rfl rfl (.one rfl) rfl (by decide) (fun hb => (iop_load_rs (d := .int _ _) rfl rfl (lb rfl) Tryd.underlying25 ag25 ti25 (by decide) (svcR rfl hb) rfl (nle rfl) rfl)) <|
  ils_guard rfl rfl (.one rfl) rfl (by decide) (fun hb => (iop_cmpx rfl rfl (lb rfl) (svcI rfl hb) (sv (d := .int _ 4294967295) rfl) rfl hx10)) <|
  ils_cons rfl (iop_andx rfl rfl (lb rfl) (svB rfl) rfl rfl hx11) <|
  ils_cons rfl (mvB rfl rfl rfl rfl) <|
  ils_guard rfl rfl (.one rfl) rfl (by decide) (fun hb => (faR 9 rfl rfl rfl Tryd.underlying32 rfl ti26 (lb rfl) rfl rfl)) <|
  ils_guard rfl rfl (.one rfl) rfl (by decide) (fun hb => (iop_index_ref rfl rfl (lb rfl) Tryd.underlying26 ti25 (svcR rfl hb) (sv (d := .int _ 0) rfl) (by decide) (by decide) (off' := 9) rfl)) <|
  ils_guard rfl rfl (.one rfl) rfl (by decide) (fun hb => (iop_load_rs (d := .int _ _) rfl rfl (lb rfl) Tryd.underlying25 ag25 ti25 (by decide) (svcR rfl hb) rfl (nle rfl) rfl)) <|
  ils_guard rfl rfl (.one rfl) rfl (by decide) (fun hb => (iop_cmpx rfl rfl (lb rfl) (svcI rfl hb) (sv (d := .int _ 1) rfl) rfl hx12)) <|
  ils_cons rfl (iop_andx rfl rfl (lb rfl) (svB rfl) rfl rfl hx13) <|
  ils_cons rfl (mvB rfl rfl rfl rfl) <|
  ils_guard rfl rfl (.one rfl) rfl (by decide) (fun hb => (mvI rfl rfl rfl rfl)) <|
  ils_guard rfl rfl (.one rfl) rfl (by decide) (fun hb => (iop_cmpx rfl rfl (lb rfl) (svcI rfl hb) (sv (d := .int _ 0) rfl) rfl hx14)) <|
  ils_cons rfl (iop_andx rfl rfl (lb rfl) (svB rfl) rfl rfl hx15) <|
  ils_cons rfl (mvB rfl rfl rfl rfl) <|
  ils_guard rfl rfl (.one rfl) rfl (by decide) (fun hb => (mvI rfl rfl rfl rfl)) <|
  ils_guard rfl rfl (.one rfl) rfl (by decide) (fun hb => (iop_cmpx rfl rfl (lb rfl) (svcI rfl hb) (sv (d := .int _ 0) rfl) rfl hx16)) <|
  ils_cons rfl (iop_andx rfl rfl (lb rfl) (svB rfl) rfl rfl hx17) <|
  ils_cons rfl (mvB rfl rfl rfl rfl) <|
  ils_guard rfl rfl (.one rfl) rfl (by decide) (fun hb => (mvI rfl rfl rfl rfl)) <|
  ils_guard rfl rfl (.one rfl) rfl (by decide) (fun hb => (iop_cmpx rfl rfl (lb rfl) (svcI rfl hb) (sv (d := .int _ 2) rfl) rfl hx18)) <|
  ils_cons rfl (iop_andx rfl rfl (lb rfl) (svB rfl) rfl rfl hx19) <|
  ils_cons rfl (mvB rfl rfl rfl rfl) <|
  ils_guard rfl rfl (.one rfl) rfl (by decide) (fun hb => (mvI rfl rfl rfl rfl)) <|
  ils_guard rfl rfl (.one rfl) rfl (by decide) (fun hb => (iop_cmpx rfl rfl (lb rfl) (svcI rfl hb) (sv (d := .int _ 13) rfl) rfl hx20)) <|
  ils_cons rfl (iop_andx rfl rfl (lb rfl) (svB rfl) rfl rfl hx21) <|
  ils_cons rfl (mvB rfl rfl rfl rfl) <|
  ils_guard rfl rfl (.one rfl) rfl (by decide) (fun hb => (mvI rfl rfl rfl rfl)) <|
  ils_guard rfl rfl (.one rfl) rfl (by decide) (fun hb => (iop_cmpx rfl rfl (lb rfl) (svcI rfl hb) (sv (d := .int _ 1) rfl) rfl hx22)) <|
  ils_cons rfl (iop_andx rfl rfl (lb rfl) (svB rfl) rfl rfl hx23) <|
  ils_cons rfl (mvB rfl rfl rfl rfl) <|
  ils_guard rfl rfl (.one rfl) rfl (by decide) (fun hb => (mvI rfl rfl rfl rfl)) <|
  ils_guard rfl rfl (.one rfl) rfl (by decide) (fun hb => (iop_cmpx rfl rfl (lb rfl) (svcI rfl hb) (sv (d := .int _ 12) rfl) rfl hx24)) <|
  ils_cons rfl (iop_andx rfl rfl (lb rfl) (svB rfl) rfl rfl hx25) <|
  ils_cons rfl (mvB rfl rfl rfl rfl) <|
  ils_guard rfl rfl (.one rfl) rfl (by decide) (fun hb => (mvI rfl rfl rfl rfl)) <|
  ils_guard rfl rfl (.one rfl) rfl (by decide) (fun hb => (iop_cmpx rfl rfl (lb rfl) (svcI rfl hb) (sv (d := .int _ 0) rfl) rfl hx26)) <|
  ils_cons rfl (iop_andx rfl rfl (lb rfl) (svB rfl) rfl rfl hx27) <|
  ils_cons rfl (mvB rfl rfl rfl rfl) <|
  ils_guard rfl rfl (.one rfl) rfl (by decide) (fun hb => (mvI rfl rfl rfl rfl)) <|
  ils_guard rfl rfl (.one rfl) rfl (by decide) (fun hb => (iop_cmpx rfl rfl (lb rfl) (svcI rfl hb) (sv (d := .int _ 3) rfl) rfl hx28)) <|
  ils_cons rfl (iop_andx rfl rfl (lb rfl) (svB rfl) rfl rfl hx29) <|
  ils_cons rfl (mvB rfl rfl rfl rfl) <|
  ils_guard rfl rfl (.one rfl) rfl (by decide) (fun hb => (mvI rfl rfl rfl rfl)) <|
  ils_guard rfl rfl (.one rfl) rfl (by decide) (fun hb => (iop_cmpx rfl rfl (lb rfl) (svcI rfl hb) (sv (d := .int _ 1) rfl) rfl hx30)) <|
  ils_cons rfl (iop_andx rfl rfl (lb rfl) (svB rfl) rfl rfl hx31) <|
  ils_cons rfl (mvB rfl rfl rfl rfl) <|
  ils_guard rfl rfl (.one rfl) rfl (by decide) (fun hb => (mvI rfl rfl rfl rfl)) <|
  ils_guard rfl rfl (.one rfl) rfl (by decide) (fun hb => (iop_cmpx rfl rfl (lb rfl) (svcI rfl hb) (sv (d := .int _ 60) rfl) rfl hx32)) <|
  ils_cons rfl (iop_andx rfl rfl (lb rfl) (svB rfl) rfl rfl hx33) <|
  ils_cons rfl (mvB rfl rfl rfl rfl) <|
  ils_guard rfl rfl (.one rfl) rfl (by decide) (fun hb => (iop_move rfl rfl (lb rfl) (sv (d := .str _) rfl))) <|
  ils_guard rfl rfl (.one rfl) rfl (by decide) (fun hb => (iop_strx rfl rfl (lb rfl) (svc (d := .str _) rfl hb) (sv (d := .str [112, 97, 116, 104, 115, 32, 50, 10, 118, 97, 108, 117, 101, 115, 32, 48, 32, 56, 32, 50, 53, 54, 32, 52, 48, 57, 54, 32, 51, 50, 10, 118, 97, 108, 117, 101, 115, 32, 49, 32, 56, 32, 50, 53, 54, 32, 52, 48, 57, 54, 32, 51, 50, 10, 102, 105, 114, 115, 116, 32, 48, 32, 49, 10, 102, 105, 114, 115, 116, 32, 49, 32, 50, 10]) rfl) rfl hx34)) <|
  ils_cons rfl (iop_andx rfl rfl (lb rfl) (svB rfl) rfl rfl hx35) <|
  ils_cons rfl (mvB rfl rfl rfl rfl) <|
  ils_guard rfl rfl (.one rfl) rfl (by decide) (fun hb => (mvI rfl rfl rfl rfl)) <|
  ils_guard rfl rfl (.one rfl) rfl (by decide) (fun hb => (iop_cmpx rfl rfl (lb rfl) (svcI rfl hb) (sv (d := .int _ 0) rfl) rfl hx36)) <|
  ils_cons rfl (iop_andx rfl rfl (lb rfl) (svB rfl) rfl rfl hx37) <|
  ils_cons rfl (mvB rfl rfl rfl rfl) <|
  ils_guard rfl rfl (.one rfl) rfl (by decide) (fun hb => (mvI rfl rfl rfl rfl)) <|
  ils_guard rfl rfl (.one rfl) rfl (by decide) (fun hb => (iop_cmpx rfl rfl (lb rfl) (svcI rfl hb) (sv (d := .int _ 0) rfl) rfl hx38)) <|
  ils_cons rfl (iop_andx rfl rfl (lb rfl) (svB rfl) rfl rfl hx39) <|
  ils_cons rfl (mvB rfl rfl rfl rfl) <|
  ils_guard rfl rfl (.one rfl) rfl (by decide) (fun hb => (mvI rfl rfl rfl rfl)) <|
  ils_guard rfl rfl (.one rfl) rfl (by decide) (fun hb => (iop_cmpx rfl rfl (lb rfl) (svcI rfl hb) (sv (d := .int _ 8) rfl) rfl hx40)) <|
  ils_cons rfl (iop_andx rfl rfl (lb rfl) (svB rfl) rfl rfl hx41) <|
  ils_cons rfl (mvB rfl rfl rfl rfl) <|
  ils_guard rfl rfl (.one rfl) rfl (by decide) (fun hb => (lra q6 la32 rfl rfl rfl rfl rfl (nle rfl) rfl)) <|
  ils_guard rfl rfl (.one rfl) rfl (by decide) (fun hb => (iop_call (r := .int _ _) rfl rfl (lb rfl) cl11 (.cons (svcA (v1 x1.1) rfl hb) .nil) rfl (p_config_Digest _ _ (gd_t hx42 hb)))) <|
  ils_guard rfl rfl (.one rfl) rfl (by decide) (fun hb => (iop_cmpx rfl rfl (lb rfl) (svcI rfl hb) (sv (d := .int _ 0) rfl) rfl hx43)) <|
  ils_cons rfl (iop_andx rfl rfl (lb rfl) (svB rfl) rfl rfl hx44) <|
  ils_cons rfl (mvB rfl rfl rfl rfl) <|
  ils_guard rfl rfl (.one rfl) rfl (by decide) (fun hb => (iop_build_struct (cs := q6) rfl rfl (lb rfl) Tryd.underlying32 ti32 pl32 rfl .nil rfl)) <|
  ils_guard rfl rfl (.one rfl) rfl (by decide) (fun hb => (iop_call (r := .int _ _) rfl rfl (lb rfl) cl11 (.cons (svcA (w13 0 0 0 0 0 0 0 0 0 0 0) rfl hb) .nil) rfl (p_config_Digest _ _ (gd_t hx45 hb)))) <|
  ils_guard rfl rfl (.one rfl) rfl (by decide) (fun hb => (iop_cmpx rfl rfl (lb rfl) (svcI rfl hb) (sv (d := .int _ 0) rfl) rfl hx46)) <|
  ils_cons rfl (iop_andx rfl rfl (lb rfl) (svB rfl) rfl rfl hx47) <|
  ils_cons rfl (mvB rfl rfl rfl rfl) <|
  ils_guard rfl rfl (.one rfl) rfl (by decide) (fun hb => (lra q6 la32 rfl rfl rfl rfl rfl (nle rfl) rfl)) <|
  ils_guard rfl rfl (.one rfl) rfl (by decide) (fun hb => (iop_call (r := .int _ _) rfl rfl (lb rfl) cl9 (.cons (svcA (v1 x1.1) rfl hb) .nil) rfl (p_config_Check _ _ (gd_t hx48 hb)))) <|
  ils_guard rfl rfl (.one rfl) rfl (by decide) (fun hb => (iop_cmpx rfl rfl (lb rfl) (svcI rfl hb) (sv (d := .int _ 0) rfl) rfl hx49)) <|
  ils_cons rfl (iop_andx rfl rfl (lb rfl) (svB rfl) rfl rfl hx50) <|
  ils_cons rfl (mvB rfl rfl rfl rfl) <|
  ils_cons rfl (iop_pickc rfl rfl (lb rfl) (svB rfl) rfl rfl hx51) <|
  ils_cons rfl (mvB rfl rfl rfl rfl) <|
  ils_cons rfl (iop_pickc rfl rfl (lb rfl) (svB rfl) rfl rfl hx52) <|
  ils_cons rfl (mvB rfl rfl rfl rfl) <|
  ils_cons rfl (iop_pickc rfl rfl (lb rfl) (svB rfl) rfl rfl hx53) <|
  ils_cons rfl (mvB rfl rfl rfl rfl) <|
  ils_cons rfl (iop_pickc rfl rfl (lb rfl) (svB rfl) rfl rfl hx54) <|
  ils_cons rfl (asB rfl rfl rfl rfl) <|
  ils_end ?_)
 refine iwp_ret ?_
 obtain rfl := Option.some.inj h
 refine ⟨.inr rfl, (.cons (sv rfl) .nil)⟩

theorem p_sennitlaw35_ConfigSame (a0 : T_world_Config) (a1 : T_world_Config) (r : Bool) (h : sennitlaw35_ConfigSame a0 a1 = some r) : PureAt Tryd.prog 5 [.agg (v1 a0), .agg (v1 a1)] (.bool r) := by
 refine pure_of_iwp (rs := [.bool r]) Tryd.func5 rfl Tryd.ntmps5 (nle rfl) rfl fun O hO => ?_
 show IWP _ _ _ _ ⟨[(0, .agg (v1 a0)), (1, .agg (v1 a1))], []⟩ _
 unfold sennitlaw35_ConfigSame at h
 refine iwp_reg (ils_cons rfl (iop_box' (cs := q6) 0 rfl rfl (lb rfl) rfl (svA q6 rfl) rfl rfl) <|
  ils_cons rfl (iop_box' (cs := q6) 1 rfl rfl (lb rfl) rfl (svA q6 rfl) rfl rfl) <|
  ils_cons rfl (iop_assign rfl rfl (lb rfl) (sv (d := .bool false) rfl)) <|
  ils_end ?_)
 obtain ⟨x1, hx1, h⟩ := bno_e h
 obtain ⟨x2, hx2, h⟩ := bno_e h
 refine iwp_drw rfl [⟨[2], [0], [(15, .agg (v1 a0))], []⟩,
  ⟨[15], [], [(16, .agg (v1 x1))], []⟩,
  ⟨[3], [1], [(17, .agg (v1 a1))], []⟩,
  ⟨[17], [], [(18, .agg (v1 x2))], []⟩,
  ⟨[], [2], [(5, .ref 2 0)], [(2, .blk 32 (w13 0 0 0 0 0 0 0 0 0 0 0))]⟩,
  ⟨[], [3], [(6, .ref 3 0)], [(3, .blk 32 (w13 0 0 0 0 0 0 0 0 0 0 0))]⟩,
  ⟨[5, 16], [2], [], [(2, .blk 32 (v1 x1))]⟩,
  ⟨[6, 18], [3], [], [(3, .blk 32 (v1 x2))]⟩] rfl ?_ (by kernel_rfl) ?_
 ·refine .cons (lop rfl rfl fun S hA => (iop_load_ra (cs := q6) rfl rfl (lb rfl) Tryd.underlying28 ag28 ti28 (by decide) (svaR hA rfl rfl) (agi hA rfl rfl) (nle rfl) rfl)) ?_
  refine .cons (lop rfl rfl fun S hA => (iop_call (r := .agg q6) rfl rfl (lb rfl) cl6 (.cons (svaA q6 hA rfl rfl) .nil) rfl (p_sennitlaw32_Conf _ _ hx1))) ?_
  refine .cons (lop rfl rfl fun S hA => (iop_load_ra (cs := q6) rfl rfl (lb rfl) Tryd.underlying28 ag28 ti28 (by decide) (svaR hA rfl rfl) (agi hA rfl rfl) (nle rfl) rfl)) ?_
  refine .cons (lop rfl rfl fun S hA => (iop_call (r := .agg q6) rfl rfl (lb rfl) cl6 (.cons (svaA q6 hA rfl rfl) .nil) rfl (p_sennitlaw32_Conf _ _ hx2))) ?_
  refine .cons (lop rfl rfl fun S hA => (iop_allocS (cs := q6) (cs' := (w13 0 0 0 0 0 0 0 0 0 0 0)) 2 rfl rfl (lb rfl) (agi hA rfl rfl) ti32 rfl rfl (.all _))) ?_
  refine .cons (lop rfl rfl fun S hA => (iop_allocS (cs := q6) (cs' := (w13 0 0 0 0 0 0 0 0 0 0 0)) 3 rfl rfl (lb rfl) (agi hA rfl rfl) ti32 rfl rfl (.all _))) ?_
  refine .cons (lop rfl rfl fun S hA => (iop_store (ds' := q6) rfl rfl ti32 (svaR hA rfl rfl) (agi hA rfl rfl) (svaA q6 hA rfl rfl) rfl rfl rfl (nle rfl) rfl)) ?_
  refine .cons (lop rfl rfl fun S hA => (iop_store (ds' := q6) rfl rfl ti32 (svaR hA rfl rfl) (agi hA rfl rfl) (svaA q6 hA rfl rfl) rfl rfl rfl (nle rfl) rfl)) ?_
  exact .nil
 obtain ⟨x3, hx3, h⟩ := bno_e h
 refine iwp_reg (ils_cons rfl (lra q6 la32 rfl rfl rfl rfl rfl (nle rfl) rfl) <|
  ils_cons rfl (iop_call (r := .tuple q10) rfl rfl (lb rfl) cl7 (.cons (svA q6 rfl) .nil) rfl (p_config_Print _ _ hx3)) <|
  ils_cons rfl (iop_move rfl rfl (lb rfl) (sv (d := .tuple q10) rfl)) <|
  ils_cons rfl (iop_extract (d := .str _) rfl rfl (lb rfl) (sv (d := .tuple q10) rfl) rfl) <|
  ils_cons rfl (iop_extract (d := .int _ _) rfl rfl (lb rfl) (sv (d := .tuple q10) rfl) rfl) <|
  ils_cons rfl (iop_assign rfl rfl (lb rfl) (sv (d := .str _) rfl)) <|
  ils_cons rfl (asI rfl rfl rfl rfl) <|
  ils_end ?_)
 obtain ⟨x4, hx4, h⟩ := bno_e h
 refine iwp_reg (ils_cons rfl (lra q6 la32 rfl rfl rfl rfl rfl (nle rfl) rfl) <|
  ils_cons rfl (iop_call (r := .tuple q10) rfl rfl (lb rfl) cl7 (.cons (svA q6 rfl) .nil) rfl (p_config_Print _ _ hx4)) <|
  ils_cons rfl (iop_move rfl rfl (lb rfl) (sv (d := .tuple q10) rfl)) <|
  ils_cons rfl (iop_extract (d := .str _) rfl rfl (lb rfl) (sv (d := .tuple q10) rfl) rfl) <|
  ils_cons rfl (iop_extract (d := .int _ _) rfl rfl (lb rfl) (sv (d := .tuple q10) rfl) rfl) <|
  ils_cons rfl (iop_assign rfl rfl (lb rfl) (sv (d := .str _) rfl)) <|
  ils_cons rfl (asI rfl rfl rfl rfl) <|
  ils_end ?_)
 refine iwp_seq ?_
 obtain ⟨x5, hx5, h⟩ := bnd_e h
 obtain ⟨x6, hx6, h⟩ := bnd_e h
 obtain ⟨x7, hx7, h⟩ := bnd_e h
 refine iwp_reg (ils_cons rfl (mvI rfl rfl rfl rfl) <|
  ils_cons rfl (iop_cmpx rfl rfl (lb rfl) (svI rfl) (sv (d := .int _ 0) rfl) rfl hx5) <|
  ils_cons rfl (mvB rfl rfl rfl rfl) <|
  ils_guard rfl rfl (.one rfl) rfl (by decide) (fun hb => (mvI rfl rfl rfl rfl)) <|
  ils_guard rfl rfl (.one rfl) rfl (by decide) (fun hb => (iop_cmpx rfl rfl (lb rfl) (svcI rfl hb) (sv (d := .int _ 0) rfl) rfl hx6)) <|
  ils_cons rfl (iop_orx rfl rfl (lb rfl) (svB rfl) rfl rfl hx7) <|
  ils_end ?_)
 refine iwp_cond (b := _) rfl (fun hc8 => ?_) (fun hc8 => ?_)
 ·
  replace h := bif_t h hc8
  obtain ⟨x9, hx9, h⟩ := bno_e h
  obtain ⟨x10, hx10, h⟩ := bnd_e h
  obtain ⟨x11, hx11, h⟩ := bno_e h
  obtain ⟨x12, hx12, h⟩ := bnd_e h
  obtain ⟨x13, hx13, h⟩ := bnd_e h
  obtain ⟨x14, hx14, h⟩ := bno_e h
  obtain ⟨x15, hx15, h⟩ := bnd_e h
  refine iwp_reg (ils_cons rfl (lra q6 la32 rfl rfl rfl rfl rfl (nle rfl) rfl) <|
   ils_cons rfl (iop_call (r := .int _ _) rfl rfl (lb rfl) cl9 (.cons (svA q6 rfl) .nil) rfl (p_config_Check _ _ hx9)) <|
   ils_cons rfl (mvI rfl rfl rfl rfl) <|
   ils_cons rfl (iop_cmpx rfl rfl (lb rfl) (svI rfl) (svI rfl) rfl hx10) <|
   ils_cons rfl (mvB rfl rfl rfl rfl) <|
   ils_guard rfl rfl (.one rfl) rfl (by decide) (fun hb => (lra q6 la32 rfl rfl rfl rfl rfl (nle rfl) rfl)) <|
   ils_guard rfl rfl (.one rfl) rfl (by decide) (fun hb => (iop_call (r := .int _ _) rfl rfl (lb rfl) cl9 (.cons (svcA (v1 x2) rfl hb) .nil) rfl (p_config_Check _ _ (gd_t hx11 hb)))) <|
   ils_guard rfl rfl (.one rfl) rfl (by decide) (fun hb => (mvI rfl rfl rfl rfl)) <|
   ils_guard rfl rfl (.one rfl) rfl (by decide) (fun hb => (iop_cmpx rfl rfl (lb rfl) (svcI rfl hb) (svcI rfl hb) rfl hx12)) <|
   ils_cons rfl (iop_andx rfl rfl (lb rfl) (svB rfl) rfl rfl hx13) <|
   ils_cons rfl (mvB rfl rfl rfl rfl) <|
   ils_guard rfl rfl (.one rfl) rfl (by decide) (fun hb => (iop_call (r := .bool _) rfl rfl (lb rfl) cl16 .nil rfl (p_sennitlaw35_awake  _ (gd_t hx14 hb)))) <|
   ils_cons rfl (iop_andx rfl rfl (lb rfl) (svB rfl) rfl rfl hx15) <|
   ils_cons rfl (asB rfl rfl rfl rfl) <|
   ils_end ?_)
  refine iwp_ret ?_
  refine thenQ_r ?_
  obtain rfl := Option.some.inj h
  refine ⟨.inr rfl, (.cons (sv rfl) .nil)⟩
 ·
  replace h := bif_f h hc8
  refine iwp_skip ?_
  refine thenQ_n ?_
  refine iwp_reg (ils_cons rfl (iop_assign rfl rfl (lb rfl) (sv (d := .int _ 0) rfl)) <|
   ils_end ?_)
  refine iwp_seq ?_
  refine iwp_block ?_
  refine iwp_loopP (α := Nat × Int) (fun z => ⟨[(2, .ref 0 0), (5, .ref 2 0), (6, .ref 3 0), (7, .str x3.1), (9, .str x4.1), (11, .int .i64 z.2)], [(0, .blk 28 (v1 a0)), (2, .blk 32 (v1 x1)), (3, .blk 32 (v1 x2))]⟩) (fun z => sennitlaw35_ConfigSame_L0 a0 x1 x2 x3 x4 z.1 z.2 = some r) (fun z => z.1) (fuel, 0) (fun i => i) ⟨(.sames rfl rfl), (.cons (.blk rfl rfl rfl) (.cons (.blk rfl rfl rfl) (.cons (.blk rfl rfl rfl) .nil))), nd_of [0, 2, 3] rfl (by decide), fun _ _ => rfl⟩ ?_ ?_
  ·exact h
  ·
   rintro ⟨n0, v22⟩ h
   cases n0 with
   | zero => exact absurd h (by unfold sennitlaw35_ConfigSame_L0; exact nofun)
   | succ n0 =>
    unfold sennitlaw35_ConfigSame_L0 at h
    refine iwp_seq ?_
    obtain ⟨x29, hx29, h⟩ := bnd_e h
    obtain ⟨x30, hx30, h⟩ := bno_e h
    obtain ⟨x31, hx31, h⟩ := bnd_e h
    obtain ⟨x32, hx32, h⟩ := bnd_e h
    refine iwp_reg (ils_cons rfl (mvI rfl rfl rfl rfl) <|
     ils_cons rfl (iop_move rfl rfl (lb rfl) (sv (d := .str _) rfl)) <|
     ils_cons rfl (iop_len_str rfl rfl (lb rfl) Tryd.underlying9 (sv (d := .str _) rfl) rfl) <|
     ils_cons rfl (iop_cmpx rfl rfl (lb rfl) (svI rfl) (svI rfl) rfl hx29) <|
     ils_cons rfl (mvB rfl rfl rfl rfl) <|
     ils_guard rfl rfl (.one rfl) rfl (by decide) (fun hb => (iop_move rfl rfl (lb rfl) (sv (d := .str _) rfl))) <|
     ils_guard rfl rfl (.one rfl) rfl (by decide) (fun hb => (mvI rfl rfl rfl rfl)) <|
     ils_guard rfl rfl (.one rfl) rfl (by decide) (fun hb => (iop_str_at rfl rfl (lb rfl) Tryd.underlying9 (svc (d := .str _) rfl hb) (svcI rfl hb) (gd_t hx30 hb))) <|
     ils_guard rfl rfl (.one rfl) rfl (by decide) (fun hb => (iop_cmpx rfl rfl (lb rfl) (svcI rfl hb) (sv (d := .int _ 10) rfl) rfl hx31)) <|
     ils_cons rfl (iop_andx rfl rfl (lb rfl) (svB rfl) rfl rfl hx32) <|
     ils_end ?_)
    refine iwp_cond (b := _) rfl (fun hc33 => ?_) (fun hc33 => ?_)
    ·
     replace h := bif_t h hc33
     refine iwp_skip ?_
     refine thenQ_n ?_
     refine iwp_block ?_
     obtain ⟨x34, hx34, h⟩ := bnd_e h
     refine iwp_region (ils_cons rfl (mvI rfl rfl rfl rfl) <|
      ils_cons rfl (iop_intx rfl rfl (lb rfl) (svI rfl) (sv (d := .int _ 1) rfl) rfl hx34) <|
      ils_cons rfl (asI rfl rfl rfl rfl) <|
      ils_nil ?_)
     refine blockQ_n ?_
     refine thenQ_n ⟨(n0, x34), (fun i => i), ⟨(.sames rfl rfl), (.cons (.blk rfl rfl rfl) (.cons (.blk rfl rfl rfl) (.cons (.blk rfl rfl rfl) .nil))), nd_of [0, 2, 3] rfl (by decide), fun _ _ => rfl⟩, ?_, ?_⟩
     exact h
     exact Nat.lt_succ_self _
    ·
     replace h := bif_f h hc33
     refine iwp_exit ?_
     refine thenQ_e ?_
     refine thenQ_e ?_
     refine blockQ_e ?_
     refine thenQ_n ?_
     refine iwp_seq ?_
     obtain ⟨x35, hx35, h⟩ := bnd_e h
     refine iwp_reg (ils_cons rfl (mvI rfl rfl rfl rfl) <|
      ils_cons rfl (iop_move rfl rfl (lb rfl) (sv (d := .str _) rfl)) <|
      ils_cons rfl (iop_len_str rfl rfl (lb rfl) Tryd.underlying9 (sv (d := .str _) rfl) rfl) <|
      ils_cons rfl (iop_cmpx rfl rfl (lb rfl) (svI rfl) (svI rfl) rfl hx35) <|
      ils_end ?_)
     refine iwp_cond (b := _) rfl (fun hc36 => ?_) (fun hc36 => ?_)
     ·
      replace h := bif_t h hc36
      refine iwp_reg (ils_cons rfl (iop_assign rfl rfl (lb rfl) (sv (d := .bool false) rfl)) <|
       ils_end ?_)
      refine iwp_ret ?_
      refine thenQ_r ?_
      obtain rfl := Option.some.inj h
      refine ⟨.inr rfl, (.cons (sv rfl) .nil)⟩
     ·
      replace h := bif_f h hc36
      refine iwp_skip ?_
      refine thenQ_n ?_
      obtain ⟨x37, hx37, h⟩ := bnd_e h
      obtain ⟨x38, hx38, h⟩ := bno_e h
      obtain ⟨x39, hx39, h⟩ := bnd_e h
      obtain ⟨x40, hx40, h⟩ := bno_e h
      obtain ⟨x41, hx41, h⟩ := bno_e h
      obtain ⟨x42, hx42, h⟩ := bno_e h
      refine iwp_drw rfl [⟨[7], [], [(65, .str x3.1)], []⟩,
       ⟨[11], [], [(66, .int .i64 v22)], []⟩,
       ⟨[66], [], [(67, .int .i64 x37)], []⟩,
       ⟨[65, 67], [], [(68, .str x38)], []⟩,
       ⟨[7], [], [(69, .str x3.1)], []⟩,
       ⟨[11], [], [(70, .int .i64 v22)], []⟩,
       ⟨[70], [], [(71, .int .i64 x39)], []⟩,
       ⟨[69, 71], [], [(72, .str x40)], []⟩,
       ⟨[68, 72], [], [(73, .str x41)], []⟩,
       ⟨[73], [], [(74, .tuple [.agg (v1 x42.1), .int .i64 x42.2.1, .int .i64 x42.2.2])], []⟩,
       ⟨[74], [], [(64, .tuple [.agg (v1 x42.1), .int .i64 x42.2.1, .int .i64 x42.2.2])], []⟩,
       ⟨[64], [], [(75, .agg (v1 x42.1))], []⟩,
       ⟨[64], [], [(76, .int .i64 x42.2.1)], []⟩,
       ⟨[64], [], [(77, .int .i64 x42.2.2)], []⟩,
       ⟨[], [4], [(12, .ref 4 0)], [(4, .blk 32 (w13 0 0 0 0 0 0 0 0 0 0 0))]⟩,
       ⟨[12, 75], [4], [], [(4, .blk 32 (v1 x42.1))]⟩,
       ⟨[76], [], [(13, .int .i64 x42.2.1)], []⟩,
       ⟨[77], [], [(14, .int .i64 x42.2.2)], []⟩] rfl ?_ (by kernel_rfl) ?_
      ·refine .cons (lop rfl rfl fun S hA => (iop_move rfl rfl (lb rfl) (sv (d := .str _) (agr hA rfl rfl)))) ?_
       refine .cons (lop rfl rfl fun S hA => (iop_move rfl rfl (lb rfl) (svaI hA rfl rfl))) ?_
       refine .cons (lop rfl rfl fun S hA => (iop_intx rfl rfl (lb rfl) (svaI hA rfl rfl) (sv (d := .int _ 1) rfl) rfl hx37)) ?_
       refine .cons (lop rfl rfl fun S hA => (iop_cutS rfl rfl (lb rfl) Tryd.underlying9 (sv (d := .str _) (agr hA rfl rfl)) ⟨_, (svaI hA rfl rfl)⟩ rfl hx38)) ?_
       refine .cons (lop rfl rfl fun S hA => (iop_move rfl rfl (lb rfl) (sv (d := .str _) (agr hA rfl rfl)))) ?_
       refine .cons (lop rfl rfl fun S hA => (iop_move rfl rfl (lb rfl) (svaI hA rfl rfl))) ?_
       refine .cons (lop rfl rfl fun S hA => (iop_intx rfl rfl (lb rfl) (svaI hA rfl rfl) (sv (d := .int _ 1) rfl) rfl hx39)) ?_
       refine .cons (lop rfl rfl fun S hA => (iop_cutS rfl rfl (lb rfl) Tryd.underlying9 (sv (d := .str _) (agr hA rfl rfl)) rfl ⟨_, (svaI hA rfl rfl)⟩ hx40)) ?_
       refine .cons (lop rfl rfl fun S hA => (iop_catx rfl rfl (lb rfl) (sv (d := .str _) (agr hA rfl rfl)) (sv (d := .str _) (agr hA rfl rfl)) hx41)) ?_
       refine .cons (lop rfl rfl fun S hA => (iop_call (r := .tuple q11) rfl rfl (lb rfl) cl17 (.cons (sv (d := .str _) (agr hA rfl rfl)) .nil) rfl (p_config_Parse _ _ hx42))) ?_
       refine .cons (lop rfl rfl fun S hA => (iop_move rfl rfl (lb rfl) (sv (d := .tuple q11) (agr hA rfl rfl)))) ?_
       refine .cons (lop rfl rfl fun S hA => (iop_extract (d := .agg q6) rfl rfl (lb rfl) (sv (d := .tuple q11) (agr hA rfl rfl)) rfl)) ?_
       refine .cons (lop rfl rfl fun S hA => (iop_extract (d := .int _ _) rfl rfl (lb rfl) (sv (d := .tuple q11) (agr hA rfl rfl)) rfl)) ?_
       refine .cons (lop rfl rfl fun S hA => (iop_extract (d := .int _ _) rfl rfl (lb rfl) (sv (d := .tuple q11) (agr hA rfl rfl)) rfl)) ?_
       refine .cons (lop rfl rfl fun S hA => (iop_allocS (cs := q6) (cs' := (w13 0 0 0 0 0 0 0 0 0 0 0)) 4 rfl rfl (lb rfl) (agi hA rfl rfl) ti32 rfl rfl (.all _))) ?_
       refine .cons (lop rfl rfl fun S hA => (iop_store (ds' := q6) rfl rfl ti32 (svaR hA rfl rfl) (agi hA rfl rfl) (svaA q6 hA rfl rfl) rfl rfl rfl (nle rfl) rfl)) ?_
       refine .cons (lop rfl rfl fun S hA => (iop_assign rfl rfl (lb rfl) (svaI hA rfl rfl))) ?_
       refine .cons (lop rfl rfl fun S hA => (iop_assign rfl rfl (lb rfl) (svaI hA rfl rfl))) ?_
       exact .nil
      obtain ⟨x43, hx43, h⟩ := bnd_e h
      obtain ⟨x44, hx44, h⟩ := bno_e h
      obtain ⟨x45, hx45, h⟩ := bno_e h
      obtain ⟨x46, hx46, h⟩ := bnd_e h
      obtain ⟨x47, hx47, h⟩ := bnd_e h
      obtain ⟨x48, hx48, h⟩ := bno_e h
      obtain ⟨x49, hx49, h⟩ := bnd_e h
      obtain ⟨x50, hx50, h⟩ := bnd_e h
      obtain ⟨x51, hx51, h⟩ := bnd_e h
      obtain ⟨x52, hx52, h⟩ := bnd_e h
      obtain ⟨x53, hx53, h⟩ := bnd_e h
      obtain ⟨x54, hx54, h⟩ := bnd_e h
      obtain ⟨x55, hx55, h⟩ := bno_e h
      obtain ⟨x56, hx56, h⟩ := bnd_e h
      refine iwp_drw rfl [⟨[7], [], [(78, .str x3.1)], []⟩,
       ⟨[9], [], [(79, .str x4.1)], []⟩,
       ⟨[78, 79], [], [(80, .bool x43)], []⟩,
       ⟨[5], [2], [(81, .agg (v1 x1))], []⟩,
       ⟨[81], [], [(82, .agg (v1 x44))], []⟩,
       ⟨[6], [3], [(83, .agg (v1 x2))], []⟩,
       ⟨[83], [], [(84, .agg (v1 x45))], []⟩,
       ⟨[82, 84], [], [(85, .bool x46)], []⟩,
       ⟨[80, 85], [], [(86, .bool x47)], []⟩,
       ⟨[86], [], [(87, .bool x47)], []⟩,
       ⟨[12, 87], [4], [(88, .cnd (x47 == true) (.agg (v1 x42.1)))], []⟩,
       ⟨[87, 88], [], [(89, .cnd (x47 == true) (.agg (v1 x48)))], []⟩,
       ⟨[2, 87], [0], [(90, .cnd (x47 == true) (.agg (v1 a0)))], []⟩,
       ⟨[87, 89, 90], [], [(91, .cnd (x47 == true) (.bool x49))], []⟩,
       ⟨[87, 91], [], [(92, .bool x50)], []⟩,
       ⟨[92], [], [(93, .bool x50)], []⟩,
       ⟨[13, 93], [], [(94, .cnd (x50 == true) (.int .i64 x42.2.1))], []⟩,
       ⟨[93, 94], [], [(95, .cnd (x50 == true) (.bool x51))], []⟩,
       ⟨[93, 95], [], [(96, .bool x52)], []⟩,
       ⟨[96], [], [(97, .bool x52)], []⟩,
       ⟨[14, 97], [], [(98, .cnd (x52 == true) (.int .i64 x42.2.2))], []⟩,
       ⟨[97, 98], [], [(99, .cnd (x52 == true) (.bool x53))], []⟩,
       ⟨[97, 99], [], [(100, .bool x54)], []⟩,
       ⟨[100], [], [(101, .bool x54)], []⟩,
       ⟨[101], [], [(102, .cnd (x54 == true) (.bool x55))], []⟩,
       ⟨[101, 102], [], [(103, .bool x56)], []⟩,
       ⟨[103], [], [(4, .bool x56)], []⟩] rfl ?_ (by kernel_rfl) ?_
      ·refine .cons (lop rfl rfl fun S hA => (iop_move rfl rfl (lb rfl) (sv (d := .str _) (agr hA rfl rfl)))) ?_
       refine .cons (lop rfl rfl fun S hA => (iop_move rfl rfl (lb rfl) (sv (d := .str _) (agr hA rfl rfl)))) ?_
       refine .cons (lop rfl rfl fun S hA => (iop_strx rfl rfl (lb rfl) (sv (d := .str _) (agr hA rfl rfl)) (sv (d := .str _) (agr hA rfl rfl)) rfl hx43)) ?_
       refine .cons (lop rfl rfl fun S hA => (iop_load_ra (cs := q6) rfl rfl (lb rfl) Tryd.underlying32 ag32 ti32 (by decide) (svaR hA rfl rfl) (agi hA rfl rfl) (nle rfl) rfl)) ?_
       refine .cons (lop rfl rfl fun S hA => (iop_call (r := .agg q6) rfl rfl (lb rfl) cl13 (.cons (svaA q6 hA rfl rfl) .nil) rfl (p_sennitlaw35_back _ _ hx44))) ?_
       refine .cons (lop rfl rfl fun S hA => (iop_load_ra (cs := q6) rfl rfl (lb rfl) Tryd.underlying32 ag32 ti32 (by decide) (svaR hA rfl rfl) (agi hA rfl rfl) (nle rfl) rfl)) ?_
       refine .cons (lop rfl rfl fun S hA => (iop_call (r := .agg q6) rfl rfl (lb rfl) cl13 (.cons (svaA q6 hA rfl rfl) .nil) rfl (p_sennitlaw35_back _ _ hx45))) ?_
       refine .cons (lop rfl rfl fun S hA => (iop_eqt rfl rfl (lb rfl) st28.2 (svaA q6 hA rfl rfl) (svaA q6 hA rfl rfl) (Eq.trans (by kernel_rfl) (congrArg some hx46)))) ?_
       refine .cons (lop rfl rfl fun S hA => (iop_eqbx rfl rfl (lb rfl) Tryd.underlying4 (svaB hA rfl rfl) (svaB hA rfl rfl) hx47)) ?_
       refine .cons (lop rfl rfl fun S hA => (iop_move rfl rfl (lb rfl) (svaB hA rfl rfl))) ?_
       refine .cons (lopg rfl rfl rfl rfl (by decide) (fun S hA => grd1 hA rfl rfl) (fun S hA hb => (iop_load_ra (cs := q6) rfl rfl (lb rfl) Tryd.underlying32 ag32 ti32 (by decide) (svaR hA rfl rfl) (agi hA rfl rfl) (nle rfl) rfl))) ?_
       refine .cons (lopg rfl rfl rfl rfl (by decide) (fun S hA => grd1 hA rfl rfl) (fun S hA hb => (iop_call (r := .agg q6) rfl rfl (lb rfl) cl13 (.cons (svc (d := .agg (v1 x42.1)) (agr hA rfl rfl) hb) .nil) rfl (p_sennitlaw35_back _ _ (gd_t hx48 hb))))) ?_
       refine .cons (lopg rfl rfl rfl rfl (by decide) (fun S hA => grd1 hA rfl rfl) (fun S hA hb => (iop_load_ra (cs := q6) rfl rfl (lb rfl) Tryd.underlying28 ag28 ti28 (by decide) (svaR hA rfl rfl) (agi hA rfl rfl) (nle rfl) rfl))) ?_
       refine .cons (lopg rfl rfl rfl rfl (by decide) (fun S hA => grd1 hA rfl rfl) (fun S hA hb => (iop_eqt rfl rfl (lb rfl) st28.2 (svc (d := .agg (v1 x48)) (agr hA rfl rfl) hb) (svc (d := .agg (v1 a0)) (agr hA rfl rfl) hb) (Eq.trans (by kernel_rfl) (congrArg some hx49))))) ?_
       refine .cons (lop rfl rfl fun S hA => (iop_andx rfl rfl (lb rfl) (svaB hA rfl rfl) (agr hA rfl rfl) rfl hx50)) ?_
       refine .cons (lop rfl rfl fun S hA => (iop_move rfl rfl (lb rfl) (svaB hA rfl rfl))) ?_
       refine .cons (lopg rfl rfl rfl rfl (by decide) (fun S hA => grd1 hA rfl rfl) (fun S hA hb => (iop_move rfl rfl (lb rfl) (svaI hA rfl rfl)))) ?_
       refine .cons (lopg rfl rfl rfl rfl (by decide) (fun S hA => grd1 hA rfl rfl) (fun S hA hb => (iop_cmpx rfl rfl (lb rfl) (svc (d := .int _ _) (agr hA rfl rfl) hb) (sv (d := .int _ 0) rfl) rfl hx51))) ?_
       refine .cons (lop rfl rfl fun S hA => (iop_andx rfl rfl (lb rfl) (svaB hA rfl rfl) (agr hA rfl rfl) rfl hx52)) ?_
       refine .cons (lop rfl rfl fun S hA => (iop_move rfl rfl (lb rfl) (svaB hA rfl rfl))) ?_
       refine .cons (lopg rfl rfl rfl rfl (by decide) (fun S hA => grd1 hA rfl rfl) (fun S hA hb => (iop_move rfl rfl (lb rfl) (svaI hA rfl rfl)))) ?_
       refine .cons (lopg rfl rfl rfl rfl (by decide) (fun S hA => grd1 hA rfl rfl) (fun S hA hb => (iop_cmpx rfl rfl (lb rfl) (svc (d := .int _ _) (agr hA rfl rfl) hb) (sv (d := .int _ 0) rfl) rfl hx53))) ?_
       refine .cons (lop rfl rfl fun S hA => (iop_andx rfl rfl (lb rfl) (svaB hA rfl rfl) (agr hA rfl rfl) rfl hx54)) ?_
       refine .cons (lop rfl rfl fun S hA => (iop_move rfl rfl (lb rfl) (svaB hA rfl rfl))) ?_
       refine .cons (lopg rfl rfl rfl rfl (by decide) (fun S hA => grd1 hA rfl rfl) (fun S hA hb => (iop_call (r := .bool _) rfl rfl (lb rfl) cl16 .nil rfl (p_sennitlaw35_awake  _ (gd_t hx55 hb))))) ?_
       refine .cons (lop rfl rfl fun S hA => (iop_andx rfl rfl (lb rfl) (svaB hA rfl rfl) (agr hA rfl rfl) rfl hx56)) ?_
       refine .cons (lop rfl rfl fun S hA => (iop_assign rfl rfl (lb rfl) (svaB hA rfl rfl))) ?_
       exact .nil
      refine iwp_ret ?_
      obtain rfl := Option.some.inj h
      refine ⟨.inr rfl, (.cons (sv rfl) .nil)⟩
end Go.Proofs.YtpmmgpdokjchkaaDoor
