/-
  A part of the proof: rules and plain facts. No condition.
-/
import Derived.Test.YtmidijokooidcaaDoorProg
import Derived.KernelRfl
import Derived.Test.YtmidijokooidcaaDoorIlP108
import Derived.Test.YtmidijokooidcaaDoorIlPn
import Derived.Test.YtmidijokooidcaaDoorIlIt33
import Derived.Test.YtmidijokooidcaaDoorIlBd
set_option linter.all false
set_option linter.unusedSimpArgs false
set_option linter.unusedVariables false
set_option maxRecDepth 8000
set_option maxHeartbeats 2000000
open Go Go.IL Go.Fn Go.Proofs
namespace Go.Proofs.YtmidijokooidcaaDoor
theorem ti3 : TI Tryd.prog 3 (some (.int .i64 0)) 1 8 := by unfold TI; kernel_rfl
theorem ti4 : TI Tryd.prog 4 (some (.bool false)) 1 1 := by unfold TI; kernel_rfl
theorem ti5 : TI Tryd.prog 5 (some (.int .u8 0)) 1 1 := by unfold TI; kernel_rfl
theorem ti9 : TI Tryd.prog 9 (some (.string ⟨#[]⟩)) 1 16 := by unfold TI; kernel_rfl
theorem ti24 : TI Tryd.prog 24 (some (.agg #[.int .u8 0, .int .i64 0, .int .i64 0, .int .i64 0, .int .i64 0, .int .i64 0, .string ⟨#[]⟩, .bool false])) 8 72 := by unfold TI; kernel_rfl
theorem ti25 : TI Tryd.prog 25 (some (.int .i64 0)) 1 8 := by unfold TI; kernel_rfl
theorem ti28 : TI Tryd.prog 28 (some (.agg #[.int .u8 0, .int .i64 0, .int .i64 0, .int .i64 0, .int .i64 0, .int .i64 0, .string ⟨#[]⟩, .bool false])) 8 72 := by unfold TI; kernel_rfl
theorem ti50 : TI Tryd.prog 50 (some (.slice none 0 0)) 1 24 := by unfold TI; kernel_rfl
theorem ti52 : TI Tryd.prog 52 (some (.agg #[.int .i64 0, .int .i64 0, .string ⟨#[]⟩, .bool false, .slice none 0 0])) 5 64 := by unfold TI; kernel_rfl
theorem ti54 : TI Tryd.prog 54 (some (.agg #[.int .i64 0, .int .i64 0, .int .i64 0])) 3 24 := by unfold TI; kernel_rfl
theorem ti66 : TI Tryd.prog 66 (some (.agg #[.string ⟨#[]⟩, .string ⟨#[]⟩])) 2 32 := by unfold TI; kernel_rfl
theorem ag3 : aggOf Tryd.prog 3 = false := by kernel_rfl
theorem ag4 : aggOf Tryd.prog 4 = false := by kernel_rfl
theorem ag5 : aggOf Tryd.prog 5 = false := by kernel_rfl
theorem ag9 : aggOf Tryd.prog 9 = false := by kernel_rfl
theorem ag24 : aggOf Tryd.prog 24 = true := by kernel_rfl
theorem ag25 : aggOf Tryd.prog 25 = false := by kernel_rfl
theorem ag28 : aggOf Tryd.prog 28 = true := by kernel_rfl
theorem ag50 : aggOf Tryd.prog 50 = false := by kernel_rfl
theorem ag54 : aggOf Tryd.prog 54 = true := by kernel_rfl
theorem ag66 : aggOf Tryd.prog 66 = true := by kernel_rfl
theorem ex65 : ExternAt Tryd.prog 65 Extern.BytealgCount.count := ⟨Tryd.f65, Tryd.func65, by kernel_rfl, by kernel_rfl, by kernel_rfl, by kernel_rfl⟩
theorem ex76 : ExternAt Tryd.prog 76 Extern.BytealgIndexByte.indexByte := ⟨Tryd.f76, Tryd.func76, by kernel_rfl, by kernel_rfl, by kernel_rfl, by kernel_rfl⟩
theorem pl24 : ∀ w, (Array.mapM (m := Sem) (fun (f : Field) => Functor.map (Prod.mk f.offset) (sizeOf f.type)) (fieldsOf Tryd.prog 24)).run Tryd.prog w = .ok #[(0, 1), (1, 1), (2, 1), (3, 1), (4, 1), (5, 1), (6, 1), (7, 1)] w := fun w => by kernel_rfl
theorem pl52 : ∀ w, (Array.mapM (m := Sem) (fun (f : Field) => Functor.map (Prod.mk f.offset) (sizeOf f.type)) (fieldsOf Tryd.prog 52)).run Tryd.prog w = .ok #[(0, 1), (1, 1), (2, 1), (3, 1), (4, 1)] w := fun w => by kernel_rfl
theorem pl54 : ∀ w, (Array.mapM (m := Sem) (fun (f : Field) => Functor.map (Prod.mk f.offset) (sizeOf f.type)) (fieldsOf Tryd.prog 54)).run Tryd.prog w = .ok #[(0, 1), (1, 1), (2, 1)] w := fun w => by kernel_rfl
theorem pl66 : ∀ w, (Array.mapM (m := Sem) (fun (f : Field) => Functor.map (Prod.mk f.offset) (sizeOf f.type)) (fieldsOf Tryd.prog 66)).run Tryd.prog w = .ok #[(0, 1), (1, 1)] w := fun w => by kernel_rfl
theorem st24 : Tryd.prog.stoodInHeld 24 = false ∧ Tryd.prog.eqGuardType Tryd.prog.depth 24 = false := ⟨by kernel_rfl, by kernel_rfl⟩
theorem cl9 : Callable Tryd.prog 9 := ⟨Tryd.f9, Tryd.func9, rfl, rfl⟩
theorem cl11 : Callable Tryd.prog 11 := ⟨Tryd.f11, Tryd.func11, rfl, rfl⟩
theorem cl15 : Callable Tryd.prog 15 := ⟨Tryd.f15, Tryd.func15, rfl, rfl⟩
theorem cl16 : Callable Tryd.prog 16 := ⟨Tryd.f16, Tryd.func16, rfl, rfl⟩
theorem cl21 : Callable Tryd.prog 21 := ⟨Tryd.f21, Tryd.func21, rfl, rfl⟩
theorem cl23 : Callable Tryd.prog 23 := ⟨Tryd.f23, Tryd.func23, rfl, rfl⟩
theorem cl24 : Callable Tryd.prog 24 := ⟨Tryd.f24, Tryd.func24, rfl, rfl⟩
theorem cl25 : Callable Tryd.prog 25 := ⟨Tryd.f25, Tryd.func25, rfl, rfl⟩
theorem cl26 : Callable Tryd.prog 26 := ⟨Tryd.f26, Tryd.func26, rfl, rfl⟩
theorem cl30 : Callable Tryd.prog 30 := ⟨Tryd.f30, Tryd.func30, rfl, rfl⟩
theorem cl31 : Callable Tryd.prog 31 := ⟨Tryd.f31, Tryd.func31, rfl, rfl⟩
theorem cl32 : Callable Tryd.prog 32 := ⟨Tryd.f32, Tryd.func32, rfl, rfl⟩
theorem cl33 : Callable Tryd.prog 33 := ⟨Tryd.f33, Tryd.func33, rfl, rfl⟩
theorem cl34 : Callable Tryd.prog 34 := ⟨Tryd.f34, Tryd.func34, rfl, rfl⟩
theorem cl35 : Callable Tryd.prog 35 := ⟨Tryd.f35, Tryd.func35, rfl, rfl⟩
theorem cl36 : Callable Tryd.prog 36 := ⟨Tryd.f36, Tryd.func36, rfl, rfl⟩
theorem cl44 : Callable Tryd.prog 44 := ⟨Tryd.f44, Tryd.func44, rfl, rfl⟩
theorem cl45 : Callable Tryd.prog 45 := ⟨Tryd.f45, Tryd.func45, rfl, rfl⟩
theorem cl46 : Callable Tryd.prog 46 := ⟨Tryd.f46, Tryd.func46, rfl, rfl⟩
theorem cl49 : Callable Tryd.prog 49 := ⟨Tryd.f49, Tryd.func49, rfl, rfl⟩
theorem cl55 : Callable Tryd.prog 55 := ⟨Tryd.f55, Tryd.func55, rfl, rfl⟩
theorem cl56 : Callable Tryd.prog 56 := ⟨Tryd.f56, Tryd.func56, rfl, rfl⟩
theorem cl57 : Callable Tryd.prog 57 := ⟨Tryd.f57, Tryd.func57, rfl, rfl⟩
theorem cl59 : Callable Tryd.prog 59 := ⟨Tryd.f59, Tryd.func59, rfl, rfl⟩
theorem cl66 : Callable Tryd.prog 66 := ⟨Tryd.f66, Tryd.func66, rfl, rfl⟩
def la24 := LA.mk Tryd.underlying24 ag24 ti24 (by decide)
def la50 := LA.mk Tryd.underlying50 ag50 ti50 (by decide)
abbrev v0 (x : T_world_Step) : List D := [.int .u8 x.Kind, .int .i64 x.Side, .int .i64 x.ID, .int .i64 x.N, .int .i64 x.M, .int .i64 x.Path, .str x.Text, .bool x.Flag]
abbrev v1 (x : T_world_Answer) : List D := [.int .i64 x.N, .int .i64 x.E, .str x.Text, .bool x.End, .slice false (x.Events.map E_session_Event.d)]
abbrev v2 (x : T_session_Event) : List D := [.int .i64 x.Kind, .int .i64 x.ID, .int .i64 x.Code]
abbrev q3 {a1 : IntKind} {a2 : Int} {a3 : IntKind} {a4 : Int} {a5 : IntKind} {a6 : Int} {a7 : IntKind} {a8 : Int} {a9 : IntKind} {a10 : Int} {a11 : IntKind} {a12 : Int} {a13 : List UInt8} {a14 : Bool} : List D := [.int a1 a2, .int a3 a4, .int a5 a6, .int a7 a8, .int a9 a10, .int a11 a12, .str a13, .bool a14]
abbrev q4 {a1 : IntKind} {a2 : Int} {a3 : IntKind} {a4 : Int} {a5 : List UInt8} {a6 : Bool} {a7 : Bool} {a8 : List D} : List D := [.int a1 a2, .int a3 a4, .str a5, .bool a6, .slice a7 a8]
abbrev q6 {a1 : Bool} {a2 : List D} {a3 : IntKind} {a4 : Int} {a5 : IntKind} {a6 : Int} : List D := [.slice a1 a2, .int a3 a4, .int a5 a6]
abbrev q7 {a1 : IntKind} {a2 : Int} {a3 : IntKind} {a4 : Int} {a5 : IntKind} {a6 : Int} : List D := [.int a1 a2, .int a3 a4, .int a5 a6]
abbrev q8 {a1 : List UInt8} {a2 : List UInt8} {a3 : Bool} : List D := [.str a1, .str a2, .bool a3]
abbrev q9 {a1 : IntKind} {a2 : Int} {a3 : Bool} : List D := [.int a1 a2, .bool a3]
abbrev q10 {a1 : List UInt8} {a2 : IntKind} {a3 : Int} : List D := [.str a1, .int a2 a3]
abbrev q11 {a1 : IntKind} {a2 : Int} {a3 : IntKind} {a4 : Int} {a5 : IntKind} {a6 : Int} {a7 : IntKind} {a8 : Int} {a9 : IntKind} {a10 : Int} {a11 : IntKind} {a12 : Int} {a13 : List UInt8} {a14 : Bool} {a15 : IntKind} {a16 : Int} : List D := [.agg [.int a1 a2, .int a3 a4, .int a5 a6, .int a7 a8, .int a9 a10, .int a11 a12, .str a13, .bool a14], .int a15 a16]
abbrev w12 (a0 : Int) (a1 : Int) (a2 : Int) (a3 : Int) (a4 : Int) (a5 : Int) (a6 : List UInt8) (a7 : Bool) : List D := [.int .u8 a0, .int .i64 a1, .int .i64 a2, .int .i64 a3, .int .i64 a4, .int .i64 a5, .str a6, .bool a7]


theorem p_internal_stringslite_IndexByte (a0 : (List UInt8)) (a1 : Int) (r : Int) (h : internal_stringslite_IndexByte a0 a1 = some r) : PureAt Tryd.prog 66 [.str a0, .int .u8 a1] (.int .i64 r) := by
 refine pure_of_iwp (rs := [.int .i64 r]) Tryd.func66 rfl Tryd.ntmps66 (nle rfl) rfl fun O hO => ?_
 show IWP _ _ _ _ ⟨[(0, .str a0), (1, .int .u8 a1)], []⟩ _
 unfold internal_stringslite_IndexByte at h
 refine iwp_reg (ils_cons rfl (iop_assign rfl rfl (lb rfl) (sv (d := .int _ 0) rfl)) <|
  ils_end ?_)
 obtain ⟨x1, hx1, h⟩ := bnd_e h
 refine iwp_reg (ils_cons rfl (iop_move rfl rfl (lb rfl) (sv (d := .str _) rfl)) <|
  ils_cons rfl (mvI rfl rfl rfl rfl) <|
  ils_cons rfl (iop_idxB rfl rfl (lb rfl) ex76 (sv (d := .str _) rfl) (svI rfl) hx1) <|
  ils_cons rfl (asI rfl rfl rfl rfl) <|
  ils_end ?_)
 refine iwp_ret ?_
 obtain rfl := Option.some.inj h
 refine ⟨.inr rfl, (.cons (sv rfl) .nil)⟩

theorem p_internal_stringslite_Index (a0 : (List UInt8)) (a1 : (List UInt8)) (r : Int) (h : internal_stringslite_Index a0 a1 = some r) : PureAt Tryd.prog 59 [.str a0, .str a1] (.int .i64 r) := by
 refine pure_of_iwp (rs := [.int .i64 r]) Tryd.func59 rfl Tryd.ntmps59 (nle rfl) rfl fun O hO => ?_
 show IWP _ _ _ _ ⟨[(0, .str a0), (1, .str a1)], []⟩ _
 unfold internal_stringslite_Index at h
 refine iwp_reg (ils_cons rfl (iop_assign rfl rfl (lb rfl) (sv (d := .int _ 0) rfl)) <|
  ils_end ?_)
 refine iwp_reg (ils_cons rfl (iop_move rfl rfl (lb rfl) (sv (d := .str _) rfl)) <|
  ils_cons rfl (iop_len_str rfl rfl (lb rfl) Tryd.underlying9 (sv (d := .str _) rfl) rfl) <|
  ils_cons rfl (asI rfl rfl rfl rfl) <|
  ils_end ?_)
 refine iwp_seq ?_
 refine iwp_block ?_
 obtain ⟨x1, hx1, h⟩ := bnd_e h
 obtain ⟨x2, hx2, h⟩ := bnd_e h
 obtain ⟨x3, hx3, h⟩ := bnd_e h
 refine iwp_reg (ils_cons rfl (mvI rfl rfl rfl rfl) <|
  ils_cons rfl (iop_cmpx rfl rfl (lb rfl) (svI rfl) (sv (d := .int _ 0) rfl) rfl hx1) <|
  ils_cons rfl (mvB rfl rfl rfl rfl) <|
  ils_guard rfl rfl (.one rfl) rfl (by decide) (fun hb => (iop_move rfl rfl (lb rfl) (sv (d := .str _) rfl))) <|
  ils_guard rfl rfl (.one rfl) rfl (by decide) (fun hb => (iop_move rfl rfl (lb rfl) (sv (d := .str _) rfl))) <|
  ils_guard rfl rfl (.one rfl) rfl (by decide) (fun hb => (iop_strx rfl rfl (lb rfl) (svc (d := .str _) rfl hb) (svc (d := .str _) rfl hb) rfl hx2)) <|
  ils_cons rfl (iop_orx rfl rfl (lb rfl) (svB rfl) rfl rfl hx3) <|
  ils_cons rfl (asB rfl rfl rfl rfl) <|
  ils_end ?_)
 refine iwp_cond (b := _) rfl (fun hc4 => ?_) (fun hc4 => ?_)
 ·
  replace h := bif_t h hc4
  refine iwp_reg (ils_cons rfl (iop_assign rfl rfl (lb rfl) (sv (d := .int _ 0) rfl)) <|
   ils_end ?_)
  refine iwp_ret ?_
  refine blockQ_r ?_
  refine thenQ_r ?_
  obtain rfl := Option.some.inj h
  refine ⟨.inr rfl, (.cons (sv rfl) .nil)⟩
 ·
  replace h := bif_f h hc4
  obtain ⟨x5, hx5, h⟩ := bnd_e h
  refine iwp_reg (ils_cons rfl (mvI rfl rfl rfl rfl) <|
   ils_cons rfl (iop_cmpx rfl rfl (lb rfl) (svI rfl) (sv (d := .int _ 1) rfl) rfl hx5) <|
   ils_cons rfl (asB rfl rfl rfl rfl) <|
   ils_end ?_)
  refine iwp_cond (b := _) rfl (fun hc6 => ?_) (fun hc6 => ?_)
  ·
   replace h := bif_t h hc6
   obtain ⟨x7, hx7, h⟩ := bno_e h
   obtain ⟨x8, hx8, h⟩ := bno_e h
   refine iwp_reg (ils_cons rfl (iop_move rfl rfl (lb rfl) (sv (d := .str _) rfl)) <|
    ils_cons rfl (iop_move rfl rfl (lb rfl) (sv (d := .str _) rfl)) <|
    ils_cons rfl (iop_str_at rfl rfl (lb rfl) Tryd.underlying9 (sv (d := .str _) rfl) (sv (d := .int _ 0) rfl) hx7) <|
    ils_cons rfl (iop_call (r := .int _ _) rfl rfl (lb rfl) cl66 (.cons (sv (d := .str _) rfl) (.cons (svI rfl) .nil)) rfl (p_internal_stringslite_IndexByte _ _ _ hx8)) <|
    ils_cons rfl (asI rfl rfl rfl rfl) <|
    ils_end ?_)
   refine iwp_ret ?_
   refine blockQ_r ?_
   refine thenQ_r ?_
   obtain rfl := Option.some.inj h
   refine ⟨.inr rfl, (.cons (sv rfl) .nil)⟩
  ·
   replace h := bif_f h hc6
   obtain ⟨x9, hx9, h⟩ := bnd_e h
   refine iwp_reg (ils_cons rfl (mvI rfl rfl rfl rfl) <|
    ils_cons rfl (iop_move rfl rfl (lb rfl) (sv (d := .str _) rfl)) <|
    ils_cons rfl (iop_len_str rfl rfl (lb rfl) Tryd.underlying9 (sv (d := .str _) rfl) rfl) <|
    ils_cons rfl (iop_cmpx rfl rfl (lb rfl) (svI rfl) (svI rfl) rfl hx9) <|
    ils_cons rfl (asB rfl rfl rfl rfl) <|
    ils_end ?_)
   refine iwp_cond (b := _) rfl (fun hc10 => ?_) (fun hc10 => ?_)
   ·
    replace h := bif_t h hc10
    refine iwp_reg (ils_cons rfl (iop_assign rfl rfl (lb rfl) (sv (d := .int _ (-1)) rfl)) <|
     ils_end ?_)
    refine iwp_ret ?_
    refine blockQ_r ?_
    refine thenQ_r ?_
    obtain rfl := Option.some.inj h
    refine ⟨.inr rfl, (.cons (sv rfl) .nil)⟩
   ·
    replace h := bif_f h hc10
    cases h

theorem p_strings_Index (a0 : (List UInt8)) (a1 : (List UInt8)) (r : Int) (h : strings_Index a0 a1 = some r) : PureAt Tryd.prog 56 [.str a0, .str a1] (.int .i64 r) := by
 refine pure_of_iwp (rs := [.int .i64 r]) Tryd.func56 rfl Tryd.ntmps56 (nle rfl) rfl fun O hO => ?_
 show IWP _ _ _ _ ⟨[(0, .str a0), (1, .str a1)], []⟩ _
 unfold strings_Index at h
 refine iwp_reg (ils_cons rfl (iop_assign rfl rfl (lb rfl) (sv (d := .int _ 0) rfl)) <|
  ils_end ?_)
 obtain ⟨x1, hx1, h⟩ := bno_e h
 refine iwp_reg (ils_cons rfl (iop_move rfl rfl (lb rfl) (sv (d := .str _) rfl)) <|
  ils_cons rfl (iop_move rfl rfl (lb rfl) (sv (d := .str _) rfl)) <|
  ils_cons rfl (iop_call (r := .int _ _) rfl rfl (lb rfl) cl59 (.cons (sv (d := .str _) rfl) (.cons (sv (d := .str _) rfl) .nil)) rfl (p_internal_stringslite_Index _ _ _ hx1)) <|
  ils_cons rfl (asI rfl rfl rfl rfl) <|
  ils_end ?_)
 refine iwp_ret ?_
 obtain rfl := Option.some.inj h
 refine ⟨.inr rfl, (.cons (sv rfl) .nil)⟩

theorem p_strings_Count (a0 : (List UInt8)) (a1 : (List UInt8)) (r : Int) (h : strings_Count a0 a1 = some r) : PureAt Tryd.prog 55 [.str a0, .str a1] (.int .i64 r) := by
 refine pure_of_iwp (rs := [.int .i64 r]) Tryd.func55 rfl Tryd.ntmps55 (nle rfl) rfl fun O hO => ?_
 show IWP _ _ _ _ ⟨[(0, .str a0), (1, .str a1)], []⟩ _
 unfold strings_Count at h
 refine iwp_reg (ils_cons rfl (iop_assign rfl rfl (lb rfl) (sv (d := .int _ 0) rfl)) <|
  ils_end ?_)
 refine iwp_seq ?_
 obtain ⟨x1, hx1, h⟩ := bnd_e h
 refine iwp_reg (ils_cons rfl (iop_move rfl rfl (lb rfl) (sv (d := .str _) rfl)) <|
  ils_cons rfl (iop_len_str rfl rfl (lb rfl) Tryd.underlying9 (sv (d := .str _) rfl) rfl) <|
  ils_cons rfl (iop_cmpx rfl rfl (lb rfl) (svI rfl) (sv (d := .int _ 0) rfl) rfl hx1) <|
  ils_end ?_)
 refine iwp_cond (b := _) rfl (fun hc2 => ?_) (fun hc2 => ?_)
 ·
  replace h := bif_t h hc2
  cases h
 ·
  replace h := bif_f h hc2
  refine iwp_skip ?_
  refine thenQ_n ?_
  refine iwp_seq ?_
  obtain ⟨x3, hx3, h⟩ := bnd_e h
  refine iwp_reg (ils_cons rfl (iop_move rfl rfl (lb rfl) (sv (d := .str _) rfl)) <|
   ils_cons rfl (iop_len_str rfl rfl (lb rfl) Tryd.underlying9 (sv (d := .str _) rfl) rfl) <|
   ils_cons rfl (iop_cmpx rfl rfl (lb rfl) (svI rfl) (sv (d := .int _ 1) rfl) rfl hx3) <|
   ils_end ?_)
  refine iwp_cond (b := _) rfl (fun hc4 => ?_) (fun hc4 => ?_)
  ·
   replace h := bif_t h hc4
   obtain ⟨x5, hx5, h⟩ := bno_e h
   obtain ⟨x6, hx6, h⟩ := bnd_e h
   refine iwp_reg (ils_cons rfl (iop_move rfl rfl (lb rfl) (sv (d := .str _) rfl)) <|
    ils_cons rfl (iop_move rfl rfl (lb rfl) (sv (d := .str _) rfl)) <|
    ils_cons rfl (iop_str_at rfl rfl (lb rfl) Tryd.underlying9 (sv (d := .str _) rfl) (sv (d := .int _ 0) rfl) hx5) <|
    ils_cons rfl (iop_cntB rfl rfl (lb rfl) ex65 (sv (d := .str _) rfl) (svI rfl) hx6) <|
    ils_cons rfl (asI rfl rfl rfl rfl) <|
    ils_end ?_)
   refine iwp_ret ?_
   refine thenQ_r ?_
   obtain rfl := Option.some.inj h
   refine ⟨.inr rfl, (.cons (sv rfl) .nil)⟩
  ·
   replace h := bif_f h hc4
   refine iwp_skip ?_
   refine thenQ_n ?_
   refine iwp_reg (ils_cons rfl (iop_assign rfl rfl (lb rfl) (sv (d := .int _ 0) rfl)) <|
    ils_end ?_)
   refine iwp_block ?_
   refine iwp_loopP (α := Nat × (List UInt8) × Int) (fun z => ⟨[(0, .str z.2.1), (1, .str a1), (5, .int .i64 z.2.2)], []⟩) (fun z => strings_Count_L0 a1 z.1 z.2.1 z.2.2 = some r) (fun z => z.1) (fuel, a0, 0) (fun i => i) ⟨(.sames rfl rfl), .nil, nd_of [] rfl (by decide), fun _ _ => rfl⟩ ?_ ?_
   ·exact h
   ·
    rintro ⟨n0, v13, v14⟩ h
    cases n0 with
    | zero => exact absurd h (by unfold strings_Count_L0; exact nofun)
    | succ n0 =>
     unfold strings_Count_L0 at h
     refine iwp_block ?_
     obtain ⟨x21, hx21, h⟩ := bno_e h
     refine iwp_reg (ils_cons rfl (iop_move rfl rfl (lb rfl) (sv (d := .str _) rfl)) <|
      ils_cons rfl (iop_move rfl rfl (lb rfl) (sv (d := .str _) rfl)) <|
      ils_cons rfl (iop_call (r := .int _ _) rfl rfl (lb rfl) cl56 (.cons (sv (d := .str _) rfl) (.cons (sv (d := .str _) rfl) .nil)) rfl (p_strings_Index _ _ _ hx21)) <|
      ils_cons rfl (asI rfl rfl rfl rfl) <|
      ils_end ?_)
     refine iwp_seq ?_
     obtain ⟨x22, hx22, h⟩ := bnd_e h
     refine iwp_reg (ils_cons rfl (mvI rfl rfl rfl rfl) <|
      ils_cons rfl (iop_cmpx rfl rfl (lb rfl) (svI rfl) (sv (d := .int _ (-1)) rfl) rfl hx22) <|
      ils_end ?_)
     refine iwp_cond (b := _) rfl (fun hc23 => ?_) (fun hc23 => ?_)
     ·
      replace h := bif_t h hc23
      refine iwp_reg (ils_cons rfl (mvI rfl rfl rfl rfl) <|
       ils_cons rfl (asI rfl rfl rfl rfl) <|
       ils_end ?_)
      refine iwp_ret ?_
      refine thenQ_r ?_
      refine blockQ_r ?_
      refine thenQ_r ?_
      refine blockQ_r ?_
      obtain rfl := Option.some.inj h
      refine ⟨.inr rfl, (.cons (sv rfl) .nil)⟩
     ·
      replace h := bif_f h hc23
      refine iwp_skip ?_
      refine thenQ_n ?_
      obtain ⟨x24, hx24, h⟩ := bnd_e h
      refine iwp_reg (ils_cons rfl (mvI rfl rfl rfl rfl) <|
       ils_cons rfl (iop_intx rfl rfl (lb rfl) (svI rfl) (sv (d := .int _ 1) rfl) rfl hx24) <|
       ils_cons rfl (asI rfl rfl rfl rfl) <|
       ils_end ?_)
      obtain ⟨x25, hx25, h⟩ := bnd_e h
      obtain ⟨x26, hx26, h⟩ := bno_e h
      refine iwp_region (ils_cons rfl (iop_move rfl rfl (lb rfl) (sv (d := .str _) rfl)) <|
       ils_cons rfl (mvI rfl rfl rfl rfl) <|
       ils_cons rfl (iop_move rfl rfl (lb rfl) (sv (d := .str _) rfl)) <|
       ils_cons rfl (iop_len_str rfl rfl (lb rfl) Tryd.underlying9 (sv (d := .str _) rfl) rfl) <|
       ils_cons rfl (iop_intx rfl rfl (lb rfl) (svI rfl) (svI rfl) rfl hx25) <|
       ils_cons rfl (iop_cutS rfl rfl (lb rfl) Tryd.underlying9 (sv (d := .str _) rfl) ⟨_, (svI rfl)⟩ rfl hx26) <|
       ils_cons rfl (iop_assign rfl rfl (lb rfl) (sv (d := .str _) rfl)) <|
       ils_nil ?_)
      refine blockQ_n ?_
      refine thenQ_n ⟨(n0, x26, x24), (fun i => i), ⟨(.sames rfl rfl), .nil, nd_of [] rfl (by decide), fun _ _ => rfl⟩, ?_, ?_⟩
      exact h
      exact Nat.lt_succ_self _

theorem p_strings_genSplit (a0 : (List UInt8)) (a1 : (List UInt8)) (a2 : Int) (a3 : Int) (r : (List (List UInt8))) (h : strings_genSplit a0 a1 a2 a3 = some r) : PureAt Tryd.prog 44 [.str a0, .str a1, .int .i64 a2, .int .i64 a3] (.slice false (r.map eStr.d)) := by
 refine pure_of_iwpF (rs := [.slice false (r.map eStr.d)]) Tryd.func44 rfl Tryd.ntmps44 (nle rfl) rfl fun O hO => ?_
 show IWP _ _ _ _ ⟨[(0, .str a0), (1, .str a1), (2, .int .i64 a2), (3, .int .i64 a3)], []⟩ _
 unfold strings_genSplit at h
 refine iwp_reg (ils_cons rfl (iop_assign rfl rfl (lb rfl) (sv (d := .nils) rfl)) <|
  ils_end ?_)
 refine iwp_seq ?_
 obtain ⟨x1, hx1, h⟩ := bnd_e h
 refine iwp_reg (ils_cons rfl (mvI rfl rfl rfl rfl) <|
  ils_cons rfl (iop_cmpx rfl rfl (lb rfl) (svI rfl) (sv (d := .int _ 0) rfl) rfl hx1) <|
  ils_end ?_)
 refine iwp_cond (b := _) rfl (fun hc2 => ?_) (fun hc2 => ?_)
 ·
  replace h := bif_t h hc2
  refine iwp_reg (ils_cons rfl (iop_assign rfl rfl (lb rfl) (sv (d := .nils) rfl)) <|
   ils_end ?_)
  refine iwp_ret ?_
  refine thenQ_r ?_
  obtain rfl := Option.some.inj h
  refine ⟨.inr rfl, _, (.cons (sv rfl) .nil), (.cons (.nils _) .nil)⟩
 ·
  replace h := bif_f h hc2
  refine iwp_skip ?_
  refine thenQ_n ?_
  refine iwp_seq ?_
  obtain ⟨x3, hx3, h⟩ := bnd_e h
  refine iwp_reg (ils_cons rfl (iop_move rfl rfl (lb rfl) (sv (d := .str _) rfl)) <|
   ils_cons rfl (iop_strx rfl rfl (lb rfl) (sv (d := .str _) rfl) (sv (d := .str []) rfl) rfl hx3) <|
   ils_end ?_)
  refine iwp_cond (b := _) rfl (fun hc4 => ?_) (fun hc4 => ?_)
  ·
   replace h := bif_t h hc4
   cases h
  ·
   replace h := bif_f h hc4
   refine iwp_skip ?_
   refine thenQ_n ?_
   refine iwp_join (α := Int) (fun z => ⟨[(0, .str a0), (1, .str a1), (2, .int .i64 a2), (3, .int .i64 z)], []⟩) (fun z => strings_genSplit_J0 a0 a1 a2 z = some r) ?_ ?_
   ·
    obtain ⟨x106, hx106, h⟩ := bnd_e h
    refine iwp_reg (ils_cons rfl (mvI rfl rfl rfl rfl) <|
     ils_cons rfl (iop_cmpx rfl rfl (lb rfl) (svI rfl) (sv (d := .int _ 0) rfl) rfl hx106) <|
     ils_end ?_)
    refine iwp_cond (b := _) rfl (fun hc107 => ?_) (fun hc107 => ?_)
    ·
     replace h := bif_t h hc107
     obtain ⟨x108, hx108, h⟩ := bno_e h
     obtain ⟨x109, hx109, h⟩ := bnd_e h
     refine iwp_region (ils_cons rfl (iop_move rfl rfl (lb rfl) (sv (d := .str _) rfl)) <|
      ils_cons rfl (iop_move rfl rfl (lb rfl) (sv (d := .str _) rfl)) <|
      ils_cons rfl (iop_call (r := .int _ _) rfl rfl (lb rfl) cl55 (.cons (sv (d := .str _) rfl) (.cons (sv (d := .str _) rfl) .nil)) rfl (p_strings_Count _ _ _ hx108)) <|
      ils_cons rfl (iop_intx rfl rfl (lb rfl) (svI rfl) (sv (d := .int _ 1) rfl) rfl hx109) <|
      ils_cons rfl (asI rfl rfl rfl rfl) <|
      ils_nil ?_)
     refine thenQ_n ⟨x109, (fun i => i), ⟨(.sames rfl rfl), .nil, nd_of [] rfl (by decide), fun _ _ => rfl⟩, ?_⟩
     exact h
    ·
     replace h := bif_f h hc107
     refine iwp_skip ?_
     refine thenQ_n ⟨a3, (fun i => i), ⟨(.sames rfl rfl), .nil, nd_of [] rfl (by decide), fun _ _ => rfl⟩, ?_⟩
     exact h
   ·
    rintro v9 h
    unfold strings_genSplit_J0 at h
    obtain ⟨x10, hx10, h⟩ := bnd_e h
    obtain ⟨x11, hx11, h⟩ := bnd_e h
    refine iwp_reg (ils_cons rfl (mvI rfl rfl rfl rfl) <|
     ils_cons rfl (iop_move rfl rfl (lb rfl) (sv (d := .str _) rfl)) <|
     ils_cons rfl (iop_len_str rfl rfl (lb rfl) Tryd.underlying9 (sv (d := .str _) rfl) rfl) <|
     ils_cons rfl (iop_intx rfl rfl (lb rfl) (svI rfl) (sv (d := .int _ 1) rfl) rfl hx10) <|
     ils_cons rfl (iop_min2 rfl rfl (lb rfl) (svI rfl) (svI rfl) hx11) <|
     ils_cons rfl (asI rfl rfl rfl rfl) <|
     ils_end ?_)
    obtain ⟨x12, hx12, h⟩ := bno_e h
    refine iwp_reg (ils_cons rfl (mvI rfl rfl rfl rfl) <|
     ils_cons rfl (iop_makeT eStr.toEnc0 ([] : (List UInt8)) 0 rfl rfl (lb rfl) Tryd.underlying42 ti9 rfl rfl (svI rfl) hx12 (.all _)) <|
     ils_cons rfl (iop_assign rfl rfl (lb rfl) (sv (d := .osl _ _ _) rfl)) <|
     ils_end ?_)
    obtain ⟨x13, hx13, h⟩ := bnd_e h
    refine iwp_reg (ils_cons rfl (mvI rfl rfl rfl rfl) <|
     ils_cons rfl (iop_intx rfl rfl (lb rfl) (svI rfl) (sv (d := .int _ 1) rfl) rfl hx13) <|
     ils_cons rfl (asI rfl rfl rfl rfl) <|
     ils_end ?_)
    refine iwp_reg (ils_cons rfl (iop_assign rfl rfl (lb rfl) (sv (d := .int _ 0) rfl)) <|
     ils_end ?_)
    refine iwp_join (α := (List UInt8) × (List (List UInt8)) × Int) (fun z => ⟨[(0, .str z.1), (9, .osl 0 eStr.sz z.2.1.length), (10, .int .i64 z.2.2)], [(0, .blk 9 (D.flat (z.2.1.map eStr.d)))]⟩) (fun z => strings_genSplit_J2 z.1 z.2.1 z.2.2 = some r) ?_ ?_
    ·
     refine iwp_block ?_
     refine iwp_loopP (α := Nat × (List UInt8) × (List (List UInt8)) × Int) (fun z => ⟨[(0, .str z.2.1), (1, .str a1), (2, .int .i64 a2), (3, .int .i64 x13), (9, .osl 0 eStr.sz z.2.2.1.length), (10, .int .i64 z.2.2.2)], [(0, .blk 9 (D.flat (z.2.2.1.map eStr.d)))]⟩) (fun z => strings_genSplit_L3 a1 a2 x13 z.1 z.2.1 z.2.2.1 z.2.2.2 = some r) (fun z => z.1) (fuel, a0, x12, 0) (fun i => i) ⟨(.sames rfl rfl), (.cons (EntW.lst rfl) .nil), nd_of [0] rfl (by decide), fun _ _ => rfl⟩ ?_ ?_
     ·exact h
     ·
      rintro ⟨n3, v77, v78, v79⟩ h
      cases n3 with
      | zero => exact absurd h (by unfold strings_genSplit_L3; exact nofun)
      | succ n3 =>
       unfold strings_genSplit_L3 at h
       refine iwp_seq ?_
       obtain ⟨x93, hx93, h⟩ := bnd_e h
       refine iwp_reg (ils_cons rfl (mvI rfl rfl rfl rfl) <|
        ils_cons rfl (mvI rfl rfl rfl rfl) <|
        ils_cons rfl (iop_cmpx rfl rfl (lb rfl) (svI rfl) (svI rfl) rfl hx93) <|
        ils_end ?_)
       refine iwp_cond (b := _) rfl (fun hc94 => ?_) (fun hc94 => ?_)
       ·
        replace h := bif_t h hc94
        refine iwp_skip ?_
        refine thenQ_n ?_
        refine iwp_block ?_
        obtain ⟨x95, hx95, h⟩ := bno_e h
        refine iwp_reg (ils_cons rfl (iop_move rfl rfl (lb rfl) (sv (d := .str _) rfl)) <|
         ils_cons rfl (iop_move rfl rfl (lb rfl) (sv (d := .str _) rfl)) <|
         ils_cons rfl (iop_call (r := .int _ _) rfl rfl (lb rfl) cl56 (.cons (sv (d := .str _) rfl) (.cons (sv (d := .str _) rfl) .nil)) rfl (p_strings_Index _ _ _ hx95)) <|
         ils_cons rfl (asI rfl rfl rfl rfl) <|
         ils_end ?_)
        refine iwp_seq ?_
        obtain ⟨x96, hx96, h⟩ := bnd_e h
        refine iwp_reg (ils_cons rfl (mvI rfl rfl rfl rfl) <|
         ils_cons rfl (iop_cmpx rfl rfl (lb rfl) (svI rfl) (sv (d := .int _ 0) rfl) rfl hx96) <|
         ils_end ?_)
        refine iwp_cond (b := _) rfl (fun hc97 => ?_) (fun hc97 => ?_)
        ·
         replace h := bif_t h hc97
         refine iwp_exit ?_
         refine thenQ_e ?_
         refine blockQ_x rfl ?_
         refine thenQ_e ?_
         refine blockQ_e ?_
         refine thenQ_n ⟨(v77, v78, v79), (fun i => i), ⟨(.sames rfl rfl), (.cons (EntW.lst rfl) .nil), nd_of [0] rfl (by decide), fun _ _ => rfl⟩, ?_⟩
         exact h
        ·
         replace h := bif_f h hc97
         refine iwp_skip ?_
         refine thenQ_n ?_
         obtain ⟨x98, hx98, h⟩ := bnd_e h
         obtain ⟨x99, hx99, h⟩ := bno_e h
         obtain ⟨x100, hx100, h⟩ := bno_e h
         obtain ⟨x101, hx101, h⟩ := bno_e h
         obtain ⟨x102, hx102, h⟩ := bnd_e h
         refine iwp_reg (ils_cons rfl (iop_move rfl rfl (lb rfl) (sv (d := .osl _ _ _) rfl)) <|
          ils_cons rfl (mvI rfl rfl rfl rfl) <|
          ils_cons rfl (iop_move rfl rfl (lb rfl) (sv (d := .str _) rfl)) <|
          ils_cons rfl (mvI rfl rfl rfl rfl) <|
          ils_cons rfl (mvI rfl rfl rfl rfl) <|
          ils_cons rfl (iop_intx rfl rfl (lb rfl) (svI rfl) (svI rfl) rfl hx98) <|
          ils_cons rfl (iop_cutS rfl rfl (lb rfl) Tryd.underlying9 (sv (d := .str _) rfl) rfl ⟨_, (svI rfl)⟩ hx99) <|
          ils_cons rfl (iop_idxO eStr.toEnc0 rfl rfl (lb rfl) Tryd.underlying42 ti9 (sv (d := .osl _ _ _) rfl) rfl (svI rfl) hx100) <|
          ils_cons rfl (iop_storeE eStr.toEnc0 (a' := x99) rfl rfl ti9 (svR rfl) rfl (sv (d := .str _) rfl) rfl rfl rfl hx101 (nle rfl) rfl hx102) <|
          ils_end ?_)
         obtain ⟨x103, hx103, h⟩ := bnd_e h
         obtain ⟨x104, hx104, h⟩ := bno_e h
         refine iwp_reg (ils_cons rfl (iop_move rfl rfl (lb rfl) (sv (d := .str _) rfl)) <|
          ils_cons rfl (mvI rfl rfl rfl rfl) <|
          ils_cons rfl (iop_move rfl rfl (lb rfl) (sv (d := .str _) rfl)) <|
          ils_cons rfl (iop_len_str rfl rfl (lb rfl) Tryd.underlying9 (sv (d := .str _) rfl) rfl) <|
          ils_cons rfl (iop_intx rfl rfl (lb rfl) (svI rfl) (svI rfl) rfl hx103) <|
          ils_cons rfl (iop_cutS rfl rfl (lb rfl) Tryd.underlying9 (sv (d := .str _) rfl) ⟨_, (svI rfl)⟩ rfl hx104) <|
          ils_cons rfl (iop_assign rfl rfl (lb rfl) (sv (d := .str _) rfl)) <|
          ils_end ?_)
         obtain ⟨x105, hx105, h⟩ := bnd_e h
         refine iwp_region (ils_cons rfl (mvI rfl rfl rfl rfl) <|
          ils_cons rfl (iop_intx rfl rfl (lb rfl) (svI rfl) (sv (d := .int _ 1) rfl) rfl hx105) <|
          ils_cons rfl (asI rfl rfl rfl rfl) <|
          ils_nil ?_)
         refine blockQ_n ?_
         refine thenQ_n ⟨(n3, x104, x102, x105), (fun i => i), ⟨(.s rfl rfl (.s rfl rfl (.s rfl rfl (.s rfl rfl (.cons (.same (congrArg (D.osl _ _) (len_set hx102 rfl).symm) rfl) (.sames rfl rfl)))))), (.cons (EntW.lst rfl) .nil), nd_of [0] rfl (by decide), fun _ _ => rfl⟩, ?_, ?_⟩
         exact h
         exact Nat.lt_succ_self _
       ·
        replace h := bif_f h hc94
        refine iwp_exit ?_
        refine thenQ_e ?_
        refine thenQ_e ?_
        refine blockQ_e ?_
        refine thenQ_n ⟨(v77, v78, v79), (fun i => i), ⟨(.sames rfl rfl), (.cons (EntW.lst rfl) .nil), nd_of [0] rfl (by decide), fun _ _ => rfl⟩, ?_⟩
        exact h
    ·
     rintro ⟨v56, v57, v58⟩ h
     unfold strings_genSplit_J2 at h
     obtain ⟨x59, hx59, h⟩ := bno_e h
     obtain ⟨x60, hx60, h⟩ := bno_e h
     obtain ⟨x61, hx61, h⟩ := bnd_e h
     refine iwp_reg (ils_cons rfl (iop_move rfl rfl (lb rfl) (sv (d := .osl _ _ _) rfl)) <|
      ils_cons rfl (mvI rfl rfl rfl rfl) <|
      ils_cons rfl (iop_move rfl rfl (lb rfl) (sv (d := .str _) rfl)) <|
      ils_cons rfl (iop_idxO eStr.toEnc0 rfl rfl (lb rfl) Tryd.underlying42 ti9 (sv (d := .osl _ _ _) rfl) rfl (svI rfl) hx59) <|
      ils_cons rfl (iop_storeE eStr.toEnc0 (a' := v56) rfl rfl ti9 (svR rfl) rfl (sv (d := .str _) rfl) rfl rfl rfl hx60 (nle rfl) rfl hx61) <|
      ils_end ?_)
     obtain ⟨x62, hx62, h⟩ := bnd_e h
     obtain ⟨x63, hx63, h⟩ := bno_e h
     refine iwp_reg (ils_cons rfl (iop_move rfl rfl (lb rfl) (sv (d := .osl _ _ _) rfl)) <|
      ils_cons rfl (mvI rfl rfl rfl rfl) <|
      ils_cons rfl (iop_intx rfl rfl (lb rfl) (svI rfl) (sv (d := .int _ 1) rfl) rfl hx62) <|
      ils_cons rfl (iop_truncO eStr.toEnc0 rfl rfl (lb rfl) Tryd.underlying42 ti9 (sv (d := .osl _ _ _) rfl) rfl (Nat.le_of_eq (len_set hx61 rfl)) (svI rfl) hx63) <|
      ils_cons rfl (iop_assign rfl rfl (lb rfl) (sv (d := .osl _ _ _) rfl)) <|
      ils_end ?_)
     refine iwp_ret ?_
     obtain rfl := Option.some.inj h
     refine ⟨.inr rfl, _, (.cons (sv rfl) .nil), (.cons (FDT eStr rfl rfl) .nil)⟩

theorem p_strings_Split (a0 : (List UInt8)) (a1 : (List UInt8)) (r : (List (List UInt8))) (h : strings_Split a0 a1 = some r) : PureAt Tryd.prog 23 [.str a0, .str a1] (.slice false (r.map eStr.d)) := by
 refine pure_of_iwp (rs := [.slice false (r.map eStr.d)]) Tryd.func23 rfl Tryd.ntmps23 (nle rfl) rfl fun O hO => ?_
 show IWP _ _ _ _ ⟨[(0, .str a0), (1, .str a1)], []⟩ _
 unfold strings_Split at h
 refine iwp_reg (ils_cons rfl (iop_assign rfl rfl (lb rfl) (sv (d := .nils) rfl)) <|
  ils_end ?_)
 obtain ⟨x1, hx1, h⟩ := bno_e h
 refine iwp_reg (ils_cons rfl (iop_move rfl rfl (lb rfl) (sv (d := .str _) rfl)) <|
  ils_cons rfl (iop_move rfl rfl (lb rfl) (sv (d := .str _) rfl)) <|
  ils_cons rfl (iop_call (r := .slice _ _) rfl rfl (lb rfl) cl44 (.cons (sv (d := .str _) rfl) (.cons (sv (d := .str _) rfl) (.cons (sv (d := .int _ 0) rfl) (.cons (sv (d := .int _ (-1)) rfl) .nil)))) rfl (p_strings_genSplit _ _ _ _ _ hx1)) <|
  ils_cons rfl (iop_assign rfl rfl (lb rfl) (svL rfl)) <|
  ils_end ?_)
 refine iwp_ret ?_
 obtain rfl := Option.some.inj h
 refine ⟨.inr rfl, (.cons (sv rfl) .nil)⟩

theorem p_console_forms  (r : (List T_console_form)) (h : console_forms = some r) : PureAt Tryd.prog 25 [] (.slice false (r.map E_console_form.d)) := by
 refine pure_of_iwp (rs := [.slice false (r.map E_console_form.d)]) Tryd.func25 rfl Tryd.ntmps25 (nle rfl) rfl fun O hO => ?_
 show IWP _ _ _ _ ⟨[], []⟩ _
 unfold console_forms at h
 refine iwp_reg (ils_cons rfl (iop_assign rfl rfl (lb rfl) (sv (d := .nils) rfl)) <|
  ils_end ?_)
 refine iwp_reg (ils_cons rfl (iop_build_struct (cs := [.str _, .str _]) rfl rfl (lb rfl) Tryd.underlying66 ti66 pl66 rfl (.cons (sv (d := .str [111, 112, 101, 110]) rfl) (.cons (sv (d := .str [115, 105, 110, 102]) rfl) .nil)) rfl) <|
  ils_cons rfl (iop_build_struct (cs := [.str _, .str _]) rfl rfl (lb rfl) Tryd.underlying66 ti66 pl66 rfl (.cons (sv (d := .str [119, 114, 105, 116, 101]) rfl) (.cons (sv (d := .str [115, 105, 116]) rfl) .nil)) rfl) <|
  ils_cons rfl (iop_build_struct (cs := [.str _, .str _]) rfl rfl (lb rfl) Tryd.underlying66 ti66 pl66 rfl (.cons (sv (d := .str [99, 108, 111, 115, 101]) rfl) (.cons (sv (d := .str [115, 105]) rfl) .nil)) rfl) <|
  ils_cons rfl (iop_build_struct (cs := [.str _, .str _]) rfl rfl (lb rfl) Tryd.underlying66 ti66 pl66 rfl (.cons (sv (d := .str [114, 101, 97, 100]) rfl) (.cons (sv (d := .str [115, 105, 110]) rfl) .nil)) rfl) <|
  ils_cons rfl (iop_build_struct (cs := [.str _, .str _]) rfl rfl (lb rfl) Tryd.underlying66 ti66 pl66 rfl (.cons (sv (d := .str [114, 101, 115, 101, 116]) rfl) (.cons (sv (d := .str [115, 105, 110]) rfl) .nil)) rfl) <|
  ils_cons rfl (iop_build_struct (cs := [.str _, .str _]) rfl rfl (lb rfl) Tryd.underlying66 ti66 pl66 rfl (.cons (sv (d := .str [109, 111, 118, 101]) rfl) (.cons (sv (d := .str [115, 105, 109, 110, 102]) rfl) .nil)) rfl) <|
  ils_cons rfl (iop_build_struct (cs := [.str _, .str _]) rfl rfl (lb rfl) Tryd.underlying66 ti66 pl66 rfl (.cons (sv (d := .str [112, 105, 110, 103]) rfl) (.cons (sv (d := .str [115, 110]) rfl) .nil)) rfl) <|
  ils_cons rfl (iop_build_struct (cs := [.str _, .str _]) rfl rfl (lb rfl) Tryd.underlying66 ti66 pl66 rfl (.cons (sv (d := .str [97, 119, 97, 121]) rfl) (.cons (sv (d := .str [115]) rfl) .nil)) rfl) <|
  ils_cons rfl (iop_build_struct (cs := [.str _, .str _]) rfl rfl (lb rfl) Tryd.underlying66 ti66 pl66 rfl (.cons (sv (d := .str [116, 105, 99, 107]) rfl) (.cons (sv (d := .str [110]) rfl) .nil)) rfl) <|
  ils_cons rfl (iop_build_struct (cs := [.str _, .str _]) rfl rfl (lb rfl) Tryd.underlying66 ti66 pl66 rfl (.cons (sv (d := .str [107, 105, 108, 108]) rfl) (.cons (sv (d := .str [115, 112]) rfl) .nil)) rfl) <|
  ils_cons rfl (iop_build_struct (cs := [.str _, .str _]) rfl rfl (lb rfl) Tryd.underlying66 ti66 pl66 rfl (.cons (sv (d := .str [115, 101, 110, 100]) rfl) (.cons (sv (d := .str [115, 112]) rfl) .nil)) rfl) <|
  ils_cons rfl (iop_build_struct (cs := [.str _, .str _]) rfl rfl (lb rfl) Tryd.underlying66 ti66 pl66 rfl (.cons (sv (d := .str [99, 111, 109, 101]) rfl) (.cons (sv (d := .str [110, 102]) rfl) .nil)) rfl) <|
  ils_cons rfl (iop_build_struct (cs := [.str _, .str _]) rfl rfl (lb rfl) Tryd.underlying66 ti66 pl66 rfl (.cons (sv (d := .str [100, 114, 111, 112]) rfl) (.cons (sv (d := .str [110]) rfl) .nil)) rfl) <|
  ils_cons rfl (iop_build_struct (cs := [.str _, .str _]) rfl rfl (lb rfl) Tryd.underlying66 ti66 pl66 rfl (.cons (sv (d := .str [102, 108, 105, 112]) rfl) (.cons (sv (d := .str [110, 109, 105]) rfl) .nil)) rfl) <|
  ils_cons rfl (iop_build_struct (cs := [.str _, .str _]) rfl rfl (lb rfl) Tryd.underlying66 ti66 pl66 rfl (.cons (sv (d := .str [102, 111, 114, 103, 101]) rfl) (.cons (sv (d := .str [115, 112, 116]) rfl) .nil)) rfl) <|
  ils_cons rfl (iop_build_struct (cs := [.str _, .str _]) rfl rfl (lb rfl) Tryd.underlying66 ti66 pl66 rfl (.cons (sv (d := .str [116, 101, 108, 108]) rfl) (.cons (sv (d := .str [115]) rfl) .nil)) rfl) <|
  ils_cons rfl (iop_bsT E_console_form ([(⟨[111, 112, 101, 110], [115, 105, 110, 102]⟩ : T_console_form), (⟨[119, 114, 105, 116, 101], [115, 105, 116]⟩ : T_console_form), (⟨[99, 108, 111, 115, 101], [115, 105]⟩ : T_console_form), (⟨[114, 101, 97, 100], [115, 105, 110]⟩ : T_console_form), (⟨[114, 101, 115, 101, 116], [115, 105, 110]⟩ : T_console_form), (⟨[109, 111, 118, 101], [115, 105, 109, 110, 102]⟩ : T_console_form), (⟨[112, 105, 110, 103], [115, 110]⟩ : T_console_form), (⟨[97, 119, 97, 121], [115]⟩ : T_console_form), (⟨[116, 105, 99, 107], [110]⟩ : T_console_form), (⟨[107, 105, 108, 108], [115, 112]⟩ : T_console_form), (⟨[115, 101, 110, 100], [115, 112]⟩ : T_console_form), (⟨[99, 111, 109, 101], [110, 102]⟩ : T_console_form), (⟨[100, 114, 111, 112], [110]⟩ : T_console_form), (⟨[102, 108, 105, 112], [110, 109, 105]⟩ : T_console_form), (⟨[102, 111, 114, 103, 101], [115, 112, 116]⟩ : T_console_form), (⟨[116, 101, 108, 108], [115]⟩ : T_console_form)] : (List T_console_form)) 0 rfl rfl (lb rfl) Tryd.underlying67 ti66 rfl (.cons (sv (d := .agg [.str _, .str _]) rfl) (.cons (sv (d := .agg [.str _, .str _]) rfl) (.cons (sv (d := .agg [.str _, .str _]) rfl) (.cons (sv (d := .agg [.str _, .str _]) rfl) (.cons (sv (d := .agg [.str _, .str _]) rfl) (.cons (sv (d := .agg [.str _, .str _]) rfl) (.cons (sv (d := .agg [.str _, .str _]) rfl) (.cons (sv (d := .agg [.str _, .str _]) rfl) (.cons (sv (d := .agg [.str _, .str _]) rfl) (.cons (sv (d := .agg [.str _, .str _]) rfl) (.cons (sv (d := .agg [.str _, .str _]) rfl) (.cons (sv (d := .agg [.str _, .str _]) rfl) (.cons (sv (d := .agg [.str _, .str _]) rfl) (.cons (sv (d := .agg [.str _, .str _]) rfl) (.cons (sv (d := .agg [.str _, .str _]) rfl) (.cons (sv (d := .agg [.str _, .str _]) rfl) .nil)))))))))))))))) rfl rfl (by decide)) <|
  ils_cons rfl (iop_assign rfl rfl (lb rfl) (sv (d := .gsl _ _ _) rfl)) <|
  ils_end ?_)
 refine iwp_ret ?_
 obtain rfl := Option.some.inj h
 refine ⟨.inr rfl, (.cons (svg_of rfl rfl) .nil)⟩

theorem p_console_Names  (r : (List (List UInt8))) (h : console_Names = some r) : PureAt Tryd.prog 16 [] (.slice false (r.map eStr.d)) := by
 refine pure_of_iwp (rs := [.slice false (r.map eStr.d)]) Tryd.func16 rfl Tryd.ntmps16 (nle rfl) rfl fun O hO => ?_
 show IWP _ _ _ _ ⟨[], []⟩ _
 unfold console_Names at h
 refine iwp_reg (ils_cons rfl (iop_assign rfl rfl (lb rfl) (sv (d := .nils) rfl)) <|
  ils_end ?_)
 refine iwp_reg (ils_cons rfl (iop_assign rfl rfl (lb rfl) (sv (d := .nils) rfl)) <|
  ils_end ?_)
 refine iwp_seq ?_
 obtain ⟨x1, hx1, h⟩ := bno_e h
 refine iwp_reg (ils_cons rfl (iop_call (r := .slice _ _) rfl rfl (lb rfl) cl25 .nil rfl (p_console_forms  _ hx1)) <|
  ils_cons rfl (iop_lenT E_console_form (l := x1) rfl rfl (lb rfl) Tryd.underlying67 (svL rfl)) <|
  ils_cons rfl (iop_move rfl rfl (lb rfl) (sv (d := .int _ 0) rfl)) <|
  ils_end ?_)
 refine iwp_block ?_
 refine iwp_loopP (α := Nat × (List (List UInt8)) × Int) (fun z => ⟨[(1, .gsl 21 eStr.sz (z.2.1.map eStr.d)), (4, .slice false (x1.map E_console_form.d)), (5, .int .i64 (x1.length : Int)), (6, .int .i64 z.2.2)], [(21, .tail 9 eStr.sz z.2.1.length)]⟩) (fun z => console_Names_L0 x1 z.1 z.2.1 z.2.2 = some r) (fun z => z.1) (fuel, ([] : (List (List UInt8))), 0) (fun i => if i = 21 then 71 else i) ⟨(.cons (.nils rfl) (.sames rfl rfl)), (.cons (.nils rfl) .nil), nd_of [71] rfl (by decide), (fun i hi => by first | rfl | (show (if _ then _ else _) = _; (repeat' split) <;> omega))⟩ ?_ ?_
 ·exact h
 ·
  rintro ⟨n0, v7, v8⟩ h
  cases n0 with
  | zero => exact absurd h (by unfold console_Names_L0; exact nofun)
  | succ n0 =>
   unfold console_Names_L0 at h
   obtain ⟨x14, hx14, h⟩ := bnd_e h
   refine iwp_reg (ils_cons rfl (iop_cmpx rfl rfl (lb rfl) (svI rfl) (svI rfl) rfl hx14) <|
    ils_end ?_)
   refine iwp_seq ?_
   refine iwp_cond (b := _) rfl (fun hc15 => ?_) (fun hc15 => ?_)
   ·
    replace h := bif_t h hc15
    refine iwp_skip ?_
    refine thenQ_n ?_
    refine iwp_seq ?_
    refine iwp_block ?_
    obtain ⟨x16, hx16, h⟩ := bno_e h
    refine iwp_reg (ils_cons rfl (iop_idxT E_console_form (cs := [.str _, .str _]) rfl rfl (lb rfl) Tryd.underlying67 ti66 (svL rfl) (svI rfl) hx16 rfl rfl) <|
     ils_cons rfl (iop_load_fa (cs := [.str _, .str _]) rfl rfl (lb rfl) Tryd.underlying66 ag66 ti66 (by decide) (sv (d := .fptr [.str _, .str _]) rfl) (nle rfl) rfl) <|
     ils_cons rfl (iop_allocS (cs := [.str _, .str _]) (cs' := [.str [], .str []]) 22 rfl rfl (lb rfl) rfl ti66 rfl rfl (.all _)) <|
     ils_cons rfl (iop_store (ds' := [.str _, .str _]) rfl rfl ti66 (svR rfl) rfl (sv (d := .agg [.str _, .str _]) rfl) rfl rfl rfl (nle rfl) rfl) <|
     ils_end ?_)
    obtain ⟨x17, hx17, h⟩ := bno_e h
    refine iwp_region (ils_cons rfl (iop_move rfl rfl (lb rfl) (sv (d := .gsl _ _ _) rfl)) <|
     ils_cons rfl (faR 0 rfl rfl rfl Tryd.underlying66 rfl ti9 (lb rfl) rfl rfl) <|
     ils_cons rfl (iop_load_rs (d := .str _) rfl rfl (lb rfl) Tryd.underlying9 ag9 ti9 (by decide) (svR rfl) rfl (nle rfl) rfl) <|
     ils_cons rfl (iop_bsT eStr ([x16.name] : (List (List UInt8))) 23 rfl rfl (lb rfl) Tryd.underlying42 ti9 rfl (.cons (sv (d := .str _) rfl) .nil) rfl rfl (by decide)) <|
     ils_cons rfl (iop_appT eStr 24 rfl rfl (lb rfl) Tryd.underlying42 ti9 rfl rfl rfl rfl (svg rfl) hx17) <|
     ils_cons rfl (iop_assign rfl rfl (lb rfl) (sv (d := .gsl _ _ _) rfl)) <|
     ils_nil ?_)
    refine blockQ_n ?_
    refine thenQ_n ?_
    obtain ⟨x18, hx18, h⟩ := bnd_e h
    refine iwp_region (ils_cons rfl (iop_intx rfl rfl (lb rfl) (svI rfl) (sv (d := .int _ 1) rfl) rfl hx18) <|
     ils_cons rfl (mvI rfl rfl rfl rfl) <|
     ils_nil ?_)
    refine thenQ_n ⟨(n0, x17, x18), (fun i => if i = 21 then 24 else i), ⟨(.sames rfl rfl), (.cons (.tail rfl) .nil), nd_of [24] rfl (by decide), (fun i hi => by first | rfl | (show (if _ then _ else _) = _; (repeat' split) <;> omega))⟩, ?_, ?_⟩
    exact h
    exact Nat.lt_succ_self _
   ·
    replace h := bif_f h hc15
    refine iwp_exit ?_
    refine thenQ_e ?_
    refine thenQ_e ?_
    refine blockQ_e ?_
    refine thenQ_n ?_
    refine iwp_reg (ils_cons rfl (iop_move rfl rfl (lb rfl) (sv (d := .gsl _ _ _) rfl)) <|
     ils_cons rfl (iop_assign rfl rfl (lb rfl) (sv (d := .gsl _ _ _) rfl)) <|
     ils_end ?_)
    refine iwp_ret ?_
    obtain rfl := Option.some.inj h
    refine ⟨.inr rfl, (.cons (svg_of rfl rfl) .nil)⟩

theorem p_slices_Index_string_string (a0 : (List (List UInt8))) (a1 : (List UInt8)) (r : Int) (h : slices_Index_string_string a0 a1 = some r) : PureAt Tryd.prog 24 [.slice false (a0.map eStr.d), .str a1] (.int .i64 r) := by
 refine pure_of_iwp (rs := [.int .i64 r]) Tryd.func24 rfl Tryd.ntmps24 (nle rfl) rfl fun O hO => ?_
 show IWP _ _ _ _ ⟨[(0, .slice false (a0.map eStr.d)), (1, .str a1)], []⟩ _
 unfold slices_Index_string_string at h
 refine iwp_reg (ils_cons rfl (iop_assign rfl rfl (lb rfl) (sv (d := .int _ 0) rfl)) <|
  ils_end ?_)
 refine iwp_seq ?_
 refine iwp_reg (ils_cons rfl (mvL rfl rfl rfl rfl) <|
  ils_cons rfl (iop_lenT eStr (l := a0) rfl rfl (lb rfl) Tryd.underlying42 (svL rfl)) <|
  ils_cons rfl (iop_move rfl rfl (lb rfl) (sv (d := .int _ 0) rfl)) <|
  ils_end ?_)
 refine iwp_block ?_
 refine iwp_loopP (α := Nat × Int) (fun z => ⟨[(0, .slice false (a0.map eStr.d)), (1, .str a1), (7, .int .i64 (a0.length : Int)), (8, .int .i64 z.2)], []⟩) (fun z => slices_Index_string_string_L0 a0 a1 z.1 z.2 = some r) (fun z => z.1) (fuel, 0) (fun i => i) ⟨(.sames rfl rfl), .nil, nd_of [] rfl (by decide), fun _ _ => rfl⟩ ?_ ?_
 ·exact h
 ·
  rintro ⟨n0, v7⟩ h
  cases n0 with
  | zero => exact absurd h (by unfold slices_Index_string_string_L0; exact nofun)
  | succ n0 =>
   unfold slices_Index_string_string_L0 at h
   obtain ⟨x14, hx14, h⟩ := bnd_e h
   refine iwp_reg (ils_cons rfl (iop_cmpx rfl rfl (lb rfl) (svI rfl) (svI rfl) rfl hx14) <|
    ils_end ?_)
   refine iwp_seq ?_
   refine iwp_cond (b := _) rfl (fun hc15 => ?_) (fun hc15 => ?_)
   ·
    replace h := bif_t h hc15
    refine iwp_skip ?_
    refine thenQ_n ?_
    refine iwp_seq ?_
    refine iwp_block ?_
    refine iwp_reg (ils_cons rfl (mvI rfl rfl rfl rfl) <|
     ils_cons rfl (asI rfl rfl rfl rfl) <|
     ils_end ?_)
    obtain ⟨x16, hx16, h⟩ := bno_e h
    obtain ⟨x17, hx17, h⟩ := bnd_e h
    refine iwp_reg (ils_cons rfl (iop_move rfl rfl (lb rfl) (sv (d := .str _) rfl)) <|
     ils_cons rfl (mvL rfl rfl rfl rfl) <|
     ils_cons rfl (mvI rfl rfl rfl rfl) <|
     ils_cons rfl (iop_idxT eStr (cs := [.str _]) rfl rfl (lb rfl) Tryd.underlying42 ti9 (svL rfl) (svI rfl) hx16 rfl rfl) <|
     ils_cons rfl (iop_load_fs rfl rfl (lb rfl) Tryd.underlying9 ag9 ti9 (by decide) (sv (d := .fptr [.str _]) rfl) (nle rfl)) <|
     ils_cons rfl (iop_strx rfl rfl (lb rfl) (sv (d := .str _) rfl) (sv (d := .str _) rfl) rfl hx17) <|
     ils_end ?_)
    refine iwp_cond (b := _) rfl (fun hc18 => ?_) (fun hc18 => ?_)
    ·
     replace h := bif_t h hc18
     refine iwp_reg (ils_cons rfl (mvI rfl rfl rfl rfl) <|
      ils_cons rfl (asI rfl rfl rfl rfl) <|
      ils_end ?_)
     refine iwp_ret ?_
     refine blockQ_r ?_
     refine thenQ_r ?_
     refine thenQ_r ?_
     refine blockQ_r ?_
     refine thenQ_r ?_
     obtain rfl := Option.some.inj h
     refine ⟨.inr rfl, (.cons (sv rfl) .nil)⟩
    ·
     replace h := bif_f h hc18
     refine iwp_skip ?_
     refine blockQ_n ?_
     refine thenQ_n ?_
     obtain ⟨x19, hx19, h⟩ := bnd_e h
     refine iwp_region (ils_cons rfl (iop_intx rfl rfl (lb rfl) (svI rfl) (sv (d := .int _ 1) rfl) rfl hx19) <|
      ils_cons rfl (mvI rfl rfl rfl rfl) <|
      ils_nil ?_)
     refine thenQ_n ⟨(n0, x19), (fun i => i), ⟨(.sames rfl rfl), .nil, nd_of [] rfl (by decide), fun _ _ => rfl⟩, ?_, ?_⟩
     exact h
     exact Nat.lt_succ_self _
   ·
    replace h := bif_f h hc15
    refine iwp_exit ?_
    refine thenQ_e ?_
    refine thenQ_e ?_
    refine blockQ_e ?_
    refine thenQ_n ?_
    refine iwp_reg (ils_cons rfl (iop_assign rfl rfl (lb rfl) (sv (d := .int _ (-1)) rfl)) <|
     ils_end ?_)
    refine iwp_ret ?_
    obtain rfl := Option.some.inj h
    refine ⟨.inr rfl, (.cons (sv rfl) .nil)⟩

theorem p_console_whole (a0 : (List UInt8)) (r : (Int × Bool)) (h : console_whole a0 = some r) : PureAt Tryd.prog 45 [.str a0] (retD [.int .i64 r.1, .bool r.2]) := by
 refine pure_of_iwp (rs := [.int .i64 r.1, .bool r.2]) Tryd.func45 rfl Tryd.ntmps45 (nle rfl) rfl fun O hO => ?_
 show IWP _ _ _ _ ⟨[(0, .str a0)], []⟩ _
 unfold console_whole at h
 refine iwp_reg (ils_cons rfl (iop_assign rfl rfl (lb rfl) (sv (d := .int _ 0) rfl)) <|
  ils_cons rfl (iop_assign rfl rfl (lb rfl) (sv (d := .bool false) rfl)) <|
  ils_end ?_)
 refine iwp_seq ?_
 obtain ⟨x1, hx1, h⟩ := bnd_e h
 obtain ⟨x2, hx2, h⟩ := bnd_e h
 obtain ⟨x3, hx3, h⟩ := bnd_e h
 obtain ⟨x4, hx4, h⟩ := bnd_e h
 obtain ⟨x5, hx5, h⟩ := bno_e h
 obtain ⟨x6, hx6, h⟩ := bnd_e h
 obtain ⟨x7, hx7, h⟩ := bnd_e h
 obtain ⟨x8, hx8, h⟩ := bnd_e h
 refine iwp_reg (ils_cons rfl (iop_move rfl rfl (lb rfl) (sv (d := .str _) rfl)) <|
  ils_cons rfl (iop_strx rfl rfl (lb rfl) (sv (d := .str _) rfl) (sv (d := .str []) rfl) rfl hx1) <|
  ils_cons rfl (mvB rfl rfl rfl rfl) <|
  ils_guard rfl rfl (.one rfl) rfl (by decide) (fun hb => (iop_move rfl rfl (lb rfl) (sv (d := .str _) rfl))) <|
  ils_guard rfl rfl (.one rfl) rfl (by decide) (fun hb => (iop_len_str rfl rfl (lb rfl) Tryd.underlying9 (svc (d := .str _) rfl hb) rfl)) <|
  ils_guard rfl rfl (.one rfl) rfl (by decide) (fun hb => (iop_cmpx rfl rfl (lb rfl) (svcI rfl hb) (sv (d := .int _ 9) rfl) rfl hx2)) <|
  ils_cons rfl (iop_orx rfl rfl (lb rfl) (svB rfl) rfl rfl hx3) <|
  ils_cons rfl (mvB rfl rfl rfl rfl) <|
  ils_guard rfl rfl (.one rfl) rfl (by decide) (fun hb => (iop_move rfl rfl (lb rfl) (sv (d := .str _) rfl))) <|
  ils_guard rfl rfl (.one rfl) rfl (by decide) (fun hb => (iop_len_str rfl rfl (lb rfl) Tryd.underlying9 (svc (d := .str _) rfl hb) rfl)) <|
  ils_guard rfl rfl (.one rfl) rfl (by decide) (fun hb => (iop_cmpx rfl rfl (lb rfl) (svcI rfl hb) (sv (d := .int _ 1) rfl) rfl hx4)) <|
  ils_guard rfl rfl (.one rfl) rfl (by decide) (fun hb => (iop_move rfl rfl (lb rfl) (svcB rfl hb))) <|
  ils_guard rfl rfl (.two rfl) rfl (by decide) (fun hb => (iop_move rfl rfl (lb rfl) (sv (d := .str _) rfl))) <|
  ils_guard rfl rfl (.two rfl) rfl (by decide) (fun hb => (iop_str_at rfl rfl (lb rfl) Tryd.underlying9 (svc (d := .str _) rfl hb) (sv (d := .int _ 0) rfl) (gd_t hx5 hb))) <|
  ils_guard rfl rfl (.two rfl) rfl (by decide) (fun hb => (iop_cmpx rfl rfl (lb rfl) (svcI rfl hb) (sv (d := .int _ 48) rfl) rfl hx6)) <|
  ils_guard rfl rfl (.one rfl) rfl (by decide) (fun hb => (iop_and2x rfl rfl (lb rfl) hb (svcB rfl hb) rfl rfl hx7)) <|
  ils_cons rfl (iop_orx rfl rfl (lb rfl) (svB rfl) rfl rfl hx8) <|
  ils_end ?_)
 refine iwp_cond (b := _) rfl (fun hc9 => ?_) (fun hc9 => ?_)
 ·
  replace h := bif_t h hc9
  refine iwp_reg (ils_cons rfl (iop_assign rfl rfl (lb rfl) (sv (d := .int _ 0) rfl)) <|
   ils_cons rfl (iop_assign rfl rfl (lb rfl) (sv (d := .bool false) rfl)) <|
   ils_end ?_)
  refine iwp_ret ?_
  refine thenQ_r ?_
  obtain rfl := Option.some.inj h
  refine ⟨.inr rfl, (.cons (sv rfl) (.cons (sv rfl) .nil))⟩
 ·
  replace h := bif_f h hc9
  refine iwp_skip ?_
  refine thenQ_n ?_
  refine iwp_reg (ils_cons rfl (iop_assign rfl rfl (lb rfl) (sv (d := .int _ 0) rfl)) <|
   ils_end ?_)
  refine iwp_seq ?_
  refine iwp_reg (ils_cons rfl (iop_move rfl rfl (lb rfl) (sv (d := .str _) rfl)) <|
   ils_cons rfl (iop_str_bytes rfl rfl (lb rfl) Tryd.underlying9 Tryd.underlying87 Tryd.underlying5 (sv (d := .str _) rfl)) <|
   ils_cons rfl (iop_lenT eByte (l := a0) rfl rfl (lb rfl) Tryd.underlying87 (svL rfl)) <|
   ils_cons rfl (iop_move rfl rfl (lb rfl) (sv (d := .int _ 0) rfl)) <|
   ils_end ?_)
  refine iwp_block ?_
  refine iwp_loopP (α := Nat × Int × Int) (fun z => ⟨[(4, .int .i64 z.2.1), (25, .slice false (a0.map eByte.d)), (26, .int .i64 (a0.length : Int)), (27, .int .i64 z.2.2)], []⟩) (fun z => console_whole_L0 a0 z.1 z.2.1 z.2.2 = some r) (fun z => z.1) (fuel, 0, 0) (fun i => i) ⟨(.sames rfl rfl), .nil, nd_of [] rfl (by decide), fun _ _ => rfl⟩ ?_ ?_
  ·exact h
  ·
   rintro ⟨n0, v22, v23⟩ h
   cases n0 with
   | zero => exact absurd h (by unfold console_whole_L0; exact nofun)
   | succ n0 =>
    unfold console_whole_L0 at h
    obtain ⟨x36, hx36, h⟩ := bnd_e h
    refine iwp_reg (ils_cons rfl (iop_cmpx rfl rfl (lb rfl) (svI rfl) (svI rfl) rfl hx36) <|
     ils_end ?_)
    refine iwp_seq ?_
    refine iwp_cond (b := _) rfl (fun hc37 => ?_) (fun hc37 => ?_)
    ·
     replace h := bif_t h hc37
     refine iwp_skip ?_
     refine thenQ_n ?_
     refine iwp_seq ?_
     refine iwp_block ?_
     obtain ⟨x38, hx38, h⟩ := bno_e h
     refine iwp_reg (ils_cons rfl (iop_idxT eByte (cs := [.int _ _]) rfl rfl (lb rfl) Tryd.underlying87 ti5 (svL rfl) (svI rfl) hx38 rfl rfl) <|
      ils_cons rfl (iop_load_fs rfl rfl (lb rfl) Tryd.underlying5 ag5 ti5 (by decide) (sv (d := .fptr [.int _ _]) rfl) (nle rfl)) <|
      ils_cons rfl (asI rfl rfl rfl rfl) <|
      ils_end ?_)
     refine iwp_seq ?_
     obtain ⟨x39, hx39, h⟩ := bnd_e h
     obtain ⟨x40, hx40, h⟩ := bnd_e h
     obtain ⟨x41, hx41, h⟩ := bnd_e h
     refine iwp_reg (ils_cons rfl (mvI rfl rfl rfl rfl) <|
      ils_cons rfl (iop_cmpx rfl rfl (lb rfl) (svI rfl) (sv (d := .int _ 48) rfl) rfl hx39) <|
      ils_cons rfl (mvB rfl rfl rfl rfl) <|
      ils_guard rfl rfl (.one rfl) rfl (by decide) (fun hb => (mvI rfl rfl rfl rfl)) <|
      ils_guard rfl rfl (.one rfl) rfl (by decide) (fun hb => (iop_cmpx rfl rfl (lb rfl) (svcI rfl hb) (sv (d := .int _ 57) rfl) rfl hx40)) <|
      ils_cons rfl (iop_orx rfl rfl (lb rfl) (svB rfl) rfl rfl hx41) <|
      ils_end ?_)
     refine iwp_cond (b := _) rfl (fun hc42 => ?_) (fun hc42 => ?_)
     ·
      replace h := bif_t h hc42
      refine iwp_reg (ils_cons rfl (iop_assign rfl rfl (lb rfl) (sv (d := .int _ 0) rfl)) <|
       ils_cons rfl (iop_assign rfl rfl (lb rfl) (sv (d := .bool false) rfl)) <|
       ils_end ?_)
      refine iwp_ret ?_
      refine thenQ_r ?_
      refine blockQ_r ?_
      refine thenQ_r ?_
      refine thenQ_r ?_
      refine blockQ_r ?_
      refine thenQ_r ?_
      obtain rfl := Option.some.inj h
      refine ⟨.inr rfl, (.cons (sv rfl) (.cons (sv rfl) .nil))⟩
     ·
      replace h := bif_f h hc42
      refine iwp_skip ?_
      refine thenQ_n ?_
      obtain ⟨x43, hx43, h⟩ := bnd_e h
      obtain ⟨x44, hx44, h⟩ := bnd_e h
      obtain ⟨x45, hx45, h⟩ := bnd_e h
      obtain ⟨x46, hx46, h⟩ := bnd_e h
      refine iwp_region (ils_cons rfl (mvI rfl rfl rfl rfl) <|
       ils_cons rfl (iop_intx rfl rfl (lb rfl) (sv (d := .int _ 10) rfl) (svI rfl) rfl hx43) <|
       ils_cons rfl (mvI rfl rfl rfl rfl) <|
       ils_cons rfl (iop_intx rfl rfl (lb rfl) (svI rfl) (sv (d := .int _ 48) rfl) rfl hx44) <|
       ils_cons rfl (iop_int_conv rfl rfl (lb rfl) ⟨_, Tryd.underlying5⟩ Tryd.underlying3 (svI rfl) hx45) <|
       ils_cons rfl (iop_intx rfl rfl (lb rfl) (svI rfl) (svI rfl) rfl hx46) <|
       ils_cons rfl (asI rfl rfl rfl rfl) <|
       ils_nil ?_)
      refine blockQ_n ?_
      refine thenQ_n ?_
      obtain ⟨x47, hx47, h⟩ := bnd_e h
      refine iwp_region (ils_cons rfl (iop_intx rfl rfl (lb rfl) (svI rfl) (sv (d := .int _ 1) rfl) rfl hx47) <|
       ils_cons rfl (mvI rfl rfl rfl rfl) <|
       ils_nil ?_)
      refine thenQ_n ⟨(n0, x46, x47), (fun i => i), ⟨(.sames rfl rfl), .nil, nd_of [] rfl (by decide), fun _ _ => rfl⟩, ?_, ?_⟩
      exact h
      exact Nat.lt_succ_self _
    ·
     replace h := bif_f h hc37
     refine iwp_exit ?_
     refine thenQ_e ?_
     refine thenQ_e ?_
     refine blockQ_e ?_
     refine thenQ_n ?_
     refine iwp_reg (ils_cons rfl (mvI rfl rfl rfl rfl) <|
      ils_cons rfl (asI rfl rfl rfl rfl) <|
      ils_cons rfl (iop_assign rfl rfl (lb rfl) (sv (d := .bool true) rfl)) <|
      ils_end ?_)
     refine iwp_ret ?_
     obtain rfl := Option.some.inj h
     refine ⟨.inr rfl, (.cons (sv rfl) (.cons (sv rfl) .nil))⟩

theorem p_strings_IndexByte (a0 : (List UInt8)) (a1 : Int) (r : Int) (h : strings_IndexByte a0 a1 = some r) : PureAt Tryd.prog 57 [.str a0, .int .u8 a1] (.int .i64 r) := by
 refine pure_of_iwp (rs := [.int .i64 r]) Tryd.func57 rfl Tryd.ntmps57 (nle rfl) rfl fun O hO => ?_
 show IWP _ _ _ _ ⟨[(0, .str a0), (1, .int .u8 a1)], []⟩ _
 unfold strings_IndexByte at h
 refine iwp_reg (ils_cons rfl (iop_assign rfl rfl (lb rfl) (sv (d := .int _ 0) rfl)) <|
  ils_end ?_)
 obtain ⟨x1, hx1, h⟩ := bno_e h
 refine iwp_reg (ils_cons rfl (iop_move rfl rfl (lb rfl) (sv (d := .str _) rfl)) <|
  ils_cons rfl (mvI rfl rfl rfl rfl) <|
  ils_cons rfl (iop_call (r := .int _ _) rfl rfl (lb rfl) cl66 (.cons (sv (d := .str _) rfl) (.cons (svI rfl) .nil)) rfl (p_internal_stringslite_IndexByte _ _ _ hx1)) <|
  ils_cons rfl (asI rfl rfl rfl rfl) <|
  ils_end ?_)
 refine iwp_ret ?_
 obtain rfl := Option.some.inj h
 refine ⟨.inr rfl, (.cons (sv rfl) .nil)⟩

theorem p_console_text (a0 : (List UInt8)) (r : ((List UInt8) × Bool)) (h : console_text a0 = some r) : PureAt Tryd.prog 46 [.str a0] (retD [.str r.1, .bool r.2]) := by
 refine pure_of_iwp (rs := [.str r.1, .bool r.2]) Tryd.func46 rfl Tryd.ntmps46 (nle rfl) rfl fun O hO => ?_
 show IWP _ _ _ _ ⟨[(0, .str a0)], []⟩ _
 unfold console_text at h
 refine iwp_reg (ils_cons rfl (iop_assign rfl rfl (lb rfl) (sv (d := .str []) rfl)) <|
  ils_cons rfl (iop_assign rfl rfl (lb rfl) (sv (d := .bool false) rfl)) <|
  ils_end ?_)
 refine iwp_seq ?_
 obtain ⟨x1, hx1, h⟩ := bnd_e h
 refine iwp_reg (ils_cons rfl (iop_move rfl rfl (lb rfl) (sv (d := .str _) rfl)) <|
  ils_cons rfl (iop_strx rfl rfl (lb rfl) (sv (d := .str _) rfl) (sv (d := .str [45]) rfl) rfl hx1) <|
  ils_end ?_)
 refine iwp_cond (b := _) rfl (fun hc2 => ?_) (fun hc2 => ?_)
 ·
  replace h := bif_t h hc2
  refine iwp_reg (ils_cons rfl (iop_assign rfl rfl (lb rfl) (sv (d := .str []) rfl)) <|
   ils_cons rfl (iop_assign rfl rfl (lb rfl) (sv (d := .bool true) rfl)) <|
   ils_end ?_)
  refine iwp_ret ?_
  refine thenQ_r ?_
  obtain rfl := Option.some.inj h
  refine ⟨.inr rfl, (.cons (sv rfl) (.cons (sv rfl) .nil))⟩
 ·
  replace h := bif_f h hc2
  refine iwp_skip ?_
  refine thenQ_n ?_
  refine iwp_seq ?_
  obtain ⟨x3, hx3, h⟩ := bnd_e h
  obtain ⟨x4, hx4, h⟩ := bno_e h
  obtain ⟨x5, hx5, h⟩ := bnd_e h
  obtain ⟨x6, hx6, h⟩ := bnd_e h
  refine iwp_reg (ils_cons rfl (iop_move rfl rfl (lb rfl) (sv (d := .str _) rfl)) <|
   ils_cons rfl (iop_strx rfl rfl (lb rfl) (sv (d := .str _) rfl) (sv (d := .str []) rfl) rfl hx3) <|
   ils_cons rfl (mvB rfl rfl rfl rfl) <|
   ils_guard rfl rfl (.one rfl) rfl (by decide) (fun hb => (iop_move rfl rfl (lb rfl) (sv (d := .str _) rfl))) <|
   ils_guard rfl rfl (.one rfl) rfl (by decide) (fun hb => (iop_len_str rfl rfl (lb rfl) Tryd.underlying9 (svc (d := .str _) rfl hb) rfl)) <|
   ils_guard rfl rfl (.one rfl) rfl (by decide) (fun hb => (iop_remx rfl rfl (lb rfl) (svcI rfl hb) (sv (d := .int _ 2) rfl) (gd_t hx4 hb))) <|
   ils_guard rfl rfl (.one rfl) rfl (by decide) (fun hb => (iop_cmpx rfl rfl (lb rfl) (svcI rfl hb) (sv (d := .int _ 1) rfl) rfl hx5)) <|
   ils_cons rfl (iop_orx rfl rfl (lb rfl) (svB rfl) rfl rfl hx6) <|
   ils_end ?_)
  refine iwp_cond (b := _) rfl (fun hc7 => ?_) (fun hc7 => ?_)
  ·
   replace h := bif_t h hc7
   refine iwp_reg (ils_cons rfl (iop_assign rfl rfl (lb rfl) (sv (d := .str []) rfl)) <|
    ils_cons rfl (iop_assign rfl rfl (lb rfl) (sv (d := .bool false) rfl)) <|
    ils_end ?_)
   refine iwp_ret ?_
   refine thenQ_r ?_
   obtain rfl := Option.some.inj h
   refine ⟨.inr rfl, (.cons (sv rfl) (.cons (sv rfl) .nil))⟩
  ·
   replace h := bif_f h hc7
   refine iwp_skip ?_
   refine thenQ_n ?_
   obtain ⟨x8, hx8, h⟩ := bno_e h
   obtain ⟨x9, hx9, h⟩ := bno_e h
   refine iwp_reg (ils_cons rfl (iop_move rfl rfl (lb rfl) (sv (d := .str _) rfl)) <|
    ils_cons rfl (iop_len_str rfl rfl (lb rfl) Tryd.underlying9 (sv (d := .str _) rfl) rfl) <|
    ils_cons rfl (iop_quox rfl rfl (lb rfl) (svI rfl) (sv (d := .int _ 2) rfl) hx8) <|
    ils_cons rfl (iop_makeT eByte.toEnc0 (0 : UInt8) 0 rfl rfl (lb rfl) Tryd.underlying87 ti5 rfl rfl (svI rfl) hx9 (.all _)) <|
    ils_cons rfl (iop_assign rfl rfl (lb rfl) (sv (d := .osl _ _ _) rfl)) <|
    ils_end ?_)
   refine iwp_seq ?_
   refine iwp_reg (ils_cons rfl (iop_move rfl rfl (lb rfl) (sv (d := .str _) rfl)) <|
    ils_cons rfl (iop_len_str rfl rfl (lb rfl) Tryd.underlying9 (sv (d := .str _) rfl) rfl) <|
    ils_cons rfl (iop_move rfl rfl (lb rfl) (sv (d := .int _ 0) rfl)) <|
    ils_end ?_)
   refine iwp_block ?_
   refine iwp_loopP (α := Nat × (List UInt8) × Int) (fun z => ⟨[(0, .str a0), (4, .osl 0 eByte.sz z.2.1.length), (22, .int .i64 (a0.length : Int)), (23, .int .i64 z.2.2)], [(0, .blk 5 (D.flat (z.2.1.map eByte.d)))]⟩) (fun z => console_text_L0 a0 z.1 z.2.1 z.2.2 = some r) (fun z => z.1) (fuel, x9, 0) (fun i => i) ⟨(.sames rfl rfl), (.cons (EntW.lst rfl) .nil), nd_of [0] rfl (by decide), fun _ _ => rfl⟩ ?_ ?_
   ·exact h
   ·
    rintro ⟨n0, v28, v29⟩ h
    cases n0 with
    | zero => exact absurd h (by unfold console_text_L0; exact nofun)
    | succ n0 =>
     unfold console_text_L0 at h
     obtain ⟨x48, hx48, h⟩ := bnd_e h
     refine iwp_reg (ils_cons rfl (iop_cmpx rfl rfl (lb rfl) (svI rfl) (svI rfl) rfl hx48) <|
      ils_end ?_)
     refine iwp_seq ?_
     refine iwp_cond (b := _) rfl (fun hc49 => ?_) (fun hc49 => ?_)
     ·
      replace h := bif_t h hc49
      refine iwp_skip ?_
      refine thenQ_n ?_
      refine iwp_seq ?_
      refine iwp_block ?_
      refine iwp_reg (ils_cons rfl (mvI rfl rfl rfl rfl) <|
       ils_cons rfl (asI rfl rfl rfl rfl) <|
       ils_end ?_)
      obtain ⟨x50, hx50, h⟩ := bno_e h
      obtain ⟨x51, hx51, h⟩ := bno_e h
      refine iwp_reg (ils_cons rfl (iop_move rfl rfl (lb rfl) (sv (d := .str _) rfl)) <|
       ils_cons rfl (mvI rfl rfl rfl rfl) <|
       ils_cons rfl (iop_str_at rfl rfl (lb rfl) Tryd.underlying9 (sv (d := .str _) rfl) (svI rfl) hx50) <|
       ils_cons rfl (iop_call (r := .int _ _) rfl rfl (lb rfl) cl57 (.cons (sv (d := .str [48, 49, 50, 51, 52, 53, 54, 55, 56, 57, 97, 98, 99, 100, 101, 102]) rfl) (.cons (svI rfl) .nil)) rfl (p_strings_IndexByte _ _ _ hx51)) <|
       ils_cons rfl (asI rfl rfl rfl rfl) <|
       ils_end ?_)
      refine iwp_seq ?_
      obtain ⟨x52, hx52, h⟩ := bnd_e h
      refine iwp_reg (ils_cons rfl (mvI rfl rfl rfl rfl) <|
       ils_cons rfl (iop_cmpx rfl rfl (lb rfl) (svI rfl) (sv (d := .int _ 0) rfl) rfl hx52) <|
       ils_end ?_)
      refine iwp_cond (b := _) rfl (fun hc53 => ?_) (fun hc53 => ?_)
      ·
       replace h := bif_t h hc53
       refine iwp_reg (ils_cons rfl (iop_assign rfl rfl (lb rfl) (sv (d := .str []) rfl)) <|
        ils_cons rfl (iop_assign rfl rfl (lb rfl) (sv (d := .bool false) rfl)) <|
        ils_end ?_)
       refine iwp_ret ?_
       refine thenQ_r ?_
       refine blockQ_r ?_
       refine thenQ_r ?_
       refine thenQ_r ?_
       refine blockQ_r ?_
       refine thenQ_r ?_
       obtain rfl := Option.some.inj h
       refine ⟨.inr rfl, (.cons (sv rfl) (.cons (sv rfl) .nil))⟩
      ·
       replace h := bif_f h hc53
       refine iwp_skip ?_
       refine thenQ_n ?_
       obtain ⟨x54, hx54, h⟩ := bno_e h
       obtain ⟨x55, hx55, h⟩ := bno_e h
       obtain ⟨x56, hx56, h⟩ := bno_e h
       obtain ⟨x57, hx57, h⟩ := bno_e h
       obtain ⟨x58, hx58, h⟩ := bno_e h
       obtain ⟨x59, hx59, h⟩ := bnd_e h
       obtain ⟨x60, hx60, h⟩ := bnd_e h
       obtain ⟨x61, hx61, h⟩ := bno_e h
       obtain ⟨x62, hx62, h⟩ := bno_e h
       obtain ⟨x63, hx63, h⟩ := bno_e h
       obtain ⟨x64, hx64, h⟩ := bnd_e h
       refine iwp_region (ils_cons rfl (iop_move rfl rfl (lb rfl) (sv (d := .osl _ _ _) rfl)) <|
        ils_cons rfl (mvI rfl rfl rfl rfl) <|
        ils_cons rfl (iop_quox rfl rfl (lb rfl) (svI rfl) (sv (d := .int _ 2) rfl) hx54) <|
        ils_cons rfl (iop_move rfl rfl (lb rfl) (sv (d := .osl _ _ _) rfl)) <|
        ils_cons rfl (mvI rfl rfl rfl rfl) <|
        ils_cons rfl (iop_quox rfl rfl (lb rfl) (svI rfl) (sv (d := .int _ 2) rfl) hx55) <|
        ils_cons rfl (iop_idxO eByte.toEnc0 rfl rfl (lb rfl) Tryd.underlying87 ti5 (sv (d := .osl _ _ _) rfl) rfl (svI rfl) hx56) <|
        ils_cons rfl (iop_loadEs eByte.toEnc0 (d := .int _ _) rfl rfl (lb rfl) Tryd.underlying5 ag5 ti5 (by decide) (svR rfl) rfl hx57 (nle rfl) rfl) <|
        ils_cons rfl (iop_shlx rfl rfl (lb rfl) (svI rfl) (sv (d := .int _ 4) rfl) hx58) <|
        ils_cons rfl (mvI rfl rfl rfl rfl) <|
        ils_cons rfl (iop_int_conv rfl rfl (lb rfl) ⟨_, Tryd.underlying3⟩ Tryd.underlying5 (svI rfl) hx59) <|
        ils_cons rfl (iop_intx rfl rfl (lb rfl) (svI rfl) (svI rfl) rfl hx60) <|
        ils_cons rfl (iop_idxO eByte.toEnc0 rfl rfl (lb rfl) Tryd.underlying87 ti5 (sv (d := .osl _ _ _) rfl) rfl (svI rfl) hx61) <|
        ils_cons rfl (iop_storeE eByte.toEnc0 (a' := x63) rfl rfl ti5 (svR rfl) rfl (sv_int (svI rfl) (toU8_e hx63)) rfl rfl rfl hx62 (nle rfl) rfl hx64) <|
        ils_nil ?_)
       refine blockQ_n ?_
       refine thenQ_n ?_
       obtain ⟨x65, hx65, h⟩ := bnd_e h
       refine iwp_region (ils_cons rfl (iop_intx rfl rfl (lb rfl) (svI rfl) (sv (d := .int _ 1) rfl) rfl hx65) <|
        ils_cons rfl (mvI rfl rfl rfl rfl) <|
        ils_nil ?_)
       refine thenQ_n ⟨(n0, x64, x65), (fun i => i), ⟨(.s rfl rfl (.cons (.same (congrArg (D.osl _ _) (len_set hx64 rfl).symm) rfl) (.sames rfl rfl))), (.cons (EntW.lst rfl) .nil), nd_of [0] rfl (by decide), fun _ _ => rfl⟩, ?_, ?_⟩
       exact h
       exact Nat.lt_succ_self _
     ·
      replace h := bif_f h hc49
      refine iwp_exit ?_
      refine thenQ_e ?_
      refine thenQ_e ?_
      refine blockQ_e ?_
      refine thenQ_n ?_
      refine iwp_reg (ils_cons rfl (iop_move rfl rfl (lb rfl) (sv (d := .osl _ _ _) rfl)) <|
       ils_cons rfl (iop_bytes_strO rfl rfl (lb rfl) Tryd.underlying87 Tryd.underlying5 Tryd.underlying9 rfl rfl rfl) <|
       ils_cons rfl (iop_assign rfl rfl (lb rfl) (sv (d := .str _) rfl)) <|
       ils_cons rfl (iop_assign rfl rfl (lb rfl) (sv (d := .bool true) rfl)) <|
       ils_end ?_)
      refine iwp_ret ?_
      obtain rfl := Option.some.inj h
      refine ⟨.inr rfl, (.cons (sv rfl) (.cons (sv rfl) .nil))⟩

theorem p_console_put_h (a0 : Int) (a1 : (List UInt8)) (a2 : T_world_Step) (r : (Bool × T_world_Step)) (h : console_put_h a0 a1 a2 = some r) : FnH Tryd.prog 26 [.ref 1000 0, .int .u8 a0, .str a1] [(1000, .blk 24 (v0 a2))] (.bool r.1) [(1000, .blk 24 (v0 r.2))] := by
 refine fnh_of_iwp (rs := [.bool r.1]) Tryd.func26 rfl Tryd.ntmps26 (nle rfl) fun O hO => ?_
 show IWP _ _ _ _ ⟨[(0, .ref 1000 0), (1, .int .u8 a0), (2, .str a1)], [(1000, .blk 24 (v0 a2))]⟩ _
 unfold console_put_h at h
 refine iwp_reg (ils_cons rfl (iop_assign rfl rfl (lb rfl) (sv (d := .bool false) rfl)) <|
  ils_end ?_)
 refine iwp_reg (ils_cons rfl (iop_assign rfl rfl (lb rfl) (sv (d := .bool false) rfl)) <|
  ils_end ?_)
 refine iwp_seq ?_
 refine iwp_reg (ils_cons rfl (mvR rfl rfl rfl rfl) <|
  ils_cons rfl (mvI rfl rfl rfl rfl) <|
  ?_)
 refine ils_weak (S' := ⟨[(0, .ref 1000 0), (1, .int .u8 a0), (2, .str a1), (9, .ref 1000 0), (10, .int .u8 a0)], [(1000, .blk 24 (v0 a2))]⟩) (fun i => i) ⟨(.sames rfl rfl), (.cons (.blk rfl rfl rfl) .nil), nd_of [1000] rfl (by decide), fun _ _ => rfl⟩ ?_
 refine ils_inl2 1 0 rfl rfl rfl (by decide) cl32 Tryd.func32 rfl (.cons (svR rfl) (.cons (svI rfl) .nil)) Tryd.ntmps32 (nle rfl) rfl hO.semi fun O1 hO1 => ?_
 show IWP _ _ _ _ ⟨[(0, .ref 1000 0), (1, .int .u8 a0)], [(0, .kept 1 [.ref 1000 0, .int .u8 a0, .str a1, .dead, .dead, .dead, .dead, .dead, .dead, .ref 1000 0, .int .u8 a0, .dead, .dead, .dead, .dead, .dead, .dead, .dead, .dead, .dead, .dead, .dead, .dead, .dead, .dead, .dead, .dead, .dead, .dead, .dead, .dead, .dead, .dead, .dead, .dead, .dead, .dead, .dead, .dead, .dead, .dead, .dead, .dead, .dead, .dead, .dead, .dead, .dead, .dead, .dead, .dead, .dead, .dead, .dead, .dead, .dead, .dead, .dead]), (1000, .blk 24 (v0 a2))]⟩ _
 refine iwp_reg (ils_cons rfl (iop_assign rfl rfl (lb rfl) (sv (d := .nilp) rfl)) <|
  ils_end ?_)
 refine iwp_seq ?_
 refine iwp_reg (ils_cons rfl (mvI rfl rfl rfl rfl) <|
  ils_end ?_)
 refine iwp_block ?_
 obtain ⟨x1, hx1, h⟩ := bnd_e h
 refine iwp_reg (ils_cons rfl (iop_cmpx rfl rfl (lb rfl) (svI rfl) (sv (d := .int _ 115) rfl) rfl hx1) <|
  ils_cons rfl (asB rfl rfl rfl rfl) <|
  ils_end ?_)
 refine iwp_cond (b := _) rfl (fun hc2 => ?_) (fun hc2 => ?_)
 ·
  replace h := bif_t h hc2
  refine iwp_reg (ils_cons rfl (mvR rfl rfl rfl rfl) <|
   ils_cons rfl (iop_nilCheck_ref rfl rfl (lb rfl) (svR rfl)) <|
   ils_cons rfl (faR 1 rfl rfl rfl Tryd.underlying24 rfl ti3 (lb rfl) rfl rfl) <|
   ils_cons rfl (iop_assign rfl rfl (lb rfl) (svR rfl)) <|
   ils_end ?_)
  refine iwp_ret ?_
  refine blockQ_r ?_
  refine thenQ_r ?_
  refine ⟨.inr rfl, 0, _, [.ref 1000 1], (.cons (sv rfl) .nil), rfl, rfl, ⟨[(0, .ref 1000 0), (1, .int .u8 a0), (2, .str a1), (11, .ref 1000 1)], [(1000, .blk 24 (v0 a2))]⟩, (fun i => i), ⟨(.sames rfl rfl), (.cons (.blk rfl rfl rfl) .nil), nd_of [1000] rfl (by decide), fun _ _ => rfl⟩, ?_⟩
  refine ils_cons rfl (iop_assign rfl rfl (lb rfl) (svR rfl)) <|
   ils_end ?_
  refine iwp_block ?_
  refine iwp_reg (ils_cons rfl (mvR rfl rfl rfl rfl) <|
   ils_cons rfl (iop_nen rfl rfl (lb rfl) Tryd.underlying78 (svR rfl) (sv (d := .nilp) rfl)) <|
   ils_cons rfl (asB rfl rfl rfl rfl) <|
   ils_end ?_)
  refine iwp_cond_t rfl rfl ?_
  obtain ⟨x3, hx3, h⟩ := bno_e h
  refine iwp_reg (ils_cons rfl (mvR rfl rfl rfl rfl) <|
   ils_cons rfl (iop_move rfl rfl (lb rfl) (sv (d := .str _) rfl)) <|
   ils_cons rfl (iop_call (r := .tuple q9) rfl rfl (lb rfl) cl45 (.cons (sv (d := .str _) rfl) .nil) rfl (p_console_whole _ _ hx3)) <|
   ils_cons rfl (iop_move rfl rfl (lb rfl) (sv (d := .tuple q9) rfl)) <|
   ils_cons rfl (iop_extract (d := .int _ _) rfl rfl (lb rfl) (sv (d := .tuple q9) rfl) rfl) <|
   ils_cons rfl (iop_extract (d := .bool _) rfl rfl (lb rfl) (sv (d := .tuple q9) rfl) rfl) <|
   ils_cons rfl (iop_nilCheck_ref rfl rfl (lb rfl) (svR rfl)) <|
   ils_cons rfl (iop_store (ds' := q3) rfl rfl ti3 (svR rfl) rfl (svI rfl) rfl rfl rfl (nle rfl) rfl) <|
   ils_cons rfl (asB rfl rfl rfl rfl) <|
   ils_end ?_)
  obtain ⟨x4, hx4, h⟩ := bnd_e h
  obtain ⟨x5, hx5, h⟩ := bnd_e h
  obtain ⟨x6, hx6, h⟩ := bnd_e h
  obtain ⟨x7, hx7, h⟩ := bnd_e h
  refine iwp_reg (ils_cons rfl (mvB rfl rfl rfl rfl) <|
   ils_cons rfl (mvB rfl rfl rfl rfl) <|
   ils_guard rfl rfl (.one rfl) rfl (by decide) (fun hb => (mvI rfl rfl rfl rfl)) <|
   ils_guard rfl rfl (.one rfl) rfl (by decide) (fun hb => (iop_cmpx rfl rfl (lb rfl) (svcI rfl hb) (sv (d := .int _ 115) rfl) rfl hx4)) <|
   ils_guard rfl rfl (.one rfl) rfl (by decide) (fun hb => (iop_move rfl rfl (lb rfl) (svcB rfl hb))) <|
   ils_guard rfl rfl (.two rfl) rfl (by decide) (fun hb => (mvR rfl rfl rfl rfl)) <|
   ils_guard rfl rfl (.two rfl) rfl (by decide) (fun hb => (iop_nilCheck_ref rfl rfl (lb rfl) (svcR rfl hb))) <|
   ils_guard rfl rfl (.two rfl) rfl (by decide) (fun hb => (iop_load_rs (d := .int _ _) rfl rfl (lb rfl) Tryd.underlying3 ag3 ti3 (by decide) (svcR rfl hb) rfl (nle rfl) rfl)) <|
   ils_guard rfl rfl (.two rfl) rfl (by decide) (fun hb => (iop_cmpx rfl rfl (lb rfl) (svcI rfl hb) (sv (d := .int _ 2) rfl) rfl hx5)) <|
   ils_guard rfl rfl (.one rfl) rfl (by decide) (fun hb => (iop_or2x rfl rfl (lb rfl) hb (svcB rfl hb) rfl rfl hx6)) <|
   ils_cons rfl (iop_andx rfl rfl (lb rfl) (svB rfl) rfl rfl hx7) <|
   ils_cons rfl (asB rfl rfl rfl rfl) <|
   ils_end ?_)
  refine iwp_ret ?_
  refine blockQ_r ?_
  refine thenQ_r ?_
  obtain rfl := Option.some.inj h
  refine ⟨.inr rfl, (fun i => i), ⟨.nil, (.cons (.blk rfl rfl rfl) .nil), nd_of [1000] rfl (by decide), fun _ _ => rfl⟩, (.cons (sv rfl) .nil), rfl⟩
 ·
  replace h := bif_f h hc2
  obtain ⟨x8, hx8, h⟩ := bnd_e h
  refine iwp_reg (ils_cons rfl (iop_cmpx rfl rfl (lb rfl) (svI rfl) (sv (d := .int _ 105) rfl) rfl hx8) <|
   ils_cons rfl (asB rfl rfl rfl rfl) <|
   ils_end ?_)
  refine iwp_cond (b := _) rfl (fun hc9 => ?_) (fun hc9 => ?_)
  ·
   replace h := bif_t h hc9
   refine iwp_reg (ils_cons rfl (mvR rfl rfl rfl rfl) <|
    ils_cons rfl (iop_nilCheck_ref rfl rfl (lb rfl) (svR rfl)) <|
    ils_cons rfl (faR 2 rfl rfl rfl Tryd.underlying24 rfl ti3 (lb rfl) rfl rfl) <|
    ils_cons rfl (iop_assign rfl rfl (lb rfl) (svR rfl)) <|
    ils_end ?_)
   refine iwp_ret ?_
   refine blockQ_r ?_
   refine thenQ_r ?_
   refine ⟨.inr rfl, 0, _, [.ref 1000 2], (.cons (sv rfl) .nil), rfl, rfl, ⟨[(0, .ref 1000 0), (1, .int .u8 a0), (2, .str a1), (11, .ref 1000 2)], [(1000, .blk 24 (v0 a2))]⟩, (fun i => i), ⟨(.sames rfl rfl), (.cons (.blk rfl rfl rfl) .nil), nd_of [1000] rfl (by decide), fun _ _ => rfl⟩, ?_⟩
   refine ils_cons rfl (iop_assign rfl rfl (lb rfl) (svR rfl)) <|
    ils_end ?_
   refine iwp_block ?_
   refine iwp_reg (ils_cons rfl (mvR rfl rfl rfl rfl) <|
    ils_cons rfl (iop_nen rfl rfl (lb rfl) Tryd.underlying78 (svR rfl) (sv (d := .nilp) rfl)) <|
    ils_cons rfl (asB rfl rfl rfl rfl) <|
    ils_end ?_)
   refine iwp_cond_t rfl rfl ?_
   obtain ⟨x10, hx10, h⟩ := bno_e h
   refine iwp_reg (ils_cons rfl (mvR rfl rfl rfl rfl) <|
    ils_cons rfl (iop_move rfl rfl (lb rfl) (sv (d := .str _) rfl)) <|
    ils_cons rfl (iop_call (r := .tuple q9) rfl rfl (lb rfl) cl45 (.cons (sv (d := .str _) rfl) .nil) rfl (p_console_whole _ _ hx10)) <|
    ils_cons rfl (iop_move rfl rfl (lb rfl) (sv (d := .tuple q9) rfl)) <|
    ils_cons rfl (iop_extract (d := .int _ _) rfl rfl (lb rfl) (sv (d := .tuple q9) rfl) rfl) <|
    ils_cons rfl (iop_extract (d := .bool _) rfl rfl (lb rfl) (sv (d := .tuple q9) rfl) rfl) <|
    ils_cons rfl (iop_nilCheck_ref rfl rfl (lb rfl) (svR rfl)) <|
    ils_cons rfl (iop_store (ds' := q3) rfl rfl ti3 (svR rfl) rfl (svI rfl) rfl rfl rfl (nle rfl) rfl) <|
    ils_cons rfl (asB rfl rfl rfl rfl) <|
    ils_end ?_)
   obtain ⟨x11, hx11, h⟩ := bnd_e h
   obtain ⟨x12, hx12, h⟩ := bnd_e h
   obtain ⟨x13, hx13, h⟩ := bnd_e h
   obtain ⟨x14, hx14, h⟩ := bnd_e h
   refine iwp_reg (ils_cons rfl (mvB rfl rfl rfl rfl) <|
    ils_cons rfl (mvB rfl rfl rfl rfl) <|
    ils_guard rfl rfl (.one rfl) rfl (by decide) (fun hb => (mvI rfl rfl rfl rfl)) <|
    ils_guard rfl rfl (.one rfl) rfl (by decide) (fun hb => (iop_cmpx rfl rfl (lb rfl) (svcI rfl hb) (sv (d := .int _ 115) rfl) rfl hx11)) <|
    ils_guard rfl rfl (.one rfl) rfl (by decide) (fun hb => (iop_move rfl rfl (lb rfl) (svcB rfl hb))) <|
    ils_guard rfl rfl (.two rfl) rfl (by decide) (fun hb => (mvR rfl rfl rfl rfl)) <|
    ils_guard rfl rfl (.two rfl) rfl (by decide) (fun hb => (iop_nilCheck_ref rfl rfl (lb rfl) (svcR rfl hb))) <|
    ils_guard rfl rfl (.two rfl) rfl (by decide) (fun hb => (iop_load_rs (d := .int _ _) rfl rfl (lb rfl) Tryd.underlying3 ag3 ti3 (by decide) (svcR rfl hb) rfl (nle rfl) rfl)) <|
    ils_guard rfl rfl (.two rfl) rfl (by decide) (fun hb => (iop_cmpx rfl rfl (lb rfl) (svcI rfl hb) (sv (d := .int _ 2) rfl) rfl hx12)) <|
    ils_guard rfl rfl (.one rfl) rfl (by decide) (fun hb => (iop_or2x rfl rfl (lb rfl) hb (svcB rfl hb) rfl rfl hx13)) <|
    ils_cons rfl (iop_andx rfl rfl (lb rfl) (svB rfl) rfl rfl hx14) <|
    ils_cons rfl (asB rfl rfl rfl rfl) <|
    ils_end ?_)
   refine iwp_ret ?_
   refine blockQ_r ?_
   refine thenQ_r ?_
   obtain rfl := Option.some.inj h
   refine ⟨.inr rfl, (fun i => i), ⟨.nil, (.cons (.blk rfl rfl rfl) .nil), nd_of [1000] rfl (by decide), fun _ _ => rfl⟩, (.cons (sv rfl) .nil), rfl⟩
  ·
   replace h := bif_f h hc9
   obtain ⟨x15, hx15, h⟩ := bnd_e h
   refine iwp_reg (ils_cons rfl (iop_cmpx rfl rfl (lb rfl) (svI rfl) (sv (d := .int _ 110) rfl) rfl hx15) <|
    ils_cons rfl (asB rfl rfl rfl rfl) <|
    ils_end ?_)
   refine iwp_cond (b := _) rfl (fun hc16 => ?_) (fun hc16 => ?_)
   ·
    replace h := bif_t h hc16
    refine iwp_reg (ils_cons rfl (mvR rfl rfl rfl rfl) <|
     ils_cons rfl (iop_nilCheck_ref rfl rfl (lb rfl) (svR rfl)) <|
     ils_cons rfl (faR 3 rfl rfl rfl Tryd.underlying24 rfl ti3 (lb rfl) rfl rfl) <|
     ils_cons rfl (iop_assign rfl rfl (lb rfl) (svR rfl)) <|
     ils_end ?_)
    refine iwp_ret ?_
    refine blockQ_r ?_
    refine thenQ_r ?_
    refine ⟨.inr rfl, 0, _, [.ref 1000 3], (.cons (sv rfl) .nil), rfl, rfl, ⟨[(0, .ref 1000 0), (1, .int .u8 a0), (2, .str a1), (11, .ref 1000 3)], [(1000, .blk 24 (v0 a2))]⟩, (fun i => i), ⟨(.sames rfl rfl), (.cons (.blk rfl rfl rfl) .nil), nd_of [1000] rfl (by decide), fun _ _ => rfl⟩, ?_⟩
    refine ils_cons rfl (iop_assign rfl rfl (lb rfl) (svR rfl)) <|
     ils_end ?_
    refine iwp_block ?_
    refine iwp_reg (ils_cons rfl (mvR rfl rfl rfl rfl) <|
     ils_cons rfl (iop_nen rfl rfl (lb rfl) Tryd.underlying78 (svR rfl) (sv (d := .nilp) rfl)) <|
     ils_cons rfl (asB rfl rfl rfl rfl) <|
     ils_end ?_)
    refine iwp_cond_t rfl rfl ?_
    obtain ⟨x17, hx17, h⟩ := bno_e h
    refine iwp_reg (ils_cons rfl (mvR rfl rfl rfl rfl) <|
     ils_cons rfl (iop_move rfl rfl (lb rfl) (sv (d := .str _) rfl)) <|
     ils_cons rfl (iop_call (r := .tuple q9) rfl rfl (lb rfl) cl45 (.cons (sv (d := .str _) rfl) .nil) rfl (p_console_whole _ _ hx17)) <|
     ils_cons rfl (iop_move rfl rfl (lb rfl) (sv (d := .tuple q9) rfl)) <|
     ils_cons rfl (iop_extract (d := .int _ _) rfl rfl (lb rfl) (sv (d := .tuple q9) rfl) rfl) <|
     ils_cons rfl (iop_extract (d := .bool _) rfl rfl (lb rfl) (sv (d := .tuple q9) rfl) rfl) <|
     ils_cons rfl (iop_nilCheck_ref rfl rfl (lb rfl) (svR rfl)) <|
     ils_cons rfl (iop_store (ds' := q3) rfl rfl ti3 (svR rfl) rfl (svI rfl) rfl rfl rfl (nle rfl) rfl) <|
     ils_cons rfl (asB rfl rfl rfl rfl) <|
     ils_end ?_)
    obtain ⟨x18, hx18, h⟩ := bnd_e h
    obtain ⟨x19, hx19, h⟩ := bnd_e h
    obtain ⟨x20, hx20, h⟩ := bnd_e h
    obtain ⟨x21, hx21, h⟩ := bnd_e h
    refine iwp_reg (ils_cons rfl (mvB rfl rfl rfl rfl) <|
     ils_cons rfl (mvB rfl rfl rfl rfl) <|
     ils_guard rfl rfl (.one rfl) rfl (by decide) (fun hb => (mvI rfl rfl rfl rfl)) <|
     ils_guard rfl rfl (.one rfl) rfl (by decide) (fun hb => (iop_cmpx rfl rfl (lb rfl) (svcI rfl hb) (sv (d := .int _ 115) rfl) rfl hx18)) <|
     ils_guard rfl rfl (.one rfl) rfl (by decide) (fun hb => (iop_move rfl rfl (lb rfl) (svcB rfl hb))) <|
     ils_guard rfl rfl (.two rfl) rfl (by decide) (fun hb => (mvR rfl rfl rfl rfl)) <|
     ils_guard rfl rfl (.two rfl) rfl (by decide) (fun hb => (iop_nilCheck_ref rfl rfl (lb rfl) (svcR rfl hb))) <|
     ils_guard rfl rfl (.two rfl) rfl (by decide) (fun hb => (iop_load_rs (d := .int _ _) rfl rfl (lb rfl) Tryd.underlying3 ag3 ti3 (by decide) (svcR rfl hb) rfl (nle rfl) rfl)) <|
     ils_guard rfl rfl (.two rfl) rfl (by decide) (fun hb => (iop_cmpx rfl rfl (lb rfl) (svcI rfl hb) (sv (d := .int _ 2) rfl) rfl hx19)) <|
     ils_guard rfl rfl (.one rfl) rfl (by decide) (fun hb => (iop_or2x rfl rfl (lb rfl) hb (svcB rfl hb) rfl rfl hx20)) <|
     ils_cons rfl (iop_andx rfl rfl (lb rfl) (svB rfl) rfl rfl hx21) <|
     ils_cons rfl (asB rfl rfl rfl rfl) <|
     ils_end ?_)
    refine iwp_ret ?_
    refine blockQ_r ?_
    refine thenQ_r ?_
    obtain rfl := Option.some.inj h
    refine ⟨.inr rfl, (fun i => i), ⟨.nil, (.cons (.blk rfl rfl rfl) .nil), nd_of [1000] rfl (by decide), fun _ _ => rfl⟩, (.cons (sv rfl) .nil), rfl⟩
   ·
    replace h := bif_f h hc16
    obtain ⟨x22, hx22, h⟩ := bnd_e h
    refine iwp_reg (ils_cons rfl (iop_cmpx rfl rfl (lb rfl) (svI rfl) (sv (d := .int _ 109) rfl) rfl hx22) <|
     ils_cons rfl (asB rfl rfl rfl rfl) <|
     ils_end ?_)
    refine iwp_cond (b := _) rfl (fun hc23 => ?_) (fun hc23 => ?_)
    ·
     replace h := bif_t h hc23
     refine iwp_reg (ils_cons rfl (mvR rfl rfl rfl rfl) <|
      ils_cons rfl (iop_nilCheck_ref rfl rfl (lb rfl) (svR rfl)) <|
      ils_cons rfl (faR 4 rfl rfl rfl Tryd.underlying24 rfl ti3 (lb rfl) rfl rfl) <|
      ils_cons rfl (iop_assign rfl rfl (lb rfl) (svR rfl)) <|
      ils_end ?_)
     refine iwp_ret ?_
     refine blockQ_r ?_
     refine thenQ_r ?_
     refine ⟨.inr rfl, 0, _, [.ref 1000 4], (.cons (sv rfl) .nil), rfl, rfl, ⟨[(0, .ref 1000 0), (1, .int .u8 a0), (2, .str a1), (11, .ref 1000 4)], [(1000, .blk 24 (v0 a2))]⟩, (fun i => i), ⟨(.sames rfl rfl), (.cons (.blk rfl rfl rfl) .nil), nd_of [1000] rfl (by decide), fun _ _ => rfl⟩, ?_⟩
     refine ils_cons rfl (iop_assign rfl rfl (lb rfl) (svR rfl)) <|
      ils_end ?_
     refine iwp_block ?_
     refine iwp_reg (ils_cons rfl (mvR rfl rfl rfl rfl) <|
      ils_cons rfl (iop_nen rfl rfl (lb rfl) Tryd.underlying78 (svR rfl) (sv (d := .nilp) rfl)) <|
      ils_cons rfl (asB rfl rfl rfl rfl) <|
      ils_end ?_)
     refine iwp_cond_t rfl rfl ?_
     obtain ⟨x24, hx24, h⟩ := bno_e h
     refine iwp_reg (ils_cons rfl (mvR rfl rfl rfl rfl) <|
      ils_cons rfl (iop_move rfl rfl (lb rfl) (sv (d := .str _) rfl)) <|
      ils_cons rfl (iop_call (r := .tuple q9) rfl rfl (lb rfl) cl45 (.cons (sv (d := .str _) rfl) .nil) rfl (p_console_whole _ _ hx24)) <|
      ils_cons rfl (iop_move rfl rfl (lb rfl) (sv (d := .tuple q9) rfl)) <|
      ils_cons rfl (iop_extract (d := .int _ _) rfl rfl (lb rfl) (sv (d := .tuple q9) rfl) rfl) <|
      ils_cons rfl (iop_extract (d := .bool _) rfl rfl (lb rfl) (sv (d := .tuple q9) rfl) rfl) <|
      ils_cons rfl (iop_nilCheck_ref rfl rfl (lb rfl) (svR rfl)) <|
      ils_cons rfl (iop_store (ds' := q3) rfl rfl ti3 (svR rfl) rfl (svI rfl) rfl rfl rfl (nle rfl) rfl) <|
      ils_cons rfl (asB rfl rfl rfl rfl) <|
      ils_end ?_)
     obtain ⟨x25, hx25, h⟩ := bnd_e h
     obtain ⟨x26, hx26, h⟩ := bnd_e h
     obtain ⟨x27, hx27, h⟩ := bnd_e h
     obtain ⟨x28, hx28, h⟩ := bnd_e h
     refine iwp_reg (ils_cons rfl (mvB rfl rfl rfl rfl) <|
      ils_cons rfl (mvB rfl rfl rfl rfl) <|
      ils_guard rfl rfl (.one rfl) rfl (by decide) (fun hb => (mvI rfl rfl rfl rfl)) <|
      ils_guard rfl rfl (.one rfl) rfl (by decide) (fun hb => (iop_cmpx rfl rfl (lb rfl) (svcI rfl hb) (sv (d := .int _ 115) rfl) rfl hx25)) <|
      ils_guard rfl rfl (.one rfl) rfl (by decide) (fun hb => (iop_move rfl rfl (lb rfl) (svcB rfl hb))) <|
      ils_guard rfl rfl (.two rfl) rfl (by decide) (fun hb => (mvR rfl rfl rfl rfl)) <|
      ils_guard rfl rfl (.two rfl) rfl (by decide) (fun hb => (iop_nilCheck_ref rfl rfl (lb rfl) (svcR rfl hb))) <|
      ils_guard rfl rfl (.two rfl) rfl (by decide) (fun hb => (iop_load_rs (d := .int _ _) rfl rfl (lb rfl) Tryd.underlying3 ag3 ti3 (by decide) (svcR rfl hb) rfl (nle rfl) rfl)) <|
      ils_guard rfl rfl (.two rfl) rfl (by decide) (fun hb => (iop_cmpx rfl rfl (lb rfl) (svcI rfl hb) (sv (d := .int _ 2) rfl) rfl hx26)) <|
      ils_guard rfl rfl (.one rfl) rfl (by decide) (fun hb => (iop_or2x rfl rfl (lb rfl) hb (svcB rfl hb) rfl rfl hx27)) <|
      ils_cons rfl (iop_andx rfl rfl (lb rfl) (svB rfl) rfl rfl hx28) <|
      ils_cons rfl (asB rfl rfl rfl rfl) <|
      ils_end ?_)
     refine iwp_ret ?_
     refine blockQ_r ?_
     refine thenQ_r ?_
     obtain rfl := Option.some.inj h
     refine ⟨.inr rfl, (fun i => i), ⟨.nil, (.cons (.blk rfl rfl rfl) .nil), nd_of [1000] rfl (by decide), fun _ _ => rfl⟩, (.cons (sv rfl) .nil), rfl⟩
    ·
     replace h := bif_f h hc23
     obtain ⟨x29, hx29, h⟩ := bnd_e h
     refine iwp_reg (ils_cons rfl (iop_cmpx rfl rfl (lb rfl) (svI rfl) (sv (d := .int _ 112) rfl) rfl hx29) <|
      ils_cons rfl (asB rfl rfl rfl rfl) <|
      ils_end ?_)
     refine iwp_cond (b := _) rfl (fun hc30 => ?_) (fun hc30 => ?_)
     ·
      replace h := bif_t h hc30
      refine iwp_reg (ils_cons rfl (mvR rfl rfl rfl rfl) <|
       ils_cons rfl (iop_nilCheck_ref rfl rfl (lb rfl) (svR rfl)) <|
       ils_cons rfl (faR 5 rfl rfl rfl Tryd.underlying24 rfl ti3 (lb rfl) rfl rfl) <|
       ils_cons rfl (iop_assign rfl rfl (lb rfl) (svR rfl)) <|
       ils_end ?_)
      refine iwp_ret ?_
      refine blockQ_r ?_
      refine thenQ_r ?_
      refine ⟨.inr rfl, 0, _, [.ref 1000 5], (.cons (sv rfl) .nil), rfl, rfl, ⟨[(0, .ref 1000 0), (1, .int .u8 a0), (2, .str a1), (11, .ref 1000 5)], [(1000, .blk 24 (v0 a2))]⟩, (fun i => i), ⟨(.sames rfl rfl), (.cons (.blk rfl rfl rfl) .nil), nd_of [1000] rfl (by decide), fun _ _ => rfl⟩, ?_⟩
      refine ils_cons rfl (iop_assign rfl rfl (lb rfl) (svR rfl)) <|
       ils_end ?_
      refine iwp_block ?_
      refine iwp_reg (ils_cons rfl (mvR rfl rfl rfl rfl) <|
       ils_cons rfl (iop_nen rfl rfl (lb rfl) Tryd.underlying78 (svR rfl) (sv (d := .nilp) rfl)) <|
       ils_cons rfl (asB rfl rfl rfl rfl) <|
       ils_end ?_)
      refine iwp_cond_t rfl rfl ?_
      obtain ⟨x31, hx31, h⟩ := bno_e h
      refine iwp_reg (ils_cons rfl (mvR rfl rfl rfl rfl) <|
       ils_cons rfl (iop_move rfl rfl (lb rfl) (sv (d := .str _) rfl)) <|
       ils_cons rfl (iop_call (r := .tuple q9) rfl rfl (lb rfl) cl45 (.cons (sv (d := .str _) rfl) .nil) rfl (p_console_whole _ _ hx31)) <|
       ils_cons rfl (iop_move rfl rfl (lb rfl) (sv (d := .tuple q9) rfl)) <|
       ils_cons rfl (iop_extract (d := .int _ _) rfl rfl (lb rfl) (sv (d := .tuple q9) rfl) rfl) <|
       ils_cons rfl (iop_extract (d := .bool _) rfl rfl (lb rfl) (sv (d := .tuple q9) rfl) rfl) <|
       ils_cons rfl (iop_nilCheck_ref rfl rfl (lb rfl) (svR rfl)) <|
       ils_cons rfl (iop_store (ds' := q3) rfl rfl ti3 (svR rfl) rfl (svI rfl) rfl rfl rfl (nle rfl) rfl) <|
       ils_cons rfl (asB rfl rfl rfl rfl) <|
       ils_end ?_)
      obtain ⟨x32, hx32, h⟩ := bnd_e h
      obtain ⟨x33, hx33, h⟩ := bnd_e h
      obtain ⟨x34, hx34, h⟩ := bnd_e h
      obtain ⟨x35, hx35, h⟩ := bnd_e h
      refine iwp_reg (ils_cons rfl (mvB rfl rfl rfl rfl) <|
       ils_cons rfl (mvB rfl rfl rfl rfl) <|
       ils_guard rfl rfl (.one rfl) rfl (by decide) (fun hb => (mvI rfl rfl rfl rfl)) <|
       ils_guard rfl rfl (.one rfl) rfl (by decide) (fun hb => (iop_cmpx rfl rfl (lb rfl) (svcI rfl hb) (sv (d := .int _ 115) rfl) rfl hx32)) <|
       ils_guard rfl rfl (.one rfl) rfl (by decide) (fun hb => (iop_move rfl rfl (lb rfl) (svcB rfl hb))) <|
       ils_guard rfl rfl (.two rfl) rfl (by decide) (fun hb => (mvR rfl rfl rfl rfl)) <|
       ils_guard rfl rfl (.two rfl) rfl (by decide) (fun hb => (iop_nilCheck_ref rfl rfl (lb rfl) (svcR rfl hb))) <|
       ils_guard rfl rfl (.two rfl) rfl (by decide) (fun hb => (iop_load_rs (d := .int _ _) rfl rfl (lb rfl) Tryd.underlying3 ag3 ti3 (by decide) (svcR rfl hb) rfl (nle rfl) rfl)) <|
       ils_guard rfl rfl (.two rfl) rfl (by decide) (fun hb => (iop_cmpx rfl rfl (lb rfl) (svcI rfl hb) (sv (d := .int _ 2) rfl) rfl hx33)) <|
       ils_guard rfl rfl (.one rfl) rfl (by decide) (fun hb => (iop_or2x rfl rfl (lb rfl) hb (svcB rfl hb) rfl rfl hx34)) <|
       ils_cons rfl (iop_andx rfl rfl (lb rfl) (svB rfl) rfl rfl hx35) <|
       ils_cons rfl (asB rfl rfl rfl rfl) <|
       ils_end ?_)
      refine iwp_ret ?_
      refine blockQ_r ?_
      refine thenQ_r ?_
      obtain rfl := Option.some.inj h
      refine ⟨.inr rfl, (fun i => i), ⟨.nil, (.cons (.blk rfl rfl rfl) .nil), nd_of [1000] rfl (by decide), fun _ _ => rfl⟩, (.cons (sv rfl) .nil), rfl⟩
     ·
      replace h := bif_f h hc30
      refine iwp_skip ?_
      refine blockQ_n ?_
      refine thenQ_n ?_
      refine iwp_reg (ils_cons rfl (iop_assign rfl rfl (lb rfl) (sv (d := .nilp) rfl)) <|
       ils_end ?_)
      refine iwp_ret ?_
      refine ⟨.inr rfl, 0, _, [.nilp], (.cons (sv rfl) .nil), rfl, rfl, ⟨[(0, .ref 1000 0), (1, .int .u8 a0), (2, .str a1), (11, .nilp)], [(1000, .blk 24 (v0 a2))]⟩, (fun i => i), ⟨(.sames rfl rfl), (.cons (.blk rfl rfl rfl) .nil), nd_of [1000] rfl (by decide), fun _ _ => rfl⟩, ?_⟩
      refine ils_cons rfl (iop_assign rfl rfl (lb rfl) (sv (d := .nilp) rfl)) <|
       ils_end ?_
      refine iwp_block ?_
      refine iwp_reg (ils_cons rfl (iop_move rfl rfl (lb rfl) (sv (d := .nilp) rfl)) <|
       ils_cons rfl (iop_nenn rfl rfl (lb rfl) Tryd.underlying78 (sv (d := .nilp) rfl) (sv (d := .nilp) rfl)) <|
       ils_cons rfl (asB rfl rfl rfl rfl) <|
       ils_end ?_)
      refine iwp_cond_f rfl rfl ?_
      obtain ⟨x36, hx36, h⟩ := bnd_e h
      refine iwp_reg (ils_cons rfl (mvI rfl rfl rfl rfl) <|
       ils_cons rfl (iop_cmpx rfl rfl (lb rfl) (svI rfl) (sv (d := .int _ 116) rfl) rfl hx36) <|
       ils_cons rfl (asB rfl rfl rfl rfl) <|
       ils_end ?_)
      refine iwp_cond (b := _) rfl (fun hc37 => ?_) (fun hc37 => ?_)
      ·
       replace h := bif_t h hc37
       obtain ⟨x38, hx38, h⟩ := bno_e h
       refine iwp_reg (ils_cons rfl (mvR rfl rfl rfl rfl) <|
        ils_cons rfl (iop_move rfl rfl (lb rfl) (sv (d := .str _) rfl)) <|
        ils_cons rfl (iop_call (r := .tuple [.str _, .bool _]) rfl rfl (lb rfl) cl46 (.cons (sv (d := .str _) rfl) .nil) rfl (p_console_text _ _ hx38)) <|
        ils_cons rfl (iop_move rfl rfl (lb rfl) (sv (d := .tuple [.str _, .bool _]) rfl)) <|
        ils_cons rfl (iop_extract (d := .str _) rfl rfl (lb rfl) (sv (d := .tuple [.str _, .bool _]) rfl) rfl) <|
        ils_cons rfl (iop_extract (d := .bool _) rfl rfl (lb rfl) (sv (d := .tuple [.str _, .bool _]) rfl) rfl) <|
        ils_cons rfl (iop_nilCheck_ref rfl rfl (lb rfl) (svR rfl)) <|
        ils_cons rfl (faR 6 rfl rfl rfl Tryd.underlying24 rfl ti9 (lb rfl) rfl rfl) <|
        ils_cons rfl (iop_store (ds' := q3) rfl rfl ti9 (svR rfl) rfl (sv (d := .str _) rfl) rfl rfl rfl (nle rfl) rfl) <|
        ils_cons rfl (asB rfl rfl rfl rfl) <|
        ils_end ?_)
       refine iwp_reg (ils_cons rfl (mvB rfl rfl rfl rfl) <|
        ils_cons rfl (asB rfl rfl rfl rfl) <|
        ils_end ?_)
       refine iwp_ret ?_
       refine blockQ_r ?_
       refine thenQ_r ?_
       obtain rfl := Option.some.inj h
       refine ⟨.inr rfl, (fun i => i), ⟨.nil, (.cons (.blk rfl rfl rfl) .nil), nd_of [1000] rfl (by decide), fun _ _ => rfl⟩, (.cons (sv rfl) .nil), rfl⟩
      ·
       replace h := bif_f h hc37
       refine iwp_skip ?_
       refine blockQ_n ?_
       refine thenQ_n ?_
       obtain ⟨x39, hx39, h⟩ := bnd_e h
       refine iwp_reg (ils_cons rfl (mvR rfl rfl rfl rfl) <|
        ils_cons rfl (iop_move rfl rfl (lb rfl) (sv (d := .str _) rfl)) <|
        ils_cons rfl (iop_strx rfl rfl (lb rfl) (sv (d := .str _) rfl) (sv (d := .str [43]) rfl) rfl hx39) <|
        ils_cons rfl (iop_nilCheck_ref rfl rfl (lb rfl) (svR rfl)) <|
        ils_cons rfl (faR 7 rfl rfl rfl Tryd.underlying24 rfl ti4 (lb rfl) rfl rfl) <|
        ils_cons rfl (iop_store (ds' := q3) rfl rfl ti4 (svR rfl) rfl (svB rfl) rfl rfl rfl (nle rfl) rfl) <|
        ils_end ?_)
       obtain ⟨x40, hx40, h⟩ := bnd_e h
       obtain ⟨x41, hx41, h⟩ := bnd_e h
       refine iwp_reg (ils_cons rfl (mvR rfl rfl rfl rfl) <|
        ils_cons rfl (iop_nilCheck_ref rfl rfl (lb rfl) (svR rfl)) <|
        ils_cons rfl (faR 7 rfl rfl rfl Tryd.underlying24 rfl ti4 (lb rfl) rfl rfl) <|
        ils_cons rfl (iop_load_rs (d := .bool _) rfl rfl (lb rfl) Tryd.underlying4 ag4 ti4 (by decide) (svR rfl) rfl (nle rfl) rfl) <|
        ils_cons rfl (mvB rfl rfl rfl rfl) <|
        ils_guard rfl rfl (.one rfl) rfl (by decide) (fun hb => (iop_move rfl rfl (lb rfl) (sv (d := .str _) rfl))) <|
        ils_guard rfl rfl (.one rfl) rfl (by decide) (fun hb => (iop_strx rfl rfl (lb rfl) (svc (d := .str _) rfl hb) (sv (d := .str [45]) rfl) rfl hx40)) <|
        ils_cons rfl (iop_orx rfl rfl (lb rfl) (svB rfl) rfl rfl hx41) <|
        ils_cons rfl (asB rfl rfl rfl rfl) <|
        ils_end ?_)
       refine iwp_ret ?_
       obtain rfl := Option.some.inj h
       refine ⟨.inr rfl, (fun i => i), ⟨.nil, (.cons (.blk rfl rfl rfl) .nil), nd_of [1000] rfl (by decide), fun _ _ => rfl⟩, (.cons (sv rfl) .nil), rfl⟩

theorem p_console_Parse (a0 : (List UInt8)) (r : (T_world_Step × Int)) (h : console_Parse a0 = some r) : PureAt Tryd.prog 9 [.str a0] (retD [.agg (v0 r.1), .int .i64 r.2]) := by
 refine pure_of_iwp (rs := [.agg (v0 r.1), .int .i64 r.2]) Tryd.func9 rfl Tryd.ntmps9 (nle rfl) rfl fun O hO => ?_
 show IWP _ _ _ _ ⟨[(0, .str a0)], []⟩ _
 unfold console_Parse at h
 refine iwp_reg (ils_cons rfl (iop_allocS (cs := q3) (cs' := (w12 0 0 0 0 0 0 [] false)) 0 rfl rfl (lb rfl) rfl ti24 rfl rfl (.all _)) <|
  ils_cons rfl (iop_assign rfl rfl (lb rfl) (sv (d := .int _ 0) rfl)) <|
  ils_end ?_)
 refine iwp_seq ?_
 obtain ⟨x1, hx1, h⟩ := bnd_e h
 obtain ⟨x2, hx2, h⟩ := bno_e h
 obtain ⟨x3, hx3, h⟩ := bnd_e h
 obtain ⟨x4, hx4, h⟩ := bnd_e h
 refine iwp_reg (ils_cons rfl (iop_move rfl rfl (lb rfl) (sv (d := .str _) rfl)) <|
  ils_cons rfl (iop_strx rfl rfl (lb rfl) (sv (d := .str _) rfl) (sv (d := .str []) rfl) rfl hx1) <|
  ils_cons rfl (mvB rfl rfl rfl rfl) <|
  ils_guard rfl rfl (.one rfl) rfl (by decide) (fun hb => (iop_move rfl rfl (lb rfl) (sv (d := .str _) rfl))) <|
  ils_guard rfl rfl (.one rfl) rfl (by decide) (fun hb => (iop_str_at rfl rfl (lb rfl) Tryd.underlying9 (svc (d := .str _) rfl hb) (sv (d := .int _ 0) rfl) (gd_t hx2 hb))) <|
  ils_guard rfl rfl (.one rfl) rfl (by decide) (fun hb => (iop_cmpx rfl rfl (lb rfl) (svcI rfl hb) (sv (d := .int _ 35) rfl) rfl hx3)) <|
  ils_cons rfl (iop_orx rfl rfl (lb rfl) (svB rfl) rfl rfl hx4) <|
  ils_end ?_)
 refine iwp_cond (b := _) rfl (fun hc5 => ?_) (fun hc5 => ?_)
 ·
  replace h := bif_t h hc5
  refine iwp_reg (ils_cons rfl (iop_build_struct (cs := q3) rfl rfl (lb rfl) Tryd.underlying24 ti24 pl24 rfl .nil rfl) <|
   ils_cons rfl (stA q3 q3 ti24 rfl rfl rfl rfl rfl rfl rfl rfl (nle rfl) rfl) <|
   ils_cons rfl (iop_assign rfl rfl (lb rfl) (sv (d := .int _ 6) rfl)) <|
   ils_end ?_)
  refine iwp_ret ?_
  refine thenQ_r ?_
  obtain rfl := Option.some.inj h
  refine ⟨.inr rfl, (.cons (rva la24 rfl rfl (nle rfl) rfl) (.cons (sv rfl) .nil))⟩
 ·
  replace h := bif_f h hc5
  refine iwp_skip ?_
  refine thenQ_n ?_
  obtain ⟨x6, hx6, h⟩ := bno_e h
  refine iwp_reg (ils_cons rfl (iop_move rfl rfl (lb rfl) (sv (d := .str _) rfl)) <|
   ils_cons rfl (iop_call (r := .slice _ _) rfl rfl (lb rfl) cl23 (.cons (sv (d := .str _) rfl) (.cons (sv (d := .str [32]) rfl) .nil)) rfl (p_strings_Split _ _ _ hx6)) <|
   ils_cons rfl (iop_assign rfl rfl (lb rfl) (svL rfl)) <|
   ils_end ?_)
  obtain ⟨x7, hx7, h⟩ := bno_e h
  obtain ⟨x8, hx8, h⟩ := bno_e h
  obtain ⟨x9, hx9, h⟩ := bno_e h
  refine iwp_drw rfl [⟨[], [], [(19, .slice false (x7.map eStr.d))], []⟩,
   ⟨[4], [], [(20, .slice false (x6.map eStr.d))], []⟩,
   ⟨[20], [], [(21, .fptr [.str x8])], []⟩,
   ⟨[21], [], [(22, .str x8)], []⟩,
   ⟨[19, 22], [], [(23, .int .i64 x9)], []⟩,
   ⟨[23], [], [(5, .int .i64 x9)], []⟩] rfl ?_ (by kernel_rfl) ?_
  ·refine .cons (lop rfl rfl fun S hA => (iop_call (r := .slice _ _) rfl rfl (lb rfl) cl16 .nil rfl (p_console_Names  _ hx7))) ?_
   refine .cons (lop rfl rfl fun S hA => (iop_move rfl rfl (lb rfl) (svaL hA rfl rfl))) ?_
   refine .cons (lop rfl rfl fun S hA => (iop_idxT eStr (cs := [.str _]) rfl rfl (lb rfl) Tryd.underlying42 ti9 (svaL hA rfl rfl) (sv (d := .int _ 0) rfl) hx8 rfl rfl)) ?_
   refine .cons (lop rfl rfl fun S hA => (iop_load_fs rfl rfl (lb rfl) Tryd.underlying9 ag9 ti9 (by decide) (sv (d := .fptr [.str _]) (agr hA rfl rfl)) (nle rfl))) ?_
   refine .cons (lop rfl rfl fun S hA => (iop_call (r := .int _ _) rfl rfl (lb rfl) cl24 (.cons (svaL hA rfl rfl) (.cons (sv (d := .str _) (agr hA rfl rfl)) .nil)) rfl (p_slices_Index_string_string _ _ _ hx9))) ?_
   refine .cons (lop rfl rfl fun S hA => (iop_assign rfl rfl (lb rfl) (svaI hA rfl rfl))) ?_
   exact .nil
  refine iwp_seq ?_
  obtain ⟨x10, hx10, h⟩ := bnd_e h
  refine iwp_reg (ils_cons rfl (mvI rfl rfl rfl rfl) <|
   ils_cons rfl (iop_cmpx rfl rfl (lb rfl) (svI rfl) (sv (d := .int _ 0) rfl) rfl hx10) <|
   ils_end ?_)
  refine iwp_cond (b := _) rfl (fun hc11 => ?_) (fun hc11 => ?_)
  ·
   replace h := bif_t h hc11
   refine iwp_reg (ils_cons rfl (iop_build_struct (cs := q3) rfl rfl (lb rfl) Tryd.underlying24 ti24 pl24 rfl .nil rfl) <|
    ils_cons rfl (stA q3 q3 ti24 rfl rfl rfl rfl rfl rfl rfl rfl (nle rfl) rfl) <|
    ils_cons rfl (iop_assign rfl rfl (lb rfl) (sv (d := .int _ 12) rfl)) <|
    ils_end ?_)
   refine iwp_ret ?_
   refine thenQ_r ?_
   obtain rfl := Option.some.inj h
   refine ⟨.inr rfl, (.cons (rva la24 rfl rfl (nle rfl) rfl) (.cons (sv rfl) .nil))⟩
  ·
   replace h := bif_f h hc11
   refine iwp_skip ?_
   refine thenQ_n ?_
   obtain ⟨x12, hx12, h⟩ := bno_e h
   obtain ⟨x13, hx13, h⟩ := bno_e h
   refine iwp_reg (ils_cons rfl (iop_call (r := .slice _ _) rfl rfl (lb rfl) cl25 .nil rfl (p_console_forms  _ hx12)) <|
    ils_cons rfl (mvI rfl rfl rfl rfl) <|
    ils_cons rfl (iop_idxT E_console_form (cs := [.str _, .str _]) rfl rfl (lb rfl) Tryd.underlying67 ti66 (svL rfl) (svI rfl) hx13 rfl rfl) <|
    ils_cons rfl (iop_fieldAddr_fptr (cs' := [.str _]) rfl rfl (lb rfl) Tryd.underlying66 rfl ti9 (by decide) (sv (d := .fptr [.str _, .str _]) rfl) rfl) <|
    ils_cons rfl (iop_load_fs rfl rfl (lb rfl) Tryd.underlying9 ag9 ti9 (by decide) (sv (d := .fptr [.str _]) rfl) (nle rfl)) <|
    ils_cons rfl (iop_assign rfl rfl (lb rfl) (sv (d := .str _) rfl)) <|
    ils_end ?_)
   refine iwp_seq ?_
   obtain ⟨x14, hx14, h⟩ := bnd_e h
   obtain ⟨x15, hx15, h⟩ := bnd_e h
   refine iwp_reg (ils_cons rfl (mvL rfl rfl rfl rfl) <|
    ils_cons rfl (iop_lenT eStr (l := x6) rfl rfl (lb rfl) Tryd.underlying42 (svL rfl)) <|
    ils_cons rfl (iop_move rfl rfl (lb rfl) (sv (d := .str _) rfl)) <|
    ils_cons rfl (iop_len_str rfl rfl (lb rfl) Tryd.underlying9 (sv (d := .str _) rfl) rfl) <|
    ils_cons rfl (iop_intx rfl rfl (lb rfl) (svI rfl) (sv (d := .int _ 1) rfl) rfl hx14) <|
    ils_cons rfl (iop_cmpx rfl rfl (lb rfl) (svI rfl) (svI rfl) rfl hx15) <|
    ils_end ?_)
   refine iwp_cond (b := _) rfl (fun hc16 => ?_) (fun hc16 => ?_)
   ·
    replace h := bif_t h hc16
    refine iwp_reg (ils_cons rfl (iop_build_struct (cs := q3) rfl rfl (lb rfl) Tryd.underlying24 ti24 pl24 rfl .nil rfl) <|
     ils_cons rfl (stA q3 q3 ti24 rfl rfl rfl rfl rfl rfl rfl rfl (nle rfl) rfl) <|
     ils_cons rfl (iop_assign rfl rfl (lb rfl) (sv (d := .int _ 60) rfl)) <|
     ils_end ?_)
    refine iwp_ret ?_
    refine thenQ_r ?_
    obtain rfl := Option.some.inj h
    refine ⟨.inr rfl, (.cons (rva la24 rfl rfl (nle rfl) rfl) (.cons (sv rfl) .nil))⟩
   ·
    replace h := bif_f h hc16
    refine iwp_skip ?_
    refine thenQ_n ?_
    obtain ⟨x17, hx17, h⟩ := bnd_e h
    refine iwp_reg (ils_cons rfl (mvI rfl rfl rfl rfl) <|
     ils_cons rfl (iop_int_conv rfl rfl (lb rfl) ⟨_, Tryd.underlying3⟩ Tryd.underlying5 (svI rfl) hx17) <|
     ils_cons rfl (iop_build_struct (cs := q3) rfl rfl (lb rfl) Tryd.underlying24 ti24 pl24 rfl (.cons (svI rfl) .nil) rfl) <|
     ils_cons rfl (iop_allocS (cs := q3) (cs' := (w12 0 0 0 0 0 0 [] false)) 1 rfl rfl (lb rfl) rfl ti24 rfl rfl (.all _)) <|
     ils_cons rfl (stA q3 q3 ti24 rfl rfl rfl rfl rfl rfl rfl rfl (nle rfl) rfl) <|
     ils_end ?_)
    refine iwp_seq ?_
    refine iwp_reg (ils_cons rfl (iop_move rfl rfl (lb rfl) (sv (d := .str _) rfl)) <|
     ils_cons rfl (iop_len_str rfl rfl (lb rfl) Tryd.underlying9 (sv (d := .str _) rfl) rfl) <|
     ils_cons rfl (iop_move rfl rfl (lb rfl) (sv (d := .int _ 0) rfl)) <|
     ils_end ?_)
    refine iwp_block ?_
    refine iwp_loopP (α := Nat × Int × Int × Int × Int × Int × Int × Int × (List UInt8) × Bool) (fun z => ⟨[(2, .ref 0 0), (4, .slice false (x6.map eStr.d)), (6, .str x13.has), (7, .ref 1 0), (43, .int .i64 (x13.has.length : Int)), (44, .int .i64 z.2.1)], [(0, .blk 24 (w12 0 0 0 0 0 0 [] false)), (1, .blk 24 (w12 z.2.2.1 z.2.2.2.1 z.2.2.2.2.1 z.2.2.2.2.2.1 z.2.2.2.2.2.2.1 z.2.2.2.2.2.2.2.1 z.2.2.2.2.2.2.2.2.1 z.2.2.2.2.2.2.2.2.2))]⟩) (fun z => console_Parse_L0 x6 x13 z.1 z.2.1 z.2.2.1 z.2.2.2.1 z.2.2.2.2.1 z.2.2.2.2.2.1 z.2.2.2.2.2.2.1 z.2.2.2.2.2.2.2.1 z.2.2.2.2.2.2.2.2.1 z.2.2.2.2.2.2.2.2.2 = some r) (fun z => z.1) (fuel, 0, x17, 0, 0, 0, 0, 0, ([] : (List UInt8)), false) (fun i => i) ⟨(.sames rfl rfl), (.cons (.blk rfl rfl rfl) (.cons (.blk rfl rfl rfl) .nil)), nd_of [0, 1] rfl (by decide), fun _ _ => rfl⟩ ?_ ?_
    ·exact h
    ·
     rintro ⟨n0, v26, v27, v28, v29, v30, v31, v32, v33, v34⟩ h
     cases n0 with
     | zero => exact absurd h (by unfold console_Parse_L0; exact nofun)
     | succ n0 =>
      unfold console_Parse_L0 at h
      obtain ⟨x43, hx43, h⟩ := bnd_e h
      refine iwp_reg (ils_cons rfl (iop_cmpx rfl rfl (lb rfl) (svI rfl) (svI rfl) rfl hx43) <|
       ils_end ?_)
      refine iwp_seq ?_
      refine iwp_cond (b := _) rfl (fun hc44 => ?_) (fun hc44 => ?_)
      ·
       replace h := bif_t h hc44
       refine iwp_skip ?_
       refine thenQ_n ?_
       refine iwp_seq ?_
       refine iwp_block ?_
       refine iwp_reg (ils_cons rfl (mvI rfl rfl rfl rfl) <|
        ils_cons rfl (asI rfl rfl rfl rfl) <|
        ils_end ?_)
       obtain ⟨x45, hx45, h⟩ := bno_e h
       obtain ⟨x46, hx46, h⟩ := bnd_e h
       obtain ⟨x47, hx47, h⟩ := bno_e h
       obtain ⟨x48, hx48, h⟩ := bno_e h
       refine iwp_drw rfl [⟨[6], [], [(47, .str x13.has)], []⟩,
        ⟨[8], [], [(48, .int .i64 v26)], []⟩,
        ⟨[47, 48], [], [(49, .int .u8 (x45.toNat : Int))], []⟩,
        ⟨[4], [], [(50, .slice false (x6.map eStr.d))], []⟩,
        ⟨[8], [], [(51, .int .i64 v26)], []⟩,
        ⟨[51], [], [(52, .int .i64 x46)], []⟩,
        ⟨[50, 52], [], [(53, .fptr [.str x47])], []⟩,
        ⟨[53], [], [(54, .str x47)], []⟩,
        ⟨[7, 49, 54], [1], [(55, .bool x48.1)], [(1, .blk 24 (v0 x48.2)), (1, .none)]⟩,
        ⟨[55], [], [(56, .bool (!x48.1))], []⟩] rfl ?_ (by kernel_rfl) ?_
       ·refine .cons (lop rfl rfl fun S hA => (iop_move rfl rfl (lb rfl) (sv (d := .str _) (agr hA rfl rfl)))) ?_
        refine .cons (lop rfl rfl fun S hA => (iop_move rfl rfl (lb rfl) (svaI hA rfl rfl))) ?_
        refine .cons (lop rfl rfl fun S hA => (iop_str_at rfl rfl (lb rfl) Tryd.underlying9 (sv (d := .str _) (agr hA rfl rfl)) (svaI hA rfl rfl) hx45)) ?_
        refine .cons (lop rfl rfl fun S hA => (iop_move rfl rfl (lb rfl) (svaL hA rfl rfl))) ?_
        refine .cons (lop rfl rfl fun S hA => (iop_move rfl rfl (lb rfl) (svaI hA rfl rfl))) ?_
        refine .cons (lop rfl rfl fun S hA => (iop_intx rfl rfl (lb rfl) (svaI hA rfl rfl) (sv (d := .int _ 1) rfl) rfl hx46)) ?_
        refine .cons (lop rfl rfl fun S hA => (iop_idxT eStr (cs := [.str _]) rfl rfl (lb rfl) Tryd.underlying42 ti9 (svaL hA rfl rfl) (svaI hA rfl rfl) hx47 rfl rfl)) ?_
        refine .cons (lop rfl rfl fun S hA => (iop_load_fs rfl rfl (lb rfl) Tryd.underlying9 ag9 ti9 (by decide) (sv (d := .fptr [.str _]) (agr hA rfl rfl)) (nle rfl))) ?_
        refine .cons (lop rfl rfl fun S hA => (iop_callM (r' := .bool x48.1) (U := [(1, .blk 24 (v0 x48.2)), (1, .none)]) 2 0 [1] rfl rfl (lb rfl) cl26 (.cons (svaR hA rfl rfl) (.cons (svaI hA rfl rfl) (.cons (sv (d := .str _) (agr hA rfl rfl)) .nil))) rfl rfl rfl (List.forall_mem_nil _) ⟨by decide, rfl, List.forall_mem_cons.2 ⟨⟨rfl, rfl, (agi hA rfl rfl), rfl⟩, List.forall_mem_nil _⟩⟩ (p_console_put_h _ _ _ _ hx48) rfl rfl (List.forall_mem_cons.2 ⟨⟨rfl, rfl⟩, List.forall_mem_nil _⟩) rfl)) ?_
        refine .cons (lop rfl rfl fun S hA => (iop_not rfl rfl (lb rfl) (svaB hA rfl rfl))) ?_
        exact .nil
       refine iwp_cond (b := _) rfl (fun hc49 => ?_) (fun hc49 => ?_)
       ·
        replace h := bif_t h hc49
        refine iwp_reg (ils_cons rfl (iop_build_struct (cs := q3) rfl rfl (lb rfl) Tryd.underlying24 ti24 pl24 rfl .nil rfl) <|
         ils_cons rfl (stA q3 q3 ti24 rfl rfl rfl rfl rfl rfl rfl rfl (nle rfl) rfl) <|
         ils_cons rfl (iop_assign rfl rfl (lb rfl) (sv (d := .int _ 60) rfl)) <|
         ils_end ?_)
        refine iwp_ret ?_
        refine blockQ_r ?_
        refine thenQ_r ?_
        refine thenQ_r ?_
        refine blockQ_r ?_
        refine thenQ_r ?_
        obtain rfl := Option.some.inj h
        refine ⟨.inr rfl, (.cons (rva la24 rfl rfl (nle rfl) rfl) (.cons (sv rfl) .nil))⟩
       ·
        replace h := bif_f h hc49
        refine iwp_skip ?_
        refine blockQ_n ?_
        refine thenQ_n ?_
        obtain ⟨x50, hx50, h⟩ := bnd_e h
        refine iwp_region (ils_cons rfl (iop_intx rfl rfl (lb rfl) (svI rfl) (sv (d := .int _ 1) rfl) rfl hx50) <|
         ils_cons rfl (mvI rfl rfl rfl rfl) <|
         ils_nil ?_)
        refine thenQ_n ⟨(n0, x50, x48.2.Kind, x48.2.Side, x48.2.ID, x48.2.N, x48.2.M, x48.2.Path, x48.2.Text, x48.2.Flag), (fun i => i), ⟨(.sames rfl rfl), (.cons (.blk rfl rfl rfl) (.cons (.blk rfl rfl rfl) .nil)), nd_of [0, 1] rfl (by decide), fun _ _ => rfl⟩, ?_, ?_⟩
        exact h
        exact Nat.lt_succ_self _
      ·
       replace h := bif_f h hc44
       refine iwp_exit ?_
       refine thenQ_e ?_
       refine thenQ_e ?_
       refine blockQ_e ?_
       refine thenQ_n ?_
       refine iwp_seq ?_
       obtain ⟨x51, hx51, h⟩ := bnd_e h
       refine iwp_reg (ils_cons rfl (faR 6 rfl rfl rfl Tryd.underlying24 rfl ti9 (lb rfl) rfl rfl) <|
        ils_cons rfl (iop_load_rs (d := .str _) rfl rfl (lb rfl) Tryd.underlying9 ag9 ti9 (by decide) (svR rfl) rfl (nle rfl) rfl) <|
        ils_cons rfl (iop_len_str rfl rfl (lb rfl) Tryd.underlying9 (sv (d := .str _) rfl) rfl) <|
        ils_cons rfl (iop_cmpx rfl rfl (lb rfl) (svI rfl) (sv (d := .int _ 300) rfl) rfl hx51) <|
        ils_end ?_)
       refine iwp_cond (b := _) rfl (fun hc52 => ?_) (fun hc52 => ?_)
       ·
        replace h := bif_t h hc52
        refine iwp_reg (ils_cons rfl (iop_build_struct (cs := q3) rfl rfl (lb rfl) Tryd.underlying24 ti24 pl24 rfl .nil rfl) <|
         ils_cons rfl (stA q3 q3 ti24 rfl rfl rfl rfl rfl rfl rfl rfl (nle rfl) rfl) <|
         ils_cons rfl (iop_assign rfl rfl (lb rfl) (sv (d := .int _ 5) rfl)) <|
         ils_end ?_)
        refine iwp_ret ?_
        refine thenQ_r ?_
        obtain rfl := Option.some.inj h
        refine ⟨.inr rfl, (.cons (rva la24 rfl rfl (nle rfl) rfl) (.cons (sv rfl) .nil))⟩
       ·
        replace h := bif_f h hc52
        refine iwp_skip ?_
        refine thenQ_n ?_
        refine iwp_reg (ils_cons rfl (lra q3 la24 rfl rfl rfl rfl rfl (nle rfl) rfl) <|
         ils_cons rfl (stA q3 q3 ti24 rfl rfl rfl rfl rfl rfl rfl rfl (nle rfl) rfl) <|
         ils_cons rfl (iop_assign rfl rfl (lb rfl) (sv (d := .int _ 0) rfl)) <|
         ils_end ?_)
        refine iwp_ret ?_
        obtain rfl := Option.some.inj h
        refine ⟨.inr rfl, (.cons (rva la24 rfl rfl (nle rfl) rfl) (.cons (sv rfl) .nil))⟩

theorem p_console_bare (a0 : T_world_Step) (a1 : (List UInt8)) (r : (T_world_Step × Bool)) (h : console_bare a0 a1 = some r) : PureAt Tryd.prog 31 [.agg (v0 a0), .str a1] (retD [.agg (v0 r.1), .bool r.2]) := by
 refine pure_of_iwp (rs := [.agg (v0 r.1), .bool r.2]) Tryd.func31 rfl Tryd.ntmps31 (nle rfl) rfl fun O hO => ?_
 show IWP _ _ _ _ ⟨[(0, .agg (v0 a0)), (1, .str a1)], []⟩ _
 unfold console_bare at h
 refine iwp_reg (ils_cons rfl (iop_box' (cs := q3) 0 rfl rfl (lb rfl) rfl (svA q3 rfl) rfl rfl) <|
  ils_cons rfl (iop_allocS (cs := q3) (cs' := (w12 0 0 0 0 0 0 [] false)) 1 rfl rfl (lb rfl) rfl ti24 rfl rfl (.all _)) <|
  ils_cons rfl (iop_assign rfl rfl (lb rfl) (sv (d := .bool false) rfl)) <|
  ils_end ?_)
 refine iwp_reg (ils_cons rfl (iop_assign rfl rfl (lb rfl) (sv (d := .bool true) rfl)) <|
  ils_end ?_)
 refine iwp_seq ?_
 refine iwp_reg (ils_cons rfl (iop_move rfl rfl (lb rfl) (sv (d := .str _) rfl)) <|
  ils_cons rfl (iop_len_str rfl rfl (lb rfl) Tryd.underlying9 (sv (d := .str _) rfl) rfl) <|
  ils_cons rfl (iop_move rfl rfl (lb rfl) (sv (d := .int _ 0) rfl)) <|
  ils_end ?_)
 refine iwp_block ?_
 refine iwp_loopP (α := Nat × Bool × Int × Int × Int × Int × Int × Int × (List UInt8) × Bool) (fun z => ⟨[(1, .str a1), (2, .ref 0 0), (4, .ref 1 0), (6, .bool z.2.1), (10, .int .i64 (a1.length : Int)), (11, .int .i64 z.2.2.1)], [(0, .blk 24 (w12 a0.Kind z.2.2.2.1 z.2.2.2.2.1 z.2.2.2.2.2.1 z.2.2.2.2.2.2.1 z.2.2.2.2.2.2.2.1 z.2.2.2.2.2.2.2.2.1 z.2.2.2.2.2.2.2.2.2)), (1, .blk 24 (w12 0 0 0 0 0 0 [] false))]⟩) (fun z => console_bare_L0 a0 a1 z.1 z.2.1 z.2.2.1 z.2.2.2.1 z.2.2.2.2.1 z.2.2.2.2.2.1 z.2.2.2.2.2.2.1 z.2.2.2.2.2.2.2.1 z.2.2.2.2.2.2.2.2.1 z.2.2.2.2.2.2.2.2.2 = some r) (fun z => z.1) (fuel, true, 0, a0.Side, a0.ID, a0.N, a0.M, a0.Path, a0.Text, a0.Flag) (fun i => i) ⟨(.sames rfl rfl), (.cons (.blk rfl rfl rfl) (.cons (.blk rfl rfl rfl) .nil)), nd_of [0, 1] rfl (by decide), fun _ _ => rfl⟩ ?_ ?_
 ·exact h
 ·
  rintro ⟨n0, v69, v70, v71, v72, v73, v74, v75, v76, v77⟩ h
  cases n0 with
  | zero => exact absurd h (by unfold console_bare_L0; exact nofun)
  | succ n0 =>
   unfold console_bare_L0 at h
   obtain ⟨x146, hx146, h⟩ := bnd_e h
   refine iwp_reg (ils_cons rfl (iop_cmpx rfl rfl (lb rfl) (svI rfl) (svI rfl) rfl hx146) <|
    ils_end ?_)
   refine iwp_seq ?_
   refine iwp_cond (b := _) rfl (fun hc147 => ?_) (fun hc147 => ?_)
   ·
    replace h := bif_t h hc147
    refine iwp_skip ?_
    refine thenQ_n ?_
    refine iwp_seq ?_
    refine iwp_block ?_
    refine iwp_reg (ils_cons rfl (mvI rfl rfl rfl rfl) <|
     ils_cons rfl (asI rfl rfl rfl rfl) <|
     ils_end ?_)
    obtain ⟨x148, hx148, h⟩ := bno_e h
    refine iwp_reg (ils_cons rfl (iop_move rfl rfl (lb rfl) (sv (d := .str _) rfl)) <|
     ils_cons rfl (mvI rfl rfl rfl rfl) <|
     ils_cons rfl (iop_str_at rfl rfl (lb rfl) Tryd.underlying9 (sv (d := .str _) rfl) (svI rfl) hx148) <|
     ?_)
    refine ils_weak (S' := ⟨[(1, .str a1), (2, .ref 0 0), (4, .ref 1 0), (6, .bool v69), (10, .int .i64 (a1.length : Int)), (11, .int .i64 v70), (7, .int .i64 v70), (16, .int .u8 (x148.toNat : Int))], [(0, .blk 24 (w12 a0.Kind v71 v72 v73 v74 v75 v76 v77)), (1, .blk 24 (w12 0 0 0 0 0 0 [] false))]⟩) (fun i => i) ⟨(.sames rfl rfl), (.cons (.blk rfl rfl rfl) (.cons (.blk rfl rfl rfl) .nil)), nd_of [0, 1] rfl (by decide), fun _ _ => rfl⟩ ?_
    refine ils_inl2 1 2 rfl rfl rfl (by decide) cl32 Tryd.func32 rfl (.cons (svR rfl) (.cons (svI rfl) .nil)) Tryd.ntmps32 (nle rfl) rfl hO.semi fun O1 hO1 => ?_
    show IWP _ _ _ _ ⟨[(0, .ref 0 0), (1, .int .u8 (x148.toNat : Int))], [(2, .kept 1 [.dead, .str a1, .ref 0 0, .dead, .ref 1 0, .dead, .bool v69, .int .i64 v70, .dead, .dead, .int .i64 (a1.length : Int), .int .i64 v70, .dead, .dead, .dead, .dead, .int .u8 (x148.toNat : Int), .dead, .dead, .dead, .dead, .dead, .dead, .dead, .dead, .dead, .dead, .dead, .dead, .dead, .dead, .dead, .dead, .dead, .dead, .dead, .dead, .dead, .dead, .dead, .dead, .dead, .dead, .dead, .dead, .dead, .dead, .dead, .dead, .dead, .dead, .dead, .dead, .dead, .dead, .dead, .dead, .dead]), (0, .blk 24 (w12 a0.Kind v71 v72 v73 v74 v75 v76 v77)), (1, .blk 24 (w12 0 0 0 0 0 0 [] false))]⟩ _
    refine iwp_reg (ils_cons rfl (iop_assign rfl rfl (lb rfl) (sv (d := .nilp) rfl)) <|
     ils_end ?_)
    refine iwp_seq ?_
    refine iwp_reg (ils_cons rfl (mvI rfl rfl rfl rfl) <|
     ils_end ?_)
    refine iwp_block ?_
    obtain ⟨x149, hx149, h⟩ := bnd_e h
    refine iwp_reg (ils_cons rfl (iop_cmpx rfl rfl (lb rfl) (svI rfl) (sv (d := .int _ 115) rfl) rfl hx149) <|
     ils_cons rfl (asB rfl rfl rfl rfl) <|
     ils_end ?_)
    refine iwp_cond (b := _) rfl (fun hc150 => ?_) (fun hc150 => ?_)
    ·
     replace h := bif_t h hc150
     refine iwp_reg (ils_cons rfl (mvR rfl rfl rfl rfl) <|
      ils_cons rfl (iop_nilCheck_ref rfl rfl (lb rfl) (svR rfl)) <|
      ils_cons rfl (faR 1 rfl rfl rfl Tryd.underlying24 rfl ti3 (lb rfl) rfl rfl) <|
      ils_cons rfl (iop_assign rfl rfl (lb rfl) (svR rfl)) <|
      ils_end ?_)
     refine iwp_ret ?_
     refine blockQ_r ?_
     refine thenQ_r ?_
     refine ⟨.inr rfl, 2, _, [.ref 0 1], (.cons (sv rfl) .nil), rfl, rfl, ⟨[(1, .str a1), (2, .ref 0 0), (4, .ref 1 0), (6, .bool v69), (7, .int .i64 v70), (10, .int .i64 (a1.length : Int)), (11, .int .i64 v70), (17, .ref 0 1)], [(0, .blk 24 (w12 a0.Kind v71 v72 v73 v74 v75 v76 v77)), (1, .blk 24 (w12 0 0 0 0 0 0 [] false))]⟩, (fun i => i), ⟨(.sames rfl rfl), (.cons (.blk rfl rfl rfl) (.cons (.blk rfl rfl rfl) .nil)), nd_of [0, 1] rfl (by decide), fun _ _ => rfl⟩, ?_⟩
     refine ils_cons rfl (iop_assign rfl rfl (lb rfl) (svR rfl)) <|
      ils_end ?_
     refine iwp_block ?_
     refine iwp_reg (ils_cons rfl (mvR rfl rfl rfl rfl) <|
      ils_cons rfl (iop_nen rfl rfl (lb rfl) Tryd.underlying78 (svR rfl) (sv (d := .nilp) rfl)) <|
      ils_cons rfl (asB rfl rfl rfl rfl) <|
      ils_end ?_)
     refine iwp_cond_t rfl rfl ?_
     obtain ⟨x151, hx151, h⟩ := bnd_e h
     obtain ⟨x152, hx152, h⟩ := bnd_e h
     obtain ⟨x153, hx153, h⟩ := bnd_e h
     obtain ⟨x154, hx154, h⟩ := bnd_e h
     obtain ⟨x155, hx155, h⟩ := bno_e h
     obtain ⟨x156, hx156, h⟩ := bnd_e h
     obtain ⟨x157, hx157, h⟩ := bnd_e h
     obtain ⟨x158, hx158, h⟩ := bnd_e h
     obtain ⟨x159, hx159, h⟩ := bnd_e h
     refine iwp_reg (ils_cons rfl (mvB rfl rfl rfl rfl) <|
      ils_cons rfl (mvB rfl rfl rfl rfl) <|
      ils_guard rfl rfl (.one rfl) rfl (by decide) (fun hb => (mvR rfl rfl rfl rfl)) <|
      ils_guard rfl rfl (.one rfl) rfl (by decide) (fun hb => (iop_nilCheck_ref rfl rfl (lb rfl) (svcR rfl hb))) <|
      ils_guard rfl rfl (.one rfl) rfl (by decide) (fun hb => (iop_load_rs (d := .int _ _) rfl rfl (lb rfl) Tryd.underlying3 ag3 ti3 (by decide) (svcR rfl hb) rfl (nle rfl) rfl)) <|
      ils_guard rfl rfl (.one rfl) rfl (by decide) (fun hb => (iop_cmpx rfl rfl (lb rfl) (svcI rfl hb) (sv (d := .int _ 0) rfl) rfl hx151)) <|
      ils_cons rfl (iop_andx rfl rfl (lb rfl) (svB rfl) rfl rfl hx152) <|
      ils_cons rfl (mvB rfl rfl rfl rfl) <|
      ils_guard rfl rfl (.one rfl) rfl (by decide) (fun hb => (mvR rfl rfl rfl rfl)) <|
      ils_guard rfl rfl (.one rfl) rfl (by decide) (fun hb => (iop_nilCheck_ref rfl rfl (lb rfl) (svcR rfl hb))) <|
      ils_guard rfl rfl (.one rfl) rfl (by decide) (fun hb => (iop_load_rs (d := .int _ _) rfl rfl (lb rfl) Tryd.underlying3 ag3 ti3 (by decide) (svcR rfl hb) rfl (nle rfl) rfl)) <|
      ils_guard rfl rfl (.one rfl) rfl (by decide) (fun hb => (iop_cmpx rfl rfl (lb rfl) (svcI rfl hb) (sv (d := .int _ 999999999) rfl) rfl hx153)) <|
      ils_cons rfl (iop_andx rfl rfl (lb rfl) (svB rfl) rfl rfl hx154) <|
      ils_cons rfl (mvB rfl rfl rfl rfl) <|
      ils_guard rfl rfl (.one rfl) rfl (by decide) (fun hb => (iop_move rfl rfl (lb rfl) (sv (d := .str _) rfl))) <|
      ils_guard rfl rfl (.one rfl) rfl (by decide) (fun hb => (mvI rfl rfl rfl rfl)) <|
      ils_guard rfl rfl (.one rfl) rfl (by decide) (fun hb => (iop_str_at rfl rfl (lb rfl) Tryd.underlying9 (svc (d := .str _) rfl hb) (svcI rfl hb) (gd_t hx155 hb))) <|
      ils_guard rfl rfl (.one rfl) rfl (by decide) (fun hb => (iop_cmpx rfl rfl (lb rfl) (svcI rfl hb) (sv (d := .int _ 115) rfl) rfl hx156)) <|
      ils_guard rfl rfl (.one rfl) rfl (by decide) (fun hb => (iop_move rfl rfl (lb rfl) (svcB rfl hb))) <|
      ils_guard rfl rfl (.two rfl) rfl (by decide) (fun hb => (mvR rfl rfl rfl rfl)) <|
      ils_guard rfl rfl (.two rfl) rfl (by decide) (fun hb => (iop_nilCheck_ref rfl rfl (lb rfl) (svcR rfl hb))) <|
      ils_guard rfl rfl (.two rfl) rfl (by decide) (fun hb => (iop_load_rs (d := .int _ _) rfl rfl (lb rfl) Tryd.underlying3 ag3 ti3 (by decide) (svcR rfl hb) rfl (nle rfl) rfl)) <|
      ils_guard rfl rfl (.two rfl) rfl (by decide) (fun hb => (iop_cmpx rfl rfl (lb rfl) (svcI rfl hb) (sv (d := .int _ 2) rfl) rfl hx157)) <|
      ils_guard rfl rfl (.one rfl) rfl (by decide) (fun hb => (iop_or2x rfl rfl (lb rfl) hb (svcB rfl hb) rfl rfl hx158)) <|
      ils_cons rfl (iop_andx rfl rfl (lb rfl) (svB rfl) rfl rfl hx159) <|
      ils_cons rfl (asB rfl rfl rfl rfl) <|
      ils_end ?_)
     refine iwp_region (ils_cons rfl (mvR rfl rfl rfl rfl) <|
      ils_cons rfl (iop_nilCheck_ref rfl rfl (lb rfl) (svR rfl)) <|
      ils_cons rfl (iop_store (ds' := q3) rfl rfl ti3 (svR rfl) rfl (sv (d := .int _ 0) rfl) rfl rfl rfl (nle rfl) rfl) <|
      ils_nil ?_)
     refine blockQ_n ?_
     refine blockQ_n ?_
     refine thenQ_n ?_
     obtain ⟨x160, hx160, h⟩ := bnd_e h
     refine iwp_region (ils_cons rfl (iop_intx rfl rfl (lb rfl) (svI rfl) (sv (d := .int _ 1) rfl) rfl hx160) <|
      ils_cons rfl (mvI rfl rfl rfl rfl) <|
      ils_nil ?_)
     refine thenQ_n ⟨(n0, x159, x160, 0, v72, v73, v74, v75, v76, v77), (fun i => i), ⟨(.sames rfl rfl), (.cons (.blk rfl rfl rfl) (.cons (.blk rfl rfl rfl) .nil)), nd_of [0, 1] rfl (by decide), fun _ _ => rfl⟩, ?_, ?_⟩
     exact h
     exact Nat.lt_succ_self _
    ·
     replace h := bif_f h hc150
     obtain ⟨x161, hx161, h⟩ := bnd_e h
     refine iwp_reg (ils_cons rfl (iop_cmpx rfl rfl (lb rfl) (svI rfl) (sv (d := .int _ 105) rfl) rfl hx161) <|
      ils_cons rfl (asB rfl rfl rfl rfl) <|
      ils_end ?_)
     refine iwp_cond (b := _) rfl (fun hc162 => ?_) (fun hc162 => ?_)
     ·
      replace h := bif_t h hc162
      refine iwp_reg (ils_cons rfl (mvR rfl rfl rfl rfl) <|
       ils_cons rfl (iop_nilCheck_ref rfl rfl (lb rfl) (svR rfl)) <|
       ils_cons rfl (faR 2 rfl rfl rfl Tryd.underlying24 rfl ti3 (lb rfl) rfl rfl) <|
       ils_cons rfl (iop_assign rfl rfl (lb rfl) (svR rfl)) <|
       ils_end ?_)
      refine iwp_ret ?_
      refine blockQ_r ?_
      refine thenQ_r ?_
      refine ⟨.inr rfl, 2, _, [.ref 0 2], (.cons (sv rfl) .nil), rfl, rfl, ⟨[(1, .str a1), (2, .ref 0 0), (4, .ref 1 0), (6, .bool v69), (7, .int .i64 v70), (10, .int .i64 (a1.length : Int)), (11, .int .i64 v70), (17, .ref 0 2)], [(0, .blk 24 (w12 a0.Kind v71 v72 v73 v74 v75 v76 v77)), (1, .blk 24 (w12 0 0 0 0 0 0 [] false))]⟩, (fun i => i), ⟨(.sames rfl rfl), (.cons (.blk rfl rfl rfl) (.cons (.blk rfl rfl rfl) .nil)), nd_of [0, 1] rfl (by decide), fun _ _ => rfl⟩, ?_⟩
      refine ils_cons rfl (iop_assign rfl rfl (lb rfl) (svR rfl)) <|
       ils_end ?_
      refine iwp_block ?_
      refine iwp_reg (ils_cons rfl (mvR rfl rfl rfl rfl) <|
       ils_cons rfl (iop_nen rfl rfl (lb rfl) Tryd.underlying78 (svR rfl) (sv (d := .nilp) rfl)) <|
       ils_cons rfl (asB rfl rfl rfl rfl) <|
       ils_end ?_)
      refine iwp_cond_t rfl rfl ?_
      obtain ⟨x163, hx163, h⟩ := bnd_e h
      obtain ⟨x164, hx164, h⟩ := bnd_e h
      obtain ⟨x165, hx165, h⟩ := bnd_e h
      obtain ⟨x166, hx166, h⟩ := bnd_e h
      obtain ⟨x167, hx167, h⟩ := bno_e h
      obtain ⟨x168, hx168, h⟩ := bnd_e h
      obtain ⟨x169, hx169, h⟩ := bnd_e h
      obtain ⟨x170, hx170, h⟩ := bnd_e h
      obtain ⟨x171, hx171, h⟩ := bnd_e h
      refine iwp_reg (ils_cons rfl (mvB rfl rfl rfl rfl) <|
       ils_cons rfl (mvB rfl rfl rfl rfl) <|
       ils_guard rfl rfl (.one rfl) rfl (by decide) (fun hb => (mvR rfl rfl rfl rfl)) <|
       ils_guard rfl rfl (.one rfl) rfl (by decide) (fun hb => (iop_nilCheck_ref rfl rfl (lb rfl) (svcR rfl hb))) <|
       ils_guard rfl rfl (.one rfl) rfl (by decide) (fun hb => (iop_load_rs (d := .int _ _) rfl rfl (lb rfl) Tryd.underlying3 ag3 ti3 (by decide) (svcR rfl hb) rfl (nle rfl) rfl)) <|
       ils_guard rfl rfl (.one rfl) rfl (by decide) (fun hb => (iop_cmpx rfl rfl (lb rfl) (svcI rfl hb) (sv (d := .int _ 0) rfl) rfl hx163)) <|
       ils_cons rfl (iop_andx rfl rfl (lb rfl) (svB rfl) rfl rfl hx164) <|
       ils_cons rfl (mvB rfl rfl rfl rfl) <|
       ils_guard rfl rfl (.one rfl) rfl (by decide) (fun hb => (mvR rfl rfl rfl rfl)) <|
       ils_guard rfl rfl (.one rfl) rfl (by decide) (fun hb => (iop_nilCheck_ref rfl rfl (lb rfl) (svcR rfl hb))) <|
       ils_guard rfl rfl (.one rfl) rfl (by decide) (fun hb => (iop_load_rs (d := .int _ _) rfl rfl (lb rfl) Tryd.underlying3 ag3 ti3 (by decide) (svcR rfl hb) rfl (nle rfl) rfl)) <|
       ils_guard rfl rfl (.one rfl) rfl (by decide) (fun hb => (iop_cmpx rfl rfl (lb rfl) (svcI rfl hb) (sv (d := .int _ 999999999) rfl) rfl hx165)) <|
       ils_cons rfl (iop_andx rfl rfl (lb rfl) (svB rfl) rfl rfl hx166) <|
       ils_cons rfl (mvB rfl rfl rfl rfl) <|
       ils_guard rfl rfl (.one rfl) rfl (by decide) (fun hb => (iop_move rfl rfl (lb rfl) (sv (d := .str _) rfl))) <|
       ils_guard rfl rfl (.one rfl) rfl (by decide) (fun hb => (mvI rfl rfl rfl rfl)) <|
       ils_guard rfl rfl (.one rfl) rfl (by decide) (fun hb => (iop_str_at rfl rfl (lb rfl) Tryd.underlying9 (svc (d := .str _) rfl hb) (svcI rfl hb) (gd_t hx167 hb))) <|
       ils_guard rfl rfl (.one rfl) rfl (by decide) (fun hb => (iop_cmpx rfl rfl (lb rfl) (svcI rfl hb) (sv (d := .int _ 115) rfl) rfl hx168)) <|
       ils_guard rfl rfl (.one rfl) rfl (by decide) (fun hb => (iop_move rfl rfl (lb rfl) (svcB rfl hb))) <|
       ils_guard rfl rfl (.two rfl) rfl (by decide) (fun hb => (mvR rfl rfl rfl rfl)) <|
       ils_guard rfl rfl (.two rfl) rfl (by decide) (fun hb => (iop_nilCheck_ref rfl rfl (lb rfl) (svcR rfl hb))) <|
       ils_guard rfl rfl (.two rfl) rfl (by decide) (fun hb => (iop_load_rs (d := .int _ _) rfl rfl (lb rfl) Tryd.underlying3 ag3 ti3 (by decide) (svcR rfl hb) rfl (nle rfl) rfl)) <|
       ils_guard rfl rfl (.two rfl) rfl (by decide) (fun hb => (iop_cmpx rfl rfl (lb rfl) (svcI rfl hb) (sv (d := .int _ 2) rfl) rfl hx169)) <|
       ils_guard rfl rfl (.one rfl) rfl (by decide) (fun hb => (iop_or2x rfl rfl (lb rfl) hb (svcB rfl hb) rfl rfl hx170)) <|
       ils_cons rfl (iop_andx rfl rfl (lb rfl) (svB rfl) rfl rfl hx171) <|
       ils_cons rfl (asB rfl rfl rfl rfl) <|
       ils_end ?_)
      refine iwp_region (ils_cons rfl (mvR rfl rfl rfl rfl) <|
       ils_cons rfl (iop_nilCheck_ref rfl rfl (lb rfl) (svR rfl)) <|
       ils_cons rfl (iop_store (ds' := q3) rfl rfl ti3 (svR rfl) rfl (sv (d := .int _ 0) rfl) rfl rfl rfl (nle rfl) rfl) <|
       ils_nil ?_)
      refine blockQ_n ?_
      refine blockQ_n ?_
      refine thenQ_n ?_
      obtain ⟨x172, hx172, h⟩ := bnd_e h
      refine iwp_region (ils_cons rfl (iop_intx rfl rfl (lb rfl) (svI rfl) (sv (d := .int _ 1) rfl) rfl hx172) <|
       ils_cons rfl (mvI rfl rfl rfl rfl) <|
       ils_nil ?_)
      refine thenQ_n ⟨(n0, x171, x172, v71, 0, v73, v74, v75, v76, v77), (fun i => i), ⟨(.sames rfl rfl), (.cons (.blk rfl rfl rfl) (.cons (.blk rfl rfl rfl) .nil)), nd_of [0, 1] rfl (by decide), fun _ _ => rfl⟩, ?_, ?_⟩
      exact h
      exact Nat.lt_succ_self _
     ·
      replace h := bif_f h hc162
      obtain ⟨x173, hx173, h⟩ := bnd_e h
      refine iwp_reg (ils_cons rfl (iop_cmpx rfl rfl (lb rfl) (svI rfl) (sv (d := .int _ 110) rfl) rfl hx173) <|
       ils_cons rfl (asB rfl rfl rfl rfl) <|
       ils_end ?_)
      refine iwp_cond (b := _) rfl (fun hc174 => ?_) (fun hc174 => ?_)
      ·
       replace h := bif_t h hc174
       refine iwp_reg (ils_cons rfl (mvR rfl rfl rfl rfl) <|
        ils_cons rfl (iop_nilCheck_ref rfl rfl (lb rfl) (svR rfl)) <|
        ils_cons rfl (faR 3 rfl rfl rfl Tryd.underlying24 rfl ti3 (lb rfl) rfl rfl) <|
        ils_cons rfl (iop_assign rfl rfl (lb rfl) (svR rfl)) <|
        ils_end ?_)
       refine iwp_ret ?_
       refine blockQ_r ?_
       refine thenQ_r ?_
       refine ⟨.inr rfl, 2, _, [.ref 0 3], (.cons (sv rfl) .nil), rfl, rfl, ⟨[(1, .str a1), (2, .ref 0 0), (4, .ref 1 0), (6, .bool v69), (7, .int .i64 v70), (10, .int .i64 (a1.length : Int)), (11, .int .i64 v70), (17, .ref 0 3)], [(0, .blk 24 (w12 a0.Kind v71 v72 v73 v74 v75 v76 v77)), (1, .blk 24 (w12 0 0 0 0 0 0 [] false))]⟩, (fun i => i), ⟨(.sames rfl rfl), (.cons (.blk rfl rfl rfl) (.cons (.blk rfl rfl rfl) .nil)), nd_of [0, 1] rfl (by decide), fun _ _ => rfl⟩, ?_⟩
       refine ils_cons rfl (iop_assign rfl rfl (lb rfl) (svR rfl)) <|
        ils_end ?_
       refine iwp_block ?_
       refine iwp_reg (ils_cons rfl (mvR rfl rfl rfl rfl) <|
        ils_cons rfl (iop_nen rfl rfl (lb rfl) Tryd.underlying78 (svR rfl) (sv (d := .nilp) rfl)) <|
        ils_cons rfl (asB rfl rfl rfl rfl) <|
        ils_end ?_)
       refine iwp_cond_t rfl rfl ?_
       obtain ⟨x175, hx175, h⟩ := bnd_e h
       obtain ⟨x176, hx176, h⟩ := bnd_e h
       obtain ⟨x177, hx177, h⟩ := bnd_e h
       obtain ⟨x178, hx178, h⟩ := bnd_e h
       obtain ⟨x179, hx179, h⟩ := bno_e h
       obtain ⟨x180, hx180, h⟩ := bnd_e h
       obtain ⟨x181, hx181, h⟩ := bnd_e h
       obtain ⟨x182, hx182, h⟩ := bnd_e h
       obtain ⟨x183, hx183, h⟩ := bnd_e h
       refine iwp_reg (ils_cons rfl (mvB rfl rfl rfl rfl) <|
        ils_cons rfl (mvB rfl rfl rfl rfl) <|
        ils_guard rfl rfl (.one rfl) rfl (by decide) (fun hb => (mvR rfl rfl rfl rfl)) <|
        ils_guard rfl rfl (.one rfl) rfl (by decide) (fun hb => (iop_nilCheck_ref rfl rfl (lb rfl) (svcR rfl hb))) <|
        ils_guard rfl rfl (.one rfl) rfl (by decide) (fun hb => (iop_load_rs (d := .int _ _) rfl rfl (lb rfl) Tryd.underlying3 ag3 ti3 (by decide) (svcR rfl hb) rfl (nle rfl) rfl)) <|
        ils_guard rfl rfl (.one rfl) rfl (by decide) (fun hb => (iop_cmpx rfl rfl (lb rfl) (svcI rfl hb) (sv (d := .int _ 0) rfl) rfl hx175)) <|
        ils_cons rfl (iop_andx rfl rfl (lb rfl) (svB rfl) rfl rfl hx176) <|
        ils_cons rfl (mvB rfl rfl rfl rfl) <|
        ils_guard rfl rfl (.one rfl) rfl (by decide) (fun hb => (mvR rfl rfl rfl rfl)) <|
        ils_guard rfl rfl (.one rfl) rfl (by decide) (fun hb => (iop_nilCheck_ref rfl rfl (lb rfl) (svcR rfl hb))) <|
        ils_guard rfl rfl (.one rfl) rfl (by decide) (fun hb => (iop_load_rs (d := .int _ _) rfl rfl (lb rfl) Tryd.underlying3 ag3 ti3 (by decide) (svcR rfl hb) rfl (nle rfl) rfl)) <|
        ils_guard rfl rfl (.one rfl) rfl (by decide) (fun hb => (iop_cmpx rfl rfl (lb rfl) (svcI rfl hb) (sv (d := .int _ 999999999) rfl) rfl hx177)) <|
        ils_cons rfl (iop_andx rfl rfl (lb rfl) (svB rfl) rfl rfl hx178) <|
        ils_cons rfl (mvB rfl rfl rfl rfl) <|
        ils_guard rfl rfl (.one rfl) rfl (by decide) (fun hb => (iop_move rfl rfl (lb rfl) (sv (d := .str _) rfl))) <|
        ils_guard rfl rfl (.one rfl) rfl (by decide) (fun hb => (mvI rfl rfl rfl rfl)) <|
        ils_guard rfl rfl (.one rfl) rfl (by decide) (fun hb => (iop_str_at rfl rfl (lb rfl) Tryd.underlying9 (svc (d := .str _) rfl hb) (svcI rfl hb) (gd_t hx179 hb))) <|
        ils_guard rfl rfl (.one rfl) rfl (by decide) (fun hb => (iop_cmpx rfl rfl (lb rfl) (svcI rfl hb) (sv (d := .int _ 115) rfl) rfl hx180)) <|
        ils_guard rfl rfl (.one rfl) rfl (by decide) (fun hb => (iop_move rfl rfl (lb rfl) (svcB rfl hb))) <|
        ils_guard rfl rfl (.two rfl) rfl (by decide) (fun hb => (mvR rfl rfl rfl rfl)) <|
        ils_guard rfl rfl (.two rfl) rfl (by decide) (fun hb => (iop_nilCheck_ref rfl rfl (lb rfl) (svcR rfl hb))) <|
        ils_guard rfl rfl (.two rfl) rfl (by decide) (fun hb => (iop_load_rs (d := .int _ _) rfl rfl (lb rfl) Tryd.underlying3 ag3 ti3 (by decide) (svcR rfl hb) rfl (nle rfl) rfl)) <|
        ils_guard rfl rfl (.two rfl) rfl (by decide) (fun hb => (iop_cmpx rfl rfl (lb rfl) (svcI rfl hb) (sv (d := .int _ 2) rfl) rfl hx181)) <|
        ils_guard rfl rfl (.one rfl) rfl (by decide) (fun hb => (iop_or2x rfl rfl (lb rfl) hb (svcB rfl hb) rfl rfl hx182)) <|
        ils_cons rfl (iop_andx rfl rfl (lb rfl) (svB rfl) rfl rfl hx183) <|
        ils_cons rfl (asB rfl rfl rfl rfl) <|
        ils_end ?_)
       refine iwp_region (ils_cons rfl (mvR rfl rfl rfl rfl) <|
        ils_cons rfl (iop_nilCheck_ref rfl rfl (lb rfl) (svR rfl)) <|
        ils_cons rfl (iop_store (ds' := q3) rfl rfl ti3 (svR rfl) rfl (sv (d := .int _ 0) rfl) rfl rfl rfl (nle rfl) rfl) <|
        ils_nil ?_)
       refine blockQ_n ?_
       refine blockQ_n ?_
       refine thenQ_n ?_
       obtain ⟨x184, hx184, h⟩ := bnd_e h
       refine iwp_region (ils_cons rfl (iop_intx rfl rfl (lb rfl) (svI rfl) (sv (d := .int _ 1) rfl) rfl hx184) <|
        ils_cons rfl (mvI rfl rfl rfl rfl) <|
        ils_nil ?_)
       refine thenQ_n ⟨(n0, x183, x184, v71, v72, 0, v74, v75, v76, v77), (fun i => i), ⟨(.sames rfl rfl), (.cons (.blk rfl rfl rfl) (.cons (.blk rfl rfl rfl) .nil)), nd_of [0, 1] rfl (by decide), fun _ _ => rfl⟩, ?_, ?_⟩
       exact h
       exact Nat.lt_succ_self _
      ·
       replace h := bif_f h hc174
       obtain ⟨x185, hx185, h⟩ := bnd_e h
       refine iwp_reg (ils_cons rfl (iop_cmpx rfl rfl (lb rfl) (svI rfl) (sv (d := .int _ 109) rfl) rfl hx185) <|
        ils_cons rfl (asB rfl rfl rfl rfl) <|
        ils_end ?_)
       refine iwp_cond (b := _) rfl (fun hc186 => ?_) (fun hc186 => ?_)
       ·
        replace h := bif_t h hc186
        refine iwp_reg (ils_cons rfl (mvR rfl rfl rfl rfl) <|
         ils_cons rfl (iop_nilCheck_ref rfl rfl (lb rfl) (svR rfl)) <|
         ils_cons rfl (faR 4 rfl rfl rfl Tryd.underlying24 rfl ti3 (lb rfl) rfl rfl) <|
         ils_cons rfl (iop_assign rfl rfl (lb rfl) (svR rfl)) <|
         ils_end ?_)
        refine iwp_ret ?_
        refine blockQ_r ?_
        refine thenQ_r ?_
        refine ⟨.inr rfl, 2, _, [.ref 0 4], (.cons (sv rfl) .nil), rfl, rfl, ⟨[(1, .str a1), (2, .ref 0 0), (4, .ref 1 0), (6, .bool v69), (7, .int .i64 v70), (10, .int .i64 (a1.length : Int)), (11, .int .i64 v70), (17, .ref 0 4)], [(0, .blk 24 (w12 a0.Kind v71 v72 v73 v74 v75 v76 v77)), (1, .blk 24 (w12 0 0 0 0 0 0 [] false))]⟩, (fun i => i), ⟨(.sames rfl rfl), (.cons (.blk rfl rfl rfl) (.cons (.blk rfl rfl rfl) .nil)), nd_of [0, 1] rfl (by decide), fun _ _ => rfl⟩, ?_⟩
        refine ils_cons rfl (iop_assign rfl rfl (lb rfl) (svR rfl)) <|
         ils_end ?_
        refine iwp_block ?_
        refine iwp_reg (ils_cons rfl (mvR rfl rfl rfl rfl) <|
         ils_cons rfl (iop_nen rfl rfl (lb rfl) Tryd.underlying78 (svR rfl) (sv (d := .nilp) rfl)) <|
         ils_cons rfl (asB rfl rfl rfl rfl) <|
         ils_end ?_)
        refine iwp_cond_t rfl rfl ?_
        obtain ⟨x187, hx187, h⟩ := bnd_e h
        obtain ⟨x188, hx188, h⟩ := bnd_e h
        obtain ⟨x189, hx189, h⟩ := bnd_e h
        obtain ⟨x190, hx190, h⟩ := bnd_e h
        obtain ⟨x191, hx191, h⟩ := bno_e h
        obtain ⟨x192, hx192, h⟩ := bnd_e h
        obtain ⟨x193, hx193, h⟩ := bnd_e h
        obtain ⟨x194, hx194, h⟩ := bnd_e h
        obtain ⟨x195, hx195, h⟩ := bnd_e h
        refine iwp_reg (ils_cons rfl (mvB rfl rfl rfl rfl) <|
         ils_cons rfl (mvB rfl rfl rfl rfl) <|
         ils_guard rfl rfl (.one rfl) rfl (by decide) (fun hb => (mvR rfl rfl rfl rfl)) <|
         ils_guard rfl rfl (.one rfl) rfl (by decide) (fun hb => (iop_nilCheck_ref rfl rfl (lb rfl) (svcR rfl hb))) <|
         ils_guard rfl rfl (.one rfl) rfl (by decide) (fun hb => (iop_load_rs (d := .int _ _) rfl rfl (lb rfl) Tryd.underlying3 ag3 ti3 (by decide) (svcR rfl hb) rfl (nle rfl) rfl)) <|
         ils_guard rfl rfl (.one rfl) rfl (by decide) (fun hb => (iop_cmpx rfl rfl (lb rfl) (svcI rfl hb) (sv (d := .int _ 0) rfl) rfl hx187)) <|
         ils_cons rfl (iop_andx rfl rfl (lb rfl) (svB rfl) rfl rfl hx188) <|
         ils_cons rfl (mvB rfl rfl rfl rfl) <|
         ils_guard rfl rfl (.one rfl) rfl (by decide) (fun hb => (mvR rfl rfl rfl rfl)) <|
         ils_guard rfl rfl (.one rfl) rfl (by decide) (fun hb => (iop_nilCheck_ref rfl rfl (lb rfl) (svcR rfl hb))) <|
         ils_guard rfl rfl (.one rfl) rfl (by decide) (fun hb => (iop_load_rs (d := .int _ _) rfl rfl (lb rfl) Tryd.underlying3 ag3 ti3 (by decide) (svcR rfl hb) rfl (nle rfl) rfl)) <|
         ils_guard rfl rfl (.one rfl) rfl (by decide) (fun hb => (iop_cmpx rfl rfl (lb rfl) (svcI rfl hb) (sv (d := .int _ 999999999) rfl) rfl hx189)) <|
         ils_cons rfl (iop_andx rfl rfl (lb rfl) (svB rfl) rfl rfl hx190) <|
         ils_cons rfl (mvB rfl rfl rfl rfl) <|
         ils_guard rfl rfl (.one rfl) rfl (by decide) (fun hb => (iop_move rfl rfl (lb rfl) (sv (d := .str _) rfl))) <|
         ils_guard rfl rfl (.one rfl) rfl (by decide) (fun hb => (mvI rfl rfl rfl rfl)) <|
         ils_guard rfl rfl (.one rfl) rfl (by decide) (fun hb => (iop_str_at rfl rfl (lb rfl) Tryd.underlying9 (svc (d := .str _) rfl hb) (svcI rfl hb) (gd_t hx191 hb))) <|
         ils_guard rfl rfl (.one rfl) rfl (by decide) (fun hb => (iop_cmpx rfl rfl (lb rfl) (svcI rfl hb) (sv (d := .int _ 115) rfl) rfl hx192)) <|
         ils_guard rfl rfl (.one rfl) rfl (by decide) (fun hb => (iop_move rfl rfl (lb rfl) (svcB rfl hb))) <|
         ils_guard rfl rfl (.two rfl) rfl (by decide) (fun hb => (mvR rfl rfl rfl rfl)) <|
         ils_guard rfl rfl (.two rfl) rfl (by decide) (fun hb => (iop_nilCheck_ref rfl rfl (lb rfl) (svcR rfl hb))) <|
         ils_guard rfl rfl (.two rfl) rfl (by decide) (fun hb => (iop_load_rs (d := .int _ _) rfl rfl (lb rfl) Tryd.underlying3 ag3 ti3 (by decide) (svcR rfl hb) rfl (nle rfl) rfl)) <|
         ils_guard rfl rfl (.two rfl) rfl (by decide) (fun hb => (iop_cmpx rfl rfl (lb rfl) (svcI rfl hb) (sv (d := .int _ 2) rfl) rfl hx193)) <|
         ils_guard rfl rfl (.one rfl) rfl (by decide) (fun hb => (iop_or2x rfl rfl (lb rfl) hb (svcB rfl hb) rfl rfl hx194)) <|
         ils_cons rfl (iop_andx rfl rfl (lb rfl) (svB rfl) rfl rfl hx195) <|
         ils_cons rfl (asB rfl rfl rfl rfl) <|
         ils_end ?_)
        refine iwp_region (ils_cons rfl (mvR rfl rfl rfl rfl) <|
         ils_cons rfl (iop_nilCheck_ref rfl rfl (lb rfl) (svR rfl)) <|
         ils_cons rfl (iop_store (ds' := q3) rfl rfl ti3 (svR rfl) rfl (sv (d := .int _ 0) rfl) rfl rfl rfl (nle rfl) rfl) <|
         ils_nil ?_)
        refine blockQ_n ?_
        refine blockQ_n ?_
        refine thenQ_n ?_
        obtain ⟨x196, hx196, h⟩ := bnd_e h
        refine iwp_region (ils_cons rfl (iop_intx rfl rfl (lb rfl) (svI rfl) (sv (d := .int _ 1) rfl) rfl hx196) <|
         ils_cons rfl (mvI rfl rfl rfl rfl) <|
         ils_nil ?_)
        refine thenQ_n ⟨(n0, x195, x196, v71, v72, v73, 0, v75, v76, v77), (fun i => i), ⟨(.sames rfl rfl), (.cons (.blk rfl rfl rfl) (.cons (.blk rfl rfl rfl) .nil)), nd_of [0, 1] rfl (by decide), fun _ _ => rfl⟩, ?_, ?_⟩
        exact h
        exact Nat.lt_succ_self _
       ·
        replace h := bif_f h hc186
        obtain ⟨x197, hx197, h⟩ := bnd_e h
        refine iwp_reg (ils_cons rfl (iop_cmpx rfl rfl (lb rfl) (svI rfl) (sv (d := .int _ 112) rfl) rfl hx197) <|
         ils_cons rfl (asB rfl rfl rfl rfl) <|
         ils_end ?_)
        refine iwp_cond (b := _) rfl (fun hc198 => ?_) (fun hc198 => ?_)
        ·
         replace h := bif_t h hc198
         refine iwp_reg (ils_cons rfl (mvR rfl rfl rfl rfl) <|
          ils_cons rfl (iop_nilCheck_ref rfl rfl (lb rfl) (svR rfl)) <|
          ils_cons rfl (faR 5 rfl rfl rfl Tryd.underlying24 rfl ti3 (lb rfl) rfl rfl) <|
          ils_cons rfl (iop_assign rfl rfl (lb rfl) (svR rfl)) <|
          ils_end ?_)
         refine iwp_ret ?_
         refine blockQ_r ?_
         refine thenQ_r ?_
         refine ⟨.inr rfl, 2, _, [.ref 0 5], (.cons (sv rfl) .nil), rfl, rfl, ⟨[(1, .str a1), (2, .ref 0 0), (4, .ref 1 0), (6, .bool v69), (7, .int .i64 v70), (10, .int .i64 (a1.length : Int)), (11, .int .i64 v70), (17, .ref 0 5)], [(0, .blk 24 (w12 a0.Kind v71 v72 v73 v74 v75 v76 v77)), (1, .blk 24 (w12 0 0 0 0 0 0 [] false))]⟩, (fun i => i), ⟨(.sames rfl rfl), (.cons (.blk rfl rfl rfl) (.cons (.blk rfl rfl rfl) .nil)), nd_of [0, 1] rfl (by decide), fun _ _ => rfl⟩, ?_⟩
         refine ils_cons rfl (iop_assign rfl rfl (lb rfl) (svR rfl)) <|
          ils_end ?_
         refine iwp_block ?_
         refine iwp_reg (ils_cons rfl (mvR rfl rfl rfl rfl) <|
          ils_cons rfl (iop_nen rfl rfl (lb rfl) Tryd.underlying78 (svR rfl) (sv (d := .nilp) rfl)) <|
          ils_cons rfl (asB rfl rfl rfl rfl) <|
          ils_end ?_)
         refine iwp_cond_t rfl rfl ?_
         obtain ⟨x199, hx199, h⟩ := bnd_e h
         obtain ⟨x200, hx200, h⟩ := bnd_e h
         obtain ⟨x201, hx201, h⟩ := bnd_e h
         obtain ⟨x202, hx202, h⟩ := bnd_e h
         obtain ⟨x203, hx203, h⟩ := bno_e h
         obtain ⟨x204, hx204, h⟩ := bnd_e h
         obtain ⟨x205, hx205, h⟩ := bnd_e h
         obtain ⟨x206, hx206, h⟩ := bnd_e h
         obtain ⟨x207, hx207, h⟩ := bnd_e h
         refine iwp_reg (ils_cons rfl (mvB rfl rfl rfl rfl) <|
          ils_cons rfl (mvB rfl rfl rfl rfl) <|
          ils_guard rfl rfl (.one rfl) rfl (by decide) (fun hb => (mvR rfl rfl rfl rfl)) <|
          ils_guard rfl rfl (.one rfl) rfl (by decide) (fun hb => (iop_nilCheck_ref rfl rfl (lb rfl) (svcR rfl hb))) <|
          ils_guard rfl rfl (.one rfl) rfl (by decide) (fun hb => (iop_load_rs (d := .int _ _) rfl rfl (lb rfl) Tryd.underlying3 ag3 ti3 (by decide) (svcR rfl hb) rfl (nle rfl) rfl)) <|
          ils_guard rfl rfl (.one rfl) rfl (by decide) (fun hb => (iop_cmpx rfl rfl (lb rfl) (svcI rfl hb) (sv (d := .int _ 0) rfl) rfl hx199)) <|
          ils_cons rfl (iop_andx rfl rfl (lb rfl) (svB rfl) rfl rfl hx200) <|
          ils_cons rfl (mvB rfl rfl rfl rfl) <|
          ils_guard rfl rfl (.one rfl) rfl (by decide) (fun hb => (mvR rfl rfl rfl rfl)) <|
          ils_guard rfl rfl (.one rfl) rfl (by decide) (fun hb => (iop_nilCheck_ref rfl rfl (lb rfl) (svcR rfl hb))) <|
          ils_guard rfl rfl (.one rfl) rfl (by decide) (fun hb => (iop_load_rs (d := .int _ _) rfl rfl (lb rfl) Tryd.underlying3 ag3 ti3 (by decide) (svcR rfl hb) rfl (nle rfl) rfl)) <|
          ils_guard rfl rfl (.one rfl) rfl (by decide) (fun hb => (iop_cmpx rfl rfl (lb rfl) (svcI rfl hb) (sv (d := .int _ 999999999) rfl) rfl hx201)) <|
          ils_cons rfl (iop_andx rfl rfl (lb rfl) (svB rfl) rfl rfl hx202) <|
          ils_cons rfl (mvB rfl rfl rfl rfl) <|
          ils_guard rfl rfl (.one rfl) rfl (by decide) (fun hb => (iop_move rfl rfl (lb rfl) (sv (d := .str _) rfl))) <|
          ils_guard rfl rfl (.one rfl) rfl (by decide) (fun hb => (mvI rfl rfl rfl rfl)) <|
          ils_guard rfl rfl (.one rfl) rfl (by decide) (fun hb => (iop_str_at rfl rfl (lb rfl) Tryd.underlying9 (svc (d := .str _) rfl hb) (svcI rfl hb) (gd_t hx203 hb))) <|
          ils_guard rfl rfl (.one rfl) rfl (by decide) (fun hb => (iop_cmpx rfl rfl (lb rfl) (svcI rfl hb) (sv (d := .int _ 115) rfl) rfl hx204)) <|
          ils_guard rfl rfl (.one rfl) rfl (by decide) (fun hb => (iop_move rfl rfl (lb rfl) (svcB rfl hb))) <|
          ils_guard rfl rfl (.two rfl) rfl (by decide) (fun hb => (mvR rfl rfl rfl rfl)) <|
          ils_guard rfl rfl (.two rfl) rfl (by decide) (fun hb => (iop_nilCheck_ref rfl rfl (lb rfl) (svcR rfl hb))) <|
          ils_guard rfl rfl (.two rfl) rfl (by decide) (fun hb => (iop_load_rs (d := .int _ _) rfl rfl (lb rfl) Tryd.underlying3 ag3 ti3 (by decide) (svcR rfl hb) rfl (nle rfl) rfl)) <|
          ils_guard rfl rfl (.two rfl) rfl (by decide) (fun hb => (iop_cmpx rfl rfl (lb rfl) (svcI rfl hb) (sv (d := .int _ 2) rfl) rfl hx205)) <|
          ils_guard rfl rfl (.one rfl) rfl (by decide) (fun hb => (iop_or2x rfl rfl (lb rfl) hb (svcB rfl hb) rfl rfl hx206)) <|
          ils_cons rfl (iop_andx rfl rfl (lb rfl) (svB rfl) rfl rfl hx207) <|
          ils_cons rfl (asB rfl rfl rfl rfl) <|
          ils_end ?_)
         refine iwp_region (ils_cons rfl (mvR rfl rfl rfl rfl) <|
          ils_cons rfl (iop_nilCheck_ref rfl rfl (lb rfl) (svR rfl)) <|
          ils_cons rfl (iop_store (ds' := q3) rfl rfl ti3 (svR rfl) rfl (sv (d := .int _ 0) rfl) rfl rfl rfl (nle rfl) rfl) <|
          ils_nil ?_)
         refine blockQ_n ?_
         refine blockQ_n ?_
         refine thenQ_n ?_
         obtain ⟨x208, hx208, h⟩ := bnd_e h
         refine iwp_region (ils_cons rfl (iop_intx rfl rfl (lb rfl) (svI rfl) (sv (d := .int _ 1) rfl) rfl hx208) <|
          ils_cons rfl (mvI rfl rfl rfl rfl) <|
          ils_nil ?_)
         refine thenQ_n ⟨(n0, x207, x208, v71, v72, v73, v74, 0, v76, v77), (fun i => i), ⟨(.sames rfl rfl), (.cons (.blk rfl rfl rfl) (.cons (.blk rfl rfl rfl) .nil)), nd_of [0, 1] rfl (by decide), fun _ _ => rfl⟩, ?_, ?_⟩
         exact h
         exact Nat.lt_succ_self _
        ·
         replace h := bif_f h hc198
         refine iwp_skip ?_
         refine blockQ_n ?_
         refine thenQ_n ?_
         refine iwp_reg (ils_cons rfl (iop_assign rfl rfl (lb rfl) (sv (d := .nilp) rfl)) <|
          ils_end ?_)
         refine iwp_ret ?_
         refine ⟨.inr rfl, 2, _, [.nilp], (.cons (sv rfl) .nil), rfl, rfl, ⟨[(1, .str a1), (2, .ref 0 0), (4, .ref 1 0), (6, .bool v69), (7, .int .i64 v70), (10, .int .i64 (a1.length : Int)), (11, .int .i64 v70), (17, .nilp)], [(0, .blk 24 (w12 a0.Kind v71 v72 v73 v74 v75 v76 v77)), (1, .blk 24 (w12 0 0 0 0 0 0 [] false))]⟩, (fun i => i), ⟨(.sames rfl rfl), (.cons (.blk rfl rfl rfl) (.cons (.blk rfl rfl rfl) .nil)), nd_of [0, 1] rfl (by decide), fun _ _ => rfl⟩, ?_⟩
         refine ils_cons rfl (iop_assign rfl rfl (lb rfl) (sv (d := .nilp) rfl)) <|
          ils_end ?_
         refine iwp_block ?_
         refine iwp_reg (ils_cons rfl (iop_move rfl rfl (lb rfl) (sv (d := .nilp) rfl)) <|
          ils_cons rfl (iop_nenn rfl rfl (lb rfl) Tryd.underlying78 (sv (d := .nilp) rfl) (sv (d := .nilp) rfl)) <|
          ils_cons rfl (asB rfl rfl rfl rfl) <|
          ils_end ?_)
         refine iwp_cond_f rfl rfl ?_
         obtain ⟨x209, hx209, h⟩ := bno_e h
         obtain ⟨x210, hx210, h⟩ := bnd_e h
         refine iwp_reg (ils_cons rfl (iop_move rfl rfl (lb rfl) (sv (d := .str _) rfl)) <|
          ils_cons rfl (mvI rfl rfl rfl rfl) <|
          ils_cons rfl (iop_str_at rfl rfl (lb rfl) Tryd.underlying9 (sv (d := .str _) rfl) (svI rfl) hx209) <|
          ils_cons rfl (iop_cmpx rfl rfl (lb rfl) (svI rfl) (sv (d := .int _ 116) rfl) rfl hx210) <|
          ils_cons rfl (asB rfl rfl rfl rfl) <|
          ils_end ?_)
         refine iwp_cond (b := _) rfl (fun hc211 => ?_) (fun hc211 => ?_)
         ·
          replace h := bif_t h hc211
          refine iwp_region (ils_cons rfl (faR 6 rfl rfl rfl Tryd.underlying24 rfl ti9 (lb rfl) rfl rfl) <|
           ils_cons rfl (iop_store (ds' := q3) rfl rfl ti9 (svR rfl) rfl (sv (d := .str []) rfl) rfl rfl rfl (nle rfl) rfl) <|
           ils_nil ?_)
          refine blockQ_n ?_
          refine blockQ_n ?_
          refine thenQ_n ?_
          obtain ⟨x212, hx212, h⟩ := bnd_e h
          refine iwp_region (ils_cons rfl (iop_intx rfl rfl (lb rfl) (svI rfl) (sv (d := .int _ 1) rfl) rfl hx212) <|
           ils_cons rfl (mvI rfl rfl rfl rfl) <|
           ils_nil ?_)
          refine thenQ_n ⟨(n0, v69, x212, v71, v72, v73, v74, v75, ([] : (List UInt8)), v77), (fun i => i), ⟨(.sames rfl rfl), (.cons (.blk rfl rfl rfl) (.cons (.blk rfl rfl rfl) .nil)), nd_of [0, 1] rfl (by decide), fun _ _ => rfl⟩, ?_, ?_⟩
          exact h
          exact Nat.lt_succ_self _
         ·
          replace h := bif_f h hc211
          refine iwp_region (ils_cons rfl (faR 7 rfl rfl rfl Tryd.underlying24 rfl ti4 (lb rfl) rfl rfl) <|
           ils_cons rfl (iop_store (ds' := q3) rfl rfl ti4 (svR rfl) rfl (sv (d := .bool false) rfl) rfl rfl rfl (nle rfl) rfl) <|
           ils_nil ?_)
          refine blockQ_n ?_
          refine blockQ_n ?_
          refine thenQ_n ?_
          obtain ⟨x213, hx213, h⟩ := bnd_e h
          refine iwp_region (ils_cons rfl (iop_intx rfl rfl (lb rfl) (svI rfl) (sv (d := .int _ 1) rfl) rfl hx213) <|
           ils_cons rfl (mvI rfl rfl rfl rfl) <|
           ils_nil ?_)
          refine thenQ_n ⟨(n0, v69, x213, v71, v72, v73, v74, v75, v76, false), (fun i => i), ⟨(.sames rfl rfl), (.cons (.blk rfl rfl rfl) (.cons (.blk rfl rfl rfl) .nil)), nd_of [0, 1] rfl (by decide), fun _ _ => rfl⟩, ?_, ?_⟩
          exact h
          exact Nat.lt_succ_self _
   ·
    replace h := bif_f h hc147
    refine iwp_exit ?_
    refine thenQ_e ?_
    refine thenQ_e ?_
    refine blockQ_e ?_
    refine thenQ_n ?_
    refine iwp_reg (ils_cons rfl (lra q3 la24 rfl rfl rfl rfl rfl (nle rfl) rfl) <|
     ils_cons rfl (mvB rfl rfl rfl rfl) <|
     ils_cons rfl (stA q3 q3 ti24 rfl rfl rfl rfl rfl rfl rfl rfl (nle rfl) rfl) <|
     ils_cons rfl (asB rfl rfl rfl rfl) <|
     ils_end ?_)
    refine iwp_ret ?_
    obtain rfl := Option.some.inj h
    refine ⟨.inr rfl, (.cons (rva la24 rfl rfl (nle rfl) rfl) (.cons (sv rfl) .nil))⟩

theorem p_strconv_Itoa (a0 : Int) (r : (List UInt8)) (h : strconv_Itoa a0 = some r) : PureAt Tryd.prog 33 [.int .i64 a0] (.str r) := p_itoa a0 r h

theorem p_console_hex (a0 : (List UInt8)) (r : (List UInt8)) (h : console_hex a0 = some r) : PureAt Tryd.prog 34 [.str a0] (.str r) := by
 refine pure_of_iwp (rs := [.str r]) Tryd.func34 rfl Tryd.ntmps34 (nle rfl) rfl fun O hO => ?_
 show IWP _ _ _ _ ⟨[(0, .str a0)], []⟩ _
 unfold console_hex at h
 refine iwp_reg (ils_cons rfl (iop_assign rfl rfl (lb rfl) (sv (d := .str []) rfl)) <|
  ils_end ?_)
 refine iwp_seq ?_
 obtain ⟨x1, hx1, h⟩ := bnd_e h
 refine iwp_reg (ils_cons rfl (iop_move rfl rfl (lb rfl) (sv (d := .str _) rfl)) <|
  ils_cons rfl (iop_strx rfl rfl (lb rfl) (sv (d := .str _) rfl) (sv (d := .str []) rfl) rfl hx1) <|
  ils_end ?_)
 refine iwp_cond (b := _) rfl (fun hc2 => ?_) (fun hc2 => ?_)
 ·
  replace h := bif_t h hc2
  refine iwp_reg (ils_cons rfl (iop_assign rfl rfl (lb rfl) (sv (d := .str [45]) rfl)) <|
   ils_end ?_)
  refine iwp_ret ?_
  refine thenQ_r ?_
  obtain rfl := Option.some.inj h
  refine ⟨.inr rfl, (.cons (sv rfl) .nil)⟩
 ·
  replace h := bif_f h hc2
  refine iwp_skip ?_
  refine thenQ_n ?_
  refine iwp_reg (ils_cons rfl (iop_assign rfl rfl (lb rfl) (sv (d := .nils) rfl)) <|
   ils_end ?_)
  refine iwp_seq ?_
  refine iwp_reg (ils_cons rfl (iop_move rfl rfl (lb rfl) (sv (d := .str _) rfl)) <|
   ils_cons rfl (iop_len_str rfl rfl (lb rfl) Tryd.underlying9 (sv (d := .str _) rfl) rfl) <|
   ils_cons rfl (iop_move rfl rfl (lb rfl) (sv (d := .int _ 0) rfl)) <|
   ils_end ?_)
  refine iwp_block ?_
  refine iwp_loopP (α := Nat × (List UInt8) × Int) (fun z => ⟨[(0, .str a0), (3, .gsl 21 eByte.sz (z.2.1.map eByte.d)), (8, .int .i64 (a0.length : Int)), (9, .int .i64 z.2.2)], [(21, .tail 5 eByte.sz z.2.1.length)]⟩) (fun z => console_hex_L0 a0 z.1 z.2.1 z.2.2 = some r) (fun z => z.1) (fuel, ([] : (List UInt8)), 0) (fun i => if i = 21 then 71 else i) ⟨(.s rfl rfl (.cons (.nils rfl) (.sames rfl rfl))), (.cons (.nils rfl) .nil), nd_of [71] rfl (by decide), (fun i hi => by first | rfl | (show (if _ then _ else _) = _; (repeat' split) <;> omega))⟩ ?_ ?_
  ·exact h
  ·
   rintro ⟨n0, v13, v14⟩ h
   cases n0 with
   | zero => exact absurd h (by unfold console_hex_L0; exact nofun)
   | succ n0 =>
    unfold console_hex_L0 at h
    obtain ⟨x25, hx25, h⟩ := bnd_e h
    refine iwp_reg (ils_cons rfl (iop_cmpx rfl rfl (lb rfl) (svI rfl) (svI rfl) rfl hx25) <|
     ils_end ?_)
    refine iwp_seq ?_
    refine iwp_cond (b := _) rfl (fun hc26 => ?_) (fun hc26 => ?_)
    ·
     replace h := bif_t h hc26
     refine iwp_skip ?_
     refine thenQ_n ?_
     refine iwp_seq ?_
     refine iwp_block ?_
     refine iwp_reg (ils_cons rfl (mvI rfl rfl rfl rfl) <|
      ils_cons rfl (asI rfl rfl rfl rfl) <|
      ils_end ?_)
     obtain ⟨x27, hx27, h⟩ := bno_e h
     obtain ⟨x28, hx28, h⟩ := bno_e h
     obtain ⟨x29, hx29, h⟩ := bno_e h
     obtain ⟨x30, hx30, h⟩ := bno_e h
     obtain ⟨x31, hx31, h⟩ := bnd_e h
     obtain ⟨x32, hx32, h⟩ := bno_e h
     obtain ⟨x33, hx33, h⟩ := bno_e h
     refine iwp_draw rfl [⟨[3], [], [(12, .gsl 21 eByte.sz (v13.map eByte.d))], []⟩,
      ⟨[0], [], [(13, .str a0)], []⟩,
      ⟨[4], [], [(14, .int .i64 v14)], []⟩,
      ⟨[13, 14], [], [(15, .int .u8 (x27.toNat : Int))], []⟩,
      ⟨[15], [], [(16, .int .u8 x28)], []⟩,
      ⟨[16], [], [(17, .int .u8 (x29.toNat : Int))], []⟩,
      ⟨[0], [], [(18, .str a0)], []⟩,
      ⟨[4], [], [(19, .int .i64 v14)], []⟩,
      ⟨[18, 19], [], [(20, .int .u8 (x30.toNat : Int))], []⟩,
      ⟨[20], [], [(21, .int .u8 x31)], []⟩,
      ⟨[21], [], [(22, .int .u8 (x32.toNat : Int))], []⟩,
      ⟨[17, 22], [22], [(23, .gsl 22 eByte.sz (([x29, x32] : (List UInt8)).map eByte.d))], [(22, .tail 5 eByte.sz ([x29, x32] : (List UInt8)).length)]⟩,
      ⟨[12, 23], [21, 23], [(24, .gsl 23 eByte.sz (x33.map eByte.d))], [(23, .tail 5 eByte.sz x33.length), (21, .none)]⟩,
      ⟨[24], [], [(3, .gsl 23 eByte.sz (x33.map eByte.d))], []⟩] rfl ?_ (by kernel_rfl) ?_
     ·refine .cons (lop rfl rfl fun S hA => (iop_move rfl rfl (lb rfl) (sv (d := .gsl _ _ _) (agr hA rfl rfl)))) ?_
      refine .cons (lop rfl rfl fun S hA => (iop_move rfl rfl (lb rfl) (sv (d := .str _) (agr hA rfl rfl)))) ?_
      refine .cons (lop rfl rfl fun S hA => (iop_move rfl rfl (lb rfl) (svaI hA rfl rfl))) ?_
      refine .cons (lop rfl rfl fun S hA => (iop_str_at rfl rfl (lb rfl) Tryd.underlying9 (sv (d := .str _) (agr hA rfl rfl)) (svaI hA rfl rfl) hx27)) ?_
      refine .cons (lop rfl rfl fun S hA => (iop_shrx rfl rfl (lb rfl) (svaI hA rfl rfl) (sv (d := .int _ 4) rfl) hx28)) ?_
      refine .cons (lop rfl rfl fun S hA => (iop_str_at rfl rfl (lb rfl) Tryd.underlying9 (sv (d := .str [48, 49, 50, 51, 52, 53, 54, 55, 56, 57, 97, 98, 99, 100, 101, 102]) rfl) (svaI hA rfl rfl) hx29)) ?_
      refine .cons (lop rfl rfl fun S hA => (iop_move rfl rfl (lb rfl) (sv (d := .str _) (agr hA rfl rfl)))) ?_
      refine .cons (lop rfl rfl fun S hA => (iop_move rfl rfl (lb rfl) (svaI hA rfl rfl))) ?_
      refine .cons (lop rfl rfl fun S hA => (iop_str_at rfl rfl (lb rfl) Tryd.underlying9 (sv (d := .str _) (agr hA rfl rfl)) (svaI hA rfl rfl) hx30)) ?_
      refine .cons (lop rfl rfl fun S hA => (iop_intx rfl rfl (lb rfl) (svaI hA rfl rfl) (sv (d := .int _ 15) rfl) rfl hx31)) ?_
      refine .cons (lop rfl rfl fun S hA => (iop_str_at rfl rfl (lb rfl) Tryd.underlying9 (sv (d := .str [48, 49, 50, 51, 52, 53, 54, 55, 56, 57, 97, 98, 99, 100, 101, 102]) rfl) (svaI hA rfl rfl) hx32)) ?_
      refine .cons (lop rfl rfl fun S hA => (iop_bsT eByte ([x29, x32] : (List UInt8)) 22 rfl rfl (lb rfl) Tryd.underlying87 ti5 (agi hA rfl rfl) (.cons (svaI hA rfl rfl) (.cons (svaI hA rfl rfl) .nil)) rfl rfl (by decide))) ?_
      refine .cons (lop rfl rfl fun S hA => (iop_appT eByte 23 rfl rfl (lb rfl) Tryd.underlying87 ti5 rfl (agr hA rfl rfl) (agi hA rfl rfl) (agi hA rfl rfl) (svg (agr hA rfl rfl)) hx33)) ?_
      refine .cons (lop rfl rfl fun S hA => (iop_assign rfl rfl (lb rfl) (sv (d := .gsl _ _ _) (agr hA rfl rfl)))) ?_
      exact .nil
     refine blockQ_n ?_
     refine thenQ_n ?_
     obtain ⟨x34, hx34, h⟩ := bnd_e h
     refine iwp_region (ils_cons rfl (iop_intx rfl rfl (lb rfl) (svI rfl) (sv (d := .int _ 1) rfl) rfl hx34) <|
      ils_cons rfl (mvI rfl rfl rfl rfl) <|
      ils_nil ?_)
     refine thenQ_n ⟨(n0, x33, x34), (fun i => if i = 21 then 23 else i), ⟨(.sames rfl rfl), (.cons (.tail rfl) .nil), nd_of [23] rfl (by decide), (fun i hi => by first | rfl | (show (if _ then _ else _) = _; (repeat' split) <;> omega))⟩, ?_, ?_⟩
     exact h
     exact Nat.lt_succ_self _
    ·
     replace h := bif_f h hc26
     refine iwp_exit ?_
     refine thenQ_e ?_
     refine thenQ_e ?_
     refine blockQ_e ?_
     refine thenQ_n ?_
     refine iwp_reg (ils_cons rfl (iop_move rfl rfl (lb rfl) (sv (d := .gsl _ _ _) rfl)) <|
      ils_cons rfl (iop_bytes_str (l := v13) rfl rfl (lb rfl) Tryd.underlying87 Tryd.underlying5 Tryd.underlying9 (svg rfl)) <|
      ils_cons rfl (iop_assign rfl rfl (lb rfl) (sv (d := .str _) rfl)) <|
      ils_end ?_)
     refine iwp_ret ?_
     obtain rfl := Option.some.inj h
     refine ⟨.inr rfl, (.cons (sv rfl) .nil)⟩

theorem p_console_mark (a0 : Bool) (r : (List UInt8)) (h : console_mark a0 = some r) : PureAt Tryd.prog 35 [.bool a0] (.str r) := by
 refine pure_of_iwp (rs := [.str r]) Tryd.func35 rfl Tryd.ntmps35 (nle rfl) rfl fun O hO => ?_
 show IWP _ _ _ _ ⟨[(0, .bool a0)], []⟩ _
 unfold console_mark at h
 refine iwp_reg (ils_cons rfl (iop_assign rfl rfl (lb rfl) (sv (d := .str []) rfl)) <|
  ils_end ?_)
 refine iwp_seq ?_
 refine iwp_reg (ils_cons rfl (mvB rfl rfl rfl rfl) <|
  ils_end ?_)
 refine iwp_cond (b := _) rfl (fun hc1 => ?_) (fun hc1 => ?_)
 ·
  replace h := bif_t h hc1
  refine iwp_reg (ils_cons rfl (iop_assign rfl rfl (lb rfl) (sv (d := .str [43]) rfl)) <|
   ils_end ?_)
  refine iwp_ret ?_
  refine thenQ_r ?_
  obtain rfl := Option.some.inj h
  refine ⟨.inr rfl, (.cons (sv rfl) .nil)⟩
 ·
  replace h := bif_f h hc1
  refine iwp_skip ?_
  refine thenQ_n ?_
  refine iwp_reg (ils_cons rfl (iop_assign rfl rfl (lb rfl) (sv (d := .str [45]) rfl)) <|
   ils_end ?_)
  refine iwp_ret ?_
  obtain rfl := Option.some.inj h
  refine ⟨.inr rfl, (.cons (sv rfl) .nil)⟩

theorem p_strings_Join (a0 : (List (List UInt8))) (a1 : (List UInt8)) (r : (List UInt8)) (h : strings_Join a0 a1 = some r) : PureAt Tryd.prog 36 [.slice false (a0.map eStr.d), .str a1] (.str r) := p_join a0 a1 r h

theorem p_console_Print (a0 : T_world_Step) (r : ((List UInt8) × Int)) (h : console_Print a0 = some r) : PureAt Tryd.prog 15 [.agg (v0 a0)] (retD [.str r.1, .int .i64 r.2]) := by
 refine pure_of_iwp (rs := [.str r.1, .int .i64 r.2]) Tryd.func15 rfl Tryd.ntmps15 (nle rfl) rfl fun O hO => ?_
 show IWP _ _ _ _ ⟨[(0, .agg (v0 a0))], []⟩ _
 unfold console_Print at h
 refine iwp_reg (ils_cons rfl (iop_box' (cs := q3) 0 rfl rfl (lb rfl) rfl (svA q3 rfl) rfl rfl) <|
  ils_cons rfl (iop_assign rfl rfl (lb rfl) (sv (d := .str []) rfl)) <|
  ils_cons rfl (iop_assign rfl rfl (lb rfl) (sv (d := .int _ 0) rfl)) <|
  ils_end ?_)
 obtain ⟨x1, hx1, h⟩ := bno_e h
 refine iwp_reg (ils_cons rfl (iop_call (r := .slice _ _) rfl rfl (lb rfl) cl25 .nil rfl (p_console_forms  _ hx1)) <|
  ils_cons rfl (iop_assign rfl rfl (lb rfl) (svL rfl)) <|
  ils_end ?_)
 refine iwp_seq ?_
 obtain ⟨x2, hx2, h⟩ := bnd_e h
 obtain ⟨x3, hx3, h⟩ := bnd_e h
 refine iwp_reg (ils_cons rfl (faR 0 rfl rfl rfl Tryd.underlying24 rfl ti5 (lb rfl) rfl rfl) <|
  ils_cons rfl (iop_load_rs (d := .int _ _) rfl rfl (lb rfl) Tryd.underlying5 ag5 ti5 (by decide) (svR rfl) rfl (nle rfl) rfl) <|
  ils_cons rfl (iop_int_conv rfl rfl (lb rfl) ⟨_, Tryd.underlying5⟩ Tryd.underlying3 (svI rfl) hx2) <|
  ils_cons rfl (mvL rfl rfl rfl rfl) <|
  ils_cons rfl (iop_lenT E_console_form (l := x1) rfl rfl (lb rfl) Tryd.underlying67 (svL rfl)) <|
  ils_cons rfl (iop_cmpx rfl rfl (lb rfl) (svI rfl) (svI rfl) rfl hx3) <|
  ils_end ?_)
 refine iwp_cond (b := _) rfl (fun hc4 => ?_) (fun hc4 => ?_)
 ·
  replace h := bif_t h hc4
  refine iwp_reg (ils_cons rfl (iop_assign rfl rfl (lb rfl) (sv (d := .str []) rfl)) <|
   ils_cons rfl (iop_assign rfl rfl (lb rfl) (sv (d := .int _ 12) rfl)) <|
   ils_end ?_)
  refine iwp_ret ?_
  refine thenQ_r ?_
  obtain rfl := Option.some.inj h
  refine ⟨.inr rfl, (.cons (sv rfl) (.cons (sv rfl) .nil))⟩
 ·
  replace h := bif_f h hc4
  refine iwp_skip ?_
  refine thenQ_n ?_
  obtain ⟨x5, hx5, h⟩ := bno_e h
  refine iwp_reg (ils_cons rfl (mvL rfl rfl rfl rfl) <|
   ils_cons rfl (faR 0 rfl rfl rfl Tryd.underlying24 rfl ti5 (lb rfl) rfl rfl) <|
   ils_cons rfl (iop_load_rs (d := .int _ _) rfl rfl (lb rfl) Tryd.underlying5 ag5 ti5 (by decide) (svR rfl) rfl (nle rfl) rfl) <|
   ils_cons rfl (iop_idxT E_console_form (cs := [.str _, .str _]) rfl rfl (lb rfl) Tryd.underlying67 ti66 (svL rfl) (svI rfl) hx5 rfl rfl) <|
   ils_cons rfl (iop_load_fa (cs := [.str _, .str _]) rfl rfl (lb rfl) Tryd.underlying66 ag66 ti66 (by decide) (sv (d := .fptr [.str _, .str _]) rfl) (nle rfl) rfl) <|
   ils_cons rfl (iop_allocS (cs := [.str _, .str _]) (cs' := [.str [], .str []]) 1 rfl rfl (lb rfl) rfl ti66 rfl rfl (.all _)) <|
   ils_cons rfl (iop_store (ds' := [.str _, .str _]) rfl rfl ti66 (svR rfl) rfl (sv (d := .agg [.str _, .str _]) rfl) rfl rfl rfl (nle rfl) rfl) <|
   ils_end ?_)
  obtain ⟨x6, hx6, h⟩ := bno_e h
  refine iwp_reg (ils_cons rfl (lra q3 la24 rfl rfl rfl rfl rfl (nle rfl) rfl) <|
   ils_cons rfl (faR 1 rfl rfl rfl Tryd.underlying66 rfl ti9 (lb rfl) rfl rfl) <|
   ils_cons rfl (iop_load_rs (d := .str _) rfl rfl (lb rfl) Tryd.underlying9 ag9 ti9 (by decide) (svR rfl) rfl (nle rfl) rfl) <|
   ils_cons rfl (iop_call (r := .tuple [.agg q3, .bool _]) rfl rfl (lb rfl) cl31 (.cons (svA q3 rfl) (.cons (sv (d := .str _) rfl) .nil)) rfl (p_console_bare _ _ _ hx6)) <|
   ils_cons rfl (iop_move rfl rfl (lb rfl) (sv (d := .tuple [.agg q3, .bool _]) rfl)) <|
   ils_cons rfl (iop_extract (d := .agg q3) rfl rfl (lb rfl) (sv (d := .tuple [.agg q3, .bool _]) rfl) rfl) <|
   ils_cons rfl (iop_extract (d := .bool _) rfl rfl (lb rfl) (sv (d := .tuple [.agg q3, .bool _]) rfl) rfl) <|
   ils_cons rfl (iop_allocS (cs := q3) (cs' := (w12 0 0 0 0 0 0 [] false)) 2 rfl rfl (lb rfl) rfl ti24 rfl rfl (.all _)) <|
   ils_cons rfl (stA q3 q3 ti24 rfl rfl rfl rfl rfl rfl rfl rfl (nle rfl) rfl) <|
   ils_cons rfl (asB rfl rfl rfl rfl) <|
   ils_end ?_)
  refine iwp_seq ?_
  refine iwp_block ?_
  refine iwp_join (α := Bool) (fun z => ⟨[(1, .ref 0 0), (5, .ref 1 0), (30, .bool z)], [(0, .blk 24 (v0 a0)), (1, .blk 66 [.str x5.name, .str x5.has])]⟩) (fun z => console_Print_J0 a0 x5 z = some r) ?_ ?_
  ·
   refine iwp_reg (ils_cons rfl (mvB rfl rfl rfl rfl) <|
    ils_cons rfl (iop_not rfl rfl (lb rfl) (svB rfl)) <|
    ils_cons rfl (asB rfl rfl rfl rfl) <|
    ils_end ?_)
   refine iwp_cond (b := _) rfl (fun hc127 => ?_) (fun hc127 => ?_)
   ·
    replace h := bif_t h hc127
    refine iwp_skip ?_
    refine thenQ_n ⟨(!x6.2), (fun i => i), ⟨(.sames rfl rfl), (.cons (.blk rfl rfl rfl) (.cons (.blk rfl rfl rfl) .nil)), nd_of [0, 1] rfl (by decide), fun _ _ => rfl⟩, ?_⟩
    exact h
   ·
    replace h := bif_f h hc127
    obtain ⟨x128, hx128, h⟩ := bnd_e h
    refine iwp_region (ils_cons rfl (lra q3 la24 rfl rfl rfl rfl rfl (nle rfl) rfl) <|
     ils_cons rfl (faR 0 rfl rfl rfl Tryd.underlying24 rfl ti5 (lb rfl) rfl rfl) <|
     ils_cons rfl (iop_load_rs (d := .int _ _) rfl rfl (lb rfl) Tryd.underlying5 ag5 ti5 (by decide) (svR rfl) rfl (nle rfl) rfl) <|
     ils_cons rfl (iop_build_struct (cs := q3) rfl rfl (lb rfl) Tryd.underlying24 ti24 pl24 rfl (.cons (svI rfl) .nil) rfl) <|
     ils_cons rfl (iop_nes rfl rfl (lb rfl) Tryd.underlying24 st24.1 st24.2 (svA q3 rfl) (svA q3 rfl) (congrArg some hx128)) <|
     ils_cons rfl (asB rfl rfl rfl rfl) <|
     ils_nil ?_)
    refine thenQ_n ⟨(!x128), (fun i => i), ⟨(.sames rfl rfl), (.cons (.blk rfl rfl rfl) (.cons (.blk rfl rfl rfl) .nil)), nd_of [0, 1] rfl (by decide), fun _ _ => rfl⟩, ?_⟩
    exact h
  ·
   rintro v9 h
   unfold console_Print_J0 at h
   refine iwp_cond (b := _) rfl (fun hc10 => ?_) (fun hc10 => ?_)
   ·
    replace h := bif_t h hc10
    refine iwp_reg (ils_cons rfl (iop_assign rfl rfl (lb rfl) (sv (d := .str []) rfl)) <|
     ils_cons rfl (iop_assign rfl rfl (lb rfl) (sv (d := .int _ 2) rfl)) <|
     ils_end ?_)
    refine iwp_ret ?_
    refine blockQ_r ?_
    refine thenQ_r ?_
    obtain rfl := Option.some.inj h
    refine ⟨.inr rfl, (.cons (sv rfl) (.cons (sv rfl) .nil))⟩
   ·
    replace h := bif_f h hc10
    obtain ⟨x11, hx11, h⟩ := bnd_e h
    refine iwp_reg (ils_cons rfl (faR 6 rfl rfl rfl Tryd.underlying24 rfl ti9 (lb rfl) rfl rfl) <|
     ils_cons rfl (iop_load_rs (d := .str _) rfl rfl (lb rfl) Tryd.underlying9 ag9 ti9 (by decide) (svR rfl) rfl (nle rfl) rfl) <|
     ils_cons rfl (iop_len_str rfl rfl (lb rfl) Tryd.underlying9 (sv (d := .str _) rfl) rfl) <|
     ils_cons rfl (iop_cmpx rfl rfl (lb rfl) (svI rfl) (sv (d := .int _ 300) rfl) rfl hx11) <|
     ils_cons rfl (asB rfl rfl rfl rfl) <|
     ils_end ?_)
    refine iwp_cond (b := _) rfl (fun hc12 => ?_) (fun hc12 => ?_)
    ·
     replace h := bif_t h hc12
     refine iwp_reg (ils_cons rfl (iop_assign rfl rfl (lb rfl) (sv (d := .str []) rfl)) <|
      ils_cons rfl (iop_assign rfl rfl (lb rfl) (sv (d := .int _ 5) rfl)) <|
      ils_end ?_)
     refine iwp_ret ?_
     refine blockQ_r ?_
     refine thenQ_r ?_
     obtain rfl := Option.some.inj h
     refine ⟨.inr rfl, (.cons (sv rfl) (.cons (sv rfl) .nil))⟩
    ·
     replace h := bif_f h hc12
     refine iwp_skip ?_
     refine blockQ_n ?_
     refine thenQ_n ?_
     refine iwp_reg (ils_cons rfl (faR 0 rfl rfl rfl Tryd.underlying66 rfl ti9 (lb rfl) rfl rfl) <|
      ils_cons rfl (iop_load_rs (d := .str _) rfl rfl (lb rfl) Tryd.underlying9 ag9 ti9 (by decide) (svR rfl) rfl (nle rfl) rfl) <|
      ils_cons rfl (iop_bsT eStr ([x5.name] : (List (List UInt8))) 2 rfl rfl (lb rfl) Tryd.underlying42 ti9 rfl (.cons (sv (d := .str _) rfl) .nil) rfl rfl (by decide)) <|
      ils_cons rfl (iop_assign rfl rfl (lb rfl) (sv (d := .gsl _ _ _) rfl)) <|
      ils_end ?_)
     refine iwp_seq ?_
     refine iwp_reg (ils_cons rfl (faR 1 rfl rfl rfl Tryd.underlying66 rfl ti9 (lb rfl) rfl rfl) <|
      ils_cons rfl (iop_load_rs (d := .str _) rfl rfl (lb rfl) Tryd.underlying9 ag9 ti9 (by decide) (svR rfl) rfl (nle rfl) rfl) <|
      ils_cons rfl (iop_len_str rfl rfl (lb rfl) Tryd.underlying9 (sv (d := .str _) rfl) rfl) <|
      ils_cons rfl (iop_move rfl rfl (lb rfl) (sv (d := .int _ 0) rfl)) <|
      ils_end ?_)
     refine iwp_block ?_
     refine iwp_loopP (α := Nat × (List (List UInt8)) × Int) (fun z => ⟨[(1, .ref 0 0), (5, .ref 1 0), (8, .gsl 2 eStr.sz (z.2.1.map eStr.d)), (48, .int .i64 (x5.has.length : Int)), (49, .int .i64 z.2.2)], [(0, .blk 24 (v0 a0)), (1, .blk 66 [.str x5.name, .str x5.has]), (2, .tail 9 eStr.sz z.2.1.length)]⟩) (fun z => console_Print_L1 a0 x5 z.1 z.2.1 z.2.2 = some r) (fun z => z.1) (fuel, ([x5.name] : (List (List UInt8))), 0) (fun i => i) ⟨(.sames rfl rfl), (.cons (.blk rfl rfl rfl) (.cons (.blk rfl rfl rfl) (.cons (.tail rfl) .nil))), nd_of [0, 1, 2] rfl (by decide), fun _ _ => rfl⟩ ?_ ?_
     ·exact h
     ·
      rintro ⟨n1, v50, v51⟩ h
      cases n1 with
      | zero => exact absurd h (by unfold console_Print_L1; exact nofun)
      | succ n1 =>
       unfold console_Print_L1 at h
       obtain ⟨x89, hx89, h⟩ := bnd_e h
       refine iwp_reg (ils_cons rfl (iop_cmpx rfl rfl (lb rfl) (svI rfl) (svI rfl) rfl hx89) <|
        ils_end ?_)
       refine iwp_seq ?_
       refine iwp_cond (b := _) rfl (fun hc90 => ?_) (fun hc90 => ?_)
       ·
        replace h := bif_t h hc90
        refine iwp_skip ?_
        refine thenQ_n ?_
        refine iwp_seq ?_
        refine iwp_block ?_
        refine iwp_reg (ils_cons rfl (mvI rfl rfl rfl rfl) <|
         ils_cons rfl (asI rfl rfl rfl rfl) <|
         ils_end ?_)
        obtain ⟨x91, hx91, h⟩ := bno_e h
        refine iwp_reg (ils_cons rfl (faR 1 rfl rfl rfl Tryd.underlying66 rfl ti9 (lb rfl) rfl rfl) <|
         ils_cons rfl (iop_load_rs (d := .str _) rfl rfl (lb rfl) Tryd.underlying9 ag9 ti9 (by decide) (svR rfl) rfl (nle rfl) rfl) <|
         ils_cons rfl (mvI rfl rfl rfl rfl) <|
         ils_cons rfl (iop_str_at rfl rfl (lb rfl) Tryd.underlying9 (sv (d := .str _) rfl) (svI rfl) hx91) <|
         ?_)
        refine ils_weak (S' := ⟨[(1, .ref 0 0), (5, .ref 1 0), (8, .gsl 2 eStr.sz (v50.map eStr.d)), (48, .int .i64 (x5.has.length : Int)), (49, .int .i64 v51), (9, .int .i64 v51), (55, .int .u8 (x91.toNat : Int))], [(0, .blk 24 (v0 a0)), (1, .blk 66 [.str x5.name, .str x5.has]), (2, .tail 9 eStr.sz v50.length)]⟩) (fun i => i) ⟨(.sames rfl rfl), (.cons (.blk rfl rfl rfl) (.cons (.blk rfl rfl rfl) (.cons (.tail rfl) .nil))), nd_of [0, 1, 2] rfl (by decide), fun _ _ => rfl⟩ ?_
        refine ils_inl2 1 3 rfl rfl rfl (by decide) cl32 Tryd.func32 rfl (.cons (svR rfl) (.cons (svI rfl) .nil)) Tryd.ntmps32 (nle rfl) rfl hO.semi fun O1 hO1 => ?_
        show IWP _ _ _ _ ⟨[(0, .ref 0 0), (1, .int .u8 (x91.toNat : Int))], [(3, .kept 1 [.dead, .ref 0 0, .dead, .dead, .dead, .ref 1 0, .dead, .dead, .gsl 2 eStr.sz (v50.map eStr.d), .int .i64 v51, .dead, .dead, .dead, .dead, .dead, .dead, .dead, .dead, .dead, .dead, .dead, .dead, .dead, .dead, .dead, .dead, .dead, .dead, .dead, .dead, .dead, .dead, .dead, .dead, .dead, .dead, .dead, .dead, .dead, .dead, .dead, .dead, .dead, .dead, .dead, .dead, .dead, .dead, .int .i64 (x5.has.length : Int), .int .i64 v51, .dead, .dead, .dead, .dead, .dead, .int .u8 (x91.toNat : Int), .dead, .dead, .dead, .dead, .dead, .dead, .dead, .dead, .dead, .dead, .dead, .dead, .dead, .dead, .dead, .dead, .dead, .dead, .dead, .dead, .dead, .dead, .dead, .dead, .dead, .dead, .dead, .dead, .dead, .dead, .dead, .dead]), (0, .blk 24 (v0 a0)), (1, .blk 66 [.str x5.name, .str x5.has]), (2, .tail 9 eStr.sz v50.length)]⟩ _
        refine iwp_reg (ils_cons rfl (iop_assign rfl rfl (lb rfl) (sv (d := .nilp) rfl)) <|
         ils_end ?_)
        refine iwp_seq ?_
        refine iwp_reg (ils_cons rfl (mvI rfl rfl rfl rfl) <|
         ils_end ?_)
        refine iwp_block ?_
        obtain ⟨x92, hx92, h⟩ := bnd_e h
        refine iwp_reg (ils_cons rfl (iop_cmpx rfl rfl (lb rfl) (svI rfl) (sv (d := .int _ 115) rfl) rfl hx92) <|
         ils_cons rfl (asB rfl rfl rfl rfl) <|
         ils_end ?_)
        refine iwp_cond (b := _) rfl (fun hc93 => ?_) (fun hc93 => ?_)
        ·
         replace h := bif_t h hc93
         refine iwp_reg (ils_cons rfl (mvR rfl rfl rfl rfl) <|
          ils_cons rfl (iop_nilCheck_ref rfl rfl (lb rfl) (svR rfl)) <|
          ils_cons rfl (faR 1 rfl rfl rfl Tryd.underlying24 rfl ti3 (lb rfl) rfl rfl) <|
          ils_cons rfl (iop_assign rfl rfl (lb rfl) (svR rfl)) <|
          ils_end ?_)
         refine iwp_ret ?_
         refine blockQ_r ?_
         refine thenQ_r ?_
         refine ⟨.inr rfl, 3, _, [.ref 0 1], (.cons (sv rfl) .nil), rfl, rfl, ⟨[(1, .ref 0 0), (5, .ref 1 0), (8, .gsl 2 eStr.sz (v50.map eStr.d)), (9, .int .i64 v51), (48, .int .i64 (x5.has.length : Int)), (49, .int .i64 v51), (56, .ref 0 1)], [(0, .blk 24 (v0 a0)), (1, .blk 66 [.str x5.name, .str x5.has]), (2, .tail 9 eStr.sz v50.length)]⟩, (fun i => i), ⟨(.sames rfl rfl), (.cons (.blk rfl rfl rfl) (.cons (.blk rfl rfl rfl) (.cons (.tail rfl) .nil))), nd_of [0, 1, 2] rfl (by decide), fun _ _ => rfl⟩, ?_⟩
         refine ils_cons rfl (iop_assign rfl rfl (lb rfl) (svR rfl)) <|
          ils_end ?_
         refine iwp_block ?_
         refine iwp_reg (ils_cons rfl (mvR rfl rfl rfl rfl) <|
          ils_cons rfl (iop_nen rfl rfl (lb rfl) Tryd.underlying78 (svR rfl) (sv (d := .nilp) rfl)) <|
          ils_cons rfl (asB rfl rfl rfl rfl) <|
          ils_end ?_)
         refine iwp_cond_t rfl rfl ?_
         obtain ⟨x94, hx94, h⟩ := bno_e h
         obtain ⟨x95, hx95, h⟩ := bno_e h
         refine iwp_region (ils_cons rfl (iop_move rfl rfl (lb rfl) (sv (d := .gsl _ _ _) rfl)) <|
          ils_cons rfl (mvR rfl rfl rfl rfl) <|
          ils_cons rfl (iop_nilCheck_ref rfl rfl (lb rfl) (svR rfl)) <|
          ils_cons rfl (iop_load_rs (d := .int _ _) rfl rfl (lb rfl) Tryd.underlying3 ag3 ti3 (by decide) (svR rfl) rfl (nle rfl) rfl) <|
          ils_cons rfl (iop_call (r := .str _) rfl rfl (lb rfl) cl33 (.cons (svI rfl) .nil) rfl (p_strconv_Itoa _ _ hx94)) <|
          ils_cons rfl (iop_bsT eStr ([x94] : (List (List UInt8))) 4 rfl rfl (lb rfl) Tryd.underlying42 ti9 rfl (.cons (sv (d := .str _) rfl) .nil) rfl rfl (by decide)) <|
          ils_cons rfl (iop_appT eStr 5 rfl rfl (lb rfl) Tryd.underlying42 ti9 rfl rfl rfl rfl (svg rfl) hx95) <|
          ils_cons rfl (iop_assign rfl rfl (lb rfl) (sv (d := .gsl _ _ _) rfl)) <|
          ils_nil ?_)
         refine blockQ_n ?_
         refine blockQ_n ?_
         refine thenQ_n ?_
         obtain ⟨x96, hx96, h⟩ := bnd_e h
         refine iwp_region (ils_cons rfl (iop_intx rfl rfl (lb rfl) (svI rfl) (sv (d := .int _ 1) rfl) rfl hx96) <|
          ils_cons rfl (mvI rfl rfl rfl rfl) <|
          ils_nil ?_)
         refine thenQ_n ⟨(n1, x95, x96), (fun i => if i = 2 then 5 else i), ⟨(.sames rfl rfl), (.cons (.blk rfl rfl rfl) (.cons (.blk rfl rfl rfl) (.cons (.tail rfl) .nil))), nd_of [0, 1, 5] rfl (by decide), (fun i hi => by first | rfl | (show (if _ then _ else _) = _; (repeat' split) <;> omega))⟩, ?_, ?_⟩
         exact h
         exact Nat.lt_succ_self _
        ·
         replace h := bif_f h hc93
         obtain ⟨x97, hx97, h⟩ := bnd_e h
         refine iwp_reg (ils_cons rfl (iop_cmpx rfl rfl (lb rfl) (svI rfl) (sv (d := .int _ 105) rfl) rfl hx97) <|
          ils_cons rfl (asB rfl rfl rfl rfl) <|
          ils_end ?_)
         refine iwp_cond (b := _) rfl (fun hc98 => ?_) (fun hc98 => ?_)
         ·
          replace h := bif_t h hc98
          refine iwp_reg (ils_cons rfl (mvR rfl rfl rfl rfl) <|
           ils_cons rfl (iop_nilCheck_ref rfl rfl (lb rfl) (svR rfl)) <|
           ils_cons rfl (faR 2 rfl rfl rfl Tryd.underlying24 rfl ti3 (lb rfl) rfl rfl) <|
           ils_cons rfl (iop_assign rfl rfl (lb rfl) (svR rfl)) <|
           ils_end ?_)
          refine iwp_ret ?_
          refine blockQ_r ?_
          refine thenQ_r ?_
          refine ⟨.inr rfl, 3, _, [.ref 0 2], (.cons (sv rfl) .nil), rfl, rfl, ⟨[(1, .ref 0 0), (5, .ref 1 0), (8, .gsl 2 eStr.sz (v50.map eStr.d)), (9, .int .i64 v51), (48, .int .i64 (x5.has.length : Int)), (49, .int .i64 v51), (56, .ref 0 2)], [(0, .blk 24 (v0 a0)), (1, .blk 66 [.str x5.name, .str x5.has]), (2, .tail 9 eStr.sz v50.length)]⟩, (fun i => i), ⟨(.sames rfl rfl), (.cons (.blk rfl rfl rfl) (.cons (.blk rfl rfl rfl) (.cons (.tail rfl) .nil))), nd_of [0, 1, 2] rfl (by decide), fun _ _ => rfl⟩, ?_⟩
          refine ils_cons rfl (iop_assign rfl rfl (lb rfl) (svR rfl)) <|
           ils_end ?_
          refine iwp_block ?_
          refine iwp_reg (ils_cons rfl (mvR rfl rfl rfl rfl) <|
           ils_cons rfl (iop_nen rfl rfl (lb rfl) Tryd.underlying78 (svR rfl) (sv (d := .nilp) rfl)) <|
           ils_cons rfl (asB rfl rfl rfl rfl) <|
           ils_end ?_)
          refine iwp_cond_t rfl rfl ?_
          obtain ⟨x99, hx99, h⟩ := bno_e h
          obtain ⟨x100, hx100, h⟩ := bno_e h
          refine iwp_region (ils_cons rfl (iop_move rfl rfl (lb rfl) (sv (d := .gsl _ _ _) rfl)) <|
           ils_cons rfl (mvR rfl rfl rfl rfl) <|
           ils_cons rfl (iop_nilCheck_ref rfl rfl (lb rfl) (svR rfl)) <|
           ils_cons rfl (iop_load_rs (d := .int _ _) rfl rfl (lb rfl) Tryd.underlying3 ag3 ti3 (by decide) (svR rfl) rfl (nle rfl) rfl) <|
           ils_cons rfl (iop_call (r := .str _) rfl rfl (lb rfl) cl33 (.cons (svI rfl) .nil) rfl (p_strconv_Itoa _ _ hx99)) <|
           ils_cons rfl (iop_bsT eStr ([x99] : (List (List UInt8))) 4 rfl rfl (lb rfl) Tryd.underlying42 ti9 rfl (.cons (sv (d := .str _) rfl) .nil) rfl rfl (by decide)) <|
           ils_cons rfl (iop_appT eStr 5 rfl rfl (lb rfl) Tryd.underlying42 ti9 rfl rfl rfl rfl (svg rfl) hx100) <|
           ils_cons rfl (iop_assign rfl rfl (lb rfl) (sv (d := .gsl _ _ _) rfl)) <|
           ils_nil ?_)
          refine blockQ_n ?_
          refine blockQ_n ?_
          refine thenQ_n ?_
          obtain ⟨x101, hx101, h⟩ := bnd_e h
          refine iwp_region (ils_cons rfl (iop_intx rfl rfl (lb rfl) (svI rfl) (sv (d := .int _ 1) rfl) rfl hx101) <|
           ils_cons rfl (mvI rfl rfl rfl rfl) <|
           ils_nil ?_)
          refine thenQ_n ⟨(n1, x100, x101), (fun i => if i = 2 then 5 else i), ⟨(.sames rfl rfl), (.cons (.blk rfl rfl rfl) (.cons (.blk rfl rfl rfl) (.cons (.tail rfl) .nil))), nd_of [0, 1, 5] rfl (by decide), (fun i hi => by first | rfl | (show (if _ then _ else _) = _; (repeat' split) <;> omega))⟩, ?_, ?_⟩
          exact h
          exact Nat.lt_succ_self _
         ·
          replace h := bif_f h hc98
          obtain ⟨x102, hx102, h⟩ := bnd_e h
          refine iwp_reg (ils_cons rfl (iop_cmpx rfl rfl (lb rfl) (svI rfl) (sv (d := .int _ 110) rfl) rfl hx102) <|
           ils_cons rfl (asB rfl rfl rfl rfl) <|
           ils_end ?_)
          refine iwp_cond (b := _) rfl (fun hc103 => ?_) (fun hc103 => ?_)
          ·
           replace h := bif_t h hc103
           refine iwp_reg (ils_cons rfl (mvR rfl rfl rfl rfl) <|
            ils_cons rfl (iop_nilCheck_ref rfl rfl (lb rfl) (svR rfl)) <|
            ils_cons rfl (faR 3 rfl rfl rfl Tryd.underlying24 rfl ti3 (lb rfl) rfl rfl) <|
            ils_cons rfl (iop_assign rfl rfl (lb rfl) (svR rfl)) <|
            ils_end ?_)
           refine iwp_ret ?_
           refine blockQ_r ?_
           refine thenQ_r ?_
           refine ⟨.inr rfl, 3, _, [.ref 0 3], (.cons (sv rfl) .nil), rfl, rfl, ⟨[(1, .ref 0 0), (5, .ref 1 0), (8, .gsl 2 eStr.sz (v50.map eStr.d)), (9, .int .i64 v51), (48, .int .i64 (x5.has.length : Int)), (49, .int .i64 v51), (56, .ref 0 3)], [(0, .blk 24 (v0 a0)), (1, .blk 66 [.str x5.name, .str x5.has]), (2, .tail 9 eStr.sz v50.length)]⟩, (fun i => i), ⟨(.sames rfl rfl), (.cons (.blk rfl rfl rfl) (.cons (.blk rfl rfl rfl) (.cons (.tail rfl) .nil))), nd_of [0, 1, 2] rfl (by decide), fun _ _ => rfl⟩, ?_⟩
           refine ils_cons rfl (iop_assign rfl rfl (lb rfl) (svR rfl)) <|
            ils_end ?_
           refine iwp_block ?_
           refine iwp_reg (ils_cons rfl (mvR rfl rfl rfl rfl) <|
            ils_cons rfl (iop_nen rfl rfl (lb rfl) Tryd.underlying78 (svR rfl) (sv (d := .nilp) rfl)) <|
            ils_cons rfl (asB rfl rfl rfl rfl) <|
            ils_end ?_)
           refine iwp_cond_t rfl rfl ?_
           obtain ⟨x104, hx104, h⟩ := bno_e h
           obtain ⟨x105, hx105, h⟩ := bno_e h
           refine iwp_region (ils_cons rfl (iop_move rfl rfl (lb rfl) (sv (d := .gsl _ _ _) rfl)) <|
            ils_cons rfl (mvR rfl rfl rfl rfl) <|
            ils_cons rfl (iop_nilCheck_ref rfl rfl (lb rfl) (svR rfl)) <|
            ils_cons rfl (iop_load_rs (d := .int _ _) rfl rfl (lb rfl) Tryd.underlying3 ag3 ti3 (by decide) (svR rfl) rfl (nle rfl) rfl) <|
            ils_cons rfl (iop_call (r := .str _) rfl rfl (lb rfl) cl33 (.cons (svI rfl) .nil) rfl (p_strconv_Itoa _ _ hx104)) <|
            ils_cons rfl (iop_bsT eStr ([x104] : (List (List UInt8))) 4 rfl rfl (lb rfl) Tryd.underlying42 ti9 rfl (.cons (sv (d := .str _) rfl) .nil) rfl rfl (by decide)) <|
            ils_cons rfl (iop_appT eStr 5 rfl rfl (lb rfl) Tryd.underlying42 ti9 rfl rfl rfl rfl (svg rfl) hx105) <|
            ils_cons rfl (iop_assign rfl rfl (lb rfl) (sv (d := .gsl _ _ _) rfl)) <|
            ils_nil ?_)
           refine blockQ_n ?_
           refine blockQ_n ?_
           refine thenQ_n ?_
           obtain ⟨x106, hx106, h⟩ := bnd_e h
           refine iwp_region (ils_cons rfl (iop_intx rfl rfl (lb rfl) (svI rfl) (sv (d := .int _ 1) rfl) rfl hx106) <|
            ils_cons rfl (mvI rfl rfl rfl rfl) <|
            ils_nil ?_)
           refine thenQ_n ⟨(n1, x105, x106), (fun i => if i = 2 then 5 else i), ⟨(.sames rfl rfl), (.cons (.blk rfl rfl rfl) (.cons (.blk rfl rfl rfl) (.cons (.tail rfl) .nil))), nd_of [0, 1, 5] rfl (by decide), (fun i hi => by first | rfl | (show (if _ then _ else _) = _; (repeat' split) <;> omega))⟩, ?_, ?_⟩
           exact h
           exact Nat.lt_succ_self _
          ·
           replace h := bif_f h hc103
           obtain ⟨x107, hx107, h⟩ := bnd_e h
           refine iwp_reg (ils_cons rfl (iop_cmpx rfl rfl (lb rfl) (svI rfl) (sv (d := .int _ 109) rfl) rfl hx107) <|
            ils_cons rfl (asB rfl rfl rfl rfl) <|
            ils_end ?_)
           refine iwp_cond (b := _) rfl (fun hc108 => ?_) (fun hc108 => ?_)
           ·
            replace h := bif_t h hc108
            refine iwp_reg (ils_cons rfl (mvR rfl rfl rfl rfl) <|
             ils_cons rfl (iop_nilCheck_ref rfl rfl (lb rfl) (svR rfl)) <|
             ils_cons rfl (faR 4 rfl rfl rfl Tryd.underlying24 rfl ti3 (lb rfl) rfl rfl) <|
             ils_cons rfl (iop_assign rfl rfl (lb rfl) (svR rfl)) <|
             ils_end ?_)
            refine iwp_ret ?_
            refine blockQ_r ?_
            refine thenQ_r ?_
            refine ⟨.inr rfl, 3, _, [.ref 0 4], (.cons (sv rfl) .nil), rfl, rfl, ⟨[(1, .ref 0 0), (5, .ref 1 0), (8, .gsl 2 eStr.sz (v50.map eStr.d)), (9, .int .i64 v51), (48, .int .i64 (x5.has.length : Int)), (49, .int .i64 v51), (56, .ref 0 4)], [(0, .blk 24 (v0 a0)), (1, .blk 66 [.str x5.name, .str x5.has]), (2, .tail 9 eStr.sz v50.length)]⟩, (fun i => i), ⟨(.sames rfl rfl), (.cons (.blk rfl rfl rfl) (.cons (.blk rfl rfl rfl) (.cons (.tail rfl) .nil))), nd_of [0, 1, 2] rfl (by decide), fun _ _ => rfl⟩, ?_⟩
            refine ils_cons rfl (iop_assign rfl rfl (lb rfl) (svR rfl)) <|
             ils_end ?_
            refine iwp_block ?_
            refine iwp_reg (ils_cons rfl (mvR rfl rfl rfl rfl) <|
             ils_cons rfl (iop_nen rfl rfl (lb rfl) Tryd.underlying78 (svR rfl) (sv (d := .nilp) rfl)) <|
             ils_cons rfl (asB rfl rfl rfl rfl) <|
             ils_end ?_)
            refine iwp_cond_t rfl rfl ?_
            obtain ⟨x109, hx109, h⟩ := bno_e h
            obtain ⟨x110, hx110, h⟩ := bno_e h
            refine iwp_region (ils_cons rfl (iop_move rfl rfl (lb rfl) (sv (d := .gsl _ _ _) rfl)) <|
             ils_cons rfl (mvR rfl rfl rfl rfl) <|
             ils_cons rfl (iop_nilCheck_ref rfl rfl (lb rfl) (svR rfl)) <|
             ils_cons rfl (iop_load_rs (d := .int _ _) rfl rfl (lb rfl) Tryd.underlying3 ag3 ti3 (by decide) (svR rfl) rfl (nle rfl) rfl) <|
             ils_cons rfl (iop_call (r := .str _) rfl rfl (lb rfl) cl33 (.cons (svI rfl) .nil) rfl (p_strconv_Itoa _ _ hx109)) <|
             ils_cons rfl (iop_bsT eStr ([x109] : (List (List UInt8))) 4 rfl rfl (lb rfl) Tryd.underlying42 ti9 rfl (.cons (sv (d := .str _) rfl) .nil) rfl rfl (by decide)) <|
             ils_cons rfl (iop_appT eStr 5 rfl rfl (lb rfl) Tryd.underlying42 ti9 rfl rfl rfl rfl (svg rfl) hx110) <|
             ils_cons rfl (iop_assign rfl rfl (lb rfl) (sv (d := .gsl _ _ _) rfl)) <|
             ils_nil ?_)
            refine blockQ_n ?_
            refine blockQ_n ?_
            refine thenQ_n ?_
            obtain ⟨x111, hx111, h⟩ := bnd_e h
            refine iwp_region (ils_cons rfl (iop_intx rfl rfl (lb rfl) (svI rfl) (sv (d := .int _ 1) rfl) rfl hx111) <|
             ils_cons rfl (mvI rfl rfl rfl rfl) <|
             ils_nil ?_)
            refine thenQ_n ⟨(n1, x110, x111), (fun i => if i = 2 then 5 else i), ⟨(.sames rfl rfl), (.cons (.blk rfl rfl rfl) (.cons (.blk rfl rfl rfl) (.cons (.tail rfl) .nil))), nd_of [0, 1, 5] rfl (by decide), (fun i hi => by first | rfl | (show (if _ then _ else _) = _; (repeat' split) <;> omega))⟩, ?_, ?_⟩
            exact h
            exact Nat.lt_succ_self _
           ·
            replace h := bif_f h hc108
            obtain ⟨x112, hx112, h⟩ := bnd_e h
            refine iwp_reg (ils_cons rfl (iop_cmpx rfl rfl (lb rfl) (svI rfl) (sv (d := .int _ 112) rfl) rfl hx112) <|
             ils_cons rfl (asB rfl rfl rfl rfl) <|
             ils_end ?_)
            refine iwp_cond (b := _) rfl (fun hc113 => ?_) (fun hc113 => ?_)
            ·
             replace h := bif_t h hc113
             refine iwp_reg (ils_cons rfl (mvR rfl rfl rfl rfl) <|
              ils_cons rfl (iop_nilCheck_ref rfl rfl (lb rfl) (svR rfl)) <|
              ils_cons rfl (faR 5 rfl rfl rfl Tryd.underlying24 rfl ti3 (lb rfl) rfl rfl) <|
              ils_cons rfl (iop_assign rfl rfl (lb rfl) (svR rfl)) <|
              ils_end ?_)
             refine iwp_ret ?_
             refine blockQ_r ?_
             refine thenQ_r ?_
             refine ⟨.inr rfl, 3, _, [.ref 0 5], (.cons (sv rfl) .nil), rfl, rfl, ⟨[(1, .ref 0 0), (5, .ref 1 0), (8, .gsl 2 eStr.sz (v50.map eStr.d)), (9, .int .i64 v51), (48, .int .i64 (x5.has.length : Int)), (49, .int .i64 v51), (56, .ref 0 5)], [(0, .blk 24 (v0 a0)), (1, .blk 66 [.str x5.name, .str x5.has]), (2, .tail 9 eStr.sz v50.length)]⟩, (fun i => i), ⟨(.sames rfl rfl), (.cons (.blk rfl rfl rfl) (.cons (.blk rfl rfl rfl) (.cons (.tail rfl) .nil))), nd_of [0, 1, 2] rfl (by decide), fun _ _ => rfl⟩, ?_⟩
             refine ils_cons rfl (iop_assign rfl rfl (lb rfl) (svR rfl)) <|
              ils_end ?_
             refine iwp_block ?_
             refine iwp_reg (ils_cons rfl (mvR rfl rfl rfl rfl) <|
              ils_cons rfl (iop_nen rfl rfl (lb rfl) Tryd.underlying78 (svR rfl) (sv (d := .nilp) rfl)) <|
              ils_cons rfl (asB rfl rfl rfl rfl) <|
              ils_end ?_)
             refine iwp_cond_t rfl rfl ?_
             obtain ⟨x114, hx114, h⟩ := bno_e h
             obtain ⟨x115, hx115, h⟩ := bno_e h
             refine iwp_region (ils_cons rfl (iop_move rfl rfl (lb rfl) (sv (d := .gsl _ _ _) rfl)) <|
              ils_cons rfl (mvR rfl rfl rfl rfl) <|
              ils_cons rfl (iop_nilCheck_ref rfl rfl (lb rfl) (svR rfl)) <|
              ils_cons rfl (iop_load_rs (d := .int _ _) rfl rfl (lb rfl) Tryd.underlying3 ag3 ti3 (by decide) (svR rfl) rfl (nle rfl) rfl) <|
              ils_cons rfl (iop_call (r := .str _) rfl rfl (lb rfl) cl33 (.cons (svI rfl) .nil) rfl (p_strconv_Itoa _ _ hx114)) <|
              ils_cons rfl (iop_bsT eStr ([x114] : (List (List UInt8))) 4 rfl rfl (lb rfl) Tryd.underlying42 ti9 rfl (.cons (sv (d := .str _) rfl) .nil) rfl rfl (by decide)) <|
              ils_cons rfl (iop_appT eStr 5 rfl rfl (lb rfl) Tryd.underlying42 ti9 rfl rfl rfl rfl (svg rfl) hx115) <|
              ils_cons rfl (iop_assign rfl rfl (lb rfl) (sv (d := .gsl _ _ _) rfl)) <|
              ils_nil ?_)
             refine blockQ_n ?_
             refine blockQ_n ?_
             refine thenQ_n ?_
             obtain ⟨x116, hx116, h⟩ := bnd_e h
             refine iwp_region (ils_cons rfl (iop_intx rfl rfl (lb rfl) (svI rfl) (sv (d := .int _ 1) rfl) rfl hx116) <|
              ils_cons rfl (mvI rfl rfl rfl rfl) <|
              ils_nil ?_)
             refine thenQ_n ⟨(n1, x115, x116), (fun i => if i = 2 then 5 else i), ⟨(.sames rfl rfl), (.cons (.blk rfl rfl rfl) (.cons (.blk rfl rfl rfl) (.cons (.tail rfl) .nil))), nd_of [0, 1, 5] rfl (by decide), (fun i hi => by first | rfl | (show (if _ then _ else _) = _; (repeat' split) <;> omega))⟩, ?_, ?_⟩
             exact h
             exact Nat.lt_succ_self _
            ·
             replace h := bif_f h hc113
             refine iwp_skip ?_
             refine blockQ_n ?_
             refine thenQ_n ?_
             refine iwp_reg (ils_cons rfl (iop_assign rfl rfl (lb rfl) (sv (d := .nilp) rfl)) <|
              ils_end ?_)
             refine iwp_ret ?_
             refine ⟨.inr rfl, 3, _, [.nilp], (.cons (sv rfl) .nil), rfl, rfl, ⟨[(1, .ref 0 0), (5, .ref 1 0), (8, .gsl 2 eStr.sz (v50.map eStr.d)), (9, .int .i64 v51), (48, .int .i64 (x5.has.length : Int)), (49, .int .i64 v51), (56, .nilp)], [(0, .blk 24 (v0 a0)), (1, .blk 66 [.str x5.name, .str x5.has]), (2, .tail 9 eStr.sz v50.length)]⟩, (fun i => i), ⟨(.sames rfl rfl), (.cons (.blk rfl rfl rfl) (.cons (.blk rfl rfl rfl) (.cons (.tail rfl) .nil))), nd_of [0, 1, 2] rfl (by decide), fun _ _ => rfl⟩, ?_⟩
             refine ils_cons rfl (iop_assign rfl rfl (lb rfl) (sv (d := .nilp) rfl)) <|
              ils_end ?_
             refine iwp_block ?_
             refine iwp_reg (ils_cons rfl (iop_move rfl rfl (lb rfl) (sv (d := .nilp) rfl)) <|
              ils_cons rfl (iop_nenn rfl rfl (lb rfl) Tryd.underlying78 (sv (d := .nilp) rfl) (sv (d := .nilp) rfl)) <|
              ils_cons rfl (asB rfl rfl rfl rfl) <|
              ils_end ?_)
             refine iwp_cond_f rfl rfl ?_
             obtain ⟨x117, hx117, h⟩ := bno_e h
             obtain ⟨x118, hx118, h⟩ := bnd_e h
             refine iwp_reg (ils_cons rfl (faR 1 rfl rfl rfl Tryd.underlying66 rfl ti9 (lb rfl) rfl rfl) <|
              ils_cons rfl (iop_load_rs (d := .str _) rfl rfl (lb rfl) Tryd.underlying9 ag9 ti9 (by decide) (svR rfl) rfl (nle rfl) rfl) <|
              ils_cons rfl (mvI rfl rfl rfl rfl) <|
              ils_cons rfl (iop_str_at rfl rfl (lb rfl) Tryd.underlying9 (sv (d := .str _) rfl) (svI rfl) hx117) <|
              ils_cons rfl (iop_cmpx rfl rfl (lb rfl) (svI rfl) (sv (d := .int _ 116) rfl) rfl hx118) <|
              ils_cons rfl (asB rfl rfl rfl rfl) <|
              ils_end ?_)
             refine iwp_cond (b := _) rfl (fun hc119 => ?_) (fun hc119 => ?_)
             ·
              replace h := bif_t h hc119
              obtain ⟨x120, hx120, h⟩ := bno_e h
              obtain ⟨x121, hx121, h⟩ := bno_e h
              refine iwp_region (ils_cons rfl (iop_move rfl rfl (lb rfl) (sv (d := .gsl _ _ _) rfl)) <|
               ils_cons rfl (faR 6 rfl rfl rfl Tryd.underlying24 rfl ti9 (lb rfl) rfl rfl) <|
               ils_cons rfl (iop_load_rs (d := .str _) rfl rfl (lb rfl) Tryd.underlying9 ag9 ti9 (by decide) (svR rfl) rfl (nle rfl) rfl) <|
               ils_cons rfl (iop_call (r := .str _) rfl rfl (lb rfl) cl34 (.cons (sv (d := .str _) rfl) .nil) rfl (p_console_hex _ _ hx120)) <|
               ils_cons rfl (iop_bsT eStr ([x120] : (List (List UInt8))) 4 rfl rfl (lb rfl) Tryd.underlying42 ti9 rfl (.cons (sv (d := .str _) rfl) .nil) rfl rfl (by decide)) <|
               ils_cons rfl (iop_appT eStr 5 rfl rfl (lb rfl) Tryd.underlying42 ti9 rfl rfl rfl rfl (svg rfl) hx121) <|
               ils_cons rfl (iop_assign rfl rfl (lb rfl) (sv (d := .gsl _ _ _) rfl)) <|
               ils_nil ?_)
              refine blockQ_n ?_
              refine blockQ_n ?_
              refine thenQ_n ?_
              obtain ⟨x122, hx122, h⟩ := bnd_e h
              refine iwp_region (ils_cons rfl (iop_intx rfl rfl (lb rfl) (svI rfl) (sv (d := .int _ 1) rfl) rfl hx122) <|
               ils_cons rfl (mvI rfl rfl rfl rfl) <|
               ils_nil ?_)
              refine thenQ_n ⟨(n1, x121, x122), (fun i => if i = 2 then 5 else i), ⟨(.sames rfl rfl), (.cons (.blk rfl rfl rfl) (.cons (.blk rfl rfl rfl) (.cons (.tail rfl) .nil))), nd_of [0, 1, 5] rfl (by decide), (fun i hi => by first | rfl | (show (if _ then _ else _) = _; (repeat' split) <;> omega))⟩, ?_, ?_⟩
              exact h
              exact Nat.lt_succ_self _
             ·
              replace h := bif_f h hc119
              obtain ⟨x123, hx123, h⟩ := bno_e h
              obtain ⟨x124, hx124, h⟩ := bno_e h
              refine iwp_region (ils_cons rfl (iop_move rfl rfl (lb rfl) (sv (d := .gsl _ _ _) rfl)) <|
               ils_cons rfl (faR 7 rfl rfl rfl Tryd.underlying24 rfl ti4 (lb rfl) rfl rfl) <|
               ils_cons rfl (iop_load_rs (d := .bool _) rfl rfl (lb rfl) Tryd.underlying4 ag4 ti4 (by decide) (svR rfl) rfl (nle rfl) rfl) <|
               ils_cons rfl (iop_call (r := .str _) rfl rfl (lb rfl) cl35 (.cons (svB rfl) .nil) rfl (p_console_mark _ _ hx123)) <|
               ils_cons rfl (iop_bsT eStr ([x123] : (List (List UInt8))) 4 rfl rfl (lb rfl) Tryd.underlying42 ti9 rfl (.cons (sv (d := .str _) rfl) .nil) rfl rfl (by decide)) <|
               ils_cons rfl (iop_appT eStr 5 rfl rfl (lb rfl) Tryd.underlying42 ti9 rfl rfl rfl rfl (svg rfl) hx124) <|
               ils_cons rfl (iop_assign rfl rfl (lb rfl) (sv (d := .gsl _ _ _) rfl)) <|
               ils_nil ?_)
              refine blockQ_n ?_
              refine blockQ_n ?_
              refine thenQ_n ?_
              obtain ⟨x125, hx125, h⟩ := bnd_e h
              refine iwp_region (ils_cons rfl (iop_intx rfl rfl (lb rfl) (svI rfl) (sv (d := .int _ 1) rfl) rfl hx125) <|
               ils_cons rfl (mvI rfl rfl rfl rfl) <|
               ils_nil ?_)
              refine thenQ_n ⟨(n1, x124, x125), (fun i => if i = 2 then 5 else i), ⟨(.sames rfl rfl), (.cons (.blk rfl rfl rfl) (.cons (.blk rfl rfl rfl) (.cons (.tail rfl) .nil))), nd_of [0, 1, 5] rfl (by decide), (fun i hi => by first | rfl | (show (if _ then _ else _) = _; (repeat' split) <;> omega))⟩, ?_, ?_⟩
              exact h
              exact Nat.lt_succ_self _
       ·
        replace h := bif_f h hc90
        refine iwp_exit ?_
        refine thenQ_e ?_
        refine thenQ_e ?_
        refine blockQ_e ?_
        refine thenQ_n ?_
        obtain ⟨x126, hx126, h⟩ := bno_e h
        refine iwp_reg (ils_cons rfl (iop_move rfl rfl (lb rfl) (sv (d := .gsl _ _ _) rfl)) <|
         ils_cons rfl (iop_call (r := .str _) rfl rfl (lb rfl) cl36 (.cons (svg rfl) (.cons (sv (d := .str [32]) rfl) .nil)) rfl (p_strings_Join _ _ _ hx126)) <|
         ils_cons rfl (iop_assign rfl rfl (lb rfl) (sv (d := .str _) rfl)) <|
         ils_cons rfl (iop_assign rfl rfl (lb rfl) (sv (d := .int _ 0) rfl)) <|
         ils_end ?_)
        refine iwp_ret ?_
        obtain rfl := Option.some.inj h
        refine ⟨.inr rfl, (.cons (sv rfl) (.cons (sv rfl) .nil))⟩

theorem p_internal_stringslite_Cut (a0 : (List UInt8)) (a1 : (List UInt8)) (r : ((List UInt8) × (List UInt8) × Bool)) (h : internal_stringslite_Cut a0 a1 = some r) : PureAt Tryd.prog 49 [.str a0, .str a1] (retD [.str r.1, .str r.2.1, .bool r.2.2]) := by
 refine pure_of_iwp (rs := [.str r.1, .str r.2.1, .bool r.2.2]) Tryd.func49 rfl Tryd.ntmps49 (nle rfl) rfl fun O hO => ?_
 show IWP _ _ _ _ ⟨[(0, .str a0), (1, .str a1)], []⟩ _
 unfold internal_stringslite_Cut at h
 refine iwp_reg (ils_cons rfl (iop_assign rfl rfl (lb rfl) (sv (d := .str []) rfl)) <|
  ils_cons rfl (iop_assign rfl rfl (lb rfl) (sv (d := .str []) rfl)) <|
  ils_cons rfl (iop_assign rfl rfl (lb rfl) (sv (d := .bool false) rfl)) <|
  ils_end ?_)
 refine iwp_seq ?_
 obtain ⟨x1, hx1, h⟩ := bno_e h
 refine iwp_reg (ils_cons rfl (iop_move rfl rfl (lb rfl) (sv (d := .str _) rfl)) <|
  ils_cons rfl (iop_move rfl rfl (lb rfl) (sv (d := .str _) rfl)) <|
  ils_cons rfl (iop_call (r := .int _ _) rfl rfl (lb rfl) cl59 (.cons (sv (d := .str _) rfl) (.cons (sv (d := .str _) rfl) .nil)) rfl (p_internal_stringslite_Index _ _ _ hx1)) <|
  ils_cons rfl (asI rfl rfl rfl rfl) <|
  ils_end ?_)
 obtain ⟨x2, hx2, h⟩ := bnd_e h
 refine iwp_reg (ils_cons rfl (mvI rfl rfl rfl rfl) <|
  ils_cons rfl (iop_cmpx rfl rfl (lb rfl) (svI rfl) (sv (d := .int _ 0) rfl) rfl hx2) <|
  ils_end ?_)
 refine iwp_cond (b := _) rfl (fun hc3 => ?_) (fun hc3 => ?_)
 ·
  replace h := bif_t h hc3
  obtain ⟨x4, hx4, h⟩ := bno_e h
  obtain ⟨x5, hx5, h⟩ := bnd_e h
  obtain ⟨x6, hx6, h⟩ := bno_e h
  refine iwp_drw rfl [⟨[0], [], [(13, .str a0)], []⟩,
   ⟨[7], [], [(14, .int .i64 x1)], []⟩,
   ⟨[13, 14], [], [(15, .str x4)], []⟩,
   ⟨[0], [], [(16, .str a0)], []⟩,
   ⟨[7], [], [(17, .int .i64 x1)], []⟩,
   ⟨[1], [], [(18, .str a1)], []⟩,
   ⟨[18], [], [(19, .int .i64 (a1.length : Int))], []⟩,
   ⟨[17, 19], [], [(20, .int .i64 x5)], []⟩,
   ⟨[16, 20], [], [(21, .str x6)], []⟩,
   ⟨[15], [], [(4, .str x4)], []⟩,
   ⟨[21], [], [(5, .str x6)], []⟩,
   ⟨[], [], [(6, .bool true)], []⟩] rfl ?_ (by kernel_rfl) ?_
  ·refine .cons (lop rfl rfl fun S hA => (iop_move rfl rfl (lb rfl) (sv (d := .str _) (agr hA rfl rfl)))) ?_
   refine .cons (lop rfl rfl fun S hA => (iop_move rfl rfl (lb rfl) (svaI hA rfl rfl))) ?_
   refine .cons (lop rfl rfl fun S hA => (iop_cutS rfl rfl (lb rfl) Tryd.underlying9 (sv (d := .str _) (agr hA rfl rfl)) rfl ⟨_, (svaI hA rfl rfl)⟩ hx4)) ?_
   refine .cons (lop rfl rfl fun S hA => (iop_move rfl rfl (lb rfl) (sv (d := .str _) (agr hA rfl rfl)))) ?_
   refine .cons (lop rfl rfl fun S hA => (iop_move rfl rfl (lb rfl) (svaI hA rfl rfl))) ?_
   refine .cons (lop rfl rfl fun S hA => (iop_move rfl rfl (lb rfl) (sv (d := .str _) (agr hA rfl rfl)))) ?_
   refine .cons (lop rfl rfl fun S hA => (iop_len_str rfl rfl (lb rfl) Tryd.underlying9 (sv (d := .str _) (agr hA rfl rfl)) rfl)) ?_
   refine .cons (lop rfl rfl fun S hA => (iop_intx rfl rfl (lb rfl) (svaI hA rfl rfl) (svaI hA rfl rfl) rfl hx5)) ?_
   refine .cons (lop rfl rfl fun S hA => (iop_cutS rfl rfl (lb rfl) Tryd.underlying9 (sv (d := .str _) (agr hA rfl rfl)) ⟨_, (svaI hA rfl rfl)⟩ rfl hx6)) ?_
   refine .cons (lop rfl rfl fun S hA => (iop_assign rfl rfl (lb rfl) (sv (d := .str _) (agr hA rfl rfl)))) ?_
   refine .cons (lop rfl rfl fun S hA => (iop_assign rfl rfl (lb rfl) (sv (d := .str _) (agr hA rfl rfl)))) ?_
   refine .cons (lop rfl rfl fun S hA => (iop_assign rfl rfl (lb rfl) (sv (d := .bool true) rfl))) ?_
   exact .nil
  refine iwp_ret ?_
  refine thenQ_r ?_
  obtain rfl := Option.some.inj h
  refine ⟨.inr rfl, (.cons (sv rfl) (.cons (sv rfl) (.cons (sv rfl) .nil)))⟩
 ·
  replace h := bif_f h hc3
  refine iwp_skip ?_
  refine thenQ_n ?_
  refine iwp_reg (ils_cons rfl (iop_move rfl rfl (lb rfl) (sv (d := .str _) rfl)) <|
   ils_cons rfl (iop_assign rfl rfl (lb rfl) (sv (d := .str _) rfl)) <|
   ils_cons rfl (iop_assign rfl rfl (lb rfl) (sv (d := .str []) rfl)) <|
   ils_cons rfl (iop_assign rfl rfl (lb rfl) (sv (d := .bool false) rfl)) <|
   ils_end ?_)
  refine iwp_ret ?_
  obtain rfl := Option.some.inj h
  refine ⟨.inr rfl, (.cons (sv rfl) (.cons (sv rfl) (.cons (sv rfl) .nil)))⟩

theorem p_strings_Cut (a0 : (List UInt8)) (a1 : (List UInt8)) (r : ((List UInt8) × (List UInt8) × Bool)) (h : strings_Cut a0 a1 = some r) : PureAt Tryd.prog 30 [.str a0, .str a1] (retD [.str r.1, .str r.2.1, .bool r.2.2]) := by
 refine pure_of_iwp (rs := [.str r.1, .str r.2.1, .bool r.2.2]) Tryd.func30 rfl Tryd.ntmps30 (nle rfl) rfl fun O hO => ?_
 show IWP _ _ _ _ ⟨[(0, .str a0), (1, .str a1)], []⟩ _
 unfold strings_Cut at h
 refine iwp_reg (ils_cons rfl (iop_assign rfl rfl (lb rfl) (sv (d := .str []) rfl)) <|
  ils_cons rfl (iop_assign rfl rfl (lb rfl) (sv (d := .str []) rfl)) <|
  ils_cons rfl (iop_assign rfl rfl (lb rfl) (sv (d := .bool false) rfl)) <|
  ils_end ?_)
 obtain ⟨x1, hx1, h⟩ := bno_e h
 refine iwp_reg (ils_cons rfl (iop_move rfl rfl (lb rfl) (sv (d := .str _) rfl)) <|
  ils_cons rfl (iop_move rfl rfl (lb rfl) (sv (d := .str _) rfl)) <|
  ils_cons rfl (iop_call (r := .tuple q8) rfl rfl (lb rfl) cl49 (.cons (sv (d := .str _) rfl) (.cons (sv (d := .str _) rfl) .nil)) rfl (p_internal_stringslite_Cut _ _ _ hx1)) <|
  ils_cons rfl (iop_extract (d := .str _) rfl rfl (lb rfl) (sv (d := .tuple q8) rfl) rfl) <|
  ils_cons rfl (iop_extract (d := .str _) rfl rfl (lb rfl) (sv (d := .tuple q8) rfl) rfl) <|
  ils_cons rfl (iop_extract (d := .bool _) rfl rfl (lb rfl) (sv (d := .tuple q8) rfl) rfl) <|
  ils_cons rfl (iop_assign rfl rfl (lb rfl) (sv (d := .str _) rfl)) <|
  ils_cons rfl (iop_assign rfl rfl (lb rfl) (sv (d := .str _) rfl)) <|
  ils_cons rfl (asB rfl rfl rfl rfl) <|
  ils_end ?_)
 refine iwp_ret ?_
 obtain rfl := Option.some.inj h
 refine ⟨.inr rfl, (.cons (sv rfl) (.cons (sv rfl) (.cons (sv rfl) .nil)))⟩

theorem p_console_Script (a0 : (List UInt8)) (r : ((List T_world_Step) × Int × Int)) (h : console_Script a0 = some r) : PureAt Tryd.prog 11 [.str a0] (retD [.slice false (r.1.map E_world_Step.d), .int .i64 r.2.1, .int .i64 r.2.2]) := by
 refine pure_of_iwp (rs := [.slice false (r.1.map E_world_Step.d), .int .i64 r.2.1, .int .i64 r.2.2]) Tryd.func11 rfl Tryd.ntmps11 (nle rfl) rfl fun O hO => ?_
 show IWP _ _ _ _ ⟨[(0, .str a0)], []⟩ _
 unfold console_Script at h
 refine iwp_reg (ils_cons rfl (iop_assign rfl rfl (lb rfl) (sv (d := .nils) rfl)) <|
  ils_cons rfl (iop_assign rfl rfl (lb rfl) (sv (d := .int _ 0) rfl)) <|
  ils_cons rfl (iop_assign rfl rfl (lb rfl) (sv (d := .int _ 0) rfl)) <|
  ils_end ?_)
 refine iwp_reg (ils_cons rfl (iop_assign rfl rfl (lb rfl) (sv (d := .nils) rfl)) <|
  ils_end ?_)
 refine iwp_seq ?_
 refine iwp_reg (ils_cons rfl (iop_assign rfl rfl (lb rfl) (sv (d := .int _ 1) rfl)) <|
  ils_end ?_)
 refine iwp_block ?_
 refine iwp_loopP (α := Nat × (List UInt8) × (List T_world_Step) × Int) (fun z => ⟨[(0, .str z.2.1), (5, .gsl 21 E_world_Step.sz (z.2.2.1.map E_world_Step.d)), (6, .int .i64 z.2.2.2)], [(21, .tail 24 E_world_Step.sz z.2.2.1.length)]⟩) (fun z => console_Script_L0 z.1 z.2.1 z.2.2.1 z.2.2.2 = some r) (fun z => z.1) (fuel, a0, ([] : (List T_world_Step)), 1) (fun i => if i = 21 then 71 else i) ⟨(.s rfl rfl (.cons (.nils rfl) (.sames rfl rfl))), (.cons (.nils rfl) .nil), nd_of [71] rfl (by decide), (fun i hi => by first | rfl | (show (if _ then _ else _) = _; (repeat' split) <;> omega))⟩ ?_ ?_
 ·exact h
 ·
  rintro ⟨n0, v12, v13, v14⟩ h
  cases n0 with
  | zero => exact absurd h (by unfold console_Script_L0; exact nofun)
  | succ n0 =>
   unfold console_Script_L0 at h
   refine iwp_seq ?_
   obtain ⟨x26, hx26, h⟩ := bnd_e h
   refine iwp_reg (ils_cons rfl (iop_move rfl rfl (lb rfl) (sv (d := .str _) rfl)) <|
    ils_cons rfl (iop_strx rfl rfl (lb rfl) (sv (d := .str _) rfl) (sv (d := .str []) rfl) rfl hx26) <|
    ils_end ?_)
   refine iwp_cond (b := _) rfl (fun hc27 => ?_) (fun hc27 => ?_)
   ·
    replace h := bif_t h hc27
    refine iwp_skip ?_
    refine thenQ_n ?_
    refine iwp_seq ?_
    refine iwp_block ?_
    obtain ⟨x28, hx28, h⟩ := bno_e h
    refine iwp_reg (ils_cons rfl (iop_move rfl rfl (lb rfl) (sv (d := .str _) rfl)) <|
     ils_cons rfl (iop_call (r := .tuple q8) rfl rfl (lb rfl) cl30 (.cons (sv (d := .str _) rfl) (.cons (sv (d := .str [10]) rfl) .nil)) rfl (p_strings_Cut _ _ _ hx28)) <|
     ils_cons rfl (iop_move rfl rfl (lb rfl) (sv (d := .tuple q8) rfl)) <|
     ils_cons rfl (iop_extract (d := .str _) rfl rfl (lb rfl) (sv (d := .tuple q8) rfl) rfl) <|
     ils_cons rfl (iop_extract (d := .str _) rfl rfl (lb rfl) (sv (d := .tuple q8) rfl) rfl) <|
     ils_cons rfl (iop_extract (d := .bool _) rfl rfl (lb rfl) (sv (d := .tuple q8) rfl) rfl) <|
     ils_cons rfl (iop_assign rfl rfl (lb rfl) (sv (d := .str _) rfl)) <|
     ils_cons rfl (iop_assign rfl rfl (lb rfl) (sv (d := .str _) rfl)) <|
     ils_cons rfl (asB rfl rfl rfl rfl) <|
     ils_end ?_)
    refine iwp_reg (ils_cons rfl (iop_move rfl rfl (lb rfl) (sv (d := .str _) rfl)) <|
     ils_cons rfl (iop_assign rfl rfl (lb rfl) (sv (d := .str _) rfl)) <|
     ils_end ?_)
    obtain ⟨x29, hx29, h⟩ := bno_e h
    refine iwp_reg (ils_cons rfl (iop_move rfl rfl (lb rfl) (sv (d := .str _) rfl)) <|
     ils_cons rfl (iop_call (r := .tuple q11) rfl rfl (lb rfl) cl9 (.cons (sv (d := .str _) rfl) .nil) rfl (p_console_Parse _ _ hx29)) <|
     ils_cons rfl (iop_move rfl rfl (lb rfl) (sv (d := .tuple q11) rfl)) <|
     ils_cons rfl (iop_extract (d := .agg q3) rfl rfl (lb rfl) (sv (d := .tuple q11) rfl) rfl) <|
     ils_cons rfl (iop_extract (d := .int _ _) rfl rfl (lb rfl) (sv (d := .tuple q11) rfl) rfl) <|
     ils_cons rfl (iop_allocS (cs := q3) (cs' := (w12 0 0 0 0 0 0 [] false)) 22 rfl rfl (lb rfl) rfl ti24 rfl rfl (.all _)) <|
     ils_cons rfl (stA q3 q3 ti24 rfl rfl rfl rfl rfl rfl rfl rfl (nle rfl) rfl) <|
     ils_cons rfl (asI rfl rfl rfl rfl) <|
     ils_end ?_)
    refine iwp_reg (ils_cons rfl (mvI rfl rfl rfl rfl) <|
     ils_end ?_)
    refine iwp_block ?_
    obtain ⟨x30, hx30, h⟩ := bnd_e h
    refine iwp_reg (ils_cons rfl (iop_cmpx rfl rfl (lb rfl) (svI rfl) (sv (d := .int _ 0) rfl) rfl hx30) <|
     ils_cons rfl (asB rfl rfl rfl rfl) <|
     ils_end ?_)
    refine iwp_cond (b := _) rfl (fun hc31 => ?_) (fun hc31 => ?_)
    ·
     replace h := bif_t h hc31
     obtain ⟨x32, hx32, h⟩ := bno_e h
     refine iwp_region (ils_cons rfl (iop_move rfl rfl (lb rfl) (sv (d := .gsl _ _ _) rfl)) <|
      ils_cons rfl (lra q3 la24 rfl rfl rfl rfl rfl (nle rfl) rfl) <|
      ils_cons rfl (iop_bsT E_world_Step ([x29.1] : (List T_world_Step)) 23 rfl rfl (lb rfl) Tryd.underlying31 ti24 rfl (.cons (svA q3 rfl) .nil) rfl rfl (by decide)) <|
      ils_cons rfl (iop_appT E_world_Step 24 rfl rfl (lb rfl) Tryd.underlying31 ti24 rfl rfl rfl rfl (svg rfl) hx32) <|
      ils_cons rfl (iop_assign rfl rfl (lb rfl) (sv (d := .gsl _ _ _) rfl)) <|
      ils_nil ?_)
     refine blockQ_n ?_
     refine blockQ_n ?_
     refine thenQ_n ?_
     obtain ⟨x33, hx33, h⟩ := bnd_e h
     refine iwp_region (ils_cons rfl (mvI rfl rfl rfl rfl) <|
      ils_cons rfl (iop_intx rfl rfl (lb rfl) (svI rfl) (sv (d := .int _ 1) rfl) rfl hx33) <|
      ils_cons rfl (asI rfl rfl rfl rfl) <|
      ils_nil ?_)
     refine thenQ_n ⟨(n0, x28.2.1, x32, x33), (fun i => if i = 21 then 24 else i), ⟨(.sames rfl rfl), (.cons (.tail rfl) .nil), nd_of [24] rfl (by decide), (fun i hi => by first | rfl | (show (if _ then _ else _) = _; (repeat' split) <;> omega))⟩, ?_, ?_⟩
     exact h
     exact Nat.lt_succ_self _
    ·
     replace h := bif_f h hc31
     obtain ⟨x34, hx34, h⟩ := bnd_e h
     refine iwp_reg (ils_cons rfl (iop_cmpx rfl rfl (lb rfl) (svI rfl) (sv (d := .int _ 6) rfl) rfl hx34) <|
      ils_cons rfl (asB rfl rfl rfl rfl) <|
      ils_end ?_)
     refine iwp_cond (b := _) rfl (fun hc35 => ?_) (fun hc35 => ?_)
     ·
      replace h := bif_t h hc35
      refine iwp_skip ?_
      refine blockQ_n ?_
      refine blockQ_n ?_
      refine thenQ_n ?_
      obtain ⟨x36, hx36, h⟩ := bnd_e h
      refine iwp_region (ils_cons rfl (mvI rfl rfl rfl rfl) <|
       ils_cons rfl (iop_intx rfl rfl (lb rfl) (svI rfl) (sv (d := .int _ 1) rfl) rfl hx36) <|
       ils_cons rfl (asI rfl rfl rfl rfl) <|
       ils_nil ?_)
      refine thenQ_n ⟨(n0, x28.2.1, v13, x36), (fun i => i), ⟨(.sames rfl rfl), (.cons (.tail rfl) .nil), nd_of [21] rfl (by decide), fun _ _ => rfl⟩, ?_, ?_⟩
      exact h
      exact Nat.lt_succ_self _
     ·
      replace h := bif_f h hc35
      refine iwp_reg (ils_cons rfl (mvI rfl rfl rfl rfl) <|
       ils_cons rfl (mvI rfl rfl rfl rfl) <|
       ils_cons rfl (iop_assign rfl rfl (lb rfl) (sv (d := .nils) rfl)) <|
       ils_cons rfl (asI rfl rfl rfl rfl) <|
       ils_cons rfl (asI rfl rfl rfl rfl) <|
       ils_end ?_)
      refine iwp_ret ?_
      refine blockQ_r ?_
      refine blockQ_r ?_
      refine thenQ_r ?_
      refine thenQ_r ?_
      refine blockQ_r ?_
      refine thenQ_r ?_
      obtain rfl := Option.some.inj h
      refine ⟨.inr rfl, (.cons (svn_of rfl rfl) (.cons (sv rfl) (.cons (sv rfl) .nil)))⟩
   ·
    replace h := bif_f h hc27
    refine iwp_exit ?_
    refine thenQ_e ?_
    refine thenQ_e ?_
    refine blockQ_e ?_
    refine thenQ_n ?_
    refine iwp_reg (ils_cons rfl (iop_move rfl rfl (lb rfl) (sv (d := .gsl _ _ _) rfl)) <|
     ils_cons rfl (iop_assign rfl rfl (lb rfl) (sv (d := .gsl _ _ _) rfl)) <|
     ils_cons rfl (iop_assign rfl rfl (lb rfl) (sv (d := .int _ 0) rfl)) <|
     ils_cons rfl (iop_assign rfl rfl (lb rfl) (sv (d := .int _ 0) rfl)) <|
     ils_end ?_)
    refine iwp_ret ?_
    obtain rfl := Option.some.inj h
    refine ⟨.inr rfl, (.cons (svg_of rfl rfl) (.cons (sv rfl) (.cons (sv rfl) .nil)))⟩

theorem p_console_Tell (a0 : T_world_Answer) (r : (List UInt8)) (h : console_Tell a0 = some r) : PureAt Tryd.prog 21 [.agg (v1 a0)] (.str r) := by
 refine pure_of_iwp (rs := [.str r]) Tryd.func21 rfl Tryd.ntmps21 (nle rfl) rfl fun O hO => ?_
 show IWP _ _ _ _ ⟨[(0, .agg (v1 a0))], []⟩ _
 unfold console_Tell at h
 refine iwp_reg (ils_cons rfl (iop_box' (cs := q4) 0 rfl rfl (lb rfl) rfl (svA q4 rfl) rfl rfl) <|
  ils_cons rfl (iop_assign rfl rfl (lb rfl) (sv (d := .str []) rfl)) <|
  ils_end ?_)
 obtain ⟨x1, hx1, h⟩ := bno_e h
 obtain ⟨x2, hx2, h⟩ := bno_e h
 obtain ⟨x3, hx3, h⟩ := bno_e h
 obtain ⟨x4, hx4, h⟩ := bno_e h
 refine iwp_drw rfl [⟨[1], [], [(6, .ref 0 0)], []⟩,
  ⟨[6], [0], [(7, .int .i64 a0.N)], []⟩,
  ⟨[7], [], [(8, .str x1)], []⟩,
  ⟨[1], [], [(9, .ref 0 1)], []⟩,
  ⟨[9], [0], [(10, .int .i64 a0.E)], []⟩,
  ⟨[10], [], [(11, .str x2)], []⟩,
  ⟨[1], [], [(12, .ref 0 2)], []⟩,
  ⟨[12], [0], [(13, .str a0.Text)], []⟩,
  ⟨[13], [], [(14, .str x3)], []⟩,
  ⟨[1], [], [(15, .ref 0 3)], []⟩,
  ⟨[15], [0], [(16, .bool a0.End)], []⟩,
  ⟨[16], [], [(17, .str x4)], []⟩,
  ⟨[8, 11, 14, 17], [1], [(18, .gsl 1 eStr.sz (([x1, x2, x3, x4] : (List (List UInt8))).map eStr.d))], [(1, .tail 9 eStr.sz ([x1, x2, x3, x4] : (List (List UInt8))).length)]⟩,
  ⟨[18], [], [(3, .gsl 1 eStr.sz (([x1, x2, x3, x4] : (List (List UInt8))).map eStr.d))], []⟩] rfl ?_ (by kernel_rfl) ?_
 ·refine .cons (lop rfl rfl fun S hA => (iop_fieldAddr_ref rfl rfl (lb rfl) Tryd.underlying52 rfl ti3 (by decide) (svaR hA rfl rfl) (off' := 0) rfl)) ?_
  refine .cons (lop rfl rfl fun S hA => (iop_load_rs (d := .int _ _) rfl rfl (lb rfl) Tryd.underlying3 ag3 ti3 (by decide) (svaR hA rfl rfl) (agi hA rfl rfl) (nle rfl) rfl)) ?_
  refine .cons (lop rfl rfl fun S hA => (iop_call (r := .str _) rfl rfl (lb rfl) cl33 (.cons (svaI hA rfl rfl) .nil) rfl (p_strconv_Itoa _ _ hx1))) ?_
  refine .cons (lop rfl rfl fun S hA => (iop_fieldAddr_ref rfl rfl (lb rfl) Tryd.underlying52 rfl ti25 (by decide) (svaR hA rfl rfl) (off' := 1) rfl)) ?_
  refine .cons (lop rfl rfl fun S hA => (iop_load_rs (d := .int _ _) rfl rfl (lb rfl) Tryd.underlying25 ag25 ti25 (by decide) (svaR hA rfl rfl) (agi hA rfl rfl) (nle rfl) rfl)) ?_
  refine .cons (lop rfl rfl fun S hA => (iop_call (r := .str _) rfl rfl (lb rfl) cl33 (.cons (svaI hA rfl rfl) .nil) rfl (p_strconv_Itoa _ _ hx2))) ?_
  refine .cons (lop rfl rfl fun S hA => (iop_fieldAddr_ref rfl rfl (lb rfl) Tryd.underlying52 rfl ti9 (by decide) (svaR hA rfl rfl) (off' := 2) rfl)) ?_
  refine .cons (lop rfl rfl fun S hA => (iop_load_rs (d := .str _) rfl rfl (lb rfl) Tryd.underlying9 ag9 ti9 (by decide) (svaR hA rfl rfl) (agi hA rfl rfl) (nle rfl) rfl)) ?_
  refine .cons (lop rfl rfl fun S hA => (iop_call (r := .str _) rfl rfl (lb rfl) cl34 (.cons (sv (d := .str _) (agr hA rfl rfl)) .nil) rfl (p_console_hex _ _ hx3))) ?_
  refine .cons (lop rfl rfl fun S hA => (iop_fieldAddr_ref rfl rfl (lb rfl) Tryd.underlying52 rfl ti4 (by decide) (svaR hA rfl rfl) (off' := 3) rfl)) ?_
  refine .cons (lop rfl rfl fun S hA => (iop_load_rs (d := .bool _) rfl rfl (lb rfl) Tryd.underlying4 ag4 ti4 (by decide) (svaR hA rfl rfl) (agi hA rfl rfl) (nle rfl) rfl)) ?_
  refine .cons (lop rfl rfl fun S hA => (iop_call (r := .str _) rfl rfl (lb rfl) cl35 (.cons (svaB hA rfl rfl) .nil) rfl (p_console_mark _ _ hx4))) ?_
  refine .cons (lop rfl rfl fun S hA => (iop_bsT eStr ([x1, x2, x3, x4] : (List (List UInt8))) 1 rfl rfl (lb rfl) Tryd.underlying42 ti9 (agi hA rfl rfl) (.cons (sv (d := .str _) (agr hA rfl rfl)) (.cons (sv (d := .str _) (agr hA rfl rfl)) (.cons (sv (d := .str _) (agr hA rfl rfl)) (.cons (sv (d := .str _) (agr hA rfl rfl)) .nil)))) rfl rfl (by decide))) ?_
  refine .cons (lop rfl rfl fun S hA => (iop_assign rfl rfl (lb rfl) (sv (d := .gsl _ _ _) (agr hA rfl rfl)))) ?_
  exact .nil
 refine iwp_seq ?_
 refine iwp_reg (ils_cons rfl (faR 4 rfl rfl rfl Tryd.underlying52 rfl ti50 (lb rfl) rfl rfl) <|
  ils_cons rfl (lrL la50 rfl rfl rfl rfl rfl (nle rfl) rfl) <|
  ils_cons rfl (iop_lenT E_session_Event (l := a0.Events) rfl rfl (lb rfl) Tryd.underlying50 (svL rfl)) <|
  ils_cons rfl (iop_move rfl rfl (lb rfl) (sv (d := .int _ 0) rfl)) <|
  ils_end ?_)
 refine iwp_block ?_
 refine iwp_loopP (α := Nat × (List (List UInt8)) × Int) (fun z => ⟨[(3, .gsl 1 eStr.sz (z.2.1.map eStr.d)), (20, .slice false (a0.Events.map E_session_Event.d)), (21, .int .i64 (a0.Events.length : Int)), (22, .int .i64 z.2.2)], [(1, .tail 9 eStr.sz z.2.1.length)]⟩) (fun z => console_Tell_L0 a0 z.1 z.2.1 z.2.2 = some r) (fun z => z.1) (fuel, ([x1, x2, x3, x4] : (List (List UInt8))), 0) (fun i => i) ⟨(.sames rfl rfl), (.cons (.tail rfl) .nil), nd_of [1] rfl (by decide), fun _ _ => rfl⟩ ?_ ?_
 ·exact h
 ·
  rintro ⟨n0, v17, v18⟩ h
  cases n0 with
  | zero => exact absurd h (by unfold console_Tell_L0; exact nofun)
  | succ n0 =>
   unfold console_Tell_L0 at h
   obtain ⟨x31, hx31, h⟩ := bnd_e h
   refine iwp_reg (ils_cons rfl (iop_cmpx rfl rfl (lb rfl) (svI rfl) (svI rfl) rfl hx31) <|
    ils_end ?_)
   refine iwp_seq ?_
   refine iwp_cond (b := _) rfl (fun hc32 => ?_) (fun hc32 => ?_)
   ·
    replace h := bif_t h hc32
    refine iwp_skip ?_
    refine thenQ_n ?_
    refine iwp_seq ?_
    refine iwp_block ?_
    obtain ⟨x33, hx33, h⟩ := bno_e h
    refine iwp_reg (ils_cons rfl (iop_idxT E_session_Event (cs := q7) rfl rfl (lb rfl) Tryd.underlying50 ti54 (svL rfl) (svI rfl) hx33 rfl rfl) <|
     ils_cons rfl (iop_load_fa (cs := q7) rfl rfl (lb rfl) Tryd.underlying54 ag54 ti54 (by decide) (sv (d := .fptr q7) rfl) (nle rfl) rfl) <|
     ils_cons rfl (iop_allocS (cs := q7) (cs' := [.int .i64 0, .int .i64 0, .int .i64 0]) 2 rfl rfl (lb rfl) rfl ti54 rfl rfl (.all _)) <|
     ils_cons rfl (stA q7 q7 ti54 rfl rfl rfl rfl rfl rfl rfl rfl (nle rfl) rfl) <|
     ils_end ?_)
    obtain ⟨x34, hx34, h⟩ := bno_e h
    obtain ⟨x35, hx35, h⟩ := bno_e h
    obtain ⟨x36, hx36, h⟩ := bno_e h
    obtain ⟨x37, hx37, h⟩ := bno_e h
    obtain ⟨x38, hx38, h⟩ := bno_e h
    obtain ⟨x39, hx39, h⟩ := bno_e h
    obtain ⟨x40, hx40, h⟩ := bno_e h
    obtain ⟨x41, hx41, h⟩ := bno_e h
    refine iwp_draw rfl [⟨[3], [], [(26, .gsl 1 eStr.sz (v17.map eStr.d))], []⟩,
     ⟨[5], [], [(27, .ref 2 0)], []⟩,
     ⟨[27], [2], [(28, .int .i64 x33.Kind)], []⟩,
     ⟨[28], [], [(29, .str x34)], []⟩,
     ⟨[29], [], [(30, .str x35)], []⟩,
     ⟨[5], [], [(31, .ref 2 1)], []⟩,
     ⟨[31], [2], [(32, .int .i64 x33.ID)], []⟩,
     ⟨[32], [], [(33, .str x36)], []⟩,
     ⟨[30, 33], [], [(34, .str x37)], []⟩,
     ⟨[34], [], [(35, .str x38)], []⟩,
     ⟨[5], [], [(36, .ref 2 2)], []⟩,
     ⟨[36], [2], [(37, .int .i64 x33.Code)], []⟩,
     ⟨[37], [], [(38, .str x39)], []⟩,
     ⟨[35, 38], [], [(39, .str x40)], []⟩,
     ⟨[39], [3], [(40, .gsl 3 eStr.sz (([x40] : (List (List UInt8))).map eStr.d))], [(3, .tail 9 eStr.sz ([x40] : (List (List UInt8))).length)]⟩,
     ⟨[26, 40], [1, 4], [(41, .gsl 4 eStr.sz (x41.map eStr.d))], [(4, .tail 9 eStr.sz x41.length), (1, .none)]⟩,
     ⟨[41], [], [(3, .gsl 4 eStr.sz (x41.map eStr.d))], []⟩] rfl ?_ (by kernel_rfl) ?_
    ·refine .cons (lop rfl rfl fun S hA => (iop_move rfl rfl (lb rfl) (sv (d := .gsl _ _ _) (agr hA rfl rfl)))) ?_
     refine .cons (lop rfl rfl fun S hA => (iop_fieldAddr_ref rfl rfl (lb rfl) Tryd.underlying54 rfl ti3 (by decide) (svaR hA rfl rfl) (off' := 0) rfl)) ?_
     refine .cons (lop rfl rfl fun S hA => (iop_load_rs (d := .int _ _) rfl rfl (lb rfl) Tryd.underlying3 ag3 ti3 (by decide) (svaR hA rfl rfl) (agi hA rfl rfl) (nle rfl) rfl)) ?_
     refine .cons (lop rfl rfl fun S hA => (iop_call (r := .str _) rfl rfl (lb rfl) cl33 (.cons (svaI hA rfl rfl) .nil) rfl (p_strconv_Itoa _ _ hx34))) ?_
     refine .cons (lop rfl rfl fun S hA => (iop_catx rfl rfl (lb rfl) (sv (d := .str _) (agr hA rfl rfl)) (sv (d := .str [58]) rfl) hx35)) ?_
     refine .cons (lop rfl rfl fun S hA => (iop_fieldAddr_ref rfl rfl (lb rfl) Tryd.underlying54 rfl ti3 (by decide) (svaR hA rfl rfl) (off' := 1) rfl)) ?_
     refine .cons (lop rfl rfl fun S hA => (iop_load_rs (d := .int _ _) rfl rfl (lb rfl) Tryd.underlying3 ag3 ti3 (by decide) (svaR hA rfl rfl) (agi hA rfl rfl) (nle rfl) rfl)) ?_
     refine .cons (lop rfl rfl fun S hA => (iop_call (r := .str _) rfl rfl (lb rfl) cl33 (.cons (svaI hA rfl rfl) .nil) rfl (p_strconv_Itoa _ _ hx36))) ?_
     refine .cons (lop rfl rfl fun S hA => (iop_catx rfl rfl (lb rfl) (sv (d := .str _) (agr hA rfl rfl)) (sv (d := .str _) (agr hA rfl rfl)) hx37)) ?_
     refine .cons (lop rfl rfl fun S hA => (iop_catx rfl rfl (lb rfl) (sv (d := .str _) (agr hA rfl rfl)) (sv (d := .str [58]) rfl) hx38)) ?_
     refine .cons (lop rfl rfl fun S hA => (iop_fieldAddr_ref rfl rfl (lb rfl) Tryd.underlying54 rfl ti3 (by decide) (svaR hA rfl rfl) (off' := 2) rfl)) ?_
     refine .cons (lop rfl rfl fun S hA => (iop_load_rs (d := .int _ _) rfl rfl (lb rfl) Tryd.underlying3 ag3 ti3 (by decide) (svaR hA rfl rfl) (agi hA rfl rfl) (nle rfl) rfl)) ?_
     refine .cons (lop rfl rfl fun S hA => (iop_call (r := .str _) rfl rfl (lb rfl) cl33 (.cons (svaI hA rfl rfl) .nil) rfl (p_strconv_Itoa _ _ hx39))) ?_
     refine .cons (lop rfl rfl fun S hA => (iop_catx rfl rfl (lb rfl) (sv (d := .str _) (agr hA rfl rfl)) (sv (d := .str _) (agr hA rfl rfl)) hx40)) ?_
     refine .cons (lop rfl rfl fun S hA => (iop_bsT eStr ([x40] : (List (List UInt8))) 3 rfl rfl (lb rfl) Tryd.underlying42 ti9 (agi hA rfl rfl) (.cons (sv (d := .str _) (agr hA rfl rfl)) .nil) rfl rfl (by decide))) ?_
     refine .cons (lop rfl rfl fun S hA => (iop_appT eStr 4 rfl rfl (lb rfl) Tryd.underlying42 ti9 rfl (agr hA rfl rfl) (agi hA rfl rfl) (agi hA rfl rfl) (svg (agr hA rfl rfl)) hx41)) ?_
     refine .cons (lop rfl rfl fun S hA => (iop_assign rfl rfl (lb rfl) (sv (d := .gsl _ _ _) (agr hA rfl rfl)))) ?_
     exact .nil
    refine blockQ_n ?_
    refine thenQ_n ?_
    obtain ⟨x42, hx42, h⟩ := bnd_e h
    refine iwp_region (ils_cons rfl (iop_intx rfl rfl (lb rfl) (svI rfl) (sv (d := .int _ 1) rfl) rfl hx42) <|
     ils_cons rfl (mvI rfl rfl rfl rfl) <|
     ils_nil ?_)
    refine thenQ_n ⟨(n0, x41, x42), (fun i => if i = 1 then 4 else i), ⟨(.sames rfl rfl), (.cons (.tail rfl) .nil), nd_of [4] rfl (by decide), (fun i hi => by first | rfl | (show (if _ then _ else _) = _; (repeat' split) <;> omega))⟩, ?_, ?_⟩
    exact h
    exact Nat.lt_succ_self _
   ·
    replace h := bif_f h hc32
    refine iwp_exit ?_
    refine thenQ_e ?_
    refine thenQ_e ?_
    refine blockQ_e ?_
    refine thenQ_n ?_
    obtain ⟨x43, hx43, h⟩ := bno_e h
    refine iwp_reg (ils_cons rfl (iop_move rfl rfl (lb rfl) (sv (d := .gsl _ _ _) rfl)) <|
     ils_cons rfl (iop_call (r := .str _) rfl rfl (lb rfl) cl36 (.cons (svg rfl) (.cons (sv (d := .str [32]) rfl) .nil)) rfl (p_strings_Join _ _ _ hx43)) <|
     ils_cons rfl (iop_assign rfl rfl (lb rfl) (sv (d := .str _) rfl)) <|
     ils_end ?_)
    refine iwp_ret ?_
    obtain rfl := Option.some.inj h
    refine ⟨.inr rfl, (.cons (sv rfl) .nil)⟩

theorem p_sennitlaw33_awake  (r : Bool) (h : sennitlaw33_awake = some r) : PureAt Tryd.prog 8 [] (.bool r) := by
 refine pure_of_iwp (rs := [.bool r]) Tryd.func8 rfl Tryd.ntmps8 (nle rfl) rfl fun O hO => ?_
 show IWP _ _ _ _ ⟨[], []⟩ _
 unfold sennitlaw33_awake at h
 refine iwp_reg (ils_cons rfl (iop_assign rfl rfl (lb rfl) (sv (d := .bool false) rfl)) <|
  ils_end ?_)
 obtain ⟨x1, hx1, h⟩ := bno_e h
 refine iwp_reg (ils_cons rfl (iop_call (r := .tuple q11) rfl rfl (lb rfl) cl9 (.cons (sv (d := .str [119, 114, 105, 116, 101, 32, 48, 32, 49, 32, 54, 56, 54, 57]) rfl) .nil) rfl (p_console_Parse _ _ hx1)) <|
  ils_cons rfl (iop_move rfl rfl (lb rfl) (sv (d := .tuple q11) rfl)) <|
  ils_cons rfl (iop_extract (d := .agg q3) rfl rfl (lb rfl) (sv (d := .tuple q11) rfl) rfl) <|
  ils_cons rfl (iop_extract (d := .int _ _) rfl rfl (lb rfl) (sv (d := .tuple q11) rfl) rfl) <|
  ils_cons rfl (iop_allocS (cs := q3) (cs' := (w12 0 0 0 0 0 0 [] false)) 0 rfl rfl (lb rfl) rfl ti24 rfl rfl (.all _)) <|
  ils_cons rfl (stA q3 q3 ti24 rfl rfl rfl rfl rfl rfl rfl rfl (nle rfl) rfl) <|
  ils_cons rfl (asI rfl rfl rfl rfl) <|
  ils_end ?_)
 obtain ⟨x2, hx2, h⟩ := bno_e h
 refine iwp_reg (ils_cons rfl (iop_call (r := .tuple q11) rfl rfl (lb rfl) cl9 (.cons (sv (d := .str [35, 32, 120]) rfl) .nil) rfl (p_console_Parse _ _ hx2)) <|
  ils_cons rfl (iop_move rfl rfl (lb rfl) (sv (d := .tuple q11) rfl)) <|
  ils_cons rfl (iop_extract (d := .agg q3) rfl rfl (lb rfl) (sv (d := .tuple q11) rfl) rfl) <|
  ils_cons rfl (iop_extract (d := .int _ _) rfl rfl (lb rfl) (sv (d := .tuple q11) rfl) rfl) <|
  ils_cons rfl (iop_allocS (cs := q3) (cs' := (w12 0 0 0 0 0 0 [] false)) 1 rfl rfl (lb rfl) rfl ti24 rfl rfl (.all _)) <|
  ils_cons rfl (stA q3 q3 ti24 rfl rfl rfl rfl rfl rfl rfl rfl (nle rfl) rfl) <|
  ils_cons rfl (asI rfl rfl rfl rfl) <|
  ils_end ?_)
 obtain ⟨x3, hx3, h⟩ := bno_e h
 refine iwp_reg (ils_cons rfl (iop_call (r := .tuple q11) rfl rfl (lb rfl) cl9 (.cons (sv (d := .str [119, 114, 105, 116, 32, 48, 32, 49, 32, 45]) rfl) .nil) rfl (p_console_Parse _ _ hx3)) <|
  ils_cons rfl (iop_move rfl rfl (lb rfl) (sv (d := .tuple q11) rfl)) <|
  ils_cons rfl (iop_extract (d := .agg q3) rfl rfl (lb rfl) (sv (d := .tuple q11) rfl) rfl) <|
  ils_cons rfl (iop_extract (d := .int _ _) rfl rfl (lb rfl) (sv (d := .tuple q11) rfl) rfl) <|
  ils_cons rfl (iop_allocS (cs := q3) (cs' := (w12 0 0 0 0 0 0 [] false)) 2 rfl rfl (lb rfl) rfl ti24 rfl rfl (.all _)) <|
  ils_cons rfl (stA q3 q3 ti24 rfl rfl rfl rfl rfl rfl rfl rfl (nle rfl) rfl) <|
  ils_cons rfl (asI rfl rfl rfl rfl) <|
  ils_end ?_)
 obtain ⟨x4, hx4, h⟩ := bno_e h
 refine iwp_reg (ils_cons rfl (iop_call (r := .tuple q11) rfl rfl (lb rfl) cl9 (.cons (sv (d := .str [99, 108, 111, 115, 101, 32, 48, 32, 48, 49]) rfl) .nil) rfl (p_console_Parse _ _ hx4)) <|
  ils_cons rfl (iop_move rfl rfl (lb rfl) (sv (d := .tuple q11) rfl)) <|
  ils_cons rfl (iop_extract (d := .agg q3) rfl rfl (lb rfl) (sv (d := .tuple q11) rfl) rfl) <|
  ils_cons rfl (iop_extract (d := .int _ _) rfl rfl (lb rfl) (sv (d := .tuple q11) rfl) rfl) <|
  ils_cons rfl (iop_allocS (cs := q3) (cs' := (w12 0 0 0 0 0 0 [] false)) 3 rfl rfl (lb rfl) rfl ti24 rfl rfl (.all _)) <|
  ils_cons rfl (stA q3 q3 ti24 rfl rfl rfl rfl rfl rfl rfl rfl (nle rfl) rfl) <|
  ils_cons rfl (asI rfl rfl rfl rfl) <|
  ils_end ?_)
 obtain ⟨x5, hx5, h⟩ := bno_e h
 refine iwp_reg (ils_cons rfl (iop_build_struct (cs := q3) rfl rfl (lb rfl) Tryd.underlying24 ti24 pl24 rfl (.cons (sv (d := .int _ 11) rfl) (.cons (sv (d := .int _ 3) rfl) (.cons (sv (d := .bool true) rfl) .nil))) rfl) <|
  ils_cons rfl (iop_call (r := .tuple q10) rfl rfl (lb rfl) cl15 (.cons (svA q3 rfl) .nil) rfl (p_console_Print _ _ hx5)) <|
  ils_cons rfl (iop_move rfl rfl (lb rfl) (sv (d := .tuple q10) rfl)) <|
  ils_cons rfl (iop_extract (d := .str _) rfl rfl (lb rfl) (sv (d := .tuple q10) rfl) rfl) <|
  ils_cons rfl (iop_extract (d := .int _ _) rfl rfl (lb rfl) (sv (d := .tuple q10) rfl) rfl) <|
  ils_cons rfl (iop_assign rfl rfl (lb rfl) (sv (d := .str _) rfl)) <|
  ils_cons rfl (asI rfl rfl rfl rfl) <|
  ils_end ?_)
 obtain ⟨x6, hx6, h⟩ := bno_e h
 refine iwp_reg (ils_cons rfl (iop_build_struct (cs := q3) rfl rfl (lb rfl) Tryd.underlying24 ti24 pl24 rfl (.cons (sv (d := .int _ 8) rfl) (.cons (sv (d := .int _ 1) rfl) (.cons (sv (d := .int _ 2) rfl) .nil))) rfl) <|
  ils_cons rfl (iop_call (r := .tuple q10) rfl rfl (lb rfl) cl15 (.cons (svA q3 rfl) .nil) rfl (p_console_Print _ _ hx6)) <|
  ils_cons rfl (iop_move rfl rfl (lb rfl) (sv (d := .tuple q10) rfl)) <|
  ils_cons rfl (iop_extract (d := .str _) rfl rfl (lb rfl) (sv (d := .tuple q10) rfl) rfl) <|
  ils_cons rfl (iop_extract (d := .int _ _) rfl rfl (lb rfl) (sv (d := .tuple q10) rfl) rfl) <|
  ils_cons rfl (iop_assign rfl rfl (lb rfl) (sv (d := .str _) rfl)) <|
  ils_cons rfl (asI rfl rfl rfl rfl) <|
  ils_end ?_)
 obtain ⟨x7, hx7, h⟩ := bno_e h
 refine iwp_reg (ils_cons rfl (iop_call (r := .tuple q6) rfl rfl (lb rfl) cl11 (.cons (sv (d := .str [116, 105, 99, 107, 32, 49, 10, 10, 99, 108, 111, 115, 101, 32, 50, 32, 49]) rfl) .nil) rfl (p_console_Script _ _ hx7)) <|
  ils_cons rfl (iop_move rfl rfl (lb rfl) (sv (d := .tuple q6) rfl)) <|
  ils_cons rfl (iop_extract (d := .slice _ _) rfl rfl (lb rfl) (sv (d := .tuple q6) rfl) rfl) <|
  ils_cons rfl (iop_extract (d := .int _ _) rfl rfl (lb rfl) (sv (d := .tuple q6) rfl) rfl) <|
  ils_cons rfl (iop_extract (d := .int _ _) rfl rfl (lb rfl) (sv (d := .tuple q6) rfl) rfl) <|
  ils_cons rfl (iop_assign rfl rfl (lb rfl) (svL rfl)) <|
  ils_cons rfl (asI rfl rfl rfl rfl) <|
  ils_cons rfl (asI rfl rfl rfl rfl) <|
  ils_end ?_)
 obtain ⟨x8, hx8, h⟩ := bno_e h
 refine iwp_reg (ils_cons rfl (iop_build_struct (cs := q7) rfl rfl (lb rfl) Tryd.underlying54 ti54 pl54 rfl (.cons (sv (d := .int _ 1) rfl) (.cons (sv (d := .int _ 2) rfl) (.cons (sv (d := .int _ 3) rfl) .nil))) rfl) <|
  ils_cons rfl (iop_bsT E_session_Event ([(⟨1, 2, 3⟩ : T_session_Event)] : (List T_session_Event)) 4 rfl rfl (lb rfl) Tryd.underlying50 ti54 rfl (.cons (svA q7 rfl) .nil) rfl rfl (by decide)) <|
  ils_cons rfl (iop_build_struct (cs := q4) rfl rfl (lb rfl) Tryd.underlying52 ti52 pl52 rfl (.cons (sv (d := .int _ 5) rfl) (.cons (sv (d := .int _ 6) rfl) (.cons (sv (d := .str [104, 105]) rfl) (.cons (svg rfl) .nil)))) rfl) <|
  ils_cons rfl (iop_call (r := .str _) rfl rfl (lb rfl) cl21 (.cons (svA q4 rfl) .nil) rfl (p_console_Tell _ _ hx8)) <|
  ils_cons rfl (iop_assign rfl rfl (lb rfl) (sv (d := .str _) rfl)) <|
  ils_end ?_)
 obtain ⟨x9, hx9, h⟩ := bno_e h
 refine iwp_reg (ils_cons rfl (iop_call (r := .slice _ _) rfl rfl (lb rfl) cl16 .nil rfl (p_console_Names  _ hx9)) <|
  ils_cons rfl (iop_assign rfl rfl (lb rfl) (svL rfl)) <|
  ils_end ?_)
 obtain ⟨x10, hx10, h⟩ := bnd_e h
 obtain ⟨x11, hx11, h⟩ := bnd_e h
 obtain ⟨x12, hx12, h⟩ := bnd_e h
 obtain ⟨x13, hx13, h⟩ := bnd_e h
 obtain ⟨x14, hx14, h⟩ := bnd_e h
 obtain ⟨x15, hx15, h⟩ := bnd_e h
 obtain ⟨x16, hx16, h⟩ := bnd_e h
 obtain ⟨x17, hx17, h⟩ := bnd_e h
 obtain ⟨x18, hx18, h⟩ := bnd_e h
 obtain ⟨x19, hx19, h⟩ := bnd_e h
 obtain ⟨x20, hx20, h⟩ := bnd_e h
 obtain ⟨x21, hx21, h⟩ := bnd_e h
 obtain ⟨x22, hx22, h⟩ := bnd_e h
 obtain ⟨x23, hx23, h⟩ := bnd_e h
 obtain ⟨x24, hx24, h⟩ := bnd_e h
 obtain ⟨x25, hx25, h⟩ := bnd_e h
 obtain ⟨x26, hx26, h⟩ := bnd_e h
 obtain ⟨x27, hx27, h⟩ := bnd_e h
 obtain ⟨x28, hx28, h⟩ := bnd_e h
 obtain ⟨x29, hx29, h⟩ := bnd_e h
 obtain ⟨x30, hx30, h⟩ := bnd_e h
 obtain ⟨x31, hx31, h⟩ := bnd_e h
 obtain ⟨x32, hx32, h⟩ := bnd_e h
 obtain ⟨x33, hx33, h⟩ := bnd_e h
 obtain ⟨x34, hx34, h⟩ := bnd_e h
 obtain ⟨x35, hx35, h⟩ := bno_e h
 obtain ⟨x36, hx36, h⟩ := bnd_e h
 obtain ⟨x37, hx37, h⟩ := bnd_e h
 obtain ⟨x38, hx38, h⟩ := bnd_e h
 obtain ⟨x39, hx39, h⟩ := bnd_e h
 obtain ⟨x40, hx40, h⟩ := bnd_e h
 obtain ⟨x41, hx41, h⟩ := bnd_e h
 obtain ⟨x42, hx42, h⟩ := bnd_e h
 refine iwp_reg (ils_cons rfl (lra q3 la24 rfl rfl rfl rfl rfl (nle rfl) rfl) <|
  ils_cons rfl (iop_build_struct (cs := q3) rfl rfl (lb rfl) Tryd.underlying24 ti24 pl24 rfl (.cons (sv (d := .int _ 1) rfl) (.cons (sv (d := .int _ 1) rfl) (.cons (sv (d := .str [104, 105]) rfl) .nil))) rfl) <|
  ils_cons rfl (iop_eqs rfl rfl (lb rfl) Tryd.underlying24 st24.1 st24.2 (svA q3 rfl) (svA q3 rfl) (congrArg some hx10)) <|
  ils_cons rfl (mvB rfl rfl rfl rfl) <|
  ils_guard rfl rfl (.one rfl) rfl (by decide) (fun hb => (mvI rfl rfl rfl rfl)) <|
  ils_guard rfl rfl (.one rfl) rfl (by decide) (fun hb => (iop_cmpx rfl rfl (lb rfl) (svcI rfl hb) (sv (d := .int _ 0) rfl) rfl hx11)) <|
  ils_cons rfl (iop_andx rfl rfl (lb rfl) (svB rfl) rfl rfl hx12) <|
  ils_cons rfl (mvB rfl rfl rfl rfl) <|
  ils_guard rfl rfl (.one rfl) rfl (by decide) (fun hb => (mvI rfl rfl rfl rfl)) <|
  ils_guard rfl rfl (.one rfl) rfl (by decide) (fun hb => (iop_cmpx rfl rfl (lb rfl) (svcI rfl hb) (sv (d := .int _ 6) rfl) rfl hx13)) <|
  ils_cons rfl (iop_andx rfl rfl (lb rfl) (svB rfl) rfl rfl hx14) <|
  ils_cons rfl (mvB rfl rfl rfl rfl) <|
  ils_guard rfl rfl (.one rfl) rfl (by decide) (fun hb => (mvI rfl rfl rfl rfl)) <|
  ils_guard rfl rfl (.one rfl) rfl (by decide) (fun hb => (iop_cmpx rfl rfl (lb rfl) (svcI rfl hb) (sv (d := .int _ 12) rfl) rfl hx15)) <|
  ils_cons rfl (iop_andx rfl rfl (lb rfl) (svB rfl) rfl rfl hx16) <|
  ils_cons rfl (mvB rfl rfl rfl rfl) <|
  ils_guard rfl rfl (.one rfl) rfl (by decide) (fun hb => (mvI rfl rfl rfl rfl)) <|
  ils_guard rfl rfl (.one rfl) rfl (by decide) (fun hb => (iop_cmpx rfl rfl (lb rfl) (svcI rfl hb) (sv (d := .int _ 60) rfl) rfl hx17)) <|
  ils_cons rfl (iop_andx rfl rfl (lb rfl) (svB rfl) rfl rfl hx18) <|
  ils_cons rfl (mvB rfl rfl rfl rfl) <|
  ils_guard rfl rfl (.one rfl) rfl (by decide) (fun hb => (iop_move rfl rfl (lb rfl) (sv (d := .str _) rfl))) <|
  ils_guard rfl rfl (.one rfl) rfl (by decide) (fun hb => (iop_strx rfl rfl (lb rfl) (svc (d := .str _) rfl hb) (sv (d := .str [99, 111, 109, 101, 32, 51, 32, 43]) rfl) rfl hx19)) <|
  ils_cons rfl (iop_andx rfl rfl (lb rfl) (svB rfl) rfl rfl hx20) <|
  ils_cons rfl (mvB rfl rfl rfl rfl) <|
  ils_guard rfl rfl (.one rfl) rfl (by decide) (fun hb => (mvI rfl rfl rfl rfl)) <|
  ils_guard rfl rfl (.one rfl) rfl (by decide) (fun hb => (iop_cmpx rfl rfl (lb rfl) (svcI rfl hb) (sv (d := .int _ 0) rfl) rfl hx21)) <|
  ils_cons rfl (iop_andx rfl rfl (lb rfl) (svB rfl) rfl rfl hx22) <|
  ils_cons rfl (mvB rfl rfl rfl rfl) <|
  ils_guard rfl rfl (.one rfl) rfl (by decide) (fun hb => (mvI rfl rfl rfl rfl)) <|
  ils_guard rfl rfl (.one rfl) rfl (by decide) (fun hb => (iop_cmpx rfl rfl (lb rfl) (svcI rfl hb) (sv (d := .int _ 2) rfl) rfl hx23)) <|
  ils_cons rfl (iop_andx rfl rfl (lb rfl) (svB rfl) rfl rfl hx24) <|
  ils_cons rfl (mvB rfl rfl rfl rfl) <|
  ils_guard rfl rfl (.one rfl) rfl (by decide) (fun hb => (mvL rfl rfl rfl rfl)) <|
  ils_guard rfl rfl (.one rfl) rfl (by decide) (fun hb => (iop_lenT E_world_Step (l := x7.1) rfl rfl (lb rfl) Tryd.underlying31 (svcL rfl hb))) <|
  ils_guard rfl rfl (.one rfl) rfl (by decide) (fun hb => (iop_cmpx rfl rfl (lb rfl) (svcI rfl hb) (sv (d := .int _ 0) rfl) rfl hx25)) <|
  ils_cons rfl (iop_andx rfl rfl (lb rfl) (svB rfl) rfl rfl hx26) <|
  ils_cons rfl (mvB rfl rfl rfl rfl) <|
  ils_guard rfl rfl (.one rfl) rfl (by decide) (fun hb => (mvI rfl rfl rfl rfl)) <|
  ils_guard rfl rfl (.one rfl) rfl (by decide) (fun hb => (iop_cmpx rfl rfl (lb rfl) (svcI rfl hb) (sv (d := .int _ 3) rfl) rfl hx27)) <|
  ils_cons rfl (iop_andx rfl rfl (lb rfl) (svB rfl) rfl rfl hx28) <|
  ils_cons rfl (mvB rfl rfl rfl rfl) <|
  ils_guard rfl rfl (.one rfl) rfl (by decide) (fun hb => (mvI rfl rfl rfl rfl)) <|
  ils_guard rfl rfl (.one rfl) rfl (by decide) (fun hb => (iop_cmpx rfl rfl (lb rfl) (svcI rfl hb) (sv (d := .int _ 60) rfl) rfl hx29)) <|
  ils_cons rfl (iop_andx rfl rfl (lb rfl) (svB rfl) rfl rfl hx30) <|
  ils_cons rfl (mvB rfl rfl rfl rfl) <|
  ils_guard rfl rfl (.one rfl) rfl (by decide) (fun hb => (iop_move rfl rfl (lb rfl) (sv (d := .str _) rfl))) <|
  ils_guard rfl rfl (.one rfl) rfl (by decide) (fun hb => (iop_strx rfl rfl (lb rfl) (svc (d := .str _) rfl hb) (sv (d := .str [53, 32, 54, 32, 54, 56, 54, 57, 32, 45, 32, 49, 58, 50, 58, 51]) rfl) rfl hx31)) <|
  ils_cons rfl (iop_andx rfl rfl (lb rfl) (svB rfl) rfl rfl hx32) <|
  ils_cons rfl (mvB rfl rfl rfl rfl) <|
  ils_guard rfl rfl (.one rfl) rfl (by decide) (fun hb => (mvL rfl rfl rfl rfl)) <|
  ils_guard rfl rfl (.one rfl) rfl (by decide) (fun hb => (iop_lenT eStr (l := x9) rfl rfl (lb rfl) Tryd.underlying42 (svcL rfl hb))) <|
  ils_guard rfl rfl (.one rfl) rfl (by decide) (fun hb => (iop_cmpx rfl rfl (lb rfl) (svcI rfl hb) (sv (d := .int _ 16) rfl) rfl hx33)) <|
  ils_cons rfl (iop_andx rfl rfl (lb rfl) (svB rfl) rfl rfl hx34) <|
  ils_cons rfl (mvB rfl rfl rfl rfl) <|
  ils_guard rfl rfl (.one rfl) rfl (by decide) (fun hb => (mvL rfl rfl rfl rfl)) <|
  ils_guard rfl rfl (.one rfl) rfl (by decide) (fun hb => (iop_idxT eStr (cs := [.str _]) rfl rfl (lb rfl) Tryd.underlying42 ti9 (svcL rfl hb) (sv (d := .int _ 13) rfl) (gd_t hx35 hb) rfl rfl)) <|
  ils_guard rfl rfl (.one rfl) rfl (by decide) (fun hb => (iop_load_fs rfl rfl (lb rfl) Tryd.underlying9 ag9 ti9 (by decide) (svc (d := .fptr [.str _]) rfl hb) (nle rfl))) <|
  ils_guard rfl rfl (.one rfl) rfl (by decide) (fun hb => (iop_strx rfl rfl (lb rfl) (svc (d := .str _) rfl hb) (sv (d := .str [102, 108, 105, 112]) rfl) rfl hx36)) <|
  ils_cons rfl (iop_andx rfl rfl (lb rfl) (svB rfl) rfl rfl hx37) <|
  ils_cons rfl (mvB rfl rfl rfl rfl) <|
  ils_cons rfl (iop_pickc rfl rfl (lb rfl) (svB rfl) rfl rfl hx38) <|
  ils_cons rfl (mvB rfl rfl rfl rfl) <|
  ils_cons rfl (iop_pickc rfl rfl (lb rfl) (svB rfl) rfl rfl hx39) <|
  ils_cons rfl (mvB rfl rfl rfl rfl) <|
  ils_cons rfl (iop_pickc rfl rfl (lb rfl) (svB rfl) rfl rfl hx40) <|
  ils_cons rfl (mvB rfl rfl rfl rfl) <|
  ils_cons rfl (iop_pickc rfl rfl (lb rfl) (svB rfl) rfl rfl hx41) <|
  ils_cons rfl (mvB rfl rfl rfl rfl) <|
  ils_cons rfl (iop_pickc rfl rfl (lb rfl) (svB rfl) rfl rfl hx42) <|
  ils_cons rfl (asB rfl rfl rfl rfl) <|
  ils_end ?_)
 refine iwp_ret ?_
 obtain rfl := Option.some.inj h
 refine ⟨.inr rfl, (.cons (sv rfl) .nil)⟩

end Go.Proofs.YtmidijokooidcaaDoor
