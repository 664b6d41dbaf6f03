/-
  A part of the proof: rules and plain facts. No condition.
-/
import Derived.Test.YtlmdafogcphbbaaProg
import Derived.KernelRfl
import Derived.Test.YtlmdafogcphbbaaIlRg
import Derived.Test.YtlmdafogcphbbaaIlA16D
set_option linter.all false
set_option linter.unusedSimpArgs false
set_option linter.unusedVariables false
open Go Go.IL Go.Fn Go.Proofs
namespace Go.Proofs.Ytlmdafogcphbbaa
theorem ti3 : TI Try.prog 3 (some (.int .i64 0)) 1 8 := by unfold TI; kernel_rfl
theorem ti4 : TI Try.prog 4 (some (.bool false)) 1 1 := by unfold TI; kernel_rfl
theorem ti5 : TI Try.prog 5 (some (.int .u8 0)) 1 1 := by unfold TI; kernel_rfl
theorem ti9 : TI Try.prog 9 (some (.string ⟨#[]⟩)) 1 16 := by unfold TI; kernel_rfl
theorem ti23 : TI Try.prog 23 (some (.int .i64 0)) 1 8 := by unfold TI; kernel_rfl
theorem ti25 : TI Try.prog 25 (some (.agg #[.string ⟨#[]⟩, .int .i64 0, .int .i64 0])) 3 32 := by unfold TI; kernel_rfl
theorem ti26 : TI Try.prog 26 (some (.slice none 0 0)) 1 24 := by unfold TI; kernel_rfl
theorem ti39 : TI Try.prog 39 (some (.slice none 0 0)) 1 24 := by unfold TI; kernel_rfl
theorem ti44 : TI Try.prog 44 (some (.agg #[.int .u8 0, .bool false, .int .i64 0, .int .i64 0, .int .i64 0, .int .i64 0, .int .i64 0, .int .i64 0, .slice none 0 0, .string ⟨#[]⟩])) 10 96 := by unfold TI; kernel_rfl
theorem ti60 : TI Try.prog 60 (some (.pointer none)) 1 8 := by unfold TI; kernel_rfl
theorem ti66 : TI Try.prog 66 (some (.agg #[.int .i64 0, .int .i64 0])) 2 16 := by unfold TI; kernel_rfl
theorem ti75 : TI Try.prog 75 (some (.pointer none)) 1 8 := by unfold TI; kernel_rfl
theorem ag3 : aggOf Try.prog 3 = false := by kernel_rfl
theorem ag4 : aggOf Try.prog 4 = false := by kernel_rfl
theorem ag5 : aggOf Try.prog 5 = false := by kernel_rfl
theorem ag9 : aggOf Try.prog 9 = false := by kernel_rfl
theorem ag23 : aggOf Try.prog 23 = false := by kernel_rfl
theorem ag25 : aggOf Try.prog 25 = true := by kernel_rfl
theorem ag26 : aggOf Try.prog 26 = false := by kernel_rfl
theorem ag39 : aggOf Try.prog 39 = false := by kernel_rfl
theorem ag44 : aggOf Try.prog 44 = true := by kernel_rfl
theorem ag60 : aggOf Try.prog 60 = false := by kernel_rfl
theorem ag66 : aggOf Try.prog 66 = true := by kernel_rfl
theorem ag75 : aggOf Try.prog 75 = false := by kernel_rfl
theorem pl25 : ∀ w, (Array.mapM (m := Sem) (fun (f : Field) => Functor.map (Prod.mk f.offset) (sizeOf f.type)) (fieldsOf Try.prog 25)).run Try.prog w = .ok #[(0, 1), (1, 1), (2, 1)] w := fun w => by kernel_rfl
theorem pl44 : ∀ w, (Array.mapM (m := Sem) (fun (f : Field) => Functor.map (Prod.mk f.offset) (sizeOf f.type)) (fieldsOf Try.prog 44)).run Try.prog w = .ok #[(0, 1), (1, 1), (2, 1), (3, 1), (4, 1), (5, 1), (6, 1), (7, 1), (8, 1), (9, 1)] w := fun w => by kernel_rfl
theorem pl66 : ∀ w, (Array.mapM (m := Sem) (fun (f : Field) => Functor.map (Prod.mk f.offset) (sizeOf f.type)) (fieldsOf Try.prog 66)).run Try.prog w = .ok #[(0, 1), (1, 1)] w := fun w => by kernel_rfl
theorem st66 : Try.prog.stoodInHeld 66 = false ∧ Try.prog.eqGuardType Try.prog.depth 66 = false := ⟨by kernel_rfl, by kernel_rfl⟩
theorem cl7 : Callable Try.prog 7 := ⟨Try.f7, Try.func7, rfl, rfl⟩
theorem cl8 : Callable Try.prog 8 := ⟨Try.f8, Try.func8, rfl, rfl⟩
theorem cl15 : Callable Try.prog 15 := ⟨Try.f15, Try.func15, rfl, rfl⟩
theorem cl16 : Callable Try.prog 16 := ⟨Try.f16, Try.func16, rfl, rfl⟩
theorem cl18 : Callable Try.prog 18 := ⟨Try.f18, Try.func18, rfl, rfl⟩
theorem cl19 : Callable Try.prog 19 := ⟨Try.f19, Try.func19, rfl, rfl⟩
theorem cl23 : Callable Try.prog 23 := ⟨Try.f23, Try.func23, rfl, rfl⟩
theorem cl24 : Callable Try.prog 24 := ⟨Try.f24, Try.func24, rfl, rfl⟩
theorem cl25 : Callable Try.prog 25 := ⟨Try.f25, Try.func25, rfl, rfl⟩
theorem cl26 : Callable Try.prog 26 := ⟨Try.f26, Try.func26, rfl, rfl⟩
theorem cl27 : Callable Try.prog 27 := ⟨Try.f27, Try.func27, rfl, rfl⟩
theorem cl28 : Callable Try.prog 28 := ⟨Try.f28, Try.func28, rfl, rfl⟩
theorem cl29 : Callable Try.prog 29 := ⟨Try.f29, Try.func29, rfl, rfl⟩
theorem cl30 : Callable Try.prog 30 := ⟨Try.f30, Try.func30, rfl, rfl⟩
theorem cl31 : Callable Try.prog 31 := ⟨Try.f31, Try.func31, rfl, rfl⟩
theorem cl35 : Callable Try.prog 35 := ⟨Try.f35, Try.func35, rfl, rfl⟩
theorem cl36 : Callable Try.prog 36 := ⟨Try.f36, Try.func36, rfl, rfl⟩
theorem cl37 : Callable Try.prog 37 := ⟨Try.f37, Try.func37, rfl, rfl⟩
theorem cl38 : Callable Try.prog 38 := ⟨Try.f38, Try.func38, rfl, rfl⟩
theorem cl39 : Callable Try.prog 39 := ⟨Try.f39, Try.func39, rfl, rfl⟩
theorem cl40 : Callable Try.prog 40 := ⟨Try.f40, Try.func40, rfl, rfl⟩
theorem cl41 : Callable Try.prog 41 := ⟨Try.f41, Try.func41, rfl, rfl⟩
theorem cl43 : Callable Try.prog 43 := ⟨Try.f43, Try.func43, rfl, rfl⟩
theorem cl45 : Callable Try.prog 45 := ⟨Try.f45, Try.func45, rfl, rfl⟩
theorem cl46 : Callable Try.prog 46 := ⟨Try.f46, Try.func46, rfl, rfl⟩

set_option maxRecDepth 8000 in
set_option maxHeartbeats 2000000 in
theorem p_frame_known (a0 : Int) (r : Bool) (h : frame_known a0 = some r) : PureAt Try.prog 27 [.int .u8 a0] (.bool r) := by
  refine pure_of_iwp (rs := [.bool r]) Try.func27 rfl Try.ntmps27 (nle rfl) rfl fun O hO => ?_
  show IWP _ _ _ _ ⟨[(0, .int .u8 a0)], []⟩ _
  unfold frame_known at h
  refine iwp_reg (ils_cons rfl (iop_assign rfl rfl (by decide) (sv (d := .bool false) rfl)) <|
    ils_end ?_)
  obtain ⟨x1, hx1, h⟩ := bnd_e h
  obtain ⟨x2, hx2, h⟩ := bnd_e h
  obtain ⟨x3, hx3, h⟩ := bnd_e h
  refine iwp_reg (ils_cons rfl (iop_move rfl rfl (by decide) (sv (d := .int _ _) rfl)) <|
    ils_cons rfl (iop_cmpx rfl rfl (by decide) (sv (d := .int _ _) rfl) (sv (d := .int _ 10) rfl) rfl hx1) <|
    ils_cons rfl (iop_move rfl rfl (by decide) (sv (d := .bool _) rfl)) <|
    ils_guard rfl rfl (.one rfl) rfl (by decide) (fun hb => (iop_move rfl rfl (by decide) (sv (d := .int _ _) rfl))) <|
    ils_guard rfl rfl (.one rfl) rfl (by decide) (fun hb => (iop_cmpx rfl rfl (by decide) (svc (d := .int _ _) rfl hb) (sv (d := .int _ 5) rfl) rfl hx2)) <|
    ils_cons rfl (iop_andx rfl rfl (by decide) (sv (d := .bool _) rfl) rfl rfl hx3) <|
    ils_cons rfl (iop_assign rfl rfl (by decide) (sv (d := .bool _) rfl)) <|
    ils_end ?_)
  refine iwp_ret ?_
  obtain rfl := Option.some.inj h
  refine ⟨.inr rfl, (.cons (sv rfl) .nil)⟩

set_option maxRecDepth 8000 in
set_option maxHeartbeats 2000000 in
theorem p_math_bits_Len64 (a0 : Int) (r : Int) (h : math_bits_Len64 a0 = some r) : PureAt Try.prog 45 [.int .u64 a0] (.int .i64 r) := by
  refine pure_of_iwp (rs := [.int .i64 r]) Try.func45 rfl Try.ntmps45 (nle rfl) rfl fun O hO => ?_
  show IWP _ _ _ _ ⟨[(0, .int .u64 a0)], []⟩ _
  unfold math_bits_Len64 at h
  refine iwp_reg (ils_cons rfl (iop_assign rfl rfl (by decide) (sv (d := .int _ 0) rfl)) <|
    ils_end ?_)
  refine iwp_join (α := Int × Int) (fun z => ⟨[(0, .int .u64 z.1), (2, .int .i64 z.2)], []⟩) (fun z => math_bits_Len64_J0 z.1 z.2 = some r) ?_ ?_
  ·
    obtain ⟨x30, hx30, h⟩ := bnd_e h
    refine iwp_reg (ils_cons rfl (iop_move rfl rfl (by decide) (sv (d := .int _ _) rfl)) <|
      ils_cons rfl (iop_cmpx rfl rfl (by decide) (sv (d := .int _ _) rfl) (sv (d := .int _ 4294967296) rfl) rfl hx30) <|
      ils_end ?_)
    refine iwp_cond (b := _) rfl (fun hc31 => ?_) (fun hc31 => ?_)
    ·
      replace h := bif_t h hc31
      obtain ⟨x32, hx32, h⟩ := bno_e h
      refine iwp_reg (ils_cons rfl (iop_move rfl rfl (by decide) (sv (d := .int _ _) rfl)) <|
        ils_cons rfl (iop_shrx rfl rfl (by decide) (sv (d := .int _ _) rfl) (sv (d := .int _ 32) rfl) hx32) <|
        ils_cons rfl (iop_assign rfl rfl (by decide) (sv (d := .int _ _) rfl)) <|
        ils_end ?_)
      refine iwp_region (ils_cons rfl (iop_assign rfl rfl (by decide) (sv (d := .int _ 32) rfl)) <|
        ils_nil ?_)
      refine thenQ_n ⟨(x32, 32), (fun i => i), ⟨(.cons (.same rfl rfl) (.cons (.same rfl rfl) .nil)), .nil, nd_of [] rfl (by decide), (fun i hi => by first | rfl | (show (if _ then _ else _) = _; (repeat' split) <;> omega))⟩, ?_⟩
      exact h
    ·
      replace h := bif_f h hc31
      refine iwp_skip ?_
      refine thenQ_n ⟨(a0, 0), (fun i => i), ⟨(.cons (.same rfl rfl) (.cons (.same rfl rfl) .nil)), .nil, nd_of [] rfl (by decide), (fun i hi => by first | rfl | (show (if _ then _ else _) = _; (repeat' split) <;> omega))⟩, ?_⟩
      exact h
  ·
    rintro ⟨v4, v5⟩ h
    unfold math_bits_Len64_J0 at h
    refine iwp_join (α := Int × Int) (fun z => ⟨[(0, .int .u64 z.1), (2, .int .i64 z.2)], []⟩) (fun z => math_bits_Len64_J1 z.1 z.2 = some r) ?_ ?_
    ·
      obtain ⟨x26, hx26, h⟩ := bnd_e h
      refine iwp_reg (ils_cons rfl (iop_move rfl rfl (by decide) (sv (d := .int _ _) rfl)) <|
        ils_cons rfl (iop_cmpx rfl rfl (by decide) (sv (d := .int _ _) rfl) (sv (d := .int _ 65536) rfl) rfl hx26) <|
        ils_end ?_)
      refine iwp_cond (b := _) rfl (fun hc27 => ?_) (fun hc27 => ?_)
      ·
        replace h := bif_t h hc27
        obtain ⟨x28, hx28, h⟩ := bno_e h
        refine iwp_reg (ils_cons rfl (iop_move rfl rfl (by decide) (sv (d := .int _ _) rfl)) <|
          ils_cons rfl (iop_shrx rfl rfl (by decide) (sv (d := .int _ _) rfl) (sv (d := .int _ 16) rfl) hx28) <|
          ils_cons rfl (iop_assign rfl rfl (by decide) (sv (d := .int _ _) rfl)) <|
          ils_end ?_)
        obtain ⟨x29, hx29, h⟩ := bnd_e h
        refine iwp_region (ils_cons rfl (iop_move rfl rfl (by decide) (sv (d := .int _ _) rfl)) <|
          ils_cons rfl (iop_intx rfl rfl (by decide) (sv (d := .int _ _) rfl) (sv (d := .int _ 16) rfl) rfl hx29) <|
          ils_cons rfl (iop_assign rfl rfl (by decide) (sv (d := .int _ _) rfl)) <|
          ils_nil ?_)
        refine thenQ_n ⟨(x28, x29), (fun i => i), ⟨(.cons (.same rfl rfl) (.cons (.same rfl rfl) .nil)), .nil, nd_of [] rfl (by decide), (fun i hi => by first | rfl | (show (if _ then _ else _) = _; (repeat' split) <;> omega))⟩, ?_⟩
        exact h
      ·
        replace h := bif_f h hc27
        refine iwp_skip ?_
        refine thenQ_n ⟨(v4, v5), (fun i => i), ⟨(.cons (.same rfl rfl) (.cons (.same rfl rfl) .nil)), .nil, nd_of [] rfl (by decide), (fun i hi => by first | rfl | (show (if _ then _ else _) = _; (repeat' split) <;> omega))⟩, ?_⟩
        exact h
    ·
      rintro ⟨v10, v11⟩ h
      unfold math_bits_Len64_J1 at h
      refine iwp_join (α := Int × Int) (fun z => ⟨[(0, .int .u64 z.1), (2, .int .i64 z.2)], []⟩) (fun z => math_bits_Len64_J2 z.1 z.2 = some r) ?_ ?_
      ·
        obtain ⟨x22, hx22, h⟩ := bnd_e h
        refine iwp_reg (ils_cons rfl (iop_move rfl rfl (by decide) (sv (d := .int _ _) rfl)) <|
          ils_cons rfl (iop_cmpx rfl rfl (by decide) (sv (d := .int _ _) rfl) (sv (d := .int _ 256) rfl) rfl hx22) <|
          ils_end ?_)
        refine iwp_cond (b := _) rfl (fun hc23 => ?_) (fun hc23 => ?_)
        ·
          replace h := bif_t h hc23
          obtain ⟨x24, hx24, h⟩ := bno_e h
          refine iwp_reg (ils_cons rfl (iop_move rfl rfl (by decide) (sv (d := .int _ _) rfl)) <|
            ils_cons rfl (iop_shrx rfl rfl (by decide) (sv (d := .int _ _) rfl) (sv (d := .int _ 8) rfl) hx24) <|
            ils_cons rfl (iop_assign rfl rfl (by decide) (sv (d := .int _ _) rfl)) <|
            ils_end ?_)
          obtain ⟨x25, hx25, h⟩ := bnd_e h
          refine iwp_region (ils_cons rfl (iop_move rfl rfl (by decide) (sv (d := .int _ _) rfl)) <|
            ils_cons rfl (iop_intx rfl rfl (by decide) (sv (d := .int _ _) rfl) (sv (d := .int _ 8) rfl) rfl hx25) <|
            ils_cons rfl (iop_assign rfl rfl (by decide) (sv (d := .int _ _) rfl)) <|
            ils_nil ?_)
          refine thenQ_n ⟨(x24, x25), (fun i => i), ⟨(.cons (.same rfl rfl) (.cons (.same rfl rfl) .nil)), .nil, nd_of [] rfl (by decide), (fun i hi => by first | rfl | (show (if _ then _ else _) = _; (repeat' split) <;> omega))⟩, ?_⟩
          exact h
        ·
          replace h := bif_f h hc23
          refine iwp_skip ?_
          refine thenQ_n ⟨(v10, v11), (fun i => i), ⟨(.cons (.same rfl rfl) (.cons (.same rfl rfl) .nil)), .nil, nd_of [] rfl (by decide), (fun i hi => by first | rfl | (show (if _ then _ else _) = _; (repeat' split) <;> omega))⟩, ?_⟩
          exact h
      ·
        rintro ⟨v16, v17⟩ h
        unfold math_bits_Len64_J2 at h
        obtain ⟨x18, hx18, h⟩ := bnd_e h
        obtain ⟨x19, hx19, h⟩ := bno_e h
        obtain ⟨x20, hx20, h⟩ := bnd_e h
        obtain ⟨x21, hx21, h⟩ := bnd_e h
        refine iwp_reg (ils_cons rfl (iop_move rfl rfl (by decide) (sv (d := .int _ _) rfl)) <|
          ils_cons rfl (iop_move rfl rfl (by decide) (sv (d := .int _ _) rfl)) <|
          ils_cons rfl (iop_int_conv rfl rfl (by decide) ⟨_, Try.underlying93⟩ Try.underlying5 (sv (d := .int _ _) rfl) hx18) <|
          ils_cons rfl (iop_str_at rfl rfl (by decide) Try.underlying9 (sv (d := .str [0, 1, 2, 2, 3, 3, 3, 3, 4, 4, 4, 4, 4, 4, 4, 4, 5, 5, 5, 5, 5, 5, 5, 5, 5, 5, 5, 5, 5, 5, 5, 5, 6, 6, 6, 6, 6, 6, 6, 6, 6, 6, 6, 6, 6, 6, 6, 6, 6, 6, 6, 6, 6, 6, 6, 6, 6, 6, 6, 6, 6, 6, 6, 6, 7, 7, 7, 7, 7, 7, 7, 7, 7, 7, 7, 7, 7, 7, 7, 7, 7, 7, 7, 7, 7, 7, 7, 7, 7, 7, 7, 7, 7, 7, 7, 7, 7, 7, 7, 7, 7, 7, 7, 7, 7, 7, 7, 7, 7, 7, 7, 7, 7, 7, 7, 7, 7, 7, 7, 7, 7, 7, 7, 7, 7, 7, 7, 7, 8, 8, 8, 8, 8, 8, 8, 8, 8, 8, 8, 8, 8, 8, 8, 8, 8, 8, 8, 8, 8, 8, 8, 8, 8, 8, 8, 8, 8, 8, 8, 8, 8, 8, 8, 8, 8, 8, 8, 8, 8, 8, 8, 8, 8, 8, 8, 8, 8, 8, 8, 8, 8, 8, 8, 8, 8, 8, 8, 8, 8, 8, 8, 8, 8, 8, 8, 8, 8, 8, 8, 8, 8, 8, 8, 8, 8, 8, 8, 8, 8, 8, 8, 8, 8, 8, 8, 8, 8, 8, 8, 8, 8, 8, 8, 8, 8, 8, 8, 8, 8, 8, 8, 8, 8, 8, 8, 8, 8, 8, 8, 8, 8, 8, 8, 8, 8, 8, 8, 8, 8, 8, 8, 8, 8, 8, 8, 8]) rfl) (sv (d := .int _ _) rfl) hx19) <|
          ils_cons rfl (iop_int_conv rfl rfl (by decide) ⟨_, Try.underlying5⟩ Try.underlying3 (sv (d := .int _ _) rfl) hx20) <|
          ils_cons rfl (iop_intx rfl rfl (by decide) (sv (d := .int _ _) rfl) (sv (d := .int _ _) rfl) rfl hx21) <|
          ils_cons rfl (iop_assign rfl rfl (by decide) (sv (d := .int _ _) rfl)) <|
          ils_end ?_)
        refine iwp_ret ?_
        obtain rfl := Option.some.inj h
        refine ⟨.inr rfl, (.cons (sv rfl) .nil)⟩

set_option maxRecDepth 8000 in
set_option maxHeartbeats 2000000 in
theorem p_math_bits_Len (a0 : Int) (r : Int) (h : math_bits_Len a0 = some r) : PureAt Try.prog 36 [.int .u64 a0] (.int .i64 r) := by
  refine pure_of_iwp (rs := [.int .i64 r]) Try.func36 rfl Try.ntmps36 (nle rfl) rfl fun O hO => ?_
  show IWP _ _ _ _ ⟨[(0, .int .u64 a0)], []⟩ _
  unfold math_bits_Len at h
  refine iwp_reg (ils_cons rfl (iop_assign rfl rfl (by decide) (sv (d := .int _ 0) rfl)) <|
    ils_end ?_)
  refine iwp_seq ?_
  refine iwp_cond_f rfl rfl ?_
  refine iwp_skip ?_
  refine thenQ_n ?_
  obtain ⟨x1, hx1, h⟩ := bno_e h
  refine iwp_reg (ils_cons rfl (iop_move rfl rfl (by decide) (sv (d := .int _ _) rfl)) <|
    ils_cons rfl (iop_call (r := .int _ _) rfl rfl (by decide) cl45 (.cons (sv (d := .int _ _) rfl) .nil) rfl (p_math_bits_Len64 _ _ hx1)) <|
    ils_cons rfl (iop_assign rfl rfl (by decide) (sv (d := .int _ _) rfl)) <|
    ils_end ?_)
  refine iwp_ret ?_
  obtain rfl := Option.some.inj h
  refine ⟨.inr rfl, (.cons (sv rfl) .nil)⟩

set_option maxRecDepth 8000 in
set_option maxHeartbeats 2000000 in
theorem p_varint_kind (a0 : Int) (r : Int) (h : varint_kind a0 = some r) : PureAt Try.prog 26 [.int .i64 a0] (.int .i64 r) := by
  refine pure_of_iwp (rs := [.int .i64 r]) Try.func26 rfl Try.ntmps26 (nle rfl) rfl fun O hO => ?_
  show IWP _ _ _ _ ⟨[(0, .int .i64 a0)], []⟩ _
  unfold varint_kind at h
  refine iwp_reg (ils_cons rfl (iop_assign rfl rfl (by decide) (sv (d := .int _ 0) rfl)) <|
    ils_end ?_)
  refine iwp_seq ?_
  obtain ⟨x1, hx1, h⟩ := bnd_e h
  obtain ⟨x2, hx2, h⟩ := bnd_e h
  obtain ⟨x3, hx3, h⟩ := bnd_e h
  refine iwp_reg (ils_cons rfl (iop_move rfl rfl (by decide) (sv (d := .int _ _) rfl)) <|
    ils_cons rfl (iop_cmpx rfl rfl (by decide) (sv (d := .int _ _) rfl) (sv (d := .int _ 0) rfl) rfl hx1) <|
    ils_cons rfl (iop_move rfl rfl (by decide) (sv (d := .bool _) rfl)) <|
    ils_guard rfl rfl (.one rfl) rfl (by decide) (fun hb => (iop_move rfl rfl (by decide) (sv (d := .int _ _) rfl))) <|
    ils_guard rfl rfl (.one rfl) rfl (by decide) (fun hb => (iop_cmpx rfl rfl (by decide) (svc (d := .int _ _) rfl hb) (sv (d := .int _ 4611686018427387903) rfl) rfl hx2)) <|
    ils_cons rfl (iop_orx rfl rfl (by decide) (sv (d := .bool _) rfl) rfl rfl hx3) <|
    ils_end ?_)
  refine iwp_cond (b := _) rfl (fun hc4 => ?_) (fun hc4 => ?_)
  ·
    replace h := bif_t h hc4
    refine iwp_reg (ils_cons rfl (iop_assign rfl rfl (by decide) (sv (d := .int _ (-1)) rfl)) <|
      ils_end ?_)
    refine iwp_ret ?_
    refine thenQ_r ?_
    obtain rfl := Option.some.inj h
    refine ⟨.inr rfl, (.cons (sv rfl) .nil)⟩
  ·
    replace h := bif_f h hc4
    refine iwp_skip ?_
    refine thenQ_n ?_
    refine iwp_seq ?_
    refine iwp_reg (ils_cons rfl (iop_move rfl rfl (by decide) (sv (d := .int _ 0) rfl)) <|
      ils_end ?_)
    refine iwp_block ?_
    refine iwp_loopP (α := Nat × Int) (fun z => ⟨[(0, .int .i64 a0), (10, .int .i64 z.2)], []⟩) (fun z => varint_kind_L0 a0 z.1 z.2 = some r) (fun z => z.1) (fuel, 0) (fun i => i) ⟨(.cons (.same rfl rfl) (.cons (.same rfl rfl) .nil)), .nil, nd_of [] rfl (by decide), (fun i hi => by first | rfl | (show (if _ then _ else _) = _; (repeat' split) <;> omega))⟩ ?_ ?_
    · exact h
    ·
      rintro ⟨n0, v14⟩ h
      cases n0 with
      | zero => exact absurd h (by unfold varint_kind_L0; exact nofun)
      | succ n0 =>
        unfold varint_kind_L0 at h
        obtain ⟨x24, hx24, h⟩ := bnd_e h
        refine iwp_reg (ils_cons rfl (iop_cmpx rfl rfl (by decide) (sv (d := .int _ _) rfl) (sv (d := .int _ 4) rfl) rfl hx24) <|
          ils_end ?_)
        refine iwp_seq ?_
        refine iwp_cond (b := _) rfl (fun hc25 => ?_) (fun hc25 => ?_)
        ·
          replace h := bif_t h hc25
          refine iwp_skip ?_
          refine thenQ_n ?_
          refine iwp_seq ?_
          refine iwp_block ?_
          refine iwp_reg (ils_cons rfl (iop_move rfl rfl (by decide) (sv (d := .int _ _) rfl)) <|
            ils_cons rfl (iop_assign rfl rfl (by decide) (sv (d := .int _ _) rfl)) <|
            ils_end ?_)
          obtain ⟨x26, hx26, h⟩ := bnd_e h
          obtain ⟨x27, hx27, h⟩ := bno_e h
          obtain ⟨x28, hx28, h⟩ := bno_e h
          obtain ⟨x29, hx29, h⟩ := bnd_e h
          obtain ⟨x30, hx30, h⟩ := bnd_e h
          refine iwp_drw rfl [⟨[0], [], [(13, .int .i64 a0)], []⟩,
            ⟨[13], [], [(14, .int .u64 x26)], []⟩,
            ⟨[14], [], [(15, .int .i64 x27)], []⟩,
            ⟨[3], [], [(16, .int .i64 v14)], []⟩,
            ⟨[16], [], [(17, .int .i64 x28)], []⟩,
            ⟨[17], [], [(18, .int .i64 x29)], []⟩,
            ⟨[15, 18], [], [(19, .bool x30)], []⟩] rfl ?_ (by kernel_rfl) ?_
          · refine .cons (lop rfl rfl fun S hA => (iop_move rfl rfl (by decide) (sv (d := .int _ _) (agr hA rfl rfl)))) ?_
            refine .cons (lop rfl rfl fun S hA => (iop_int_conv rfl rfl (by decide) ⟨_, Try.underlying3⟩ Try.underlying67 (sv (d := .int _ _) (agr hA rfl rfl)) hx26)) ?_
            refine .cons (lop rfl rfl fun S hA => (iop_call (r := .int _ _) rfl rfl (by decide) cl36 (.cons (sv (d := .int _ _) (agr hA rfl rfl)) .nil) rfl (p_math_bits_Len _ _ hx27))) ?_
            refine .cons (lop rfl rfl fun S hA => (iop_move rfl rfl (by decide) (sv (d := .int _ _) (agr hA rfl rfl)))) ?_
            refine .cons (lop rfl rfl fun S hA => (iop_shlx rfl rfl (by decide) (sv (d := .int _ 8) rfl) (sv (d := .int _ _) (agr hA rfl rfl)) hx28)) ?_
            refine .cons (lop rfl rfl fun S hA => (iop_intx rfl rfl (by decide) (sv (d := .int _ _) (agr hA rfl rfl)) (sv (d := .int _ 2) rfl) rfl hx29)) ?_
            refine .cons (lop rfl rfl fun S hA => (iop_cmpx rfl rfl (by decide) (sv (d := .int _ _) (agr hA rfl rfl)) (sv (d := .int _ _) (agr hA rfl rfl)) rfl hx30)) ?_
            exact .nil
          refine iwp_cond (b := _) rfl (fun hc31 => ?_) (fun hc31 => ?_)
          ·
            replace h := bif_t h hc31
            refine iwp_reg (ils_cons rfl (iop_move rfl rfl (by decide) (sv (d := .int _ _) rfl)) <|
              ils_cons rfl (iop_assign rfl rfl (by decide) (sv (d := .int _ _) rfl)) <|
              ils_end ?_)
            refine iwp_ret ?_
            refine blockQ_r ?_
            refine thenQ_r ?_
            refine thenQ_r ?_
            refine blockQ_r ?_
            refine thenQ_r ?_
            obtain rfl := Option.some.inj h
            refine ⟨.inr rfl, (.cons (sv rfl) .nil)⟩
          ·
            replace h := bif_f h hc31
            refine iwp_skip ?_
            refine blockQ_n ?_
            refine thenQ_n ?_
            obtain ⟨x32, hx32, h⟩ := bnd_e h
            refine iwp_region (ils_cons rfl (iop_intx rfl rfl (by decide) (sv (d := .int _ _) rfl) (sv (d := .int _ 1) rfl) rfl hx32) <|
              ils_cons rfl (iop_move rfl rfl (by decide) (sv (d := .int _ _) rfl)) <|
              ils_nil ?_)
            refine thenQ_n ⟨(n0, x32), (fun i => i), ⟨(.cons (.same rfl rfl) (.cons (.same rfl rfl) .nil)), .nil, nd_of [] rfl (by decide), (fun i hi => by first | rfl | (show (if _ then _ else _) = _; (repeat' split) <;> omega))⟩, ?_, ?_⟩
            exact h
            exact Nat.lt_succ_self _
        ·
          replace h := bif_f h hc25
          refine iwp_exit ?_
          refine thenQ_e ?_
          refine thenQ_e ?_
          refine blockQ_e ?_
          refine thenQ_n ?_
          refine iwp_reg (ils_cons rfl (iop_assign rfl rfl (by decide) (sv (d := .int _ (-1)) rfl)) <|
            ils_end ?_)
          refine iwp_ret ?_
          obtain rfl := Option.some.inj h
          refine ⟨.inr rfl, (.cons (sv rfl) .nil)⟩

set_option maxRecDepth 8000 in
set_option maxHeartbeats 2000000 in
theorem p_varint_Get (a0 : (List UInt8)) (r : (Int × Int × Int)) (h : varint_Get a0 = some r) : PureAt Try.prog 18 [.str a0] (retD [.int .i64 r.1, .int .i64 r.2.1, .int .i64 r.2.2]) := by
  refine pure_of_iwp (rs := [.int .i64 r.1, .int .i64 r.2.1, .int .i64 r.2.2]) Try.func18 rfl Try.ntmps18 (nle rfl) rfl fun O hO => ?_
  show IWP _ _ _ _ ⟨[(0, .str a0)], []⟩ _
  unfold varint_Get at h
  refine iwp_reg (ils_cons rfl (iop_assign rfl rfl (by decide) (sv (d := .int _ 0) rfl)) <|
    ils_cons rfl (iop_assign rfl rfl (by decide) (sv (d := .int _ 0) rfl)) <|
    ils_cons rfl (iop_assign rfl rfl (by decide) (sv (d := .int _ 0) rfl)) <|
    ils_end ?_)
  refine iwp_seq ?_
  obtain ⟨x1, hx1, h⟩ := bnd_e h
  refine iwp_reg (ils_cons rfl (iop_move rfl rfl (by decide) (sv (d := .str _) rfl)) <|
    ils_cons rfl (iop_strx rfl rfl (by decide) (sv (d := .str _) rfl) (sv (d := .str []) rfl) rfl hx1) <|
    ils_end ?_)
  refine iwp_cond (b := _) rfl (fun hc2 => ?_) (fun hc2 => ?_)
  ·
    replace h := bif_t h hc2
    refine iwp_reg (ils_cons rfl (iop_assign rfl rfl (by decide) (sv (d := .int _ 0) rfl)) <|
      ils_cons rfl (iop_assign rfl rfl (by decide) (sv (d := .int _ 0) rfl)) <|
      ils_cons rfl (iop_assign rfl rfl (by decide) (sv (d := .int _ 3) rfl)) <|
      ils_end ?_)
    refine iwp_ret ?_
    refine thenQ_r ?_
    obtain rfl := Option.some.inj h
    refine ⟨.inr rfl, (.cons (sv rfl) (.cons (sv rfl) (.cons (sv rfl) .nil)))⟩
  ·
    replace h := bif_f h hc2
    refine iwp_skip ?_
    refine thenQ_n ?_
    obtain ⟨x3, hx3, h⟩ := bno_e h
    obtain ⟨x4, hx4, h⟩ := bno_e h
    obtain ⟨x5, hx5, h⟩ := bnd_e h
    refine iwp_reg (ils_cons rfl (iop_move rfl rfl (by decide) (sv (d := .str _) rfl)) <|
      ils_cons rfl (iop_str_at rfl rfl (by decide) Try.underlying9 (sv (d := .str _) rfl) (sv (d := .int _ 0) rfl) hx3) <|
      ils_cons rfl (iop_shrx rfl rfl (by decide) (sv (d := .int _ _) rfl) (sv (d := .int _ 6) rfl) hx4) <|
      ils_cons rfl (iop_int_conv rfl rfl (by decide) ⟨_, Try.underlying5⟩ Try.underlying3 (sv (d := .int _ _) rfl) hx5) <|
      ils_cons rfl (iop_assign rfl rfl (by decide) (sv (d := .int _ _) rfl)) <|
      ils_end ?_)
    obtain ⟨x6, hx6, h⟩ := bno_e h
    refine iwp_reg (ils_cons rfl (iop_move rfl rfl (by decide) (sv (d := .int _ _) rfl)) <|
      ils_cons rfl (iop_shlx rfl rfl (by decide) (sv (d := .int _ 1) rfl) (sv (d := .int _ _) rfl) hx6) <|
      ils_cons rfl (iop_assign rfl rfl (by decide) (sv (d := .int _ _) rfl)) <|
      ils_end ?_)
    refine iwp_seq ?_
    obtain ⟨x7, hx7, h⟩ := bnd_e h
    refine iwp_reg (ils_cons rfl (iop_move rfl rfl (by decide) (sv (d := .str _) rfl)) <|
      ils_cons rfl (iop_len_str rfl rfl (by decide) Try.underlying9 (sv (d := .str _) rfl) rfl) <|
      ils_cons rfl (iop_move rfl rfl (by decide) (sv (d := .int _ _) rfl)) <|
      ils_cons rfl (iop_cmpx rfl rfl (by decide) (sv (d := .int _ _) rfl) (sv (d := .int _ _) rfl) rfl hx7) <|
      ils_end ?_)
    refine iwp_cond (b := _) rfl (fun hc8 => ?_) (fun hc8 => ?_)
    ·
      replace h := bif_t h hc8
      refine iwp_reg (ils_cons rfl (iop_assign rfl rfl (by decide) (sv (d := .int _ 0) rfl)) <|
        ils_cons rfl (iop_assign rfl rfl (by decide) (sv (d := .int _ 0) rfl)) <|
        ils_cons rfl (iop_assign rfl rfl (by decide) (sv (d := .int _ 3) rfl)) <|
        ils_end ?_)
      refine iwp_ret ?_
      refine thenQ_r ?_
      obtain rfl := Option.some.inj h
      refine ⟨.inr rfl, (.cons (sv rfl) (.cons (sv rfl) (.cons (sv rfl) .nil)))⟩
    ·
      replace h := bif_f h hc8
      refine iwp_skip ?_
      refine thenQ_n ?_
      obtain ⟨x9, hx9, h⟩ := bno_e h
      obtain ⟨x10, hx10, h⟩ := bnd_e h
      obtain ⟨x11, hx11, h⟩ := bnd_e h
      refine iwp_reg (ils_cons rfl (iop_move rfl rfl (by decide) (sv (d := .str _) rfl)) <|
        ils_cons rfl (iop_str_at rfl rfl (by decide) Try.underlying9 (sv (d := .str _) rfl) (sv (d := .int _ 0) rfl) hx9) <|
        ils_cons rfl (iop_intx rfl rfl (by decide) (sv (d := .int _ _) rfl) (sv (d := .int _ 63) rfl) rfl hx10) <|
        ils_cons rfl (iop_int_conv rfl rfl (by decide) ⟨_, Try.underlying5⟩ Try.underlying3 (sv (d := .int _ _) rfl) hx11) <|
        ils_cons rfl (iop_assign rfl rfl (by decide) (sv (d := .int _ _) rfl)) <|
        ils_end ?_)
      refine iwp_seq ?_
      obtain ⟨x12, hx12, h⟩ := bno_e h
      refine iwp_reg (ils_cons rfl (iop_move rfl rfl (by decide) (sv (d := .str _) rfl)) <|
        ils_cons rfl (iop_move rfl rfl (by decide) (sv (d := .int _ _) rfl)) <|
        ils_cons rfl (iop_cutS rfl rfl (by decide) Try.underlying9 (sv (d := .str _) rfl) ⟨_, (sv (d := .int _ 1) rfl)⟩ ⟨_, (sv (d := .int _ _) rfl)⟩ hx12) <|
        ils_cons rfl (iop_str_bytes rfl rfl (by decide) Try.underlying9 Try.underlying56 Try.underlying5 (sv (d := .str _) rfl)) <|
        ils_cons rfl (iop_lenT eByte (l := x12) rfl rfl (by decide) Try.underlying56 (sv (d := .slice _ _) rfl)) <|
        ils_cons rfl (iop_move rfl rfl (by decide) (sv (d := .int _ 0) rfl)) <|
        ils_end ?_)
      refine iwp_block ?_
      refine iwp_loopP (α := Nat × Int × Int) (fun z => ⟨[(5, .int .i64 x5), (6, .int .i64 x6), (7, .int .i64 z.2.1), (29, .slice false (x12.map eByte.d)), (30, .int .i64 (x12.length : Int)), (31, .int .i64 z.2.2)], []⟩) (fun z => varint_Get_L0 x5 x6 x12 z.1 z.2.1 z.2.2 = some r) (fun z => z.1) (fuel, x11, 0) (fun i => i) ⟨(.cons (.same rfl rfl) (.cons (.same rfl rfl) (.cons (.same rfl rfl) (.cons (.same rfl rfl) (.cons (.same rfl rfl) (.cons (.same rfl rfl) .nil)))))), .nil, nd_of [] rfl (by decide), (fun i hi => by first | rfl | (show (if _ then _ else _) = _; (repeat' split) <;> omega))⟩ ?_ ?_
      · exact h
      ·
        rintro ⟨n0, v20, v21⟩ h
        cases n0 with
        | zero => exact absurd h (by unfold varint_Get_L0; exact nofun)
        | succ n0 =>
          unfold varint_Get_L0 at h
          obtain ⟨x29, hx29, h⟩ := bnd_e h
          refine iwp_reg (ils_cons rfl (iop_cmpx rfl rfl (by decide) (sv (d := .int _ _) rfl) (sv (d := .int _ _) rfl) rfl hx29) <|
            ils_end ?_)
          refine iwp_seq ?_
          refine iwp_cond (b := _) rfl (fun hc30 => ?_) (fun hc30 => ?_)
          ·
            replace h := bif_t h hc30
            refine iwp_skip ?_
            refine thenQ_n ?_
            refine iwp_seq ?_
            refine iwp_block ?_
            obtain ⟨x31, hx31, h⟩ := bno_e h
            refine iwp_reg (ils_cons rfl (iop_idxT eByte (cs := [.int _ _]) rfl rfl (by decide) Try.underlying56 ti5 (sv (d := .slice _ _) rfl) (sv (d := .int _ _) rfl) hx31 rfl rfl) <|
              ils_cons rfl (iop_load_fs rfl rfl (by decide) Try.underlying5 ag5 ti5 (by decide) (sv (d := .fptr [.int _ _]) rfl) (nle rfl)) <|
              ils_cons rfl (iop_assign rfl rfl (by decide) (sv (d := .int _ _) rfl)) <|
              ils_end ?_)
            obtain ⟨x32, hx32, h⟩ := bno_e h
            obtain ⟨x33, hx33, h⟩ := bnd_e h
            obtain ⟨x34, hx34, h⟩ := bnd_e h
            refine iwp_region (ils_cons rfl (iop_move rfl rfl (by decide) (sv (d := .int _ _) rfl)) <|
              ils_cons rfl (iop_shlx rfl rfl (by decide) (sv (d := .int _ _) rfl) (sv (d := .int _ 8) rfl) hx32) <|
              ils_cons rfl (iop_move rfl rfl (by decide) (sv (d := .int _ _) rfl)) <|
              ils_cons rfl (iop_int_conv rfl rfl (by decide) ⟨_, Try.underlying5⟩ Try.underlying3 (sv (d := .int _ _) rfl) hx33) <|
              ils_cons rfl (iop_intx rfl rfl (by decide) (sv (d := .int _ _) rfl) (sv (d := .int _ _) rfl) rfl hx34) <|
              ils_cons rfl (iop_assign rfl rfl (by decide) (sv (d := .int _ _) rfl)) <|
              ils_nil ?_)
            refine blockQ_n ?_
            refine thenQ_n ?_
            obtain ⟨x35, hx35, h⟩ := bnd_e h
            refine iwp_region (ils_cons rfl (iop_intx rfl rfl (by decide) (sv (d := .int _ _) rfl) (sv (d := .int _ 1) rfl) rfl hx35) <|
              ils_cons rfl (iop_move rfl rfl (by decide) (sv (d := .int _ _) rfl)) <|
              ils_nil ?_)
            refine thenQ_n ⟨(n0, x34, x35), (fun i => i), ⟨(.cons (.same rfl rfl) (.cons (.same rfl rfl) (.cons (.same rfl rfl) (.cons (.same rfl rfl) (.cons (.same rfl rfl) (.cons (.same rfl rfl) .nil)))))), .nil, nd_of [] rfl (by decide), (fun i hi => by first | rfl | (show (if _ then _ else _) = _; (repeat' split) <;> omega))⟩, ?_, ?_⟩
            exact h
            exact Nat.lt_succ_self _
          ·
            replace h := bif_f h hc30
            refine iwp_exit ?_
            refine thenQ_e ?_
            refine thenQ_e ?_
            refine blockQ_e ?_
            refine thenQ_n ?_
            refine iwp_seq ?_
            obtain ⟨x36, hx36, h⟩ := bno_e h
            obtain ⟨x37, hx37, h⟩ := bnd_e h
            refine iwp_reg (ils_cons rfl (iop_move rfl rfl (by decide) (sv (d := .int _ _) rfl)) <|
              ils_cons rfl (iop_call (r := .int _ _) rfl rfl (by decide) cl26 (.cons (sv (d := .int _ _) rfl) .nil) rfl (p_varint_kind _ _ hx36)) <|
              ils_cons rfl (iop_move rfl rfl (by decide) (sv (d := .int _ _) rfl)) <|
              ils_cons rfl (iop_cmpx rfl rfl (by decide) (sv (d := .int _ _) rfl) (sv (d := .int _ _) rfl) rfl hx37) <|
              ils_end ?_)
            refine iwp_cond (b := _) rfl (fun hc38 => ?_) (fun hc38 => ?_)
            ·
              replace h := bif_t h hc38
              refine iwp_reg (ils_cons rfl (iop_assign rfl rfl (by decide) (sv (d := .int _ 0) rfl)) <|
                ils_cons rfl (iop_assign rfl rfl (by decide) (sv (d := .int _ 0) rfl)) <|
                ils_cons rfl (iop_assign rfl rfl (by decide) (sv (d := .int _ 4) rfl)) <|
                ils_end ?_)
              refine iwp_ret ?_
              refine thenQ_r ?_
              obtain rfl := Option.some.inj h
              refine ⟨.inr rfl, (.cons (sv rfl) (.cons (sv rfl) (.cons (sv rfl) .nil)))⟩
            ·
              replace h := bif_f h hc38
              refine iwp_skip ?_
              refine thenQ_n ?_
              refine iwp_reg (ils_cons rfl (iop_move rfl rfl (by decide) (sv (d := .int _ _) rfl)) <|
                ils_cons rfl (iop_move rfl rfl (by decide) (sv (d := .int _ _) rfl)) <|
                ils_cons rfl (iop_assign rfl rfl (by decide) (sv (d := .int _ _) rfl)) <|
                ils_cons rfl (iop_assign rfl rfl (by decide) (sv (d := .int _ _) rfl)) <|
                ils_cons rfl (iop_assign rfl rfl (by decide) (sv (d := .int _ 0) rfl)) <|
                ils_end ?_)
              refine iwp_ret ?_
              obtain rfl := Option.some.inj h
              refine ⟨.inr rfl, (.cons (sv rfl) (.cons (sv rfl) (.cons (sv rfl) .nil)))⟩

set_option maxRecDepth 8000 in
set_option maxHeartbeats 2000000 in
theorem p_frame_head (a0 : (List UInt8)) (r : (T_frame_Frame × Int × Int × Int)) (h : frame_head a0 = some r) : PureAt Try.prog 24 [.str a0] (retD [.agg [.int .u8 r.1.Kind, .bool r.1.Flag, .int .i64 r.1.Stream, .int .i64 r.1.Offset, .int .i64 r.1.Dep, .int .i64 r.1.Weight, .int .i64 r.1.N, .int .i64 r.1.Code, .slice false (r.1.Pairs.map E_api_Pair.d), .str r.1.Data], .int .i64 r.2.1, .int .i64 r.2.2.1, .int .i64 r.2.2.2]) := by
  refine pure_of_iwp (rs := [.agg [.int .u8 r.1.Kind, .bool r.1.Flag, .int .i64 r.1.Stream, .int .i64 r.1.Offset, .int .i64 r.1.Dep, .int .i64 r.1.Weight, .int .i64 r.1.N, .int .i64 r.1.Code, .slice false (r.1.Pairs.map E_api_Pair.d), .str r.1.Data], .int .i64 r.2.1, .int .i64 r.2.2.1, .int .i64 r.2.2.2]) Try.func24 rfl Try.ntmps24 (nle rfl) rfl fun O hO => ?_
  show IWP _ _ _ _ ⟨[(0, .str a0)], []⟩ _
  unfold frame_head at h
  refine iwp_reg (ils_cons rfl (iop_allocS (cs := [.int _ _, .bool _, .int _ _, .int _ _, .int _ _, .int _ _, .int _ _, .int _ _, .nils, .str _]) (cs' := [.int .u8 0, .bool false, .int .i64 0, .int .i64 0, .int .i64 0, .int .i64 0, .int .i64 0, .int .i64 0, .slice false (([] : List T_api_Pair).map E_api_Pair.d), .str []]) 0 rfl rfl (by decide) rfl ti44 rfl rfl (.cons (.refl _) (.cons (.refl _) (.cons (.refl _) (.cons (.refl _) (.cons (.refl _) (.cons (.refl _) (.cons (.refl _) (.cons (.refl _) (.cons (.nils _) (.cons (.refl _) .nil))))))))))) <|
    ils_cons rfl (iop_assign rfl rfl (by decide) (sv (d := .int _ 0) rfl)) <|
    ils_cons rfl (iop_assign rfl rfl (by decide) (sv (d := .int _ 0) rfl)) <|
    ils_cons rfl (iop_assign rfl rfl (by decide) (sv (d := .int _ 0) rfl)) <|
    ils_end ?_)
  refine iwp_reg (ils_cons rfl (iop_allocS (cs := [.int _ _, .bool _, .int _ _, .int _ _, .int _ _, .int _ _, .int _ _, .int _ _, .nils, .str _]) (cs' := [.int .u8 0, .bool false, .int .i64 0, .int .i64 0, .int .i64 0, .int .i64 0, .int .i64 0, .int .i64 0, .slice false (([] : List T_api_Pair).map E_api_Pair.d), .str []]) 1 rfl rfl (by decide) rfl ti44 rfl rfl (.cons (.refl _) (.cons (.refl _) (.cons (.refl _) (.cons (.refl _) (.cons (.refl _) (.cons (.refl _) (.cons (.refl _) (.cons (.refl _) (.cons (.nils _) (.cons (.refl _) .nil))))))))))) <|
    ils_end ?_)
  refine iwp_seq ?_
  obtain ⟨x1, hx1, h⟩ := bnd_e h
  refine iwp_reg (ils_cons rfl (iop_move rfl rfl (by decide) (sv (d := .str _) rfl)) <|
    ils_cons rfl (iop_strx rfl rfl (by decide) (sv (d := .str _) rfl) (sv (d := .str []) rfl) rfl hx1) <|
    ils_end ?_)
  refine iwp_cond (b := _) rfl (fun hc2 => ?_) (fun hc2 => ?_)
  ·
    replace h := bif_t h hc2
    refine iwp_reg (ils_cons rfl (iop_load_ra (cs := [.int _ _, .bool _, .int _ _, .int _ _, .int _ _, .int _ _, .int _ _, .int _ _, .slice _ _, .str _]) rfl rfl (by decide) Try.underlying44 ag44 ti44 (by decide) (sv (d := .ref _ _) rfl) rfl (nle rfl) rfl) <|
      ils_cons rfl (iop_store (ds' := [.int _ _, .bool _, .int _ _, .int _ _, .int _ _, .int _ _, .int _ _, .int _ _, .slice false (([] : List T_api_Pair).map E_api_Pair.d), .str _]) rfl rfl ti44 (sv (d := .ref _ _) rfl) rfl (sv (d := .agg [.int _ _, .bool _, .int _ _, .int _ _, .int _ _, .int _ _, .int _ _, .int _ _, .slice _ _, .str _]) rfl) rfl rfl rfl (nle rfl) rfl) <|
      ils_cons rfl (iop_assign rfl rfl (by decide) (sv (d := .int _ 0) rfl)) <|
      ils_cons rfl (iop_assign rfl rfl (by decide) (sv (d := .int _ 0) rfl)) <|
      ils_cons rfl (iop_assign rfl rfl (by decide) (sv (d := .int _ 3) rfl)) <|
      ils_end ?_)
    refine iwp_ret ?_
    refine thenQ_r ?_
    obtain rfl := Option.some.inj h
    refine ⟨.inr rfl, (.cons (resv_a rfl rfl Try.underlying44 ag44 ti44 (by decide) (nle rfl) rfl) (.cons (sv rfl) (.cons (sv rfl) (.cons (sv rfl) .nil))))⟩
  ·
    replace h := bif_f h hc2
    refine iwp_skip ?_
    refine thenQ_n ?_
    refine iwp_seq ?_
    obtain ⟨x3, hx3, h⟩ := bno_e h
    obtain ⟨x4, hx4, h⟩ := bno_e h
    refine iwp_reg (ils_cons rfl (iop_move rfl rfl (by decide) (sv (d := .str _) rfl)) <|
      ils_cons rfl (iop_str_at rfl rfl (by decide) Try.underlying9 (sv (d := .str _) rfl) (sv (d := .int _ 0) rfl) hx3) <|
      ils_cons rfl (iop_call (r := .bool _) rfl rfl (by decide) cl27 (.cons (sv (d := .int _ _) rfl) .nil) rfl (p_frame_known _ _ hx4)) <|
      ils_cons rfl (iop_not rfl rfl (by decide) (sv (d := .bool _) rfl)) <|
      ils_end ?_)
    refine iwp_cond (b := _) rfl (fun hc5 => ?_) (fun hc5 => ?_)
    ·
      replace h := bif_t h hc5
      refine iwp_reg (ils_cons rfl (iop_load_ra (cs := [.int _ _, .bool _, .int _ _, .int _ _, .int _ _, .int _ _, .int _ _, .int _ _, .slice _ _, .str _]) rfl rfl (by decide) Try.underlying44 ag44 ti44 (by decide) (sv (d := .ref _ _) rfl) rfl (nle rfl) rfl) <|
        ils_cons rfl (iop_store (ds' := [.int _ _, .bool _, .int _ _, .int _ _, .int _ _, .int _ _, .int _ _, .int _ _, .slice false (([] : List T_api_Pair).map E_api_Pair.d), .str _]) rfl rfl ti44 (sv (d := .ref _ _) rfl) rfl (sv (d := .agg [.int _ _, .bool _, .int _ _, .int _ _, .int _ _, .int _ _, .int _ _, .int _ _, .slice _ _, .str _]) rfl) rfl rfl rfl (nle rfl) rfl) <|
        ils_cons rfl (iop_assign rfl rfl (by decide) (sv (d := .int _ 0) rfl)) <|
        ils_cons rfl (iop_assign rfl rfl (by decide) (sv (d := .int _ 0) rfl)) <|
        ils_cons rfl (iop_assign rfl rfl (by decide) (sv (d := .int _ 12) rfl)) <|
        ils_end ?_)
      refine iwp_ret ?_
      refine thenQ_r ?_
      obtain rfl := Option.some.inj h
      refine ⟨.inr rfl, (.cons (resv_a rfl rfl Try.underlying44 ag44 ti44 (by decide) (nle rfl) rfl) (.cons (sv rfl) (.cons (sv rfl) (.cons (sv rfl) .nil))))⟩
    ·
      replace h := bif_f h hc5
      refine iwp_skip ?_
      refine thenQ_n ?_
      refine iwp_seq ?_
      obtain ⟨x6, hx6, h⟩ := bnd_e h
      refine iwp_reg (ils_cons rfl (iop_move rfl rfl (by decide) (sv (d := .str _) rfl)) <|
        ils_cons rfl (iop_len_str rfl rfl (by decide) Try.underlying9 (sv (d := .str _) rfl) rfl) <|
        ils_cons rfl (iop_cmpx rfl rfl (by decide) (sv (d := .int _ _) rfl) (sv (d := .int _ 2) rfl) rfl hx6) <|
        ils_end ?_)
      refine iwp_cond (b := _) rfl (fun hc7 => ?_) (fun hc7 => ?_)
      ·
        replace h := bif_t h hc7
        refine iwp_reg (ils_cons rfl (iop_load_ra (cs := [.int _ _, .bool _, .int _ _, .int _ _, .int _ _, .int _ _, .int _ _, .int _ _, .slice _ _, .str _]) rfl rfl (by decide) Try.underlying44 ag44 ti44 (by decide) (sv (d := .ref _ _) rfl) rfl (nle rfl) rfl) <|
          ils_cons rfl (iop_store (ds' := [.int _ _, .bool _, .int _ _, .int _ _, .int _ _, .int _ _, .int _ _, .int _ _, .slice false (([] : List T_api_Pair).map E_api_Pair.d), .str _]) rfl rfl ti44 (sv (d := .ref _ _) rfl) rfl (sv (d := .agg [.int _ _, .bool _, .int _ _, .int _ _, .int _ _, .int _ _, .int _ _, .int _ _, .slice _ _, .str _]) rfl) rfl rfl rfl (nle rfl) rfl) <|
          ils_cons rfl (iop_assign rfl rfl (by decide) (sv (d := .int _ 0) rfl)) <|
          ils_cons rfl (iop_assign rfl rfl (by decide) (sv (d := .int _ 0) rfl)) <|
          ils_cons rfl (iop_assign rfl rfl (by decide) (sv (d := .int _ 3) rfl)) <|
          ils_end ?_)
        refine iwp_ret ?_
        refine thenQ_r ?_
        obtain rfl := Option.some.inj h
        refine ⟨.inr rfl, (.cons (resv_a rfl rfl Try.underlying44 ag44 ti44 (by decide) (nle rfl) rfl) (.cons (sv rfl) (.cons (sv rfl) (.cons (sv rfl) .nil))))⟩
      ·
        replace h := bif_f h hc7
        refine iwp_skip ?_
        refine thenQ_n ?_
        refine iwp_seq ?_
        obtain ⟨x8, hx8, h⟩ := bno_e h
        obtain ⟨x9, hx9, h⟩ := bnd_e h
        refine iwp_reg (ils_cons rfl (iop_move rfl rfl (by decide) (sv (d := .str _) rfl)) <|
          ils_cons rfl (iop_str_at rfl rfl (by decide) Try.underlying9 (sv (d := .str _) rfl) (sv (d := .int _ 1) rfl) hx8) <|
          ils_cons rfl (iop_cmpx rfl rfl (by decide) (sv (d := .int _ _) rfl) (sv (d := .int _ 1) rfl) rfl hx9) <|
          ils_end ?_)
        refine iwp_cond (b := _) rfl (fun hc10 => ?_) (fun hc10 => ?_)
        ·
          replace h := bif_t h hc10
          refine iwp_reg (ils_cons rfl (iop_load_ra (cs := [.int _ _, .bool _, .int _ _, .int _ _, .int _ _, .int _ _, .int _ _, .int _ _, .slice _ _, .str _]) rfl rfl (by decide) Try.underlying44 ag44 ti44 (by decide) (sv (d := .ref _ _) rfl) rfl (nle rfl) rfl) <|
            ils_cons rfl (iop_store (ds' := [.int _ _, .bool _, .int _ _, .int _ _, .int _ _, .int _ _, .int _ _, .int _ _, .slice false (([] : List T_api_Pair).map E_api_Pair.d), .str _]) rfl rfl ti44 (sv (d := .ref _ _) rfl) rfl (sv (d := .agg [.int _ _, .bool _, .int _ _, .int _ _, .int _ _, .int _ _, .int _ _, .int _ _, .slice _ _, .str _]) rfl) rfl rfl rfl (nle rfl) rfl) <|
            ils_cons rfl (iop_assign rfl rfl (by decide) (sv (d := .int _ 0) rfl)) <|
            ils_cons rfl (iop_assign rfl rfl (by decide) (sv (d := .int _ 0) rfl)) <|
            ils_cons rfl (iop_assign rfl rfl (by decide) (sv (d := .int _ 4) rfl)) <|
            ils_end ?_)
          refine iwp_ret ?_
          refine thenQ_r ?_
          obtain rfl := Option.some.inj h
          refine ⟨.inr rfl, (.cons (resv_a rfl rfl Try.underlying44 ag44 ti44 (by decide) (nle rfl) rfl) (.cons (sv rfl) (.cons (sv rfl) (.cons (sv rfl) .nil))))⟩
        ·
          replace h := bif_f h hc10
          refine iwp_skip ?_
          refine thenQ_n ?_
          obtain ⟨x11, hx11, h⟩ := bno_e h
          obtain ⟨x12, hx12, h⟩ := bno_e h
          refine iwp_reg (ils_cons rfl (iop_move rfl rfl (by decide) (sv (d := .str _) rfl)) <|
            ils_cons rfl (iop_cutS rfl rfl (by decide) Try.underlying9 (sv (d := .str _) rfl) ⟨_, (sv (d := .int _ 2) rfl)⟩ rfl hx11) <|
            ils_cons rfl (iop_call (r := .tuple [.int _ _, .int _ _, .int _ _]) rfl rfl (by decide) cl18 (.cons (sv (d := .str _) rfl) .nil) rfl (p_varint_Get _ _ hx12)) <|
            ils_cons rfl (iop_move rfl rfl (by decide) (sv (d := .tuple [.int _ _, .int _ _, .int _ _]) rfl)) <|
            ils_cons rfl (iop_extract (d := .int _ _) rfl rfl (by decide) (sv (d := .tuple [.int _ _, .int _ _, .int _ _]) rfl) rfl) <|
            ils_cons rfl (iop_extract (d := .int _ _) rfl rfl (by decide) (sv (d := .tuple [.int _ _, .int _ _, .int _ _]) rfl) rfl) <|
            ils_cons rfl (iop_extract (d := .int _ _) rfl rfl (by decide) (sv (d := .tuple [.int _ _, .int _ _, .int _ _]) rfl) rfl) <|
            ils_cons rfl (iop_assign rfl rfl (by decide) (sv (d := .int _ _) rfl)) <|
            ils_cons rfl (iop_assign rfl rfl (by decide) (sv (d := .int _ _) rfl)) <|
            ils_cons rfl (iop_assign rfl rfl (by decide) (sv (d := .int _ _) rfl)) <|
            ils_end ?_)
          refine iwp_seq ?_
          refine iwp_block ?_
          obtain ⟨x13, hx13, h⟩ := bnd_e h
          refine iwp_reg (ils_cons rfl (iop_move rfl rfl (by decide) (sv (d := .int _ _) rfl)) <|
            ils_cons rfl (iop_cmpx rfl rfl (by decide) (sv (d := .int _ _) rfl) (sv (d := .int _ 0) rfl) rfl hx13) <|
            ils_cons rfl (iop_assign rfl rfl (by decide) (sv (d := .bool _) rfl)) <|
            ils_end ?_)
          refine iwp_cond (b := _) rfl (fun hc14 => ?_) (fun hc14 => ?_)
          ·
            replace h := bif_t h hc14
            refine iwp_reg (ils_cons rfl (iop_load_ra (cs := [.int _ _, .bool _, .int _ _, .int _ _, .int _ _, .int _ _, .int _ _, .int _ _, .slice _ _, .str _]) rfl rfl (by decide) Try.underlying44 ag44 ti44 (by decide) (sv (d := .ref _ _) rfl) rfl (nle rfl) rfl) <|
              ils_cons rfl (iop_move rfl rfl (by decide) (sv (d := .int _ _) rfl)) <|
              ils_cons rfl (iop_store (ds' := [.int _ _, .bool _, .int _ _, .int _ _, .int _ _, .int _ _, .int _ _, .int _ _, .slice false (([] : List T_api_Pair).map E_api_Pair.d), .str _]) rfl rfl ti44 (sv (d := .ref _ _) rfl) rfl (sv (d := .agg [.int _ _, .bool _, .int _ _, .int _ _, .int _ _, .int _ _, .int _ _, .int _ _, .slice _ _, .str _]) rfl) rfl rfl rfl (nle rfl) rfl) <|
              ils_cons rfl (iop_assign rfl rfl (by decide) (sv (d := .int _ 0) rfl)) <|
              ils_cons rfl (iop_assign rfl rfl (by decide) (sv (d := .int _ 0) rfl)) <|
              ils_cons rfl (iop_assign rfl rfl (by decide) (sv (d := .int _ _) rfl)) <|
              ils_end ?_)
            refine iwp_ret ?_
            refine blockQ_r ?_
            refine thenQ_r ?_
            obtain rfl := Option.some.inj h
            refine ⟨.inr rfl, (.cons (resv_a rfl rfl Try.underlying44 ag44 ti44 (by decide) (nle rfl) rfl) (.cons (sv rfl) (.cons (sv rfl) (.cons (sv rfl) .nil))))⟩
          ·
            replace h := bif_f h hc14
            obtain ⟨x15, hx15, h⟩ := bnd_e h
            refine iwp_reg (ils_cons rfl (iop_move rfl rfl (by decide) (sv (d := .int _ _) rfl)) <|
              ils_cons rfl (iop_cmpx rfl rfl (by decide) (sv (d := .int _ _) rfl) (sv (d := .int _ 64) rfl) rfl hx15) <|
              ils_cons rfl (iop_assign rfl rfl (by decide) (sv (d := .bool _) rfl)) <|
              ils_end ?_)
            refine iwp_cond (b := _) rfl (fun hc16 => ?_) (fun hc16 => ?_)
            ·
              replace h := bif_t h hc16
              refine iwp_reg (ils_cons rfl (iop_load_ra (cs := [.int _ _, .bool _, .int _ _, .int _ _, .int _ _, .int _ _, .int _ _, .int _ _, .slice _ _, .str _]) rfl rfl (by decide) Try.underlying44 ag44 ti44 (by decide) (sv (d := .ref _ _) rfl) rfl (nle rfl) rfl) <|
                ils_cons rfl (iop_store (ds' := [.int _ _, .bool _, .int _ _, .int _ _, .int _ _, .int _ _, .int _ _, .int _ _, .slice false (([] : List T_api_Pair).map E_api_Pair.d), .str _]) rfl rfl ti44 (sv (d := .ref _ _) rfl) rfl (sv (d := .agg [.int _ _, .bool _, .int _ _, .int _ _, .int _ _, .int _ _, .int _ _, .int _ _, .slice _ _, .str _]) rfl) rfl rfl rfl (nle rfl) rfl) <|
                ils_cons rfl (iop_assign rfl rfl (by decide) (sv (d := .int _ 0) rfl)) <|
                ils_cons rfl (iop_assign rfl rfl (by decide) (sv (d := .int _ 0) rfl)) <|
                ils_cons rfl (iop_assign rfl rfl (by decide) (sv (d := .int _ 5) rfl)) <|
                ils_end ?_)
              refine iwp_ret ?_
              refine blockQ_r ?_
              refine thenQ_r ?_
              obtain rfl := Option.some.inj h
              refine ⟨.inr rfl, (.cons (resv_a rfl rfl Try.underlying44 ag44 ti44 (by decide) (nle rfl) rfl) (.cons (sv rfl) (.cons (sv rfl) (.cons (sv rfl) .nil))))⟩
            ·
              replace h := bif_f h hc16
              obtain ⟨x17, hx17, h⟩ := bnd_e h
              obtain ⟨x18, hx18, h⟩ := bnd_e h
              obtain ⟨x19, hx19, h⟩ := bnd_e h
              refine iwp_reg (ils_cons rfl (iop_move rfl rfl (by decide) (sv (d := .int _ _) rfl)) <|
                ils_cons rfl (iop_move rfl rfl (by decide) (sv (d := .str _) rfl)) <|
                ils_cons rfl (iop_len_str rfl rfl (by decide) Try.underlying9 (sv (d := .str _) rfl) rfl) <|
                ils_cons rfl (iop_intx rfl rfl (by decide) (sv (d := .int _ _) rfl) (sv (d := .int _ 2) rfl) rfl hx17) <|
                ils_cons rfl (iop_move rfl rfl (by decide) (sv (d := .int _ _) rfl)) <|
                ils_cons rfl (iop_intx rfl rfl (by decide) (sv (d := .int _ _) rfl) (sv (d := .int _ _) rfl) rfl hx18) <|
                ils_cons rfl (iop_cmpx rfl rfl (by decide) (sv (d := .int _ _) rfl) (sv (d := .int _ _) rfl) rfl hx19) <|
                ils_cons rfl (iop_assign rfl rfl (by decide) (sv (d := .bool _) rfl)) <|
                ils_end ?_)
              refine iwp_cond (b := _) rfl (fun hc20 => ?_) (fun hc20 => ?_)
              ·
                replace h := bif_t h hc20
                refine iwp_reg (ils_cons rfl (iop_load_ra (cs := [.int _ _, .bool _, .int _ _, .int _ _, .int _ _, .int _ _, .int _ _, .int _ _, .slice _ _, .str _]) rfl rfl (by decide) Try.underlying44 ag44 ti44 (by decide) (sv (d := .ref _ _) rfl) rfl (nle rfl) rfl) <|
                  ils_cons rfl (iop_store (ds' := [.int _ _, .bool _, .int _ _, .int _ _, .int _ _, .int _ _, .int _ _, .int _ _, .slice false (([] : List T_api_Pair).map E_api_Pair.d), .str _]) rfl rfl ti44 (sv (d := .ref _ _) rfl) rfl (sv (d := .agg [.int _ _, .bool _, .int _ _, .int _ _, .int _ _, .int _ _, .int _ _, .int _ _, .slice _ _, .str _]) rfl) rfl rfl rfl (nle rfl) rfl) <|
                  ils_cons rfl (iop_assign rfl rfl (by decide) (sv (d := .int _ 0) rfl)) <|
                  ils_cons rfl (iop_assign rfl rfl (by decide) (sv (d := .int _ 0) rfl)) <|
                  ils_cons rfl (iop_assign rfl rfl (by decide) (sv (d := .int _ 3) rfl)) <|
                  ils_end ?_)
                refine iwp_ret ?_
                refine blockQ_r ?_
                refine thenQ_r ?_
                obtain rfl := Option.some.inj h
                refine ⟨.inr rfl, (.cons (resv_a rfl rfl Try.underlying44 ag44 ti44 (by decide) (nle rfl) rfl) (.cons (sv rfl) (.cons (sv rfl) (.cons (sv rfl) .nil))))⟩
              ·
                replace h := bif_f h hc20
                refine iwp_skip ?_
                refine blockQ_n ?_
                refine thenQ_n ?_
                obtain ⟨x21, hx21, h⟩ := bno_e h
                obtain ⟨x22, hx22, h⟩ := bno_e h
                obtain ⟨x23, hx23, h⟩ := bnd_e h
                refine iwp_drw rfl [⟨[0], [], [(51, .str a0)], []⟩,
                  ⟨[51], [], [(52, .int .u8 (x21.toNat : Int))], []⟩,
                  ⟨[0], [], [(53, .str a0)], []⟩,
                  ⟨[53], [], [(54, .int .u8 (x22.toNat : Int))], []⟩,
                  ⟨[54], [], [(55, .bool x23)], []⟩,
                  ⟨[6], [], [(56, .ref 1 0)], []⟩,
                  ⟨[52, 56], [1], [], [(1, .blk 44 [.int .u8 (x21.toNat : Int), .bool false, .int .i64 0, .int .i64 0, .int .i64 0, .int .i64 0, .int .i64 0, .int .i64 0, .slice false (([] : List T_api_Pair).map E_api_Pair.d), .str []])]⟩,
                  ⟨[6], [], [(57, .ref 1 1)], []⟩,
                  ⟨[55, 57], [1], [], [(1, .blk 44 [.int .u8 (x21.toNat : Int), .bool x23, .int .i64 0, .int .i64 0, .int .i64 0, .int .i64 0, .int .i64 0, .int .i64 0, .slice false (([] : List T_api_Pair).map E_api_Pair.d), .str []])]⟩] rfl ?_ (by kernel_rfl) ?_
                · refine .cons (lop rfl rfl fun S hA => (iop_move rfl rfl (by decide) (sv (d := .str _) (agr hA rfl rfl)))) ?_
                  refine .cons (lop rfl rfl fun S hA => (iop_str_at rfl rfl (by decide) Try.underlying9 (sv (d := .str _) (agr hA rfl rfl)) (sv (d := .int _ 0) rfl) hx21)) ?_
                  refine .cons (lop rfl rfl fun S hA => (iop_move rfl rfl (by decide) (sv (d := .str _) (agr hA rfl rfl)))) ?_
                  refine .cons (lop rfl rfl fun S hA => (iop_str_at rfl rfl (by decide) Try.underlying9 (sv (d := .str _) (agr hA rfl rfl)) (sv (d := .int _ 1) rfl) hx22)) ?_
                  refine .cons (lop rfl rfl fun S hA => (iop_cmpx rfl rfl (by decide) (sv (d := .int _ _) (agr hA rfl rfl)) (sv (d := .int _ 1) rfl) rfl hx23)) ?_
                  refine .cons (lop rfl rfl fun S hA => (iop_fieldAddr_ref rfl rfl (by decide) Try.underlying44 rfl ti5 (by decide) (sv (d := .ref _ _) (agr hA rfl rfl)) (off' := 0) rfl)) ?_
                  refine .cons (lop rfl rfl fun S hA => (iop_store (ds' := [.int _ _, .bool _, .int _ _, .int _ _, .int _ _, .int _ _, .int _ _, .int _ _, .slice false (([] : List T_api_Pair).map E_api_Pair.d), .str _]) rfl rfl ti5 (sv (d := .ref _ _) (agr hA rfl rfl)) (agi hA rfl rfl) (sv (d := .int _ _) (agr hA rfl rfl)) rfl rfl rfl (nle rfl) rfl)) ?_
                  refine .cons (lop rfl rfl fun S hA => (iop_fieldAddr_ref rfl rfl (by decide) Try.underlying44 rfl ti4 (by decide) (sv (d := .ref _ _) (agr hA rfl rfl)) (off' := 1) rfl)) ?_
                  refine .cons (lop rfl rfl fun S hA => (iop_store (ds' := [.int _ _, .bool _, .int _ _, .int _ _, .int _ _, .int _ _, .int _ _, .int _ _, .slice false (([] : List T_api_Pair).map E_api_Pair.d), .str _]) rfl rfl ti4 (sv (d := .ref _ _) (agr hA rfl rfl)) (agi hA rfl rfl) (sv (d := .bool _) (agr hA rfl rfl)) rfl rfl rfl (nle rfl) rfl)) ?_
                  exact .nil
                obtain ⟨x24, hx24, h⟩ := bnd_e h
                obtain ⟨x25, hx25, h⟩ := bnd_e h
                obtain ⟨x26, hx26, h⟩ := bnd_e h
                refine iwp_reg (ils_cons rfl (iop_load_ra (cs := [.int _ _, .bool _, .int _ _, .int _ _, .int _ _, .int _ _, .int _ _, .int _ _, .slice _ _, .str _]) rfl rfl (by decide) Try.underlying44 ag44 ti44 (by decide) (sv (d := .ref _ _) rfl) rfl (nle rfl) rfl) <|
                  ils_cons rfl (iop_move rfl rfl (by decide) (sv (d := .int _ _) rfl)) <|
                  ils_cons rfl (iop_intx rfl rfl (by decide) (sv (d := .int _ 2) rfl) (sv (d := .int _ _) rfl) rfl hx24) <|
                  ils_cons rfl (iop_move rfl rfl (by decide) (sv (d := .int _ _) rfl)) <|
                  ils_cons rfl (iop_intx rfl rfl (by decide) (sv (d := .int _ 2) rfl) (sv (d := .int _ _) rfl) rfl hx25) <|
                  ils_cons rfl (iop_move rfl rfl (by decide) (sv (d := .int _ _) rfl)) <|
                  ils_cons rfl (iop_intx rfl rfl (by decide) (sv (d := .int _ _) rfl) (sv (d := .int _ _) rfl) rfl hx26) <|
                  ils_cons rfl (iop_store (ds' := [.int _ _, .bool _, .int _ _, .int _ _, .int _ _, .int _ _, .int _ _, .int _ _, .slice false (([] : List T_api_Pair).map E_api_Pair.d), .str _]) rfl rfl ti44 (sv (d := .ref _ _) rfl) rfl (sv (d := .agg [.int _ _, .bool _, .int _ _, .int _ _, .int _ _, .int _ _, .int _ _, .int _ _, .slice _ _, .str _]) rfl) rfl rfl rfl (nle rfl) rfl) <|
                  ils_cons rfl (iop_assign rfl rfl (by decide) (sv (d := .int _ _) rfl)) <|
                  ils_cons rfl (iop_assign rfl rfl (by decide) (sv (d := .int _ _) rfl)) <|
                  ils_cons rfl (iop_assign rfl rfl (by decide) (sv (d := .int _ 0) rfl)) <|
                  ils_end ?_)
                refine iwp_ret ?_
                obtain rfl := Option.some.inj h
                refine ⟨.inr rfl, (.cons (resv_a rfl rfl Try.underlying44 ag44 ti44 (by decide) (nle rfl) rfl) (.cons (sv rfl) (.cons (sv rfl) (.cons (sv rfl) .nil))))⟩

set_option maxRecDepth 8000 in
set_option maxHeartbeats 2000000 in
theorem p_frame_Frame_numbers_h (a0 : T_frame_Frame) (r : (List Nat)) (h : frame_Frame_numbers_h a0 = some r) : FnH Try.prog 31 [.ref 1000 0] [(1000, .blk 44 [.int .u8 a0.Kind, .bool a0.Flag, .int .i64 a0.Stream, .int .i64 a0.Offset, .int .i64 a0.Dep, .int .i64 a0.Weight, .int .i64 a0.N, .int .i64 a0.Code, .slice false (a0.Pairs.map E_api_Pair.d), .str a0.Data])] (.osl 0 (eRef 1000).sz r.length) [(1000, .blk 44 [.int .u8 a0.Kind, .bool a0.Flag, .int .i64 a0.Stream, .int .i64 a0.Offset, .int .i64 a0.Dep, .int .i64 a0.Weight, .int .i64 a0.N, .int .i64 a0.Code, .slice false (a0.Pairs.map E_api_Pair.d), .str a0.Data]), (0, .blk 75 (D.flat (r.map (eRef 1000).d)))] := by
  refine fnh_of_iwp (rs := [.osl 0 (eRef 1000).sz r.length]) Try.func31 rfl Try.ntmps31 (nle rfl) fun O hO => ?_
  show IWP _ _ _ _ ⟨[(0, .ref 1000 0)], [(1000, .blk 44 [.int .u8 a0.Kind, .bool a0.Flag, .int .i64 a0.Stream, .int .i64 a0.Offset, .int .i64 a0.Dep, .int .i64 a0.Weight, .int .i64 a0.N, .int .i64 a0.Code, .slice false (a0.Pairs.map E_api_Pair.d), .str a0.Data])]⟩ _
  unfold frame_Frame_numbers_h at h
  refine iwp_reg (ils_cons rfl (iop_assign rfl rfl (by decide) (sv (d := .nils) rfl)) <|
    ils_end ?_)
  refine iwp_reg (ils_cons rfl (iop_assign rfl rfl (by decide) (sv (d := .nils) rfl)) <|
    ils_end ?_)
  refine iwp_seq ?_
  refine iwp_reg (ils_cons rfl (iop_move rfl rfl (by decide) (sv (d := .ref _ _) rfl)) <|
    ils_cons rfl (iop_nilCheck_ref rfl rfl (by decide) (sv (d := .ref _ _) rfl)) <|
    ils_cons rfl (iop_fieldAddr_ref rfl rfl (by decide) Try.underlying44 rfl ti5 (by decide) (sv (d := .ref _ _) rfl) (off' := 0) rfl) <|
    ils_cons rfl (iop_load_rs (d := .int _ _) rfl rfl (by decide) Try.underlying5 ag5 ti5 (by decide) (sv (d := .ref _ _) rfl) rfl (nle rfl) rfl) <|
    ils_end ?_)
  refine iwp_block ?_
  refine iwp_seq ?_
  refine iwp_block ?_
  refine iwp_join (α := (List Nat)) (fun z => ⟨[(0, .ref 1000 0), (3, .osl 1 (eRef 1000).sz z.length)], [(1000, .blk 44 [.int .u8 a0.Kind, .bool a0.Flag, .int .i64 a0.Stream, .int .i64 a0.Offset, .int .i64 a0.Dep, .int .i64 a0.Weight, .int .i64 a0.N, .int .i64 a0.Code, .slice false (a0.Pairs.map E_api_Pair.d), .str a0.Data]), (1, .blk 75 (D.flat (z.map (eRef 1000).d)))]⟩) (fun z => frame_Frame_numbers_h_J0 z = some r) ?_ ?_
  ·
    refine iwp_block ?_
    refine iwp_seq ?_
    refine iwp_block ?_
    refine iwp_seq ?_
    refine iwp_block ?_
    refine iwp_seq ?_
    refine iwp_block ?_
    refine iwp_seq ?_
    refine iwp_block ?_
    refine iwp_seq ?_
    refine iwp_block ?_
    refine iwp_seq ?_
    refine iwp_seq ?_
    refine iwp_seq ?_
    obtain ⟨x28, hx28, h⟩ := bnd_e h
    refine iwp_reg (ils_cons rfl (iop_cmpx rfl rfl (by decide) (sv (d := .int _ _) rfl) (sv (d := .int _ 0) rfl) rfl hx28) <|
      ils_cons rfl (iop_assign rfl rfl (by decide) (sv (d := .bool _) rfl)) <|
      ils_end ?_)
    refine iwp_cond (b := _) rfl (fun hc29 => ?_) (fun hc29 => ?_)
    ·
      replace h := bif_t h hc29
      refine iwp_skip ?_
      refine thenQ_n ?_
      refine iwp_cond_t rfl hc29 ?_
      refine iwp_exit ?_
      refine thenQ_e ?_
      refine thenQ_e ?_
      refine blockQ_e ?_
      refine thenQ_n ?_
      obtain ⟨x30, hx30, h⟩ := bno_e h
      refine iwp_drw rfl [⟨[3], [], [(24, .nils)], []⟩,
        ⟨[0], [], [(25, .ref 1000 0)], []⟩,
        ⟨[25], [], [(26, .ref 1000 0)], []⟩,
        ⟨[26], [], [(27, .ref 1000 2)], []⟩,
        ⟨[0], [], [(28, .ref 1000 0)], []⟩,
        ⟨[28], [], [(29, .ref 1000 0)], []⟩,
        ⟨[29], [], [(30, .ref 1000 3)], []⟩,
        ⟨[27, 30], [0], [(31, .osl 0 (eRef 1000).sz (([2, 3] : (List Nat)).length))], [(0, .blk 75 (D.flat (([2, 3] : (List Nat)).map (eRef 1000).d)))]⟩,
        ⟨[24, 31], [0, 1], [(32, .osl 1 (eRef 1000).sz x30.length)], [(1, .blk 75 (D.flat (x30.map (eRef 1000).d)))]⟩,
        ⟨[32], [], [(3, .osl 1 (eRef 1000).sz x30.length)], []⟩] rfl ?_ (by kernel_rfl) ?_
      · refine .cons (lop rfl rfl fun S hA => (iop_move rfl rfl (by decide) (sv (d := .nils) (agr hA rfl rfl)))) ?_
        refine .cons (lop rfl rfl fun S hA => (iop_move rfl rfl (by decide) (sv (d := .ref _ _) (agr hA rfl rfl)))) ?_
        refine .cons (lop rfl rfl fun S hA => (iop_nilCheck_ref rfl rfl (by decide) (sv (d := .ref _ _) (agr hA rfl rfl)))) ?_
        refine .cons (lop rfl rfl fun S hA => (iop_fieldAddr_ref rfl rfl (by decide) Try.underlying44 rfl ti3 (by decide) (sv (d := .ref _ _) (agr hA rfl rfl)) (off' := 2) rfl)) ?_
        refine .cons (lop rfl rfl fun S hA => (iop_move rfl rfl (by decide) (sv (d := .ref _ _) (agr hA rfl rfl)))) ?_
        refine .cons (lop rfl rfl fun S hA => (iop_nilCheck_ref rfl rfl (by decide) (sv (d := .ref _ _) (agr hA rfl rfl)))) ?_
        refine .cons (lop rfl rfl fun S hA => (iop_fieldAddr_ref rfl rfl (by decide) Try.underlying44 rfl ti3 (by decide) (sv (d := .ref _ _) (agr hA rfl rfl)) (off' := 3) rfl)) ?_
        refine .cons (lop rfl rfl fun S hA => (iop_bsO (eRef 1000) ([2, 3] : (List Nat)) 0 rfl rfl (by decide) Try.underlying73 ti75 (agi hA rfl rfl) (.cons (sv (d := .ref _ _) (agr hA rfl rfl)) (.cons (sv (d := .ref _ _) (agr hA rfl rfl)) .nil)) rfl rfl (by decide))) ?_
        refine .cons (lop rfl rfl fun S hA => (iop_appOn (eRef 1000) 1 rfl rfl (by decide) Try.underlying73 ti75 rfl (agr hA rfl rfl) (agi hA rfl rfl) (src_O (eRef 1000) (agr hA rfl rfl) rfl (agi hA rfl rfl)) hx30)) ?_
        refine .cons (lop rfl rfl fun S hA => (iop_assign rfl rfl (by decide) (sv (d := .osl _ _ _) (agr hA rfl rfl)))) ?_
        exact .nil
      refine iwp_exit ?_
      refine blockQ_x rfl ?_
      refine thenQ_e ?_
      refine blockQ_x rfl ?_
      refine thenQ_e ?_
      refine blockQ_x rfl ?_
      refine thenQ_e ?_
      refine blockQ_x rfl ?_
      refine thenQ_e ?_
      refine blockQ_x rfl ?_
      refine thenQ_e ?_
      refine blockQ_x rfl ?_
      refine thenQ_e ?_
      refine blockQ_e ?_
      refine thenQ_n ?_
      refine iwp_reg (ils_cons rfl (iop_move rfl rfl (by decide) (sv (d := .osl _ _ _) rfl)) <|
        ils_cons rfl (iop_assign rfl rfl (by decide) (sv (d := .osl _ _ _) rfl)) <|
        ils_end ?_)
      refine iwp_ret ?_
      obtain rfl := Option.some.inj h
      refine ⟨.inr rfl, (fun i => if i = 0 then 1 else i), ⟨.nil, (.cons (.blk rfl rfl rfl) (.cons (EntW.lstR rfl rfl) .nil)), nd_of [1000, 1] rfl (by decide), (fun i hi => by first | rfl | (show (if _ then _ else _) = _; (repeat' split) <;> omega))⟩, (.cons (sv rfl) .nil), rfl⟩
    ·
      replace h := bif_f h hc29
      obtain ⟨x31, hx31, h⟩ := bnd_e h
      refine iwp_region (ils_cons rfl (iop_cmpx rfl rfl (by decide) (sv (d := .int _ _) rfl) (sv (d := .int _ 9) rfl) rfl hx31) <|
        ils_cons rfl (iop_assign rfl rfl (by decide) (sv (d := .bool _) rfl)) <|
        ils_nil ?_)
      refine thenQ_n ?_
      refine iwp_cond (b := _) rfl (fun hc32 => ?_) (fun hc32 => ?_)
      ·
        replace h := bif_t h hc32
        refine iwp_exit ?_
        refine thenQ_e ?_
        refine thenQ_e ?_
        refine blockQ_e ?_
        refine thenQ_n ?_
        obtain ⟨x33, hx33, h⟩ := bno_e h
        refine iwp_drw rfl [⟨[3], [], [(24, .nils)], []⟩,
          ⟨[0], [], [(25, .ref 1000 0)], []⟩,
          ⟨[25], [], [(26, .ref 1000 0)], []⟩,
          ⟨[26], [], [(27, .ref 1000 2)], []⟩,
          ⟨[0], [], [(28, .ref 1000 0)], []⟩,
          ⟨[28], [], [(29, .ref 1000 0)], []⟩,
          ⟨[29], [], [(30, .ref 1000 3)], []⟩,
          ⟨[27, 30], [0], [(31, .osl 0 (eRef 1000).sz (([2, 3] : (List Nat)).length))], [(0, .blk 75 (D.flat (([2, 3] : (List Nat)).map (eRef 1000).d)))]⟩,
          ⟨[24, 31], [0, 1], [(32, .osl 1 (eRef 1000).sz x33.length)], [(1, .blk 75 (D.flat (x33.map (eRef 1000).d)))]⟩,
          ⟨[32], [], [(3, .osl 1 (eRef 1000).sz x33.length)], []⟩] rfl ?_ (by kernel_rfl) ?_
        · refine .cons (lop rfl rfl fun S hA => (iop_move rfl rfl (by decide) (sv (d := .nils) (agr hA rfl rfl)))) ?_
          refine .cons (lop rfl rfl fun S hA => (iop_move rfl rfl (by decide) (sv (d := .ref _ _) (agr hA rfl rfl)))) ?_
          refine .cons (lop rfl rfl fun S hA => (iop_nilCheck_ref rfl rfl (by decide) (sv (d := .ref _ _) (agr hA rfl rfl)))) ?_
          refine .cons (lop rfl rfl fun S hA => (iop_fieldAddr_ref rfl rfl (by decide) Try.underlying44 rfl ti3 (by decide) (sv (d := .ref _ _) (agr hA rfl rfl)) (off' := 2) rfl)) ?_
          refine .cons (lop rfl rfl fun S hA => (iop_move rfl rfl (by decide) (sv (d := .ref _ _) (agr hA rfl rfl)))) ?_
          refine .cons (lop rfl rfl fun S hA => (iop_nilCheck_ref rfl rfl (by decide) (sv (d := .ref _ _) (agr hA rfl rfl)))) ?_
          refine .cons (lop rfl rfl fun S hA => (iop_fieldAddr_ref rfl rfl (by decide) Try.underlying44 rfl ti3 (by decide) (sv (d := .ref _ _) (agr hA rfl rfl)) (off' := 3) rfl)) ?_
          refine .cons (lop rfl rfl fun S hA => (iop_bsO (eRef 1000) ([2, 3] : (List Nat)) 0 rfl rfl (by decide) Try.underlying73 ti75 (agi hA rfl rfl) (.cons (sv (d := .ref _ _) (agr hA rfl rfl)) (.cons (sv (d := .ref _ _) (agr hA rfl rfl)) .nil)) rfl rfl (by decide))) ?_
          refine .cons (lop rfl rfl fun S hA => (iop_appOn (eRef 1000) 1 rfl rfl (by decide) Try.underlying73 ti75 rfl (agr hA rfl rfl) (agi hA rfl rfl) (src_O (eRef 1000) (agr hA rfl rfl) rfl (agi hA rfl rfl)) hx33)) ?_
          refine .cons (lop rfl rfl fun S hA => (iop_assign rfl rfl (by decide) (sv (d := .osl _ _ _) (agr hA rfl rfl)))) ?_
          exact .nil
        refine iwp_exit ?_
        refine blockQ_x rfl ?_
        refine thenQ_e ?_
        refine blockQ_x rfl ?_
        refine thenQ_e ?_
        refine blockQ_x rfl ?_
        refine thenQ_e ?_
        refine blockQ_x rfl ?_
        refine thenQ_e ?_
        refine blockQ_x rfl ?_
        refine thenQ_e ?_
        refine blockQ_x rfl ?_
        refine thenQ_e ?_
        refine blockQ_e ?_
        refine thenQ_n ?_
        refine iwp_reg (ils_cons rfl (iop_move rfl rfl (by decide) (sv (d := .osl _ _ _) rfl)) <|
          ils_cons rfl (iop_assign rfl rfl (by decide) (sv (d := .osl _ _ _) rfl)) <|
          ils_end ?_)
        refine iwp_ret ?_
        obtain rfl := Option.some.inj h
        refine ⟨.inr rfl, (fun i => if i = 0 then 1 else i), ⟨.nil, (.cons (.blk rfl rfl rfl) (.cons (EntW.lstR rfl rfl) .nil)), nd_of [1000, 1] rfl (by decide), (fun i hi => by first | rfl | (show (if _ then _ else _) = _; (repeat' split) <;> omega))⟩, (.cons (sv rfl) .nil), rfl⟩
      ·
        replace h := bif_f h hc32
        refine iwp_skip ?_
        refine thenQ_n ?_
        refine iwp_seq ?_
        refine iwp_seq ?_
        obtain ⟨x34, hx34, h⟩ := bnd_e h
        refine iwp_reg (ils_cons rfl (iop_cmpx rfl rfl (by decide) (sv (d := .int _ _) rfl) (sv (d := .int _ 1) rfl) rfl hx34) <|
          ils_cons rfl (iop_assign rfl rfl (by decide) (sv (d := .bool _) rfl)) <|
          ils_end ?_)
        refine iwp_cond (b := _) rfl (fun hc35 => ?_) (fun hc35 => ?_)
        ·
          replace h := bif_t h hc35
          refine iwp_skip ?_
          refine thenQ_n ?_
          refine iwp_cond_t rfl hc35 ?_
          refine iwp_exit ?_
          refine thenQ_e ?_
          refine thenQ_e ?_
          refine blockQ_x rfl ?_
          refine thenQ_e ?_
          refine blockQ_e ?_
          refine thenQ_n ?_
          obtain ⟨x36, hx36, h⟩ := bno_e h
          refine iwp_drw rfl [⟨[3], [], [(33, .nils)], []⟩,
            ⟨[0], [], [(34, .ref 1000 0)], []⟩,
            ⟨[34], [], [(35, .ref 1000 0)], []⟩,
            ⟨[35], [], [(36, .ref 1000 2)], []⟩,
            ⟨[0], [], [(37, .ref 1000 0)], []⟩,
            ⟨[37], [], [(38, .ref 1000 0)], []⟩,
            ⟨[38], [], [(39, .ref 1000 4)], []⟩,
            ⟨[0], [], [(40, .ref 1000 0)], []⟩,
            ⟨[40], [], [(41, .ref 1000 0)], []⟩,
            ⟨[41], [], [(42, .ref 1000 5)], []⟩,
            ⟨[36, 39, 42], [0], [(43, .osl 0 (eRef 1000).sz (([2, 4, 5] : (List Nat)).length))], [(0, .blk 75 (D.flat (([2, 4, 5] : (List Nat)).map (eRef 1000).d)))]⟩,
            ⟨[33, 43], [0, 1], [(44, .osl 1 (eRef 1000).sz x36.length)], [(1, .blk 75 (D.flat (x36.map (eRef 1000).d)))]⟩,
            ⟨[44], [], [(3, .osl 1 (eRef 1000).sz x36.length)], []⟩] rfl ?_ (by kernel_rfl) ?_
          · refine .cons (lop rfl rfl fun S hA => (iop_move rfl rfl (by decide) (sv (d := .nils) (agr hA rfl rfl)))) ?_
            refine .cons (lop rfl rfl fun S hA => (iop_move rfl rfl (by decide) (sv (d := .ref _ _) (agr hA rfl rfl)))) ?_
            refine .cons (lop rfl rfl fun S hA => (iop_nilCheck_ref rfl rfl (by decide) (sv (d := .ref _ _) (agr hA rfl rfl)))) ?_
            refine .cons (lop rfl rfl fun S hA => (iop_fieldAddr_ref rfl rfl (by decide) Try.underlying44 rfl ti3 (by decide) (sv (d := .ref _ _) (agr hA rfl rfl)) (off' := 2) rfl)) ?_
            refine .cons (lop rfl rfl fun S hA => (iop_move rfl rfl (by decide) (sv (d := .ref _ _) (agr hA rfl rfl)))) ?_
            refine .cons (lop rfl rfl fun S hA => (iop_nilCheck_ref rfl rfl (by decide) (sv (d := .ref _ _) (agr hA rfl rfl)))) ?_
            refine .cons (lop rfl rfl fun S hA => (iop_fieldAddr_ref rfl rfl (by decide) Try.underlying44 rfl ti3 (by decide) (sv (d := .ref _ _) (agr hA rfl rfl)) (off' := 4) rfl)) ?_
            refine .cons (lop rfl rfl fun S hA => (iop_move rfl rfl (by decide) (sv (d := .ref _ _) (agr hA rfl rfl)))) ?_
            refine .cons (lop rfl rfl fun S hA => (iop_nilCheck_ref rfl rfl (by decide) (sv (d := .ref _ _) (agr hA rfl rfl)))) ?_
            refine .cons (lop rfl rfl fun S hA => (iop_fieldAddr_ref rfl rfl (by decide) Try.underlying44 rfl ti3 (by decide) (sv (d := .ref _ _) (agr hA rfl rfl)) (off' := 5) rfl)) ?_
            refine .cons (lop rfl rfl fun S hA => (iop_bsO (eRef 1000) ([2, 4, 5] : (List Nat)) 0 rfl rfl (by decide) Try.underlying73 ti75 (agi hA rfl rfl) (.cons (sv (d := .ref _ _) (agr hA rfl rfl)) (.cons (sv (d := .ref _ _) (agr hA rfl rfl)) (.cons (sv (d := .ref _ _) (agr hA rfl rfl)) .nil))) rfl rfl (by decide))) ?_
            refine .cons (lop rfl rfl fun S hA => (iop_appOn (eRef 1000) 1 rfl rfl (by decide) Try.underlying73 ti75 rfl (agr hA rfl rfl) (agi hA rfl rfl) (src_O (eRef 1000) (agr hA rfl rfl) rfl (agi hA rfl rfl)) hx36)) ?_
            refine .cons (lop rfl rfl fun S hA => (iop_assign rfl rfl (by decide) (sv (d := .osl _ _ _) (agr hA rfl rfl)))) ?_
            exact .nil
          refine iwp_exit ?_
          refine blockQ_x rfl ?_
          refine thenQ_e ?_
          refine blockQ_x rfl ?_
          refine thenQ_e ?_
          refine blockQ_x rfl ?_
          refine thenQ_e ?_
          refine blockQ_x rfl ?_
          refine thenQ_e ?_
          refine blockQ_x rfl ?_
          refine thenQ_e ?_
          refine blockQ_e ?_
          refine thenQ_n ?_
          refine iwp_reg (ils_cons rfl (iop_move rfl rfl (by decide) (sv (d := .osl _ _ _) rfl)) <|
            ils_cons rfl (iop_assign rfl rfl (by decide) (sv (d := .osl _ _ _) rfl)) <|
            ils_end ?_)
          refine iwp_ret ?_
          obtain rfl := Option.some.inj h
          refine ⟨.inr rfl, (fun i => if i = 0 then 1 else i), ⟨.nil, (.cons (.blk rfl rfl rfl) (.cons (EntW.lstR rfl rfl) .nil)), nd_of [1000, 1] rfl (by decide), (fun i hi => by first | rfl | (show (if _ then _ else _) = _; (repeat' split) <;> omega))⟩, (.cons (sv rfl) .nil), rfl⟩
        ·
          replace h := bif_f h hc35
          obtain ⟨x37, hx37, h⟩ := bnd_e h
          refine iwp_region (ils_cons rfl (iop_cmpx rfl rfl (by decide) (sv (d := .int _ _) rfl) (sv (d := .int _ 2) rfl) rfl hx37) <|
            ils_cons rfl (iop_assign rfl rfl (by decide) (sv (d := .bool _) rfl)) <|
            ils_nil ?_)
          refine thenQ_n ?_
          refine iwp_cond (b := _) rfl (fun hc38 => ?_) (fun hc38 => ?_)
          ·
            replace h := bif_t h hc38
            refine iwp_exit ?_
            refine thenQ_e ?_
            refine thenQ_e ?_
            refine blockQ_x rfl ?_
            refine thenQ_e ?_
            refine blockQ_e ?_
            refine thenQ_n ?_
            obtain ⟨x39, hx39, h⟩ := bno_e h
            refine iwp_drw rfl [⟨[3], [], [(33, .nils)], []⟩,
              ⟨[0], [], [(34, .ref 1000 0)], []⟩,
              ⟨[34], [], [(35, .ref 1000 0)], []⟩,
              ⟨[35], [], [(36, .ref 1000 2)], []⟩,
              ⟨[0], [], [(37, .ref 1000 0)], []⟩,
              ⟨[37], [], [(38, .ref 1000 0)], []⟩,
              ⟨[38], [], [(39, .ref 1000 4)], []⟩,
              ⟨[0], [], [(40, .ref 1000 0)], []⟩,
              ⟨[40], [], [(41, .ref 1000 0)], []⟩,
              ⟨[41], [], [(42, .ref 1000 5)], []⟩,
              ⟨[36, 39, 42], [0], [(43, .osl 0 (eRef 1000).sz (([2, 4, 5] : (List Nat)).length))], [(0, .blk 75 (D.flat (([2, 4, 5] : (List Nat)).map (eRef 1000).d)))]⟩,
              ⟨[33, 43], [0, 1], [(44, .osl 1 (eRef 1000).sz x39.length)], [(1, .blk 75 (D.flat (x39.map (eRef 1000).d)))]⟩,
              ⟨[44], [], [(3, .osl 1 (eRef 1000).sz x39.length)], []⟩] rfl ?_ (by kernel_rfl) ?_
            · refine .cons (lop rfl rfl fun S hA => (iop_move rfl rfl (by decide) (sv (d := .nils) (agr hA rfl rfl)))) ?_
              refine .cons (lop rfl rfl fun S hA => (iop_move rfl rfl (by decide) (sv (d := .ref _ _) (agr hA rfl rfl)))) ?_
              refine .cons (lop rfl rfl fun S hA => (iop_nilCheck_ref rfl rfl (by decide) (sv (d := .ref _ _) (agr hA rfl rfl)))) ?_
              refine .cons (lop rfl rfl fun S hA => (iop_fieldAddr_ref rfl rfl (by decide) Try.underlying44 rfl ti3 (by decide) (sv (d := .ref _ _) (agr hA rfl rfl)) (off' := 2) rfl)) ?_
              refine .cons (lop rfl rfl fun S hA => (iop_move rfl rfl (by decide) (sv (d := .ref _ _) (agr hA rfl rfl)))) ?_
              refine .cons (lop rfl rfl fun S hA => (iop_nilCheck_ref rfl rfl (by decide) (sv (d := .ref _ _) (agr hA rfl rfl)))) ?_
              refine .cons (lop rfl rfl fun S hA => (iop_fieldAddr_ref rfl rfl (by decide) Try.underlying44 rfl ti3 (by decide) (sv (d := .ref _ _) (agr hA rfl rfl)) (off' := 4) rfl)) ?_
              refine .cons (lop rfl rfl fun S hA => (iop_move rfl rfl (by decide) (sv (d := .ref _ _) (agr hA rfl rfl)))) ?_
              refine .cons (lop rfl rfl fun S hA => (iop_nilCheck_ref rfl rfl (by decide) (sv (d := .ref _ _) (agr hA rfl rfl)))) ?_
              refine .cons (lop rfl rfl fun S hA => (iop_fieldAddr_ref rfl rfl (by decide) Try.underlying44 rfl ti3 (by decide) (sv (d := .ref _ _) (agr hA rfl rfl)) (off' := 5) rfl)) ?_
              refine .cons (lop rfl rfl fun S hA => (iop_bsO (eRef 1000) ([2, 4, 5] : (List Nat)) 0 rfl rfl (by decide) Try.underlying73 ti75 (agi hA rfl rfl) (.cons (sv (d := .ref _ _) (agr hA rfl rfl)) (.cons (sv (d := .ref _ _) (agr hA rfl rfl)) (.cons (sv (d := .ref _ _) (agr hA rfl rfl)) .nil))) rfl rfl (by decide))) ?_
              refine .cons (lop rfl rfl fun S hA => (iop_appOn (eRef 1000) 1 rfl rfl (by decide) Try.underlying73 ti75 rfl (agr hA rfl rfl) (agi hA rfl rfl) (src_O (eRef 1000) (agr hA rfl rfl) rfl (agi hA rfl rfl)) hx39)) ?_
              refine .cons (lop rfl rfl fun S hA => (iop_assign rfl rfl (by decide) (sv (d := .osl _ _ _) (agr hA rfl rfl)))) ?_
              exact .nil
            refine iwp_exit ?_
            refine blockQ_x rfl ?_
            refine thenQ_e ?_
            refine blockQ_x rfl ?_
            refine thenQ_e ?_
            refine blockQ_x rfl ?_
            refine thenQ_e ?_
            refine blockQ_x rfl ?_
            refine thenQ_e ?_
            refine blockQ_x rfl ?_
            refine thenQ_e ?_
            refine blockQ_e ?_
            refine thenQ_n ?_
            refine iwp_reg (ils_cons rfl (iop_move rfl rfl (by decide) (sv (d := .osl _ _ _) rfl)) <|
              ils_cons rfl (iop_assign rfl rfl (by decide) (sv (d := .osl _ _ _) rfl)) <|
              ils_end ?_)
            refine iwp_ret ?_
            obtain rfl := Option.some.inj h
            refine ⟨.inr rfl, (fun i => if i = 0 then 1 else i), ⟨.nil, (.cons (.blk rfl rfl rfl) (.cons (EntW.lstR rfl rfl) .nil)), nd_of [1000, 1] rfl (by decide), (fun i hi => by first | rfl | (show (if _ then _ else _) = _; (repeat' split) <;> omega))⟩, (.cons (sv rfl) .nil), rfl⟩
          ·
            replace h := bif_f h hc38
            refine iwp_skip ?_
            refine thenQ_n ?_
            refine iwp_seq ?_
            obtain ⟨x40, hx40, h⟩ := bnd_e h
            refine iwp_reg (ils_cons rfl (iop_cmpx rfl rfl (by decide) (sv (d := .int _ _) rfl) (sv (d := .int _ 3) rfl) rfl hx40) <|
              ils_cons rfl (iop_assign rfl rfl (by decide) (sv (d := .bool _) rfl)) <|
              ils_end ?_)
            refine iwp_cond (b := _) rfl (fun hc41 => ?_) (fun hc41 => ?_)
            ·
              replace h := bif_t h hc41
              refine iwp_exit ?_
              refine thenQ_e ?_
              refine thenQ_e ?_
              refine blockQ_x rfl ?_
              refine thenQ_e ?_
              refine blockQ_x rfl ?_
              refine thenQ_e ?_
              refine blockQ_e ?_
              refine thenQ_n ?_
              obtain ⟨x42, hx42, h⟩ := bno_e h
              refine iwp_drw rfl [⟨[3], [], [(45, .nils)], []⟩,
                ⟨[0], [], [(46, .ref 1000 0)], []⟩,
                ⟨[46], [], [(47, .ref 1000 0)], []⟩,
                ⟨[47], [], [(48, .ref 1000 2)], []⟩,
                ⟨[0], [], [(49, .ref 1000 0)], []⟩,
                ⟨[49], [], [(50, .ref 1000 0)], []⟩,
                ⟨[50], [], [(51, .ref 1000 6)], []⟩,
                ⟨[0], [], [(52, .ref 1000 0)], []⟩,
                ⟨[52], [], [(53, .ref 1000 0)], []⟩,
                ⟨[53], [], [(54, .ref 1000 7)], []⟩,
                ⟨[48, 51, 54], [0], [(55, .osl 0 (eRef 1000).sz (([2, 6, 7] : (List Nat)).length))], [(0, .blk 75 (D.flat (([2, 6, 7] : (List Nat)).map (eRef 1000).d)))]⟩,
                ⟨[45, 55], [0, 1], [(56, .osl 1 (eRef 1000).sz x42.length)], [(1, .blk 75 (D.flat (x42.map (eRef 1000).d)))]⟩,
                ⟨[56], [], [(3, .osl 1 (eRef 1000).sz x42.length)], []⟩] rfl ?_ (by kernel_rfl) ?_
              · refine .cons (lop rfl rfl fun S hA => (iop_move rfl rfl (by decide) (sv (d := .nils) (agr hA rfl rfl)))) ?_
                refine .cons (lop rfl rfl fun S hA => (iop_move rfl rfl (by decide) (sv (d := .ref _ _) (agr hA rfl rfl)))) ?_
                refine .cons (lop rfl rfl fun S hA => (iop_nilCheck_ref rfl rfl (by decide) (sv (d := .ref _ _) (agr hA rfl rfl)))) ?_
                refine .cons (lop rfl rfl fun S hA => (iop_fieldAddr_ref rfl rfl (by decide) Try.underlying44 rfl ti3 (by decide) (sv (d := .ref _ _) (agr hA rfl rfl)) (off' := 2) rfl)) ?_
                refine .cons (lop rfl rfl fun S hA => (iop_move rfl rfl (by decide) (sv (d := .ref _ _) (agr hA rfl rfl)))) ?_
                refine .cons (lop rfl rfl fun S hA => (iop_nilCheck_ref rfl rfl (by decide) (sv (d := .ref _ _) (agr hA rfl rfl)))) ?_
                refine .cons (lop rfl rfl fun S hA => (iop_fieldAddr_ref rfl rfl (by decide) Try.underlying44 rfl ti3 (by decide) (sv (d := .ref _ _) (agr hA rfl rfl)) (off' := 6) rfl)) ?_
                refine .cons (lop rfl rfl fun S hA => (iop_move rfl rfl (by decide) (sv (d := .ref _ _) (agr hA rfl rfl)))) ?_
                refine .cons (lop rfl rfl fun S hA => (iop_nilCheck_ref rfl rfl (by decide) (sv (d := .ref _ _) (agr hA rfl rfl)))) ?_
                refine .cons (lop rfl rfl fun S hA => (iop_fieldAddr_ref rfl rfl (by decide) Try.underlying44 rfl ti3 (by decide) (sv (d := .ref _ _) (agr hA rfl rfl)) (off' := 7) rfl)) ?_
                refine .cons (lop rfl rfl fun S hA => (iop_bsO (eRef 1000) ([2, 6, 7] : (List Nat)) 0 rfl rfl (by decide) Try.underlying73 ti75 (agi hA rfl rfl) (.cons (sv (d := .ref _ _) (agr hA rfl rfl)) (.cons (sv (d := .ref _ _) (agr hA rfl rfl)) (.cons (sv (d := .ref _ _) (agr hA rfl rfl)) .nil))) rfl rfl (by decide))) ?_
                refine .cons (lop rfl rfl fun S hA => (iop_appOn (eRef 1000) 1 rfl rfl (by decide) Try.underlying73 ti75 rfl (agr hA rfl rfl) (agi hA rfl rfl) (src_O (eRef 1000) (agr hA rfl rfl) rfl (agi hA rfl rfl)) hx42)) ?_
                refine .cons (lop rfl rfl fun S hA => (iop_assign rfl rfl (by decide) (sv (d := .osl _ _ _) (agr hA rfl rfl)))) ?_
                exact .nil
              refine iwp_exit ?_
              refine blockQ_x rfl ?_
              refine thenQ_e ?_
              refine blockQ_x rfl ?_
              refine thenQ_e ?_
              refine blockQ_x rfl ?_
              refine thenQ_e ?_
              refine blockQ_x rfl ?_
              refine thenQ_e ?_
              refine blockQ_e ?_
              refine thenQ_n ?_
              refine iwp_reg (ils_cons rfl (iop_move rfl rfl (by decide) (sv (d := .osl _ _ _) rfl)) <|
                ils_cons rfl (iop_assign rfl rfl (by decide) (sv (d := .osl _ _ _) rfl)) <|
                ils_end ?_)
              refine iwp_ret ?_
              obtain rfl := Option.some.inj h
              refine ⟨.inr rfl, (fun i => if i = 0 then 1 else i), ⟨.nil, (.cons (.blk rfl rfl rfl) (.cons (EntW.lstR rfl rfl) .nil)), nd_of [1000, 1] rfl (by decide), (fun i hi => by first | rfl | (show (if _ then _ else _) = _; (repeat' split) <;> omega))⟩, (.cons (sv rfl) .nil), rfl⟩
            ·
              replace h := bif_f h hc41
              refine iwp_skip ?_
              refine thenQ_n ?_
              refine iwp_seq ?_
              obtain ⟨x43, hx43, h⟩ := bnd_e h
              refine iwp_reg (ils_cons rfl (iop_cmpx rfl rfl (by decide) (sv (d := .int _ _) rfl) (sv (d := .int _ 7) rfl) rfl hx43) <|
                ils_cons rfl (iop_assign rfl rfl (by decide) (sv (d := .bool _) rfl)) <|
                ils_end ?_)
              refine iwp_cond (b := _) rfl (fun hc44 => ?_) (fun hc44 => ?_)
              ·
                replace h := bif_t h hc44
                refine iwp_exit ?_
                refine thenQ_e ?_
                refine thenQ_e ?_
                refine blockQ_x rfl ?_
                refine thenQ_e ?_
                refine blockQ_x rfl ?_
                refine thenQ_e ?_
                refine blockQ_x rfl ?_
                refine thenQ_e ?_
                refine blockQ_e ?_
                refine thenQ_n ?_
                obtain ⟨x45, hx45, h⟩ := bno_e h
                refine iwp_drw rfl [⟨[3], [], [(57, .nils)], []⟩,
                  ⟨[0], [], [(58, .ref 1000 0)], []⟩,
                  ⟨[58], [], [(59, .ref 1000 0)], []⟩,
                  ⟨[59], [], [(60, .ref 1000 2)], []⟩,
                  ⟨[0], [], [(61, .ref 1000 0)], []⟩,
                  ⟨[61], [], [(62, .ref 1000 0)], []⟩,
                  ⟨[62], [], [(63, .ref 1000 7)], []⟩,
                  ⟨[60, 63], [0], [(64, .osl 0 (eRef 1000).sz (([2, 7] : (List Nat)).length))], [(0, .blk 75 (D.flat (([2, 7] : (List Nat)).map (eRef 1000).d)))]⟩,
                  ⟨[57, 64], [0, 1], [(65, .osl 1 (eRef 1000).sz x45.length)], [(1, .blk 75 (D.flat (x45.map (eRef 1000).d)))]⟩,
                  ⟨[65], [], [(3, .osl 1 (eRef 1000).sz x45.length)], []⟩] rfl ?_ (by kernel_rfl) ?_
                · refine .cons (lop rfl rfl fun S hA => (iop_move rfl rfl (by decide) (sv (d := .nils) (agr hA rfl rfl)))) ?_
                  refine .cons (lop rfl rfl fun S hA => (iop_move rfl rfl (by decide) (sv (d := .ref _ _) (agr hA rfl rfl)))) ?_
                  refine .cons (lop rfl rfl fun S hA => (iop_nilCheck_ref rfl rfl (by decide) (sv (d := .ref _ _) (agr hA rfl rfl)))) ?_
                  refine .cons (lop rfl rfl fun S hA => (iop_fieldAddr_ref rfl rfl (by decide) Try.underlying44 rfl ti3 (by decide) (sv (d := .ref _ _) (agr hA rfl rfl)) (off' := 2) rfl)) ?_
                  refine .cons (lop rfl rfl fun S hA => (iop_move rfl rfl (by decide) (sv (d := .ref _ _) (agr hA rfl rfl)))) ?_
                  refine .cons (lop rfl rfl fun S hA => (iop_nilCheck_ref rfl rfl (by decide) (sv (d := .ref _ _) (agr hA rfl rfl)))) ?_
                  refine .cons (lop rfl rfl fun S hA => (iop_fieldAddr_ref rfl rfl (by decide) Try.underlying44 rfl ti3 (by decide) (sv (d := .ref _ _) (agr hA rfl rfl)) (off' := 7) rfl)) ?_
                  refine .cons (lop rfl rfl fun S hA => (iop_bsO (eRef 1000) ([2, 7] : (List Nat)) 0 rfl rfl (by decide) Try.underlying73 ti75 (agi hA rfl rfl) (.cons (sv (d := .ref _ _) (agr hA rfl rfl)) (.cons (sv (d := .ref _ _) (agr hA rfl rfl)) .nil)) rfl rfl (by decide))) ?_
                  refine .cons (lop rfl rfl fun S hA => (iop_appOn (eRef 1000) 1 rfl rfl (by decide) Try.underlying73 ti75 rfl (agr hA rfl rfl) (agi hA rfl rfl) (src_O (eRef 1000) (agr hA rfl rfl) rfl (agi hA rfl rfl)) hx45)) ?_
                  refine .cons (lop rfl rfl fun S hA => (iop_assign rfl rfl (by decide) (sv (d := .osl _ _ _) (agr hA rfl rfl)))) ?_
                  exact .nil
                refine iwp_exit ?_
                refine blockQ_x rfl ?_
                refine thenQ_e ?_
                refine blockQ_x rfl ?_
                refine thenQ_e ?_
                refine blockQ_x rfl ?_
                refine thenQ_e ?_
                refine blockQ_e ?_
                refine thenQ_n ?_
                refine iwp_reg (ils_cons rfl (iop_move rfl rfl (by decide) (sv (d := .osl _ _ _) rfl)) <|
                  ils_cons rfl (iop_assign rfl rfl (by decide) (sv (d := .osl _ _ _) rfl)) <|
                  ils_end ?_)
                refine iwp_ret ?_
                obtain rfl := Option.some.inj h
                refine ⟨.inr rfl, (fun i => if i = 0 then 1 else i), ⟨.nil, (.cons (.blk rfl rfl rfl) (.cons (EntW.lstR rfl rfl) .nil)), nd_of [1000, 1] rfl (by decide), (fun i hi => by first | rfl | (show (if _ then _ else _) = _; (repeat' split) <;> omega))⟩, (.cons (sv rfl) .nil), rfl⟩
              ·
                replace h := bif_f h hc44
                refine iwp_skip ?_
                refine thenQ_n ?_
                refine iwp_seq ?_
                obtain ⟨x46, hx46, h⟩ := bnd_e h
                refine iwp_reg (ils_cons rfl (iop_cmpx rfl rfl (by decide) (sv (d := .int _ _) rfl) (sv (d := .int _ 8) rfl) rfl hx46) <|
                  ils_cons rfl (iop_assign rfl rfl (by decide) (sv (d := .bool _) rfl)) <|
                  ils_end ?_)
                refine iwp_cond (b := _) rfl (fun hc47 => ?_) (fun hc47 => ?_)
                ·
                  replace h := bif_t h hc47
                  refine iwp_exit ?_
                  refine thenQ_e ?_
                  refine thenQ_e ?_
                  refine blockQ_x rfl ?_
                  refine thenQ_e ?_
                  refine blockQ_x rfl ?_
                  refine thenQ_e ?_
                  refine blockQ_x rfl ?_
                  refine thenQ_e ?_
                  refine blockQ_x rfl ?_
                  refine thenQ_e ?_
                  refine blockQ_e ?_
                  refine thenQ_n ?_
                  obtain ⟨x48, hx48, h⟩ := bno_e h
                  refine iwp_region (ils_cons rfl (iop_move rfl rfl (by decide) (sv (d := .nils) rfl)) <|
                    ils_cons rfl (iop_move rfl rfl (by decide) (sv (d := .ref _ _) rfl)) <|
                    ils_cons rfl (iop_nilCheck_ref rfl rfl (by decide) (sv (d := .ref _ _) rfl)) <|
                    ils_cons rfl (iop_fieldAddr_ref rfl rfl (by decide) Try.underlying44 rfl ti3 (by decide) (sv (d := .ref _ _) rfl) (off' := 2) rfl) <|
                    ils_cons rfl (iop_bsO (eRef 1000) ([2] : (List Nat)) 0 rfl rfl (by decide) Try.underlying73 ti75 rfl (.cons (sv (d := .ref _ _) rfl) .nil) rfl rfl (by decide)) <|
                    ils_cons rfl (iop_appOn (eRef 1000) 1 rfl rfl (by decide) Try.underlying73 ti75 rfl rfl rfl (src_O (eRef 1000) rfl rfl rfl) hx48) <|
                    ils_cons rfl (iop_assign rfl rfl (by decide) (sv (d := .osl _ _ _) rfl)) <|
                    ils_nil ?_)
                  refine blockQ_n ?_
                  refine thenQ_n ⟨x48, (fun i => i), ⟨(.cons (.same rfl rfl) (.cons (.same rfl rfl) .nil)), (.cons (.blk rfl rfl rfl) (.cons (EntW.lstR rfl rfl) .nil)), nd_of [1000, 1] rfl (by decide), (fun i hi => by first | rfl | (show (if _ then _ else _) = _; (repeat' split) <;> omega))⟩, ?_⟩
                  exact h
                ·
                  replace h := bif_f h hc47
                  refine iwp_skip ?_
                  refine thenQ_n ?_
                  refine iwp_seq ?_
                  obtain ⟨x49, hx49, h⟩ := bnd_e h
                  refine iwp_reg (ils_cons rfl (iop_cmpx rfl rfl (by decide) (sv (d := .int _ _) rfl) (sv (d := .int _ 6) rfl) rfl hx49) <|
                    ils_cons rfl (iop_assign rfl rfl (by decide) (sv (d := .bool _) rfl)) <|
                    ils_end ?_)
                  refine iwp_cond (b := _) rfl (fun hc50 => ?_) (fun hc50 => ?_)
                  ·
                    replace h := bif_t h hc50
                    refine iwp_exit ?_
                    refine thenQ_e ?_
                    refine thenQ_e ?_
                    refine blockQ_x rfl ?_
                    refine thenQ_e ?_
                    refine blockQ_x rfl ?_
                    refine thenQ_e ?_
                    refine blockQ_x rfl ?_
                    refine thenQ_e ?_
                    refine blockQ_x rfl ?_
                    refine thenQ_e ?_
                    refine blockQ_x rfl ?_
                    refine thenQ_e ?_
                    refine blockQ_e ?_
                    refine thenQ_n ⟨([] : (List Nat)), (fun i => if i = 1 then 51 else i), ⟨(.cons (.same rfl rfl) (.cons (.nilo rfl) .nil)), (.cons (.blk rfl rfl rfl) (.cons (.nilb rfl) .nil)), nd_of [1000, 51] rfl (by decide), (fun i hi => by first | rfl | (show (if _ then _ else _) = _; (repeat' split) <;> omega))⟩, ?_⟩
                    exact h
                  ·
                    replace h := bif_f h hc50
                    refine iwp_skip ?_
                    refine thenQ_n ?_
                    obtain ⟨x51, hx51, h⟩ := bnd_e h
                    refine iwp_reg (ils_cons rfl (iop_cmpx rfl rfl (by decide) (sv (d := .int _ _) rfl) (sv (d := .int _ 10) rfl) rfl hx51) <|
                      ils_cons rfl (iop_assign rfl rfl (by decide) (sv (d := .bool _) rfl)) <|
                      ils_end ?_)
                    refine iwp_cond (b := _) rfl (fun hc52 => ?_) (fun hc52 => ?_)
                    ·
                      replace h := bif_t h hc52
                      refine iwp_exit ?_
                      refine thenQ_e ?_
                      refine blockQ_x rfl ?_
                      refine thenQ_e ?_
                      refine blockQ_x rfl ?_
                      refine thenQ_e ?_
                      refine blockQ_x rfl ?_
                      refine thenQ_e ?_
                      refine blockQ_x rfl ?_
                      refine thenQ_e ?_
                      refine blockQ_x rfl ?_
                      refine thenQ_e ?_
                      refine blockQ_x rfl ?_
                      refine thenQ_e ?_
                      refine blockQ_e ?_
                      refine thenQ_n ?_
                      obtain ⟨x53, hx53, h⟩ := bno_e h
                      refine iwp_drw rfl [⟨[3], [], [(78, .nils)], []⟩,
                        ⟨[0], [], [(79, .ref 1000 0)], []⟩,
                        ⟨[79], [], [(80, .ref 1000 0)], []⟩,
                        ⟨[80], [], [(81, .ref 1000 6)], []⟩,
                        ⟨[0], [], [(82, .ref 1000 0)], []⟩,
                        ⟨[82], [], [(83, .ref 1000 0)], []⟩,
                        ⟨[83], [], [(84, .ref 1000 7)], []⟩,
                        ⟨[81, 84], [0], [(85, .osl 0 (eRef 1000).sz (([6, 7] : (List Nat)).length))], [(0, .blk 75 (D.flat (([6, 7] : (List Nat)).map (eRef 1000).d)))]⟩,
                        ⟨[78, 85], [0, 1], [(86, .osl 1 (eRef 1000).sz x53.length)], [(1, .blk 75 (D.flat (x53.map (eRef 1000).d)))]⟩,
                        ⟨[86], [], [(3, .osl 1 (eRef 1000).sz x53.length)], []⟩] rfl ?_ (by kernel_rfl) ?_
                      · refine .cons (lop rfl rfl fun S hA => (iop_move rfl rfl (by decide) (sv (d := .nils) (agr hA rfl rfl)))) ?_
                        refine .cons (lop rfl rfl fun S hA => (iop_move rfl rfl (by decide) (sv (d := .ref _ _) (agr hA rfl rfl)))) ?_
                        refine .cons (lop rfl rfl fun S hA => (iop_nilCheck_ref rfl rfl (by decide) (sv (d := .ref _ _) (agr hA rfl rfl)))) ?_
                        refine .cons (lop rfl rfl fun S hA => (iop_fieldAddr_ref rfl rfl (by decide) Try.underlying44 rfl ti3 (by decide) (sv (d := .ref _ _) (agr hA rfl rfl)) (off' := 6) rfl)) ?_
                        refine .cons (lop rfl rfl fun S hA => (iop_move rfl rfl (by decide) (sv (d := .ref _ _) (agr hA rfl rfl)))) ?_
                        refine .cons (lop rfl rfl fun S hA => (iop_nilCheck_ref rfl rfl (by decide) (sv (d := .ref _ _) (agr hA rfl rfl)))) ?_
                        refine .cons (lop rfl rfl fun S hA => (iop_fieldAddr_ref rfl rfl (by decide) Try.underlying44 rfl ti3 (by decide) (sv (d := .ref _ _) (agr hA rfl rfl)) (off' := 7) rfl)) ?_
                        refine .cons (lop rfl rfl fun S hA => (iop_bsO (eRef 1000) ([6, 7] : (List Nat)) 0 rfl rfl (by decide) Try.underlying73 ti75 (agi hA rfl rfl) (.cons (sv (d := .ref _ _) (agr hA rfl rfl)) (.cons (sv (d := .ref _ _) (agr hA rfl rfl)) .nil)) rfl rfl (by decide))) ?_
                        refine .cons (lop rfl rfl fun S hA => (iop_appOn (eRef 1000) 1 rfl rfl (by decide) Try.underlying73 ti75 rfl (agr hA rfl rfl) (agi hA rfl rfl) (src_O (eRef 1000) (agr hA rfl rfl) rfl (agi hA rfl rfl)) hx53)) ?_
                        refine .cons (lop rfl rfl fun S hA => (iop_assign rfl rfl (by decide) (sv (d := .osl _ _ _) (agr hA rfl rfl)))) ?_
                        exact .nil
                      refine iwp_exit ?_
                      refine blockQ_e ?_
                      refine thenQ_n ?_
                      refine iwp_reg (ils_cons rfl (iop_move rfl rfl (by decide) (sv (d := .osl _ _ _) rfl)) <|
                        ils_cons rfl (iop_assign rfl rfl (by decide) (sv (d := .osl _ _ _) rfl)) <|
                        ils_end ?_)
                      refine iwp_ret ?_
                      obtain rfl := Option.some.inj h
                      refine ⟨.inr rfl, (fun i => if i = 0 then 1 else i), ⟨.nil, (.cons (.blk rfl rfl rfl) (.cons (EntW.lstR rfl rfl) .nil)), nd_of [1000, 1] rfl (by decide), (fun i hi => by first | rfl | (show (if _ then _ else _) = _; (repeat' split) <;> omega))⟩, (.cons (sv rfl) .nil), rfl⟩
                    ·
                      replace h := bif_f h hc52
                      refine iwp_skip ?_
                      refine thenQ_n ?_
                      refine iwp_exit ?_
                      refine blockQ_x rfl ?_
                      refine thenQ_e ?_
                      refine blockQ_x rfl ?_
                      refine thenQ_e ?_
                      refine blockQ_x rfl ?_
                      refine thenQ_e ?_
                      refine blockQ_x rfl ?_
                      refine thenQ_e ?_
                      refine blockQ_x rfl ?_
                      refine thenQ_e ?_
                      refine blockQ_x rfl ?_
                      refine thenQ_e ?_
                      refine blockQ_x rfl ?_
                      refine thenQ_e ?_
                      refine blockQ_e ?_
                      refine thenQ_n ?_
                      refine iwp_reg (ils_cons rfl (iop_move rfl rfl (by decide) (sv (d := .nils) rfl)) <|
                        ils_cons rfl (iop_assign rfl rfl (by decide) (sv (d := .nils) rfl)) <|
                        ils_end ?_)
                      refine iwp_ret ?_
                      obtain rfl := Option.some.inj h
                      refine ⟨.inr rfl, (fun i => if i = 0 then 50 else i), ⟨.nil, (.cons (.blk rfl rfl rfl) (.cons (.nilb rfl) .nil)), nd_of [1000, 50] rfl (by decide), (fun i hi => by first | rfl | (show (if _ then _ else _) = _; (repeat' split) <;> omega))⟩, (.cons (svno rfl) .nil), rfl⟩
  ·
    rintro v26 h
    unfold frame_Frame_numbers_h_J0 at h
    obtain ⟨x27, hx27, h⟩ := bno_e h
    refine iwp_reg (ils_cons rfl (iop_move rfl rfl (by decide) (sv (d := .osl _ _ _) rfl)) <|
      ils_cons rfl (iop_move rfl rfl (by decide) (sv (d := .ref _ _) rfl)) <|
      ils_cons rfl (iop_nilCheck_ref rfl rfl (by decide) (sv (d := .ref _ _) rfl)) <|
      ils_cons rfl (iop_fieldAddr_ref rfl rfl (by decide) Try.underlying44 rfl ti3 (by decide) (sv (d := .ref _ _) rfl) (off' := 6) rfl) <|
      ils_cons rfl (iop_bsO (eRef 1000) ([6] : (List Nat)) 2 rfl rfl (by decide) Try.underlying73 ti75 rfl (.cons (sv (d := .ref _ _) rfl) .nil) rfl rfl (by decide)) <|
      ils_cons rfl (iop_appO (eRef 1000) 3 rfl rfl (by decide) Try.underlying73 ti75 rfl rfl rfl rfl rfl (src_O (eRef 1000) rfl rfl rfl) hx27) <|
      ils_cons rfl (iop_assign rfl rfl (by decide) (sv (d := .osl _ _ _) rfl)) <|
      ils_end ?_)
    refine iwp_exit ?_
    refine blockQ_x rfl ?_
    refine thenQ_e ?_
    refine blockQ_e ?_
    refine thenQ_n ?_
    refine iwp_reg (ils_cons rfl (iop_move rfl rfl (by decide) (sv (d := .osl _ _ _) rfl)) <|
      ils_cons rfl (iop_assign rfl rfl (by decide) (sv (d := .osl _ _ _) rfl)) <|
      ils_end ?_)
    refine iwp_ret ?_
    obtain rfl := Option.some.inj h
    refine ⟨.inr rfl, (fun i => if i = 0 then 3 else i), ⟨.nil, (.cons (.blk rfl rfl rfl) (.cons (EntW.lstR rfl rfl) .nil)), nd_of [1000, 3] rfl (by decide), (fun i hi => by first | rfl | (show (if _ then _ else _) = _; (repeat' split) <;> omega))⟩, (.cons (sv rfl) .nil), rfl⟩

set_option maxRecDepth 8000 in
set_option maxHeartbeats 2000000 in
theorem p_varint_All (a0 : (List UInt8)) (r : ((List Int) × Int)) (h : varint_All a0 = some r) : PureAt Try.prog 43 [.str a0] (retD [.slice false (r.1.map (eInt .i64).d), .int .i64 r.2]) := by
  refine pure_of_iwp (rs := [.slice false (r.1.map (eInt .i64).d), .int .i64 r.2]) Try.func43 rfl Try.ntmps43 (nle rfl) rfl fun O hO => ?_
  show IWP _ _ _ _ ⟨[(0, .str a0)], []⟩ _
  unfold varint_All at h
  refine iwp_reg (ils_cons rfl (iop_assign rfl rfl (by decide) (sv (d := .nils) rfl)) <|
    ils_cons rfl (iop_assign rfl rfl (by decide) (sv (d := .int _ 0) rfl)) <|
    ils_end ?_)
  refine iwp_reg (ils_cons rfl (iop_assign rfl rfl (by decide) (sv (d := .nils) rfl)) <|
    ils_end ?_)
  refine iwp_seq ?_
  refine iwp_block ?_
  refine iwp_loopP (α := Nat × (List UInt8) × (List Int)) (fun z => ⟨[(0, .str z.2.1), (4, .gsl 21 (eInt .i64).sz (z.2.2.map (eInt .i64).d))], [(21, .tail 3 (eInt .i64).sz z.2.2.length)]⟩) (fun z => varint_All_L0 z.1 z.2.1 z.2.2 = some r) (fun z => z.1) (fuel, a0, ([] : (List Int))) (fun i => if i = 21 then 71 else i) ⟨(.cons (.same rfl rfl) (.cons (.nils rfl) .nil)), (.cons (.nils rfl) .nil), nd_of [71] rfl (by decide), (fun i hi => by first | rfl | (show (if _ then _ else _) = _; (repeat' split) <;> omega))⟩ ?_ ?_
  · exact h
  ·
    rintro ⟨n0, v8, v9⟩ h
    cases n0 with
    | zero => exact absurd h (by unfold varint_All_L0; exact nofun)
    | succ n0 =>
      unfold varint_All_L0 at h
      refine iwp_seq ?_
      obtain ⟨x17, hx17, h⟩ := bnd_e h
      refine iwp_reg (ils_cons rfl (iop_move rfl rfl (by decide) (sv (d := .str _) rfl)) <|
        ils_cons rfl (iop_strx rfl rfl (by decide) (sv (d := .str _) rfl) (sv (d := .str []) rfl) rfl hx17) <|
        ils_end ?_)
      refine iwp_cond (b := _) rfl (fun hc18 => ?_) (fun hc18 => ?_)
      ·
        replace h := bif_t h hc18
        refine iwp_skip ?_
        refine thenQ_n ?_
        refine iwp_block ?_
        obtain ⟨x19, hx19, h⟩ := bno_e h
        refine iwp_reg (ils_cons rfl (iop_move rfl rfl (by decide) (sv (d := .str _) rfl)) <|
          ils_cons rfl (iop_call (r := .tuple [.int _ _, .int _ _, .int _ _]) rfl rfl (by decide) cl18 (.cons (sv (d := .str _) rfl) .nil) rfl (p_varint_Get _ _ hx19)) <|
          ils_cons rfl (iop_move rfl rfl (by decide) (sv (d := .tuple [.int _ _, .int _ _, .int _ _]) rfl)) <|
          ils_cons rfl (iop_extract (d := .int _ _) rfl rfl (by decide) (sv (d := .tuple [.int _ _, .int _ _, .int _ _]) rfl) rfl) <|
          ils_cons rfl (iop_extract (d := .int _ _) rfl rfl (by decide) (sv (d := .tuple [.int _ _, .int _ _, .int _ _]) rfl) rfl) <|
          ils_cons rfl (iop_extract (d := .int _ _) rfl rfl (by decide) (sv (d := .tuple [.int _ _, .int _ _, .int _ _]) rfl) rfl) <|
          ils_cons rfl (iop_assign rfl rfl (by decide) (sv (d := .int _ _) rfl)) <|
          ils_cons rfl (iop_assign rfl rfl (by decide) (sv (d := .int _ _) rfl)) <|
          ils_cons rfl (iop_assign rfl rfl (by decide) (sv (d := .int _ _) rfl)) <|
          ils_end ?_)
        refine iwp_seq ?_
        obtain ⟨x20, hx20, h⟩ := bnd_e h
        refine iwp_reg (ils_cons rfl (iop_move rfl rfl (by decide) (sv (d := .int _ _) rfl)) <|
          ils_cons rfl (iop_cmpx rfl rfl (by decide) (sv (d := .int _ _) rfl) (sv (d := .int _ 0) rfl) rfl hx20) <|
          ils_end ?_)
        refine iwp_cond (b := _) rfl (fun hc21 => ?_) (fun hc21 => ?_)
        ·
          replace h := bif_t h hc21
          refine iwp_reg (ils_cons rfl (iop_move rfl rfl (by decide) (sv (d := .int _ _) rfl)) <|
            ils_cons rfl (iop_assign rfl rfl (by decide) (sv (d := .nils) rfl)) <|
            ils_cons rfl (iop_assign rfl rfl (by decide) (sv (d := .int _ _) rfl)) <|
            ils_end ?_)
          refine iwp_ret ?_
          refine thenQ_r ?_
          refine blockQ_r ?_
          refine thenQ_r ?_
          refine blockQ_r ?_
          refine thenQ_r ?_
          obtain rfl := Option.some.inj h
          refine ⟨.inr rfl, (.cons (svn_of rfl rfl) (.cons (sv rfl) .nil))⟩
        ·
          replace h := bif_f h hc21
          refine iwp_skip ?_
          refine thenQ_n ?_
          obtain ⟨x22, hx22, h⟩ := bno_e h
          refine iwp_reg (ils_cons rfl (iop_move rfl rfl (by decide) (sv (d := .gsl _ _ _) rfl)) <|
            ils_cons rfl (iop_move rfl rfl (by decide) (sv (d := .int _ _) rfl)) <|
            ils_cons rfl (iop_bsT (eInt .i64) ([x19.1] : (List Int)) 22 rfl rfl (by decide) Try.underlying72 ti3 rfl (.cons (sv (d := .int _ _) rfl) .nil) rfl rfl (by decide)) <|
            ils_cons rfl (iop_appT (eInt .i64) 23 rfl rfl (by decide) Try.underlying72 ti3 rfl rfl rfl rfl (svg rfl) hx22) <|
            ils_cons rfl (iop_assign rfl rfl (by decide) (sv (d := .gsl _ _ _) rfl)) <|
            ils_end ?_)
          obtain ⟨x23, hx23, h⟩ := bno_e h
          refine iwp_region (ils_cons rfl (iop_move rfl rfl (by decide) (sv (d := .str _) rfl)) <|
            ils_cons rfl (iop_move rfl rfl (by decide) (sv (d := .int _ _) rfl)) <|
            ils_cons rfl (iop_cutS rfl rfl (by decide) Try.underlying9 (sv (d := .str _) rfl) ⟨_, (sv (d := .int _ _) rfl)⟩ rfl hx23) <|
            ils_cons rfl (iop_assign rfl rfl (by decide) (sv (d := .str _) rfl)) <|
            ils_nil ?_)
          refine blockQ_n ?_
          refine thenQ_n ⟨(n0, x23, x22), (fun i => if i = 21 then 23 else i), ⟨(.cons (.same rfl rfl) (.cons (.same rfl rfl) .nil)), (.cons (.tail rfl) .nil), nd_of [23] rfl (by decide), (fun i hi => by first | rfl | (show (if _ then _ else _) = _; (repeat' split) <;> omega))⟩, ?_, ?_⟩
          exact h
          exact Nat.lt_succ_self _
      ·
        replace h := bif_f h hc18
        refine iwp_exit ?_
        refine thenQ_e ?_
        refine thenQ_e ?_
        refine blockQ_e ?_
        refine thenQ_n ?_
        refine iwp_reg (ils_cons rfl (iop_move rfl rfl (by decide) (sv (d := .gsl _ _ _) rfl)) <|
          ils_cons rfl (iop_assign rfl rfl (by decide) (sv (d := .gsl _ _ _) rfl)) <|
          ils_cons rfl (iop_assign rfl rfl (by decide) (sv (d := .int _ 0) rfl)) <|
          ils_end ?_)
        refine iwp_ret ?_
        obtain rfl := Option.some.inj h
        refine ⟨.inr rfl, (.cons (svg_of rfl rfl) (.cons (sv rfl) .nil))⟩

set_option maxRecDepth 8000 in
set_option maxHeartbeats 2000000 in
theorem p_frame_settings (a0 : (List UInt8)) (r : ((List T_api_Pair) × Bool)) (h : frame_settings a0 = some r) : PureAt Try.prog 35 [.str a0] (retD [.slice false (r.1.map E_api_Pair.d), .bool r.2]) := by
  refine pure_of_iwp (rs := [.slice false (r.1.map E_api_Pair.d), .bool r.2]) Try.func35 rfl Try.ntmps35 (nle rfl) rfl fun O hO => ?_
  show IWP _ _ _ _ ⟨[(0, .str a0)], []⟩ _
  unfold frame_settings at h
  refine iwp_reg (ils_cons rfl (iop_assign rfl rfl (by decide) (sv (d := .nils) rfl)) <|
    ils_cons rfl (iop_assign rfl rfl (by decide) (sv (d := .bool false) rfl)) <|
    ils_end ?_)
  obtain ⟨x1, hx1, h⟩ := bno_e h
  refine iwp_reg (ils_cons rfl (iop_move rfl rfl (by decide) (sv (d := .str _) rfl)) <|
    ils_cons rfl (iop_call (r := .tuple [.slice _ _, .int _ _]) rfl rfl (by decide) cl43 (.cons (sv (d := .str _) rfl) .nil) rfl (p_varint_All _ _ hx1)) <|
    ils_cons rfl (iop_move rfl rfl (by decide) (sv (d := .tuple [.slice _ _, .int _ _]) rfl)) <|
    ils_cons rfl (iop_extract (d := .slice _ _) rfl rfl (by decide) (sv (d := .tuple [.slice _ _, .int _ _]) rfl) rfl) <|
    ils_cons rfl (iop_extract (d := .int _ _) rfl rfl (by decide) (sv (d := .tuple [.slice _ _, .int _ _]) rfl) rfl) <|
    ils_cons rfl (iop_assign rfl rfl (by decide) (sv (d := .slice _ _) rfl)) <|
    ils_cons rfl (iop_assign rfl rfl (by decide) (sv (d := .int _ _) rfl)) <|
    ils_end ?_)
  refine iwp_seq ?_
  obtain ⟨x2, hx2, h⟩ := bnd_e h
  obtain ⟨x3, hx3, h⟩ := bno_e h
  obtain ⟨x4, hx4, h⟩ := bnd_e h
  obtain ⟨x5, hx5, h⟩ := bnd_e h
  refine iwp_reg (ils_cons rfl (iop_move rfl rfl (by decide) (sv (d := .int _ _) rfl)) <|
    ils_cons rfl (iop_cmpx rfl rfl (by decide) (sv (d := .int _ _) rfl) (sv (d := .int _ 0) rfl) rfl hx2) <|
    ils_cons rfl (iop_move rfl rfl (by decide) (sv (d := .bool _) rfl)) <|
    ils_guard rfl rfl (.one rfl) rfl (by decide) (fun hb => (iop_move rfl rfl (by decide) (sv (d := .slice _ _) rfl))) <|
    ils_guard rfl rfl (.one rfl) rfl (by decide) (fun hb => (iop_lenT (eInt .i64) (l := x1.1) rfl rfl (by decide) Try.underlying72 (svc (d := .slice _ _) rfl hb))) <|
    ils_guard rfl rfl (.one rfl) rfl (by decide) (fun hb => (iop_remx rfl rfl (by decide) (svc (d := .int _ _) rfl hb) (sv (d := .int _ 2) rfl) (gd_t hx3 hb))) <|
    ils_guard rfl rfl (.one rfl) rfl (by decide) (fun hb => (iop_cmpx rfl rfl (by decide) (svc (d := .int _ _) rfl hb) (sv (d := .int _ 1) rfl) rfl hx4)) <|
    ils_cons rfl (iop_orx rfl rfl (by decide) (sv (d := .bool _) rfl) rfl rfl hx5) <|
    ils_end ?_)
  refine iwp_cond (b := _) rfl (fun hc6 => ?_) (fun hc6 => ?_)
  ·
    replace h := bif_t h hc6
    refine iwp_reg (ils_cons rfl (iop_assign rfl rfl (by decide) (sv (d := .nils) rfl)) <|
      ils_cons rfl (iop_assign rfl rfl (by decide) (sv (d := .bool false) rfl)) <|
      ils_end ?_)
    refine iwp_ret ?_
    refine thenQ_r ?_
    obtain rfl := Option.some.inj h
    refine ⟨.inr rfl, (.cons (svn_of rfl rfl) (.cons (sv rfl) .nil))⟩
  ·
    replace h := bif_f h hc6
    refine iwp_skip ?_
    refine thenQ_n ?_
    refine iwp_reg (ils_cons rfl (iop_assign rfl rfl (by decide) (sv (d := .nils) rfl)) <|
      ils_end ?_)
    refine iwp_seq ?_
    refine iwp_block ?_
    refine iwp_loopP (α := Nat × (List Int) × (List T_api_Pair)) (fun z => ⟨[(4, .slice false (z.2.1.map (eInt .i64).d)), (6, .gsl 21 E_api_Pair.sz (z.2.2.map E_api_Pair.d))], [(21, .tail 66 E_api_Pair.sz z.2.2.length)]⟩) (fun z => frame_settings_L0 z.1 z.2.1 z.2.2 = some r) (fun z => z.1) (fuel, x1.1, ([] : (List T_api_Pair))) (fun i => if i = 21 then 71 else i) ⟨(.cons (.same rfl rfl) (.cons (.nils rfl) .nil)), (.cons (.nils rfl) .nil), nd_of [71] rfl (by decide), (fun i hi => by first | rfl | (show (if _ then _ else _) = _; (repeat' split) <;> omega))⟩ ?_ ?_
    · exact h
    ·
      rintro ⟨n0, v13, v14⟩ h
      cases n0 with
      | zero => exact absurd h (by unfold frame_settings_L0; exact nofun)
      | succ n0 =>
        unfold frame_settings_L0 at h
        refine iwp_seq ?_
        obtain ⟨x21, hx21, h⟩ := bnd_e h
        refine iwp_reg (ils_cons rfl (iop_move rfl rfl (by decide) (sv (d := .slice _ _) rfl)) <|
          ils_cons rfl (iop_lenT (eInt .i64) (l := v13) rfl rfl (by decide) Try.underlying72 (sv (d := .slice _ _) rfl)) <|
          ils_cons rfl (iop_cmpx rfl rfl (by decide) (sv (d := .int _ _) rfl) (sv (d := .int _ 0) rfl) rfl hx21) <|
          ils_end ?_)
        refine iwp_cond (b := _) rfl (fun hc22 => ?_) (fun hc22 => ?_)
        ·
          replace h := bif_t h hc22
          refine iwp_skip ?_
          refine thenQ_n ?_
          refine iwp_seq ?_
          refine iwp_block ?_
          obtain ⟨x23, hx23, h⟩ := bno_e h
          obtain ⟨x24, hx24, h⟩ := bno_e h
          obtain ⟨x25, hx25, h⟩ := bno_e h
          refine iwp_draw rfl [⟨[6], [], [(25, .gsl 21 E_api_Pair.sz (v14.map E_api_Pair.d))], []⟩,
            ⟨[4], [], [(26, .slice false (v13.map (eInt .i64).d))], []⟩,
            ⟨[26], [], [(27, .fptr [.int .i64 x23])], []⟩,
            ⟨[27], [], [(28, .int .i64 x23)], []⟩,
            ⟨[4], [], [(29, .slice false (v13.map (eInt .i64).d))], []⟩,
            ⟨[29], [], [(30, .fptr [.int .i64 x24])], []⟩,
            ⟨[30], [], [(31, .int .i64 x24)], []⟩,
            ⟨[28, 31], [], [(32, .agg [.int .i64 x23, .int .i64 x24])], []⟩,
            ⟨[32], [22], [(33, .gsl 22 E_api_Pair.sz ((([(⟨x23, x24⟩ : T_api_Pair)] : (List T_api_Pair))).map E_api_Pair.d))], [(22, .tail 66 E_api_Pair.sz (([(⟨x23, x24⟩ : T_api_Pair)] : (List T_api_Pair))).length)]⟩,
            ⟨[25, 33], [21, 23], [(34, .gsl 23 E_api_Pair.sz (x25.map E_api_Pair.d))], [(23, .tail 66 E_api_Pair.sz x25.length), (21, .none)]⟩,
            ⟨[34], [], [(6, .gsl 23 E_api_Pair.sz (x25.map E_api_Pair.d))], []⟩] rfl ?_ (by kernel_rfl) ?_
          · refine .cons (lop rfl rfl fun S hA => (iop_move rfl rfl (by decide) (sv (d := .gsl _ _ _) (agr hA rfl rfl)))) ?_
            refine .cons (lop rfl rfl fun S hA => (iop_move rfl rfl (by decide) (sv (d := .slice _ _) (agr hA rfl rfl)))) ?_
            refine .cons (lop rfl rfl fun S hA => (iop_idxT (eInt .i64) (cs := [.int _ _]) rfl rfl (by decide) Try.underlying72 ti3 (sv (d := .slice _ _) (agr hA rfl rfl)) (sv (d := .int _ 0) rfl) hx23 rfl rfl)) ?_
            refine .cons (lop rfl rfl fun S hA => (iop_load_fs rfl rfl (by decide) Try.underlying3 ag3 ti3 (by decide) (sv (d := .fptr [.int _ _]) (agr hA rfl rfl)) (nle rfl))) ?_
            refine .cons (lop rfl rfl fun S hA => (iop_move rfl rfl (by decide) (sv (d := .slice _ _) (agr hA rfl rfl)))) ?_
            refine .cons (lop rfl rfl fun S hA => (iop_idxT (eInt .i64) (cs := [.int _ _]) rfl rfl (by decide) Try.underlying72 ti3 (sv (d := .slice _ _) (agr hA rfl rfl)) (sv (d := .int _ 1) rfl) hx24 rfl rfl)) ?_
            refine .cons (lop rfl rfl fun S hA => (iop_load_fs rfl rfl (by decide) Try.underlying3 ag3 ti3 (by decide) (sv (d := .fptr [.int _ _]) (agr hA rfl rfl)) (nle rfl))) ?_
            refine .cons (lop rfl rfl fun S hA => (iop_build_struct (cs := [.int _ _, .int _ _]) rfl rfl (by decide) Try.underlying66 ti66 pl66 rfl (.cons (sv (d := .int _ _) (agr hA rfl rfl)) (.cons (sv (d := .int _ _) (agr hA rfl rfl)) .nil)) rfl)) ?_
            refine .cons (lop rfl rfl fun S hA => (iop_bsT E_api_Pair ([(⟨x23, x24⟩ : T_api_Pair)] : (List T_api_Pair)) 22 rfl rfl (by decide) Try.underlying39 ti66 (agi hA rfl rfl) (.cons (sv (d := .agg [.int _ _, .int _ _]) (agr hA rfl rfl)) .nil) rfl rfl (by decide))) ?_
            refine .cons (lop rfl rfl fun S hA => (iop_appT E_api_Pair 23 rfl rfl (by decide) Try.underlying39 ti66 rfl (agr hA rfl rfl) (agi hA rfl rfl) (agi hA rfl rfl) (svg (agr hA rfl rfl)) hx25)) ?_
            refine .cons (lop rfl rfl fun S hA => (iop_assign rfl rfl (by decide) (sv (d := .gsl _ _ _) (agr hA rfl rfl)))) ?_
            exact .nil
          refine blockQ_n ?_
          refine thenQ_n ?_
          obtain ⟨x26, hx26, h⟩ := bno_e h
          refine iwp_region (ils_cons rfl (iop_move rfl rfl (by decide) (sv (d := .slice _ _) rfl)) <|
            ils_cons rfl (iop_cutT (eInt .i64) rfl rfl (by decide) Try.underlying72 ti3 (sv (d := .slice _ _) rfl) ⟨_, (sv (d := .int _ 2) rfl)⟩ rfl hx26) <|
            ils_cons rfl (iop_assign rfl rfl (by decide) (sv (d := .slice _ _) rfl)) <|
            ils_nil ?_)
          refine thenQ_n ⟨(n0, x26, x25), (fun i => if i = 21 then 23 else i), ⟨(.cons (.same rfl rfl) (.cons (.same rfl rfl) .nil)), (.cons (.tail rfl) .nil), nd_of [23] rfl (by decide), (fun i hi => by first | rfl | (show (if _ then _ else _) = _; (repeat' split) <;> omega))⟩, ?_, ?_⟩
          exact h
          exact Nat.lt_succ_self _
        ·
          replace h := bif_f h hc22
          refine iwp_exit ?_
          refine thenQ_e ?_
          refine thenQ_e ?_
          refine blockQ_e ?_
          refine thenQ_n ?_
          refine iwp_reg (ils_cons rfl (iop_move rfl rfl (by decide) (sv (d := .gsl _ _ _) rfl)) <|
            ils_cons rfl (iop_assign rfl rfl (by decide) (sv (d := .gsl _ _ _) rfl)) <|
            ils_cons rfl (iop_assign rfl rfl (by decide) (sv (d := .bool true) rfl)) <|
            ils_end ?_)
          refine iwp_ret ?_
          obtain rfl := Option.some.inj h
          refine ⟨.inr rfl, (.cons (svg_of rfl rfl) (.cons (sv rfl) .nil))⟩

set_option maxRecDepth 8000 in
set_option maxHeartbeats 2000000 in
theorem p_frame_Frame_read_h (a0 : (List UInt8)) (a1 : T_frame_Frame) (r : (Bool × T_frame_Frame)) (h : frame_Frame_read_h a0 a1 = some r) : FnH Try.prog 25 [.ref 1000 0, .str a0] [(1000, .blk 44 [.int .u8 a1.Kind, .bool a1.Flag, .int .i64 a1.Stream, .int .i64 a1.Offset, .int .i64 a1.Dep, .int .i64 a1.Weight, .int .i64 a1.N, .int .i64 a1.Code, .slice false (a1.Pairs.map E_api_Pair.d), .str a1.Data])] (.bool r.1) [(1000, .blk 44 [.int .u8 r.2.Kind, .bool r.2.Flag, .int .i64 r.2.Stream, .int .i64 r.2.Offset, .int .i64 r.2.Dep, .int .i64 r.2.Weight, .int .i64 r.2.N, .int .i64 r.2.Code, .slice false (r.2.Pairs.map E_api_Pair.d), .str r.2.Data])] := by
  refine fnh_of_iwp (rs := [.bool r.1]) Try.func25 rfl Try.ntmps25 (nle rfl) fun O hO => ?_
  show IWP _ _ _ _ ⟨[(0, .ref 1000 0), (1, .str a0)], [(1000, .blk 44 [.int .u8 a1.Kind, .bool a1.Flag, .int .i64 a1.Stream, .int .i64 a1.Offset, .int .i64 a1.Dep, .int .i64 a1.Weight, .int .i64 a1.N, .int .i64 a1.Code, .slice false (a1.Pairs.map E_api_Pair.d), .str a1.Data])]⟩ _
  unfold frame_Frame_read_h at h
  refine iwp_reg (ils_cons rfl (iop_assign rfl rfl (by decide) (sv (d := .bool false) rfl)) <|
    ils_end ?_)
  refine iwp_seq ?_
  obtain ⟨x1, hx1, h⟩ := bno_e h
  refine iwp_reg (ils_cons rfl (iop_move rfl rfl (by decide) (sv (d := .ref _ _) rfl)) <|
    ils_cons rfl (iop_callh2 (r' := .osl 0 (eRef 1000).sz x1.length) (H1' := [(1000, .blk 44 [.int .u8 a1.Kind, .bool a1.Flag, .int .i64 a1.Stream, .int .i64 a1.Offset, .int .i64 a1.Dep, .int .i64 a1.Weight, .int .i64 a1.N, .int .i64 a1.Code, .slice false (a1.Pairs.map E_api_Pair.d), .str a1.Data]), (0, .blk 75 (D.flat (x1.map (eRef 1000).d)))]) 0 [1000] rfl rfl (by decide) cl31 (.cons (sv (d := .ref _ _) rfl) .nil) rfl rfl ⟨rfl, rfl, by decide, rfl, List.forall_mem_cons.2 ⟨⟨rfl, rfl, rfl, rfl⟩, List.forall_mem_nil _⟩⟩ (p_frame_Frame_numbers_h _ _ hx1) rfl rfl (List.forall_mem_cons.2 ⟨⟨rfl, rfl⟩, List.forall_mem_cons.2 ⟨⟨rfl, (handRr rfl)⟩, List.forall_mem_nil _⟩⟩) (by simp only [List.map_cons, List.map_nil, Ent.ren, renL_flat, renL_ref]; rfl)) <|
    ils_cons rfl (iop_lenO rfl rfl (by decide) Try.underlying73 (sv (d := .osl _ _ _) rfl)) <|
    ils_cons rfl (iop_move rfl rfl (by decide) (sv (d := .int _ 0) rfl)) <|
    ils_end ?_)
  refine iwp_block ?_
  refine iwp_loopP (α := Nat × (List UInt8) × Int × Int × Int × Int × Int × Int × Int) (fun z => ⟨[(0, .ref 1000 0), (1, .str z.2.1), (13, .osl 0 (eRef 1000).sz x1.length), (14, .int .i64 (x1.length : Int)), (15, .int .i64 z.2.2.1)], [(1000, .blk 44 [.int .u8 a1.Kind, .bool a1.Flag, .int .i64 z.2.2.2.1, .int .i64 z.2.2.2.2.1, .int .i64 z.2.2.2.2.2.1, .int .i64 z.2.2.2.2.2.2.1, .int .i64 z.2.2.2.2.2.2.2.1, .int .i64 z.2.2.2.2.2.2.2.2, .slice false (a1.Pairs.map E_api_Pair.d), .str a1.Data]), (0, .blk 75 (D.flat (x1.map (eRef 1000).d)))]⟩) (fun z => frame_Frame_read_h_L0 a1 x1 z.1 z.2.1 z.2.2.1 z.2.2.2.1 z.2.2.2.2.1 z.2.2.2.2.2.1 z.2.2.2.2.2.2.1 z.2.2.2.2.2.2.2.1 z.2.2.2.2.2.2.2.2 = some r) (fun z => z.1) (fuel, a0, 0, a1.Stream, a1.Offset, a1.Dep, a1.Weight, a1.N, a1.Code) (fun i => i) ⟨(.cons (.same rfl rfl) (.cons (.same rfl rfl) (.cons (.same rfl rfl) (.cons (.same rfl rfl) (.cons (.same rfl rfl) .nil))))), (.cons (.blk rfl rfl rfl) (.cons (EntW.lstR rfl rfl) .nil)), nd_of [1000, 0] rfl (by decide), (fun i hi => by first | rfl | (show (if _ then _ else _) = _; (repeat' split) <;> omega))⟩ ?_ ?_
  · exact h
  ·
    rintro ⟨n0, v12, v13, v14, v15, v16, v17, v18, v19⟩ h
    cases n0 with
    | zero => exact absurd h (by unfold frame_Frame_read_h_L0; exact nofun)
    | succ n0 =>
      unfold frame_Frame_read_h_L0 at h
      obtain ⟨x30, hx30, h⟩ := bnd_e h
      refine iwp_reg (ils_cons rfl (iop_cmpx rfl rfl (by decide) (sv (d := .int _ _) rfl) (sv (d := .int _ _) rfl) rfl hx30) <|
        ils_end ?_)
      refine iwp_seq ?_
      refine iwp_cond (b := _) rfl (fun hc31 => ?_) (fun hc31 => ?_)
      ·
        replace h := bif_t h hc31
        refine iwp_skip ?_
        refine thenQ_n ?_
        refine iwp_seq ?_
        refine iwp_block ?_
        obtain ⟨x32, hx32, h⟩ := bno_e h
        obtain ⟨x33, hx33, h⟩ := bno_e h
        refine iwp_reg (ils_cons rfl (iop_idxO (eRef 1000) rfl rfl (by decide) Try.underlying73 ti75 (sv (d := .osl _ _ _) rfl) rfl (sv (d := .int _ _) rfl) hx32) <|
          ils_cons rfl (iop_loadEs (eRef 1000) (d := .ref _ _) rfl rfl (by decide) Try.underlying75 ag75 ti75 (by decide) (sv (d := .ref _ _) rfl) rfl hx33 (nle rfl) rfl) <|
          ils_cons rfl (iop_assign rfl rfl (by decide) (sv (d := .ref _ _) rfl)) <|
          ils_end ?_)
        obtain ⟨x34, hx34, h⟩ := bno_e h
        refine iwp_reg (ils_cons rfl (iop_move rfl rfl (by decide) (sv (d := .str _) rfl)) <|
          ils_cons rfl (iop_call (r := .tuple [.int _ _, .int _ _, .int _ _]) rfl rfl (by decide) cl18 (.cons (sv (d := .str _) rfl) .nil) rfl (p_varint_Get _ _ hx34)) <|
          ils_cons rfl (iop_move rfl rfl (by decide) (sv (d := .tuple [.int _ _, .int _ _, .int _ _]) rfl)) <|
          ils_cons rfl (iop_extract (d := .int _ _) rfl rfl (by decide) (sv (d := .tuple [.int _ _, .int _ _, .int _ _]) rfl) rfl) <|
          ils_cons rfl (iop_extract (d := .int _ _) rfl rfl (by decide) (sv (d := .tuple [.int _ _, .int _ _, .int _ _]) rfl) rfl) <|
          ils_cons rfl (iop_extract (d := .int _ _) rfl rfl (by decide) (sv (d := .tuple [.int _ _, .int _ _, .int _ _]) rfl) rfl) <|
          ils_cons rfl (iop_assign rfl rfl (by decide) (sv (d := .int _ _) rfl)) <|
          ils_cons rfl (iop_assign rfl rfl (by decide) (sv (d := .int _ _) rfl)) <|
          ils_cons rfl (iop_assign rfl rfl (by decide) (sv (d := .int _ _) rfl)) <|
          ils_end ?_)
        refine iwp_seq ?_
        obtain ⟨x35, hx35, h⟩ := bnd_e h
        refine iwp_reg (ils_cons rfl (iop_move rfl rfl (by decide) (sv (d := .int _ _) rfl)) <|
          ils_cons rfl (iop_cmpx rfl rfl (by decide) (sv (d := .int _ _) rfl) (sv (d := .int _ 0) rfl) rfl hx35) <|
          ils_end ?_)
        refine iwp_cond (b := _) rfl (fun hc36 => ?_) (fun hc36 => ?_)
        ·
          replace h := bif_t h hc36
          refine iwp_reg (ils_cons rfl (iop_assign rfl rfl (by decide) (sv (d := .bool false) rfl)) <|
            ils_end ?_)
          refine iwp_ret ?_
          refine thenQ_r ?_
          refine blockQ_r ?_
          refine thenQ_r ?_
          refine thenQ_r ?_
          refine blockQ_r ?_
          refine thenQ_r ?_
          obtain rfl := Option.some.inj h
          refine ⟨.inr rfl, (fun i => i), ⟨.nil, (.cons (.blk rfl rfl rfl) .nil), nd_of [1000] rfl (by decide), (fun i hi => by first | rfl | (show (if _ then _ else _) = _; (repeat' split) <;> omega))⟩, (.cons (sv rfl) .nil), rfl⟩
        ·
          replace h := bif_f h hc36
          refine iwp_skip ?_
          refine thenQ_n ?_
          obtain ⟨x37, hx37, h⟩ := bno_e h
          refine iwp_reg (ils_cons rfl (iop_move rfl rfl (by decide) (sv (d := .ref _ _) rfl)) <|
            ils_cons rfl (iop_move rfl rfl (by decide) (sv (d := .int _ _) rfl)) <|
            ils_cons rfl (iop_nilCheck_ref rfl rfl (by decide) (sv (d := .ref _ _) rfl)) <|
            ils_cons rfl (iop_store_sym (cs' := [.int .u8 a1.Kind, .bool a1.Flag, .int .i64 (bif Nat.beq x33 2 then x34.1 else v14), .int .i64 (bif Nat.beq x33 3 then x34.1 else v15), .int .i64 (bif Nat.beq x33 4 then x34.1 else v16), .int .i64 (bif Nat.beq x33 5 then x34.1 else v17), .int .i64 (bif Nat.beq x33 6 then x34.1 else v18), .int .i64 (bif Nat.beq x33 7 then x34.1 else v19), .slice false (a1.Pairs.map E_api_Pair.d), .str a1.Data]) rfl rfl ti3 (sv (d := .ref _ _) rfl) rfl (sv (d := .int _ _) rfl) hx37 rfl) <|
            ils_end ?_)
          obtain ⟨x38, hx38, h⟩ := bno_e h
          refine iwp_region (ils_cons rfl (iop_move rfl rfl (by decide) (sv (d := .str _) rfl)) <|
            ils_cons rfl (iop_move rfl rfl (by decide) (sv (d := .int _ _) rfl)) <|
            ils_cons rfl (iop_cutS rfl rfl (by decide) Try.underlying9 (sv (d := .str _) rfl) ⟨_, (sv (d := .int _ _) rfl)⟩ rfl hx38) <|
            ils_cons rfl (iop_assign rfl rfl (by decide) (sv (d := .str _) rfl)) <|
            ils_nil ?_)
          refine blockQ_n ?_
          refine thenQ_n ?_
          obtain ⟨x39, hx39, h⟩ := bnd_e h
          refine iwp_region (ils_cons rfl (iop_intx rfl rfl (by decide) (sv (d := .int _ _) rfl) (sv (d := .int _ 1) rfl) rfl hx39) <|
            ils_cons rfl (iop_move rfl rfl (by decide) (sv (d := .int _ _) rfl)) <|
            ils_nil ?_)
          refine thenQ_n ⟨(n0, x38, x39, (bif Nat.beq x33 2 then x34.1 else v14), (bif Nat.beq x33 3 then x34.1 else v15), (bif Nat.beq x33 4 then x34.1 else v16), (bif Nat.beq x33 5 then x34.1 else v17), (bif Nat.beq x33 6 then x34.1 else v18), (bif Nat.beq x33 7 then x34.1 else v19)), (fun i => i), ⟨(.cons (.same rfl rfl) (.cons (.same rfl rfl) (.cons (.same rfl rfl) (.cons (.same rfl rfl) (.cons (.same rfl rfl) .nil))))), (.cons (.blk rfl rfl rfl) (.cons (EntW.lstR rfl rfl) .nil)), nd_of [1000, 0] rfl (by decide), (fun i hi => by first | rfl | (show (if _ then _ else _) = _; (repeat' split) <;> omega))⟩, ?_, ?_⟩
          exact h
          exact Nat.lt_succ_self _
      ·
        replace h := bif_f h hc31
        refine iwp_exit ?_
        refine thenQ_e ?_
        refine thenQ_e ?_
        refine blockQ_e ?_
        refine thenQ_n ?_
        refine iwp_seq ?_
        refine iwp_reg (ils_cons rfl (iop_move rfl rfl (by decide) (sv (d := .ref _ _) rfl)) <|
          ils_cons rfl (iop_nilCheck_ref rfl rfl (by decide) (sv (d := .ref _ _) rfl)) <|
          ils_cons rfl (iop_fieldAddr_ref rfl rfl (by decide) Try.underlying44 rfl ti5 (by decide) (sv (d := .ref _ _) rfl) (off' := 0) rfl) <|
          ils_cons rfl (iop_load_rs (d := .int _ _) rfl rfl (by decide) Try.underlying5 ag5 ti5 (by decide) (sv (d := .ref _ _) rfl) rfl (nle rfl) rfl) <|
          ils_end ?_)
        refine iwp_block ?_
        obtain ⟨x40, hx40, h⟩ := bnd_e h
        refine iwp_reg (ils_cons rfl (iop_cmpx rfl rfl (by decide) (sv (d := .int _ _) rfl) (sv (d := .int _ 0) rfl) rfl hx40) <|
          ils_cons rfl (iop_assign rfl rfl (by decide) (sv (d := .bool _) rfl)) <|
          ils_end ?_)
        refine iwp_cond (b := _) rfl (fun hc41 => ?_) (fun hc41 => ?_)
        ·
          replace h := bif_t h hc41
          refine iwp_reg (ils_cons rfl (iop_move rfl rfl (by decide) (sv (d := .ref _ _) rfl)) <|
            ils_cons rfl (iop_move rfl rfl (by decide) (sv (d := .str _) rfl)) <|
            ils_cons rfl (iop_nilCheck_ref rfl rfl (by decide) (sv (d := .ref _ _) rfl)) <|
            ils_cons rfl (iop_fieldAddr_ref rfl rfl (by decide) Try.underlying44 rfl ti9 (by decide) (sv (d := .ref _ _) rfl) (off' := 9) rfl) <|
            ils_cons rfl (iop_store (ds' := [.int _ _, .bool _, .int _ _, .int _ _, .int _ _, .int _ _, .int _ _, .int _ _, .slice _ _, .str _]) rfl rfl ti9 (sv (d := .ref _ _) rfl) rfl (sv (d := .str _) rfl) rfl rfl rfl (nle rfl) rfl) <|
            ils_end ?_)
          refine iwp_reg (ils_cons rfl (iop_assign rfl rfl (by decide) (sv (d := .bool true) rfl)) <|
            ils_end ?_)
          refine iwp_ret ?_
          refine blockQ_r ?_
          refine thenQ_r ?_
          obtain rfl := Option.some.inj h
          refine ⟨.inr rfl, (fun i => i), ⟨.nil, (.cons (.blk rfl rfl rfl) .nil), nd_of [1000] rfl (by decide), (fun i hi => by first | rfl | (show (if _ then _ else _) = _; (repeat' split) <;> omega))⟩, (.cons (sv rfl) .nil), rfl⟩
        ·
          replace h := bif_f h hc41
          obtain ⟨x42, hx42, h⟩ := bnd_e h
          refine iwp_reg (ils_cons rfl (iop_cmpx rfl rfl (by decide) (sv (d := .int _ _) rfl) (sv (d := .int _ 4) rfl) rfl hx42) <|
            ils_cons rfl (iop_assign rfl rfl (by decide) (sv (d := .bool _) rfl)) <|
            ils_end ?_)
          refine iwp_cond (b := _) rfl (fun hc43 => ?_) (fun hc43 => ?_)
          ·
            replace h := bif_t h hc43
            obtain ⟨x44, hx44, h⟩ := bno_e h
            refine iwp_reg (ils_cons rfl (iop_move rfl rfl (by decide) (sv (d := .str _) rfl)) <|
              ils_cons rfl (iop_call (r := .tuple [.slice _ _, .bool _]) rfl rfl (by decide) cl35 (.cons (sv (d := .str _) rfl) .nil) rfl (p_frame_settings _ _ hx44)) <|
              ils_cons rfl (iop_move rfl rfl (by decide) (sv (d := .tuple [.slice _ _, .bool _]) rfl)) <|
              ils_cons rfl (iop_extract (d := .slice _ _) rfl rfl (by decide) (sv (d := .tuple [.slice _ _, .bool _]) rfl) rfl) <|
              ils_cons rfl (iop_extract (d := .bool _) rfl rfl (by decide) (sv (d := .tuple [.slice _ _, .bool _]) rfl) rfl) <|
              ils_cons rfl (iop_assign rfl rfl (by decide) (sv (d := .slice _ _) rfl)) <|
              ils_cons rfl (iop_assign rfl rfl (by decide) (sv (d := .bool _) rfl)) <|
              ils_end ?_)
            refine iwp_reg (ils_cons rfl (iop_move rfl rfl (by decide) (sv (d := .ref _ _) rfl)) <|
              ils_cons rfl (iop_move rfl rfl (by decide) (sv (d := .slice _ _) rfl)) <|
              ils_cons rfl (iop_nilCheck_ref rfl rfl (by decide) (sv (d := .ref _ _) rfl)) <|
              ils_cons rfl (iop_fieldAddr_ref rfl rfl (by decide) Try.underlying44 rfl ti39 (by decide) (sv (d := .ref _ _) rfl) (off' := 8) rfl) <|
              ils_cons rfl (iop_store (ds' := [.int _ _, .bool _, .int _ _, .int _ _, .int _ _, .int _ _, .int _ _, .int _ _, .slice _ _, .str _]) rfl rfl ti39 (sv (d := .ref _ _) rfl) rfl (sv (d := .slice _ _) rfl) rfl rfl rfl (nle rfl) rfl) <|
              ils_end ?_)
            refine iwp_reg (ils_cons rfl (iop_move rfl rfl (by decide) (sv (d := .bool _) rfl)) <|
              ils_cons rfl (iop_assign rfl rfl (by decide) (sv (d := .bool _) rfl)) <|
              ils_end ?_)
            refine iwp_ret ?_
            refine blockQ_r ?_
            refine thenQ_r ?_
            obtain rfl := Option.some.inj h
            refine ⟨.inr rfl, (fun i => i), ⟨.nil, (.cons (.blk rfl rfl rfl) .nil), nd_of [1000] rfl (by decide), (fun i hi => by first | rfl | (show (if _ then _ else _) = _; (repeat' split) <;> omega))⟩, (.cons (sv rfl) .nil), rfl⟩
          ·
            replace h := bif_f h hc43
            refine iwp_skip ?_
            refine blockQ_n ?_
            refine thenQ_n ?_
            obtain ⟨x45, hx45, h⟩ := bnd_e h
            refine iwp_reg (ils_cons rfl (iop_move rfl rfl (by decide) (sv (d := .str _) rfl)) <|
              ils_cons rfl (iop_strx rfl rfl (by decide) (sv (d := .str _) rfl) (sv (d := .str []) rfl) rfl hx45) <|
              ils_cons rfl (iop_assign rfl rfl (by decide) (sv (d := .bool _) rfl)) <|
              ils_end ?_)
            refine iwp_ret ?_
            obtain rfl := Option.some.inj h
            refine ⟨.inr rfl, (fun i => i), ⟨.nil, (.cons (.blk rfl rfl rfl) .nil), nd_of [1000] rfl (by decide), (fun i hi => by first | rfl | (show (if _ then _ else _) = _; (repeat' split) <;> omega))⟩, (.cons (sv rfl) .nil), rfl⟩

set_option maxRecDepth 8000 in
set_option maxHeartbeats 2000000 in
theorem p_frame_in (a0 : Int) (a1 : Int) (a2 : Int) (r : Bool) (h : frame_in a0 a1 a2 = some r) : PureAt Try.prog 37 [.int .i64 a0, .int .i64 a1, .int .i64 a2] (.bool r) := by
  refine pure_of_iwp (rs := [.bool r]) Try.func37 rfl Try.ntmps37 (nle rfl) rfl fun O hO => ?_
  show IWP _ _ _ _ ⟨[(0, .int .i64 a0), (1, .int .i64 a1), (2, .int .i64 a2)], []⟩ _
  unfold frame_in at h
  refine iwp_reg (ils_cons rfl (iop_assign rfl rfl (by decide) (sv (d := .bool false) rfl)) <|
    ils_end ?_)
  obtain ⟨x1, hx1, h⟩ := bnd_e h
  obtain ⟨x2, hx2, h⟩ := bnd_e h
  obtain ⟨x3, hx3, h⟩ := bnd_e h
  refine iwp_reg (ils_cons rfl (iop_move rfl rfl (by decide) (sv (d := .int _ _) rfl)) <|
    ils_cons rfl (iop_move rfl rfl (by decide) (sv (d := .int _ _) rfl)) <|
    ils_cons rfl (iop_cmpx rfl rfl (by decide) (sv (d := .int _ _) rfl) (sv (d := .int _ _) rfl) rfl hx1) <|
    ils_cons rfl (iop_move rfl rfl (by decide) (sv (d := .bool _) rfl)) <|
    ils_guard rfl rfl (.one rfl) rfl (by decide) (fun hb => (iop_move rfl rfl (by decide) (sv (d := .int _ _) rfl))) <|
    ils_guard rfl rfl (.one rfl) rfl (by decide) (fun hb => (iop_move rfl rfl (by decide) (sv (d := .int _ _) rfl))) <|
    ils_guard rfl rfl (.one rfl) rfl (by decide) (fun hb => (iop_cmpx rfl rfl (by decide) (svc (d := .int _ _) rfl hb) (svc (d := .int _ _) rfl hb) rfl hx2)) <|
    ils_cons rfl (iop_andx rfl rfl (by decide) (sv (d := .bool _) rfl) rfl rfl hx3) <|
    ils_cons rfl (iop_assign rfl rfl (by decide) (sv (d := .bool _) rfl)) <|
    ils_end ?_)
  refine iwp_ret ?_
  obtain rfl := Option.some.inj h
  refine ⟨.inr rfl, (.cons (sv rfl) .nil)⟩

set_option maxRecDepth 8000 in
set_option maxHeartbeats 2000000 in
theorem p_frame_Frame_ranges_1 (a0 : T_api_Pair) (r : Bool) (h : frame_Frame_ranges_1 a0 = some r) : PureAt Try.prog 38 [.agg [.int .i64 a0.ID, .int .i64 a0.Value]] (.bool r) := by
  refine pure_of_iwp (rs := [.bool r]) Try.func38 rfl Try.ntmps38 (nle rfl) rfl fun O hO => ?_
  show IWP _ _ _ _ ⟨[(0, .agg [.int .i64 a0.ID, .int .i64 a0.Value])], []⟩ _
  unfold frame_Frame_ranges_1 at h
  refine iwp_reg (ils_cons rfl (iop_box' (cs := [.int _ _, .int _ _]) 0 rfl rfl (by decide) rfl (sv (d := .agg [.int _ _, .int _ _]) rfl) rfl rfl) <|
    ils_cons rfl (iop_assign rfl rfl (by decide) (sv (d := .bool false) rfl)) <|
    ils_end ?_)
  obtain ⟨x1, hx1, h⟩ := bno_e h
  obtain ⟨x2, hx2, h⟩ := bno_e h
  obtain ⟨x3, hx3, h⟩ := bnd_e h
  refine iwp_reg (ils_cons rfl (iop_fieldAddr_ref rfl rfl (by decide) Try.underlying66 rfl ti3 (by decide) (sv (d := .ref _ _) rfl) (off' := 0) rfl) <|
    ils_cons rfl (iop_load_rs (d := .int _ _) rfl rfl (by decide) Try.underlying3 ag3 ti3 (by decide) (sv (d := .ref _ _) rfl) rfl (nle rfl) rfl) <|
    ils_cons rfl (iop_call (r := .bool _) rfl rfl (by decide) cl37 (.cons (sv (d := .int _ _) rfl) (.cons (sv (d := .int _ 0) rfl) (.cons (sv (d := .int _ 1099511627776) rfl) .nil))) rfl (p_frame_in _ _ _ _ hx1)) <|
    ils_cons rfl (iop_not rfl rfl (by decide) (sv (d := .bool _) rfl)) <|
    ils_cons rfl (iop_move rfl rfl (by decide) (sv (d := .bool _) rfl)) <|
    ils_guard rfl rfl (.one rfl) rfl (by decide) (fun hb => (iop_fieldAddr_ref rfl rfl (by decide) Try.underlying66 rfl ti3 (by decide) (sv (d := .ref _ _) rfl) (off' := 1) rfl)) <|
    ils_guard rfl rfl (.one rfl) rfl (by decide) (fun hb => (iop_load_rs (d := .int _ _) rfl rfl (by decide) Try.underlying3 ag3 ti3 (by decide) (svc (d := .ref _ _) rfl hb) rfl (nle rfl) rfl)) <|
    ils_guard rfl rfl (.one rfl) rfl (by decide) (fun hb => (iop_call (r := .bool _) rfl rfl (by decide) cl37 (.cons (svc (d := .int _ _) rfl hb) (.cons (sv (d := .int _ 0) rfl) (.cons (sv (d := .int _ 1099511627776) rfl) .nil))) rfl (p_frame_in _ _ _ _ (gd_t hx2 hb)))) <|
    ils_guard rfl rfl (.one rfl) rfl (by decide) (fun hb => (iop_not rfl rfl (by decide) (svc (d := .bool _) rfl hb))) <|
    ils_cons rfl (iop_orx rfl rfl (by decide) (sv (d := .bool _) rfl) rfl rfl hx3) <|
    ils_cons rfl (iop_assign rfl rfl (by decide) (sv (d := .bool _) rfl)) <|
    ils_end ?_)
  refine iwp_ret ?_
  obtain rfl := Option.some.inj h
  refine ⟨.inr rfl, (.cons (sv rfl) .nil)⟩

set_option maxRecDepth 8000 in
set_option maxHeartbeats 2000000 in
theorem p_slices_IndexFunc_api_Pair_api_Pair_ranges_1 (a0 : (List T_api_Pair)) (r : Int) (h : slices_IndexFunc_api_Pair_api_Pair_ranges_1 a0 = some r) : PureAt Try.prog 46 [.slice false (a0.map E_api_Pair.d), .fn 38 []] (.int .i64 r) := by
  refine pure_of_iwp (rs := [.int .i64 r]) Try.func46 rfl Try.ntmps46 (nle rfl) rfl fun O hO => ?_
  show IWP _ _ _ _ ⟨[(0, .slice false (a0.map E_api_Pair.d)), (1, .fn 38 [])], []⟩ _
  unfold slices_IndexFunc_api_Pair_api_Pair_ranges_1 at h
  refine iwp_reg (ils_cons rfl (iop_assign rfl rfl (by decide) (sv (d := .int _ 0) rfl)) <|
    ils_end ?_)
  refine iwp_seq ?_
  refine iwp_reg (ils_cons rfl (iop_move rfl rfl (by decide) (sv (d := .slice _ _) rfl)) <|
    ils_cons rfl (iop_lenT E_api_Pair (l := a0) rfl rfl (by decide) Try.underlying39 (sv (d := .slice _ _) rfl)) <|
    ils_cons rfl (iop_move rfl rfl (by decide) (sv (d := .int _ 0) rfl)) <|
    ils_end ?_)
  refine iwp_block ?_
  refine iwp_loopP (α := Nat × Int) (fun z => ⟨[(0, .slice false (a0.map E_api_Pair.d)), (1, .fn 38 []), (7, .int .i64 (a0.length : Int)), (8, .int .i64 z.2)], []⟩) (fun z => slices_IndexFunc_api_Pair_api_Pair_ranges_1_L0 a0 z.1 z.2 = some r) (fun z => z.1) (fuel, 0) (fun i => i) ⟨(.cons (.same rfl rfl) (.cons (.same rfl rfl) (.cons (.same rfl rfl) (.cons (.same rfl rfl) .nil)))), .nil, nd_of [] rfl (by decide), (fun i hi => by first | rfl | (show (if _ then _ else _) = _; (repeat' split) <;> omega))⟩ ?_ ?_
  · exact h
  ·
    rintro ⟨n0, v7⟩ h
    cases n0 with
    | zero => exact absurd h (by unfold slices_IndexFunc_api_Pair_api_Pair_ranges_1_L0; exact nofun)
    | succ n0 =>
      unfold slices_IndexFunc_api_Pair_api_Pair_ranges_1_L0 at h
      obtain ⟨x14, hx14, h⟩ := bnd_e h
      refine iwp_reg (ils_cons rfl (iop_cmpx rfl rfl (by decide) (sv (d := .int _ _) rfl) (sv (d := .int _ _) rfl) rfl hx14) <|
        ils_end ?_)
      refine iwp_seq ?_
      refine iwp_cond (b := _) rfl (fun hc15 => ?_) (fun hc15 => ?_)
      ·
        replace h := bif_t h hc15
        refine iwp_skip ?_
        refine thenQ_n ?_
        refine iwp_seq ?_
        refine iwp_block ?_
        refine iwp_reg (ils_cons rfl (iop_move rfl rfl (by decide) (sv (d := .int _ _) rfl)) <|
          ils_cons rfl (iop_assign rfl rfl (by decide) (sv (d := .int _ _) rfl)) <|
          ils_end ?_)
        obtain ⟨x16, hx16, h⟩ := bno_e h
        obtain ⟨x17, hx17, h⟩ := bno_e h
        refine iwp_reg (ils_cons rfl (iop_move rfl rfl (by decide) (sv (d := .fn 38 []) rfl)) <|
          ils_cons rfl (iop_move rfl rfl (by decide) (sv (d := .slice _ _) rfl)) <|
          ils_cons rfl (iop_move rfl rfl (by decide) (sv (d := .int _ _) rfl)) <|
          ils_cons rfl (iop_idxT E_api_Pair (cs := [.int _ _, .int _ _]) rfl rfl (by decide) Try.underlying39 ti66 (sv (d := .slice _ _) rfl) (sv (d := .int _ _) rfl) hx16 rfl rfl) <|
          ils_cons rfl (iop_load_fa (cs := [.int _ _, .int _ _]) rfl rfl (by decide) Try.underlying66 ag66 ti66 (by decide) (sv (d := .fptr [.int _ _, .int _ _]) rfl) (nle rfl) rfl) <|
          ils_cons rfl (iop_callv (r := .bool _) rfl rfl (by decide) cl38 (sv (d := .fn 38 []) rfl) (.cons (sv (d := .agg [.int _ _, .int _ _]) rfl) .nil) rfl (p_frame_Frame_ranges_1 _ _ hx17)) <|
          ils_end ?_)
        refine iwp_cond (b := _) rfl (fun hc18 => ?_) (fun hc18 => ?_)
        ·
          replace h := bif_t h hc18
          refine iwp_reg (ils_cons rfl (iop_move rfl rfl (by decide) (sv (d := .int _ _) rfl)) <|
            ils_cons rfl (iop_assign rfl rfl (by decide) (sv (d := .int _ _) rfl)) <|
            ils_end ?_)
          refine iwp_ret ?_
          refine blockQ_r ?_
          refine thenQ_r ?_
          refine thenQ_r ?_
          refine blockQ_r ?_
          refine thenQ_r ?_
          obtain rfl := Option.some.inj h
          refine ⟨.inr rfl, (.cons (sv rfl) .nil)⟩
        ·
          replace h := bif_f h hc18
          refine iwp_skip ?_
          refine blockQ_n ?_
          refine thenQ_n ?_
          obtain ⟨x19, hx19, h⟩ := bnd_e h
          refine iwp_region (ils_cons rfl (iop_intx rfl rfl (by decide) (sv (d := .int _ _) rfl) (sv (d := .int _ 1) rfl) rfl hx19) <|
            ils_cons rfl (iop_move rfl rfl (by decide) (sv (d := .int _ _) rfl)) <|
            ils_nil ?_)
          refine thenQ_n ⟨(n0, x19), (fun i => i), ⟨(.cons (.same rfl rfl) (.cons (.same rfl rfl) (.cons (.same rfl rfl) (.cons (.same rfl rfl) .nil)))), .nil, nd_of [] rfl (by decide), (fun i hi => by first | rfl | (show (if _ then _ else _) = _; (repeat' split) <;> omega))⟩, ?_, ?_⟩
          exact h
          exact Nat.lt_succ_self _
      ·
        replace h := bif_f h hc15
        refine iwp_exit ?_
        refine thenQ_e ?_
        refine thenQ_e ?_
        refine blockQ_e ?_
        refine thenQ_n ?_
        refine iwp_reg (ils_cons rfl (iop_assign rfl rfl (by decide) (sv (d := .int _ (-1)) rfl)) <|
          ils_end ?_)
        refine iwp_ret ?_
        obtain rfl := Option.some.inj h
        refine ⟨.inr rfl, (.cons (sv rfl) .nil)⟩

set_option maxRecDepth 8000 in
set_option maxHeartbeats 2000000 in
theorem p_slices_ContainsFunc_api_Pair_api_Pair_ranges_1 (a0 : (List T_api_Pair)) (r : Bool) (h : slices_ContainsFunc_api_Pair_api_Pair_ranges_1 a0 = some r) : PureAt Try.prog 39 [.slice false (a0.map E_api_Pair.d), .fn 38 []] (.bool r) := by
  refine pure_of_iwp (rs := [.bool r]) Try.func39 rfl Try.ntmps39 (nle rfl) rfl fun O hO => ?_
  show IWP _ _ _ _ ⟨[(0, .slice false (a0.map E_api_Pair.d)), (1, .fn 38 [])], []⟩ _
  unfold slices_ContainsFunc_api_Pair_api_Pair_ranges_1 at h
  refine iwp_reg (ils_cons rfl (iop_assign rfl rfl (by decide) (sv (d := .bool false) rfl)) <|
    ils_end ?_)
  obtain ⟨x1, hx1, h⟩ := bno_e h
  obtain ⟨x2, hx2, h⟩ := bnd_e h
  refine iwp_reg (ils_cons rfl (iop_move rfl rfl (by decide) (sv (d := .slice _ _) rfl)) <|
    ils_cons rfl (iop_move rfl rfl (by decide) (sv (d := .fn 38 []) rfl)) <|
    ils_cons rfl (iop_call (r := .int _ _) rfl rfl (by decide) cl46 (.cons (sv (d := .slice _ _) rfl) (.cons (sv (d := .fn 38 []) rfl) .nil)) rfl (p_slices_IndexFunc_api_Pair_api_Pair_ranges_1 _ _ hx1)) <|
    ils_cons rfl (iop_cmpx rfl rfl (by decide) (sv (d := .int _ _) rfl) (sv (d := .int _ 0) rfl) rfl hx2) <|
    ils_cons rfl (iop_assign rfl rfl (by decide) (sv (d := .bool _) rfl)) <|
    ils_end ?_)
  refine iwp_ret ?_
  obtain rfl := Option.some.inj h
  refine ⟨.inr rfl, (.cons (sv rfl) .nil)⟩

set_option maxRecDepth 8000 in
set_option maxHeartbeats 2000000 in
theorem p_frame_Frame_ranges (a0 : T_frame_Frame) (r : Bool) (h : frame_Frame_ranges a0 = some r) : PureAt Try.prog 28 [.agg [.int .u8 a0.Kind, .bool a0.Flag, .int .i64 a0.Stream, .int .i64 a0.Offset, .int .i64 a0.Dep, .int .i64 a0.Weight, .int .i64 a0.N, .int .i64 a0.Code, .slice false (a0.Pairs.map E_api_Pair.d), .str a0.Data]] (.bool r) := by
  refine pure_of_iwp (rs := [.bool r]) Try.func28 rfl Try.ntmps28 (nle rfl) rfl fun O hO => ?_
  show IWP _ _ _ _ ⟨[(0, .agg [.int .u8 a0.Kind, .bool a0.Flag, .int .i64 a0.Stream, .int .i64 a0.Offset, .int .i64 a0.Dep, .int .i64 a0.Weight, .int .i64 a0.N, .int .i64 a0.Code, .slice false (a0.Pairs.map E_api_Pair.d), .str a0.Data])], []⟩ _
  unfold frame_Frame_ranges at h
  refine iwp_reg (ils_cons rfl (iop_box' (cs := [.int _ _, .bool _, .int _ _, .int _ _, .int _ _, .int _ _, .int _ _, .int _ _, .slice _ _, .str _]) 0 rfl rfl (by decide) rfl (sv (d := .agg [.int _ _, .bool _, .int _ _, .int _ _, .int _ _, .int _ _, .int _ _, .int _ _, .slice _ _, .str _]) rfl) rfl rfl) <|
    ils_cons rfl (iop_assign rfl rfl (by decide) (sv (d := .bool false) rfl)) <|
    ils_end ?_)
  refine iwp_reg (ils_cons rfl (iop_assign rfl rfl (by decide) (sv (d := .int _ 0) rfl)) <|
    ils_cons rfl (iop_assign rfl rfl (by decide) (sv (d := .int _ 1099511627776) rfl)) <|
    ils_cons rfl (iop_assign rfl rfl (by decide) (sv (d := .int _ 255) rfl)) <|
    ils_end ?_)
  refine iwp_join (α := Int × Int × Int) (fun z => ⟨[(1, .ref 0 0), (3, .int .i64 z.1), (4, .int .i64 z.2.1), (5, .int .i64 z.2.2)], [(0, .blk 44 [.int .u8 a0.Kind, .bool a0.Flag, .int .i64 a0.Stream, .int .i64 a0.Offset, .int .i64 a0.Dep, .int .i64 a0.Weight, .int .i64 a0.N, .int .i64 a0.Code, .slice false (a0.Pairs.map E_api_Pair.d), .str a0.Data])]⟩) (fun z => frame_Frame_ranges_J1 a0 z.1 z.2.1 z.2.2 = some r) ?_ ?_
  ·
    refine iwp_reg (ils_cons rfl (iop_fieldAddr_ref rfl rfl (by decide) Try.underlying44 rfl ti5 (by decide) (sv (d := .ref _ _) rfl) (off' := 0) rfl) <|
      ils_cons rfl (iop_load_rs (d := .int _ _) rfl rfl (by decide) Try.underlying5 ag5 ti5 (by decide) (sv (d := .ref _ _) rfl) rfl (nle rfl) rfl) <|
      ils_end ?_)
    refine iwp_block ?_
    obtain ⟨x29, hx29, h⟩ := bnd_e h
    refine iwp_reg (ils_cons rfl (iop_cmpx rfl rfl (by decide) (sv (d := .int _ _) rfl) (sv (d := .int _ 8) rfl) rfl hx29) <|
      ils_cons rfl (iop_assign rfl rfl (by decide) (sv (d := .bool _) rfl)) <|
      ils_end ?_)
    refine iwp_cond (b := _) rfl (fun hc30 => ?_) (fun hc30 => ?_)
    ·
      replace h := bif_t h hc30
      refine iwp_region (ils_cons rfl (iop_assign rfl rfl (by decide) (sv (d := .int _ 1) rfl)) <|
        ils_nil ?_)
      refine blockQ_n ?_
      refine thenQ_n ⟨(1, 1099511627776, 255), (fun i => i), ⟨(.cons (.same rfl rfl) (.cons (.same rfl rfl) (.cons (.same rfl rfl) (.cons (.same rfl rfl) .nil)))), (.cons (.blk rfl rfl rfl) .nil), nd_of [0] rfl (by decide), (fun i hi => by first | rfl | (show (if _ then _ else _) = _; (repeat' split) <;> omega))⟩, ?_⟩
      exact h
    ·
      replace h := bif_f h hc30
      obtain ⟨x31, hx31, h⟩ := bnd_e h
      refine iwp_reg (ils_cons rfl (iop_cmpx rfl rfl (by decide) (sv (d := .int _ _) rfl) (sv (d := .int _ 10) rfl) rfl hx31) <|
        ils_cons rfl (iop_assign rfl rfl (by decide) (sv (d := .bool _) rfl)) <|
        ils_end ?_)
      refine iwp_cond (b := _) rfl (fun hc32 => ?_) (fun hc32 => ?_)
      ·
        replace h := bif_t h hc32
        refine iwp_region (ils_cons rfl (iop_assign rfl rfl (by decide) (sv (d := .int _ 3) rfl)) <|
          ils_cons rfl (iop_assign rfl rfl (by decide) (sv (d := .int _ 1) rfl)) <|
          ils_nil ?_)
        refine blockQ_n ?_
        refine thenQ_n ⟨(0, 3, 1), (fun i => i), ⟨(.cons (.same rfl rfl) (.cons (.same rfl rfl) (.cons (.same rfl rfl) (.cons (.same rfl rfl) .nil)))), (.cons (.blk rfl rfl rfl) .nil), nd_of [0] rfl (by decide), (fun i hi => by first | rfl | (show (if _ then _ else _) = _; (repeat' split) <;> omega))⟩, ?_⟩
        exact h
      ·
        replace h := bif_f h hc32
        refine iwp_join (α := Bool) (fun z => ⟨[(1, .ref 0 0), (3, .int .i64 0), (4, .int .i64 1099511627776), (5, .int .i64 255), (13, .bool z)], [(0, .blk 44 [.int .u8 a0.Kind, .bool a0.Flag, .int .i64 a0.Stream, .int .i64 a0.Offset, .int .i64 a0.Dep, .int .i64 a0.Weight, .int .i64 a0.N, .int .i64 a0.Code, .slice false (a0.Pairs.map E_api_Pair.d), .str a0.Data])]⟩) (fun z => frame_Frame_ranges_J2 a0 z = some r) ?_ ?_
        ·
          obtain ⟨x40, hx40, h⟩ := bnd_e h
          refine iwp_reg (ils_cons rfl (iop_cmpx rfl rfl (by decide) (sv (d := .int _ _) rfl) (sv (d := .int _ 1) rfl) rfl hx40) <|
            ils_cons rfl (iop_assign rfl rfl (by decide) (sv (d := .bool _) rfl)) <|
            ils_end ?_)
          refine iwp_cond (b := _) rfl (fun hc41 => ?_) (fun hc41 => ?_)
          ·
            replace h := bif_t h hc41
            refine iwp_skip ?_
            refine thenQ_n ⟨x40, (fun i => i), ⟨(.cons (.same rfl rfl) (.cons (.same rfl rfl) (.cons (.same rfl rfl) (.cons (.same rfl rfl) (.cons (.same rfl rfl) .nil))))), (.cons (.blk rfl rfl rfl) .nil), nd_of [0] rfl (by decide), (fun i hi => by first | rfl | (show (if _ then _ else _) = _; (repeat' split) <;> omega))⟩, ?_⟩
            exact h
          ·
            replace h := bif_f h hc41
            obtain ⟨x42, hx42, h⟩ := bnd_e h
            refine iwp_region (ils_cons rfl (iop_cmpx rfl rfl (by decide) (sv (d := .int _ _) rfl) (sv (d := .int _ 2) rfl) rfl hx42) <|
              ils_cons rfl (iop_assign rfl rfl (by decide) (sv (d := .bool _) rfl)) <|
              ils_nil ?_)
            refine thenQ_n ⟨x42, (fun i => i), ⟨(.cons (.same rfl rfl) (.cons (.same rfl rfl) (.cons (.same rfl rfl) (.cons (.same rfl rfl) (.cons (.same rfl rfl) .nil))))), (.cons (.blk rfl rfl rfl) .nil), nd_of [0] rfl (by decide), (fun i hi => by first | rfl | (show (if _ then _ else _) = _; (repeat' split) <;> omega))⟩, ?_⟩
            exact h
        ·
          rintro v36 h
          unfold frame_Frame_ranges_J2 at h
          refine iwp_cond (b := _) rfl (fun hc37 => ?_) (fun hc37 => ?_)
          ·
            replace h := bif_t h hc37
            obtain ⟨x38, hx38, h⟩ := bno_e h
            refine iwp_reg (ils_cons rfl (iop_fieldAddr_ref rfl rfl (by decide) Try.underlying44 rfl ti3 (by decide) (sv (d := .ref _ _) rfl) (off' := 5) rfl) <|
              ils_cons rfl (iop_load_rs (d := .int _ _) rfl rfl (by decide) Try.underlying3 ag3 ti3 (by decide) (sv (d := .ref _ _) rfl) rfl (nle rfl) rfl) <|
              ils_cons rfl (iop_call (r := .bool _) rfl rfl (by decide) cl37 (.cons (sv (d := .int _ _) rfl) (.cons (sv (d := .int _ 1) rfl) (.cons (sv (d := .int _ 256) rfl) .nil))) rfl (p_frame_in _ _ _ _ hx38)) <|
              ils_cons rfl (iop_not rfl rfl (by decide) (sv (d := .bool _) rfl)) <|
              ils_end ?_)
            refine iwp_cond (b := _) rfl (fun hc39 => ?_) (fun hc39 => ?_)
            ·
              replace h := bif_t h hc39
              refine iwp_reg (ils_cons rfl (iop_assign rfl rfl (by decide) (sv (d := .bool false) rfl)) <|
                ils_end ?_)
              refine iwp_ret ?_
              refine blockQ_r ?_
              refine thenQ_r ?_
              obtain rfl := Option.some.inj h
              refine ⟨.inr rfl, (.cons (sv rfl) .nil)⟩
            ·
              replace h := bif_f h hc39
              refine iwp_skip ?_
              refine blockQ_n ?_
              refine thenQ_n ⟨(0, 1099511627776, 255), (fun i => i), ⟨(.cons (.same rfl rfl) (.cons (.same rfl rfl) (.cons (.same rfl rfl) (.cons (.same rfl rfl) .nil)))), (.cons (.blk rfl rfl rfl) .nil), nd_of [0] rfl (by decide), (fun i hi => by first | rfl | (show (if _ then _ else _) = _; (repeat' split) <;> omega))⟩, ?_⟩
              exact h
          ·
            replace h := bif_f h hc37
            refine iwp_skip ?_
            refine blockQ_n ?_
            refine thenQ_n ⟨(0, 1099511627776, 255), (fun i => i), ⟨(.cons (.same rfl rfl) (.cons (.same rfl rfl) (.cons (.same rfl rfl) (.cons (.same rfl rfl) .nil)))), (.cons (.blk rfl rfl rfl) .nil), nd_of [0] rfl (by decide), (fun i hi => by first | rfl | (show (if _ then _ else _) = _; (repeat' split) <;> omega))⟩, ?_⟩
            exact h
  ·
    rintro ⟨v15, v16, v17⟩ h
    unfold frame_Frame_ranges_J1 at h
    refine iwp_reg (ils_cons rfl (iop_assign rfl rfl (by decide) (sv (d := .fn 38 []) rfl)) <|
      ils_end ?_)
    refine iwp_seq ?_
    obtain ⟨x18, hx18, h⟩ := bno_e h
    obtain ⟨x19, hx19, h⟩ := bno_e h
    obtain ⟨x20, hx20, h⟩ := bnd_e h
    obtain ⟨x21, hx21, h⟩ := bno_e h
    obtain ⟨x22, hx22, h⟩ := bnd_e h
    refine iwp_reg (ils_cons rfl (iop_fieldAddr_ref rfl rfl (by decide) Try.underlying44 rfl ti39 (by decide) (sv (d := .ref _ _) rfl) (off' := 8) rfl) <|
      ils_cons rfl (iop_load_rs (d := .slice _ _) rfl rfl (by decide) Try.underlying39 ag39 ti39 (by decide) (sv (d := .ref _ _) rfl) rfl (nle rfl) rfl) <|
      ils_cons rfl (iop_move rfl rfl (by decide) (sv (d := .fn 38 []) rfl)) <|
      ils_cons rfl (iop_call (r := .bool _) rfl rfl (by decide) cl39 (.cons (sv (d := .slice _ _) rfl) (.cons (sv (d := .fn 38 []) rfl) .nil)) rfl (p_slices_ContainsFunc_api_Pair_api_Pair_ranges_1 _ _ hx18)) <|
      ils_cons rfl (iop_move rfl rfl (by decide) (sv (d := .bool _) rfl)) <|
      ils_guard rfl rfl (.one rfl) rfl (by decide) (fun hb => (iop_fieldAddr_ref rfl rfl (by decide) Try.underlying44 rfl ti3 (by decide) (sv (d := .ref _ _) rfl) (off' := 6) rfl)) <|
      ils_guard rfl rfl (.one rfl) rfl (by decide) (fun hb => (iop_load_rs (d := .int _ _) rfl rfl (by decide) Try.underlying3 ag3 ti3 (by decide) (svc (d := .ref _ _) rfl hb) rfl (nle rfl) rfl)) <|
      ils_guard rfl rfl (.one rfl) rfl (by decide) (fun hb => (iop_move rfl rfl (by decide) (sv (d := .int _ _) rfl))) <|
      ils_guard rfl rfl (.one rfl) rfl (by decide) (fun hb => (iop_move rfl rfl (by decide) (sv (d := .int _ _) rfl))) <|
      ils_guard rfl rfl (.one rfl) rfl (by decide) (fun hb => (iop_call (r := .bool _) rfl rfl (by decide) cl37 (.cons (svc (d := .int _ _) rfl hb) (.cons (svc (d := .int _ _) rfl hb) (.cons (svc (d := .int _ _) rfl hb) .nil))) rfl (p_frame_in _ _ _ _ (gd_t hx19 hb)))) <|
      ils_guard rfl rfl (.one rfl) rfl (by decide) (fun hb => (iop_not rfl rfl (by decide) (svc (d := .bool _) rfl hb))) <|
      ils_cons rfl (iop_orx rfl rfl (by decide) (sv (d := .bool _) rfl) rfl rfl hx20) <|
      ils_cons rfl (iop_move rfl rfl (by decide) (sv (d := .bool _) rfl)) <|
      ils_guard rfl rfl (.one rfl) rfl (by decide) (fun hb => (iop_fieldAddr_ref rfl rfl (by decide) Try.underlying44 rfl ti3 (by decide) (sv (d := .ref _ _) rfl) (off' := 7) rfl)) <|
      ils_guard rfl rfl (.one rfl) rfl (by decide) (fun hb => (iop_load_rs (d := .int _ _) rfl rfl (by decide) Try.underlying3 ag3 ti3 (by decide) (svc (d := .ref _ _) rfl hb) rfl (nle rfl) rfl)) <|
      ils_guard rfl rfl (.one rfl) rfl (by decide) (fun hb => (iop_move rfl rfl (by decide) (sv (d := .int _ _) rfl))) <|
      ils_guard rfl rfl (.one rfl) rfl (by decide) (fun hb => (iop_call (r := .bool _) rfl rfl (by decide) cl37 (.cons (svc (d := .int _ _) rfl hb) (.cons (sv (d := .int _ 0) rfl) (.cons (svc (d := .int _ _) rfl hb) .nil))) rfl (p_frame_in _ _ _ _ (gd_t hx21 hb)))) <|
      ils_guard rfl rfl (.one rfl) rfl (by decide) (fun hb => (iop_not rfl rfl (by decide) (svc (d := .bool _) rfl hb))) <|
      ils_cons rfl (iop_orx rfl rfl (by decide) (sv (d := .bool _) rfl) rfl rfl hx22) <|
      ils_end ?_)
    refine iwp_cond (b := _) rfl (fun hc23 => ?_) (fun hc23 => ?_)
    ·
      replace h := bif_t h hc23
      refine iwp_reg (ils_cons rfl (iop_assign rfl rfl (by decide) (sv (d := .bool false) rfl)) <|
        ils_end ?_)
      refine iwp_ret ?_
      refine thenQ_r ?_
      obtain rfl := Option.some.inj h
      refine ⟨.inr rfl, (.cons (sv rfl) .nil)⟩
    ·
      replace h := bif_f h hc23
      refine iwp_skip ?_
      refine thenQ_n ?_
      obtain ⟨x24, hx24, h⟩ := bno_e h
      obtain ⟨x25, hx25, h⟩ := bno_e h
      obtain ⟨x26, hx26, h⟩ := bnd_e h
      obtain ⟨x27, hx27, h⟩ := bno_e h
      obtain ⟨x28, hx28, h⟩ := bnd_e h
      refine iwp_reg (ils_cons rfl (iop_fieldAddr_ref rfl rfl (by decide) Try.underlying44 rfl ti3 (by decide) (sv (d := .ref _ _) rfl) (off' := 2) rfl) <|
        ils_cons rfl (iop_load_rs (d := .int _ _) rfl rfl (by decide) Try.underlying3 ag3 ti3 (by decide) (sv (d := .ref _ _) rfl) rfl (nle rfl) rfl) <|
        ils_cons rfl (iop_call (r := .bool _) rfl rfl (by decide) cl37 (.cons (sv (d := .int _ _) rfl) (.cons (sv (d := .int _ 0) rfl) (.cons (sv (d := .int _ 1048576) rfl) .nil))) rfl (p_frame_in _ _ _ _ hx24)) <|
        ils_cons rfl (iop_move rfl rfl (by decide) (sv (d := .bool _) rfl)) <|
        ils_guard rfl rfl (.one rfl) rfl (by decide) (fun hb => (iop_fieldAddr_ref rfl rfl (by decide) Try.underlying44 rfl ti3 (by decide) (sv (d := .ref _ _) rfl) (off' := 4) rfl)) <|
        ils_guard rfl rfl (.one rfl) rfl (by decide) (fun hb => (iop_load_rs (d := .int _ _) rfl rfl (by decide) Try.underlying3 ag3 ti3 (by decide) (svc (d := .ref _ _) rfl hb) rfl (nle rfl) rfl)) <|
        ils_guard rfl rfl (.one rfl) rfl (by decide) (fun hb => (iop_call (r := .bool _) rfl rfl (by decide) cl37 (.cons (svc (d := .int _ _) rfl hb) (.cons (sv (d := .int _ 0) rfl) (.cons (sv (d := .int _ 1048576) rfl) .nil))) rfl (p_frame_in _ _ _ _ (gd_t hx25 hb)))) <|
        ils_cons rfl (iop_andx rfl rfl (by decide) (sv (d := .bool _) rfl) rfl rfl hx26) <|
        ils_cons rfl (iop_move rfl rfl (by decide) (sv (d := .bool _) rfl)) <|
        ils_guard rfl rfl (.one rfl) rfl (by decide) (fun hb => (iop_fieldAddr_ref rfl rfl (by decide) Try.underlying44 rfl ti3 (by decide) (sv (d := .ref _ _) rfl) (off' := 3) rfl)) <|
        ils_guard rfl rfl (.one rfl) rfl (by decide) (fun hb => (iop_load_rs (d := .int _ _) rfl rfl (by decide) Try.underlying3 ag3 ti3 (by decide) (svc (d := .ref _ _) rfl hb) rfl (nle rfl) rfl)) <|
        ils_guard rfl rfl (.one rfl) rfl (by decide) (fun hb => (iop_call (r := .bool _) rfl rfl (by decide) cl37 (.cons (svc (d := .int _ _) rfl hb) (.cons (sv (d := .int _ 0) rfl) (.cons (sv (d := .int _ 1099511627776) rfl) .nil))) rfl (p_frame_in _ _ _ _ (gd_t hx27 hb)))) <|
        ils_cons rfl (iop_andx rfl rfl (by decide) (sv (d := .bool _) rfl) rfl rfl hx28) <|
        ils_cons rfl (iop_assign rfl rfl (by decide) (sv (d := .bool _) rfl)) <|
        ils_end ?_)
      refine iwp_ret ?_
      obtain rfl := Option.some.inj h
      refine ⟨.inr rfl, (.cons (sv rfl) .nil)⟩

set_option maxRecDepth 8000 in
set_option maxHeartbeats 2000000 in
theorem p_frame_flagged (a0 : Int) (r : Bool) (h : frame_flagged a0 = some r) : PureAt Try.prog 41 [.int .u8 a0] (.bool r) := by
  refine pure_of_iwp (rs := [.bool r]) Try.func41 rfl Try.ntmps41 (nle rfl) rfl fun O hO => ?_
  show IWP _ _ _ _ ⟨[(0, .int .u8 a0)], []⟩ _
  unfold frame_flagged at h
  refine iwp_reg (ils_cons rfl (iop_assign rfl rfl (by decide) (sv (d := .bool false) rfl)) <|
    ils_end ?_)
  refine iwp_seq ?_
  refine iwp_reg (ils_cons rfl (iop_move rfl rfl (by decide) (sv (d := .int _ _) rfl)) <|
    ils_end ?_)
  refine iwp_block ?_
  refine iwp_seq ?_
  obtain ⟨x1, hx1, h⟩ := bnd_e h
  refine iwp_reg (ils_cons rfl (iop_cmpx rfl rfl (by decide) (sv (d := .int _ _) rfl) (sv (d := .int _ 0) rfl) rfl hx1) <|
    ils_cons rfl (iop_assign rfl rfl (by decide) (sv (d := .bool _) rfl)) <|
    ils_end ?_)
  refine iwp_cond (b := _) rfl (fun hc2 => ?_) (fun hc2 => ?_)
  ·
    replace h := bif_t h hc2
    refine iwp_skip ?_
    refine thenQ_n ?_
    refine iwp_cond_t rfl hc2 ?_
    refine iwp_reg (ils_cons rfl (iop_assign rfl rfl (by decide) (sv (d := .bool true) rfl)) <|
      ils_end ?_)
    refine iwp_ret ?_
    refine blockQ_r ?_
    refine thenQ_r ?_
    obtain rfl := Option.some.inj h
    refine ⟨.inr rfl, (.cons (sv rfl) .nil)⟩
  ·
    replace h := bif_f h hc2
    obtain ⟨x3, hx3, h⟩ := bnd_e h
    refine iwp_reg (ils_cons rfl (iop_cmpx rfl rfl (by decide) (sv (d := .int _ _) rfl) (sv (d := .int _ 1) rfl) rfl hx3) <|
      ils_cons rfl (iop_assign rfl rfl (by decide) (sv (d := .bool _) rfl)) <|
      ils_end ?_)
    refine iwp_cond (b := _) rfl (fun hc4 => ?_) (fun hc4 => ?_)
    ·
      replace h := bif_t h hc4
      refine iwp_skip ?_
      refine thenQ_n ?_
      refine iwp_cond_t rfl hc4 ?_
      refine iwp_reg (ils_cons rfl (iop_assign rfl rfl (by decide) (sv (d := .bool true) rfl)) <|
        ils_end ?_)
      refine iwp_ret ?_
      refine blockQ_r ?_
      refine thenQ_r ?_
      obtain rfl := Option.some.inj h
      refine ⟨.inr rfl, (.cons (sv rfl) .nil)⟩
    ·
      replace h := bif_f h hc4
      obtain ⟨x5, hx5, h⟩ := bnd_e h
      refine iwp_reg (ils_cons rfl (iop_cmpx rfl rfl (by decide) (sv (d := .int _ _) rfl) (sv (d := .int _ 2) rfl) rfl hx5) <|
        ils_cons rfl (iop_assign rfl rfl (by decide) (sv (d := .bool _) rfl)) <|
        ils_end ?_)
      refine iwp_cond (b := _) rfl (fun hc6 => ?_) (fun hc6 => ?_)
      ·
        replace h := bif_t h hc6
        refine iwp_skip ?_
        refine thenQ_n ?_
        refine iwp_cond_t rfl hc6 ?_
        refine iwp_reg (ils_cons rfl (iop_assign rfl rfl (by decide) (sv (d := .bool true) rfl)) <|
          ils_end ?_)
        refine iwp_ret ?_
        refine blockQ_r ?_
        refine thenQ_r ?_
        obtain rfl := Option.some.inj h
        refine ⟨.inr rfl, (.cons (sv rfl) .nil)⟩
      ·
        replace h := bif_f h hc6
        obtain ⟨x7, hx7, h⟩ := bnd_e h
        refine iwp_reg (ils_cons rfl (iop_cmpx rfl rfl (by decide) (sv (d := .int _ _) rfl) (sv (d := .int _ 4) rfl) rfl hx7) <|
          ils_cons rfl (iop_assign rfl rfl (by decide) (sv (d := .bool _) rfl)) <|
          ils_end ?_)
        refine iwp_cond (b := _) rfl (fun hc8 => ?_) (fun hc8 => ?_)
        ·
          replace h := bif_t h hc8
          refine iwp_skip ?_
          refine thenQ_n ?_
          refine iwp_cond_t rfl hc8 ?_
          refine iwp_reg (ils_cons rfl (iop_assign rfl rfl (by decide) (sv (d := .bool true) rfl)) <|
            ils_end ?_)
          refine iwp_ret ?_
          refine blockQ_r ?_
          refine thenQ_r ?_
          obtain rfl := Option.some.inj h
          refine ⟨.inr rfl, (.cons (sv rfl) .nil)⟩
        ·
          replace h := bif_f h hc8
          obtain ⟨x9, hx9, h⟩ := bnd_e h
          refine iwp_reg (ils_cons rfl (iop_cmpx rfl rfl (by decide) (sv (d := .int _ _) rfl) (sv (d := .int _ 6) rfl) rfl hx9) <|
            ils_cons rfl (iop_assign rfl rfl (by decide) (sv (d := .bool _) rfl)) <|
            ils_end ?_)
          refine iwp_cond (b := _) rfl (fun hc10 => ?_) (fun hc10 => ?_)
          ·
            replace h := bif_t h hc10
            refine iwp_skip ?_
            refine thenQ_n ?_
            refine iwp_cond_t rfl hc10 ?_
            refine iwp_reg (ils_cons rfl (iop_assign rfl rfl (by decide) (sv (d := .bool true) rfl)) <|
              ils_end ?_)
            refine iwp_ret ?_
            refine blockQ_r ?_
            refine thenQ_r ?_
            obtain rfl := Option.some.inj h
            refine ⟨.inr rfl, (.cons (sv rfl) .nil)⟩
          ·
            replace h := bif_f h hc10
            obtain ⟨x11, hx11, h⟩ := bnd_e h
            refine iwp_region (ils_cons rfl (iop_cmpx rfl rfl (by decide) (sv (d := .int _ _) rfl) (sv (d := .int _ 9) rfl) rfl hx11) <|
              ils_cons rfl (iop_assign rfl rfl (by decide) (sv (d := .bool _) rfl)) <|
              ils_nil ?_)
            refine thenQ_n ?_
            refine iwp_cond (b := _) rfl (fun hc12 => ?_) (fun hc12 => ?_)
            ·
              replace h := bif_t h hc12
              refine iwp_reg (ils_cons rfl (iop_assign rfl rfl (by decide) (sv (d := .bool true) rfl)) <|
                ils_end ?_)
              refine iwp_ret ?_
              refine blockQ_r ?_
              refine thenQ_r ?_
              obtain rfl := Option.some.inj h
              refine ⟨.inr rfl, (.cons (sv rfl) .nil)⟩
            ·
              replace h := bif_f h hc12
              refine iwp_skip ?_
              refine blockQ_n ?_
              refine thenQ_n ?_
              refine iwp_reg (ils_cons rfl (iop_assign rfl rfl (by decide) (sv (d := .bool false) rfl)) <|
                ils_end ?_)
              refine iwp_ret ?_
              obtain rfl := Option.some.inj h
              refine ⟨.inr rfl, (.cons (sv rfl) .nil)⟩

set_option maxRecDepth 8000 in
set_option maxHeartbeats 2000000 in
theorem p_frame_Frame_bare (a0 : T_frame_Frame) (r : T_frame_Frame) (h : frame_Frame_bare a0 = some r) : PureAt Try.prog 30 [.agg [.int .u8 a0.Kind, .bool a0.Flag, .int .i64 a0.Stream, .int .i64 a0.Offset, .int .i64 a0.Dep, .int .i64 a0.Weight, .int .i64 a0.N, .int .i64 a0.Code, .slice false (a0.Pairs.map E_api_Pair.d), .str a0.Data]] (.agg [.int .u8 r.Kind, .bool r.Flag, .int .i64 r.Stream, .int .i64 r.Offset, .int .i64 r.Dep, .int .i64 r.Weight, .int .i64 r.N, .int .i64 r.Code, .slice false (r.Pairs.map E_api_Pair.d), .str r.Data]) := by
  refine pure_of_iwp (rs := [.agg [.int .u8 r.Kind, .bool r.Flag, .int .i64 r.Stream, .int .i64 r.Offset, .int .i64 r.Dep, .int .i64 r.Weight, .int .i64 r.N, .int .i64 r.Code, .slice false (r.Pairs.map E_api_Pair.d), .str r.Data]]) Try.func30 rfl Try.ntmps30 (nle rfl) rfl fun O hO => ?_
  show IWP _ _ _ _ ⟨[(0, .agg [.int .u8 a0.Kind, .bool a0.Flag, .int .i64 a0.Stream, .int .i64 a0.Offset, .int .i64 a0.Dep, .int .i64 a0.Weight, .int .i64 a0.N, .int .i64 a0.Code, .slice false (a0.Pairs.map E_api_Pair.d), .str a0.Data])], []⟩ _
  unfold frame_Frame_bare at h
  refine iwp_reg (ils_cons rfl (iop_box' (cs := [.int _ _, .bool _, .int _ _, .int _ _, .int _ _, .int _ _, .int _ _, .int _ _, .slice _ _, .str _]) 0 rfl rfl (by decide) rfl (sv (d := .agg [.int _ _, .bool _, .int _ _, .int _ _, .int _ _, .int _ _, .int _ _, .int _ _, .slice _ _, .str _]) rfl) rfl rfl) <|
    ils_cons rfl (iop_allocS (cs := [.int _ _, .bool _, .int _ _, .int _ _, .int _ _, .int _ _, .int _ _, .int _ _, .nils, .str _]) (cs' := [.int .u8 0, .bool false, .int .i64 0, .int .i64 0, .int .i64 0, .int .i64 0, .int .i64 0, .int .i64 0, .slice false (([] : List T_api_Pair).map E_api_Pair.d), .str []]) 1 rfl rfl (by decide) rfl ti44 rfl rfl (.cons (.refl _) (.cons (.refl _) (.cons (.refl _) (.cons (.refl _) (.cons (.refl _) (.cons (.refl _) (.cons (.refl _) (.cons (.refl _) (.cons (.nils _) (.cons (.refl _) .nil))))))))))) <|
    ils_end ?_)
  refine iwp_seq ?_
  obtain ⟨x1, hx1, h⟩ := bno_e h
  refine iwp_reg (ils_cons rfl (iop_callh2 (r' := .osl 2 (eRef 0).sz x1.length) (H1' := [(0, .blk 44 [.int .u8 a0.Kind, .bool a0.Flag, .int .i64 a0.Stream, .int .i64 a0.Offset, .int .i64 a0.Dep, .int .i64 a0.Weight, .int .i64 a0.N, .int .i64 a0.Code, .slice false (a0.Pairs.map E_api_Pair.d), .str a0.Data]), (2, .blk 75 (D.flat (x1.map (eRef 0).d)))]) 2 [0] rfl rfl (by decide) cl31 (.cons (sv (d := .ref _ _) rfl) .nil) rfl rfl ⟨rfl, rfl, by decide, rfl, List.forall_mem_cons.2 ⟨⟨rfl, rfl, rfl, rfl⟩, List.forall_mem_nil _⟩⟩ (p_frame_Frame_numbers_h _ _ hx1) rfl rfl (List.forall_mem_cons.2 ⟨⟨rfl, rfl⟩, List.forall_mem_cons.2 ⟨⟨rfl, (handRr rfl)⟩, List.forall_mem_nil _⟩⟩) (by simp only [List.map_cons, List.map_nil, Ent.ren, renL_flat, renL_ref]; rfl)) <|
    ils_cons rfl (iop_lenO rfl rfl (by decide) Try.underlying73 (sv (d := .osl _ _ _) rfl)) <|
    ils_cons rfl (iop_move rfl rfl (by decide) (sv (d := .int _ 0) rfl)) <|
    ils_end ?_)
  refine iwp_block ?_
  refine iwp_loopP (α := Nat × Int × Int × Int × Int × Int × Int × Int) (fun z => ⟨[(1, .ref 0 0), (2, .ref 1 0), (5, .osl 2 (eRef 0).sz x1.length), (6, .int .i64 (x1.length : Int)), (7, .int .i64 z.2.1)], [(0, .blk 44 [.int .u8 a0.Kind, .bool a0.Flag, .int .i64 z.2.2.1, .int .i64 z.2.2.2.1, .int .i64 z.2.2.2.2.1, .int .i64 z.2.2.2.2.2.1, .int .i64 z.2.2.2.2.2.2.1, .int .i64 z.2.2.2.2.2.2.2, .slice false (a0.Pairs.map E_api_Pair.d), .str a0.Data]), (1, .blk 44 [.int .u8 0, .bool false, .int .i64 0, .int .i64 0, .int .i64 0, .int .i64 0, .int .i64 0, .int .i64 0, .slice false (([] : List T_api_Pair).map E_api_Pair.d), .str []]), (2, .blk 75 (D.flat (x1.map (eRef 0).d)))]⟩) (fun z => frame_Frame_bare_L0 a0 x1 z.1 z.2.1 z.2.2.1 z.2.2.2.1 z.2.2.2.2.1 z.2.2.2.2.2.1 z.2.2.2.2.2.2.1 z.2.2.2.2.2.2.2 = some r) (fun z => z.1) (fuel, 0, a0.Stream, a0.Offset, a0.Dep, a0.Weight, a0.N, a0.Code) (fun i => i) ⟨(.cons (.same rfl rfl) (.cons (.same rfl rfl) (.cons (.same rfl rfl) (.cons (.same rfl rfl) (.cons (.same rfl rfl) .nil))))), (.cons (.blk rfl rfl rfl) (.cons (.blk rfl rfl rfl) (.cons (EntW.lstR rfl rfl) .nil))), nd_of [0, 1, 2] rfl (by decide), (fun i hi => by first | rfl | (show (if _ then _ else _) = _; (repeat' split) <;> omega))⟩ ?_ ?_
  · exact h
  ·
    rintro ⟨n0, v8, v9, v10, v11, v12, v13, v14⟩ h
    cases n0 with
    | zero => exact absurd h (by unfold frame_Frame_bare_L0; exact nofun)
    | succ n0 =>
      unfold frame_Frame_bare_L0 at h
      obtain ⟨x21, hx21, h⟩ := bnd_e h
      refine iwp_reg (ils_cons rfl (iop_cmpx rfl rfl (by decide) (sv (d := .int _ _) rfl) (sv (d := .int _ _) rfl) rfl hx21) <|
        ils_end ?_)
      refine iwp_seq ?_
      refine iwp_cond (b := _) rfl (fun hc22 => ?_) (fun hc22 => ?_)
      ·
        replace h := bif_t h hc22
        refine iwp_skip ?_
        refine thenQ_n ?_
        refine iwp_seq ?_
        refine iwp_block ?_
        obtain ⟨x23, hx23, h⟩ := bno_e h
        obtain ⟨x24, hx24, h⟩ := bno_e h
        refine iwp_reg (ils_cons rfl (iop_idxO (eRef 0) rfl rfl (by decide) Try.underlying73 ti75 (sv (d := .osl _ _ _) rfl) rfl (sv (d := .int _ _) rfl) hx23) <|
          ils_cons rfl (iop_loadEs (eRef 0) (d := .ref _ _) rfl rfl (by decide) Try.underlying75 ag75 ti75 (by decide) (sv (d := .ref _ _) rfl) rfl hx24 (nle rfl) rfl) <|
          ils_cons rfl (iop_assign rfl rfl (by decide) (sv (d := .ref _ _) rfl)) <|
          ils_end ?_)
        obtain ⟨x25, hx25, h⟩ := bno_e h
        refine iwp_region (ils_cons rfl (iop_move rfl rfl (by decide) (sv (d := .ref _ _) rfl)) <|
          ils_cons rfl (iop_nilCheck_ref rfl rfl (by decide) (sv (d := .ref _ _) rfl)) <|
          ils_cons rfl (iop_store_sym (cs' := [.int .u8 a0.Kind, .bool a0.Flag, .int .i64 (bif Nat.beq x24 2 then 0 else v9), .int .i64 (bif Nat.beq x24 3 then 0 else v10), .int .i64 (bif Nat.beq x24 4 then 0 else v11), .int .i64 (bif Nat.beq x24 5 then 0 else v12), .int .i64 (bif Nat.beq x24 6 then 0 else v13), .int .i64 (bif Nat.beq x24 7 then 0 else v14), .slice false (a0.Pairs.map E_api_Pair.d), .str a0.Data]) rfl rfl ti3 (sv (d := .ref _ _) rfl) rfl (sv (d := .int _ 0) rfl) hx25 rfl) <|
          ils_nil ?_)
        refine blockQ_n ?_
        refine thenQ_n ?_
        obtain ⟨x26, hx26, h⟩ := bnd_e h
        refine iwp_region (ils_cons rfl (iop_intx rfl rfl (by decide) (sv (d := .int _ _) rfl) (sv (d := .int _ 1) rfl) rfl hx26) <|
          ils_cons rfl (iop_move rfl rfl (by decide) (sv (d := .int _ _) rfl)) <|
          ils_nil ?_)
        refine thenQ_n ⟨(n0, x26, (bif Nat.beq x24 2 then 0 else v9), (bif Nat.beq x24 3 then 0 else v10), (bif Nat.beq x24 4 then 0 else v11), (bif Nat.beq x24 5 then 0 else v12), (bif Nat.beq x24 6 then 0 else v13), (bif Nat.beq x24 7 then 0 else v14)), (fun i => i), ⟨(.cons (.same rfl rfl) (.cons (.same rfl rfl) (.cons (.same rfl rfl) (.cons (.same rfl rfl) (.cons (.same rfl rfl) .nil))))), (.cons (.blk rfl rfl rfl) (.cons (.blk rfl rfl rfl) (.cons (EntW.lstR rfl rfl) .nil))), nd_of [0, 1, 2] rfl (by decide), (fun i hi => by first | rfl | (show (if _ then _ else _) = _; (repeat' split) <;> omega))⟩, ?_, ?_⟩
        exact h
        exact Nat.lt_succ_self _
      ·
        replace h := bif_f h hc22
        refine iwp_exit ?_
        refine thenQ_e ?_
        refine thenQ_e ?_
        refine blockQ_e ?_
        refine thenQ_n ?_
        refine iwp_join (α := (List T_api_Pair) × (List UInt8)) (fun z => ⟨[(1, .ref 0 0), (2, .ref 1 0)], [(0, .blk 44 [.int .u8 a0.Kind, .bool a0.Flag, .int .i64 v9, .int .i64 v10, .int .i64 v11, .int .i64 v12, .int .i64 v13, .int .i64 v14, .slice false (z.1.map E_api_Pair.d), .str z.2]), (1, .blk 44 [.int .u8 0, .bool false, .int .i64 0, .int .i64 0, .int .i64 0, .int .i64 0, .int .i64 0, .int .i64 0, .slice false (([] : List T_api_Pair).map E_api_Pair.d), .str []])]⟩) (fun z => frame_Frame_bare_J1 a0 v9 v10 v11 v12 v13 v14 z.1 z.2 = some r) ?_ ?_
        ·
          refine iwp_reg (ils_cons rfl (iop_fieldAddr_ref rfl rfl (by decide) Try.underlying44 rfl ti5 (by decide) (sv (d := .ref _ _) rfl) (off' := 0) rfl) <|
            ils_cons rfl (iop_load_rs (d := .int _ _) rfl rfl (by decide) Try.underlying5 ag5 ti5 (by decide) (sv (d := .ref _ _) rfl) rfl (nle rfl) rfl) <|
            ils_end ?_)
          refine iwp_block ?_
          obtain ⟨x36, hx36, h⟩ := bnd_e h
          refine iwp_reg (ils_cons rfl (iop_cmpx rfl rfl (by decide) (sv (d := .int _ _) rfl) (sv (d := .int _ 0) rfl) rfl hx36) <|
            ils_cons rfl (iop_assign rfl rfl (by decide) (sv (d := .bool _) rfl)) <|
            ils_end ?_)
          refine iwp_cond (b := _) rfl (fun hc37 => ?_) (fun hc37 => ?_)
          ·
            replace h := bif_t h hc37
            refine iwp_region (ils_cons rfl (iop_fieldAddr_ref rfl rfl (by decide) Try.underlying44 rfl ti9 (by decide) (sv (d := .ref _ _) rfl) (off' := 9) rfl) <|
              ils_cons rfl (iop_store (ds' := [.int _ _, .bool _, .int _ _, .int _ _, .int _ _, .int _ _, .int _ _, .int _ _, .slice _ _, .str _]) rfl rfl ti9 (sv (d := .ref _ _) rfl) rfl (sv (d := .str []) rfl) rfl rfl rfl (nle rfl) rfl) <|
              ils_nil ?_)
            refine blockQ_n ?_
            refine thenQ_n ⟨(a0.Pairs, ([] : (List UInt8))), (fun i => i), ⟨(.cons (.same rfl rfl) (.cons (.same rfl rfl) .nil)), (.cons (.blk rfl rfl rfl) (.cons (.blk rfl rfl rfl) .nil)), nd_of [0, 1] rfl (by decide), (fun i hi => by first | rfl | (show (if _ then _ else _) = _; (repeat' split) <;> omega))⟩, ?_⟩
            exact h
          ·
            replace h := bif_f h hc37
            obtain ⟨x38, hx38, h⟩ := bnd_e h
            refine iwp_reg (ils_cons rfl (iop_cmpx rfl rfl (by decide) (sv (d := .int _ _) rfl) (sv (d := .int _ 4) rfl) rfl hx38) <|
              ils_cons rfl (iop_assign rfl rfl (by decide) (sv (d := .bool _) rfl)) <|
              ils_end ?_)
            refine iwp_cond (b := _) rfl (fun hc39 => ?_) (fun hc39 => ?_)
            ·
              replace h := bif_t h hc39
              refine iwp_reg (ils_cons rfl (iop_fieldAddr_ref rfl rfl (by decide) Try.underlying44 rfl ti4 (by decide) (sv (d := .ref _ _) rfl) (off' := 1) rfl) <|
                ils_cons rfl (iop_load_rs (d := .bool _) rfl rfl (by decide) Try.underlying4 ag4 ti4 (by decide) (sv (d := .ref _ _) rfl) rfl (nle rfl) rfl) <|
                ils_cons rfl (iop_not rfl rfl (by decide) (sv (d := .bool _) rfl)) <|
                ils_end ?_)
              refine iwp_cond (b := _) rfl (fun hc40 => ?_) (fun hc40 => ?_)
              ·
                replace h := bif_t h hc40
                refine iwp_region (ils_cons rfl (iop_fieldAddr_ref rfl rfl (by decide) Try.underlying44 rfl ti39 (by decide) (sv (d := .ref _ _) rfl) (off' := 8) rfl) <|
                  ils_cons rfl (iop_store (ds' := [.int _ _, .bool _, .int _ _, .int _ _, .int _ _, .int _ _, .int _ _, .int _ _, .slice false (([] : List T_api_Pair).map E_api_Pair.d), .str _]) rfl rfl ti39 (sv (d := .ref _ _) rfl) rfl (svn rfl) rfl rfl rfl (nle rfl) rfl) <|
                  ils_nil ?_)
                refine blockQ_n ?_
                refine thenQ_n ⟨(([] : (List T_api_Pair)), a0.Data), (fun i => i), ⟨(.cons (.same rfl rfl) (.cons (.same rfl rfl) .nil)), (.cons (.blk rfl rfl rfl) (.cons (.blk rfl rfl rfl) .nil)), nd_of [0, 1] rfl (by decide), (fun i hi => by first | rfl | (show (if _ then _ else _) = _; (repeat' split) <;> omega))⟩, ?_⟩
                exact h
              ·
                replace h := bif_f h hc40
                refine iwp_skip ?_
                refine blockQ_n ?_
                refine thenQ_n ⟨(a0.Pairs, a0.Data), (fun i => i), ⟨(.cons (.same rfl rfl) (.cons (.same rfl rfl) .nil)), (.cons (.blk rfl rfl rfl) (.cons (.blk rfl rfl rfl) .nil)), nd_of [0, 1] rfl (by decide), (fun i hi => by first | rfl | (show (if _ then _ else _) = _; (repeat' split) <;> omega))⟩, ?_⟩
                exact h
            ·
              replace h := bif_f h hc39
              refine iwp_skip ?_
              refine blockQ_n ?_
              refine thenQ_n ⟨(a0.Pairs, a0.Data), (fun i => i), ⟨(.cons (.same rfl rfl) (.cons (.same rfl rfl) .nil)), (.cons (.blk rfl rfl rfl) (.cons (.blk rfl rfl rfl) .nil)), nd_of [0, 1] rfl (by decide), (fun i hi => by first | rfl | (show (if _ then _ else _) = _; (repeat' split) <;> omega))⟩, ?_⟩
              exact h
        ·
          rintro ⟨v32, v33⟩ h
          unfold frame_Frame_bare_J1 at h
          refine iwp_seq ?_
          obtain ⟨x34, hx34, h⟩ := bno_e h
          refine iwp_reg (ils_cons rfl (iop_fieldAddr_ref rfl rfl (by decide) Try.underlying44 rfl ti5 (by decide) (sv (d := .ref _ _) rfl) (off' := 0) rfl) <|
            ils_cons rfl (iop_load_rs (d := .int _ _) rfl rfl (by decide) Try.underlying5 ag5 ti5 (by decide) (sv (d := .ref _ _) rfl) rfl (nle rfl) rfl) <|
            ils_cons rfl (iop_call (r := .bool _) rfl rfl (by decide) cl41 (.cons (sv (d := .int _ _) rfl) .nil) rfl (p_frame_flagged _ _ hx34)) <|
            ils_end ?_)
          refine iwp_cond (b := _) rfl (fun hc35 => ?_) (fun hc35 => ?_)
          ·
            replace h := bif_t h hc35
            refine iwp_region (ils_cons rfl (iop_fieldAddr_ref rfl rfl (by decide) Try.underlying44 rfl ti4 (by decide) (sv (d := .ref _ _) rfl) (off' := 1) rfl) <|
              ils_cons rfl (iop_store (ds' := [.int _ _, .bool _, .int _ _, .int _ _, .int _ _, .int _ _, .int _ _, .int _ _, .slice _ _, .str _]) rfl rfl ti4 (sv (d := .ref _ _) rfl) rfl (sv (d := .bool false) rfl) rfl rfl rfl (nle rfl) rfl) <|
              ils_nil ?_)
            refine thenQ_n ?_
            refine iwp_reg (ils_cons rfl (iop_load_ra (cs := [.int _ _, .bool _, .int _ _, .int _ _, .int _ _, .int _ _, .int _ _, .int _ _, .slice _ _, .str _]) rfl rfl (by decide) Try.underlying44 ag44 ti44 (by decide) (sv (d := .ref _ _) rfl) rfl (nle rfl) rfl) <|
              ils_cons rfl (iop_store (ds' := [.int _ _, .bool _, .int _ _, .int _ _, .int _ _, .int _ _, .int _ _, .int _ _, .slice _ _, .str _]) rfl rfl ti44 (sv (d := .ref _ _) rfl) rfl (sv (d := .agg [.int _ _, .bool _, .int _ _, .int _ _, .int _ _, .int _ _, .int _ _, .int _ _, .slice _ _, .str _]) rfl) rfl rfl rfl (nle rfl) rfl) <|
              ils_end ?_)
            refine iwp_ret ?_
            obtain rfl := Option.some.inj h
            refine ⟨.inr rfl, (.cons (resv_a rfl rfl Try.underlying44 ag44 ti44 (by decide) (nle rfl) rfl) .nil)⟩
          ·
            replace h := bif_f h hc35
            refine iwp_skip ?_
            refine thenQ_n ?_
            refine iwp_reg (ils_cons rfl (iop_load_ra (cs := [.int _ _, .bool _, .int _ _, .int _ _, .int _ _, .int _ _, .int _ _, .int _ _, .slice _ _, .str _]) rfl rfl (by decide) Try.underlying44 ag44 ti44 (by decide) (sv (d := .ref _ _) rfl) rfl (nle rfl) rfl) <|
              ils_cons rfl (iop_store (ds' := [.int _ _, .bool _, .int _ _, .int _ _, .int _ _, .int _ _, .int _ _, .int _ _, .slice _ _, .str _]) rfl rfl ti44 (sv (d := .ref _ _) rfl) rfl (sv (d := .agg [.int _ _, .bool _, .int _ _, .int _ _, .int _ _, .int _ _, .int _ _, .int _ _, .slice _ _, .str _]) rfl) rfl rfl rfl (nle rfl) rfl) <|
              ils_end ?_)
            refine iwp_ret ?_
            obtain rfl := Option.some.inj h
            refine ⟨.inr rfl, (.cons (resv_a rfl rfl Try.underlying44 ag44 ti44 (by decide) (nle rfl) rfl) .nil)⟩

set_option maxRecDepth 8000 in
set_option maxHeartbeats 2000000 in
theorem p_slices_Equal_api_Pair_api_Pair (a0 : (List T_api_Pair)) (a1 : (List T_api_Pair)) (r : Bool) (h : slices_Equal_api_Pair_api_Pair a0 a1 = some r) : PureAt Try.prog 40 [.slice false (a0.map E_api_Pair.d), .slice false (a1.map E_api_Pair.d)] (.bool r) := by
  refine pure_of_iwp (rs := [.bool r]) Try.func40 rfl Try.ntmps40 (nle rfl) rfl fun O hO => ?_
  show IWP _ _ _ _ ⟨[(0, .slice false (a0.map E_api_Pair.d)), (1, .slice false (a1.map E_api_Pair.d))], []⟩ _
  unfold slices_Equal_api_Pair_api_Pair at h
  refine iwp_reg (ils_cons rfl (iop_assign rfl rfl (by decide) (sv (d := .bool false) rfl)) <|
    ils_end ?_)
  refine iwp_seq ?_
  obtain ⟨x1, hx1, h⟩ := bnd_e h
  refine iwp_reg (ils_cons rfl (iop_move rfl rfl (by decide) (sv (d := .slice _ _) rfl)) <|
    ils_cons rfl (iop_lenT E_api_Pair (l := a0) rfl rfl (by decide) Try.underlying39 (sv (d := .slice _ _) rfl)) <|
    ils_cons rfl (iop_move rfl rfl (by decide) (sv (d := .slice _ _) rfl)) <|
    ils_cons rfl (iop_lenT E_api_Pair (l := a1) rfl rfl (by decide) Try.underlying39 (sv (d := .slice _ _) rfl)) <|
    ils_cons rfl (iop_cmpx rfl rfl (by decide) (sv (d := .int _ _) rfl) (sv (d := .int _ _) rfl) rfl hx1) <|
    ils_end ?_)
  refine iwp_cond (b := _) rfl (fun hc2 => ?_) (fun hc2 => ?_)
  ·
    replace h := bif_t h hc2
    refine iwp_reg (ils_cons rfl (iop_assign rfl rfl (by decide) (sv (d := .bool false) rfl)) <|
      ils_end ?_)
    refine iwp_ret ?_
    refine thenQ_r ?_
    obtain rfl := Option.some.inj h
    refine ⟨.inr rfl, (.cons (sv rfl) .nil)⟩
  ·
    replace h := bif_f h hc2
    refine iwp_skip ?_
    refine thenQ_n ?_
    refine iwp_seq ?_
    refine iwp_reg (ils_cons rfl (iop_move rfl rfl (by decide) (sv (d := .slice _ _) rfl)) <|
      ils_cons rfl (iop_lenT E_api_Pair (l := a0) rfl rfl (by decide) Try.underlying39 (sv (d := .slice _ _) rfl)) <|
      ils_cons rfl (iop_move rfl rfl (by decide) (sv (d := .int _ 0) rfl)) <|
      ils_end ?_)
    refine iwp_block ?_
    refine iwp_loopP (α := Nat × Int) (fun z => ⟨[(0, .slice false (a0.map E_api_Pair.d)), (1, .slice false (a1.map E_api_Pair.d)), (12, .int .i64 (a0.length : Int)), (13, .int .i64 z.2)], []⟩) (fun z => slices_Equal_api_Pair_api_Pair_L0 a0 a1 z.1 z.2 = some r) (fun z => z.1) (fuel, 0) (fun i => i) ⟨(.cons (.same rfl rfl) (.cons (.same rfl rfl) (.cons (.same rfl rfl) (.cons (.same rfl rfl) .nil)))), .nil, nd_of [] rfl (by decide), (fun i hi => by first | rfl | (show (if _ then _ else _) = _; (repeat' split) <;> omega))⟩ ?_ ?_
    · exact h
    ·
      rintro ⟨n0, v10⟩ h
      cases n0 with
      | zero => exact absurd h (by unfold slices_Equal_api_Pair_api_Pair_L0; exact nofun)
      | succ n0 =>
        unfold slices_Equal_api_Pair_api_Pair_L0 at h
        obtain ⟨x18, hx18, h⟩ := bnd_e h
        refine iwp_reg (ils_cons rfl (iop_cmpx rfl rfl (by decide) (sv (d := .int _ _) rfl) (sv (d := .int _ _) rfl) rfl hx18) <|
          ils_end ?_)
        refine iwp_seq ?_
        refine iwp_cond (b := _) rfl (fun hc19 => ?_) (fun hc19 => ?_)
        ·
          replace h := bif_t h hc19
          refine iwp_skip ?_
          refine thenQ_n ?_
          refine iwp_seq ?_
          refine iwp_block ?_
          refine iwp_reg (ils_cons rfl (iop_move rfl rfl (by decide) (sv (d := .int _ _) rfl)) <|
            ils_cons rfl (iop_assign rfl rfl (by decide) (sv (d := .int _ _) rfl)) <|
            ils_end ?_)
          obtain ⟨x20, hx20, h⟩ := bno_e h
          obtain ⟨x21, hx21, h⟩ := bno_e h
          obtain ⟨x22, hx22, h⟩ := bnd_e h
          refine iwp_drw rfl [⟨[0], [], [(16, .slice false (a0.map E_api_Pair.d))], []⟩,
            ⟨[5], [], [(17, .int .i64 v10)], []⟩,
            ⟨[16, 17], [], [(18, .fptr [.int .i64 x20.ID, .int .i64 x20.Value])], []⟩,
            ⟨[18], [], [(19, .agg [.int .i64 x20.ID, .int .i64 x20.Value])], []⟩,
            ⟨[1], [], [(20, .slice false (a1.map E_api_Pair.d))], []⟩,
            ⟨[5], [], [(21, .int .i64 v10)], []⟩,
            ⟨[20, 21], [], [(22, .fptr [.int .i64 x21.ID, .int .i64 x21.Value])], []⟩,
            ⟨[22], [], [(23, .agg [.int .i64 x21.ID, .int .i64 x21.Value])], []⟩,
            ⟨[19, 23], [], [(24, .bool (!x22))], []⟩] rfl ?_ (by kernel_rfl) ?_
          · refine .cons (lop rfl rfl fun S hA => (iop_move rfl rfl (by decide) (sv (d := .slice _ _) (agr hA rfl rfl)))) ?_
            refine .cons (lop rfl rfl fun S hA => (iop_move rfl rfl (by decide) (sv (d := .int _ _) (agr hA rfl rfl)))) ?_
            refine .cons (lop rfl rfl fun S hA => (iop_idxT E_api_Pair (cs := [.int _ _, .int _ _]) rfl rfl (by decide) Try.underlying39 ti66 (sv (d := .slice _ _) (agr hA rfl rfl)) (sv (d := .int _ _) (agr hA rfl rfl)) hx20 rfl rfl)) ?_
            refine .cons (lop rfl rfl fun S hA => (iop_load_fa (cs := [.int _ _, .int _ _]) rfl rfl (by decide) Try.underlying66 ag66 ti66 (by decide) (sv (d := .fptr [.int _ _, .int _ _]) (agr hA rfl rfl)) (nle rfl) rfl)) ?_
            refine .cons (lop rfl rfl fun S hA => (iop_move rfl rfl (by decide) (sv (d := .slice _ _) (agr hA rfl rfl)))) ?_
            refine .cons (lop rfl rfl fun S hA => (iop_move rfl rfl (by decide) (sv (d := .int _ _) (agr hA rfl rfl)))) ?_
            refine .cons (lop rfl rfl fun S hA => (iop_idxT E_api_Pair (cs := [.int _ _, .int _ _]) rfl rfl (by decide) Try.underlying39 ti66 (sv (d := .slice _ _) (agr hA rfl rfl)) (sv (d := .int _ _) (agr hA rfl rfl)) hx21 rfl rfl)) ?_
            refine .cons (lop rfl rfl fun S hA => (iop_load_fa (cs := [.int _ _, .int _ _]) rfl rfl (by decide) Try.underlying66 ag66 ti66 (by decide) (sv (d := .fptr [.int _ _, .int _ _]) (agr hA rfl rfl)) (nle rfl) rfl)) ?_
            refine .cons (lop rfl rfl fun S hA => (iop_nes rfl rfl (by decide) Try.underlying66 st66.1 st66.2 (sv (d := .agg [.int _ _, .int _ _]) (agr hA rfl rfl)) (sv (d := .agg [.int _ _, .int _ _]) (agr hA rfl rfl)) (congrArg some hx22))) ?_
            exact .nil
          refine iwp_cond (b := _) rfl (fun hc23 => ?_) (fun hc23 => ?_)
          ·
            replace h := bif_t h hc23
            refine iwp_reg (ils_cons rfl (iop_assign rfl rfl (by decide) (sv (d := .bool false) rfl)) <|
              ils_end ?_)
            refine iwp_ret ?_
            refine blockQ_r ?_
            refine thenQ_r ?_
            refine thenQ_r ?_
            refine blockQ_r ?_
            refine thenQ_r ?_
            obtain rfl := Option.some.inj h
            refine ⟨.inr rfl, (.cons (sv rfl) .nil)⟩
          ·
            replace h := bif_f h hc23
            refine iwp_skip ?_
            refine blockQ_n ?_
            refine thenQ_n ?_
            obtain ⟨x24, hx24, h⟩ := bnd_e h
            refine iwp_region (ils_cons rfl (iop_intx rfl rfl (by decide) (sv (d := .int _ _) rfl) (sv (d := .int _ 1) rfl) rfl hx24) <|
              ils_cons rfl (iop_move rfl rfl (by decide) (sv (d := .int _ _) rfl)) <|
              ils_nil ?_)
            refine thenQ_n ⟨(n0, x24), (fun i => i), ⟨(.cons (.same rfl rfl) (.cons (.same rfl rfl) (.cons (.same rfl rfl) (.cons (.same rfl rfl) .nil)))), .nil, nd_of [] rfl (by decide), (fun i hi => by first | rfl | (show (if _ then _ else _) = _; (repeat' split) <;> omega))⟩, ?_, ?_⟩
            exact h
            exact Nat.lt_succ_self _
        ·
          replace h := bif_f h hc19
          refine iwp_exit ?_
          refine thenQ_e ?_
          refine thenQ_e ?_
          refine blockQ_e ?_
          refine thenQ_n ?_
          refine iwp_reg (ils_cons rfl (iop_assign rfl rfl (by decide) (sv (d := .bool true) rfl)) <|
            ils_end ?_)
          refine iwp_ret ?_
          obtain rfl := Option.some.inj h
          refine ⟨.inr rfl, (.cons (sv rfl) .nil)⟩

set_option maxRecDepth 8000 in
set_option maxHeartbeats 2000000 in
theorem p_frame_Same (a0 : T_frame_Frame) (a1 : T_frame_Frame) (r : Bool) (h : frame_Same a0 a1 = some r) : PureAt Try.prog 29 [.agg [.int .u8 a0.Kind, .bool a0.Flag, .int .i64 a0.Stream, .int .i64 a0.Offset, .int .i64 a0.Dep, .int .i64 a0.Weight, .int .i64 a0.N, .int .i64 a0.Code, .slice false (a0.Pairs.map E_api_Pair.d), .str a0.Data], .agg [.int .u8 a1.Kind, .bool a1.Flag, .int .i64 a1.Stream, .int .i64 a1.Offset, .int .i64 a1.Dep, .int .i64 a1.Weight, .int .i64 a1.N, .int .i64 a1.Code, .slice false (a1.Pairs.map E_api_Pair.d), .str a1.Data]] (.bool r) := by
  refine pure_of_iwp (rs := [.bool r]) Try.func29 rfl Try.ntmps29 (nle rfl) rfl fun O hO => ?_
  show IWP _ _ _ _ ⟨[(0, .agg [.int .u8 a0.Kind, .bool a0.Flag, .int .i64 a0.Stream, .int .i64 a0.Offset, .int .i64 a0.Dep, .int .i64 a0.Weight, .int .i64 a0.N, .int .i64 a0.Code, .slice false (a0.Pairs.map E_api_Pair.d), .str a0.Data]), (1, .agg [.int .u8 a1.Kind, .bool a1.Flag, .int .i64 a1.Stream, .int .i64 a1.Offset, .int .i64 a1.Dep, .int .i64 a1.Weight, .int .i64 a1.N, .int .i64 a1.Code, .slice false (a1.Pairs.map E_api_Pair.d), .str a1.Data])], []⟩ _
  unfold frame_Same at h
  refine iwp_reg (ils_cons rfl (iop_box' (cs := [.int _ _, .bool _, .int _ _, .int _ _, .int _ _, .int _ _, .int _ _, .int _ _, .slice _ _, .str _]) 0 rfl rfl (by decide) rfl (sv (d := .agg [.int _ _, .bool _, .int _ _, .int _ _, .int _ _, .int _ _, .int _ _, .int _ _, .slice _ _, .str _]) rfl) rfl rfl) <|
    ils_cons rfl (iop_box' (cs := [.int _ _, .bool _, .int _ _, .int _ _, .int _ _, .int _ _, .int _ _, .int _ _, .slice _ _, .str _]) 1 rfl rfl (by decide) rfl (sv (d := .agg [.int _ _, .bool _, .int _ _, .int _ _, .int _ _, .int _ _, .int _ _, .int _ _, .slice _ _, .str _]) rfl) rfl rfl) <|
    ils_cons rfl (iop_assign rfl rfl (by decide) (sv (d := .bool false) rfl)) <|
    ils_end ?_)
  refine iwp_seq ?_
  obtain ⟨x1, hx1, h⟩ := bnd_e h
  obtain ⟨x2, hx2, h⟩ := bnd_e h
  obtain ⟨x3, hx3, h⟩ := bnd_e h
  obtain ⟨x4, hx4, h⟩ := bno_e h
  obtain ⟨x5, hx5, h⟩ := bnd_e h
  refine iwp_reg (ils_cons rfl (iop_fieldAddr_ref rfl rfl (by decide) Try.underlying44 rfl ti5 (by decide) (sv (d := .ref _ _) rfl) (off' := 0) rfl) <|
    ils_cons rfl (iop_load_rs (d := .int _ _) rfl rfl (by decide) Try.underlying5 ag5 ti5 (by decide) (sv (d := .ref _ _) rfl) rfl (nle rfl) rfl) <|
    ils_cons rfl (iop_fieldAddr_ref rfl rfl (by decide) Try.underlying44 rfl ti5 (by decide) (sv (d := .ref _ _) rfl) (off' := 0) rfl) <|
    ils_cons rfl (iop_load_rs (d := .int _ _) rfl rfl (by decide) Try.underlying5 ag5 ti5 (by decide) (sv (d := .ref _ _) rfl) rfl (nle rfl) rfl) <|
    ils_cons rfl (iop_cmpx rfl rfl (by decide) (sv (d := .int _ _) rfl) (sv (d := .int _ _) rfl) rfl hx1) <|
    ils_cons rfl (iop_move rfl rfl (by decide) (sv (d := .bool _) rfl)) <|
    ils_guard rfl rfl (.one rfl) rfl (by decide) (fun hb => (iop_fieldAddr_ref rfl rfl (by decide) Try.underlying44 rfl ti4 (by decide) (sv (d := .ref _ _) rfl) (off' := 1) rfl)) <|
    ils_guard rfl rfl (.one rfl) rfl (by decide) (fun hb => (iop_load_rs (d := .bool _) rfl rfl (by decide) Try.underlying4 ag4 ti4 (by decide) (svc (d := .ref _ _) rfl hb) rfl (nle rfl) rfl)) <|
    ils_guard rfl rfl (.one rfl) rfl (by decide) (fun hb => (iop_fieldAddr_ref rfl rfl (by decide) Try.underlying44 rfl ti4 (by decide) (sv (d := .ref _ _) rfl) (off' := 1) rfl)) <|
    ils_guard rfl rfl (.one rfl) rfl (by decide) (fun hb => (iop_load_rs (d := .bool _) rfl rfl (by decide) Try.underlying4 ag4 ti4 (by decide) (svc (d := .ref _ _) rfl hb) rfl (nle rfl) rfl)) <|
    ils_guard rfl rfl (.one rfl) rfl (by decide) (fun hb => (iop_nebx rfl rfl (by decide) Try.underlying4 (svc (d := .bool _) rfl hb) (svc (d := .bool _) rfl hb) hx2)) <|
    ils_cons rfl (iop_orx rfl rfl (by decide) (sv (d := .bool _) rfl) rfl rfl hx3) <|
    ils_cons rfl (iop_move rfl rfl (by decide) (sv (d := .bool _) rfl)) <|
    ils_guard rfl rfl (.one rfl) rfl (by decide) (fun hb => (iop_fieldAddr_ref rfl rfl (by decide) Try.underlying44 rfl ti39 (by decide) (sv (d := .ref _ _) rfl) (off' := 8) rfl)) <|
    ils_guard rfl rfl (.one rfl) rfl (by decide) (fun hb => (iop_load_rs (d := .slice _ _) rfl rfl (by decide) Try.underlying39 ag39 ti39 (by decide) (svc (d := .ref _ _) rfl hb) rfl (nle rfl) rfl)) <|
    ils_guard rfl rfl (.one rfl) rfl (by decide) (fun hb => (iop_fieldAddr_ref rfl rfl (by decide) Try.underlying44 rfl ti39 (by decide) (sv (d := .ref _ _) rfl) (off' := 8) rfl)) <|
    ils_guard rfl rfl (.one rfl) rfl (by decide) (fun hb => (iop_load_rs (d := .slice _ _) rfl rfl (by decide) Try.underlying39 ag39 ti39 (by decide) (svc (d := .ref _ _) rfl hb) rfl (nle rfl) rfl)) <|
    ils_guard rfl rfl (.one rfl) rfl (by decide) (fun hb => (iop_call (r := .bool _) rfl rfl (by decide) cl40 (.cons (svc (d := .slice _ _) rfl hb) (.cons (svc (d := .slice _ _) rfl hb) .nil)) rfl (p_slices_Equal_api_Pair_api_Pair _ _ _ (gd_t hx4 hb)))) <|
    ils_guard rfl rfl (.one rfl) rfl (by decide) (fun hb => (iop_not rfl rfl (by decide) (svc (d := .bool _) rfl hb))) <|
    ils_cons rfl (iop_orx rfl rfl (by decide) (sv (d := .bool _) rfl) rfl rfl hx5) <|
    ils_end ?_)
  refine iwp_cond (b := _) rfl (fun hc6 => ?_) (fun hc6 => ?_)
  ·
    replace h := bif_t h hc6
    refine iwp_reg (ils_cons rfl (iop_assign rfl rfl (by decide) (sv (d := .bool false) rfl)) <|
      ils_end ?_)
    refine iwp_ret ?_
    refine thenQ_r ?_
    obtain rfl := Option.some.inj h
    refine ⟨.inr rfl, (.cons (sv rfl) .nil)⟩
  ·
    replace h := bif_f h hc6
    refine iwp_skip ?_
    refine thenQ_n ?_
    obtain ⟨x7, hx7, h⟩ := bnd_e h
    obtain ⟨x8, hx8, h⟩ := bnd_e h
    obtain ⟨x9, hx9, h⟩ := bnd_e h
    obtain ⟨x10, hx10, h⟩ := bnd_e h
    obtain ⟨x11, hx11, h⟩ := bnd_e h
    obtain ⟨x12, hx12, h⟩ := bnd_e h
    obtain ⟨x13, hx13, h⟩ := bnd_e h
    refine iwp_reg (ils_cons rfl (iop_fieldAddr_ref rfl rfl (by decide) Try.underlying44 rfl ti3 (by decide) (sv (d := .ref _ _) rfl) (off' := 2) rfl) <|
      ils_cons rfl (iop_load_rs (d := .int _ _) rfl rfl (by decide) Try.underlying3 ag3 ti3 (by decide) (sv (d := .ref _ _) rfl) rfl (nle rfl) rfl) <|
      ils_cons rfl (iop_fieldAddr_ref rfl rfl (by decide) Try.underlying44 rfl ti3 (by decide) (sv (d := .ref _ _) rfl) (off' := 2) rfl) <|
      ils_cons rfl (iop_load_rs (d := .int _ _) rfl rfl (by decide) Try.underlying3 ag3 ti3 (by decide) (sv (d := .ref _ _) rfl) rfl (nle rfl) rfl) <|
      ils_cons rfl (iop_cmpx rfl rfl (by decide) (sv (d := .int _ _) rfl) (sv (d := .int _ _) rfl) rfl hx7) <|
      ils_cons rfl (iop_move rfl rfl (by decide) (sv (d := .bool _) rfl)) <|
      ils_guard rfl rfl (.one rfl) rfl (by decide) (fun hb => (iop_fieldAddr_ref rfl rfl (by decide) Try.underlying44 rfl ti3 (by decide) (sv (d := .ref _ _) rfl) (off' := 3) rfl)) <|
      ils_guard rfl rfl (.one rfl) rfl (by decide) (fun hb => (iop_load_rs (d := .int _ _) rfl rfl (by decide) Try.underlying3 ag3 ti3 (by decide) (svc (d := .ref _ _) rfl hb) rfl (nle rfl) rfl)) <|
      ils_guard rfl rfl (.one rfl) rfl (by decide) (fun hb => (iop_fieldAddr_ref rfl rfl (by decide) Try.underlying44 rfl ti3 (by decide) (sv (d := .ref _ _) rfl) (off' := 3) rfl)) <|
      ils_guard rfl rfl (.one rfl) rfl (by decide) (fun hb => (iop_load_rs (d := .int _ _) rfl rfl (by decide) Try.underlying3 ag3 ti3 (by decide) (svc (d := .ref _ _) rfl hb) rfl (nle rfl) rfl)) <|
      ils_guard rfl rfl (.one rfl) rfl (by decide) (fun hb => (iop_cmpx rfl rfl (by decide) (svc (d := .int _ _) rfl hb) (svc (d := .int _ _) rfl hb) rfl hx8)) <|
      ils_cons rfl (iop_andx rfl rfl (by decide) (sv (d := .bool _) rfl) rfl rfl hx9) <|
      ils_cons rfl (iop_move rfl rfl (by decide) (sv (d := .bool _) rfl)) <|
      ils_guard rfl rfl (.one rfl) rfl (by decide) (fun hb => (iop_fieldAddr_ref rfl rfl (by decide) Try.underlying44 rfl ti3 (by decide) (sv (d := .ref _ _) rfl) (off' := 4) rfl)) <|
      ils_guard rfl rfl (.one rfl) rfl (by decide) (fun hb => (iop_load_rs (d := .int _ _) rfl rfl (by decide) Try.underlying3 ag3 ti3 (by decide) (svc (d := .ref _ _) rfl hb) rfl (nle rfl) rfl)) <|
      ils_guard rfl rfl (.one rfl) rfl (by decide) (fun hb => (iop_fieldAddr_ref rfl rfl (by decide) Try.underlying44 rfl ti3 (by decide) (sv (d := .ref _ _) rfl) (off' := 4) rfl)) <|
      ils_guard rfl rfl (.one rfl) rfl (by decide) (fun hb => (iop_load_rs (d := .int _ _) rfl rfl (by decide) Try.underlying3 ag3 ti3 (by decide) (svc (d := .ref _ _) rfl hb) rfl (nle rfl) rfl)) <|
      ils_guard rfl rfl (.one rfl) rfl (by decide) (fun hb => (iop_cmpx rfl rfl (by decide) (svc (d := .int _ _) rfl hb) (svc (d := .int _ _) rfl hb) rfl hx10)) <|
      ils_cons rfl (iop_andx rfl rfl (by decide) (sv (d := .bool _) rfl) rfl rfl hx11) <|
      ils_cons rfl (iop_move rfl rfl (by decide) (sv (d := .bool _) rfl)) <|
      ils_guard rfl rfl (.one rfl) rfl (by decide) (fun hb => (iop_fieldAddr_ref rfl rfl (by decide) Try.underlying44 rfl ti3 (by decide) (sv (d := .ref _ _) rfl) (off' := 5) rfl)) <|
      ils_guard rfl rfl (.one rfl) rfl (by decide) (fun hb => (iop_load_rs (d := .int _ _) rfl rfl (by decide) Try.underlying3 ag3 ti3 (by decide) (svc (d := .ref _ _) rfl hb) rfl (nle rfl) rfl)) <|
      ils_guard rfl rfl (.one rfl) rfl (by decide) (fun hb => (iop_fieldAddr_ref rfl rfl (by decide) Try.underlying44 rfl ti3 (by decide) (sv (d := .ref _ _) rfl) (off' := 5) rfl)) <|
      ils_guard rfl rfl (.one rfl) rfl (by decide) (fun hb => (iop_load_rs (d := .int _ _) rfl rfl (by decide) Try.underlying3 ag3 ti3 (by decide) (svc (d := .ref _ _) rfl hb) rfl (nle rfl) rfl)) <|
      ils_guard rfl rfl (.one rfl) rfl (by decide) (fun hb => (iop_cmpx rfl rfl (by decide) (svc (d := .int _ _) rfl hb) (svc (d := .int _ _) rfl hb) rfl hx12)) <|
      ils_cons rfl (iop_andx rfl rfl (by decide) (sv (d := .bool _) rfl) rfl rfl hx13) <|
      ils_cons rfl (iop_assign rfl rfl (by decide) (sv (d := .bool _) rfl)) <|
      ils_end ?_)
    obtain ⟨x14, hx14, h⟩ := bnd_e h
    obtain ⟨x15, hx15, h⟩ := bnd_e h
    obtain ⟨x16, hx16, h⟩ := bnd_e h
    obtain ⟨x17, hx17, h⟩ := bnd_e h
    obtain ⟨x18, hx18, h⟩ := bnd_e h
    obtain ⟨x19, hx19, h⟩ := bnd_e h
    refine iwp_reg (ils_cons rfl (iop_move rfl rfl (by decide) (sv (d := .bool _) rfl)) <|
      ils_cons rfl (iop_move rfl rfl (by decide) (sv (d := .bool _) rfl)) <|
      ils_guard rfl rfl (.one rfl) rfl (by decide) (fun hb => (iop_fieldAddr_ref rfl rfl (by decide) Try.underlying44 rfl ti3 (by decide) (sv (d := .ref _ _) rfl) (off' := 6) rfl)) <|
      ils_guard rfl rfl (.one rfl) rfl (by decide) (fun hb => (iop_load_rs (d := .int _ _) rfl rfl (by decide) Try.underlying3 ag3 ti3 (by decide) (svc (d := .ref _ _) rfl hb) rfl (nle rfl) rfl)) <|
      ils_guard rfl rfl (.one rfl) rfl (by decide) (fun hb => (iop_fieldAddr_ref rfl rfl (by decide) Try.underlying44 rfl ti3 (by decide) (sv (d := .ref _ _) rfl) (off' := 6) rfl)) <|
      ils_guard rfl rfl (.one rfl) rfl (by decide) (fun hb => (iop_load_rs (d := .int _ _) rfl rfl (by decide) Try.underlying3 ag3 ti3 (by decide) (svc (d := .ref _ _) rfl hb) rfl (nle rfl) rfl)) <|
      ils_guard rfl rfl (.one rfl) rfl (by decide) (fun hb => (iop_cmpx rfl rfl (by decide) (svc (d := .int _ _) rfl hb) (svc (d := .int _ _) rfl hb) rfl hx14)) <|
      ils_cons rfl (iop_andx rfl rfl (by decide) (sv (d := .bool _) rfl) rfl rfl hx15) <|
      ils_cons rfl (iop_move rfl rfl (by decide) (sv (d := .bool _) rfl)) <|
      ils_guard rfl rfl (.one rfl) rfl (by decide) (fun hb => (iop_fieldAddr_ref rfl rfl (by decide) Try.underlying44 rfl ti3 (by decide) (sv (d := .ref _ _) rfl) (off' := 7) rfl)) <|
      ils_guard rfl rfl (.one rfl) rfl (by decide) (fun hb => (iop_load_rs (d := .int _ _) rfl rfl (by decide) Try.underlying3 ag3 ti3 (by decide) (svc (d := .ref _ _) rfl hb) rfl (nle rfl) rfl)) <|
      ils_guard rfl rfl (.one rfl) rfl (by decide) (fun hb => (iop_fieldAddr_ref rfl rfl (by decide) Try.underlying44 rfl ti3 (by decide) (sv (d := .ref _ _) rfl) (off' := 7) rfl)) <|
      ils_guard rfl rfl (.one rfl) rfl (by decide) (fun hb => (iop_load_rs (d := .int _ _) rfl rfl (by decide) Try.underlying3 ag3 ti3 (by decide) (svc (d := .ref _ _) rfl hb) rfl (nle rfl) rfl)) <|
      ils_guard rfl rfl (.one rfl) rfl (by decide) (fun hb => (iop_cmpx rfl rfl (by decide) (svc (d := .int _ _) rfl hb) (svc (d := .int _ _) rfl hb) rfl hx16)) <|
      ils_cons rfl (iop_andx rfl rfl (by decide) (sv (d := .bool _) rfl) rfl rfl hx17) <|
      ils_cons rfl (iop_move rfl rfl (by decide) (sv (d := .bool _) rfl)) <|
      ils_guard rfl rfl (.one rfl) rfl (by decide) (fun hb => (iop_fieldAddr_ref rfl rfl (by decide) Try.underlying44 rfl ti9 (by decide) (sv (d := .ref _ _) rfl) (off' := 9) rfl)) <|
      ils_guard rfl rfl (.one rfl) rfl (by decide) (fun hb => (iop_load_rs (d := .str _) rfl rfl (by decide) Try.underlying9 ag9 ti9 (by decide) (svc (d := .ref _ _) rfl hb) rfl (nle rfl) rfl)) <|
      ils_guard rfl rfl (.one rfl) rfl (by decide) (fun hb => (iop_fieldAddr_ref rfl rfl (by decide) Try.underlying44 rfl ti9 (by decide) (sv (d := .ref _ _) rfl) (off' := 9) rfl)) <|
      ils_guard rfl rfl (.one rfl) rfl (by decide) (fun hb => (iop_load_rs (d := .str _) rfl rfl (by decide) Try.underlying9 ag9 ti9 (by decide) (svc (d := .ref _ _) rfl hb) rfl (nle rfl) rfl)) <|
      ils_guard rfl rfl (.one rfl) rfl (by decide) (fun hb => (iop_strx rfl rfl (by decide) (svc (d := .str _) rfl hb) (svc (d := .str _) rfl hb) rfl hx18)) <|
      ils_cons rfl (iop_andx rfl rfl (by decide) (sv (d := .bool _) rfl) rfl rfl hx19) <|
      ils_cons rfl (iop_assign rfl rfl (by decide) (sv (d := .bool _) rfl)) <|
      ils_end ?_)
    refine iwp_ret ?_
    obtain rfl := Option.some.inj h
    refine ⟨.inr rfl, (.cons (sv rfl) .nil)⟩

set_option maxRecDepth 8000 in
set_option maxHeartbeats 2000000 in
theorem p_frame_Check (a0 : T_frame_Frame) (r : Int) (h : frame_Check a0 = some r) : PureAt Try.prog 19 [.agg [.int .u8 a0.Kind, .bool a0.Flag, .int .i64 a0.Stream, .int .i64 a0.Offset, .int .i64 a0.Dep, .int .i64 a0.Weight, .int .i64 a0.N, .int .i64 a0.Code, .slice false (a0.Pairs.map E_api_Pair.d), .str a0.Data]] (.int .i64 r) := by
  refine pure_of_iwp (rs := [.int .i64 r]) Try.func19 rfl Try.ntmps19 (nle rfl) rfl fun O hO => ?_
  show IWP _ _ _ _ ⟨[(0, .agg [.int .u8 a0.Kind, .bool a0.Flag, .int .i64 a0.Stream, .int .i64 a0.Offset, .int .i64 a0.Dep, .int .i64 a0.Weight, .int .i64 a0.N, .int .i64 a0.Code, .slice false (a0.Pairs.map E_api_Pair.d), .str a0.Data])], []⟩ _
  unfold frame_Check at h
  refine iwp_reg (ils_cons rfl (iop_box' (cs := [.int _ _, .bool _, .int _ _, .int _ _, .int _ _, .int _ _, .int _ _, .int _ _, .slice _ _, .str _]) 0 rfl rfl (by decide) rfl (sv (d := .agg [.int _ _, .bool _, .int _ _, .int _ _, .int _ _, .int _ _, .int _ _, .int _ _, .slice _ _, .str _]) rfl) rfl rfl) <|
    ils_cons rfl (iop_assign rfl rfl (by decide) (sv (d := .int _ 0) rfl)) <|
    ils_end ?_)
  refine iwp_seq ?_
  refine iwp_block ?_
  obtain ⟨x1, hx1, h⟩ := bno_e h
  refine iwp_reg (ils_cons rfl (iop_fieldAddr_ref rfl rfl (by decide) Try.underlying44 rfl ti5 (by decide) (sv (d := .ref _ _) rfl) (off' := 0) rfl) <|
    ils_cons rfl (iop_load_rs (d := .int _ _) rfl rfl (by decide) Try.underlying5 ag5 ti5 (by decide) (sv (d := .ref _ _) rfl) rfl (nle rfl) rfl) <|
    ils_cons rfl (iop_call (r := .bool _) rfl rfl (by decide) cl27 (.cons (sv (d := .int _ _) rfl) .nil) rfl (p_frame_known _ _ hx1)) <|
    ils_cons rfl (iop_not rfl rfl (by decide) (sv (d := .bool _) rfl)) <|
    ils_cons rfl (iop_assign rfl rfl (by decide) (sv (d := .bool _) rfl)) <|
    ils_end ?_)
  refine iwp_cond (b := _) rfl (fun hc2 => ?_) (fun hc2 => ?_)
  ·
    replace h := bif_t h hc2
    refine iwp_reg (ils_cons rfl (iop_assign rfl rfl (by decide) (sv (d := .int _ 12) rfl)) <|
      ils_end ?_)
    refine iwp_ret ?_
    refine blockQ_r ?_
    refine thenQ_r ?_
    obtain rfl := Option.some.inj h
    refine ⟨.inr rfl, (.cons (sv rfl) .nil)⟩
  ·
    replace h := bif_f h hc2
    obtain ⟨x3, hx3, h⟩ := bno_e h
    refine iwp_reg (ils_cons rfl (iop_load_ra (cs := [.int _ _, .bool _, .int _ _, .int _ _, .int _ _, .int _ _, .int _ _, .int _ _, .slice _ _, .str _]) rfl rfl (by decide) Try.underlying44 ag44 ti44 (by decide) (sv (d := .ref _ _) rfl) rfl (nle rfl) rfl) <|
      ils_cons rfl (iop_call (r := .bool _) rfl rfl (by decide) cl28 (.cons (sv (d := .agg [.int _ _, .bool _, .int _ _, .int _ _, .int _ _, .int _ _, .int _ _, .int _ _, .slice _ _, .str _]) rfl) .nil) rfl (p_frame_Frame_ranges _ _ hx3)) <|
      ils_cons rfl (iop_not rfl rfl (by decide) (sv (d := .bool _) rfl)) <|
      ils_cons rfl (iop_assign rfl rfl (by decide) (sv (d := .bool _) rfl)) <|
      ils_end ?_)
    refine iwp_cond (b := _) rfl (fun hc4 => ?_) (fun hc4 => ?_)
    ·
      replace h := bif_t h hc4
      refine iwp_reg (ils_cons rfl (iop_assign rfl rfl (by decide) (sv (d := .int _ 8) rfl)) <|
        ils_end ?_)
      refine iwp_ret ?_
      refine blockQ_r ?_
      refine thenQ_r ?_
      obtain rfl := Option.some.inj h
      refine ⟨.inr rfl, (.cons (sv rfl) .nil)⟩
    ·
      replace h := bif_f h hc4
      refine iwp_join (α := Bool) (fun z => ⟨[(1, .ref 0 0), (12, .bool z)], [(0, .blk 44 [.int .u8 a0.Kind, .bool a0.Flag, .int .i64 a0.Stream, .int .i64 a0.Offset, .int .i64 a0.Dep, .int .i64 a0.Weight, .int .i64 a0.N, .int .i64 a0.Code, .slice false (a0.Pairs.map E_api_Pair.d), .str a0.Data])]⟩) (fun z => frame_Check_J0 a0 z = some r) ?_ ?_
      ·
        obtain ⟨x13, hx13, h⟩ := bnd_e h
        refine iwp_reg (ils_cons rfl (iop_fieldAddr_ref rfl rfl (by decide) Try.underlying44 rfl ti9 (by decide) (sv (d := .ref _ _) rfl) (off' := 9) rfl) <|
          ils_cons rfl (iop_load_rs (d := .str _) rfl rfl (by decide) Try.underlying9 ag9 ti9 (by decide) (sv (d := .ref _ _) rfl) rfl (nle rfl) rfl) <|
          ils_cons rfl (iop_len_str rfl rfl (by decide) Try.underlying9 (sv (d := .str _) rfl) rfl) <|
          ils_cons rfl (iop_cmpx rfl rfl (by decide) (sv (d := .int _ _) rfl) (sv (d := .int _ 32) rfl) rfl hx13) <|
          ils_cons rfl (iop_assign rfl rfl (by decide) (sv (d := .bool _) rfl)) <|
          ils_end ?_)
        refine iwp_cond (b := _) rfl (fun hc14 => ?_) (fun hc14 => ?_)
        ·
          replace h := bif_t h hc14
          refine iwp_skip ?_
          refine thenQ_n ⟨x13, (fun i => i), ⟨(.cons (.same rfl rfl) (.cons (.same rfl rfl) .nil)), (.cons (.blk rfl rfl rfl) .nil), nd_of [0] rfl (by decide), (fun i hi => by first | rfl | (show (if _ then _ else _) = _; (repeat' split) <;> omega))⟩, ?_⟩
          exact h
        ·
          replace h := bif_f h hc14
          obtain ⟨x15, hx15, h⟩ := bnd_e h
          refine iwp_region (ils_cons rfl (iop_fieldAddr_ref rfl rfl (by decide) Try.underlying44 rfl ti39 (by decide) (sv (d := .ref _ _) rfl) (off' := 8) rfl) <|
            ils_cons rfl (iop_load_rs (d := .slice _ _) rfl rfl (by decide) Try.underlying39 ag39 ti39 (by decide) (sv (d := .ref _ _) rfl) rfl (nle rfl) rfl) <|
            ils_cons rfl (iop_lenT E_api_Pair (l := a0.Pairs) rfl rfl (by decide) Try.underlying39 (sv (d := .slice _ _) rfl)) <|
            ils_cons rfl (iop_cmpx rfl rfl (by decide) (sv (d := .int _ _) rfl) (sv (d := .int _ 4) rfl) rfl hx15) <|
            ils_cons rfl (iop_assign rfl rfl (by decide) (sv (d := .bool _) rfl)) <|
            ils_nil ?_)
          refine thenQ_n ⟨x15, (fun i => i), ⟨(.cons (.same rfl rfl) (.cons (.same rfl rfl) .nil)), (.cons (.blk rfl rfl rfl) .nil), nd_of [0] rfl (by decide), (fun i hi => by first | rfl | (show (if _ then _ else _) = _; (repeat' split) <;> omega))⟩, ?_⟩
          exact h
      ·
        rintro v8 h
        unfold frame_Check_J0 at h
        refine iwp_cond (b := _) rfl (fun hc9 => ?_) (fun hc9 => ?_)
        ·
          replace h := bif_t h hc9
          refine iwp_reg (ils_cons rfl (iop_assign rfl rfl (by decide) (sv (d := .int _ 5) rfl)) <|
            ils_end ?_)
          refine iwp_ret ?_
          refine blockQ_r ?_
          refine thenQ_r ?_
          obtain rfl := Option.some.inj h
          refine ⟨.inr rfl, (.cons (sv rfl) .nil)⟩
        ·
          replace h := bif_f h hc9
          obtain ⟨x10, hx10, h⟩ := bno_e h
          obtain ⟨x11, hx11, h⟩ := bno_e h
          refine iwp_drw rfl [⟨[1], [0], [(22, .agg [.int .u8 a0.Kind, .bool a0.Flag, .int .i64 a0.Stream, .int .i64 a0.Offset, .int .i64 a0.Dep, .int .i64 a0.Weight, .int .i64 a0.N, .int .i64 a0.Code, .slice false (a0.Pairs.map E_api_Pair.d), .str a0.Data])], []⟩,
            ⟨[22], [], [(23, .agg [.int .u8 x10.Kind, .bool x10.Flag, .int .i64 x10.Stream, .int .i64 x10.Offset, .int .i64 x10.Dep, .int .i64 x10.Weight, .int .i64 x10.N, .int .i64 x10.Code, .slice false (x10.Pairs.map E_api_Pair.d), .str x10.Data])], []⟩,
            ⟨[1], [], [(24, .ref 0 0)], []⟩,
            ⟨[24], [0], [(25, .int .u8 a0.Kind)], []⟩,
            ⟨[25], [], [(26, .agg [.int .u8 a0.Kind, .bool false, .int .i64 0, .int .i64 0, .int .i64 0, .int .i64 0, .int .i64 0, .int .i64 0, .slice false (([] : List T_api_Pair).map E_api_Pair.d), .str []])], []⟩,
            ⟨[23, 26], [], [(27, .bool x11)], []⟩,
            ⟨[27], [], [(28, .bool (!x11))], []⟩,
            ⟨[28], [], [(21, .bool (!x11))], []⟩] rfl ?_ (by kernel_rfl) ?_
          · refine .cons (lop rfl rfl fun S hA => (iop_load_ra (cs := [.int _ _, .bool _, .int _ _, .int _ _, .int _ _, .int _ _, .int _ _, .int _ _, .slice _ _, .str _]) rfl rfl (by decide) Try.underlying44 ag44 ti44 (by decide) (sv (d := .ref _ _) (agr hA rfl rfl)) (agi hA rfl rfl) (nle rfl) rfl)) ?_
            refine .cons (lop rfl rfl fun S hA => (iop_call (r := .agg [.int _ _, .bool _, .int _ _, .int _ _, .int _ _, .int _ _, .int _ _, .int _ _, .slice _ _, .str _]) rfl rfl (by decide) cl30 (.cons (sv (d := .agg [.int _ _, .bool _, .int _ _, .int _ _, .int _ _, .int _ _, .int _ _, .int _ _, .slice _ _, .str _]) (agr hA rfl rfl)) .nil) rfl (p_frame_Frame_bare _ _ hx10))) ?_
            refine .cons (lop rfl rfl fun S hA => (iop_fieldAddr_ref rfl rfl (by decide) Try.underlying44 rfl ti5 (by decide) (sv (d := .ref _ _) (agr hA rfl rfl)) (off' := 0) rfl)) ?_
            refine .cons (lop rfl rfl fun S hA => (iop_load_rs (d := .int _ _) rfl rfl (by decide) Try.underlying5 ag5 ti5 (by decide) (sv (d := .ref _ _) (agr hA rfl rfl)) (agi hA rfl rfl) (nle rfl) rfl)) ?_
            refine .cons (lop rfl rfl fun S hA => (iop_sub (d' := .agg [.int .u8 a0.Kind, .bool false, .int .i64 0, .int .i64 0, .int .i64 0, .int .i64 0, .int .i64 0, .int .i64 0, .slice false (([] : List T_api_Pair).map E_api_Pair.d), .str []]) (iop_build_struct (cs := [.int _ _, .bool _, .int _ _, .int _ _, .int _ _, .int _ _, .int _ _, .int _ _, .nils, .str _]) rfl rfl (by decide) Try.underlying44 ti44 pl44 rfl (.cons (sv (d := .int _ _) (agr hA rfl rfl)) .nil) rfl) (.agg (.cons (.refl _) (.cons (.refl _) (.cons (.refl _) (.cons (.refl _) (.cons (.refl _) (.cons (.refl _) (.cons (.refl _) (.cons (.refl _) (.cons (.nils _) (.cons (.refl _) .nil))))))))))))) ?_
            refine .cons (lop rfl rfl fun S hA => (iop_call (r := .bool _) rfl rfl (by decide) cl29 (.cons (sv (d := .agg [.int _ _, .bool _, .int _ _, .int _ _, .int _ _, .int _ _, .int _ _, .int _ _, .slice _ _, .str _]) (agr hA rfl rfl)) (.cons (sv (d := .agg [.int _ _, .bool _, .int _ _, .int _ _, .int _ _, .int _ _, .int _ _, .int _ _, .slice _ _, .str _]) (agr hA rfl rfl)) .nil)) rfl (p_frame_Same _ _ _ hx11))) ?_
            refine .cons (lop rfl rfl fun S hA => (iop_not rfl rfl (by decide) (sv (d := .bool _) (agr hA rfl rfl)))) ?_
            refine .cons (lop rfl rfl fun S hA => (iop_assign rfl rfl (by decide) (sv (d := .bool _) (agr hA rfl rfl)))) ?_
            exact .nil
          refine iwp_cond (b := _) rfl (fun hc12 => ?_) (fun hc12 => ?_)
          ·
            replace h := bif_t h hc12
            refine iwp_reg (ils_cons rfl (iop_assign rfl rfl (by decide) (sv (d := .int _ 4) rfl)) <|
              ils_end ?_)
            refine iwp_ret ?_
            refine blockQ_r ?_
            refine thenQ_r ?_
            obtain rfl := Option.some.inj h
            refine ⟨.inr rfl, (.cons (sv rfl) .nil)⟩
          ·
            replace h := bif_f h hc12
            refine iwp_skip ?_
            refine blockQ_n ?_
            refine thenQ_n ?_
            refine iwp_reg (ils_cons rfl (iop_assign rfl rfl (by decide) (sv (d := .int _ 0) rfl)) <|
              ils_end ?_)
            refine iwp_ret ?_
            obtain rfl := Option.some.inj h
            refine ⟨.inr rfl, (.cons (sv rfl) .nil)⟩

set_option maxRecDepth 8000 in
set_option maxHeartbeats 2000000 in
theorem p_frame_Get (a0 : (List UInt8)) (r : (T_frame_Frame × Int × Int)) (h : frame_Get a0 = some r) : PureAt Try.prog 16 [.str a0] (retD [.agg [.int .u8 r.1.Kind, .bool r.1.Flag, .int .i64 r.1.Stream, .int .i64 r.1.Offset, .int .i64 r.1.Dep, .int .i64 r.1.Weight, .int .i64 r.1.N, .int .i64 r.1.Code, .slice false (r.1.Pairs.map E_api_Pair.d), .str r.1.Data], .int .i64 r.2.1, .int .i64 r.2.2]) := by
  refine pure_of_iwp (rs := [.agg [.int .u8 r.1.Kind, .bool r.1.Flag, .int .i64 r.1.Stream, .int .i64 r.1.Offset, .int .i64 r.1.Dep, .int .i64 r.1.Weight, .int .i64 r.1.N, .int .i64 r.1.Code, .slice false (r.1.Pairs.map E_api_Pair.d), .str r.1.Data], .int .i64 r.2.1, .int .i64 r.2.2]) Try.func16 rfl Try.ntmps16 (nle rfl) rfl fun O hO => ?_
  show IWP _ _ _ _ ⟨[(0, .str a0)], []⟩ _
  unfold frame_Get at h
  refine iwp_reg (ils_cons rfl (iop_allocS (cs := [.int _ _, .bool _, .int _ _, .int _ _, .int _ _, .int _ _, .int _ _, .int _ _, .nils, .str _]) (cs' := [.int .u8 0, .bool false, .int .i64 0, .int .i64 0, .int .i64 0, .int .i64 0, .int .i64 0, .int .i64 0, .slice false (([] : List T_api_Pair).map E_api_Pair.d), .str []]) 0 rfl rfl (by decide) rfl ti44 rfl rfl (.cons (.refl _) (.cons (.refl _) (.cons (.refl _) (.cons (.refl _) (.cons (.refl _) (.cons (.refl _) (.cons (.refl _) (.cons (.refl _) (.cons (.nils _) (.cons (.refl _) .nil))))))))))) <|
    ils_cons rfl (iop_assign rfl rfl (by decide) (sv (d := .int _ 0) rfl)) <|
    ils_cons rfl (iop_assign rfl rfl (by decide) (sv (d := .int _ 0) rfl)) <|
    ils_end ?_)
  obtain ⟨x1, hx1, h⟩ := bno_e h
  refine iwp_reg (ils_cons rfl (iop_move rfl rfl (by decide) (sv (d := .str _) rfl)) <|
    ils_cons rfl (iop_call (r := .tuple [.agg [.int _ _, .bool _, .int _ _, .int _ _, .int _ _, .int _ _, .int _ _, .int _ _, .slice _ _, .str _], .int _ _, .int _ _, .int _ _]) rfl rfl (by decide) cl24 (.cons (sv (d := .str _) rfl) .nil) rfl (p_frame_head _ _ hx1)) <|
    ils_cons rfl (iop_move rfl rfl (by decide) (sv (d := .tuple [.agg [.int _ _, .bool _, .int _ _, .int _ _, .int _ _, .int _ _, .int _ _, .int _ _, .slice _ _, .str _], .int _ _, .int _ _, .int _ _]) rfl)) <|
    ils_cons rfl (iop_extract (d := .agg [.int _ _, .bool _, .int _ _, .int _ _, .int _ _, .int _ _, .int _ _, .int _ _, .slice _ _, .str _]) rfl rfl (by decide) (sv (d := .tuple [.agg [.int _ _, .bool _, .int _ _, .int _ _, .int _ _, .int _ _, .int _ _, .int _ _, .slice _ _, .str _], .int _ _, .int _ _, .int _ _]) rfl) rfl) <|
    ils_cons rfl (iop_extract (d := .int _ _) rfl rfl (by decide) (sv (d := .tuple [.agg [.int _ _, .bool _, .int _ _, .int _ _, .int _ _, .int _ _, .int _ _, .int _ _, .slice _ _, .str _], .int _ _, .int _ _, .int _ _]) rfl) rfl) <|
    ils_cons rfl (iop_extract (d := .int _ _) rfl rfl (by decide) (sv (d := .tuple [.agg [.int _ _, .bool _, .int _ _, .int _ _, .int _ _, .int _ _, .int _ _, .int _ _, .slice _ _, .str _], .int _ _, .int _ _, .int _ _]) rfl) rfl) <|
    ils_cons rfl (iop_extract (d := .int _ _) rfl rfl (by decide) (sv (d := .tuple [.agg [.int _ _, .bool _, .int _ _, .int _ _, .int _ _, .int _ _, .int _ _, .int _ _, .slice _ _, .str _], .int _ _, .int _ _, .int _ _]) rfl) rfl) <|
    ils_cons rfl (iop_allocS (cs := [.int _ _, .bool _, .int _ _, .int _ _, .int _ _, .int _ _, .int _ _, .int _ _, .nils, .str _]) (cs' := [.int .u8 0, .bool false, .int .i64 0, .int .i64 0, .int .i64 0, .int .i64 0, .int .i64 0, .int .i64 0, .slice false (([] : List T_api_Pair).map E_api_Pair.d), .str []]) 1 rfl rfl (by decide) rfl ti44 rfl rfl (.cons (.refl _) (.cons (.refl _) (.cons (.refl _) (.cons (.refl _) (.cons (.refl _) (.cons (.refl _) (.cons (.refl _) (.cons (.refl _) (.cons (.nils _) (.cons (.refl _) .nil))))))))))) <|
    ils_cons rfl (iop_store (ds' := [.int _ _, .bool _, .int _ _, .int _ _, .int _ _, .int _ _, .int _ _, .int _ _, .slice _ _, .str _]) rfl rfl ti44 (sv (d := .ref _ _) rfl) rfl (sv (d := .agg [.int _ _, .bool _, .int _ _, .int _ _, .int _ _, .int _ _, .int _ _, .int _ _, .slice _ _, .str _]) rfl) rfl rfl rfl (nle rfl) rfl) <|
    ils_cons rfl (iop_assign rfl rfl (by decide) (sv (d := .int _ _) rfl)) <|
    ils_cons rfl (iop_assign rfl rfl (by decide) (sv (d := .int _ _) rfl)) <|
    ils_cons rfl (iop_assign rfl rfl (by decide) (sv (d := .int _ _) rfl)) <|
    ils_end ?_)
  refine iwp_seq ?_
  obtain ⟨x2, hx2, h⟩ := bnd_e h
  refine iwp_reg (ils_cons rfl (iop_move rfl rfl (by decide) (sv (d := .int _ _) rfl)) <|
    ils_cons rfl (iop_cmpx rfl rfl (by decide) (sv (d := .int _ _) rfl) (sv (d := .int _ 0) rfl) rfl hx2) <|
    ils_end ?_)
  refine iwp_cond (b := _) rfl (fun hc3 => ?_) (fun hc3 => ?_)
  ·
    replace h := bif_t h hc3
    refine iwp_reg (ils_cons rfl (iop_sub (d' := .agg [.int .u8 0, .bool false, .int .i64 0, .int .i64 0, .int .i64 0, .int .i64 0, .int .i64 0, .int .i64 0, .slice false (([] : List T_api_Pair).map E_api_Pair.d), .str []]) (iop_build_struct (cs := [.int _ _, .bool _, .int _ _, .int _ _, .int _ _, .int _ _, .int _ _, .int _ _, .nils, .str _]) rfl rfl (by decide) Try.underlying44 ti44 pl44 rfl .nil rfl) (.agg (.cons (.refl _) (.cons (.refl _) (.cons (.refl _) (.cons (.refl _) (.cons (.refl _) (.cons (.refl _) (.cons (.refl _) (.cons (.refl _) (.cons (.nils _) (.cons (.refl _) .nil)))))))))))) <|
      ils_cons rfl (iop_move rfl rfl (by decide) (sv (d := .int _ _) rfl)) <|
      ils_cons rfl (iop_store (ds' := [.int _ _, .bool _, .int _ _, .int _ _, .int _ _, .int _ _, .int _ _, .int _ _, .slice false (([] : List T_api_Pair).map E_api_Pair.d), .str _]) rfl rfl ti44 (sv (d := .ref _ _) rfl) rfl (sv (d := .agg [.int _ _, .bool _, .int _ _, .int _ _, .int _ _, .int _ _, .int _ _, .int _ _, .slice _ _, .str _]) rfl) rfl rfl rfl (nle rfl) rfl) <|
      ils_cons rfl (iop_assign rfl rfl (by decide) (sv (d := .int _ 0) rfl)) <|
      ils_cons rfl (iop_assign rfl rfl (by decide) (sv (d := .int _ _) rfl)) <|
      ils_end ?_)
    refine iwp_ret ?_
    refine thenQ_r ?_
    obtain rfl := Option.some.inj h
    refine ⟨.inr rfl, (.cons (resv_a rfl rfl Try.underlying44 ag44 ti44 (by decide) (nle rfl) rfl) (.cons (sv rfl) (.cons (sv rfl) .nil)))⟩
  ·
    replace h := bif_f h hc3
    refine iwp_skip ?_
    refine thenQ_n ?_
    refine iwp_seq ?_
    obtain ⟨x4, hx4, h⟩ := bno_e h
    obtain ⟨x5, hx5, h⟩ := bno_e h
    refine iwp_reg (ils_cons rfl (iop_move rfl rfl (by decide) (sv (d := .str _) rfl)) <|
      ils_cons rfl (iop_move rfl rfl (by decide) (sv (d := .int _ _) rfl)) <|
      ils_cons rfl (iop_move rfl rfl (by decide) (sv (d := .int _ _) rfl)) <|
      ils_cons rfl (iop_cutS rfl rfl (by decide) Try.underlying9 (sv (d := .str _) rfl) ⟨_, (sv (d := .int _ _) rfl)⟩ ⟨_, (sv (d := .int _ _) rfl)⟩ hx4) <|
      ils_cons rfl (iop_callh2 (r' := .bool x5.1) (H1' := [(1, .blk 44 [.int .u8 x5.2.Kind, .bool x5.2.Flag, .int .i64 x5.2.Stream, .int .i64 x5.2.Offset, .int .i64 x5.2.Dep, .int .i64 x5.2.Weight, .int .i64 x5.2.N, .int .i64 x5.2.Code, .slice false (x5.2.Pairs.map E_api_Pair.d), .str x5.2.Data])]) 2 [1] rfl rfl (by decide) cl25 (.cons (sv (d := .ref _ _) rfl) (.cons (sv (d := .str _) rfl) .nil)) rfl rfl ⟨rfl, rfl, by decide, rfl, List.forall_mem_cons.2 ⟨⟨rfl, rfl, rfl, rfl⟩, List.forall_mem_nil _⟩⟩ (p_frame_Frame_read_h _ _ _ hx5) rfl rfl (List.forall_mem_cons.2 ⟨⟨rfl, rfl⟩, List.forall_mem_nil _⟩) rfl) <|
      ils_cons rfl (iop_not rfl rfl (by decide) (sv (d := .bool _) rfl)) <|
      ils_end ?_)
    refine iwp_cond (b := _) rfl (fun hc6 => ?_) (fun hc6 => ?_)
    ·
      replace h := bif_t h hc6
      refine iwp_reg (ils_cons rfl (iop_sub (d' := .agg [.int .u8 0, .bool false, .int .i64 0, .int .i64 0, .int .i64 0, .int .i64 0, .int .i64 0, .int .i64 0, .slice false (([] : List T_api_Pair).map E_api_Pair.d), .str []]) (iop_build_struct (cs := [.int _ _, .bool _, .int _ _, .int _ _, .int _ _, .int _ _, .int _ _, .int _ _, .nils, .str _]) rfl rfl (by decide) Try.underlying44 ti44 pl44 rfl .nil rfl) (.agg (.cons (.refl _) (.cons (.refl _) (.cons (.refl _) (.cons (.refl _) (.cons (.refl _) (.cons (.refl _) (.cons (.refl _) (.cons (.refl _) (.cons (.nils _) (.cons (.refl _) .nil)))))))))))) <|
        ils_cons rfl (iop_store (ds' := [.int _ _, .bool _, .int _ _, .int _ _, .int _ _, .int _ _, .int _ _, .int _ _, .slice false (([] : List T_api_Pair).map E_api_Pair.d), .str _]) rfl rfl ti44 (sv (d := .ref _ _) rfl) rfl (sv (d := .agg [.int _ _, .bool _, .int _ _, .int _ _, .int _ _, .int _ _, .int _ _, .int _ _, .slice _ _, .str _]) rfl) rfl rfl rfl (nle rfl) rfl) <|
        ils_cons rfl (iop_assign rfl rfl (by decide) (sv (d := .int _ 0) rfl)) <|
        ils_cons rfl (iop_assign rfl rfl (by decide) (sv (d := .int _ 4) rfl)) <|
        ils_end ?_)
      refine iwp_ret ?_
      refine thenQ_r ?_
      obtain rfl := Option.some.inj h
      refine ⟨.inr rfl, (.cons (resv_a rfl rfl Try.underlying44 ag44 ti44 (by decide) (nle rfl) rfl) (.cons (sv rfl) (.cons (sv rfl) .nil)))⟩
    ·
      replace h := bif_f h hc6
      refine iwp_skip ?_
      refine thenQ_n ?_
      refine iwp_seq ?_
      obtain ⟨x7, hx7, h⟩ := bno_e h
      refine iwp_reg (ils_cons rfl (iop_load_ra (cs := [.int _ _, .bool _, .int _ _, .int _ _, .int _ _, .int _ _, .int _ _, .int _ _, .slice _ _, .str _]) rfl rfl (by decide) Try.underlying44 ag44 ti44 (by decide) (sv (d := .ref _ _) rfl) rfl (nle rfl) rfl) <|
        ils_cons rfl (iop_call (r := .int _ _) rfl rfl (by decide) cl19 (.cons (sv (d := .agg [.int _ _, .bool _, .int _ _, .int _ _, .int _ _, .int _ _, .int _ _, .int _ _, .slice _ _, .str _]) rfl) .nil) rfl (p_frame_Check _ _ hx7)) <|
        ils_cons rfl (iop_assign rfl rfl (by decide) (sv (d := .int _ _) rfl)) <|
        ils_end ?_)
      obtain ⟨x8, hx8, h⟩ := bnd_e h
      refine iwp_reg (ils_cons rfl (iop_move rfl rfl (by decide) (sv (d := .int _ _) rfl)) <|
        ils_cons rfl (iop_cmpx rfl rfl (by decide) (sv (d := .int _ _) rfl) (sv (d := .int _ 0) rfl) rfl hx8) <|
        ils_end ?_)
      refine iwp_cond (b := _) rfl (fun hc9 => ?_) (fun hc9 => ?_)
      ·
        replace h := bif_t h hc9
        refine iwp_reg (ils_cons rfl (iop_sub (d' := .agg [.int .u8 0, .bool false, .int .i64 0, .int .i64 0, .int .i64 0, .int .i64 0, .int .i64 0, .int .i64 0, .slice false (([] : List T_api_Pair).map E_api_Pair.d), .str []]) (iop_build_struct (cs := [.int _ _, .bool _, .int _ _, .int _ _, .int _ _, .int _ _, .int _ _, .int _ _, .nils, .str _]) rfl rfl (by decide) Try.underlying44 ti44 pl44 rfl .nil rfl) (.agg (.cons (.refl _) (.cons (.refl _) (.cons (.refl _) (.cons (.refl _) (.cons (.refl _) (.cons (.refl _) (.cons (.refl _) (.cons (.refl _) (.cons (.nils _) (.cons (.refl _) .nil)))))))))))) <|
          ils_cons rfl (iop_move rfl rfl (by decide) (sv (d := .int _ _) rfl)) <|
          ils_cons rfl (iop_store (ds' := [.int _ _, .bool _, .int _ _, .int _ _, .int _ _, .int _ _, .int _ _, .int _ _, .slice false (([] : List T_api_Pair).map E_api_Pair.d), .str _]) rfl rfl ti44 (sv (d := .ref _ _) rfl) rfl (sv (d := .agg [.int _ _, .bool _, .int _ _, .int _ _, .int _ _, .int _ _, .int _ _, .int _ _, .slice _ _, .str _]) rfl) rfl rfl rfl (nle rfl) rfl) <|
          ils_cons rfl (iop_assign rfl rfl (by decide) (sv (d := .int _ 0) rfl)) <|
          ils_cons rfl (iop_assign rfl rfl (by decide) (sv (d := .int _ _) rfl)) <|
          ils_end ?_)
        refine iwp_ret ?_
        refine thenQ_r ?_
        obtain rfl := Option.some.inj h
        refine ⟨.inr rfl, (.cons (resv_a rfl rfl Try.underlying44 ag44 ti44 (by decide) (nle rfl) rfl) (.cons (sv rfl) (.cons (sv rfl) .nil)))⟩
      ·
        replace h := bif_f h hc9
        refine iwp_skip ?_
        refine thenQ_n ?_
        refine iwp_reg (ils_cons rfl (iop_load_ra (cs := [.int _ _, .bool _, .int _ _, .int _ _, .int _ _, .int _ _, .int _ _, .int _ _, .slice _ _, .str _]) rfl rfl (by decide) Try.underlying44 ag44 ti44 (by decide) (sv (d := .ref _ _) rfl) rfl (nle rfl) rfl) <|
          ils_cons rfl (iop_move rfl rfl (by decide) (sv (d := .int _ _) rfl)) <|
          ils_cons rfl (iop_store (ds' := [.int _ _, .bool _, .int _ _, .int _ _, .int _ _, .int _ _, .int _ _, .int _ _, .slice _ _, .str _]) rfl rfl ti44 (sv (d := .ref _ _) rfl) rfl (sv (d := .agg [.int _ _, .bool _, .int _ _, .int _ _, .int _ _, .int _ _, .int _ _, .int _ _, .slice _ _, .str _]) rfl) rfl rfl rfl (nle rfl) rfl) <|
          ils_cons rfl (iop_assign rfl rfl (by decide) (sv (d := .int _ _) rfl)) <|
          ils_cons rfl (iop_assign rfl rfl (by decide) (sv (d := .int _ 0) rfl)) <|
          ils_end ?_)
        refine iwp_ret ?_
        obtain rfl := Option.some.inj h
        refine ⟨.inr rfl, (.cons (resv_a rfl rfl Try.underlying44 ag44 ti44 (by decide) (nle rfl) rfl) (.cons (sv rfl) (.cons (sv rfl) .nil)))⟩

set_option maxRecDepth 8000 in
set_option maxHeartbeats 2000000 in
theorem p_deframe_Check (a0 : T_deframe_State) (r : Int) (h : deframe_Check a0 = some r) : PureAt Try.prog 8 [.agg [.str a0.Buf, .int .i64 a0.Bad, .int .i64 a0.Seen]] (.int .i64 r) := by
  refine pure_of_iwp (rs := [.int .i64 r]) Try.func8 rfl Try.ntmps8 (nle rfl) rfl fun O hO => ?_
  show IWP _ _ _ _ ⟨[(0, .agg [.str a0.Buf, .int .i64 a0.Bad, .int .i64 a0.Seen])], []⟩ _
  unfold deframe_Check at h
  refine iwp_reg (ils_cons rfl (iop_box' (cs := [.str _, .int _ _, .int _ _]) 0 rfl rfl (by decide) rfl (sv (d := .agg [.str _, .int _ _, .int _ _]) rfl) rfl rfl) <|
    ils_cons rfl (iop_assign rfl rfl (by decide) (sv (d := .int _ 0) rfl)) <|
    ils_end ?_)
  refine iwp_seq ?_
  obtain ⟨x1, hx1, h⟩ := bnd_e h
  obtain ⟨x2, hx2, h⟩ := bnd_e h
  obtain ⟨x3, hx3, h⟩ := bnd_e h
  refine iwp_reg (ils_cons rfl (iop_fieldAddr_ref rfl rfl (by decide) Try.underlying25 rfl ti23 (by decide) (sv (d := .ref _ _) rfl) (off' := 1) rfl) <|
    ils_cons rfl (iop_load_rs (d := .int _ _) rfl rfl (by decide) Try.underlying23 ag23 ti23 (by decide) (sv (d := .ref _ _) rfl) rfl (nle rfl) rfl) <|
    ils_cons rfl (iop_cmpx rfl rfl (by decide) (sv (d := .int _ _) rfl) (sv (d := .int _ 0) rfl) rfl hx1) <|
    ils_cons rfl (iop_move rfl rfl (by decide) (sv (d := .bool _) rfl)) <|
    ils_guard rfl rfl (.one rfl) rfl (by decide) (fun hb => (iop_fieldAddr_ref rfl rfl (by decide) Try.underlying25 rfl ti9 (by decide) (sv (d := .ref _ _) rfl) (off' := 0) rfl)) <|
    ils_guard rfl rfl (.one rfl) rfl (by decide) (fun hb => (iop_load_rs (d := .str _) rfl rfl (by decide) Try.underlying9 ag9 ti9 (by decide) (svc (d := .ref _ _) rfl hb) rfl (nle rfl) rfl)) <|
    ils_guard rfl rfl (.one rfl) rfl (by decide) (fun hb => (iop_strx rfl rfl (by decide) (svc (d := .str _) rfl hb) (sv (d := .str []) rfl) rfl hx2)) <|
    ils_cons rfl (iop_andx rfl rfl (by decide) (sv (d := .bool _) rfl) rfl rfl hx3) <|
    ils_end ?_)
  refine iwp_cond (b := _) rfl (fun hc4 => ?_) (fun hc4 => ?_)
  ·
    replace h := bif_t h hc4
    refine iwp_reg (ils_cons rfl (iop_assign rfl rfl (by decide) (sv (d := .int _ 4) rfl)) <|
      ils_end ?_)
    refine iwp_ret ?_
    refine thenQ_r ?_
    obtain rfl := Option.some.inj h
    refine ⟨.inr rfl, (.cons (sv rfl) .nil)⟩
  ·
    replace h := bif_f h hc4
    refine iwp_skip ?_
    refine thenQ_n ?_
    refine iwp_seq ?_
    obtain ⟨x5, hx5, h⟩ := bno_e h
    refine iwp_reg (ils_cons rfl (iop_fieldAddr_ref rfl rfl (by decide) Try.underlying25 rfl ti9 (by decide) (sv (d := .ref _ _) rfl) (off' := 0) rfl) <|
      ils_cons rfl (iop_load_rs (d := .str _) rfl rfl (by decide) Try.underlying9 ag9 ti9 (by decide) (sv (d := .ref _ _) rfl) rfl (nle rfl) rfl) <|
      ils_cons rfl (iop_call (r := .tuple [.agg [.int _ _, .bool _, .int _ _, .int _ _, .int _ _, .int _ _, .int _ _, .int _ _, .slice _ _, .str _], .int _ _, .int _ _]) rfl rfl (by decide) cl16 (.cons (sv (d := .str _) rfl) .nil) rfl (p_frame_Get _ _ hx5)) <|
      ils_cons rfl (iop_move rfl rfl (by decide) (sv (d := .tuple [.agg [.int _ _, .bool _, .int _ _, .int _ _, .int _ _, .int _ _, .int _ _, .int _ _, .slice _ _, .str _], .int _ _, .int _ _]) rfl)) <|
      ils_cons rfl (iop_extract (d := .agg [.int _ _, .bool _, .int _ _, .int _ _, .int _ _, .int _ _, .int _ _, .int _ _, .slice _ _, .str _]) rfl rfl (by decide) (sv (d := .tuple [.agg [.int _ _, .bool _, .int _ _, .int _ _, .int _ _, .int _ _, .int _ _, .int _ _, .slice _ _, .str _], .int _ _, .int _ _]) rfl) rfl) <|
      ils_cons rfl (iop_extract (d := .int _ _) rfl rfl (by decide) (sv (d := .tuple [.agg [.int _ _, .bool _, .int _ _, .int _ _, .int _ _, .int _ _, .int _ _, .int _ _, .slice _ _, .str _], .int _ _, .int _ _]) rfl) rfl) <|
      ils_cons rfl (iop_extract (d := .int _ _) rfl rfl (by decide) (sv (d := .tuple [.agg [.int _ _, .bool _, .int _ _, .int _ _, .int _ _, .int _ _, .int _ _, .int _ _, .slice _ _, .str _], .int _ _, .int _ _]) rfl) rfl) <|
      ils_cons rfl (iop_allocS (cs := [.int _ _, .bool _, .int _ _, .int _ _, .int _ _, .int _ _, .int _ _, .int _ _, .nils, .str _]) (cs' := [.int .u8 0, .bool false, .int .i64 0, .int .i64 0, .int .i64 0, .int .i64 0, .int .i64 0, .int .i64 0, .slice false (([] : List T_api_Pair).map E_api_Pair.d), .str []]) 1 rfl rfl (by decide) rfl ti44 rfl rfl (.cons (.refl _) (.cons (.refl _) (.cons (.refl _) (.cons (.refl _) (.cons (.refl _) (.cons (.refl _) (.cons (.refl _) (.cons (.refl _) (.cons (.nils _) (.cons (.refl _) .nil))))))))))) <|
      ils_cons rfl (iop_store (ds' := [.int _ _, .bool _, .int _ _, .int _ _, .int _ _, .int _ _, .int _ _, .int _ _, .slice _ _, .str _]) rfl rfl ti44 (sv (d := .ref _ _) rfl) rfl (sv (d := .agg [.int _ _, .bool _, .int _ _, .int _ _, .int _ _, .int _ _, .int _ _, .int _ _, .slice _ _, .str _]) rfl) rfl rfl rfl (nle rfl) rfl) <|
      ils_cons rfl (iop_assign rfl rfl (by decide) (sv (d := .int _ _) rfl)) <|
      ils_cons rfl (iop_assign rfl rfl (by decide) (sv (d := .int _ _) rfl)) <|
      ils_end ?_)
    obtain ⟨x6, hx6, h⟩ := bnd_e h
    obtain ⟨x7, hx7, h⟩ := bnd_e h
    obtain ⟨x8, hx8, h⟩ := bnd_e h
    refine iwp_reg (ils_cons rfl (iop_move rfl rfl (by decide) (sv (d := .int _ _) rfl)) <|
      ils_cons rfl (iop_cmpx rfl rfl (by decide) (sv (d := .int _ _) rfl) (sv (d := .int _ 3) rfl) rfl hx6) <|
      ils_cons rfl (iop_move rfl rfl (by decide) (sv (d := .bool _) rfl)) <|
      ils_guard rfl rfl (.one rfl) rfl (by decide) (fun hb => (iop_fieldAddr_ref rfl rfl (by decide) Try.underlying25 rfl ti9 (by decide) (sv (d := .ref _ _) rfl) (off' := 0) rfl)) <|
      ils_guard rfl rfl (.one rfl) rfl (by decide) (fun hb => (iop_load_rs (d := .str _) rfl rfl (by decide) Try.underlying9 ag9 ti9 (by decide) (svc (d := .ref _ _) rfl hb) rfl (nle rfl) rfl)) <|
      ils_guard rfl rfl (.one rfl) rfl (by decide) (fun hb => (iop_len_str rfl rfl (by decide) Try.underlying9 (svc (d := .str _) rfl hb) rfl)) <|
      ils_guard rfl rfl (.one rfl) rfl (by decide) (fun hb => (iop_cmpx rfl rfl (by decide) (svc (d := .int _ _) rfl hb) (sv (d := .int _ 80) rfl) rfl hx7)) <|
      ils_cons rfl (iop_orx rfl rfl (by decide) (sv (d := .bool _) rfl) rfl rfl hx8) <|
      ils_end ?_)
    refine iwp_cond (b := _) rfl (fun hc9 => ?_) (fun hc9 => ?_)
    ·
      replace h := bif_t h hc9
      refine iwp_reg (ils_cons rfl (iop_assign rfl rfl (by decide) (sv (d := .int _ 5) rfl)) <|
        ils_end ?_)
      refine iwp_ret ?_
      refine thenQ_r ?_
      obtain rfl := Option.some.inj h
      refine ⟨.inr rfl, (.cons (sv rfl) .nil)⟩
    ·
      replace h := bif_f h hc9
      refine iwp_skip ?_
      refine thenQ_n ?_
      refine iwp_seq ?_
      obtain ⟨x10, hx10, h⟩ := bnd_e h
      refine iwp_reg (ils_cons rfl (iop_fieldAddr_ref rfl rfl (by decide) Try.underlying25 rfl ti3 (by decide) (sv (d := .ref _ _) rfl) (off' := 2) rfl) <|
        ils_cons rfl (iop_load_rs (d := .int _ _) rfl rfl (by decide) Try.underlying3 ag3 ti3 (by decide) (sv (d := .ref _ _) rfl) rfl (nle rfl) rfl) <|
        ils_cons rfl (iop_cmpx rfl rfl (by decide) (sv (d := .int _ _) rfl) (sv (d := .int _ 0) rfl) rfl hx10) <|
        ils_end ?_)
      refine iwp_cond (b := _) rfl (fun hc11 => ?_) (fun hc11 => ?_)
      ·
        replace h := bif_t h hc11
        refine iwp_reg (ils_cons rfl (iop_assign rfl rfl (by decide) (sv (d := .int _ 8) rfl)) <|
          ils_end ?_)
        refine iwp_ret ?_
        refine thenQ_r ?_
        obtain rfl := Option.some.inj h
        refine ⟨.inr rfl, (.cons (sv rfl) .nil)⟩
      ·
        replace h := bif_f h hc11
        refine iwp_skip ?_
        refine thenQ_n ?_
        refine iwp_reg (ils_cons rfl (iop_assign rfl rfl (by decide) (sv (d := .int _ 0) rfl)) <|
          ils_end ?_)
        refine iwp_ret ?_
        obtain rfl := Option.some.inj h
        refine ⟨.inr rfl, (.cons (sv rfl) .nil)⟩

set_option maxRecDepth 8000 in
set_option maxHeartbeats 2000000 in
theorem p_deframe_Feed (a0 : T_deframe_State) (a1 : (List UInt8)) (r : (T_deframe_State × (List T_frame_Frame))) (h : deframe_Feed a0 a1 = some r) : PureAt Try.prog 7 [.agg [.str a0.Buf, .int .i64 a0.Bad, .int .i64 a0.Seen], .str a1] (retD [.agg [.str r.1.Buf, .int .i64 r.1.Bad, .int .i64 r.1.Seen], .slice false (r.2.map E_frame_Frame.d)]) := by
  refine pure_of_iwp (rs := [.agg [.str r.1.Buf, .int .i64 r.1.Bad, .int .i64 r.1.Seen], .slice false (r.2.map E_frame_Frame.d)]) Try.func7 rfl Try.ntmps7 (nle rfl) rfl fun O hO => ?_
  show IWP _ _ _ _ ⟨[(0, .agg [.str a0.Buf, .int .i64 a0.Bad, .int .i64 a0.Seen]), (1, .str a1)], []⟩ _
  unfold deframe_Feed at h
  refine iwp_reg (ils_cons rfl (iop_box' (cs := [.str _, .int _ _, .int _ _]) 0 rfl rfl (by decide) rfl (sv (d := .agg [.str _, .int _ _, .int _ _]) rfl) rfl rfl) <|
    ils_cons rfl (iop_allocS (cs := [.str _, .int _ _, .int _ _]) (cs' := [.str [], .int .i64 0, .int .i64 0]) 1 rfl rfl (by decide) rfl ti25 rfl rfl (.cons (.refl _) (.cons (.refl _) (.cons (.refl _) .nil)))) <|
    ils_cons rfl (iop_assign rfl rfl (by decide) (sv (d := .nils) rfl)) <|
    ils_end ?_)
  refine iwp_seq ?_
  obtain ⟨x1, hx1, h⟩ := bnd_e h
  obtain ⟨x2, hx2, h⟩ := bno_e h
  obtain ⟨x3, hx3, h⟩ := bnd_e h
  obtain ⟨x4, hx4, h⟩ := bnd_e h
  refine iwp_reg (ils_cons rfl (iop_fieldAddr_ref rfl rfl (by decide) Try.underlying25 rfl ti23 (by decide) (sv (d := .ref _ _) rfl) (off' := 1) rfl) <|
    ils_cons rfl (iop_load_rs (d := .int _ _) rfl rfl (by decide) Try.underlying23 ag23 ti23 (by decide) (sv (d := .ref _ _) rfl) rfl (nle rfl) rfl) <|
    ils_cons rfl (iop_cmpx rfl rfl (by decide) (sv (d := .int _ _) rfl) (sv (d := .int _ 0) rfl) rfl hx1) <|
    ils_cons rfl (iop_move rfl rfl (by decide) (sv (d := .bool _) rfl)) <|
    ils_guard rfl rfl (.one rfl) rfl (by decide) (fun hb => (iop_load_ra (cs := [.str _, .int _ _, .int _ _]) rfl rfl (by decide) Try.underlying25 ag25 ti25 (by decide) (sv (d := .ref _ _) rfl) rfl (nle rfl) rfl)) <|
    ils_guard rfl rfl (.one rfl) rfl (by decide) (fun hb => (iop_call (r := .int _ _) rfl rfl (by decide) cl8 (.cons (svc (d := .agg [.str a0.Buf, .int .i64 a0.Bad, .int .i64 a0.Seen]) rfl hb) .nil) rfl (p_deframe_Check _ _ (gd_t hx2 hb)))) <|
    ils_guard rfl rfl (.one rfl) rfl (by decide) (fun hb => (iop_cmpx rfl rfl (by decide) (svc (d := .int _ _) rfl hb) (sv (d := .int _ 0) rfl) rfl hx3)) <|
    ils_cons rfl (iop_orx rfl rfl (by decide) (sv (d := .bool _) rfl) rfl rfl hx4) <|
    ils_end ?_)
  refine iwp_cond (b := _) rfl (fun hc5 => ?_) (fun hc5 => ?_)
  ·
    replace h := bif_t h hc5
    refine iwp_reg (ils_cons rfl (iop_load_ra (cs := [.str _, .int _ _, .int _ _]) rfl rfl (by decide) Try.underlying25 ag25 ti25 (by decide) (sv (d := .ref _ _) rfl) rfl (nle rfl) rfl) <|
      ils_cons rfl (iop_store (ds' := [.str _, .int _ _, .int _ _]) rfl rfl ti25 (sv (d := .ref _ _) rfl) rfl (sv (d := .agg [.str _, .int _ _, .int _ _]) rfl) rfl rfl rfl (nle rfl) rfl) <|
      ils_cons rfl (iop_assign rfl rfl (by decide) (sv (d := .nils) rfl)) <|
      ils_end ?_)
    refine iwp_ret ?_
    refine thenQ_r ?_
    obtain rfl := Option.some.inj h
    refine ⟨.inr rfl, (.cons (resv_a rfl rfl Try.underlying25 ag25 ti25 (by decide) (nle rfl) rfl) (.cons (svn_of rfl rfl) .nil))⟩
  ·
    replace h := bif_f h hc5
    refine iwp_skip ?_
    refine thenQ_n ?_
    obtain ⟨x6, hx6, h⟩ := bno_e h
    refine iwp_reg (ils_cons rfl (iop_fieldAddr_ref rfl rfl (by decide) Try.underlying25 rfl ti9 (by decide) (sv (d := .ref _ _) rfl) (off' := 0) rfl) <|
      ils_cons rfl (iop_load_rs (d := .str _) rfl rfl (by decide) Try.underlying9 ag9 ti9 (by decide) (sv (d := .ref _ _) rfl) rfl (nle rfl) rfl) <|
      ils_cons rfl (iop_move rfl rfl (by decide) (sv (d := .str _) rfl)) <|
      ils_cons rfl (iop_catx rfl rfl (by decide) (sv (d := .str _) rfl) (sv (d := .str _) rfl) hx6) <|
      ils_cons rfl (iop_fieldAddr_ref rfl rfl (by decide) Try.underlying25 rfl ti9 (by decide) (sv (d := .ref _ _) rfl) (off' := 0) rfl) <|
      ils_cons rfl (iop_store (ds' := [.str _, .int _ _, .int _ _]) rfl rfl ti9 (sv (d := .ref _ _) rfl) rfl (sv (d := .str _) rfl) rfl rfl rfl (nle rfl) rfl) <|
      ils_end ?_)
    refine iwp_reg (ils_cons rfl (iop_allocS (cs := [.nils]) (cs' := [.nils]) 2 rfl rfl (by decide) rfl ti26 rfl rfl (.cons (.refl _) .nil)) <|
      ils_end ?_)
    refine iwp_join (α := (List UInt8) × Int × Int × (List T_frame_Frame)) (fun z => ⟨[(2, .ref 0 0), (4, .ref 1 0), (6, .ref 2 0)], [(0, .blk 25 [.str z.1, .int .i64 z.2.1, .int .i64 z.2.2.1]), (1, .blk 25 [.str [], .int .i64 0, .int .i64 0]), (2, .blk 26 [.gsl 33 E_frame_Frame.sz (z.2.2.2.map E_frame_Frame.d)]), (33, .tail 44 E_frame_Frame.sz z.2.2.2.length)]⟩) (fun z => deframe_Feed_J1 z.1 z.2.1 z.2.2.1 z.2.2.2 = some r) ?_ ?_
    ·
      refine iwp_reg (?_)
      refine ils_weak (S' := ⟨[(2, .ref 0 0), (4, .ref 1 0), (6, .ref 2 0)], [(0, .blk 25 [.str x6, .int .i64 a0.Bad, .int .i64 a0.Seen]), (1, .blk 25 [.str [], .int .i64 0, .int .i64 0]), (2, .blk 26 [.nils])]⟩) (fun i => i) ⟨(.cons (.same rfl rfl) (.cons (.same rfl rfl) (.cons (.same rfl rfl) .nil))), (.cons (.blk rfl rfl rfl) (.cons (.blk rfl rfl rfl) (.cons (.blk rfl rfl rfl) .nil))), nd_of [0, 1, 2] rfl (by decide), (fun i hi => by first | rfl | (show (if _ then _ else _) = _; (repeat' split) <;> omega))⟩ ?_
      refine ils_inl 1 3 rfl rfl rfl (by decide) cl15 Try.func15 rfl (.cons (sv (d := .ref _ _) rfl) .nil) Try.ntmps15 (nle rfl) rfl hO fun O1 hO1 => ?_
      show IWP _ _ _ _ ⟨[(0, .ref 0 0)], [(3, .kept 1 [.dead, .dead, .ref 0 0, .dead, .ref 1 0, .dead, .ref 2 0, .dead, .dead, .dead, .dead, .dead, .dead, .dead, .dead, .dead, .dead, .dead, .dead, .dead, .dead, .dead, .dead, .dead, .dead, .dead, .dead, .dead, .dead, .dead]), (0, .blk 25 [.str x6, .int .i64 a0.Bad, .int .i64 a0.Seen]), (1, .blk 25 [.str [], .int .i64 0, .int .i64 0]), (2, .blk 26 [.nils])]⟩ _
      refine iwp_reg (ils_cons rfl (iop_box' (cs := [.ref _ _]) 4 rfl rfl (by decide) rfl (sv (d := .ref _ _) rfl) rfl rfl) <|
        ils_cons rfl (iop_assign rfl rfl (by decide) (sv (d := .nilf) rfl)) <|
        ils_end ?_)
      refine iwp_reg (ils_cons rfl (iop_makeFunc rfl rfl (by decide) (.cons (sv (d := .ref _ _) rfl) .nil)) <|
        ils_cons rfl (iop_assign rfl rfl (by decide) (sv (d := .fn 23 [.ref _ _]) rfl)) <|
        ils_end ?_)
      refine iwp_ret ?_
      refine ⟨.inr rfl, 3, _, [.fn 23 [.ref 4 0]], (.cons (sv rfl) .nil), rfl, rfl, ⟨[(2, .ref 0 0), (4, .ref 1 0), (6, .ref 2 0), (22, .fn 23 [.ref 4 0])], [(0, .blk 25 [.str x6, .int .i64 a0.Bad, .int .i64 a0.Seen]), (1, .blk 25 [.str [], .int .i64 0, .int .i64 0]), (2, .blk 26 [.nils]), (4, .blk 60 [.ref 0 0])]⟩, (fun i => i), ⟨(.cons (.same rfl rfl) (.cons (.same rfl rfl) (.cons (.same rfl rfl) (.cons (.same rfl rfl) .nil)))), (.cons (.blk rfl rfl rfl) (.cons (.blk rfl rfl rfl) (.cons (.blk rfl rfl rfl) (.cons (.blk rfl rfl rfl) .nil)))), nd_of [0, 1, 2, 4] rfl (by decide), (fun i hi => by first | rfl | (show (if _ then _ else _) = _; (repeat' split) <;> omega))⟩, ?_⟩
      refine ils_end ?_
      refine iwp_block ?_
      refine iwp_weak (S' := ⟨[(2, .ref 0 0), (4, .ref 1 0), (6, .ref 2 0), (22, .fn 23 [.ref 4 0])], [(0, .blk 25 [.str x6, .int .i64 a0.Bad, .int .i64 a0.Seen]), (1, .blk 25 [.str [], .int .i64 0, .int .i64 0]), (2, .blk 26 [.nils]), (4, .blk 60 [.ref 0 0])]⟩) (fun i => i) ⟨(.cons (.same rfl rfl) (.cons (.same rfl rfl) (.cons (.same rfl rfl) (.cons (.same rfl rfl) .nil)))), (.cons (.blk rfl rfl rfl) (.cons (.blk rfl rfl rfl) (.cons (.blk rfl rfl rfl) (.cons (.blk rfl rfl rfl) .nil)))), nd_of [0, 1, 2, 4] rfl (by decide), (fun i hi => by first | rfl | (show (if _ then _ else _) = _; (repeat' split) <;> omega))⟩ ?_
      refine iwp_range 1 5 6 (sv (d := .fn 23 [.ref _ _]) rfl) cl23 Try.func23 rfl rfl Try.ntmps23 (nle rfl) rfl rfl hO fun O1 hO1 hlc1 => ?_
      show IWP _ _ _ _ ⟨[(0, .yld 5), (1, .ref 4 0)], [(6, .kept 1 [.dead, .dead, .ref 0 0, .dead, .ref 1 0, .dead, .ref 2 0, .dead, .dead, .dead, .dead, .dead, .dead, .dead, .dead, .dead, .dead, .dead, .dead, .dead, .dead, .dead, .fn 23 [.ref 4 0], .dead, .dead, .dead, .dead, .dead, .dead, .dead]), (5, .loop 1 [.dead, .dead, .ref 0 0, .dead, .ref 1 0, .dead, .ref 2 0, .dead, .dead, .dead, .dead, .dead, .dead, .dead, .dead, .dead, .dead, .dead, .dead, .dead, .dead, .dead, .fn 23 [.ref 4 0], .dead, .dead, .dead, .dead, .dead, .dead, .dead] .ready none), (0, .blk 25 [.str x6, .int .i64 a0.Bad, .int .i64 a0.Seen]), (1, .blk 25 [.str [], .int .i64 0, .int .i64 0]), (2, .blk 26 [.nils]), (4, .blk 60 [.ref 0 0])]⟩ _
      refine iwp_block ?_
      refine iwp_loopP (α := Nat × (List UInt8) × Int × (List T_frame_Frame)) (fun z => ⟨[(0, .yld 5), (1, .ref 4 0)], [(5, .loop 1 [.dead, .dead, .ref 0 0, .dead, .ref 1 0, .dead, .ref 2 0, .dead, .dead, .dead, .dead, .dead, .dead, .dead, .dead, .dead, .dead, .dead, .dead, .dead, .dead, .dead, .fn 23 [.ref 4 0], .dead, .dead, .dead, .dead, .dead, .dead, .dead] .ready none), (4, .blk 60 [.ref 0 0]), (6, .kept 1 [.dead, .dead, .ref 0 0, .dead, .ref 1 0, .dead, .ref 2 0, .dead, .dead, .dead, .dead, .dead, .dead, .dead, .dead, .dead, .dead, .dead, .dead, .dead, .dead, .dead, .fn 23 [.ref 4 0], .dead, .dead, .dead, .dead, .dead, .dead, .dead]), (0, .blk 25 [.str z.2.1, .int .i64 a0.Bad, .int .i64 z.2.2.1]), (1, .blk 25 [.str [], .int .i64 0, .int .i64 0]), (2, .blk 26 [.gsl 28 E_frame_Frame.sz (z.2.2.2.map E_frame_Frame.d)]), (28, .tail 44 E_frame_Frame.sz z.2.2.2.length)]⟩) (fun z => deframe_Feed_L2 a0 z.1 z.2.1 z.2.2.1 z.2.2.2 = some r) (fun z => z.1) (fuel, x6, a0.Seen, ([] : (List T_frame_Frame))) (fun i => if i = 28 then 85 else i) ⟨(.cons (.same rfl rfl) (.cons (.same rfl rfl) .nil)), (.cons (.loop rfl rfl rfl) (.cons (.blk rfl rfl rfl) (.cons (.kept rfl rfl rfl) (.cons (.blk rfl rfl rfl) (.cons (.blk rfl rfl rfl) (.cons (.sub rfl (.nilg .nil) rfl) (.cons (.nils rfl) .nil))))))), nd_of [5, 4, 6, 0, 1, 2, 85] rfl (by decide), (fun i hi => by first | rfl | (show (if _ then _ else _) = _; (repeat' split) <;> omega))⟩ ?_ ?_
      · exact h
      ·
        rintro ⟨n2, v50, v51, v52⟩ h
        cases n2 with
        | zero => exact absurd h (by unfold deframe_Feed_L2; exact nofun)
        | succ n2 =>
          unfold deframe_Feed_L2 at h
          refine iwp_block ?_
          obtain ⟨x62, hx62, h⟩ := bno_e h
          refine iwp_reg (ils_cons rfl (iop_load_rs (d := .ref _ _) rfl rfl (by decide) Try.underlying60 ag60 ti60 (by decide) (sv (d := .ref _ _) rfl) rfl (nle rfl) rfl) <|
            ils_cons rfl (iop_nilCheck_ref rfl rfl (by decide) (sv (d := .ref _ _) rfl)) <|
            ils_cons rfl (iop_fieldAddr_ref rfl rfl (by decide) Try.underlying25 rfl ti9 (by decide) (sv (d := .ref _ _) rfl) (off' := 0) rfl) <|
            ils_cons rfl (iop_load_rs (d := .str _) rfl rfl (by decide) Try.underlying9 ag9 ti9 (by decide) (sv (d := .ref _ _) rfl) rfl (nle rfl) rfl) <|
            ils_cons rfl (iop_call (r := .tuple [.agg [.int _ _, .bool _, .int _ _, .int _ _, .int _ _, .int _ _, .int _ _, .int _ _, .slice _ _, .str _], .int _ _, .int _ _]) rfl rfl (by decide) cl16 (.cons (sv (d := .str _) rfl) .nil) rfl (p_frame_Get _ _ hx62)) <|
            ils_cons rfl (iop_move rfl rfl (by decide) (sv (d := .tuple [.agg [.int _ _, .bool _, .int _ _, .int _ _, .int _ _, .int _ _, .int _ _, .int _ _, .slice _ _, .str _], .int _ _, .int _ _]) rfl)) <|
            ils_cons rfl (iop_extract (d := .agg [.int _ _, .bool _, .int _ _, .int _ _, .int _ _, .int _ _, .int _ _, .int _ _, .slice _ _, .str _]) rfl rfl (by decide) (sv (d := .tuple [.agg [.int _ _, .bool _, .int _ _, .int _ _, .int _ _, .int _ _, .int _ _, .int _ _, .slice _ _, .str _], .int _ _, .int _ _]) rfl) rfl) <|
            ils_cons rfl (iop_extract (d := .int _ _) rfl rfl (by decide) (sv (d := .tuple [.agg [.int _ _, .bool _, .int _ _, .int _ _, .int _ _, .int _ _, .int _ _, .int _ _, .slice _ _, .str _], .int _ _, .int _ _]) rfl) rfl) <|
            ils_cons rfl (iop_extract (d := .int _ _) rfl rfl (by decide) (sv (d := .tuple [.agg [.int _ _, .bool _, .int _ _, .int _ _, .int _ _, .int _ _, .int _ _, .int _ _, .slice _ _, .str _], .int _ _, .int _ _]) rfl) rfl) <|
            ils_cons rfl (iop_allocS (cs := [.int _ _, .bool _, .int _ _, .int _ _, .int _ _, .int _ _, .int _ _, .int _ _, .nils, .str _]) (cs' := [.int .u8 0, .bool false, .int .i64 0, .int .i64 0, .int .i64 0, .int .i64 0, .int .i64 0, .int .i64 0, .slice false (([] : List T_api_Pair).map E_api_Pair.d), .str []]) 29 rfl rfl (by decide) rfl ti44 rfl rfl (.cons (.refl _) (.cons (.refl _) (.cons (.refl _) (.cons (.refl _) (.cons (.refl _) (.cons (.refl _) (.cons (.refl _) (.cons (.refl _) (.cons (.nils _) (.cons (.refl _) .nil))))))))))) <|
            ils_cons rfl (iop_store (ds' := [.int _ _, .bool _, .int _ _, .int _ _, .int _ _, .int _ _, .int _ _, .int _ _, .slice _ _, .str _]) rfl rfl ti44 (sv (d := .ref _ _) rfl) rfl (sv (d := .agg [.int _ _, .bool _, .int _ _, .int _ _, .int _ _, .int _ _, .int _ _, .int _ _, .slice _ _, .str _]) rfl) rfl rfl rfl (nle rfl) rfl) <|
            ils_cons rfl (iop_assign rfl rfl (by decide) (sv (d := .int _ _) rfl)) <|
            ils_cons rfl (iop_assign rfl rfl (by decide) (sv (d := .int _ _) rfl)) <|
            ils_end ?_)
          refine iwp_reg (ils_cons rfl (iop_move rfl rfl (by decide) (sv (d := .int _ _) rfl)) <|
            ils_end ?_)
          refine iwp_block ?_
          obtain ⟨x63, hx63, h⟩ := bnd_e h
          refine iwp_reg (ils_cons rfl (iop_cmpx rfl rfl (by decide) (sv (d := .int _ _) rfl) (sv (d := .int _ 0) rfl) rfl hx63) <|
            ils_cons rfl (iop_assign rfl rfl (by decide) (sv (d := .bool _) rfl)) <|
            ils_end ?_)
          refine iwp_cond (b := _) rfl (fun hc64 => ?_) (fun hc64 => ?_)
          ·
            replace h := bif_t h hc64
            obtain ⟨x65, hx65, h⟩ := bno_e h
            refine iwp_drw rfl [⟨[1], [4], [(25, .ref 0 0)], []⟩,
              ⟨[1], [4], [(26, .ref 0 0)], []⟩,
              ⟨[26], [], [(27, .ref 0 0)], []⟩,
              ⟨[27], [], [(28, .ref 0 0)], []⟩,
              ⟨[28], [0], [(29, .str v50)], []⟩,
              ⟨[4], [], [(30, .int .i64 x62.2.1)], []⟩,
              ⟨[29, 30], [], [(31, .str x65)], []⟩,
              ⟨[25], [], [(32, .ref 0 0)], []⟩,
              ⟨[32], [], [(33, .ref 0 0)], []⟩,
              ⟨[31, 33], [0], [], [(0, .blk 25 [.str x65, .int .i64 a0.Bad, .int .i64 v51])]⟩] rfl ?_ (by kernel_rfl) ?_
            · refine .cons (lop rfl rfl fun S hA => (iop_load_rs (d := .ref _ _) rfl rfl (by decide) Try.underlying60 ag60 ti60 (by decide) (sv (d := .ref _ _) (agr hA rfl rfl)) (agi hA rfl rfl) (nle rfl) rfl)) ?_
              refine .cons (lop rfl rfl fun S hA => (iop_load_rs (d := .ref _ _) rfl rfl (by decide) Try.underlying60 ag60 ti60 (by decide) (sv (d := .ref _ _) (agr hA rfl rfl)) (agi hA rfl rfl) (nle rfl) rfl)) ?_
              refine .cons (lop rfl rfl fun S hA => (iop_nilCheck_ref rfl rfl (by decide) (sv (d := .ref _ _) (agr hA rfl rfl)))) ?_
              refine .cons (lop rfl rfl fun S hA => (iop_fieldAddr_ref rfl rfl (by decide) Try.underlying25 rfl ti9 (by decide) (sv (d := .ref _ _) (agr hA rfl rfl)) (off' := 0) rfl)) ?_
              refine .cons (lop rfl rfl fun S hA => (iop_load_rs (d := .str _) rfl rfl (by decide) Try.underlying9 ag9 ti9 (by decide) (sv (d := .ref _ _) (agr hA rfl rfl)) (agi hA rfl rfl) (nle rfl) rfl)) ?_
              refine .cons (lop rfl rfl fun S hA => (iop_move rfl rfl (by decide) (sv (d := .int _ _) (agr hA rfl rfl)))) ?_
              refine .cons (lop rfl rfl fun S hA => (iop_cutS rfl rfl (by decide) Try.underlying9 (sv (d := .str _) (agr hA rfl rfl)) ⟨_, (sv (d := .int _ _) (agr hA rfl rfl))⟩ rfl hx65)) ?_
              refine .cons (lop rfl rfl fun S hA => (iop_nilCheck_ref rfl rfl (by decide) (sv (d := .ref _ _) (agr hA rfl rfl)))) ?_
              refine .cons (lop rfl rfl fun S hA => (iop_fieldAddr_ref rfl rfl (by decide) Try.underlying25 rfl ti9 (by decide) (sv (d := .ref _ _) (agr hA rfl rfl)) (off' := 0) rfl)) ?_
              refine .cons (lop rfl rfl fun S hA => (iop_store (ds' := [.str _, .int _ _, .int _ _]) rfl rfl ti9 (sv (d := .ref _ _) (agr hA rfl rfl)) (agi hA rfl rfl) (sv (d := .str _) (agr hA rfl rfl)) rfl rfl rfl (nle rfl) rfl)) ?_
              exact .nil
            obtain ⟨x66, hx66, h⟩ := bnd_e h
            refine iwp_reg (ils_cons rfl (iop_load_rs (d := .ref _ _) rfl rfl (by decide) Try.underlying60 ag60 ti60 (by decide) (sv (d := .ref _ _) rfl) rfl (nle rfl) rfl) <|
              ils_cons rfl (iop_nilCheck_ref rfl rfl (by decide) (sv (d := .ref _ _) rfl)) <|
              ils_cons rfl (iop_fieldAddr_ref rfl rfl (by decide) Try.underlying25 rfl ti3 (by decide) (sv (d := .ref _ _) rfl) (off' := 2) rfl) <|
              ils_cons rfl (iop_load_rs (d := .int _ _) rfl rfl (by decide) Try.underlying3 ag3 ti3 (by decide) (sv (d := .ref _ _) rfl) rfl (nle rfl) rfl) <|
              ils_cons rfl (iop_intx rfl rfl (by decide) (sv (d := .int _ _) rfl) (sv (d := .int _ 1) rfl) rfl hx66) <|
              ils_cons rfl (iop_nilCheck_ref rfl rfl (by decide) (sv (d := .ref _ _) rfl)) <|
              ils_cons rfl (iop_fieldAddr_ref rfl rfl (by decide) Try.underlying25 rfl ti3 (by decide) (sv (d := .ref _ _) rfl) (off' := 2) rfl) <|
              ils_cons rfl (iop_store (ds' := [.str _, .int _ _, .int _ _]) rfl rfl ti3 (sv (d := .ref _ _) rfl) rfl (sv (d := .int _ _) rfl) rfl rfl rfl (nle rfl) rfl) <|
              ils_end ?_)
            refine iwp_reg (ils_cons rfl (iop_move rfl rfl (by decide) (sv (d := .yld _) rfl)) <|
              ils_cons rfl (iop_load_ra (cs := [.int _ _, .bool _, .int _ _, .int _ _, .int _ _, .int _ _, .int _ _, .int _ _, .slice _ _, .str _]) rfl rfl (by decide) Try.underlying44 ag44 ti44 (by decide) (sv (d := .ref _ _) rfl) rfl (nle rfl) rfl) <|
              ?_)
            refine ils_weak (S' := ⟨[(0, .yld 5), (1, .ref 4 0), (41, .yld 5), (42, .agg [.int .u8 x62.1.Kind, .bool x62.1.Flag, .int .i64 x62.1.Stream, .int .i64 x62.1.Offset, .int .i64 x62.1.Dep, .int .i64 x62.1.Weight, .int .i64 x62.1.N, .int .i64 x62.1.Code, .slice false (x62.1.Pairs.map E_api_Pair.d), .str x62.1.Data])], [(0, .blk 25 [.str x65, .int .i64 a0.Bad, .int .i64 x66]), (1, .blk 25 [.str [], .int .i64 0, .int .i64 0]), (2, .blk 26 [.gsl 28 E_frame_Frame.sz (v52.map E_frame_Frame.d)]), (4, .blk 60 [.ref 0 0]), (5, .loop 1 [.dead, .dead, .ref 0 0, .dead, .ref 1 0, .dead, .ref 2 0, .dead, .dead, .dead, .dead, .dead, .dead, .dead, .dead, .dead, .dead, .dead, .dead, .dead, .dead, .dead, .fn 23 [.ref 4 0], .dead, .dead, .dead, .dead, .dead, .dead, .dead] .ready none), (6, .kept 1 [.dead, .dead, .ref 0 0, .dead, .ref 1 0, .dead, .ref 2 0, .dead, .dead, .dead, .dead, .dead, .dead, .dead, .dead, .dead, .dead, .dead, .dead, .dead, .dead, .dead, .fn 23 [.ref 4 0], .dead, .dead, .dead, .dead, .dead, .dead, .dead]), (28, .tail 44 E_frame_Frame.sz v52.length)]⟩) (fun i => i) ⟨(.cons (.same rfl rfl) (.cons (.same rfl rfl) (.cons (.same rfl rfl) (.cons (.same rfl rfl) .nil)))), (.cons (.blk rfl rfl rfl) (.cons (.blk rfl rfl rfl) (.cons (.blk rfl rfl rfl) (.cons (.blk rfl rfl rfl) (.cons (.loop rfl rfl rfl) (.cons (.kept rfl rfl rfl) (.cons (.tail rfl) .nil))))))), nd_of [0, 1, 2, 4, 5, 6, 28] rfl (by decide), (fun i hi => by first | rfl | (show (if _ then _ else _) = _; (repeat' split) <;> omega))⟩ ?_
            refine ils_yield 2 5 30 rfl rfl rfl (by decide) rfl (.cons (sv (d := .agg [.int _ _, .bool _, .int _ _, .int _ _, .int _ _, .int _ _, .int _ _, .int _ _, .slice _ _, .str _]) rfl) .nil) rfl rfl rfl rfl rfl rfl hO1 hlc1 ⟨[(23, .agg [.int .u8 x62.1.Kind, .bool x62.1.Flag, .int .i64 x62.1.Stream, .int .i64 x62.1.Offset, .int .i64 x62.1.Dep, .int .i64 x62.1.Weight, .int .i64 x62.1.N, .int .i64 x62.1.Code, .slice false (x62.1.Pairs.map E_api_Pair.d), .str x62.1.Data]), (6, .ref 2 0)], [(0, .blk 25 [.str x65, .int .i64 a0.Bad, .int .i64 x66]), (1, .blk 25 [.str [], .int .i64 0, .int .i64 0]), (2, .blk 26 [.gsl 28 E_frame_Frame.sz (v52.map E_frame_Frame.d)]), (4, .blk 60 [.ref 0 0]), (5, .loop 1 [.dead, .dead, .ref 0 0, .dead, .ref 1 0, .dead, .ref 2 0, .dead, .dead, .dead, .dead, .dead, .dead, .dead, .dead, .dead, .dead, .dead, .dead, .dead, .dead, .dead, .fn 23 [.ref 4 0], .dead, .dead, .dead, .dead, .dead, .dead, .dead] .ready none), (6, .kept 1 [.dead, .dead, .ref 0 0, .dead, .ref 1 0, .dead, .ref 2 0, .dead, .dead, .dead, .dead, .dead, .dead, .dead, .dead, .dead, .dead, .dead, .dead, .dead, .dead, .dead, .fn 23 [.ref 4 0], .dead, .dead, .dead, .dead, .dead, .dead, .dead]), (28, .tail 44 E_frame_Frame.sz v52.length), (30, .kept 2 [.yld 5, .ref 4 0, .dead, .dead, .dead, .dead, .dead, .dead, .dead, .dead, .dead, .dead, .dead, .dead, .dead, .dead, .dead, .dead, .dead, .dead, .dead, .dead, .dead, .dead, .dead, .dead, .dead, .dead, .dead, .dead, .dead, .dead, .dead, .dead, .dead, .dead, .dead, .dead, .dead, .dead, .dead, .yld 5, .agg [.int .u8 x62.1.Kind, .bool x62.1.Flag, .int .i64 x62.1.Stream, .int .i64 x62.1.Offset, .int .i64 x62.1.Dep, .int .i64 x62.1.Weight, .int .i64 x62.1.N, .int .i64 x62.1.Code, .slice false (x62.1.Pairs.map E_api_Pair.d), .str x62.1.Data], .dead, .dead, .dead, .dead])]⟩ (fun i => i) ⟨(.cons (.same rfl rfl) (.cons (.same rfl rfl) .nil)), (.cons (.blk rfl rfl rfl) (.cons (.blk rfl rfl rfl) (.cons (.blk rfl rfl rfl) (.cons (.blk rfl rfl rfl) (.cons (.loop rfl rfl rfl) (.cons (.kept rfl rfl rfl) (.cons (.tail rfl) (.cons (.kept rfl rfl rfl) .nil)))))))), nd_of [0, 1, 2, 4, 5, 6, 28, 30] rfl (by decide), (fun i hi => by first | rfl | (show (if _ then _ else _) = _; (repeat' split) <;> omega))⟩ fun O2 => ?_
            refine iwp_region (ils_cons rfl (iop_allocS (cs := [.int _ _, .bool _, .int _ _, .int _ _, .int _ _, .int _ _, .int _ _, .int _ _, .nils, .str _]) (cs' := [.int .u8 0, .bool false, .int .i64 0, .int .i64 0, .int .i64 0, .int .i64 0, .int .i64 0, .int .i64 0, .slice false (([] : List T_api_Pair).map E_api_Pair.d), .str []]) 31 rfl rfl (by decide) rfl ti44 rfl rfl (.cons (.refl _) (.cons (.refl _) (.cons (.refl _) (.cons (.refl _) (.cons (.refl _) (.cons (.refl _) (.cons (.refl _) (.cons (.refl _) (.cons (.nils _) (.cons (.refl _) .nil))))))))))) <|
              ils_cons rfl (iop_store (ds' := [.int _ _, .bool _, .int _ _, .int _ _, .int _ _, .int _ _, .int _ _, .int _ _, .slice _ _, .str _]) rfl rfl ti44 (sv (d := .ref _ _) rfl) rfl (sv (d := .agg [.int _ _, .bool _, .int _ _, .int _ _, .int _ _, .int _ _, .int _ _, .int _ _, .slice _ _, .str _]) rfl) rfl rfl rfl (nle rfl) rfl) <|
              ils_nil ?_)
            refine ⟨rfl, 5, _, rfl, ⟨[(6, .ref 2 0), (7, .ref 31 0)], [(0, .blk 25 [.str x65, .int .i64 a0.Bad, .int .i64 x66]), (1, .blk 25 [.str [], .int .i64 0, .int .i64 0]), (2, .blk 26 [.gsl 28 E_frame_Frame.sz (v52.map E_frame_Frame.d)]), (4, .blk 60 [.ref 0 0]), (5, .loop 1 [.dead, .dead, .ref 0 0, .dead, .ref 1 0, .dead, .ref 2 0, .dead, .dead, .dead, .dead, .dead, .dead, .dead, .dead, .dead, .dead, .dead, .dead, .dead, .dead, .dead, .fn 23 [.ref 4 0], .dead, .dead, .dead, .dead, .dead, .dead, .dead] .busy none), (6, .kept 1 [.dead, .dead, .ref 0 0, .dead, .ref 1 0, .dead, .ref 2 0, .dead, .dead, .dead, .dead, .dead, .dead, .dead, .dead, .dead, .dead, .dead, .dead, .dead, .dead, .dead, .fn 23 [.ref 4 0], .dead, .dead, .dead, .dead, .dead, .dead, .dead]), (28, .tail 44 E_frame_Frame.sz v52.length), (30, .kept 2 [.yld 5, .ref 4 0, .dead, .dead, .dead, .dead, .dead, .dead, .dead, .dead, .dead, .dead, .dead, .dead, .dead, .dead, .dead, .dead, .dead, .dead, .dead, .dead, .dead, .dead, .dead, .dead, .dead, .dead, .dead, .dead, .dead, .dead, .dead, .dead, .dead, .dead, .dead, .dead, .dead, .dead, .dead, .yld 5, .agg [.int .u8 x62.1.Kind, .bool x62.1.Flag, .int .i64 x62.1.Stream, .int .i64 x62.1.Offset, .int .i64 x62.1.Dep, .int .i64 x62.1.Weight, .int .i64 x62.1.N, .int .i64 x62.1.Code, .slice false (x62.1.Pairs.map E_api_Pair.d), .str x62.1.Data], .dead, .dead, .dead, .dead]), (31, .blk 44 [.int .u8 x62.1.Kind, .bool x62.1.Flag, .int .i64 x62.1.Stream, .int .i64 x62.1.Offset, .int .i64 x62.1.Dep, .int .i64 x62.1.Weight, .int .i64 x62.1.N, .int .i64 x62.1.Code, .slice false (x62.1.Pairs.map E_api_Pair.d), .str x62.1.Data])]⟩, (fun i => i), ⟨(.cons (.same rfl rfl) (.cons (.same rfl rfl) .nil)), (.cons (.blk rfl rfl rfl) (.cons (.blk rfl rfl rfl) (.cons (.blk rfl rfl rfl) (.cons (.blk rfl rfl rfl) (.cons (.loop rfl rfl rfl) (.cons (.kept rfl rfl rfl) (.cons (.tail rfl) (.cons (.kept rfl rfl rfl) (.cons (.blk rfl rfl rfl) .nil))))))))), nd_of [0, 1, 2, 4, 5, 6, 28, 30, 31] rfl (by decide), (fun i hi => by first | rfl | (show (if _ then _ else _) = _; (repeat' split) <;> omega))⟩, ?_⟩
            refine iwp_block ?_
            obtain ⟨x67, hx67, h⟩ := bno_e h
            refine iwp_region (ils_cons rfl (iop_load_rs (d := .gsl _ _ _) rfl rfl (by decide) Try.underlying26 ag26 ti26 (by decide) (sv (d := .ref _ _) rfl) rfl (nle rfl) rfl) <|
              ils_cons rfl (iop_load_ra (cs := [.int _ _, .bool _, .int _ _, .int _ _, .int _ _, .int _ _, .int _ _, .int _ _, .slice _ _, .str _]) rfl rfl (by decide) Try.underlying44 ag44 ti44 (by decide) (sv (d := .ref _ _) rfl) rfl (nle rfl) rfl) <|
              ils_cons rfl (iop_bsT E_frame_Frame ([x62.1] : (List T_frame_Frame)) 32 rfl rfl (by decide) Try.underlying26 ti44 rfl (.cons (sv (d := .agg [.int _ _, .bool _, .int _ _, .int _ _, .int _ _, .int _ _, .int _ _, .int _ _, .slice _ _, .str _]) rfl) .nil) rfl rfl (by decide)) <|
              ils_cons rfl (iop_appT E_frame_Frame 33 rfl rfl (by decide) Try.underlying26 ti44 rfl rfl rfl rfl (svg rfl) hx67) <|
              ils_cons rfl (iop_store (ds' := [.gsl _ _ _]) rfl rfl ti26 (sv (d := .ref _ _) rfl) rfl (sv (d := .gsl _ _ _) rfl) rfl rfl rfl (nle rfl) rfl) <|
              ils_nil ?_)
            refine blockQ_n ?_
            refine ⟨5, 30, _, _, none, rfl, rfl, rfl, rfl, (by decide), ⟨[(0, .yld 5), (1, .ref 4 0), (43, .bool true)], [(0, .blk 25 [.str x65, .int .i64 a0.Bad, .int .i64 x66]), (1, .blk 25 [.str [], .int .i64 0, .int .i64 0]), (2, .blk 26 [.gsl 33 E_frame_Frame.sz (x67.map E_frame_Frame.d)]), (4, .blk 60 [.ref 0 0]), (5, .loop 1 [.dead, .dead, .ref 0 0, .dead, .ref 1 0, .dead, .ref 2 0, .dead, .dead, .dead, .dead, .dead, .dead, .dead, .dead, .dead, .dead, .dead, .dead, .dead, .dead, .dead, .fn 23 [.ref 4 0], .dead, .dead, .dead, .dead, .dead, .dead, .dead] .ready none), (6, .kept 1 [.dead, .dead, .ref 0 0, .dead, .ref 1 0, .dead, .ref 2 0, .dead, .dead, .dead, .dead, .dead, .dead, .dead, .dead, .dead, .dead, .dead, .dead, .dead, .dead, .dead, .fn 23 [.ref 4 0], .dead, .dead, .dead, .dead, .dead, .dead, .dead]), (33, .tail 44 E_frame_Frame.sz x67.length)]⟩, (fun i => i), ⟨(.cons (.same rfl rfl) (.cons (.same rfl rfl) (.cons (.same rfl rfl) .nil))), (.cons (.blk rfl rfl rfl) (.cons (.blk rfl rfl rfl) (.cons (.blk rfl rfl rfl) (.cons (.blk rfl rfl rfl) (.cons (.loop rfl rfl rfl) (.cons (.kept rfl rfl rfl) (.cons (.tail rfl) .nil))))))), nd_of [0, 1, 2, 4, 5, 6, 33] rfl (by decide), (fun i hi => by first | rfl | (show (if _ then _ else _) = _; (repeat' split) <;> omega))⟩, ?_⟩
            refine ils_cons rfl (iop_not rfl rfl (by decide) (sv (d := .bool _) rfl)) <|
              ils_end ?_
            refine iwp_cond (b := _) rfl (fun hc68 => ?_) (fun hc68 => ?_)
            ·
              replace h := bif_t h hc68
              refine iwp_ret ?_
              refine blockQ_r ?_
              refine blockQ_r ?_
              refine thenQ_r ?_
              refine blockQ_r ?_
              refine ⟨.inr rfl, 5, 6, _, _, _, _, rfl, (by simp), rfl, rfl, ⟨[(2, .ref 0 0), (4, .ref 1 0), (6, .ref 2 0)], [(0, .blk 25 [.str x65, .int .i64 a0.Bad, .int .i64 x66]), (1, .blk 25 [.str [], .int .i64 0, .int .i64 0]), (2, .blk 26 [.gsl 33 E_frame_Frame.sz (x67.map E_frame_Frame.d)]), (33, .tail 44 E_frame_Frame.sz x67.length)]⟩, (fun i => i), ⟨(.cons (.same rfl rfl) (.cons (.same rfl rfl) (.cons (.same rfl rfl) .nil))), (.cons (.blk rfl rfl rfl) (.cons (.blk rfl rfl rfl) (.cons (.blk rfl rfl rfl) (.cons (.tail rfl) .nil)))), nd_of [0, 1, 2, 33] rfl (by decide), (fun i hi => by first | rfl | (show (if _ then _ else _) = _; (repeat' split) <;> omega))⟩, ?_⟩
              refine blockQ_n ?_
              refine thenQ_n ⟨(x65, a0.Bad, x66, x67), (fun i => i), ⟨(.cons (.same rfl rfl) (.cons (.same rfl rfl) (.cons (.same rfl rfl) .nil))), (.cons (.blk rfl rfl rfl) (.cons (.blk rfl rfl rfl) (.cons (.blk rfl rfl rfl) (.cons (.tail rfl) .nil)))), nd_of [0, 1, 2, 33] rfl (by decide), (fun i hi => by first | rfl | (show (if _ then _ else _) = _; (repeat' split) <;> omega))⟩, ?_⟩
              exact h
            ·
              replace h := bif_f h hc68
              refine iwp_skip ?_
              refine blockQ_n ?_
              refine blockQ_n ?_
              refine thenQ_n ⟨(n2, x65, x66, x67), (fun i => if i = 28 then 33 else i), ⟨(.cons (.same rfl rfl) (.cons (.same rfl rfl) .nil)), (.cons (.loop rfl rfl rfl) (.cons (.blk rfl rfl rfl) (.cons (.kept rfl rfl rfl) (.cons (.blk rfl rfl rfl) (.cons (.blk rfl rfl rfl) (.cons (.blk rfl rfl rfl) (.cons (.tail rfl) .nil))))))), nd_of [5, 4, 6, 0, 1, 2, 33] rfl (by decide), (fun i hi => by first | rfl | (show (if _ then _ else _) = _; (repeat' split) <;> omega))⟩, ?_, ?_⟩
              exact h
              exact Nat.lt_succ_self _
          ·
            replace h := bif_f h hc64
            obtain ⟨x69, hx69, h⟩ := bnd_e h
            refine iwp_reg (ils_cons rfl (iop_cmpx rfl rfl (by decide) (sv (d := .int _ _) rfl) (sv (d := .int _ 3) rfl) rfl hx69) <|
              ils_cons rfl (iop_assign rfl rfl (by decide) (sv (d := .bool _) rfl)) <|
              ils_end ?_)
            refine iwp_cond (b := _) rfl (fun hc70 => ?_) (fun hc70 => ?_)
            ·
              replace h := bif_t h hc70
              refine iwp_ret ?_
              refine blockQ_r ?_
              refine blockQ_r ?_
              refine thenQ_r ?_
              refine blockQ_r ?_
              refine ⟨.inr rfl, 5, 6, _, _, _, _, rfl, (by simp), rfl, rfl, ⟨[(2, .ref 0 0), (4, .ref 1 0), (6, .ref 2 0)], [(0, .blk 25 [.str v50, .int .i64 a0.Bad, .int .i64 v51]), (1, .blk 25 [.str [], .int .i64 0, .int .i64 0]), (2, .blk 26 [.gsl 28 E_frame_Frame.sz (v52.map E_frame_Frame.d)]), (28, .tail 44 E_frame_Frame.sz v52.length)]⟩, (fun i => i), ⟨(.cons (.same rfl rfl) (.cons (.same rfl rfl) (.cons (.same rfl rfl) .nil))), (.cons (.blk rfl rfl rfl) (.cons (.blk rfl rfl rfl) (.cons (.blk rfl rfl rfl) (.cons (.tail rfl) .nil)))), nd_of [0, 1, 2, 28] rfl (by decide), (fun i hi => by first | rfl | (show (if _ then _ else _) = _; (repeat' split) <;> omega))⟩, ?_⟩
              refine blockQ_n ?_
              refine thenQ_n ⟨(v50, a0.Bad, v51, v52), (fun i => if i = 33 then 28 else i), ⟨(.cons (.same rfl rfl) (.cons (.same rfl rfl) (.cons (.same rfl rfl) .nil))), (.cons (.blk rfl rfl rfl) (.cons (.blk rfl rfl rfl) (.cons (.blk rfl rfl rfl) (.cons (.tail rfl) .nil)))), nd_of [0, 1, 2, 28] rfl (by decide), (fun i hi => by first | rfl | (show (if _ then _ else _) = _; (repeat' split) <;> omega))⟩, ?_⟩
              exact h
            ·
              replace h := bif_f h hc70
              refine iwp_drw rfl [⟨[1], [4], [(16, .ref 0 0)], []⟩,
                ⟨[1], [4], [(17, .ref 0 0)], []⟩,
                ⟨[5], [], [(18, .int .i64 x62.2.2)], []⟩,
                ⟨[16], [], [(19, .ref 0 0)], []⟩,
                ⟨[19], [], [(20, .ref 0 0)], []⟩,
                ⟨[20], [0], [], [(0, .blk 25 [.str [], .int .i64 a0.Bad, .int .i64 v51])]⟩,
                ⟨[17], [], [(21, .ref 0 0)], []⟩,
                ⟨[21], [], [(22, .ref 0 1)], []⟩,
                ⟨[18, 22], [0], [], [(0, .blk 25 [.str [], .int .i64 x62.2.2, .int .i64 v51])]⟩] rfl ?_ (by kernel_rfl) ?_
              · refine .cons (lop rfl rfl fun S hA => (iop_load_rs (d := .ref _ _) rfl rfl (by decide) Try.underlying60 ag60 ti60 (by decide) (sv (d := .ref _ _) (agr hA rfl rfl)) (agi hA rfl rfl) (nle rfl) rfl)) ?_
                refine .cons (lop rfl rfl fun S hA => (iop_load_rs (d := .ref _ _) rfl rfl (by decide) Try.underlying60 ag60 ti60 (by decide) (sv (d := .ref _ _) (agr hA rfl rfl)) (agi hA rfl rfl) (nle rfl) rfl)) ?_
                refine .cons (lop rfl rfl fun S hA => (iop_move rfl rfl (by decide) (sv (d := .int _ _) (agr hA rfl rfl)))) ?_
                refine .cons (lop rfl rfl fun S hA => (iop_nilCheck_ref rfl rfl (by decide) (sv (d := .ref _ _) (agr hA rfl rfl)))) ?_
                refine .cons (lop rfl rfl fun S hA => (iop_fieldAddr_ref rfl rfl (by decide) Try.underlying25 rfl ti9 (by decide) (sv (d := .ref _ _) (agr hA rfl rfl)) (off' := 0) rfl)) ?_
                refine .cons (lop rfl rfl fun S hA => (iop_store (ds' := [.str _, .int _ _, .int _ _]) rfl rfl ti9 (sv (d := .ref _ _) (agr hA rfl rfl)) (agi hA rfl rfl) (sv (d := .str []) rfl) rfl rfl rfl (nle rfl) rfl)) ?_
                refine .cons (lop rfl rfl fun S hA => (iop_nilCheck_ref rfl rfl (by decide) (sv (d := .ref _ _) (agr hA rfl rfl)))) ?_
                refine .cons (lop rfl rfl fun S hA => (iop_fieldAddr_ref rfl rfl (by decide) Try.underlying25 rfl ti23 (by decide) (sv (d := .ref _ _) (agr hA rfl rfl)) (off' := 1) rfl)) ?_
                refine .cons (lop rfl rfl fun S hA => (iop_store (ds' := [.str _, .int _ _, .int _ _]) rfl rfl ti23 (sv (d := .ref _ _) (agr hA rfl rfl)) (agi hA rfl rfl) (sv (d := .int _ _) (agr hA rfl rfl)) rfl rfl rfl (nle rfl) rfl)) ?_
                exact .nil
              refine iwp_ret ?_
              refine blockQ_r ?_
              refine blockQ_r ?_
              refine thenQ_r ?_
              refine blockQ_r ?_
              refine ⟨.inr rfl, 5, 6, _, _, _, _, rfl, (by simp), rfl, rfl, ⟨[(2, .ref 0 0), (4, .ref 1 0), (6, .ref 2 0)], [(0, .blk 25 [.str [], .int .i64 x62.2.2, .int .i64 v51]), (1, .blk 25 [.str [], .int .i64 0, .int .i64 0]), (2, .blk 26 [.gsl 28 E_frame_Frame.sz (v52.map E_frame_Frame.d)]), (28, .tail 44 E_frame_Frame.sz v52.length)]⟩, (fun i => i), ⟨(.cons (.same rfl rfl) (.cons (.same rfl rfl) (.cons (.same rfl rfl) .nil))), (.cons (.blk rfl rfl rfl) (.cons (.blk rfl rfl rfl) (.cons (.blk rfl rfl rfl) (.cons (.tail rfl) .nil)))), nd_of [0, 1, 2, 28] rfl (by decide), (fun i hi => by first | rfl | (show (if _ then _ else _) = _; (repeat' split) <;> omega))⟩, ?_⟩
              refine blockQ_n ?_
              refine thenQ_n ⟨(([] : (List UInt8)), x62.2.2, v51, v52), (fun i => if i = 33 then 28 else i), ⟨(.cons (.same rfl rfl) (.cons (.same rfl rfl) (.cons (.same rfl rfl) .nil))), (.cons (.blk rfl rfl rfl) (.cons (.blk rfl rfl rfl) (.cons (.blk rfl rfl rfl) (.cons (.tail rfl) .nil)))), nd_of [0, 1, 2, 28] rfl (by decide), (fun i hi => by first | rfl | (show (if _ then _ else _) = _; (repeat' split) <;> omega))⟩, ?_⟩
              exact h
    ·
      rintro ⟨v37, v38, v39, v40⟩ h
      unfold deframe_Feed_J1 at h
      refine iwp_drw rfl [⟨[2], [0], [(28, .agg [.str v37, .int .i64 v38, .int .i64 v39])], []⟩,
        ⟨[6], [2], [(29, .gsl 33 E_frame_Frame.sz (v40.map E_frame_Frame.d))], []⟩,
        ⟨[4, 28], [1], [], [(1, .blk 25 [.str v37, .int .i64 v38, .int .i64 v39])]⟩,
        ⟨[29], [], [(5, .gsl 33 E_frame_Frame.sz (v40.map E_frame_Frame.d))], []⟩] rfl ?_ (by kernel_rfl) ?_
      · refine .cons (lop rfl rfl fun S hA => (iop_load_ra (cs := [.str _, .int _ _, .int _ _]) rfl rfl (by decide) Try.underlying25 ag25 ti25 (by decide) (sv (d := .ref _ _) (agr hA rfl rfl)) (agi hA rfl rfl) (nle rfl) rfl)) ?_
        refine .cons (lop rfl rfl fun S hA => (iop_load_rs (d := .gsl _ _ _) rfl rfl (by decide) Try.underlying26 ag26 ti26 (by decide) (sv (d := .ref _ _) (agr hA rfl rfl)) (agi hA rfl rfl) (nle rfl) rfl)) ?_
        refine .cons (lop rfl rfl fun S hA => (iop_store (ds' := [.str _, .int _ _, .int _ _]) rfl rfl ti25 (sv (d := .ref _ _) (agr hA rfl rfl)) (agi hA rfl rfl) (sv (d := .agg [.str _, .int _ _, .int _ _]) (agr hA rfl rfl)) rfl rfl rfl (nle rfl) rfl)) ?_
        refine .cons (lop rfl rfl fun S hA => (iop_assign rfl rfl (by decide) (sv (d := .gsl _ _ _) (agr hA rfl rfl)))) ?_
        exact .nil
      refine iwp_ret ?_
      obtain rfl := Option.some.inj h
      refine ⟨.inr rfl, (.cons (resv_a rfl rfl Try.underlying25 ag25 ti25 (by decide) (nle rfl) rfl) (.cons (svg_of rfl rfl) .nil))⟩

set_option maxRecDepth 8000 in
set_option maxHeartbeats 2000000 in
theorem p_deframe_All (a0 : (List UInt8)) (r : ((List T_frame_Frame) × Int)) (h : deframe_All a0 = some r) : PureAt Try.prog 12 [.str a0] (retD [.slice false (r.1.map E_frame_Frame.d), .int .i64 r.2]) := by
  refine pure_of_iwp (rs := [.slice false (r.1.map E_frame_Frame.d), .int .i64 r.2]) Try.func12 rfl Try.ntmps12 (nle rfl) rfl fun O hO => ?_
  show IWP _ _ _ _ ⟨[(0, .str a0)], []⟩ _
  unfold deframe_All at h
  refine iwp_reg (ils_cons rfl (iop_assign rfl rfl (by decide) (sv (d := .nils) rfl)) <|
    ils_cons rfl (iop_assign rfl rfl (by decide) (sv (d := .int _ 0) rfl)) <|
    ils_end ?_)
  obtain ⟨x1, hx1, h⟩ := bno_e h
  refine iwp_reg (ils_cons rfl (iop_build_struct (cs := [.str _, .int _ _, .int _ _]) rfl rfl (by decide) Try.underlying25 ti25 pl25 rfl .nil rfl) <|
    ils_cons rfl (iop_move rfl rfl (by decide) (sv (d := .str _) rfl)) <|
    ils_cons rfl (iop_call (r := .tuple [.agg [.str _, .int _ _, .int _ _], .slice _ _]) rfl rfl (by decide) cl7 (.cons (sv (d := .agg [.str _, .int _ _, .int _ _]) rfl) (.cons (sv (d := .str _) rfl) .nil)) rfl (p_deframe_Feed _ _ _ hx1)) <|
    ils_cons rfl (iop_move rfl rfl (by decide) (sv (d := .tuple [.agg [.str _, .int _ _, .int _ _], .slice _ _]) rfl)) <|
    ils_cons rfl (iop_extract (d := .agg [.str _, .int _ _, .int _ _]) rfl rfl (by decide) (sv (d := .tuple [.agg [.str _, .int _ _, .int _ _], .slice _ _]) rfl) rfl) <|
    ils_cons rfl (iop_extract (d := .slice _ _) rfl rfl (by decide) (sv (d := .tuple [.agg [.str _, .int _ _, .int _ _], .slice _ _]) rfl) rfl) <|
    ils_cons rfl (iop_allocS (cs := [.str _, .int _ _, .int _ _]) (cs' := [.str [], .int .i64 0, .int .i64 0]) 0 rfl rfl (by decide) rfl ti25 rfl rfl (.cons (.refl _) (.cons (.refl _) (.cons (.refl _) .nil)))) <|
    ils_cons rfl (iop_store (ds' := [.str _, .int _ _, .int _ _]) rfl rfl ti25 (sv (d := .ref _ _) rfl) rfl (sv (d := .agg [.str _, .int _ _, .int _ _]) rfl) rfl rfl rfl (nle rfl) rfl) <|
    ils_cons rfl (iop_assign rfl rfl (by decide) (sv (d := .slice _ _) rfl)) <|
    ils_end ?_)
  refine iwp_seq ?_
  obtain ⟨x2, hx2, h⟩ := bnd_e h
  refine iwp_reg (ils_cons rfl (iop_fieldAddr_ref rfl rfl (by decide) Try.underlying25 rfl ti23 (by decide) (sv (d := .ref _ _) rfl) (off' := 1) rfl) <|
    ils_cons rfl (iop_load_rs (d := .int _ _) rfl rfl (by decide) Try.underlying23 ag23 ti23 (by decide) (sv (d := .ref _ _) rfl) rfl (nle rfl) rfl) <|
    ils_cons rfl (iop_cmpx rfl rfl (by decide) (sv (d := .int _ _) rfl) (sv (d := .int _ 0) rfl) rfl hx2) <|
    ils_end ?_)
  refine iwp_cond (b := _) rfl (fun hc3 => ?_) (fun hc3 => ?_)
  ·
    replace h := bif_t h hc3
    refine iwp_drw rfl [⟨[4], [], [(15, .ref 0 1)], []⟩,
      ⟨[15], [0], [(16, .int .i64 x1.1.Bad)], []⟩,
      ⟨[], [], [(2, .nils)], []⟩,
      ⟨[16], [], [(3, .int .i64 x1.1.Bad)], []⟩] rfl ?_ (by kernel_rfl) ?_
    · refine .cons (lop rfl rfl fun S hA => (iop_fieldAddr_ref rfl rfl (by decide) Try.underlying25 rfl ti23 (by decide) (sv (d := .ref _ _) (agr hA rfl rfl)) (off' := 1) rfl)) ?_
      refine .cons (lop rfl rfl fun S hA => (iop_load_rs (d := .int _ _) rfl rfl (by decide) Try.underlying23 ag23 ti23 (by decide) (sv (d := .ref _ _) (agr hA rfl rfl)) (agi hA rfl rfl) (nle rfl) rfl)) ?_
      refine .cons (lop rfl rfl fun S hA => (iop_assign rfl rfl (by decide) (sv (d := .nils) rfl))) ?_
      refine .cons (lop rfl rfl fun S hA => (iop_assign rfl rfl (by decide) (sv (d := .int _ _) (agr hA rfl rfl)))) ?_
      exact .nil
    refine iwp_ret ?_
    refine thenQ_r ?_
    obtain rfl := Option.some.inj h
    refine ⟨.inr rfl, (.cons (svn_of rfl rfl) (.cons (sv rfl) .nil))⟩
  ·
    replace h := bif_f h hc3
    refine iwp_skip ?_
    refine thenQ_n ?_
    refine iwp_seq ?_
    obtain ⟨x4, hx4, h⟩ := bnd_e h
    refine iwp_reg (ils_cons rfl (iop_fieldAddr_ref rfl rfl (by decide) Try.underlying25 rfl ti9 (by decide) (sv (d := .ref _ _) rfl) (off' := 0) rfl) <|
      ils_cons rfl (iop_load_rs (d := .str _) rfl rfl (by decide) Try.underlying9 ag9 ti9 (by decide) (sv (d := .ref _ _) rfl) rfl (nle rfl) rfl) <|
      ils_cons rfl (iop_strx rfl rfl (by decide) (sv (d := .str _) rfl) (sv (d := .str []) rfl) rfl hx4) <|
      ils_end ?_)
    refine iwp_cond (b := _) rfl (fun hc5 => ?_) (fun hc5 => ?_)
    ·
      replace h := bif_t h hc5
      refine iwp_reg (ils_cons rfl (iop_assign rfl rfl (by decide) (sv (d := .nils) rfl)) <|
        ils_cons rfl (iop_assign rfl rfl (by decide) (sv (d := .int _ 3) rfl)) <|
        ils_end ?_)
      refine iwp_ret ?_
      refine thenQ_r ?_
      obtain rfl := Option.some.inj h
      refine ⟨.inr rfl, (.cons (svn_of rfl rfl) (.cons (sv rfl) .nil))⟩
    ·
      replace h := bif_f h hc5
      refine iwp_skip ?_
      refine thenQ_n ?_
      refine iwp_reg (ils_cons rfl (iop_move rfl rfl (by decide) (sv (d := .slice _ _) rfl)) <|
        ils_cons rfl (iop_assign rfl rfl (by decide) (sv (d := .slice _ _) rfl)) <|
        ils_cons rfl (iop_assign rfl rfl (by decide) (sv (d := .int _ 0) rfl)) <|
        ils_end ?_)
      refine iwp_ret ?_
      obtain rfl := Option.some.inj h
      refine ⟨.inr rfl, (.cons (sv rfl) (.cons (sv rfl) .nil))⟩
end Go.Proofs.Ytlmdafogcphbbaa
