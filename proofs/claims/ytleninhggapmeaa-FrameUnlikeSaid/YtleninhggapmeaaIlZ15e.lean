/-
  FrameUnlike: for every input the law returns true, and its arguments read behind the call as they did. No condition.
-/
import Derived.Test.YtleninhggapmeaaRows
import Derived.Test.YtleninhggapmeaaIlA15C3
import Derived.Test.YtleninhggapmeaaIlP7
import Derived.Test.YtleninhggapmeaaIlO
set_option linter.all false
set_option linter.unusedVariables false
open Go Go.IL Go.Fn Go.Proofs Go.ChangeShapes Go.WideShapes Go.ChangeAt Go.RowKit
namespace Go.Proofs.Ytleninhggapmeaa.lawFrameUnlike
def wf_api_Pair (x : T_api_Pair) : Prop := (IntKind.min .i64 ≤ x.ID ∧ x.ID ≤ IntKind.max .i64) ∧ (IntKind.min .i64 ≤ x.Value ∧ x.Value ≤ IntKind.max .i64)
def wf_frame_Frame (x : T_frame_Frame) : Prop := (IntKind.min .u8 ≤ x.Kind ∧ x.Kind ≤ IntKind.max .u8) ∧ True ∧ (IntKind.min .i64 ≤ x.Stream ∧ x.Stream ≤ IntKind.max .i64) ∧ (IntKind.min .i64 ≤ x.Offset ∧ x.Offset ≤ IntKind.max .i64) ∧ (IntKind.min .i64 ≤ x.Dep ∧ x.Dep ≤ IntKind.max .i64) ∧ (IntKind.min .i64 ≤ x.Weight ∧ x.Weight ≤ IntKind.max .i64) ∧ (IntKind.min .i64 ≤ x.N ∧ x.N ≤ IntKind.max .i64) ∧ (IntKind.min .i64 ≤ x.Code ∧ x.Code ≤ IntKind.max .i64) ∧ (x.Pairs.length ≤ 9223372036854775807 ∧ ∀ y ∈ x.Pairs, wf_api_Pair y) ∧ x.Data.length ≤ 9223372036854775807
set_option maxRecDepth 100000 in
theorem op_api_Pair_77 {sp : Bool} : OpD Try.prog sp 77 (fun ds => ∃ x : T_api_Pair, ds = (E_api_Pair.d x).cells ∧ wf_api_Pair x) := by
  refine OpD.to (opd_struct (fs := fieldsOf Try.prog 77) Try.underlying77 (by kernel_rfl) (by kernel_rfl) (.cons (opd_int Try.underlying3) (.cons (opd_int Try.underlying3) .nil))) ?_
  rintro ds ⟨_, _, rfl, ⟨x0, rfl, h0⟩, ⟨_, _, rfl, ⟨x1, rfl, h1⟩, rfl⟩⟩
  exact ⟨⟨x0, x1⟩, rfl, ⟨h0, h1⟩⟩
set_option maxRecDepth 100000 in
theorem op_frame_Frame_40 : OpD Try.prog true 40 (fun ds => ∃ x : T_frame_Frame, ds = (E_frame_Frame.d x).cells ∧ wf_frame_Frame x) := by
  refine OpD.to (opd_struct (fs := fieldsOf Try.prog 40) Try.underlying40 (by kernel_rfl) (by kernel_rfl) (.cons (opd_int Try.underlying5) (.cons (opd_bool Try.underlying4) (.cons (opd_int Try.underlying3) (.cons (opd_int Try.underlying3) (.cons (opd_int Try.underlying3) (.cons (opd_int Try.underlying3) (.cons (opd_int Try.underlying3) (.cons (opd_int Try.underlying3) (.cons (opd_slice (f := E_api_Pair) (wf := fun y => wf_api_Pair y) Try.underlying38 (by kernel_rfl) op_api_Pair_77) (.cons (opd_str Try.underlying9) .nil))))))))))) ?_
  rintro ds ⟨_, _, rfl, ⟨x0, rfl, h0⟩, ⟨_, _, rfl, ⟨x1, rfl⟩, ⟨_, _, rfl, ⟨x2, rfl, h2⟩, ⟨_, _, rfl, ⟨x3, rfl, h3⟩, ⟨_, _, rfl, ⟨x4, rfl, h4⟩, ⟨_, _, rfl, ⟨x5, rfl, h5⟩, ⟨_, _, rfl, ⟨x6, rfl, h6⟩, ⟨_, _, rfl, ⟨x7, rfl, h7⟩, ⟨_, _, rfl, ⟨x8, rfl, h8⟩, ⟨_, _, rfl, ⟨x9, rfl, h9⟩, rfl⟩⟩⟩⟩⟩⟩⟩⟩⟩⟩
  exact ⟨⟨x0, x1, x2, x3, x4, x5, x6, x7, x8, x9⟩, rfl, ⟨h0, trivial, h2, h3, h4, h5, h6, h7, h8, h9⟩⟩
theorem own : ownKnob Try.prog.godebug = none := by kernel_rfl
theorem laidOut : laidOutB Try.prog = true := by kernel_rfl
theorem pars : ∀ t ∈ Try.f9.params.toList, Try.prog.readableRec t = true ∧ t < Try.prog.types.size := of_decide_eq_true (by kernel_rfl)
set_option maxRecDepth 100000 in
theorem lifted (os : Os) (started : os.Started) (H : Type) (enc : TypeId × Value → H) :
    ReturnsInHanded {} Try.checked os 9 .any (Rows.frameUnlikeSpec.pre6 enc Try.prog Try.f9 Rows.frameUnlikeRow.domain false) (Rows.frameUnlikeSpec.post enc Try.prog Try.f9 false true false false) := by
  refine returnsInHanded_of_change (C := Try.checked) own started (by kernel_rfl) Try.func9
    (ChangeSpec.witness6 (enc := enc) (C := Try.checked) false ⟨#[], #[.agg #[.int .u8 0, .bool false, .int .i64 0, .int .i64 0, .int .i64 0, .int .i64 0, .int .i64 0, .int .i64 0, .slice none 0 0, .string ⟨#[]⟩], .agg #[.int .u8 0, .bool false, .int .i64 0, .int .i64 0, .int .i64 0, .int .i64 0, .int .i64 0, .int .i64 0, .slice none 0 0, .string ⟨#[]⟩]], []⟩ 8 (by kernel_rfl) (by kernel_rfl) (by kernel_rfl) (by kernel_rfl)) ?_
  intro W base args ds gs before hval0 hW hcnd _
  have hval : ∀ (j : Nat) t v, Try.f9.params[j]? = some t → args[j]? = some v → Value.okWide Try.prog W .any base t v := hval0
  have hW' := hW
  obtain ⟨p, q, hA0, hV, hbef, hfz, hnd⟩ := hW
  have hA : DataW.TrodAll enc Try.prog W 0 (fun _ => true) true Try.f9.params.toList args.toList ds p := hA0
  rw [Try.params9] at hA hval
  obtain ⟨v0, vs0, d0, ds0, p0, q0, hargs, rfl, rfl, g0, r0⟩ := trodAll_cons hA
  obtain ⟨v1, vs1, d1, ds1, p1, q1, rfl, rfl, rfl, g1, r1⟩ := trodAll_cons r0
  obtain ⟨rfl, rfl, rfl⟩ := trodAll_nil r1
  obtain ⟨rfl, rfl⟩ := trodVars_none hV
  obtain rfl : args = #[v0, v1] := by cases args; simp_all
  obtain ⟨q0, hr0, x0, rfl, w0⟩ := opd_val (op_frame_Frame_40) (hval 0 40 v0 rfl rfl) g0
  obtain ⟨q1, hr1, x1, rfl, w1⟩ := opd_val (op_frame_Frame_40) (hval 1 40 v1 rfl rfl) g1
  have hplain : sennitlaw15_FrameUnlike x0 x1 = some true := frameUnlike (by have h : IntKind.min .u8 ≤ x0.Kind ∧ x0.Kind ≤ IntKind.max .u8 := w0.1; simpa [IntKind.min, IntKind.max, IntKind.signed, IntKind.bits] using h) (by have h : IntKind.min .u8 ≤ x1.Kind ∧ x1.Kind ≤ IntKind.max .u8 := w1.1; simpa [IntKind.min, IntKind.max, IntKind.signed, IntKind.bits] using h)
  refine (p_sennitlaw15_FrameUnlike _ _ true hplain (Env.none W) [v0, v1] (fun b o h => h.elim) (.cons (rd_arg_agg (hval 0 40 v0 rfl rfl) (by kernel_rfl) hr0) (.cons (rd_arg_agg (hval 1 40 v1 rfl rfl) (by kernel_rfl) hr1) (.nil _)))).mono ?_
  rintro e W' ⟨v, rfl, hb, hr⟩
  obtain rfl := rd_bool hr
  exact ⟨_, rfl, law_post laidOut pars rfl rfl Try.underlying4 rfl hW' hb⟩
theorem proved : Rows.FrameUnlikeSaid :=
  OpenClaim.holds_of_wide 9 Try.f9 rfl rfl rfl rfl rfl rfl rfl ⟨rfl, rfl, rfl, rfl, rfl⟩ rfl rfl rfl rfl rfl (by kernel_rfl) Try.func9 (by kernel_rfl)
    (of_decide_eq_true (by kernel_rfl)) (by unfold Func.isWrapper; first | (rw [if_pos (by decide +kernel)]; kernel_rfl) | (rw [if_neg (by decide +kernel)]; exact ⟨rfl, rfl⟩))
    (fun os started H enc _ => lifted os started H enc)
end Go.Proofs.Ytleninhggapmeaa.lawFrameUnlike
