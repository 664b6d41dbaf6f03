/-
  DeframeBack: for every input the law returns true, and its arguments read behind the call as they did. No condition.
-/
import Derived.Test.YtlmdafogcphbbaaRows
import Derived.Test.YtlmdafogcphbbaaIlA16C2
import Derived.Test.YtlmdafogcphbbaaIlP10
import Derived.Test.YtlmdafogcphbbaaIlO
set_option linter.all false
set_option linter.unusedVariables false
open Go Go.IL Go.Fn Go.Proofs Go.ChangeShapes Go.WideShapes Go.ChangeAt Go.RowKit
namespace Go.Proofs.Ytlmdafogcphbbaa.lawDeframeBack
def wf_api_Pair (x : T_api_Pair) : Prop := (IntKind.min .i64 ≤ x.ID ∧ x.ID ≤ IntKind.max .i64) ∧ (IntKind.min .i64 ≤ x.Value ∧ x.Value ≤ IntKind.max .i64)
def wf_frame_Frame (x : T_frame_Frame) : Prop := (IntKind.min .u8 ≤ x.Kind ∧ x.Kind ≤ IntKind.max .u8) ∧ True ∧ (IntKind.min .i64 ≤ x.Stream ∧ x.Stream ≤ IntKind.max .i64) ∧ (IntKind.min .i64 ≤ x.Offset ∧ x.Offset ≤ IntKind.max .i64) ∧ (IntKind.min .i64 ≤ x.Dep ∧ x.Dep ≤ IntKind.max .i64) ∧ (IntKind.min .i64 ≤ x.Weight ∧ x.Weight ≤ IntKind.max .i64) ∧ (IntKind.min .i64 ≤ x.N ∧ x.N ≤ IntKind.max .i64) ∧ (IntKind.min .i64 ≤ x.Code ∧ x.Code ≤ IntKind.max .i64) ∧ (x.Pairs.length ≤ 9223372036854775807 ∧ ∀ y ∈ x.Pairs, wf_api_Pair y) ∧ x.Data.length ≤ 9223372036854775807
set_option maxRecDepth 100000 in
theorem op_api_Pair_66 {sp : Bool} : OpD Try.prog sp 66 (fun ds => ∃ x : T_api_Pair, ds = (E_api_Pair.d x).cells ∧ wf_api_Pair x) := by
  refine OpD.to (opd_struct (fs := fieldsOf Try.prog 66) Try.underlying66 (by kernel_rfl) (by kernel_rfl) (.cons (opd_int Try.underlying3) (.cons (opd_int Try.underlying3) .nil))) ?_
  rintro ds ⟨_, _, rfl, ⟨x0, rfl, h0⟩, ⟨_, _, rfl, ⟨x1, rfl, h1⟩, rfl⟩⟩
  exact ⟨⟨x0, x1⟩, rfl, ⟨h0, h1⟩⟩
set_option maxRecDepth 100000 in
theorem op_frame_Frame_41 {sp : Bool} : OpD Try.prog sp 41 (fun ds => ∃ x : T_frame_Frame, ds = (E_frame_Frame.d x).cells ∧ wf_frame_Frame x) := by
  refine OpD.to (opd_struct (fs := fieldsOf Try.prog 41) Try.underlying41 (by kernel_rfl) (by kernel_rfl) (.cons (opd_int Try.underlying5) (.cons (opd_bool Try.underlying4) (.cons (opd_int Try.underlying3) (.cons (opd_int Try.underlying3) (.cons (opd_int Try.underlying3) (.cons (opd_int Try.underlying3) (.cons (opd_int Try.underlying3) (.cons (opd_int Try.underlying3) (.cons (opd_slice (f := E_api_Pair) (wf := fun y => wf_api_Pair y) Try.underlying39 (by kernel_rfl) op_api_Pair_66) (.cons (opd_str Try.underlying9) .nil))))))))))) ?_
  rintro ds ⟨_, _, rfl, ⟨x0, rfl, h0⟩, ⟨_, _, rfl, ⟨x1, rfl⟩, ⟨_, _, rfl, ⟨x2, rfl, h2⟩, ⟨_, _, rfl, ⟨x3, rfl, h3⟩, ⟨_, _, rfl, ⟨x4, rfl, h4⟩, ⟨_, _, rfl, ⟨x5, rfl, h5⟩, ⟨_, _, rfl, ⟨x6, rfl, h6⟩, ⟨_, _, rfl, ⟨x7, rfl, h7⟩, ⟨_, _, rfl, ⟨x8, rfl, h8⟩, ⟨_, _, rfl, ⟨x9, rfl, h9⟩, rfl⟩⟩⟩⟩⟩⟩⟩⟩⟩⟩
  exact ⟨⟨x0, x1, x2, x3, x4, x5, x6, x7, x8, x9⟩, rfl, ⟨h0, trivial, h2, h3, h4, h5, h6, h7, h8, h9⟩⟩
theorem own : ownKnob Try.prog.godebug = none := by kernel_rfl
theorem laidOut : laidOutB Try.prog = true := by kernel_rfl
theorem pars : ∀ t ∈ Try.f5.params.toList, Try.prog.readableRec t = true ∧ t < Try.prog.types.size := of_decide_eq_true (by kernel_rfl)
set_option maxRecDepth 100000 in
theorem lifted (os : Os) (started : os.Started) (H : Type) (enc : TypeId × Value → H) :
    ReturnsInHanded {} Try.checked os 5 .any (Rows.deframeBackSpec.pre6 enc Try.prog Try.f5 Rows.deframeBackRow.domain false) (Rows.deframeBackSpec.post enc Try.prog Try.f5 false true false false) := by
  refine returnsInHanded_of_change (C := Try.checked) own started (by kernel_rfl) Try.func5
    (ChangeSpec.witness6 (enc := enc) (C := Try.checked) false ⟨#[], #[.slice none 0 0], []⟩ 8 (by kernel_rfl) (by kernel_rfl) (by kernel_rfl) (by kernel_rfl)) ?_
  intro W base args ds gs before hval0 hW hcnd _
  have hval : ∀ (j : Nat) t v, Try.f5.params[j]? = some t → args[j]? = some v → Value.okWide Try.prog W .any base t v := hval0
  have hW' := hW
  obtain ⟨p, q, hA0, hV, hbef, hfz, hnd⟩ := hW
  have hA : DataW.TrodAll enc Try.prog W 0 (fun _ => true) true Try.f5.params.toList args.toList ds p := hA0
  rw [Try.params5] at hA hval
  obtain ⟨v0, vs0, d0, ds0, p0, q0, hargs, rfl, rfl, g0, r0⟩ := trodAll_cons hA
  obtain ⟨rfl, rfl, rfl⟩ := trodAll_nil r0
  obtain ⟨rfl, rfl⟩ := trodVars_none hV
  obtain rfl : args = #[v0] := by cases args; simp_all
  obtain ⟨q0, hr0, x0, rfl, w0⟩ := opd_val (opd_slice (f := E_frame_Frame) (wf := fun y => wf_frame_Frame y) Try.underlying31 (by kernel_rfl) op_frame_Frame_41) (hval 0 31 v0 rfl rfl) g0
  have hplain : sennitlaw16_DeframeBack x0 = some true := deframeBack (fun f hf => by have h : IntKind.min .u8 ≤ f.Kind ∧ f.Kind ≤ IntKind.max .u8 := (w0.2 f hf).1; simpa [IntKind.min, IntKind.max, IntKind.signed, IntKind.bits] using h)
  refine (p_sennitlaw16_DeframeBack _ true hplain (Env.none W) [v0] (fun b o h => h.elim) (.cons (rd_arg_one (hval 0 31 v0 rfl rfl) (by kernel_rfl) hr0) (.nil _))).mono ?_
  rintro e W' ⟨v, rfl, hb, hr⟩
  obtain rfl := rd_bool hr
  exact ⟨_, rfl, law_post laidOut pars rfl rfl Try.underlying4 rfl hW' hb⟩
theorem proved : Rows.DeframeBackSaid :=
  OpenClaim.holds_of_wide 5 Try.f5 rfl rfl rfl rfl rfl rfl rfl ⟨rfl, rfl, rfl, rfl, rfl⟩ rfl rfl rfl rfl rfl (by kernel_rfl) Try.func5 (by kernel_rfl)
    (of_decide_eq_true (by kernel_rfl)) (by unfold Func.isWrapper; first | (rw [if_pos (by decide +kernel)]; kernel_rfl) | (rw [if_neg (by decide +kernel)]; exact ⟨rfl, rfl⟩))
    (fun os started H enc _ => lifted os started H enc)
end Go.Proofs.Ytlmdafogcphbbaa.lawDeframeBack
