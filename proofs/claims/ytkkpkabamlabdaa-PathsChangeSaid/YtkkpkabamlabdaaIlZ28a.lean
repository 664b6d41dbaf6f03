/-
  PathsChange: for every input the law returns true, and its arguments read behind the call as they did. No condition.
-/
import Derived.Test.YtkkpkabamlabdaaRows
import Derived.Test.YtkkpkabamlabdaaIlA28aC3
import Derived.Test.YtkkpkabamlabdaaIlP36
import Derived.Test.YtkkpkabamlabdaaIlO2
set_option linter.all false
set_option linter.unusedVariables false
open Go Go.IL Go.Fn Go.Proofs Go.ChangeShapes Go.WideShapes Go.ChangeAt Go.RowKit
namespace Go.Proofs.Ytkkpkabamlabdaa.lawPathsChange
def wf_paths_Line (x : T_paths_Line) : Prop := True ∧ True ∧ (IntKind.min .i64 ≤ x.Bytes ∧ x.Bytes ≤ IntKind.max .i64) ∧ (IntKind.min .i64 ≤ x.Ticks ∧ x.Ticks ≤ IntKind.max .i64)
def wf_anon24 (x : T_anon24) : Prop := wf_paths_Line x.c0 ∧ wf_paths_Line x.c1 ∧ wf_paths_Line x.c2 ∧ wf_paths_Line x.c3
def wf_paths_Bind (x : T_paths_Bind) : Prop := (IntKind.min .i64 ≤ x.Stream ∧ x.Stream ≤ IntKind.max .i64) ∧ (IntKind.min .i64 ≤ x.Path ∧ x.Path ≤ IntKind.max .i64)
def wf_paths_State (x : T_paths_State) : Prop := wf_anon24 x.Lines ∧ (IntKind.min .i64 ≤ x.Pinned ∧ x.Pinned ≤ IntKind.max .i64) ∧ (x.Binds.length ≤ 9223372036854775807 ∧ ∀ y ∈ x.Binds, wf_paths_Bind y)
set_option maxRecDepth 100000 in
theorem op_paths_Line_23 {sp : Bool} : OpD Try.prog sp 23 (fun ds => ∃ x : T_paths_Line, ds = (E_paths_Line.d x).cells ∧ wf_paths_Line x) := by
  refine OpD.to (opd_struct (fs := fieldsOf Try.prog 23) Try.underlying23 (by kernel_rfl) (by kernel_rfl) (.cons (opd_bool Try.underlying4) (.cons (opd_bool Try.underlying4) (.cons (opd_int Try.underlying3) (.cons (opd_int Try.underlying3) .nil))))) ?_
  rintro ds ⟨_, _, rfl, ⟨x0, rfl⟩, ⟨_, _, rfl, ⟨x1, rfl⟩, ⟨_, _, rfl, ⟨x2, rfl, h2⟩, ⟨_, _, rfl, ⟨x3, rfl, h3⟩, rfl⟩⟩⟩⟩
  exact ⟨⟨x0, x1, x2, x3⟩, rfl, ⟨trivial, trivial, h2, h3⟩⟩
set_option maxRecDepth 100000 in
theorem op_anon24_24 {sp : Bool} : OpD Try.prog sp 24 (fun ds => ∃ x : T_anon24, ds = (E_anon24.d x).cells ∧ wf_anon24 x) := by
  refine OpD.to (opd_array Try.underlying24 (by kernel_rfl) op_paths_Line_23) ?_
  rintro ds ⟨_, _, rfl, ⟨x0, rfl, h0⟩, ⟨_, _, rfl, ⟨x1, rfl, h1⟩, ⟨_, _, rfl, ⟨x2, rfl, h2⟩, ⟨_, _, rfl, ⟨x3, rfl, h3⟩, rfl⟩⟩⟩⟩
  exact ⟨⟨x0, x1, x2, x3⟩, rfl, ⟨h0, h1, h2, h3⟩⟩
set_option maxRecDepth 100000 in
theorem op_paths_Bind_87 {sp : Bool} : OpD Try.prog sp 87 (fun ds => ∃ x : T_paths_Bind, ds = (E_paths_Bind.d x).cells ∧ wf_paths_Bind x) := by
  refine OpD.to (opd_struct (fs := fieldsOf Try.prog 87) Try.underlying87 (by kernel_rfl) (by kernel_rfl) (.cons (opd_int Try.underlying3) (.cons (opd_int Try.underlying3) .nil))) ?_
  rintro ds ⟨_, _, rfl, ⟨x0, rfl, h0⟩, ⟨_, _, rfl, ⟨x1, rfl, h1⟩, rfl⟩⟩
  exact ⟨⟨x0, x1⟩, rfl, ⟨h0, h1⟩⟩
set_option maxRecDepth 100000 in
theorem op_paths_State_27 {sp : Bool} : OpD Try.prog sp 27 (fun ds => ∃ x : T_paths_State, ds = (E_paths_State.d x).cells ∧ wf_paths_State x) := by
  refine OpD.to (opd_struct (fs := fieldsOf Try.prog 27) Try.underlying27 (by kernel_rfl) (by kernel_rfl) (.cons op_anon24_24 (.cons (opd_int Try.underlying3) (.cons (opd_slice (f := E_paths_Bind) (wf := fun y => wf_paths_Bind y) Try.underlying25 (by kernel_rfl) op_paths_Bind_87) .nil)))) ?_
  rintro ds ⟨_, _, rfl, ⟨x0, rfl, h0⟩, ⟨_, _, rfl, ⟨x1, rfl, h1⟩, ⟨_, _, rfl, ⟨x2, rfl, h2⟩, rfl⟩⟩⟩
  exact ⟨⟨x0, x1, x2⟩, rfl, ⟨h0, h1, h2⟩⟩
def wf_anon28 (x : T_anon28) : Prop := (IntKind.min .i64 ≤ x.c0 ∧ x.c0 ≤ IntKind.max .i64) ∧ (IntKind.min .i64 ≤ x.c1 ∧ x.c1 ≤ IntKind.max .i64) ∧ (IntKind.min .i64 ≤ x.c2 ∧ x.c2 ≤ IntKind.max .i64)
set_option maxRecDepth 100000 in
theorem op_anon28_28 {sp : Bool} : OpD Try.prog sp 28 (fun ds => ∃ x : T_anon28, ds = (E_anon28.d x).cells ∧ wf_anon28 x) := by
  refine OpD.to (opd_array Try.underlying28 (by kernel_rfl) (opd_int Try.underlying3)) ?_
  rintro ds ⟨_, _, rfl, ⟨x0, rfl, h0⟩, ⟨_, _, rfl, ⟨x1, rfl, h1⟩, ⟨_, _, rfl, ⟨x2, rfl, h2⟩, rfl⟩⟩⟩
  exact ⟨⟨x0, x1, x2⟩, rfl, ⟨h0, h1, h2⟩⟩
theorem own : ownKnob Try.prog.godebug = none := by kernel_rfl
theorem laidOut : laidOutB Try.prog = true := by kernel_rfl
theorem pars : ∀ t ∈ Try.f3.params.toList, Try.prog.readableRec t = true ∧ t < Try.prog.types.size := of_decide_eq_true (by kernel_rfl)
set_option maxRecDepth 100000 in
theorem lifted (os : Os) (started : os.Started) (H : Type) (enc : TypeId × Value → H) :
    ReturnsInHanded {} Try.checked os 3 .any (Rows.pathsChangeSpec.pre6 enc Try.prog Try.f3 Rows.pathsChangeRow.domain false) (Rows.pathsChangeSpec.post enc Try.prog Try.f3 false true false false) := by
  refine returnsInHanded_of_change (C := Try.checked) own started (by kernel_rfl) Try.func3
    (ChangeSpec.witness6 (enc := enc) (C := Try.checked) false ⟨#[], #[.agg #[.bool false, .bool false, .int .i64 0, .int .i64 0, .bool false, .bool false, .int .i64 0, .int .i64 0, .bool false, .bool false, .int .i64 0, .int .i64 0, .bool false, .bool false, .int .i64 0, .int .i64 0, .int .i64 0, .slice none 0 0], .agg #[.int .i64 0, .int .i64 0, .int .i64 0], .int .i64 0], []⟩ 8 (by kernel_rfl) (by kernel_rfl) (by kernel_rfl) (by kernel_rfl)) ?_
  intro W base args ds gs before hval0 hW hcnd _
  have hval : ∀ (j : Nat) t v, Try.f3.params[j]? = some t → args[j]? = some v → Value.okWide Try.prog W .any base t v := hval0
  have hW' := hW
  obtain ⟨p, q, hA0, hV, hbef, hfz, hnd⟩ := hW
  have hA : DataW.TrodAll enc Try.prog W 0 (fun _ => true) true Try.f3.params.toList args.toList ds p := hA0
  rw [Try.params3] at hA hval
  obtain ⟨v0, vs0, d0, ds0, p0, q0, hargs, rfl, rfl, g0, r0⟩ := trodAll_cons hA
  obtain ⟨v1, vs1, d1, ds1, p1, q1, rfl, rfl, rfl, g1, r1⟩ := trodAll_cons r0
  obtain ⟨v2, vs2, d2, ds2, p2, q2, rfl, rfl, rfl, g2, r2⟩ := trodAll_cons r1
  obtain ⟨rfl, rfl, rfl⟩ := trodAll_nil r2
  obtain ⟨rfl, rfl⟩ := trodVars_none hV
  obtain rfl : args = #[v0, v1, v2] := by cases args; simp_all
  obtain ⟨q0, hr0, x0, rfl, w0⟩ := opd_val (op_paths_State_27) (hval 0 27 v0 rfl rfl) g0
  obtain ⟨q1, hr1, x1, rfl, w1⟩ := opd_val (op_anon28_28) (hval 1 28 v1 rfl rfl) g1
  obtain ⟨q2, hr2, x2, rfl, w2⟩ := opd_val (opd_int Try.underlying3) (hval 2 3 v2 rfl rfl) g2
  have hplain : sennitlaw28_PathsChange x0 x1 x2 = some true := pathsChange x0 x1 x2
  refine (p_sennitlaw28_PathsChange _ _ _ true hplain (Env.none W) [v0, v1, v2] (fun b o h => h.elim) (.cons (rd_arg_agg (hval 0 27 v0 rfl rfl) (by kernel_rfl) hr0) (.cons (rd_arg_agg (hval 1 28 v1 rfl rfl) (by kernel_rfl) hr1) (.cons (rd_arg_one (hval 2 3 v2 rfl rfl) (by kernel_rfl) hr2) (.nil _))))).mono ?_
  rintro e W' ⟨v, rfl, hb, hr⟩
  obtain rfl := rd_bool hr
  exact ⟨_, rfl, law_post laidOut pars rfl rfl Try.underlying4 rfl hW' hb⟩
theorem proved : Rows.PathsChangeSaid :=
  OpenClaim.holds_of_wide 3 Try.f3 rfl rfl rfl rfl rfl rfl rfl ⟨rfl, rfl, rfl, rfl, rfl⟩ rfl rfl rfl rfl rfl (by kernel_rfl) Try.func3 (by kernel_rfl)
    (of_decide_eq_true (by kernel_rfl)) (by unfold Func.isWrapper; first | (rw [if_pos (by decide +kernel)]; kernel_rfl) | (rw [if_neg (by decide +kernel)]; exact ⟨rfl, rfl⟩))
    (fun os started H enc _ => lifted os started H enc)
end Go.Proofs.Ytkkpkabamlabdaa.lawPathsChange
