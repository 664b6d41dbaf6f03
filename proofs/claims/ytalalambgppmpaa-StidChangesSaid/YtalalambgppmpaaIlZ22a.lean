/-
  StidChanges: for every input the law returns true, and its arguments read behind the call as they did. No condition.
-/
import Derived.Test.YtalalambgppmpaaRows
import Derived.Test.YtalalambgppmpaaIlA22aC3
import Derived.Test.YtalalambgppmpaaIlP23
import Derived.Test.YtalalambgppmpaaIlO2
set_option linter.all false
set_option linter.unusedVariables false
open Go Go.IL Go.Fn Go.Proofs Go.ChangeShapes Go.WideShapes Go.ChangeAt Go.RowKit
namespace Go.Proofs.Ytalalambgppmpaa.lawStidChanges
def wf_stid_State (x : T_stid_State) : Prop := True ∧ (IntKind.min .i64 ≤ x.Next ∧ x.Next ≤ IntKind.max .i64) ∧ (IntKind.min .i64 ≤ x.Last ∧ x.Last ≤ IntKind.max .i64) ∧ (x.Live.length ≤ 9223372036854775807 ∧ ∀ y ∈ x.Live, (IntKind.min .i64 ≤ y ∧ y ≤ IntKind.max .i64)) ∧ (x.Cut.length ≤ 9223372036854775807 ∧ ∀ y ∈ x.Cut, (IntKind.min .i64 ≤ y ∧ y ≤ IntKind.max .i64)) ∧ (IntKind.min .i64 ≤ x.Mine ∧ x.Mine ≤ IntKind.max .i64) ∧ (IntKind.min .i64 ≤ x.Hers ∧ x.Hers ≤ IntKind.max .i64) ∧ (IntKind.min .i64 ≤ x.Heard ∧ x.Heard ≤ IntKind.max .i64) ∧ (IntKind.min .i64 ≤ x.Told ∧ x.Told ≤ IntKind.max .i64)
set_option maxRecDepth 100000 in
theorem op_stid_State_24 {sp : Bool} : OpD Try.prog sp 24 (fun ds => ∃ x : T_stid_State, ds = (E_stid_State.d x).cells ∧ wf_stid_State x) := by
  refine OpD.to (opd_struct (fs := fieldsOf Try.prog 24) Try.underlying24 (by kernel_rfl) (by kernel_rfl) (.cons (opd_bool Try.underlying4) (.cons (opd_int Try.underlying3) (.cons (opd_int Try.underlying3) (.cons (opd_slice (f := (eInt .i64)) (wf := fun y => (IntKind.min .i64 ≤ y ∧ y ≤ IntKind.max .i64)) Try.underlying22 (by kernel_rfl) (OpD.to (opd_int Try.underlying3) fun ds ⟨a, h, k⟩ => ⟨a, h, k⟩)) (.cons (opd_slice (f := (eInt .i64)) (wf := fun y => (IntKind.min .i64 ≤ y ∧ y ≤ IntKind.max .i64)) Try.underlying22 (by kernel_rfl) (OpD.to (opd_int Try.underlying3) fun ds ⟨a, h, k⟩ => ⟨a, h, k⟩)) (.cons (opd_int Try.underlying3) (.cons (opd_int Try.underlying3) (.cons (opd_int Try.underlying3) (.cons (opd_int Try.underlying3) .nil)))))))))) ?_
  rintro ds ⟨_, _, rfl, ⟨x0, rfl⟩, ⟨_, _, rfl, ⟨x1, rfl, h1⟩, ⟨_, _, rfl, ⟨x2, rfl, h2⟩, ⟨_, _, rfl, ⟨x3, rfl, h3⟩, ⟨_, _, rfl, ⟨x4, rfl, h4⟩, ⟨_, _, rfl, ⟨x5, rfl, h5⟩, ⟨_, _, rfl, ⟨x6, rfl, h6⟩, ⟨_, _, rfl, ⟨x7, rfl, h7⟩, ⟨_, _, rfl, ⟨x8, rfl, h8⟩, rfl⟩⟩⟩⟩⟩⟩⟩⟩⟩
  exact ⟨⟨x0, x1, x2, x3, x4, x5, x6, x7, x8⟩, rfl, ⟨trivial, h1, h2, h3, h4, h5, h6, h7, h8⟩⟩
theorem own : ownKnob Try.prog.godebug = none := by kernel_rfl
theorem laidOut : laidOutB Try.prog = true := by kernel_rfl
theorem pars : ∀ t ∈ Try.f3.params.toList, Try.prog.readableRec t = true ∧ t < Try.prog.types.size := of_decide_eq_true (by kernel_rfl)
set_option maxRecDepth 100000 in
theorem lifted (os : Os) (started : os.Started) (H : Type) (enc : TypeId × Value → H) :
    ReturnsInHanded {} Try.checked os 3 .any (Rows.stidChangesSpec.pre6 enc Try.prog Try.f3 Rows.stidChangesRow.domain false) (Rows.stidChangesSpec.post enc Try.prog Try.f3 false true false false) := by
  refine returnsInHanded_of_change (C := Try.checked) own started (by kernel_rfl) Try.func3
    (ChangeSpec.witness6 (enc := enc) (C := Try.checked) false ⟨#[], #[.agg #[.bool false, .int .i64 0, .int .i64 0, .slice none 0 0, .slice none 0 0, .int .i64 0, .int .i64 0, .int .i64 0, .int .i64 0], .int .i64 0, .bool false], []⟩ 8 (by kernel_rfl) (by kernel_rfl) (by kernel_rfl) (by kernel_rfl)) ?_
  intro W base args ds gs before hval0 hW hcnd _
  have hval : ∀ (j : Nat) t v, Try.f3.params[j]? = some t → args[j]? = some v → Value.okWide Try.prog W .any base t v := hval0
  have hW' := hW
  obtain ⟨p, q, hA0, hV, hbef, hfz, hnd⟩ := hW
  have hA : DataW.TrodAll enc Try.prog W 0 (fun _ => true) true Try.f3.params.toList args.toList ds p := hA0
  rw [Try.params3] at hA hval
  obtain ⟨v0, vs0, d0, ds0, p0, q0, hargs, rfl, rfl, g0, r0⟩ := trodAll_cons hA
  obtain ⟨v1, vs1, d1, ds1, p1, q1, rfl, rfl, rfl, g1, r1⟩ := trodAll_cons r0
  obtain ⟨v2, vs2, d2, ds2, p2, q2, rfl, rfl, rfl, g2, r2⟩ := trodAll_cons r1
  obtain ⟨rfl, rfl, rfl⟩ := trodAll_nil r2
  obtain ⟨rfl, rfl⟩ := trodVars_none hV
  obtain rfl : args = #[v0, v1, v2] := by cases args; simp_all
  obtain ⟨q0, hr0, x0, rfl, w0⟩ := opd_val (op_stid_State_24) (hval 0 24 v0 rfl rfl) g0
  obtain ⟨q1, hr1, x1, rfl, w1⟩ := opd_val (opd_int Try.underlying3) (hval 1 3 v1 rfl rfl) g1
  obtain ⟨q2, hr2, x2, rfl⟩ := opd_val (opd_bool Try.underlying4) (hval 2 4 v2 rfl rfl) g2
  have w2 : True := trivial
  have hplain : sennitlaw22_StidChanges x0 x1 x2 = some true := stidChanges x0 x1 x2
  refine (p_sennitlaw22_StidChanges _ _ _ true hplain (Env.none W) [v0, v1, v2] (fun b o h => h.elim) (.cons (rd_arg_agg (hval 0 24 v0 rfl rfl) (by kernel_rfl) hr0) (.cons (rd_arg_one (hval 1 3 v1 rfl rfl) (by kernel_rfl) hr1) (.cons (rd_arg_one (hval 2 4 v2 rfl rfl) (by kernel_rfl) hr2) (.nil _))))).mono ?_
  rintro e W' ⟨v, rfl, hb, hr⟩
  obtain rfl := rd_bool hr
  exact ⟨_, rfl, law_post laidOut pars rfl rfl Try.underlying4 rfl hW' hb⟩
theorem proved : Rows.StidChangesSaid :=
  OpenClaim.holds_of_wide 3 Try.f3 rfl rfl rfl rfl rfl rfl rfl ⟨rfl, rfl, rfl, rfl, rfl⟩ rfl rfl rfl rfl rfl (by kernel_rfl) Try.func3 (by kernel_rfl)
    (of_decide_eq_true (by kernel_rfl)) (by unfold Func.isWrapper; first | (rw [if_pos (by decide +kernel)]; kernel_rfl) | (rw [if_neg (by decide +kernel)]; exact ⟨rfl, rfl⟩))
    (fun os started H enc _ => lifted os started H enc)
end Go.Proofs.Ytalalambgppmpaa.lawStidChanges
