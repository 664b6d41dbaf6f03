/-
  FoldTells: for every input the law returns true, and its arguments read behind the call as they did. No condition.
-/
import Derived.Test.YthjfhdlaockolaaRows
import Derived.Test.YthjfhdlaockolaaIlA34dC3
import Derived.Test.YthjfhdlaockolaaIlO2
set_option linter.all false
set_option linter.unusedVariables false
open Go Go.IL Go.Fn Go.Proofs Go.ChangeShapes Go.WideShapes Go.ChangeAt Go.RowKit
namespace Go.Proofs.Ythjfhdlaockolaa.lawFoldTells
def wf_ptree_Node (x : T_ptree_Node) : Prop := (IntKind.min .i64 ≤ x.ID ∧ x.ID ≤ IntKind.max .i64) ∧ (IntKind.min .i64 ≤ x.Parent ∧ x.Parent ≤ IntKind.max .i64) ∧ (IntKind.min .i64 ≤ x.Weight ∧ x.Weight ≤ IntKind.max .i64) ∧ True
def wf_fold_State (x : T_fold_State) : Prop := (IntKind.min .i64 ≤ x.Room ∧ x.Room ≤ IntKind.max .i64) ∧ (IntKind.min .i64 ≤ x.Keep ∧ x.Keep ≤ IntKind.max .i64) ∧ (x.Nodes.length ≤ 9223372036854775807 ∧ ∀ y ∈ x.Nodes, wf_ptree_Node y) ∧ (x.Ended.length ≤ 9223372036854775807 ∧ ∀ y ∈ x.Ended, (IntKind.min .i64 ≤ y ∧ y ≤ IntKind.max .i64))
set_option maxRecDepth 100000 in
theorem op_ptree_Node_63 {sp : Bool} : OpD Try.prog sp 63 (fun ds => ∃ x : T_ptree_Node, ds = (E_ptree_Node.d x).cells ∧ wf_ptree_Node x) := by
  refine OpD.to (opd_struct (fs := fieldsOf Try.prog 63) Try.underlying63 (by kernel_rfl) (by kernel_rfl) (.cons (opd_int Try.underlying3) (.cons (opd_int Try.underlying3) (.cons (opd_int Try.underlying3) (.cons (opd_bool Try.underlying4) .nil))))) ?_
  rintro ds ⟨_, _, rfl, ⟨x0, rfl, h0⟩, ⟨_, _, rfl, ⟨x1, rfl, h1⟩, ⟨_, _, rfl, ⟨x2, rfl, h2⟩, ⟨_, _, rfl, ⟨x3, rfl⟩, rfl⟩⟩⟩⟩
  exact ⟨⟨x0, x1, x2, x3⟩, rfl, ⟨h0, h1, h2, trivial⟩⟩
set_option maxRecDepth 100000 in
theorem op_fold_State_25 {sp : Bool} : OpD Try.prog sp 25 (fun ds => ∃ x : T_fold_State, ds = (E_fold_State.d x).cells ∧ wf_fold_State x) := by
  refine OpD.to (opd_struct (fs := fieldsOf Try.prog 25) Try.underlying25 (by kernel_rfl) (by kernel_rfl) (.cons (opd_int Try.underlying3) (.cons (opd_int Try.underlying3) (.cons (opd_slice (f := E_ptree_Node) (wf := fun y => wf_ptree_Node y) Try.underlying22 (by kernel_rfl) op_ptree_Node_63) (.cons (opd_slice (f := (eInt .i64)) (wf := fun y => (IntKind.min .i64 ≤ y ∧ y ≤ IntKind.max .i64)) Try.underlying23 (by kernel_rfl) (OpD.to (opd_int Try.underlying3) fun ds ⟨a, h, k⟩ => ⟨a, h, k⟩)) .nil))))) ?_
  rintro ds ⟨_, _, rfl, ⟨x0, rfl, h0⟩, ⟨_, _, rfl, ⟨x1, rfl, h1⟩, ⟨_, _, rfl, ⟨x2, rfl, h2⟩, ⟨_, _, rfl, ⟨x3, rfl, h3⟩, rfl⟩⟩⟩⟩
  exact ⟨⟨x0, x1, x2, x3⟩, rfl, ⟨h0, h1, h2, h3⟩⟩
theorem own : ownKnob Try.prog.godebug = none := by kernel_rfl
theorem laidOut : laidOutB Try.prog = true := by kernel_rfl
theorem pars : ∀ t ∈ Try.f4.params.toList, Try.prog.readableRec t = true ∧ t < Try.prog.types.size := of_decide_eq_true (by kernel_rfl)
set_option maxRecDepth 100000 in
theorem lifted (os : Os) (started : os.Started) (H : Type) (enc : TypeId × Value → H) :
    ReturnsInHanded {} Try.checked os 4 .any (Rows.foldTellsSpec.pre6 enc Try.prog Try.f4 Rows.foldTellsRow.domain false) (Rows.foldTellsSpec.post enc Try.prog Try.f4 false true false false) := by
  refine returnsInHanded_of_change (C := Try.checked) own started (by kernel_rfl) Try.func4
    (ChangeSpec.witness6 (enc := enc) (C := Try.checked) false ⟨#[], #[.agg #[.int .i64 0, .int .i64 0, .slice none 0 0, .slice none 0 0], .int .i64 0, .int .i64 0], []⟩ 8 (by kernel_rfl) (by kernel_rfl) (by kernel_rfl) (by kernel_rfl)) ?_
  intro W base args ds gs before hval0 hW hcnd _
  have hval : ∀ (j : Nat) t v, Try.f4.params[j]? = some t → args[j]? = some v → Value.okWide Try.prog W .any base t v := hval0
  have hW' := hW
  obtain ⟨p, q, hA0, hV, hbef, hfz, hnd⟩ := hW
  have hA : DataW.TrodAll enc Try.prog W 0 (fun _ => true) true Try.f4.params.toList args.toList ds p := hA0
  rw [Try.params4] at hA hval
  obtain ⟨v0, vs0, d0, ds0, p0, q0, hargs, rfl, rfl, g0, r0⟩ := trodAll_cons hA
  obtain ⟨v1, vs1, d1, ds1, p1, q1, rfl, rfl, rfl, g1, r1⟩ := trodAll_cons r0
  obtain ⟨v2, vs2, d2, ds2, p2, q2, rfl, rfl, rfl, g2, r2⟩ := trodAll_cons r1
  obtain ⟨rfl, rfl, rfl⟩ := trodAll_nil r2
  obtain ⟨rfl, rfl⟩ := trodVars_none hV
  obtain rfl : args = #[v0, v1, v2] := by cases args; simp_all
  obtain ⟨q0, hr0, x0, rfl, w0⟩ := opd_val (op_fold_State_25) (hval 0 25 v0 rfl rfl) g0
  obtain ⟨q1, hr1, x1, rfl, w1⟩ := opd_val (opd_int Try.underlying3) (hval 1 3 v1 rfl rfl) g1
  obtain ⟨q2, hr2, x2, rfl, w2⟩ := opd_val (opd_int Try.underlying3) (hval 2 3 v2 rfl rfl) g2
  have hplain : sennitlaw34_FoldTells x0 x1 x2 = some true := foldTells (fun n hn => by have h : IntKind.min .i64 ≤ n.Parent ∧ n.Parent ≤ IntKind.max .i64 := (w0.2.2.1.2 n hn).2.1; simpa [I64, IntKind.min, IntKind.max, IntKind.signed, IntKind.bits] using h) (by have h := w1; simpa [I64, IntKind.min, IntKind.max, IntKind.signed, IntKind.bits] using h) (by have h := w2; simpa [I64, IntKind.min, IntKind.max, IntKind.signed, IntKind.bits] using h)
  refine (p_sennitlaw34_FoldTells _ _ _ true hplain (Env.none W) [v0, v1, v2] (fun b o h => h.elim) (.cons (rd_arg_agg (hval 0 25 v0 rfl rfl) (by kernel_rfl) hr0) (.cons (rd_arg_one (hval 1 3 v1 rfl rfl) (by kernel_rfl) hr1) (.cons (rd_arg_one (hval 2 3 v2 rfl rfl) (by kernel_rfl) hr2) (.nil _))))).mono ?_
  rintro e W' ⟨v, rfl, hb, hr⟩
  obtain rfl := rd_bool hr
  exact ⟨_, rfl, law_post laidOut pars rfl rfl Try.underlying4 rfl hW' hb⟩
theorem proved : Rows.FoldTellsSaid :=
  OpenClaim.holds_of_wide 4 Try.f4 rfl rfl rfl rfl rfl rfl rfl ⟨rfl, rfl, rfl, rfl, rfl⟩ rfl rfl rfl rfl rfl (by kernel_rfl) Try.func4 (by kernel_rfl)
    (of_decide_eq_true (by kernel_rfl)) (by unfold Func.isWrapper; first | (rw [if_pos (by decide +kernel)]; kernel_rfl) | (rw [if_neg (by decide +kernel)]; exact ⟨rfl, rfl⟩))
    (fun os started H enc _ => lifted os started H enc)
end Go.Proofs.Ythjfhdlaockolaa.lawFoldTells
