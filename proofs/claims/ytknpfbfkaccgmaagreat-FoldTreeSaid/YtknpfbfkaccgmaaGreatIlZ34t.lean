/-
  FoldTree: for every input the law returns true, and its arguments read behind the call acx they did. No condition.
-/
import Derived.Test.YtknpfbfkaccgmaaGreatRows
import Derived.Test.YtknpfbfkaccgmaaGreatIlA34tC4
import Derived.Test.YtknpfbfkaccgmaaGreatIlO2
set_option linter.all false
set_option linter.unusedVariables false
open Go Go.IL Go.Fn Go.Proofs Go.ChangeShapes Go.WideShapes Go.ChangeAt Go.RowKit
namespace Go.Proofs.YtknpfbfkaccgmaaGreat.lawFoldTree
def wf_anont22 (x : pY) : Prop := (IntKind.min .u8 ≤ x.c0 ∧ x.c0 ≤ IntKind.max .u8) ∧ (IntKind.min .u8 ≤ x.c1 ∧ x.c1 ≤ IntKind.max .u8)
set_option maxRecDepth 100000 in
theorem op_anont22_22 {sp : Bool} : OpD Tryz.prog sp 22 (fun ds => ∃ x : pY, ds = (aDE.d x).cells ∧ wf_anont22 x) := by
  refine OpD.to (aCS Tryz.underlying22 (by kernel_rfl) (vS Tryz.underlying5)) ?_
  rintro ds ⟨_, _, rfl, ⟨x0, rfl, h0⟩, ⟨_, _, rfl, ⟨x1, rfl, h1⟩, rfl⟩⟩
  exact ⟨⟨x0, x1⟩, rfl, ⟨h0, h1⟩⟩
def wf_fold_Op (x : dD) : Prop := (IntKind.min .u8 ≤ x.Kind ∧ x.Kind ≤ IntKind.max .u8) ∧ (IntKind.min .i64 ≤ x.ID ∧ x.ID ≤ IntKind.max .i64) ∧ (IntKind.min .i64 ≤ x.Dep ∧ x.Dep ≤ IntKind.max .i64) ∧ (IntKind.min .i64 ≤ x.Weight ∧ x.Weight ≤ IntKind.max .i64) ∧ True
set_option maxRecDepth 100000 in
theorem op_fold_Op_34 {sp : Bool} : OpD Tryz.prog sp 34 (fun ds => ∃ x : dD, ds = (hG.d x).cells ∧ wf_fold_Op x) := by
  refine OpD.to (aBY (fs := fieldsOf Tryz.prog 34) Tryz.underlying34 (by kernel_rfl) (by kernel_rfl) (.cons (vS Tryz.underlying5) (.cons (vS Tryz.underlying3) (.cons (vS Tryz.underlying3) (.cons (vS Tryz.underlying3) (.cons (aDT Tryz.underlying4) .nil)))))) ?_
  rintro ds ⟨_, _, rfl, ⟨x0, rfl, h0⟩, ⟨_, _, rfl, ⟨x1, rfl, h1⟩, ⟨_, _, rfl, ⟨x2, rfl, h2⟩, ⟨_, _, rfl, ⟨x3, rfl, h3⟩, ⟨_, _, rfl, ⟨x4, rfl⟩, rfl⟩⟩⟩⟩⟩
  exact ⟨⟨x0, x1, x2, x3, x4⟩, rfl, ⟨h0, h1, h2, h3, trivial⟩⟩
theorem own : ownKnob Tryz.prog.godebug = none := by kernel_rfl
theorem laidOut : laidOutB Tryz.prog = true := by kernel_rfl
theorem pars : ∀ t ∈ Tryz.f3.params.toList, Tryz.prog.readableRec t = true ∧ t < Tryz.prog.types.size := of_decide_eq_true (by kernel_rfl)
set_option maxRecDepth 100000 in
theorem lifted (os : Os) (started : os.Started) (H : Type) (enc : TypeId × Value → H) :
    ReturnsInHanded {} Tryz.checked os 3 .any (Rows.foldTreeSpec.pre6 enc Tryz.prog Tryz.f3 Rows.foldTreeRow.domain false) (Rows.foldTreeSpec.post enc Tryz.prog Tryz.f3 false true false false) := by
  refine returnsInHanded_of_change (C := Tryz.checked) own started (by kernel_rfl) Tryz.func3
    (ChangeSpec.witness6 (enc := enc) (C := Tryz.checked) false ⟨#[], #[.agg #[.int .u8 0, .int .u8 0], .slice none 0 0], []⟩ 8 (by kernel_rfl) (by kernel_rfl) (by kernel_rfl) (by kernel_rfl)) ?_
  intro W base args ds gs before hval0 hW hcnd _
  have hval : ∀ (j : Nat) t v, Tryz.f3.params[j]? = some t → args[j]? = some v → Value.okWide Tryz.prog W .any base t v := hval0
  have hW' := hW
  obtain ⟨p, q, hA0, hV, hbef, hfz, hnd⟩ := hW
  have hA : DataW.TrodAll enc Tryz.prog W 0 (fun _ => true) true Tryz.f3.params.toList args.toList ds p := hA0
  rw [Tryz.params3] at hA hval
  obtain ⟨v0, vs0, d0, ds0, p0, q0, hargs, rfl, rfl, g0, r0⟩ := trodAll_cons hA
  obtain ⟨v1, vs1, d1, ds1, p1, q1, rfl, rfl, rfl, g1, r1⟩ := trodAll_cons r0
  obtain ⟨rfl, rfl, rfl⟩ := trodAll_nil r1
  obtain ⟨rfl, rfl⟩ := trodVars_none hV
  obtain rfl : args = #[v0, v1] := by cases args; simp_all
  obtain ⟨q0, hr0, x0, rfl, w0⟩ := aCQ (op_anont22_22) (hval 0 22 v0 rfl rfl) g0
  obtain ⟨q1, hr1, x1, rfl, w1⟩ := aCQ (aCR (f := hG) (wf := fun y => wf_fold_Op y) Tryz.underlying23 (by kernel_rfl) op_fold_Op_34) (hval 1 23 v1 rfl rfl) g1
  have hplain : jH x0 x1 = some true := aDn (by have h : (IntKind.min .u8 ≤ x0.c0 ∧ x0.c0 ≤ IntKind.max .u8) ∧ (IntKind.min .u8 ≤ x0.c1 ∧ x0.c1 ≤ IntKind.max .u8) := w0; simp [IntKind.min, IntKind.max, IntKind.signed, IntKind.bits] at h; omega) (fun a ha => ⟨(by have h : IntKind.min .i64 ≤ a.ID ∧ a.ID ≤ IntKind.max .i64 := (w1.2 a ha).2.1; simpa [I64, IntKind.min, IntKind.max, IntKind.signed, IntKind.bits] using h), (by have h : IntKind.min .i64 ≤ a.Dep ∧ a.Dep ≤ IntKind.max .i64 := (w1.2 a ha).2.2.1; simpa [I64, IntKind.min, IntKind.max, IntKind.signed, IntKind.bits] using h)⟩) (fun a ha => by have h : IntKind.min .u8 ≤ a.Kind ∧ a.Kind ≤ IntKind.max .u8 := (w1.2 a ha).1; simp [IntKind.min, IntKind.max, IntKind.signed, IntKind.bits] at h; omega)
  refine (qS _ _ true hplain (Env.none W) [v0, v1] ⟨fun b o h => h.elim, ⟨fun _ h => (List.not_mem_nil h).elim⟩⟩ (.cons (aBV (hval 0 22 v0 rfl rfl) (by kernel_rfl) hr0) (.cons (aBU (hval 1 23 v1 rfl rfl) (by kernel_rfl) hr1) (.nil _)))).mono ?_
  rintro e W' ⟨v, rfl, hb, hr⟩
  obtain rfl := tN hr
  exact ⟨_, rfl, aDX laidOut pars rfl rfl Tryz.underlying4 rfl hW' hb⟩
theorem proved : Rows.FoldTreeSaid :=
  OpenClaim.holds_of_wide 3 Tryz.f3 rfl rfl rfl rfl rfl rfl rfl ⟨rfl, rfl, rfl, rfl, rfl⟩ rfl rfl rfl rfl rfl (by kernel_rfl) Tryz.func3 (by kernel_rfl)
    (of_decide_eq_true (by kernel_rfl)) (by unfold Func.isWrapper; first | (rw [if_pos (by decide +kernel)]; kernel_rfl) | (rw [if_neg (by decide +kernel)]; exact ⟨rfl, rfl⟩))
    (fun os started H enc _ => lifted os started H enc)
end Go.Proofs.YtknpfbfkaccgmaaGreat.lawFoldTree
