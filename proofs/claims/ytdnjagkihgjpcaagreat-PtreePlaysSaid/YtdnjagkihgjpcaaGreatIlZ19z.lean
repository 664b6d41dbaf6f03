/-
  PtreePlays: for every input the law returns true, and its arguments read behind the call as they did. No condition.
-/
import Derived.Test.YtdnjagkihgjpcaaGreatRows
import Derived.Test.YtdnjagkihgjpcaaGreatIlA19zC4
import Derived.Test.YtdnjagkihgjpcaaGreatIlO2
set_option linter.all false
set_option linter.unusedVariables false
open Go Go.IL Go.Fn Go.Proofs Go.ChangeShapes Go.WideShapes Go.ChangeAt Go.RowKit
namespace Go.Proofs.YtdnjagkihgjpcaaGreat.lawPtreePlays
def wf_anon22 (x : qA) : Prop := (IntKind.min .i64 ≤ x.c0 ∧ x.c0 ≤ IntKind.max .i64) ∧ (IntKind.min .i64 ≤ x.c1 ∧ x.c1 ≤ IntKind.max .i64)
set_option maxRecDepth 100000 in
theorem op_anon22_22 {sp : Bool} : OpD Tryz.prog sp 22 (fun ds => ∃ x : qA, ds = (aCX.d x).cells ∧ wf_anon22 x) := by
  refine OpD.to (aBA Tryz.underlying22 (by kernel_rfl) (rU Tryz.underlying3)) ?_
  rintro ds ⟨_, _, rfl, ⟨x0, rfl, h0⟩, ⟨_, _, rfl, ⟨x1, rfl, h1⟩, rfl⟩⟩
  exact ⟨⟨x0, x1⟩, rfl, ⟨h0, h1⟩⟩
def wf_sennitlaw19_Act (x : bT) : Prop := (IntKind.min .u8 ≤ x.Kind ∧ x.Kind ≤ IntKind.max .u8) ∧ (IntKind.min .i64 ≤ x.ID ∧ x.ID ≤ IntKind.max .i64) ∧ (IntKind.min .i64 ≤ x.Dep ∧ x.Dep ≤ IntKind.max .i64) ∧ (IntKind.min .i64 ≤ x.Weight ∧ x.Weight ≤ IntKind.max .i64) ∧ True
set_option maxRecDepth 100000 in
theorem op_sennitlaw19_Act_37 {sp : Bool} : OpD Tryz.prog sp 37 (fun ds => ∃ x : bT, ds = (bE.d x).cells ∧ wf_sennitlaw19_Act x) := by
  refine OpD.to (aAN (fs := fieldsOf Tryz.prog 37) Tryz.underlying37 (by kernel_rfl) (by kernel_rfl) (.cons (rU Tryz.underlying5) (.cons (rU Tryz.underlying3) (.cons (rU Tryz.underlying3) (.cons (rU Tryz.underlying3) (.cons (aB7 Tryz.underlying4) .nil)))))) ?_
  rintro ds ⟨_, _, rfl, ⟨x0, rfl, h0⟩, ⟨_, _, rfl, ⟨x1, rfl, h1⟩, ⟨_, _, rfl, ⟨x2, rfl, h2⟩, ⟨_, _, rfl, ⟨x3, rfl, h3⟩, ⟨_, _, rfl, ⟨x4, rfl⟩, rfl⟩⟩⟩⟩⟩
  exact ⟨⟨x0, x1, x2, x3, x4⟩, rfl, ⟨h0, h1, h2, h3, trivial⟩⟩
theorem own : ownKnob Tryz.prog.godebug = none := by kernel_rfl
theorem laidOut : laidOutB Tryz.prog = true := by kernel_rfl
theorem pars : ∀ t ∈ Tryz.f3.params.toList, Tryz.prog.readableRec t = true ∧ t < Tryz.prog.types.size := of_decide_eq_true (by kernel_rfl)
set_option maxRecDepth 100000 in
theorem lifted (os : Os) (started : os.Started) (H : Type) (enc : TypeId × Value → H) :
    ReturnsInHanded {} Tryz.checked os 3 .any (Rows.ptreePlaysSpec.pre6 enc Tryz.prog Tryz.f3 Rows.ptreePlaysRow.domain false) (Rows.ptreePlaysSpec.post enc Tryz.prog Tryz.f3 false true false false) := by
  refine returnsInHanded_of_change (C := Tryz.checked) own started (by kernel_rfl) Tryz.func3
    (ChangeSpec.witness6 (enc := enc) (C := Tryz.checked) false ⟨#[], #[.agg #[.int .i64 0, .int .i64 0], .slice none 0 0, .slice none 0 0], []⟩ 8 (by kernel_rfl) (by kernel_rfl) (by kernel_rfl) (by kernel_rfl)) ?_
  intro W base args ds gs before hval0 hW hcnd _
  have hval : ∀ (j : Nat) t v, Tryz.f3.params[j]? = some t → args[j]? = some v → Value.okWide Tryz.prog W .any base t v := hval0
  have hW' := hW
  obtain ⟨p, q, hA0, hV, hbef, hfz, hnd⟩ := hW
  have hA : DataW.TrodAll enc Tryz.prog W 0 (fun _ => true) true Tryz.f3.params.toList args.toList ds p := hA0
  rw [Tryz.params3] at hA hval
  obtain ⟨v0, vs0, d0, ds0, p0, q0, hargs, rfl, rfl, g0, r0⟩ := trodAll_cons hA
  obtain ⟨v1, vs1, d1, ds1, p1, q1, rfl, rfl, rfl, g1, r1⟩ := trodAll_cons r0
  obtain ⟨v2, vs2, d2, ds2, p2, q2, rfl, rfl, rfl, g2, r2⟩ := trodAll_cons r1
  obtain ⟨rfl, rfl, rfl⟩ := trodAll_nil r2
  obtain ⟨rfl, rfl⟩ := trodVars_none hV
  obtain rfl : args = #[v0, v1, v2] := by cases args; simp_all
  obtain ⟨q0, hr0, x0, rfl, w0⟩ := yJ (op_anon22_22) (hval 0 22 v0 rfl rfl) g0
  obtain ⟨q1, hr1, x1, rfl, w1⟩ := yJ (xD (f := bE) (wf := fun y => wf_sennitlaw19_Act y) Tryz.underlying23 (by kernel_rfl) op_sennitlaw19_Act_37) (hval 1 23 v1 rfl rfl) g1
  obtain ⟨q2, hr2, x2, rfl, w2⟩ := yJ (xD (f := (eInt .i64)) (wf := fun y => (IntKind.min .i64 ≤ y ∧ y ≤ IntKind.max .i64)) Tryz.underlying24 (by kernel_rfl) (OpD.to (rU Tryz.underlying3) fun ds ⟨a, h, k⟩ => ⟨a, h, k⟩)) (hval 2 24 v2 rfl rfl) g2
  have hplain : hJ x0 x1 x2 = some true := aAM (fun a ha => by have h : IntKind.min .u8 ≤ a.Kind ∧ a.Kind ≤ IntKind.max .u8 := (w1.2 a ha).1; simp [IntKind.min, IntKind.max, IntKind.signed, IntKind.bits] at h; omega)
  refine (oY _ _ _ true hplain (Env.none W) [v0, v1, v2] ⟨fun b o h => h.elim, ⟨fun _ h => (List.not_mem_nil h).elim⟩⟩ (.cons (aAL (hval 0 22 v0 rfl rfl) (by kernel_rfl) hr0) (.cons (uU (hval 1 23 v1 rfl rfl) (by kernel_rfl) hr1) (.cons (uU (hval 2 24 v2 rfl rfl) (by kernel_rfl) hr2) (.nil _))))).mono ?_
  rintro e W' ⟨v, rfl, hb, hr⟩
  obtain rfl := rQ hr
  exact ⟨_, rfl, aCB laidOut pars rfl rfl Tryz.underlying4 rfl hW' hb⟩
theorem proved : Rows.PtreePlaysSaid :=
  OpenClaim.holds_of_wide 3 Tryz.f3 rfl rfl rfl rfl rfl rfl rfl ⟨rfl, rfl, rfl, rfl, rfl⟩ rfl rfl rfl rfl rfl (by kernel_rfl) Tryz.func3 (by kernel_rfl)
    (of_decide_eq_true (by kernel_rfl)) (by unfold Func.isWrapper; first | (rw [if_pos (by decide +kernel)]; kernel_rfl) | (rw [if_neg (by decide +kernel)]; exact ⟨rfl, rfl⟩))
    (fun os started H enc _ => lifted os started H enc)
end Go.Proofs.YtdnjagkihgjpcaaGreat.lawPtreePlays
