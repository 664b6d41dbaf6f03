/-
  SharePicks: for every input the law returns true, and its arguments read behind the call acx they did. No condition.
-/
import Derived.Test.YtbacpjjiklkgfaaGreatRows
import Derived.Test.YtbacpjjiklkgfaaGreatIlA20C5
import Derived.Test.YtbacpjjiklkgfaaGreatIlO2
set_option linter.all false
set_option linter.unusedVariables false
open Go Go.IL Go.Fn Go.Proofs Go.ChangeShapes Go.WideShapes Go.ChangeAt Go.RowKit
namespace Go.Proofs.YtbacpjjiklkgfaaGreat.lawSharePicks
def wf_share_Member (x : aL) : Prop := (IntKind.min .i64 ≤ x.ID ∧ x.ID ≤ IntKind.max .i64) ∧ (IntKind.min .i64 ≤ x.ae ∧ x.ae ≤ IntKind.max .i64) ∧ (IntKind.min .i64 ≤ x.ag ∧ x.ag ≤ IntKind.max .i64)
def wf_share_Group (x : aH) : Prop := (IntKind.min .i64 ≤ x.aa ∧ x.aa ≤ IntKind.max .i64) ∧ (x.ab.length ≤ 9223372036854775807 ∧ ∀ y ∈ x.ab, wf_share_Member y)
set_option maxRecDepth 100000 in
theorem op_share_Member_23 {sp : Bool} : OpD Tryz.prog sp 23 (fun ds => ∃ x : aL, ds = (aG.d x).cells ∧ wf_share_Member x) := by
  refine OpD.to (aAA (fs := fieldsOf Tryz.prog 23) Tryz.underlying23 (by kernel_rfl) (by kernel_rfl) (.cons (vE Tryz.underlying3) (.cons (vE Tryz.underlying3) (.cons (vE Tryz.underlying3) .nil)))) ?_
  rintro ds ⟨_, _, rfl, ⟨x0, rfl, h0⟩, ⟨_, _, rfl, ⟨x1, rfl, h1⟩, ⟨_, _, rfl, ⟨x2, rfl, h2⟩, rfl⟩⟩⟩
  exact ⟨⟨x0, x1, x2⟩, rfl, ⟨h0, h1, h2⟩⟩
set_option maxRecDepth 100000 in
theorem op_share_Group_94 {sp : Bool} : OpD Tryz.prog sp 94 (fun ds => ∃ x : aH, ds = (aB.d x).cells ∧ wf_share_Group x) := by
  refine OpD.to (aAA (fs := fieldsOf Tryz.prog 94) Tryz.underlying94 (by kernel_rfl) (by kernel_rfl) (.cons (vE Tryz.underlying3) (.cons (wA (f := aG) (wf := fun y => wf_share_Member y) Tryz.underlying92 (by kernel_rfl) op_share_Member_23) .nil))) ?_
  rintro ds ⟨_, _, rfl, ⟨x0, rfl, h0⟩, ⟨_, _, rfl, ⟨x1, rfl, h1⟩, rfl⟩⟩
  exact ⟨⟨x0, x1⟩, rfl, ⟨h0, h1⟩⟩
def wf_sennitlaw19_Act (x : dB) : Prop := (IntKind.min .u8 ≤ x.am ∧ x.am ≤ IntKind.max .u8) ∧ (IntKind.min .i64 ≤ x.ID ∧ x.ID ≤ IntKind.max .i64) ∧ (IntKind.min .i64 ≤ x.aq ∧ x.aq ≤ IntKind.max .i64) ∧ (IntKind.min .i64 ≤ x.ae ∧ x.ae ≤ IntKind.max .i64) ∧ True
set_option maxRecDepth 100000 in
theorem op_sennitlaw19_Act_59 {sp : Bool} : OpD Tryz.prog sp 59 (fun ds => ∃ x : dB, ds = (eG.d x).cells ∧ wf_sennitlaw19_Act x) := by
  refine OpD.to (aAA (fs := fieldsOf Tryz.prog 59) Tryz.underlying59 (by kernel_rfl) (by kernel_rfl) (.cons (vE Tryz.underlying5) (.cons (vE Tryz.underlying3) (.cons (vE Tryz.underlying3) (.cons (vE Tryz.underlying3) (.cons (aIg Tryz.underlying4) .nil)))))) ?_
  rintro ds ⟨_, _, rfl, ⟨x0, rfl, h0⟩, ⟨_, _, rfl, ⟨x1, rfl, h1⟩, ⟨_, _, rfl, ⟨x2, rfl, h2⟩, ⟨_, _, rfl, ⟨x3, rfl, h3⟩, ⟨_, _, rfl, ⟨x4, rfl⟩, rfl⟩⟩⟩⟩⟩
  exact ⟨⟨x0, x1, x2, x3, x4⟩, rfl, ⟨h0, h1, h2, h3, trivial⟩⟩
theorem own : ownKnob Tryz.prog.godebug = none := by kernel_rfl
theorem laidOut : laidOutB Tryz.prog = true := by kernel_rfl
theorem pars : ∀ t ∈ Tryz.f5.params.toList, Tryz.prog.readableRec t = true ∧ t < Tryz.prog.types.size := of_decide_eq_true (by kernel_rfl)
set_option maxRecDepth 100000 in
theorem lifted (os : Os) (started : os.Started) (H : Type) (enc : TypeId × Value → H) :
    ReturnsInHanded {} Tryz.checked os 5 .any (Rows.sharePicksSpec.pre6 enc Tryz.prog Tryz.f5 Rows.sharePicksRow.domain false) (Rows.sharePicksSpec.post enc Tryz.prog Tryz.f5 false true false false) := by
  refine returnsInHanded_of_change (C := Tryz.checked) own started (by kernel_rfl) Tryz.func5
    (ChangeSpec.witness6 (enc := enc) (C := Tryz.checked) false ⟨#[], #[.slice none 0 0, .slice none 0 0, .slice none 0 0], []⟩ 8 (by kernel_rfl) (by kernel_rfl) (by kernel_rfl) (by kernel_rfl)) ?_
  intro W base args ds gs before hval0 hW hcnd _
  have hval : ∀ (j : Nat) t v, Tryz.f5.params[j]? = some t → args[j]? = some v → Value.okWide Tryz.prog W .any base t v := hval0
  have hW' := hW
  obtain ⟨p, q, hA0, hV, hbef, hfz, hnd⟩ := hW
  have hA : DataW.TrodAll enc Tryz.prog W 0 (fun _ => true) true Tryz.f5.params.toList args.toList ds p := hA0
  rw [Tryz.params5] at hA hval
  obtain ⟨v0, vs0, d0, ds0, p0, q0, hargs, rfl, rfl, g0, r0⟩ := trodAll_cons hA
  obtain ⟨v1, vs1, d1, ds1, p1, q1, rfl, rfl, rfl, g1, r1⟩ := trodAll_cons r0
  obtain ⟨v2, vs2, d2, ds2, p2, q2, rfl, rfl, rfl, g2, r2⟩ := trodAll_cons r1
  obtain ⟨rfl, rfl, rfl⟩ := trodAll_nil r2
  obtain ⟨rfl, rfl⟩ := trodVars_none hV
  obtain rfl : args = #[v0, v1, v2] := by cases args; simp_all
  obtain ⟨q0, hr0, x0, rfl, w0⟩ := aEM (wA (f := aB) (wf := fun y => wf_share_Group y) Tryz.underlying48 (by kernel_rfl) op_share_Group_94) (hval 0 48 v0 rfl rfl) g0
  obtain ⟨q1, hr1, x1, rfl, w1⟩ := aEM (wA (f := eG) (wf := fun y => wf_sennitlaw19_Act y) Tryz.underlying49 (by kernel_rfl) op_sennitlaw19_Act_59) (hval 1 49 v1 rfl rfl) g1
  obtain ⟨q2, hr2, x2, rfl, w2⟩ := aEM (wA (f := (eLst (eInt .i64))) (wf := fun y => (y.length ≤ 9223372036854775807 ∧ ∀ z ∈ y, (IntKind.min .i64 ≤ z ∧ z ≤ IntKind.max .i64))) Tryz.underlying50 (by kernel_rfl) (OpD.to (wA (f := (eInt .i64)) (wf := fun y => (IntKind.min .i64 ≤ y ∧ y ≤ IntKind.max .i64)) Tryz.underlying37 (by kernel_rfl) (OpD.to (vE Tryz.underlying3) fun ds ⟨a, h, k⟩ => ⟨a, h, k⟩)) fun ds ⟨a, h, k⟩ => ⟨a, h, k⟩)) (hval 2 50 v2 rfl rfl) g2
  have hplain : kW x0 x1 x2 = some true := aFp (fun a ha => by have h : IntKind.min .u8 ≤ a.am ∧ a.am ≤ IntKind.max .u8 := (w1.2 a ha).1; simp [IntKind.min, IntKind.max, IntKind.signed, IntKind.bits] at h; omega)
  refine (uQ _ _ _ true hplain (Env.none W) [v0, v1, v2] ⟨fun b o h => h.elim, ⟨fun _ h => (List.not_mem_nil h).elim⟩⟩ (.cons (zW (hval 0 48 v0 rfl rfl) (by kernel_rfl) hr0) (.cons (zW (hval 1 49 v1 rfl rfl) (by kernel_rfl) hr1) (.cons (zW (hval 2 50 v2 rfl rfl) (by kernel_rfl) hr2) (.nil _))))).mono ?_
  rintro e W' ⟨v, rfl, hb, hr⟩
  obtain rfl := zV hr
  exact ⟨_, rfl, aIp laidOut pars rfl rfl Tryz.underlying4 rfl hW' hb⟩
theorem proved : Rows.SharePicksSaid :=
  OpenClaim.holds_of_wide 5 Tryz.f5 rfl rfl rfl rfl rfl rfl rfl ⟨rfl, rfl, rfl, rfl, rfl⟩ rfl rfl rfl rfl rfl (by kernel_rfl) Tryz.func5 (by kernel_rfl)
    (of_decide_eq_true (by kernel_rfl)) (by unfold Func.isWrapper; first | (rw [if_pos (by decide +kernel)]; kernel_rfl) | (rw [if_neg (by decide +kernel)]; exact ⟨rfl, rfl⟩))
    (fun os started H enc _ => lifted os started H enc)
end Go.Proofs.YtbacpjjiklkgfaaGreat.lawSharePicks
