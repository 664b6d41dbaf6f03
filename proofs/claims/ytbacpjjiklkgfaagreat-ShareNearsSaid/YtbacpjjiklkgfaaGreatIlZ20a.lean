/-
  ShareNears: for every input the law returns true, and its arguments read behind the call acx they did. No condition.
-/
import Derived.Test.YtbacpjjiklkgfaaGreatRows
import Derived.Test.YtbacpjjiklkgfaaGreatIlA20C8
import Derived.Test.YtbacpjjiklkgfaaGreatIlO2
set_option linter.all false
set_option linter.unusedVariables false
open Go Go.IL Go.Fn Go.Proofs Go.ChangeShapes Go.WideShapes Go.ChangeAt Go.RowKit
namespace Go.Proofs.YtbacpjjiklkgfaaGreat.lawShareNears
def wf_share_Member (x : aQ) : Prop := (IntKind.min .i64 ≤ x.ID ∧ x.ID ≤ IntKind.max .i64) ∧ (IntKind.min .i64 ≤ x.Weight ∧ x.Weight ≤ IntKind.max .i64) ∧ (IntKind.min .i64 ≤ x.Sent ∧ x.Sent ≤ IntKind.max .i64)
set_option maxRecDepth 100000 in
theorem op_share_Member_23 {sp : Bool} : OpD Tryz.prog sp 23 (fun ds => ∃ x : aQ, ds = (aL.d x).cells ∧ wf_share_Member x) := by
  refine OpD.to (zY (fs := fieldsOf Tryz.prog 23) Tryz.underlying23 (by kernel_rfl) (by kernel_rfl) (.cons (vS Tryz.underlying3) (.cons (vS Tryz.underlying3) (.cons (vS Tryz.underlying3) .nil)))) ?_
  rintro ds ⟨_, _, rfl, ⟨x0, rfl, h0⟩, ⟨_, _, rfl, ⟨x1, rfl, h1⟩, ⟨_, _, rfl, ⟨x2, rfl, h2⟩, rfl⟩⟩⟩
  exact ⟨⟨x0, x1, x2⟩, rfl, ⟨h0, h1, h2⟩⟩
def wf_anons24 (x : oB) : Prop := (IntKind.min .i64 ≤ x.c0 ∧ x.c0 ≤ IntKind.max .i64) ∧ (IntKind.min .i64 ≤ x.c1 ∧ x.c1 ≤ IntKind.max .i64) ∧ (IntKind.min .i64 ≤ x.c2 ∧ x.c2 ≤ IntKind.max .i64)
set_option maxRecDepth 100000 in
theorem op_anons24_24 {sp : Bool} : OpD Tryz.prog sp 24 (fun ds => ∃ x : oB, ds = (aBa.d x).cells ∧ wf_anons24 x) := by
  refine OpD.to (aAn Tryz.underlying24 (by kernel_rfl) (vS Tryz.underlying3)) ?_
  rintro ds ⟨_, _, rfl, ⟨x0, rfl, h0⟩, ⟨_, _, rfl, ⟨x1, rfl, h1⟩, ⟨_, _, rfl, ⟨x2, rfl, h2⟩, rfl⟩⟩⟩
  exact ⟨⟨x0, x1, x2⟩, rfl, ⟨h0, h1, h2⟩⟩
theorem own : ownKnob Tryz.prog.godebug = none := by kernel_rfl
theorem laidOut : laidOutB Tryz.prog = true := by kernel_rfl
theorem pars : ∀ t ∈ Tryz.f3.params.toList, Tryz.prog.readableRec t = true ∧ t < Tryz.prog.types.size := of_decide_eq_true (by kernel_rfl)
set_option maxRecDepth 100000 in
theorem lifted (os : Os) (started : os.Started) (H : Type) (enc : TypeId × Value → H) :
    ReturnsInHanded {} Tryz.checked os 3 .any (Rows.shareNearsSpec.pre6 enc Tryz.prog Tryz.f3 Rows.shareNearsRow.domain false) (Rows.shareNearsSpec.post enc Tryz.prog Tryz.f3 false true false false) := by
  refine returnsInHanded_of_change (C := Tryz.checked) own started (by kernel_rfl) Tryz.func3
    (ChangeSpec.witness6 (enc := enc) (C := Tryz.checked) false ⟨#[], #[.agg #[.int .i64 0, .int .i64 0, .int .i64 0], .agg #[.int .i64 0, .int .i64 0, .int .i64 0], .agg #[.int .i64 0, .int .i64 0, .int .i64 0]], []⟩ 8 (by kernel_rfl) (by kernel_rfl) (by kernel_rfl) (by kernel_rfl)) ?_
  intro W base args ds gs before hval0 hW hcnd _
  have hval : ∀ (j : Nat) t v, Tryz.f3.params[j]? = some t → args[j]? = some v → Value.okWide Tryz.prog W .any base t v := hval0
  have hW' := hW
  obtain ⟨p, q, hA0, hV, hbef, hfz, hnd⟩ := hW
  have hA : DataW.TrodAll enc Tryz.prog W 0 (fun _ => true) true Tryz.f3.params.toList args.toList ds p := hA0
  rw [Tryz.params3] at hA hval
  obtain ⟨v0, vs0, d0, ds0, p0, q0, hargs, rfl, rfl, g0, r0⟩ := trodAll_cons hA
  obtain ⟨v1, vs1, d1, ds1, p1, q1, rfl, rfl, rfl, g1, r1⟩ := trodAll_cons r0
  obtain ⟨v2, vs2, d2, ds2, p2, q2, rfl, rfl, rfl, g2, r2⟩ := trodAll_cons r1
  obtain ⟨rfl, rfl, rfl⟩ := trodAll_nil r2
  obtain ⟨rfl, rfl⟩ := trodVars_none hV
  obtain rfl : args = #[v0, v1, v2] := by cases args; simp_all
  obtain ⟨q0, hr0, x0, rfl, w0⟩ := xV (op_share_Member_23) (hval 0 23 v0 rfl rfl) g0
  obtain ⟨q1, hr1, x1, rfl, w1⟩ := xV (op_share_Member_23) (hval 1 23 v1 rfl rfl) g1
  obtain ⟨q2, hr2, x2, rfl, w2⟩ := xV (op_anons24_24) (hval 2 24 v2 rfl rfl) g2
  have hplain : fJ x0 x1 x2 = some true := zU _ _ _
  refine (nV _ _ _ true hplain (Env.none W) [v0, v1, v2] ⟨fun b o h => h.elim, ⟨fun _ h => (List.not_mem_nil h).elim⟩⟩ (.cons (rJ (hval 0 23 v0 rfl rfl) (by kernel_rfl) hr0) (.cons (rJ (hval 1 23 v1 rfl rfl) (by kernel_rfl) hr1) (.cons (rJ (hval 2 24 v2 rfl rfl) (by kernel_rfl) hr2) (.nil _))))).mono ?_
  rintro e W' ⟨v, rfl, hb, hr⟩
  obtain rfl := rI hr
  exact ⟨_, rfl, aBn laidOut pars rfl rfl Tryz.underlying4 rfl hW' hb⟩
theorem proved : Rows.ShareNearsSaid :=
  OpenClaim.holds_of_wide 3 Tryz.f3 rfl rfl rfl rfl rfl rfl rfl ⟨rfl, rfl, rfl, rfl, rfl⟩ rfl rfl rfl rfl rfl (by kernel_rfl) Tryz.func3 (by kernel_rfl)
    (of_decide_eq_true (by kernel_rfl)) (by unfold Func.isWrapper; first | (rw [if_pos (by decide +kernel)]; kernel_rfl) | (rw [if_neg (by decide +kernel)]; exact ⟨rfl, rfl⟩))
    (fun os started H enc _ => lifted os started H enc)
end Go.Proofs.YtbacpjjiklkgfaaGreat.lawShareNears
