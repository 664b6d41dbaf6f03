/-
  ShareFair: for every input the law returns true, and its arguments read behind the call acx they did. No condition.
-/
import Derived.Test.YtbacpjjiklkgfaaGreatRows
import Derived.Test.YtbacpjjiklkgfaaGreatIlA20C5
import Derived.Test.YtbacpjjiklkgfaaGreatIlO2
set_option linter.all false
set_option linter.unusedVariables false
open Go Go.IL Go.Fn Go.Proofs Go.ChangeShapes Go.WideShapes Go.ChangeAt Go.RowKit
namespace Go.Proofs.YtbacpjjiklkgfaaGreat.lawShareFair

theorem own : ownKnob Tryz.prog.godebug = none := by kernel_rfl
theorem laidOut : laidOutB Tryz.prog = true := by kernel_rfl
theorem pars : ∀ t ∈ Tryz.f4.params.toList, Tryz.prog.readableRec t = true ∧ t < Tryz.prog.types.size := of_decide_eq_true (by kernel_rfl)
set_option maxRecDepth 100000 in
theorem lifted (os : Os) (started : os.Started) (H : Type) (enc : TypeId × Value → H) :
    ReturnsInHanded {} Tryz.checked os 4 .any (Rows.shareFairSpec.pre6 enc Tryz.prog Tryz.f4 Rows.shareFairRow.domain false) (Rows.shareFairSpec.post enc Tryz.prog Tryz.f4 false true false false) := by
  refine returnsInHanded_of_change (C := Tryz.checked) own started (by kernel_rfl) Tryz.func4
    (ChangeSpec.witness6 (enc := enc) (C := Tryz.checked) false ⟨#[], #[.slice none 0 0, .slice none 0 0, .int .u8 0], []⟩ 8 (by kernel_rfl) (by kernel_rfl) (by kernel_rfl) (by kernel_rfl)) ?_
  intro W base args ds gs before hval0 hW hcnd _
  have hval : ∀ (j : Nat) t v, Tryz.f4.params[j]? = some t → args[j]? = some v → Value.okWide Tryz.prog W .any base t v := hval0
  have hW' := hW
  obtain ⟨p, q, hA0, hV, hbef, hfz, hnd⟩ := hW
  have hA : DataW.TrodAll enc Tryz.prog W 0 (fun _ => true) true Tryz.f4.params.toList args.toList ds p := hA0
  rw [Tryz.params4] at hA hval
  obtain ⟨v0, vs0, d0, ds0, p0, q0, hargs, rfl, rfl, g0, r0⟩ := trodAll_cons hA
  obtain ⟨v1, vs1, d1, ds1, p1, q1, rfl, rfl, rfl, g1, r1⟩ := trodAll_cons r0
  obtain ⟨v2, vs2, d2, ds2, p2, q2, rfl, rfl, rfl, g2, r2⟩ := trodAll_cons r1
  obtain ⟨rfl, rfl, rfl⟩ := trodAll_nil r2
  obtain ⟨rfl, rfl⟩ := trodVars_none hV
  obtain rfl : args = #[v0, v1, v2] := by cases args; simp_all
  obtain ⟨q0, hr0, x0, rfl, w0⟩ := aBg (aAw (f := tU) (wf := fun y => True) Tryz.underlying31 (by kernel_rfl) (OpD.to (aFl Tryz.underlying5) fun ds ⟨a, h⟩ => ⟨a, h, trivial⟩)) (hval 0 31 v0 rfl rfl) g0
  obtain ⟨q1, hr1, x1, rfl, w1⟩ := aBg (aAw (f := (eInt .u16)) (wf := fun y => (IntKind.min .u16 ≤ y ∧ y ≤ IntKind.max .u16)) Tryz.underlying32 (by kernel_rfl) (OpD.to (aD6 Tryz.underlying43) fun ds ⟨a, h, k⟩ => ⟨a, h, k⟩)) (hval 1 32 v1 rfl rfl) g1
  obtain ⟨q2, hr2, x2, rfl, w2⟩ := aBg (aD6 Tryz.underlying5) (hval 2 5 v2 rfl rfl) g2
  have hplain : iQ x0 x1 x2 = some true := aDq (fun a ha => by have h : IntKind.min .u16 ≤ a ∧ a ≤ IntKind.max .u16 := w1.2 a ha; simp [IntKind.min, IntKind.max, IntKind.signed, IntKind.bits] at h; omega)
  refine (qG _ _ _ true hplain (Env.none W) [v0, v1, v2] ⟨fun b o h => h.elim, ⟨fun _ h => (List.not_mem_nil h).elim⟩⟩ (.cons (uD (hval 0 31 v0 rfl rfl) (by kernel_rfl) hr0) (.cons (uD (hval 1 32 v1 rfl rfl) (by kernel_rfl) hr1) (.cons (uD (hval 2 5 v2 rfl rfl) (by kernel_rfl) hr2) (.nil _))))).mono ?_
  rintro e W' ⟨v, rfl, hb, hr⟩
  obtain rfl := aAB hr
  exact ⟨_, rfl, aFw laidOut pars rfl rfl Tryz.underlying4 rfl hW' hb⟩
theorem proved : Rows.ShareFairSaid :=
  OpenClaim.holds_of_wide 4 Tryz.f4 rfl rfl rfl rfl rfl rfl rfl ⟨rfl, rfl, rfl, rfl, rfl⟩ rfl rfl rfl rfl rfl (by kernel_rfl) Tryz.func4 (by kernel_rfl)
    (of_decide_eq_true (by kernel_rfl)) (by unfold Func.isWrapper; first | (rw [if_pos (by decide +kernel)]; kernel_rfl) | (rw [if_neg (by decide +kernel)]; exact ⟨rfl, rfl⟩))
    (fun os started H enc _ => lifted os started H enc)
end Go.Proofs.YtbacpjjiklkgfaaGreat.lawShareFair
