/-
  StrmEnds: for every input the law returns true, and its arguments read behind the call as they did. No condition.
-/
import Derived.Test.YtnokcmkfkfeaiaaGreatRows
import Derived.Test.YtnokcmkfkfeaiaaGreatIlA25bC4
import Derived.Test.YtnokcmkfkfeaiaaGreatIlO2
set_option linter.all false
set_option linter.unusedVariables false
open Go Go.IL Go.Fn Go.Proofs Go.ChangeShapes Go.WideShapes Go.ChangeAt Go.RowKit
namespace Go.Proofs.YtnokcmkfkfeaiaaGreat.lawStrmEnds
def wf_sennitlaw25_Deed (x : cC) : Prop := (IntKind.min .u8 ≤ x.Kind ∧ x.Kind ≤ IntKind.max .u8) ∧ (IntKind.min .u8 ≤ x.N ∧ x.N ≤ IntKind.max .u8) ∧ (IntKind.min .u8 ≤ x.Path ∧ x.Path ≤ IntKind.max .u8) ∧ x.Text.length ≤ 9223372036854775807
set_option maxRecDepth 100000 in
theorem op_sennitlaw25_Deed_30 {sp : Bool} : OpD Tryz.prog sp 30 (fun ds => ∃ x : cC, ds = (cP.d x).cells ∧ wf_sennitlaw25_Deed x) := by
  refine OpD.to (zN (fs := fieldsOf Tryz.prog 30) Tryz.underlying30 (by kernel_rfl) (by kernel_rfl) (.cons (uX Tryz.underlying5) (.cons (uX Tryz.underlying5) (.cons (uX Tryz.underlying5) (.cons (opd_str Tryz.underlying9) .nil))))) ?_
  rintro ds ⟨_, _, rfl, ⟨x0, rfl, h0⟩, ⟨_, _, rfl, ⟨x1, rfl, h1⟩, ⟨_, _, rfl, ⟨x2, rfl, h2⟩, ⟨_, _, rfl, ⟨x3, rfl, h3⟩, rfl⟩⟩⟩⟩
  exact ⟨⟨x0, x1, x2, x3⟩, rfl, ⟨h0, h1, h2, h3⟩⟩
theorem own : ownKnob Tryz.prog.godebug = none := by kernel_rfl
theorem laidOut : laidOutB Tryz.prog = true := by kernel_rfl
theorem pars : ∀ t ∈ Tryz.f4.params.toList, Tryz.prog.readableRec t = true ∧ t < Tryz.prog.types.size := of_decide_eq_true (by kernel_rfl)
set_option maxRecDepth 100000 in
theorem lifted (os : Os) (started : os.Started) (H : Type) (enc : TypeId × Value → H) :
    ReturnsInHanded {} Tryz.checked os 4 .any (Rows.strmEndsSpec.pre6 enc Tryz.prog Tryz.f4 Rows.strmEndsRow.domain false) (Rows.strmEndsSpec.post enc Tryz.prog Tryz.f4 false true false false) := by
  refine returnsInHanded_of_change (C := Tryz.checked) own started (by kernel_rfl) Tryz.func4
    (ChangeSpec.witness6 (enc := enc) (C := Tryz.checked) false ⟨#[], #[.int .u8 0, .slice none 0 0], []⟩ 8 (by kernel_rfl) (by kernel_rfl) (by kernel_rfl) (by kernel_rfl)) ?_
  intro W base args ds gs before hval0 hW hcnd _
  have hval : ∀ (j : Nat) t v, Tryz.f4.params[j]? = some t → args[j]? = some v → Value.okWide Tryz.prog W .any base t v := hval0
  have hW' := hW
  obtain ⟨p, q, hA0, hV, hbef, hfz, hnd⟩ := hW
  have hA : DataW.TrodAll enc Tryz.prog W 0 (fun _ => true) true Tryz.f4.params.toList args.toList ds p := hA0
  rw [Tryz.params4] at hA hval
  obtain ⟨v0, vs0, d0, ds0, p0, q0, hargs, rfl, rfl, g0, r0⟩ := trodAll_cons hA
  obtain ⟨v1, vs1, d1, ds1, p1, q1, rfl, rfl, rfl, g1, r1⟩ := trodAll_cons r0
  obtain ⟨rfl, rfl, rfl⟩ := trodAll_nil r1
  obtain ⟨rfl, rfl⟩ := trodVars_none hV
  obtain rfl : args = #[v0, v1] := by cases args; simp_all
  obtain ⟨q0, hr0, x0, rfl, w0⟩ := aAT (uX Tryz.underlying5) (hval 0 5 v0 rfl rfl) g0
  obtain ⟨q1, hr1, x1, rfl, w1⟩ := aAT (aAU (f := cP) (wf := fun y => wf_sennitlaw25_Deed y) Tryz.underlying22 (by kernel_rfl) op_sennitlaw25_Deed_30) (hval 1 22 v1 rfl rfl) g1
  have hplain : fO x0 x1 = some true := aBJ x0 x1 (by have h := w0; simpa [IntKind.min, IntKind.max, IntKind.signed, IntKind.bits] using h) (fun a ha => by have h := w1.2 a ha; simp [wf_sennitlaw25_Deed, IntKind.min, IntKind.max, IntKind.signed, IntKind.bits] at h; exact ⟨h.1, h.2.1, h.2.2.1⟩)
  refine (nS _ _ true hplain (Env.none W) [v0, v1] (fun b o h => h.elim) (.cons (uC (hval 0 5 v0 rfl rfl) (by kernel_rfl) hr0) (.cons (uC (hval 1 22 v1 rfl rfl) (by kernel_rfl) hr1) (.nil _)))).mono ?_
  rintro e W' ⟨v, rfl, hb, hr⟩
  obtain rfl := qS hr
  exact ⟨_, rfl, aBY laidOut pars rfl rfl Tryz.underlying4 rfl hW' hb⟩
theorem proved : Rows.StrmEndsSaid :=
  OpenClaim.holds_of_wide 4 Tryz.f4 rfl rfl rfl rfl rfl rfl rfl ⟨rfl, rfl, rfl, rfl, rfl⟩ rfl rfl rfl rfl rfl (by kernel_rfl) Tryz.func4 (by kernel_rfl)
    (of_decide_eq_true (by kernel_rfl)) (by unfold Func.isWrapper; first | (rw [if_pos (by decide +kernel)]; kernel_rfl) | (rw [if_neg (by decide +kernel)]; exact ⟨rfl, rfl⟩))
    (fun os started H enc _ => lifted os started H enc)
end Go.Proofs.YtnokcmkfkfeaiaaGreat.lawStrmEnds
