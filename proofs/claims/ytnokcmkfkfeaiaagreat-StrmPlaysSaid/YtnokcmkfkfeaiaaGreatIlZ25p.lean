/-
  StrmPlays: for every input the law returns true, and its arguments read behind the call acx they did. No condition.
-/
import Derived.Test.YtnokcmkfkfeaiaaGreatRows
import Derived.Test.YtnokcmkfkfeaiaaGreatIlA25pC4
import Derived.Test.YtnokcmkfkfeaiaaGreatIlO2
set_option linter.all false
set_option linter.unusedVariables false
open Go Go.IL Go.Fn Go.Proofs Go.ChangeShapes Go.WideShapes Go.ChangeAt Go.RowKit
namespace Go.Proofs.YtnokcmkfkfeaiaaGreat.lawStrmPlays
def wf_anon56 (x : tW) : Prop := (IntKind.min .i64 ≤ x.c0 ∧ x.c0 ≤ IntKind.max .i64) ∧ (IntKind.min .i64 ≤ x.c1 ∧ x.c1 ≤ IntKind.max .i64) ∧ (IntKind.min .i64 ≤ x.c2 ∧ x.c2 ≤ IntKind.max .i64)
set_option maxRecDepth 100000 in
theorem op_anon56_56 {sp : Bool} : OpD Tryz.prog sp 56 (fun ds => ∃ x : tW, ds = (aGN.d x).cells ∧ wf_anon56 x) := by
  refine OpD.to (aEw Tryz.underlying56 (by kernel_rfl) (aBk Tryz.underlying3)) ?_
  rintro ds ⟨_, _, rfl, ⟨x0, rfl, h0⟩, ⟨_, _, rfl, ⟨x1, rfl, h1⟩, ⟨_, _, rfl, ⟨x2, rfl, h2⟩, rfl⟩⟩⟩
  exact ⟨⟨x0, x1, x2⟩, rfl, ⟨h0, h1, h2⟩⟩
def wf_sennitlaw25_Act (x : dC) : Prop := (IntKind.min .u8 ≤ x.Kind ∧ x.Kind ≤ IntKind.max .u8) ∧ x.Text.length ≤ 9223372036854775807 ∧ (IntKind.min .i64 ≤ x.N ∧ x.N ≤ IntKind.max .i64) ∧ (IntKind.min .i64 ≤ x.M ∧ x.M ≤ IntKind.max .i64) ∧ True
set_option maxRecDepth 100000 in
theorem op_sennitlaw25_Act_85 {sp : Bool} : OpD Tryz.prog sp 85 (fun ds => ∃ x : dC, ds = (cQ.d x).cells ∧ wf_sennitlaw25_Act x) := by
  refine OpD.to (aEF (fs := fieldsOf Tryz.prog 85) Tryz.underlying85 (by kernel_rfl) (by kernel_rfl) (.cons (aBk Tryz.underlying5) (.cons (opd_str Tryz.underlying9) (.cons (aBk Tryz.underlying3) (.cons (aBk Tryz.underlying3) (.cons (aFy Tryz.underlying4) .nil)))))) ?_
  rintro ds ⟨_, _, rfl, ⟨x0, rfl, h0⟩, ⟨_, _, rfl, ⟨x1, rfl, h1⟩, ⟨_, _, rfl, ⟨x2, rfl, h2⟩, ⟨_, _, rfl, ⟨x3, rfl, h3⟩, ⟨_, _, rfl, ⟨x4, rfl⟩, rfl⟩⟩⟩⟩⟩
  exact ⟨⟨x0, x1, x2, x3, x4⟩, rfl, ⟨h0, h1, h2, h3, trivial⟩⟩
theorem own : ownKnob Tryz.prog.godebug = none := by kernel_rfl
theorem laidOut : laidOutB Tryz.prog = true := by kernel_rfl
theorem pars : ∀ t ∈ Tryz.f5.params.toList, Tryz.prog.readableRec t = true ∧ t < Tryz.prog.types.size := of_decide_eq_true (by kernel_rfl)
set_option maxRecDepth 100000 in
theorem lifted (os : Os) (started : os.Started) (H : Type) (enc : TypeId × Value → H) :
    ReturnsInHanded {} Tryz.checked os 5 .any (Rows.strmPlaysSpec.pre6 enc Tryz.prog Tryz.f5 Rows.strmPlaysRow.domain false) (Rows.strmPlaysSpec.post enc Tryz.prog Tryz.f5 false true false false) := by
  refine returnsInHanded_of_change (C := Tryz.checked) own started (by kernel_rfl) Tryz.func5
    (ChangeSpec.witness6 (enc := enc) (C := Tryz.checked) false ⟨#[], #[.agg #[.int .i64 0, .int .i64 0, .int .i64 0], .slice none 0 0], []⟩ 8 (by kernel_rfl) (by kernel_rfl) (by kernel_rfl) (by kernel_rfl)) ?_
  intro W base args ds gs before hval0 hW hcnd _
  have hval : ∀ (j : Nat) t v, Tryz.f5.params[j]? = some t → args[j]? = some v → Value.okWide Tryz.prog W .any base t v := hval0
  have hW' := hW
  obtain ⟨p, q, hA0, hV, hbef, hfz, hnd⟩ := hW
  have hA : DataW.TrodAll enc Tryz.prog W 0 (fun _ => true) true Tryz.f5.params.toList args.toList ds p := hA0
  rw [Tryz.params5] at hA hval
  obtain ⟨v0, vs0, d0, ds0, p0, q0, hargs, rfl, rfl, g0, r0⟩ := trodAll_cons hA
  obtain ⟨v1, vs1, d1, ds1, p1, q1, rfl, rfl, rfl, g1, r1⟩ := trodAll_cons r0
  obtain ⟨rfl, rfl, rfl⟩ := trodAll_nil r1
  obtain ⟨rfl, rfl⟩ := trodVars_none hV
  obtain rfl : args = #[v0, v1] := by cases args; simp_all
  obtain ⟨q0, hr0, x0, rfl, w0⟩ := aEu (op_anon56_56) (hval 0 56 v0 rfl rfl) g0
  obtain ⟨q1, hr1, x1, rfl, w1⟩ := aEu (aEv (f := cQ) (wf := fun y => wf_sennitlaw25_Act y) Tryz.underlying57 (by kernel_rfl) op_sennitlaw25_Act_85) (hval 1 57 v1 rfl rfl) g1
  have hplain : iE x0 x1 = some true := aEY (fun a ha => by have h := w1.2 a ha; simp [wf_sennitlaw25_Act, IntKind.min, IntKind.max, IntKind.signed, IntKind.bits] at h; exact ⟨by omega, by omega, by omega⟩)
  refine (tM _ _ true hplain (Env.none W) [v0, v1] ⟨fun b o h => h.elim, ⟨fun _ h => (List.not_mem_nil h).elim⟩⟩ (.cons (aD9 (hval 0 56 v0 rfl rfl) (by kernel_rfl) hr0) (.cons (aD8 (hval 1 57 v1 rfl rfl) (by kernel_rfl) hr1) (.nil _)))).mono ?_
  rintro e W' ⟨v, rfl, hb, hr⟩
  obtain rfl := zD hr
  exact ⟨_, rfl, aF3 laidOut pars rfl rfl Tryz.underlying4 rfl hW' hb⟩
theorem proved : Rows.StrmPlaysSaid :=
  OpenClaim.holds_of_wide 5 Tryz.f5 rfl rfl rfl rfl rfl rfl rfl ⟨rfl, rfl, rfl, rfl, rfl⟩ rfl rfl rfl rfl rfl (by kernel_rfl) Tryz.func5 (by kernel_rfl)
    (of_decide_eq_true (by kernel_rfl)) (by unfold Func.isWrapper; first | (rw [if_pos (by decide +kernel)]; kernel_rfl) | (rw [if_neg (by decide +kernel)]; exact ⟨rfl, rfl⟩))
    (fun os started H enc _ => lifted os started H enc)
end Go.Proofs.YtnokcmkfkfeaiaaGreat.lawStrmPlays
