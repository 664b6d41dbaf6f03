/-
  ControlPlays: for every input the law returns true, and its arguments read behind the call acx they did. No condition.
-/
import Derived.Test.YtpommoochmmmmaaGreatRows
import Derived.Test.YtpommoochmmmmaaGreatIlA29pC2
import Derived.Test.YtpommoochmmmmaaGreatIlO2
set_option linter.all false
set_option linter.unusedVariables false
open Go Go.IL Go.Fn Go.Proofs Go.ChangeShapes Go.WideShapes Go.ChangeAt Go.RowKit
namespace Go.Proofs.YtpommoochmmmmaaGreat.lawControlPlays
def wf_api_Pair (x : aW) : Prop := (IntKind.min .i64 ≤ x.ID ∧ x.ID ≤ IntKind.max .i64) ∧ (IntKind.min .i64 ≤ x.ce ∧ x.ce ≤ IntKind.max .i64)
def wf_frame_Frame (x : aA) : Prop := (IntKind.min .u8 ≤ x.aq ∧ x.aq ≤ IntKind.max .u8) ∧ True ∧ (IntKind.min .i64 ≤ x.bg ∧ x.bg ≤ IntKind.max .i64) ∧ (IntKind.min .i64 ≤ x.bj ∧ x.bj ≤ IntKind.max .i64) ∧ (IntKind.min .i64 ≤ x.cb ∧ x.cb ≤ IntKind.max .i64) ∧ (IntKind.min .i64 ≤ x.bo ∧ x.bo ≤ IntKind.max .i64) ∧ (IntKind.min .i64 ≤ x.N ∧ x.N ≤ IntKind.max .i64) ∧ (IntKind.min .i64 ≤ x.Code ∧ x.Code ≤ IntKind.max .i64) ∧ (x.au.length ≤ 9223372036854775807 ∧ ∀ y ∈ x.au, wf_api_Pair y) ∧ x.aj.length ≤ 9223372036854775807
def wf_sennitlaw29_Act (x : dB) : Prop := (IntKind.min .u8 ≤ x.aq ∧ x.aq ≤ IntKind.max .u8) ∧ wf_frame_Frame x.F ∧ x.cj.length ≤ 9223372036854775807 ∧ (IntKind.min .i64 ≤ x.N ∧ x.N ≤ IntKind.max .i64) ∧ (IntKind.min .i64 ≤ x.M ∧ x.M ≤ IntKind.max .i64)
set_option maxRecDepth 100000 in
theorem op_api_Pair_175 {sp : Bool} : OpD Tryz.prog sp 175 (fun ds => ∃ x : aW, ds = (cP.d x).cells ∧ wf_api_Pair x) := by
  refine OpD.to (aAn (fs := fieldsOf Tryz.prog 175) Tryz.underlying175 (by kernel_rfl) (by kernel_rfl) (.cons (sG Tryz.underlying3) (.cons (sG Tryz.underlying3) .nil))) ?_
  rintro ds ⟨_, _, rfl, ⟨x0, rfl, h0⟩, ⟨_, _, rfl, ⟨x1, rfl, h1⟩, rfl⟩⟩
  exact ⟨⟨x0, x1⟩, rfl, ⟨h0, h1⟩⟩
set_option maxRecDepth 100000 in
theorem op_frame_Frame_57 {sp : Bool} : OpD Tryz.prog sp 57 (fun ds => ∃ x : aA, ds = (bB.d x).cells ∧ wf_frame_Frame x) := by
  refine OpD.to (aAn (fs := fieldsOf Tryz.prog 57) Tryz.underlying57 (by kernel_rfl) (by kernel_rfl) (.cons (sG Tryz.underlying5) (.cons (aLA Tryz.underlying4) (.cons (sG Tryz.underlying3) (.cons (sG Tryz.underlying3) (.cons (sG Tryz.underlying3) (.cons (sG Tryz.underlying3) (.cons (sG Tryz.underlying3) (.cons (sG Tryz.underlying3) (.cons (aEW (f := cP) (wf := fun y => wf_api_Pair y) Tryz.underlying55 (by kernel_rfl) op_api_Pair_175) (.cons (aJB Tryz.underlying9) .nil))))))))))) ?_
  rintro ds ⟨_, _, rfl, ⟨x0, rfl, h0⟩, ⟨_, _, rfl, ⟨x1, rfl⟩, ⟨_, _, rfl, ⟨x2, rfl, h2⟩, ⟨_, _, rfl, ⟨x3, rfl, h3⟩, ⟨_, _, rfl, ⟨x4, rfl, h4⟩, ⟨_, _, rfl, ⟨x5, rfl, h5⟩, ⟨_, _, rfl, ⟨x6, rfl, h6⟩, ⟨_, _, rfl, ⟨x7, rfl, h7⟩, ⟨_, _, rfl, ⟨x8, rfl, h8⟩, ⟨_, _, rfl, ⟨x9, rfl, h9⟩, rfl⟩⟩⟩⟩⟩⟩⟩⟩⟩⟩
  exact ⟨⟨x0, x1, x2, x3, x4, x5, x6, x7, x8, x9⟩, rfl, ⟨h0, trivial, h2, h3, h4, h5, h6, h7, h8, h9⟩⟩
set_option maxRecDepth 100000 in
theorem op_sennitlaw29_Act_59 {sp : Bool} : OpD Tryz.prog sp 59 (fun ds => ∃ x : dB, ds = (oL.d x).cells ∧ wf_sennitlaw29_Act x) := by
  refine OpD.to (aAn (fs := fieldsOf Tryz.prog 59) Tryz.underlying59 (by kernel_rfl) (by kernel_rfl) (.cons (sG Tryz.underlying5) (.cons op_frame_Frame_57 (.cons (aJB Tryz.underlying9) (.cons (sG Tryz.underlying3) (.cons (sG Tryz.underlying3) .nil)))))) ?_
  rintro ds ⟨_, _, rfl, ⟨x0, rfl, h0⟩, ⟨_, _, rfl, ⟨x1, rfl, h1⟩, ⟨_, _, rfl, ⟨x2, rfl, h2⟩, ⟨_, _, rfl, ⟨x3, rfl, h3⟩, ⟨_, _, rfl, ⟨x4, rfl, h4⟩, rfl⟩⟩⟩⟩⟩
  exact ⟨⟨x0, x1, x2, x3, x4⟩, rfl, ⟨h0, h1, h2, h3, h4⟩⟩
theorem own : ownKnob Tryz.prog.godebug = none := by kernel_rfl
theorem laidOut : laidOutB Tryz.prog = true := by kernel_rfl
theorem pars : ∀ t ∈ Tryz.f3.params.toList, Tryz.prog.readableRec t = true ∧ t < Tryz.prog.types.size := of_decide_eq_true (by kernel_rfl)
set_option maxRecDepth 100000 in
theorem lifted (os : Os) (started : os.Started) (H : Type) (enc : TypeId × Value → H) :
    ReturnsInHanded {} Tryz.checked os 3 .any (Rows.controlPlaysSpec.pre6 enc Tryz.prog Tryz.f3 Rows.controlPlaysRow.domain false) (Rows.controlPlaysSpec.post enc Tryz.prog Tryz.f3 false true false false) := by
  refine returnsInHanded_of_change (C := Tryz.checked) own started (by kernel_rfl) Tryz.func3
    (ChangeSpec.witness6 (enc := enc) (C := Tryz.checked) false ⟨#[], #[.slice none 0 0], []⟩ 8 (by kernel_rfl) (by kernel_rfl) (by kernel_rfl) (by kernel_rfl)) ?_
  intro W base args ds gs before hval0 hW hcnd _
  have hval : ∀ (j : Nat) t v, Tryz.f3.params[j]? = some t → args[j]? = some v → Value.okWide Tryz.prog W .any base t v := hval0
  have hW' := hW
  obtain ⟨p, q, hA0, hV, hbef, hfz, hnd⟩ := hW
  have hA : DataW.TrodAll enc Tryz.prog W 0 (fun _ => true) true Tryz.f3.params.toList args.toList ds p := hA0
  rw [Tryz.params3] at hA hval
  obtain ⟨v0, vs0, d0, ds0, p0, q0, hargs, rfl, rfl, g0, r0⟩ := trodAll_cons hA
  obtain ⟨rfl, rfl, rfl⟩ := trodAll_nil r0
  obtain ⟨rfl, rfl⟩ := trodVars_none hV
  obtain rfl : args = #[v0] := by cases args; simp_all
  obtain ⟨q0, hr0, x0, rfl, w0⟩ := opd_val (aEW (f := oL) (wf := fun y => wf_sennitlaw29_Act y) Tryz.underlying22 (by kernel_rfl) op_sennitlaw29_Act_59) (hval 0 22 v0 rfl rfl) g0
  have hplain : fR x0 = some true := aE9 (fun a ha => by have h := w0.2 a ha; simp [wf_sennitlaw29_Act, wf_frame_Frame, IntKind.min, IntKind.max, IntKind.signed, IntKind.bits] at h; exact ⟨by omega, by omega, by omega, by omega⟩)
  refine (uA _ true hplain (Env.none W) [v0] ⟨fun b o h => h.elim, ⟨fun _ h => (List.not_mem_nil h).elim⟩⟩ (.cons (aHp (hval 0 22 v0 rfl rfl) (by kernel_rfl) hr0) (.nil _))).mono ?_
  rintro e W' ⟨v, rfl, hb, hr⟩
  obtain rfl := yY hr
  exact ⟨_, rfl, aLJ laidOut pars rfl rfl Tryz.underlying4 rfl hW' hb⟩
theorem proved : Rows.ControlPlaysSaid :=
  OpenClaim.holds_of_wide 3 Tryz.f3 rfl rfl rfl rfl rfl rfl rfl ⟨rfl, rfl, rfl, rfl, rfl⟩ rfl rfl rfl rfl rfl (by kernel_rfl) Tryz.func3 (by kernel_rfl)
    (of_decide_eq_true (by kernel_rfl)) (by unfold Func.isWrapper; first | (rw [if_pos (by decide +kernel)]; kernel_rfl) | (rw [if_neg (by decide +kernel)]; exact ⟨rfl, rfl⟩))
    (fun os started H enc _ => lifted os started H enc)
end Go.Proofs.YtpommoochmmmmaaGreat.lawControlPlays
