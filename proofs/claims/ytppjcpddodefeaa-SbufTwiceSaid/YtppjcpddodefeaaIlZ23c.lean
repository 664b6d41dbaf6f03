/-
  SbufTwice: for every input the law returns true, and its arguments read behind the call as they did. No condition.
-/
import Derived.Test.YtppjcpddodefeaaRows
import Derived.Test.YtppjcpddodefeaaIlA23C2
import Derived.Test.YtppjcpddodefeaaIlO2
set_option linter.all false
set_option linter.unusedVariables false
open Go Go.IL Go.Fn Go.Proofs Go.ChangeShapes Go.WideShapes Go.ChangeAt Go.RowKit
namespace Go.Proofs.Ytppjcpddodefeaa.lawSbufTwice
def wf_sennitlaw23_Act (x : T_sennitlaw23_Act) : Prop := (IntKind.min .u8 ≤ x.Kind ∧ x.Kind ≤ IntKind.max .u8) ∧ (IntKind.min .u8 ≤ x.N ∧ x.N ≤ IntKind.max .u8) ∧ (IntKind.min .u8 ≤ x.Path ∧ x.Path ≤ IntKind.max .u8) ∧ True
set_option maxRecDepth 100000 in
theorem op_sennitlaw23_Act_34 {sp : Bool} : OpD Try.prog sp 34 (fun ds => ∃ x : T_sennitlaw23_Act, ds = (E_sennitlaw23_Act.d x).cells ∧ wf_sennitlaw23_Act x) := by
  refine OpD.to (opd_struct (fs := fieldsOf Try.prog 34) Try.underlying34 (by kernel_rfl) (by kernel_rfl) (.cons (opd_int Try.underlying5) (.cons (opd_int Try.underlying5) (.cons (opd_int Try.underlying5) (.cons (opd_bool Try.underlying4) .nil))))) ?_
  rintro ds ⟨_, _, rfl, ⟨x0, rfl, h0⟩, ⟨_, _, rfl, ⟨x1, rfl, h1⟩, ⟨_, _, rfl, ⟨x2, rfl, h2⟩, ⟨_, _, rfl, ⟨x3, rfl⟩, rfl⟩⟩⟩⟩
  exact ⟨⟨x0, x1, x2, x3⟩, rfl, ⟨h0, h1, h2, trivial⟩⟩
theorem own : ownKnob Try.prog.godebug = none := by kernel_rfl
theorem laidOut : laidOutB Try.prog = true := by kernel_rfl
theorem pars : ∀ t ∈ Try.f5.params.toList, Try.prog.readableRec t = true ∧ t < Try.prog.types.size := of_decide_eq_true (by kernel_rfl)
set_option maxRecDepth 100000 in
theorem lifted (os : Os) (started : os.Started) (H : Type) (enc : TypeId × Value → H) :
    ReturnsInHanded {} Try.checked os 5 .any (Rows.sbufTwiceSpec.pre6 enc Try.prog Try.f5 Rows.sbufTwiceRow.domain false) (Rows.sbufTwiceSpec.post enc Try.prog Try.f5 false true false false) := by
  refine returnsInHanded_of_change (C := Try.checked) own started (by kernel_rfl) Try.func5
    (ChangeSpec.witness6 (enc := enc) (C := Try.checked) false ⟨#[], #[.slice none 0 0, .int .u8 0, .int .u8 0], []⟩ 8 (by kernel_rfl) (by kernel_rfl) (by kernel_rfl) (by kernel_rfl)) ?_
  intro W base args ds gs before hval0 hW hcnd _
  have hval : ∀ (j : Nat) t v, Try.f5.params[j]? = some t → args[j]? = some v → Value.okWide Try.prog W .any base t v := hval0
  have hW' := hW
  obtain ⟨p, q, hA0, hV, hbef, hfz, hnd⟩ := hW
  have hA : DataW.TrodAll enc Try.prog W 0 (fun _ => true) true Try.f5.params.toList args.toList ds p := hA0
  rw [Try.params5] at hA hval
  obtain ⟨v0, vs0, d0, ds0, p0, q0, hargs, rfl, rfl, g0, r0⟩ := trodAll_cons hA
  obtain ⟨v1, vs1, d1, ds1, p1, q1, rfl, rfl, rfl, g1, r1⟩ := trodAll_cons r0
  obtain ⟨v2, vs2, d2, ds2, p2, q2, rfl, rfl, rfl, g2, r2⟩ := trodAll_cons r1
  obtain ⟨rfl, rfl, rfl⟩ := trodAll_nil r2
  obtain ⟨rfl, rfl⟩ := trodVars_none hV
  obtain rfl : args = #[v0, v1, v2] := by cases args; simp_all
  obtain ⟨q0, hr0, x0, rfl, w0⟩ := opd_val (opd_slice (f := E_sennitlaw23_Act) (wf := fun y => wf_sennitlaw23_Act y) Try.underlying22 (by kernel_rfl) op_sennitlaw23_Act_34) (hval 0 22 v0 rfl rfl) g0
  obtain ⟨q1, hr1, x1, rfl, w1⟩ := opd_val (opd_int Try.underlying5) (hval 1 5 v1 rfl rfl) g1
  obtain ⟨q2, hr2, x2, rfl, w2⟩ := opd_val (opd_int Try.underlying5) (hval 2 5 v2 rfl rfl) g2
  have hplain : sennitlaw23_SbufTwice x0 x1 x2 = some true := sbufTwice x0 x1 x2 (fun a ha => by have h := w0.2 a ha; simpa [act23, wf_sennitlaw23_Act, IntKind.min, IntKind.max, IntKind.signed, IntKind.bits] using h) (by have h := w1; simpa [IntKind.min, IntKind.max, IntKind.signed, IntKind.bits] using h) (by have h := w2; simpa [IntKind.min, IntKind.max, IntKind.signed, IntKind.bits] using h)
  refine (p_sennitlaw23_SbufTwice _ _ _ true hplain (Env.none W) [v0, v1, v2] (fun b o h => h.elim) (.cons (rd_arg_one (hval 0 22 v0 rfl rfl) (by kernel_rfl) hr0) (.cons (rd_arg_one (hval 1 5 v1 rfl rfl) (by kernel_rfl) hr1) (.cons (rd_arg_one (hval 2 5 v2 rfl rfl) (by kernel_rfl) hr2) (.nil _))))).mono ?_
  rintro e W' ⟨v, rfl, hb, hr⟩
  obtain rfl := rd_bool hr
  exact ⟨_, rfl, law_post laidOut pars rfl rfl Try.underlying4 rfl hW' hb⟩
theorem proved : Rows.SbufTwiceSaid :=
  OpenClaim.holds_of_wide 5 Try.f5 rfl rfl rfl rfl rfl rfl rfl ⟨rfl, rfl, rfl, rfl, rfl⟩ rfl rfl rfl rfl rfl (by kernel_rfl) Try.func5 (by kernel_rfl)
    (of_decide_eq_true (by kernel_rfl)) (by unfold Func.isWrapper; first | (rw [if_pos (by decide +kernel)]; kernel_rfl) | (rw [if_neg (by decide +kernel)]; exact ⟨rfl, rfl⟩))
    (fun os started H enc _ => lifted os started H enc)
end Go.Proofs.Ytppjcpddodefeaa.lawSbufTwice
