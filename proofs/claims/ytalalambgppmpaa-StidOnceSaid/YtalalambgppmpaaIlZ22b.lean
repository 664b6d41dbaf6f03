/-
  StidOnce: for every input the law returns true, and its arguments read behind the call as they did. No condition.
-/
import Derived.Test.YtalalambgppmpaaRows
import Derived.Test.YtalalambgppmpaaIlA22bC2
import Derived.Test.YtalalambgppmpaaIlP29
import Derived.Test.YtalalambgppmpaaIlO2
set_option linter.all false
set_option linter.unusedVariables false
open Go Go.IL Go.Fn Go.Proofs Go.ChangeShapes Go.WideShapes Go.ChangeAt Go.RowKit
namespace Go.Proofs.Ytalalambgppmpaa.lawStidOnce
def wf_sennitlaw22_Act (x : T_sennitlaw22_Act) : Prop := (IntKind.min .u8 ≤ x.Kind ∧ x.Kind ≤ IntKind.max .u8) ∧ (IntKind.min .u8 ≤ x.ID ∧ x.ID ≤ IntKind.max .u8)
set_option maxRecDepth 100000 in
theorem op_sennitlaw22_Act_63 {sp : Bool} : OpD Try.prog sp 63 (fun ds => ∃ x : T_sennitlaw22_Act, ds = (E_sennitlaw22_Act.d x).cells ∧ wf_sennitlaw22_Act x) := by
  refine OpD.to (opd_struct (fs := fieldsOf Try.prog 63) Try.underlying63 (by kernel_rfl) (by kernel_rfl) (.cons (opd_int Try.underlying5) (.cons (opd_int Try.underlying5) .nil))) ?_
  rintro ds ⟨_, _, rfl, ⟨x0, rfl, h0⟩, ⟨_, _, rfl, ⟨x1, rfl, h1⟩, rfl⟩⟩
  exact ⟨⟨x0, x1⟩, rfl, ⟨h0, h1⟩⟩
theorem own : ownKnob Try.prog.godebug = none := by kernel_rfl
theorem laidOut : laidOutB Try.prog = true := by kernel_rfl
theorem pars : ∀ t ∈ Try.f4.params.toList, Try.prog.readableRec t = true ∧ t < Try.prog.types.size := of_decide_eq_true (by kernel_rfl)
set_option maxRecDepth 100000 in
theorem lifted (os : Os) (started : os.Started) (H : Type) (enc : TypeId × Value → H) :
    ReturnsInHanded {} Try.checked os 4 .any (Rows.stidOnceSpec.pre6 enc Try.prog Try.f4 Rows.stidOnceRow.domain false) (Rows.stidOnceSpec.post enc Try.prog Try.f4 false true false false) := by
  refine returnsInHanded_of_change (C := Try.checked) own started (by kernel_rfl) Try.func4
    (ChangeSpec.witness6 (enc := enc) (C := Try.checked) false ⟨#[], #[.bool false, .slice none 0 0], []⟩ 8 (by kernel_rfl) (by kernel_rfl) (by kernel_rfl) (by kernel_rfl)) ?_
  intro W base args ds gs before hval0 hW hcnd _
  have hval : ∀ (j : Nat) t v, Try.f4.params[j]? = some t → args[j]? = some v → Value.okWide Try.prog W .any base t v := hval0
  have hW' := hW
  obtain ⟨p, q, hA0, hV, hbef, hfz, hnd⟩ := hW
  have hA : DataW.TrodAll enc Try.prog W 0 (fun _ => true) true Try.f4.params.toList args.toList ds p := hA0
  rw [Try.params4] at hA hval
  obtain ⟨v0, vs0, d0, ds0, p0, q0, hargs, rfl, rfl, g0, r0⟩ := trodAll_cons hA
  obtain ⟨v1, vs1, d1, ds1, p1, q1, rfl, rfl, rfl, g1, r1⟩ := trodAll_cons r0
  obtain ⟨rfl, rfl, rfl⟩ := trodAll_nil r1
  obtain ⟨rfl, rfl⟩ := trodVars_none hV
  obtain rfl : args = #[v0, v1] := by cases args; simp_all
  obtain ⟨q0, hr0, x0, rfl⟩ := opd_val (opd_bool Try.underlying4) (hval 0 4 v0 rfl rfl) g0
  have w0 : True := trivial
  obtain ⟨q1, hr1, x1, rfl, w1⟩ := opd_val (opd_slice (f := E_sennitlaw22_Act) (wf := fun y => wf_sennitlaw22_Act y) Try.underlying58 (by kernel_rfl) op_sennitlaw22_Act_63) (hval 1 58 v1 rfl rfl) g1
  have hplain : sennitlaw22_StidOnce x0 x1 = some true := stidOnce x0 x1 (fun a ha => by have h := w1.2 a ha; simpa [actOk, wf_sennitlaw22_Act, IntKind.min, IntKind.max, IntKind.signed, IntKind.bits] using h)
  refine (p_sennitlaw22_StidOnce _ _ true hplain (Env.none W) [v0, v1] (fun b o h => h.elim) (.cons (rd_arg_one (hval 0 4 v0 rfl rfl) (by kernel_rfl) hr0) (.cons (rd_arg_one (hval 1 58 v1 rfl rfl) (by kernel_rfl) hr1) (.nil _)))).mono ?_
  rintro e W' ⟨v, rfl, hb, hr⟩
  obtain rfl := rd_bool hr
  exact ⟨_, rfl, law_post laidOut pars rfl rfl Try.underlying4 rfl hW' hb⟩
theorem proved : Rows.StidOnceSaid :=
  OpenClaim.holds_of_wide 4 Try.f4 rfl rfl rfl rfl rfl rfl rfl ⟨rfl, rfl, rfl, rfl, rfl⟩ rfl rfl rfl rfl rfl (by kernel_rfl) Try.func4 (by kernel_rfl)
    (of_decide_eq_true (by kernel_rfl)) (by unfold Func.isWrapper; first | (rw [if_pos (by decide +kernel)]; kernel_rfl) | (rw [if_neg (by decide +kernel)]; exact ⟨rfl, rfl⟩))
    (fun os started H enc _ => lifted os started H enc)
end Go.Proofs.Ytalalambgppmpaa.lawStidOnce
