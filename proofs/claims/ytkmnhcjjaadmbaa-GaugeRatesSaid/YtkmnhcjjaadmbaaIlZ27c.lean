/-
  GaugeRates: for every input the law returns true, and its arguments read behind the call as they did. No condition.
-/
import Derived.Test.YtkmnhcjjaadmbaaRows
import Derived.Test.YtkmnhcjjaadmbaaIlA27C2
import Derived.Test.YtkmnhcjjaadmbaaIlP12
import Derived.Test.YtkmnhcjjaadmbaaIlO2
set_option linter.all false
set_option linter.unusedVariables false
open Go Go.IL Go.Fn Go.Proofs Go.ChangeShapes Go.WideShapes Go.ChangeAt Go.RowKit
namespace Go.Proofs.Ytkmnhcjjaadmbaa.lawGaugeRates

theorem own : ownKnob Try.prog.godebug = none := by kernel_rfl
theorem laidOut : laidOutB Try.prog = true := by kernel_rfl
theorem pars : ∀ t ∈ Try.f7.params.toList, Try.prog.readableRec t = true ∧ t < Try.prog.types.size := of_decide_eq_true (by kernel_rfl)
set_option maxRecDepth 100000 in
theorem lifted (os : Os) (started : os.Started) (H : Type) (enc : TypeId × Value → H) :
    ReturnsInHanded {} Try.checked os 7 .any (Rows.gaugeRatesSpec.pre6 enc Try.prog Try.f7 Rows.gaugeRatesRow.domain false) (Rows.gaugeRatesSpec.post enc Try.prog Try.f7 false true false false) := by
  refine returnsInHanded_of_change (C := Try.checked) own started (by kernel_rfl) Try.func7
    (ChangeSpec.witness6 (enc := enc) (C := Try.checked) false ⟨#[], #[.int .u16 0, .int .u16 0], []⟩ 8 (by kernel_rfl) (by kernel_rfl) (by kernel_rfl) (by kernel_rfl)) ?_
  intro W base args ds gs before hval0 hW hcnd _
  have hval : ∀ (j : Nat) t v, Try.f7.params[j]? = some t → args[j]? = some v → Value.okWide Try.prog W .any base t v := hval0
  have hW' := hW
  obtain ⟨p, q, hA0, hV, hbef, hfz, hnd⟩ := hW
  have hA : DataW.TrodAll enc Try.prog W 0 (fun _ => true) true Try.f7.params.toList args.toList ds p := hA0
  rw [Try.params7] at hA hval
  obtain ⟨v0, vs0, d0, ds0, p0, q0, hargs, rfl, rfl, g0, r0⟩ := trodAll_cons hA
  obtain ⟨v1, vs1, d1, ds1, p1, q1, rfl, rfl, rfl, g1, r1⟩ := trodAll_cons r0
  obtain ⟨rfl, rfl, rfl⟩ := trodAll_nil r1
  obtain ⟨rfl, rfl⟩ := trodVars_none hV
  obtain rfl : args = #[v0, v1] := by cases args; simp_all
  obtain ⟨q0, hr0, x0, rfl, w0⟩ := opd_val (opd_int Try.underlying48) (hval 0 48 v0 rfl rfl) g0
  obtain ⟨q1, hr1, x1, rfl, w1⟩ := opd_val (opd_int Try.underlying48) (hval 1 48 v1 rfl rfl) g1
  have hplain : sennitlaw27_GaugeRates x0 x1 = some true := gaugeRates (by have h : IntKind.min .u16 ≤ x0 ∧ x0 ≤ IntKind.max .u16 := w0; simpa [IntKind.min, IntKind.max, IntKind.signed, IntKind.bits] using h) (by have h : IntKind.min .u16 ≤ x1 ∧ x1 ≤ IntKind.max .u16 := w1; simpa [IntKind.min, IntKind.max, IntKind.signed, IntKind.bits] using h)
  refine (p_sennitlaw27_GaugeRates _ _ true hplain (Env.none W) [v0, v1] (fun b o h => h.elim) (.cons (rd_arg_one (hval 0 48 v0 rfl rfl) (by kernel_rfl) hr0) (.cons (rd_arg_one (hval 1 48 v1 rfl rfl) (by kernel_rfl) hr1) (.nil _)))).mono ?_
  rintro e W' ⟨v, rfl, hb, hr⟩
  obtain rfl := rd_bool hr
  exact ⟨_, rfl, law_post laidOut pars rfl rfl Try.underlying4 rfl hW' hb⟩
theorem proved : Rows.GaugeRatesSaid :=
  OpenClaim.holds_of_wide 7 Try.f7 rfl rfl rfl rfl rfl rfl rfl ⟨rfl, rfl, rfl, rfl, rfl⟩ rfl rfl rfl rfl rfl (by kernel_rfl) Try.func7 (by kernel_rfl)
    (of_decide_eq_true (by kernel_rfl)) (by unfold Func.isWrapper; first | (rw [if_pos (by decide +kernel)]; kernel_rfl) | (rw [if_neg (by decide +kernel)]; exact ⟨rfl, rfl⟩))
    (fun os started H enc _ => lifted os started H enc)
end Go.Proofs.Ytkmnhcjjaadmbaa.lawGaugeRates
