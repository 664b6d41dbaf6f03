/-
  GaugeOrders: for every input the law returns true, and its arguments read behind the call as they did. No condition.
-/
import Derived.Test.YtkmnhcjjaadmbaaRows
import Derived.Test.YtkmnhcjjaadmbaaIlA27C2
import Derived.Test.YtkmnhcjjaadmbaaIlP16
import Derived.Test.YtkmnhcjjaadmbaaIlO2
set_option linter.all false
set_option linter.unusedVariables false
open Go Go.IL Go.Fn Go.Proofs Go.ChangeShapes Go.WideShapes Go.ChangeAt Go.RowKit
namespace Go.Proofs.Ytkmnhcjjaadmbaa.lawGaugeOrders

theorem own : ownKnob Try.prog.godebug = none := by kernel_rfl
theorem laidOut : laidOutB Try.prog = true := by kernel_rfl
theorem pars : ∀ t ∈ Try.f4.params.toList, Try.prog.readableRec t = true ∧ t < Try.prog.types.size := of_decide_eq_true (by kernel_rfl)
set_option maxRecDepth 100000 in
theorem lifted (os : Os) (started : os.Started) (H : Type) (enc : TypeId × Value → H) :
    ReturnsInHanded {} Try.checked os 4 .any (Rows.gaugeOrdersSpec.pre6 enc Try.prog Try.f4 Rows.gaugeOrdersRow.domain false) (Rows.gaugeOrdersSpec.post enc Try.prog Try.f4 false true false false) := by
  refine returnsInHanded_of_change (C := Try.checked) own started (by kernel_rfl) Try.func4
    (ChangeSpec.witness6 (enc := enc) (C := Try.checked) false ⟨#[], #[.slice none 0 0], []⟩ 8 (by kernel_rfl) (by kernel_rfl) (by kernel_rfl) (by kernel_rfl)) ?_
  intro W base args ds gs before hval0 hW hcnd _
  have hval : ∀ (j : Nat) t v, Try.f4.params[j]? = some t → args[j]? = some v → Value.okWide Try.prog W .any base t v := hval0
  have hW' := hW
  obtain ⟨p, q, hA0, hV, hbef, hfz, hnd⟩ := hW
  have hA : DataW.TrodAll enc Try.prog W 0 (fun _ => true) true Try.f4.params.toList args.toList ds p := hA0
  rw [Try.params4] at hA hval
  obtain ⟨v0, vs0, d0, ds0, p0, q0, hargs, rfl, rfl, g0, r0⟩ := trodAll_cons hA
  obtain ⟨rfl, rfl, rfl⟩ := trodAll_nil r0
  obtain ⟨rfl, rfl⟩ := trodVars_none hV
  obtain rfl : args = #[v0] := by cases args; simp_all
  obtain ⟨q0, hr0, x0, rfl, w0⟩ := opd_val (opd_slice (f := (eInt .u64)) (wf := fun y => (IntKind.min .u64 ≤ y ∧ y ≤ IntKind.max .u64)) Try.underlying34 (by kernel_rfl) (OpD.to (opd_int Try.underlying22) fun ds ⟨a, h, k⟩ => ⟨a, h, k⟩)) (hval 0 34 v0 rfl rfl) g0
  have hplain : sennitlaw27_GaugeOrders x0 = some true := gaugeOrders (fun x hx => by have h := w0.2 x hx; simpa [IntKind.min, IntKind.max, IntKind.signed, IntKind.bits] using h)
  refine (p_sennitlaw27_GaugeOrders _ true hplain (Env.none W) [v0] (fun b o h => h.elim) (.cons (rd_arg_one (hval 0 34 v0 rfl rfl) (by kernel_rfl) hr0) (.nil _))).mono ?_
  rintro e W' ⟨v, rfl, hb, hr⟩
  obtain rfl := rd_bool hr
  exact ⟨_, rfl, law_post laidOut pars rfl rfl Try.underlying4 rfl hW' hb⟩
theorem proved : Rows.GaugeOrdersSaid :=
  OpenClaim.holds_of_wide 4 Try.f4 rfl rfl rfl rfl rfl rfl rfl ⟨rfl, rfl, rfl, rfl, rfl⟩ rfl rfl rfl rfl rfl (by kernel_rfl) Try.func4 (by kernel_rfl)
    (of_decide_eq_true (by kernel_rfl)) (by unfold Func.isWrapper; first | (rw [if_pos (by decide +kernel)]; kernel_rfl) | (rw [if_neg (by decide +kernel)]; exact ⟨rfl, rfl⟩))
    (fun os started H enc _ => lifted os started H enc)
end Go.Proofs.Ytkmnhcjjaadmbaa.lawGaugeOrders
