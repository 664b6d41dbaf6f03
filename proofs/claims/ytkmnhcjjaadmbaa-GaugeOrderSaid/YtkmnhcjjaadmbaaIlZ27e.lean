/-
  GaugeOrder: for every input the law returns true, and its arguments read behind the call as they did. No condition.
-/
import Derived.Test.YtkmnhcjjaadmbaaRows
import Derived.Test.YtkmnhcjjaadmbaaIlA27C2
import Derived.Test.YtkmnhcjjaadmbaaIlP17
import Derived.Test.YtkmnhcjjaadmbaaIlO2
set_option linter.all false
set_option linter.unusedVariables false
open Go Go.IL Go.Fn Go.Proofs Go.ChangeShapes Go.WideShapes Go.ChangeAt Go.RowKit
namespace Go.Proofs.Ytkmnhcjjaadmbaa.lawGaugeOrder
def wf_anon43 (x : T_anon43) : Prop := (IntKind.min .u64 ≤ x.c0 ∧ x.c0 ≤ IntKind.max .u64) ∧ (IntKind.min .u64 ≤ x.c1 ∧ x.c1 ≤ IntKind.max .u64) ∧ (IntKind.min .u64 ≤ x.c2 ∧ x.c2 ≤ IntKind.max .u64)
set_option maxRecDepth 100000 in
theorem op_anon43_43 {sp : Bool} : OpD Try.prog sp 43 (fun ds => ∃ x : T_anon43, ds = (E_anon43.d x).cells ∧ wf_anon43 x) := by
  refine OpD.to (opd_array Try.underlying43 (by kernel_rfl) (opd_int Try.underlying22)) ?_
  rintro ds ⟨_, _, rfl, ⟨x0, rfl, h0⟩, ⟨_, _, rfl, ⟨x1, rfl, h1⟩, ⟨_, _, rfl, ⟨x2, rfl, h2⟩, rfl⟩⟩⟩
  exact ⟨⟨x0, x1, x2⟩, rfl, ⟨h0, h1, h2⟩⟩
theorem own : ownKnob Try.prog.godebug = none := by kernel_rfl
theorem laidOut : laidOutB Try.prog = true := by kernel_rfl
theorem pars : ∀ t ∈ Try.f5.params.toList, Try.prog.readableRec t = true ∧ t < Try.prog.types.size := of_decide_eq_true (by kernel_rfl)
set_option maxRecDepth 100000 in
theorem lifted (os : Os) (started : os.Started) (H : Type) (enc : TypeId × Value → H) :
    ReturnsInHanded {} Try.checked os 5 .any (Rows.gaugeOrderSpec.pre6 enc Try.prog Try.f5 Rows.gaugeOrderRow.domain false) (Rows.gaugeOrderSpec.post enc Try.prog Try.f5 false true false false) := by
  refine returnsInHanded_of_change (C := Try.checked) own started (by kernel_rfl) Try.func5
    (ChangeSpec.witness6 (enc := enc) (C := Try.checked) false ⟨#[], #[.agg #[.int .u64 0, .int .u64 0, .int .u64 0], .slice none 0 0], []⟩ 8 (by kernel_rfl) (by kernel_rfl) (by kernel_rfl) (by kernel_rfl)) ?_
  intro W base args ds gs before hval0 hW hcnd _
  have hval : ∀ (j : Nat) t v, Try.f5.params[j]? = some t → args[j]? = some v → Value.okWide Try.prog W .any base t v := hval0
  have hW' := hW
  obtain ⟨p, q, hA0, hV, hbef, hfz, hnd⟩ := hW
  have hA : DataW.TrodAll enc Try.prog W 0 (fun _ => true) true Try.f5.params.toList args.toList ds p := hA0
  rw [Try.params5] at hA hval
  obtain ⟨v0, vs0, d0, ds0, p0, q0, hargs, rfl, rfl, g0, r0⟩ := trodAll_cons hA
  obtain ⟨v1, vs1, d1, ds1, p1, q1, rfl, rfl, rfl, g1, r1⟩ := trodAll_cons r0
  obtain ⟨rfl, rfl, rfl⟩ := trodAll_nil r1
  obtain ⟨rfl, rfl⟩ := trodVars_none hV
  obtain rfl : args = #[v0, v1] := by cases args; simp_all
  obtain ⟨q0, hr0, x0, rfl, w0⟩ := opd_val (op_anon43_43) (hval 0 43 v0 rfl rfl) g0
  obtain ⟨q1, hr1, x1, rfl, w1⟩ := opd_val (opd_slice (f := (eInt .u64)) (wf := fun y => (IntKind.min .u64 ≤ y ∧ y ≤ IntKind.max .u64)) Try.underlying34 (by kernel_rfl) (OpD.to (opd_int Try.underlying22) fun ds ⟨a, h, k⟩ => ⟨a, h, k⟩)) (hval 1 34 v1 rfl rfl) g1
  have hplain : sennitlaw27_GaugeOrder x0 x1 = some true := gaugeOrder (fun x hx => by have h := w1.2 x hx; simpa [IntKind.min, IntKind.max, IntKind.signed, IntKind.bits] using h)
  refine (p_sennitlaw27_GaugeOrder _ _ true hplain (Env.none W) [v0, v1] (fun b o h => h.elim) (.cons (rd_arg_agg (hval 0 43 v0 rfl rfl) (by kernel_rfl) hr0) (.cons (rd_arg_one (hval 1 34 v1 rfl rfl) (by kernel_rfl) hr1) (.nil _)))).mono ?_
  rintro e W' ⟨v, rfl, hb, hr⟩
  obtain rfl := rd_bool hr
  exact ⟨_, rfl, law_post laidOut pars rfl rfl Try.underlying4 rfl hW' hb⟩
theorem proved : Rows.GaugeOrderSaid :=
  OpenClaim.holds_of_wide 5 Try.f5 rfl rfl rfl rfl rfl rfl rfl ⟨rfl, rfl, rfl, rfl, rfl⟩ rfl rfl rfl rfl rfl (by kernel_rfl) Try.func5 (by kernel_rfl)
    (of_decide_eq_true (by kernel_rfl)) (by unfold Func.isWrapper; first | (rw [if_pos (by decide +kernel)]; kernel_rfl) | (rw [if_neg (by decide +kernel)]; exact ⟨rfl, rfl⟩))
    (fun os started H enc _ => lifted os started H enc)
end Go.Proofs.Ytkmnhcjjaadmbaa.lawGaugeOrder
