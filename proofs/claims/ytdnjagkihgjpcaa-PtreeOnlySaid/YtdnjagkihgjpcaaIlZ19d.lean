/-
  PtreeOnly: for every input the law returns true, and its arguments read behind the call as they did. No condition.
-/
import Derived.Test.YtdnjagkihgjpcaaRows
import Derived.Test.YtdnjagkihgjpcaaIlA19C4
import Derived.Test.YtdnjagkihgjpcaaIlO2
set_option linter.all false
set_option linter.unusedVariables false
open Go Go.IL Go.Fn Go.Proofs Go.ChangeShapes Go.WideShapes Go.ChangeAt Go.RowKit
namespace Go.Proofs.Ytdnjagkihgjpcaa.lawPtreeOnly
def wf_sennitlaw19_Act (x : cE) : Prop := (IntKind.min .u8 ≤ x.Kind ∧ x.Kind ≤ IntKind.max .u8) ∧ (IntKind.min .i64 ≤ x.ID ∧ x.ID ≤ IntKind.max .i64) ∧ (IntKind.min .i64 ≤ x.Dep ∧ x.Dep ≤ IntKind.max .i64) ∧ (IntKind.min .i64 ≤ x.Weight ∧ x.Weight ≤ IntKind.max .i64) ∧ True
set_option maxRecDepth 100000 in
theorem op_sennitlaw19_Act_23 {sp : Bool} : OpD Try.prog sp 23 (fun ds => ∃ x : cE, ds = (dB.d x).cells ∧ wf_sennitlaw19_Act x) := by
  refine OpD.to (wC (fs := fieldsOf Try.prog 23) Try.underlying23 (by kernel_rfl) (by kernel_rfl) (.cons (oI Try.underlying5) (.cons (oI Try.underlying3) (.cons (oI Try.underlying3) (.cons (oI Try.underlying3) (.cons (zY Try.underlying4) .nil)))))) ?_
  rintro ds ⟨_, _, rfl, ⟨x0, rfl, h0⟩, ⟨_, _, rfl, ⟨x1, rfl, h1⟩, ⟨_, _, rfl, ⟨x2, rfl, h2⟩, ⟨_, _, rfl, ⟨x3, rfl, h3⟩, ⟨_, _, rfl, ⟨x4, rfl⟩, rfl⟩⟩⟩⟩⟩
  exact ⟨⟨x0, x1, x2, x3, x4⟩, rfl, ⟨h0, h1, h2, h3, trivial⟩⟩
theorem own : ownKnob Try.prog.godebug = none := by kernel_rfl
theorem laidOut : laidOutB Try.prog = true := by kernel_rfl
theorem pars : ∀ t ∈ Try.f6.params.toList, Try.prog.readableRec t = true ∧ t < Try.prog.types.size := of_decide_eq_true (by kernel_rfl)
set_option maxRecDepth 100000 in
theorem lifted (os : Os) (started : os.Started) (H : Type) (enc : TypeId × Value → H) :
    ReturnsInHanded {} Try.checked os 6 .any (Rows.ptreeOnlySpec.pre6 enc Try.prog Try.f6 Rows.ptreeOnlyRow.domain false) (Rows.ptreeOnlySpec.post enc Try.prog Try.f6 false true false false) := by
  refine returnsInHanded_of_change (C := Try.checked) own started (by kernel_rfl) Try.func6
    (ChangeSpec.witness6 (enc := enc) (C := Try.checked) false ⟨#[], #[.slice none 0 0, .int .u8 0, .int .u8 0], []⟩ 8 (by kernel_rfl) (by kernel_rfl) (by kernel_rfl) (by kernel_rfl)) ?_
  intro W base args ds gs before hval0 hW hcnd _
  have hval : ∀ (j : Nat) t v, Try.f6.params[j]? = some t → args[j]? = some v → Value.okWide Try.prog W .any base t v := hval0
  have hW' := hW
  obtain ⟨p, q, hA0, hV, hbef, hfz, hnd⟩ := hW
  have hA : DataW.TrodAll enc Try.prog W 0 (fun _ => true) true Try.f6.params.toList args.toList ds p := hA0
  rw [Try.params6] at hA hval
  obtain ⟨v0, vs0, d0, ds0, p0, q0, hargs, rfl, rfl, g0, r0⟩ := trodAll_cons hA
  obtain ⟨v1, vs1, d1, ds1, p1, q1, rfl, rfl, rfl, g1, r1⟩ := trodAll_cons r0
  obtain ⟨v2, vs2, d2, ds2, p2, q2, rfl, rfl, rfl, g2, r2⟩ := trodAll_cons r1
  obtain ⟨rfl, rfl, rfl⟩ := trodAll_nil r2
  obtain ⟨rfl, rfl⟩ := trodVars_none hV
  obtain rfl : args = #[v0, v1, v2] := by cases args; simp_all
  obtain ⟨q0, hr0, x0, rfl, w0⟩ := uL (xT (f := dB) (wf := fun y => wf_sennitlaw19_Act y) Try.underlying35 (by kernel_rfl) op_sennitlaw19_Act_23) (hval 0 35 v0 rfl rfl) g0
  obtain ⟨q1, hr1, x1, rfl, w1⟩ := uL (oI Try.underlying5) (hval 1 5 v1 rfl rfl) g1
  obtain ⟨q2, hr2, x2, rfl, w2⟩ := uL (oI Try.underlying5) (hval 2 5 v2 rfl rfl) g2
  have hplain : gI x0 x1 x2 = some true := xP (fun a ha => by have h : IntKind.min .u8 ≤ a.Kind ∧ a.Kind ≤ IntKind.max .u8 := (w0.2 a ha).1; simp [IntKind.min, IntKind.max, IntKind.signed, IntKind.bits] at h; omega) (by have h : IntKind.min .u8 ≤ x1 ∧ x1 ≤ IntKind.max .u8 := w1; simp [IntKind.min, IntKind.max, IntKind.signed, IntKind.bits] at h; omega) (by have h : IntKind.min .u8 ≤ x2 ∧ x2 ≤ IntKind.max .u8 := w2; simp [IntKind.min, IntKind.max, IntKind.signed, IntKind.bits] at h; omega)
  refine (mK _ _ _ true hplain (Env.none W) [v0, v1, v2] ⟨fun b o h => h.elim, ⟨fun _ h => (List.not_mem_nil h).elim⟩⟩ (.cons (oH (hval 0 35 v0 rfl rfl) (by kernel_rfl) hr0) (.cons (oH (hval 1 5 v1 rfl rfl) (by kernel_rfl) hr1) (.cons (oH (hval 2 5 v2 rfl rfl) (by kernel_rfl) hr2) (.nil _))))).mono ?_
  rintro e W' ⟨v, rfl, hb, hr⟩
  obtain rfl := sD hr
  exact ⟨_, rfl, aAD laidOut pars rfl rfl Try.underlying4 rfl hW' hb⟩
theorem proved : Rows.PtreeOnlySaid :=
  OpenClaim.holds_of_wide 6 Try.f6 rfl rfl rfl rfl rfl rfl rfl ⟨rfl, rfl, rfl, rfl, rfl⟩ rfl rfl rfl rfl rfl (by kernel_rfl) Try.func6 (by kernel_rfl)
    (of_decide_eq_true (by kernel_rfl)) (by unfold Func.isWrapper; first | (rw [if_pos (by decide +kernel)]; kernel_rfl) | (rw [if_neg (by decide +kernel)]; exact ⟨rfl, rfl⟩))
    (fun os started H enc _ => lifted os started H enc)
end Go.Proofs.Ytdnjagkihgjpcaa.lawPtreeOnly
