/-
  PtreeReady: for every input the law returns true, and its arguments read behind the call as they did. No condition.
-/
import Derived.Test.YtdnjagkihgjpcaaRows
import Derived.Test.YtdnjagkihgjpcaaIlA19C4
import Derived.Test.YtdnjagkihgjpcaaIlO2
set_option linter.all false
set_option linter.unusedVariables false
open Go Go.IL Go.Fn Go.Proofs Go.ChangeShapes Go.WideShapes Go.ChangeAt Go.RowKit
namespace Go.Proofs.Ytdnjagkihgjpcaa.lawPtreeReady
def wf_sennitlaw19_Act (x : cB) : Prop := (IntKind.min .u8 ≤ x.Kind ∧ x.Kind ≤ IntKind.max .u8) ∧ (IntKind.min .i64 ≤ x.ID ∧ x.ID ≤ IntKind.max .i64) ∧ (IntKind.min .i64 ≤ x.Dep ∧ x.Dep ≤ IntKind.max .i64) ∧ (IntKind.min .i64 ≤ x.Weight ∧ x.Weight ≤ IntKind.max .i64) ∧ True
set_option maxRecDepth 100000 in
theorem op_sennitlaw19_Act_23 {sp : Bool} : OpD Try.prog sp 23 (fun ds => ∃ x : cB, ds = (cZ.d x).cells ∧ wf_sennitlaw19_Act x) := by
  refine OpD.to (wC (fs := fieldsOf Try.prog 23) Try.underlying23 (by kernel_rfl) (by kernel_rfl) (.cons (pX Try.underlying5) (.cons (pX Try.underlying3) (.cons (pX Try.underlying3) (.cons (pX Try.underlying3) (.cons (zQ Try.underlying4) .nil)))))) ?_
  rintro ds ⟨_, _, rfl, ⟨x0, rfl, h0⟩, ⟨_, _, rfl, ⟨x1, rfl, h1⟩, ⟨_, _, rfl, ⟨x2, rfl, h2⟩, ⟨_, _, rfl, ⟨x3, rfl, h3⟩, ⟨_, _, rfl, ⟨x4, rfl⟩, rfl⟩⟩⟩⟩⟩
  exact ⟨⟨x0, x1, x2, x3, x4⟩, rfl, ⟨h0, h1, h2, h3, trivial⟩⟩
theorem own : ownKnob Try.prog.godebug = none := by kernel_rfl
theorem laidOut : laidOutB Try.prog = true := by kernel_rfl
theorem pars : ∀ t ∈ Try.f5.params.toList, Try.prog.readableRec t = true ∧ t < Try.prog.types.size := of_decide_eq_true (by kernel_rfl)
set_option maxRecDepth 100000 in
theorem lifted (os : Os) (started : os.Started) (H : Type) (enc : TypeId × Value → H) :
    ReturnsInHanded {} Try.checked os 5 .any (Rows.ptreeReadySpec.pre6 enc Try.prog Try.f5 Rows.ptreeReadyRow.domain false) (Rows.ptreeReadySpec.post enc Try.prog Try.f5 false true false false) := by
  refine returnsInHanded_of_change (C := Try.checked) own started (by kernel_rfl) Try.func5
    (ChangeSpec.witness6 (enc := enc) (C := Try.checked) false ⟨#[], #[.slice none 0 0, .slice none 0 0], []⟩ 8 (by kernel_rfl) (by kernel_rfl) (by kernel_rfl) (by kernel_rfl)) ?_
  intro W base args ds gs before hval0 hW hcnd _
  have hval : ∀ (j : Nat) t v, Try.f5.params[j]? = some t → args[j]? = some v → Value.okWide Try.prog W .any base t v := hval0
  have hW' := hW
  obtain ⟨p, q, hA0, hV, hbef, hfz, hnd⟩ := hW
  have hA : DataW.TrodAll enc Try.prog W 0 (fun _ => true) true Try.f5.params.toList args.toList ds p := hA0
  rw [Try.params5] at hA hval
  obtain ⟨v0, vs0, d0, ds0, p0, q0, hargs, rfl, rfl, g0, r0⟩ := trodAll_cons hA
  obtain ⟨v1, vs1, d1, ds1, p1, q1, rfl, rfl, rfl, g1, r1⟩ := trodAll_cons r0
  obtain ⟨rfl, rfl, rfl⟩ := trodAll_nil r1
  obtain ⟨rfl, rfl⟩ := trodVars_none hV
  obtain rfl : args = #[v0, v1] := by cases args; simp_all
  obtain ⟨q0, hr0, x0, rfl, w0⟩ := xR (tC (f := cZ) (wf := fun y => wf_sennitlaw19_Act y) Try.underlying35 (by kernel_rfl) op_sennitlaw19_Act_23) (hval 0 35 v0 rfl rfl) g0
  obtain ⟨q1, hr1, x1, rfl, w1⟩ := xR (tC (f := (eInt .i64)) (wf := fun y => (IntKind.min .i64 ≤ y ∧ y ≤ IntKind.max .i64)) Try.underlying24 (by kernel_rfl) (OpD.to (pX Try.underlying3) fun ds ⟨a, h, k⟩ => ⟨a, h, k⟩)) (hval 1 24 v1 rfl rfl) g1
  have hplain : fF x0 x1 = some true := wB (fun a ha => by have h : IntKind.min .u8 ≤ a.Kind ∧ a.Kind ≤ IntKind.max .u8 := (w0.2 a ha).1; simp [IntKind.min, IntKind.max, IntKind.signed, IntKind.bits] at h; omega)
  refine (mD _ _ true hplain (Env.none W) [v0, v1] ⟨fun b o h => h.elim, ⟨fun _ h => (List.not_mem_nil h).elim⟩⟩ (.cons (rA (hval 0 35 v0 rfl rfl) (by kernel_rfl) hr0) (.cons (rA (hval 1 24 v1 rfl rfl) (by kernel_rfl) hr1) (.nil _)))).mono ?_
  rintro e W' ⟨v, rfl, hb, hr⟩
  obtain rfl := rW hr
  exact ⟨_, rfl, zU laidOut pars rfl rfl Try.underlying4 rfl hW' hb⟩
theorem proved : Rows.PtreeReadySaid :=
  OpenClaim.holds_of_wide 5 Try.f5 rfl rfl rfl rfl rfl rfl rfl ⟨rfl, rfl, rfl, rfl, rfl⟩ rfl rfl rfl rfl rfl (by kernel_rfl) Try.func5 (by kernel_rfl)
    (of_decide_eq_true (by kernel_rfl)) (by unfold Func.isWrapper; first | (rw [if_pos (by decide +kernel)]; kernel_rfl) | (rw [if_neg (by decide +kernel)]; exact ⟨rfl, rfl⟩))
    (fun os started H enc _ => lifted os started H enc)
end Go.Proofs.Ytdnjagkihgjpcaa.lawPtreeReady
