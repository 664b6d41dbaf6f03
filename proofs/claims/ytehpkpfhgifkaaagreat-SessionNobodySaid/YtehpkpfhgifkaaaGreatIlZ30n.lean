/-
  SessionNobody: for every input the law returns true, and its arguments read behind the call as they did. No condition.
-/
import Derived.Test.YtehpkpfhgifkaaaGreatRows
import Derived.Test.YtehpkpfhgifkaaaGreatIlO2
import Derived.Test.YtehpkpfhgifkaaaGreatIlJj
set_option linter.all false
set_option linter.unusedVariables false
open Go Go.IL Go.Fn Go.Proofs Go.ChangeShapes Go.WideShapes Go.ChangeAt Go.RowKit
namespace Go.Proofs.YtehpkpfhgifkaaaGreat.lawSessionNobody
structure T_sennitlaw30_Act where
  Kind : Int
  ID : Int
  N : Int
  M : Int
  Path : Int
  Text : List UInt8
  Flag : Bool
def E_sennitlaw30_Act : Enc0 T_sennitlaw30_Act := ⟨fun x => .agg [.int .u8 x.Kind, .int .i64 x.ID, .int .i64 x.N, .int .i64 x.M, .int .i64 x.Path, .str x.Text, .bool x.Flag], 7, by decide, fun _ => ⟨rfl, rfl⟩⟩
def wf_sennitlaw30_Act (x : T_sennitlaw30_Act) : Prop := (IntKind.min .u8 ≤ x.Kind ∧ x.Kind ≤ IntKind.max .u8) ∧ (IntKind.min .i64 ≤ x.ID ∧ x.ID ≤ IntKind.max .i64) ∧ (IntKind.min .i64 ≤ x.N ∧ x.N ≤ IntKind.max .i64) ∧ (IntKind.min .i64 ≤ x.M ∧ x.M ≤ IntKind.max .i64) ∧ (IntKind.min .i64 ≤ x.Path ∧ x.Path ≤ IntKind.max .i64) ∧ x.Text.length ≤ 9223372036854775807 ∧ True
set_option maxRecDepth 100000 in
theorem op_sennitlaw30_Act_23 {sp : Bool} : OpD Tryz.prog sp 23 (fun ds => ∃ x : T_sennitlaw30_Act, ds = (E_sennitlaw30_Act.d x).cells ∧ wf_sennitlaw30_Act x) := by
  refine OpD.to (opd_struct (fs := fieldsOf Tryz.prog 23) Tryz.underlying23 (by kernel_rfl) (by kernel_rfl) (.cons (opd_int Tryz.underlying5) (.cons (opd_int Tryz.underlying3) (.cons (opd_int Tryz.underlying3) (.cons (opd_int Tryz.underlying3) (.cons (opd_int Tryz.underlying3) (.cons (opd_str Tryz.underlying9) (.cons (opd_bool Tryz.underlying4) .nil)))))))) ?_
  rintro ds ⟨_, _, rfl, ⟨x0, rfl, h0⟩, ⟨_, _, rfl, ⟨x1, rfl, h1⟩, ⟨_, _, rfl, ⟨x2, rfl, h2⟩, ⟨_, _, rfl, ⟨x3, rfl, h3⟩, ⟨_, _, rfl, ⟨x4, rfl, h4⟩, ⟨_, _, rfl, ⟨x5, rfl, h5⟩, ⟨_, _, rfl, ⟨x6, rfl⟩, rfl⟩⟩⟩⟩⟩⟩⟩
  exact ⟨⟨x0, x1, x2, x3, x4, x5, x6⟩, rfl, ⟨h0, h1, h2, h3, h4, h5, trivial⟩⟩
theorem p3_law (x : T_sennitlaw30_Act) (w : wf_sennitlaw30_Act x) : PureAt Tryz.prog 3 [E_sennitlaw30_Act.d x] (.bool true) := by
  have h := w.1
  simp [IntKind.min, IntKind.max, IntKind.signed, IntKind.bits] at h
  exact p3 x.Kind x.ID x.N x.M x.Path x.Text x.Flag (by omega) (by omega)
theorem own : ownKnob Tryz.prog.godebug = none := by kernel_rfl
theorem laidOut : laidOutB Tryz.prog = true := jlo
theorem pars : ∀ t ∈ Tryz.f3.params.toList, Tryz.prog.readableRec t = true ∧ t < Tryz.prog.types.size := of_decide_eq_true (by kernel_rfl)
set_option maxRecDepth 100000 in
theorem lifted (os : Os) (started : os.Started) (H : Type) (enc : TypeId × Value → H) :
    ReturnsInHanded {} Tryz.checked os 3 .any (Rows.sessionNobodySpec.pre6 enc Tryz.prog Tryz.f3 Rows.sessionNobodyRow.domain false) (Rows.sessionNobodySpec.post enc Tryz.prog Tryz.f3 false true false false) := by
  refine returnsInHanded_of_change (C := Tryz.checked) own started (by kernel_rfl) Tryz.func3
    (ChangeSpec.witness6 (enc := enc) (C := Tryz.checked) false ⟨#[], #[.agg #[.int .u8 0, .int .i64 0, .int .i64 0, .int .i64 0, .int .i64 0, .string ⟨#[]⟩, .bool false]], []⟩ 8 (by kernel_rfl) (by kernel_rfl) (by kernel_rfl) (by kernel_rfl)) ?_
  intro W base args ds gs before hval0 hW hcnd _
  have hval : ∀ (j : Nat) t v, Tryz.f3.params[j]? = some t → args[j]? = some v → Value.okWide Tryz.prog W .any base t v := hval0
  have hW' := hW
  obtain ⟨p, q, hA0, hV, hbef, hfz, hnd⟩ := hW
  have hA : DataW.TrodAll enc Tryz.prog W 0 (fun _ => true) true Tryz.f3.params.toList args.toList ds p := hA0
  rw [Tryz.params3] at hA hval
  obtain ⟨v0, vs0, d0, ds0, p0, q0, hargs, rfl, rfl, g0, r0⟩ := trodAll_cons hA
  obtain ⟨rfl, rfl, rfl⟩ := trodAll_nil r0
  obtain ⟨rfl, rfl⟩ := trodVars_none hV
  obtain rfl : args = #[v0] := by cases args; simp_all
  obtain ⟨q0, hr0, x0, rfl, w0⟩ := opd_val (op_sennitlaw30_Act_23) (hval 0 23 v0 rfl rfl) g0
  refine (p3_law x0 w0 (Env.none W) [v0] ⟨fun b o h => h.elim, ⟨fun _ h => (List.not_mem_nil h).elim⟩⟩ (.cons (rd_arg_agg (hval 0 23 v0 rfl rfl) (by kernel_rfl) hr0) (.nil _))).mono ?_
  rintro e W' ⟨v, rfl, hb, hr⟩
  obtain rfl := rd_bool hr
  exact ⟨_, rfl, law_post laidOut pars rfl rfl Tryz.underlying4 rfl hW' hb⟩
theorem proved : Rows.SessionNobodySaid :=
  OpenClaim.holds_of_wide 3 Tryz.f3 rfl rfl rfl rfl rfl rfl rfl ⟨rfl, rfl, rfl, rfl, rfl⟩ rfl rfl rfl rfl rfl (by kernel_rfl) Tryz.func3 jclosed
    (of_decide_eq_true (by kernel_rfl)) (by unfold Func.isWrapper; first | (rw [if_pos (by decide +kernel)]; kernel_rfl) | (rw [if_neg (by decide +kernel)]; exact ⟨rfl, rfl⟩))
    (fun os started H enc _ => lifted os started H enc)
end Go.Proofs.YtehpkpfhgifkaaaGreat.lawSessionNobody

