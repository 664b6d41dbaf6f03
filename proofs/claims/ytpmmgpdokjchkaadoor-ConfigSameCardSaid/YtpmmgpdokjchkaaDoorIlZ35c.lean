/-
  ConfigSame: for every input the law returns true, and its arguments read behind the call as they did. No condition.
-/
import Derived.Test.YtpmmgpdokjchkaaDoorRows
import Derived.Test.YtpmmgpdokjchkaaDoorCards
import Derived.Test.YtpmmgpdokjchkaaDoorTie
import Derived.ProofKit
import Derived.Lay
import Derived.LaidMore
import Derived.LaidOnce
import Derived.SevenTiedAt
import Derived.Test.YtpmmgpdokjchkaaDoorIlSh
import Derived.Test.YtpmmgpdokjchkaaDoorIlA35C1
import Derived.Test.YtpmmgpdokjchkaaDoorIlO2
set_option linter.all false
set_option linter.unusedVariables false
open Go Go.IL Go.Fn Go.Proofs Go.ChangeShapes Go.WideShapes Go.ChangeAt Go.RowKit
namespace Go.Proofs.YtpmmgpdokjchkaaDoor.lawConfigSame
def wf_tune_Values (x : T_tune_Values) : Prop := (IntKind.min .i64 ≤ x.Streams ∧ x.Streams ≤ IntKind.max .i64) ∧ (IntKind.min .i64 ≤ x.Window ∧ x.Window ≤ IntKind.max .i64) ∧ (IntKind.min .i64 ≤ x.Whole ∧ x.Whole ≤ IntKind.max .i64) ∧ (IntKind.min .i64 ≤ x.Chunk ∧ x.Chunk ≤ IntKind.max .i64)
def wf_anon24 (x : T_anon24) : Prop := wf_tune_Values x.c0 ∧ wf_tune_Values x.c1
def wf_anon26 (x : T_anon26) : Prop := (IntKind.min .u32 ≤ x.c0 ∧ x.c0 ≤ IntKind.max .u32) ∧ (IntKind.min .u32 ≤ x.c1 ∧ x.c1 ≤ IntKind.max .u32)
def wf_world_Config (x : T_world_Config) : Prop := (IntKind.min .i64 ≤ x.Paths ∧ x.Paths ≤ IntKind.max .i64) ∧ wf_anon24 x.Values ∧ wf_anon26 x.First
set_option maxRecDepth 100000 in
theorem op_tune_Values_23 {sp : Bool} : OpD Tryd.prog sp 23 (fun ds => ∃ x : T_tune_Values, ds = (E_tune_Values.d x).cells ∧ wf_tune_Values x) := by
  refine OpD.to (opd_struct (fs := fieldsOf Tryd.prog 23) Tryd.underlying23 (by kernel_rfl) (by kernel_rfl) (.cons (opd_int Tryd.underlying3) (.cons (opd_int Tryd.underlying3) (.cons (opd_int Tryd.underlying3) (.cons (opd_int Tryd.underlying3) .nil))))) ?_
  rintro ds ⟨_, _, rfl, ⟨x0, rfl, h0⟩, ⟨_, _, rfl, ⟨x1, rfl, h1⟩, ⟨_, _, rfl, ⟨x2, rfl, h2⟩, ⟨_, _, rfl, ⟨x3, rfl, h3⟩, rfl⟩⟩⟩⟩
  exact ⟨⟨x0, x1, x2, x3⟩, rfl, ⟨h0, h1, h2, h3⟩⟩
set_option maxRecDepth 100000 in
theorem op_anon24_24 {sp : Bool} : OpD Tryd.prog sp 24 (fun ds => ∃ x : T_anon24, ds = (E_anon24.d x).cells ∧ wf_anon24 x) := by
  refine OpD.to (opd_array Tryd.underlying24 (by kernel_rfl) op_tune_Values_23) ?_
  rintro ds ⟨_, _, rfl, ⟨x0, rfl, h0⟩, ⟨_, _, rfl, ⟨x1, rfl, h1⟩, rfl⟩⟩
  exact ⟨⟨x0, x1⟩, rfl, ⟨h0, h1⟩⟩
set_option maxRecDepth 100000 in
theorem op_anon26_26 {sp : Bool} : OpD Tryd.prog sp 26 (fun ds => ∃ x : T_anon26, ds = (E_anon26.d x).cells ∧ wf_anon26 x) := by
  refine OpD.to (opd_array Tryd.underlying26 (by kernel_rfl) (opd_int Tryd.underlying25)) ?_
  rintro ds ⟨_, _, rfl, ⟨x0, rfl, h0⟩, ⟨_, _, rfl, ⟨x1, rfl, h1⟩, rfl⟩⟩
  exact ⟨⟨x0, x1⟩, rfl, ⟨h0, h1⟩⟩
set_option maxRecDepth 100000 in
theorem op_world_Config_28 {sp : Bool} : OpD Tryd.prog sp 28 (fun ds => ∃ x : T_world_Config, ds = (E_world_Config.d x).cells ∧ wf_world_Config x) := by
  refine OpD.to (opd_struct (fs := fieldsOf Tryd.prog 28) Tryd.underlying28 (by kernel_rfl) (by kernel_rfl) (.cons (opd_int Tryd.underlying3) (.cons op_anon24_24 (.cons op_anon26_26 .nil)))) ?_
  rintro ds ⟨_, _, rfl, ⟨x0, rfl, h0⟩, ⟨_, _, rfl, ⟨x1, rfl, h1⟩, ⟨_, _, rfl, ⟨x2, rfl, h2⟩, rfl⟩⟩⟩
  exact ⟨⟨x0, x1, x2⟩, rfl, ⟨h0, h1, h2⟩⟩
theorem own : ownKnob Tryd.prog.godebug = none := by kernel_rfl
theorem laidOut : laidOutB Tryd.prog = true := by kernel_rfl
theorem pars : ∀ t ∈ Tryd.f5.params.toList, Tryd.prog.readableRec t = true ∧ t < Tryd.prog.types.size := of_decide_eq_true (by kernel_rfl)
theorem of_laid {W : World} (h : laidMetH Tryd.prog Rows.configSameRow.laid W) : Tabs (Env.none W) := by
  rw [MakeChecks.laidMetH_plain _ _ _ (by kernel_rfl)] at h
  obtain ⟨ps, ⟨g0, t0, cs0, f0, p0, q0, hg0, ht0, hv0, hd0, ⟨g1, t1, cs1, f1, p1, q1, hg1, ht1, hv1, hd1, ⟨g2, t2, cs2, f2, p2, q2, hg2, ht2, hv2, hd2, _, _⟩, _⟩, _⟩, _, _⟩ := h
  obtain rfl := Option.some.inj ((show Tryd.prog.globalNamed "internal/strconv.uint64pow10" = some 0 by kernel_rfl).symm.trans hg2)
  obtain rfl := Option.some.inj ((show (Tryd.prog.globals[0]?).map (·.type) = some 99 by kernel_rfl).symm.trans ht2)
  have hc := Lib.cells_of_tab (zs := Lib.pow10Tab) Tryd.underlying99 Tryd.underlying88 (by kernel_rfl) (by kernel_rfl) (show DataW.trod _ Tryd.prog W _ _ _ _ 99 cs2.toList = some (Lib.tabData .u64 Lib.pow10Tab, _) from hd2)
  unfold World.var? at hv2
  rw [hg2] at hv2
  refine ⟨fun x hx => ?_⟩
  obtain rfl := List.mem_singleton.1 hx
  simp only [Option.bind_some] at hv2
  split at hv2
  · rename_i cs e fz heq
    obtain rfl := Option.some.inj hv2
    refine ⟨fun k v hk => ⟨?_, fun h => h.elim⟩, _, _, _, heq, ?_⟩
    · rw [Nat.zero_add]
      have h9 := cell_of_row W 0 k _ _ _ heq
      refine h9.trans ?_
      rw [← Array.getElem?_toList, hc]; exact hk
    · rw [← Array.length_toList, hc]; rfl
  · cases hv2
set_option maxRecDepth 100000 in
theorem lifted (os : Os) (started : os.Started) (H : Type) (enc : TypeId × Value → H) :
    ReturnsInHanded {} Tryd.checked os 5 .any (fun w args => (Rows.configSameSpec.pre enc Tryd.prog Tryd.f5 [] false w args ∧ laidMetH Tryd.prog Rows.configSameRow.laid w) ∧ sizedMet enc Tryd.prog Tryd.f5 (OpenSpec.ofChange Rows.configSameSpec) false w args)
      (Rows.configSameSpec.post enc Tryd.prog Tryd.f5 false true false false) := by
  refine returnsInHanded_of_change_and (C := Tryd.checked) (X := fun w _ => laidMetH Tryd.prog Rows.configSameRow.laid w) (fun _ _ _ hh h => h.of_heap hh) own started (by kernel_rfl) Tryd.func5
    (ChangeSpec.witness_shaped (enc := enc) (C := Tryd.checked) (os := os) (X := fun w _ => laidMetH Tryd.prog Rows.configSameRow.laid w) false (World.laidAll Tryd.prog os Rows.configSameRow.laid) #[.agg #[.int .i64 0, .int .i64 0, .int .i64 0, .int .i64 0, .int .i64 0, .int .i64 0, .int .i64 0, .int .i64 0, .int .i64 0, .int .u32 0, .int .u32 0], .agg #[.int .i64 0, .int .i64 0, .int .i64 0, .int .i64 0, .int .i64 0, .int .i64 0, .int .i64 0, .int .i64 0, .int .i64 0, .int .u32 0, .int .u32 0]] 8 (World.laidAll_os _ _ _)
      (World.shaped_of_ZipB (by kernel_rfl) (by kernel_rfl)) (by kernel_rfl) (by kernel_rfl) (by kernel_rfl)
      (by rw [MakeChecks.laidMetH_plain _ _ _ (by kernel_rfl)]; exact laidMet_laidAll _ (by kernel_rfl) (by kernel_rfl))) ?_
  intro W base args ds gs before hval0 hW hcnd _ hL _
  have hval : ∀ (j : Nat) t v, Tryd.f5.params[j]? = some t → args[j]? = some v → Value.okWide Tryd.prog W .any base t v := hval0
  have hW' := hW
  obtain ⟨p, q, hA0, hV, hbef, hfz, hnd⟩ := hW
  have hA : DataW.TrodAll enc Tryd.prog W 0 (fun _ => true) true Tryd.f5.params.toList args.toList ds p := hA0
  rw [Tryd.params5] at hA hval
  obtain ⟨v0, vs0, d0, ds0, p0, q0, hargs, rfl, rfl, g0, r0⟩ := trodAll_cons hA
  obtain ⟨v1, vs1, d1, ds1, p1, q1, rfl, rfl, rfl, g1, r1⟩ := trodAll_cons r0
  obtain ⟨rfl, rfl, rfl⟩ := trodAll_nil r1
  obtain ⟨rfl, rfl⟩ := trodVars_none hV
  obtain rfl : args = #[v0, v1] := by cases args; simp_all
  obtain ⟨q0, hr0, x0, rfl, w0⟩ := opd_val (op_world_Config_28) (hval 0 28 v0 rfl rfl) g0
  obtain ⟨q1, hr1, x1, rfl, w1⟩ := opd_val (op_world_Config_28) (hval 1 28 v1 rfl rfl) g1
  have hplain : sennitlaw35_ConfigSame x0 x1 = some true := configSame (by have h : (IntKind.min .u32 ≤ x0.First.c0 ∧ x0.First.c0 ≤ IntKind.max .u32) ∧ IntKind.min .u32 ≤ x0.First.c1 ∧ x0.First.c1 ≤ IntKind.max .u32 := w0.2.2; simpa [F32, IntKind.min, IntKind.max, IntKind.signed, IntKind.bits] using h) (by have h : (IntKind.min .u32 ≤ x1.First.c0 ∧ x1.First.c0 ≤ IntKind.max .u32) ∧ IntKind.min .u32 ≤ x1.First.c1 ∧ x1.First.c1 ≤ IntKind.max .u32 := w1.2.2; simpa [F32, IntKind.min, IntKind.max, IntKind.signed, IntKind.bits] using h)
  refine (p_sennitlaw35_ConfigSame _ _ true hplain (Env.none W) [v0, v1] ⟨fun b o h => h.elim, of_laid hL⟩ (.cons (rd_arg_agg (hval 0 28 v0 rfl rfl) (by kernel_rfl) hr0) (.cons (rd_arg_agg (hval 1 28 v1 rfl rfl) (by kernel_rfl) hr1) (.nil _)))).mono ?_
  rintro e W' ⟨v, rfl, hb, hr⟩
  obtain rfl := rd_bool hr
  exact ⟨_, rfl, law_post laidOut pars rfl rfl Tryd.underlying4 rfl hW' hb⟩
theorem holds : Rows.ConfigSameSaid :=
  OpenClaim.holds_of_wide 5 Tryd.f5 rfl rfl rfl rfl rfl rfl rfl ⟨rfl, rfl, rfl, rfl, rfl⟩ rfl rfl rfl rfl rfl (by kernel_rfl) Tryd.func5 (by kernel_rfl)
    (of_decide_eq_true (by kernel_rfl)) (by unfold Func.isWrapper; first | (rw [if_pos (by decide +kernel)]; kernel_rfl) | (rw [if_neg (by decide +kernel)]; exact ⟨rfl, rfl⟩))
    (fun os started H enc _ => lifted os started H enc)
theorem proved : Rows.ConfigSameCardSaid :=
  Claim7.holds_tied_plain_at .later [] [.data, .data, .data, .data, .pinned] true (true, "93aac59c90608ec77c645899522b449103bce1f324897db02c7c8713c802212f") false holds (fun _ h => by cases h) (by kernel_rfl) (fun _ h => by cases h) configSame_row_tie rfl ⟨rfl, rfl⟩ (by kernel_rfl) rfl
    (fun f fn hf hfn => by
      obtain rfl : f = 5 := Option.some.inj ((show Tryd.prog.funcNamed "sennit/sennitlaw35.ConfigSame" = some 5 by kernel_rfl).symm.trans hf) |>.symm
      obtain rfl : fn = Tryd.f5 := (Option.some.inj (Tryd.func5.symm.trans hfn)).symm
      exact ⟨by kernel_rfl, fun j t ht => by
        rw [Tryd.params5] at ht
        have hm : t ∈ [28, 28] := by simpa using Array.mem_of_getElem? ht
        have hall : ([28, 28].all fun u => !Tryd.prog.wantsStandIn u) = true := by kernel_rfl
        exact (show Tryd.prog.wantsStandIn t = false by simpa using List.all_eq_true.1 hall t hm)⟩)
    (by kernel_rfl)
end Go.Proofs.YtpmmgpdokjchkaaDoor.lawConfigSame
