/-
  ConfigBack: for every input the law returns true, and its arguments read behind the call acx they did. No condition.
-/
import Derived.Test.YtgooaecafbjhjaaGreatDoorRows
import Derived.Test.YtgooaecafbjhjaaGreatDoorCards
import Derived.Test.YtgooaecafbjhjaaGreatDoorTie
import Derived.ProofKit
import Derived.Lay
import Derived.LaidMore
import Derived.LaidOnce
import Derived.SevenTiedAt
import Derived.Test.YtgooaecafbjhjaaGreatDoorIlP185
import Derived.Test.YtgooaecafbjhjaaGreatDoorIlA35bC3
import Derived.Test.YtgooaecafbjhjaaGreatDoorIlO2
set_option linter.all false
set_option linter.unusedVariables false
open Go Go.IL Go.Fn Go.Proofs Go.ChangeShapes Go.WideShapes Go.ChangeAt Go.RowKit
namespace Go.Proofs.YtgooaecafbjhjaaGreatDoor.lawConfigBack
def wf_tune_Values (x : bL) : Prop := (IntKind.min .i64 ≤ x.Streams ∧ x.Streams ≤ IntKind.max .i64) ∧ (IntKind.min .i64 ≤ x.Window ∧ x.Window ≤ IntKind.max .i64) ∧ (IntKind.min .i64 ≤ x.Whole ∧ x.Whole ≤ IntKind.max .i64) ∧ (IntKind.min .i64 ≤ x.Chunk ∧ x.Chunk ≤ IntKind.max .i64)
def wf_anon24 (x : kD) : Prop := wf_tune_Values x.c0 ∧ wf_tune_Values x.c1
def wf_anon26 (x : kZ) : Prop := (IntKind.min .u32 ≤ x.c0 ∧ x.c0 ≤ IntKind.max .u32) ∧ (IntKind.min .u32 ≤ x.c1 ∧ x.c1 ≤ IntKind.max .u32)
def wf_world_Config (x : bF) : Prop := (IntKind.min .i64 ≤ x.Paths ∧ x.Paths ≤ IntKind.max .i64) ∧ wf_anon24 x.Values ∧ wf_anon26 x.First
set_option maxRecDepth 100000 in
theorem op_tune_Values_23 {sp : Bool} : OpD Tryz.prog sp 23 (fun ds => ∃ x : bL, ds = (oN.d x).cells ∧ wf_tune_Values x) := by
  refine OpD.to (aAZ (fs := fieldsOf Tryz.prog 23) Tryz.underlying23 (by kernel_rfl) (by kernel_rfl) (.cons (wG Tryz.underlying3) (.cons (wG Tryz.underlying3) (.cons (wG Tryz.underlying3) (.cons (wG Tryz.underlying3) .nil))))) ?_
  rintro ds ⟨_, _, rfl, ⟨x0, rfl, h0⟩, ⟨_, _, rfl, ⟨x1, rfl, h1⟩, ⟨_, _, rfl, ⟨x2, rfl, h2⟩, ⟨_, _, rfl, ⟨x3, rfl, h3⟩, rfl⟩⟩⟩⟩
  exact ⟨⟨x0, x1, x2, x3⟩, rfl, ⟨h0, h1, h2, h3⟩⟩
set_option maxRecDepth 100000 in
theorem op_anon24_24 {sp : Bool} : OpD Tryz.prog sp 24 (fun ds => ∃ x : kD, ds = (aGs.d x).cells ∧ wf_anon24 x) := by
  refine OpD.to (aBs Tryz.underlying24 (by kernel_rfl) op_tune_Values_23) ?_
  rintro ds ⟨_, _, rfl, ⟨x0, rfl, h0⟩, ⟨_, _, rfl, ⟨x1, rfl, h1⟩, rfl⟩⟩
  exact ⟨⟨x0, x1⟩, rfl, ⟨h0, h1⟩⟩
set_option maxRecDepth 100000 in
theorem op_anon26_26 {sp : Bool} : OpD Tryz.prog sp 26 (fun ds => ∃ x : kZ, ds = (aGr.d x).cells ∧ wf_anon26 x) := by
  refine OpD.to (aBs Tryz.underlying26 (by kernel_rfl) (wG Tryz.underlying25)) ?_
  rintro ds ⟨_, _, rfl, ⟨x0, rfl, h0⟩, ⟨_, _, rfl, ⟨x1, rfl, h1⟩, rfl⟩⟩
  exact ⟨⟨x0, x1⟩, rfl, ⟨h0, h1⟩⟩
set_option maxRecDepth 100000 in
theorem op_world_Config_28 {sp : Bool} : OpD Tryz.prog sp 28 (fun ds => ∃ x : bF, ds = (aAQ.d x).cells ∧ wf_world_Config x) := by
  refine OpD.to (aAZ (fs := fieldsOf Tryz.prog 28) Tryz.underlying28 (by kernel_rfl) (by kernel_rfl) (.cons (wG Tryz.underlying3) (.cons op_anon24_24 (.cons op_anon26_26 .nil)))) ?_
  rintro ds ⟨_, _, rfl, ⟨x0, rfl, h0⟩, ⟨_, _, rfl, ⟨x1, rfl, h1⟩, ⟨_, _, rfl, ⟨x2, rfl, h2⟩, rfl⟩⟩⟩
  exact ⟨⟨x0, x1, x2⟩, rfl, ⟨h0, h1, h2⟩⟩
theorem own : ownKnob Tryz.prog.godebug = none := by kernel_rfl
theorem laidOut : laidOutB Tryz.prog = true := by kernel_rfl
theorem pars : ∀ t ∈ Tryz.f3.params.toList, Tryz.prog.readableRec t = true ∧ t < Tryz.prog.types.size := of_decide_eq_true (by kernel_rfl)
theorem of_laid {W : World} (h : laidMetH Tryz.prog Rows.configBackRow.laid W) : Tabs (Env.none W) := by
  rw [MakeChecks.laidMetH_plain _ _ _ (by kernel_rfl)] at h
  obtain ⟨ps, ⟨g0, t0, cs0, f0, p0, q0, hg0, ht0, hv0, hd0, ⟨g1, t1, cs1, f1, p1, q1, hg1, ht1, hv1, hd1, ⟨g2, t2, cs2, f2, p2, q2, hg2, ht2, hv2, hd2, _, _⟩, _⟩, _⟩, _, _⟩ := h
  obtain rfl := Option.some.inj ((show Tryz.prog.globalNamed "internal/strconv.uint64pow10" = some 0 by kernel_rfl).symm.trans hg2)
  obtain rfl := Option.some.inj ((show (Tryz.prog.globals[0]?).map (·.type) = some 209 by kernel_rfl).symm.trans ht2)
  have hc := Lib.cells_of_tab (zs := Lib.pow10Tab) Tryz.underlying209 Tryz.underlying188 (by kernel_rfl) (by kernel_rfl) (show DataW.trod _ Tryz.prog W _ _ _ _ 209 cs2.toList = some (Lib.tabData .u64 Lib.pow10Tab, _) from hd2)
  unfold World.var? at hv2
  rw [hg2] at hv2
  refine ⟨fun x hx => ?_⟩
  obtain rfl := List.mem_singleton.1 hx
  simp only [Option.bind_some] at hv2
  split at hv2
  · rename_i cs e fz heq
    obtain rfl := Option.some.inj hv2
    refine ⟨fun k v hk => ⟨?_, fun h => h.elim⟩, _, _, _, heq, ?_⟩
    · rw [Nat.zero_add]
      have h9 := cell_of_row W 0 k _ _ _ heq
      refine h9.trans ?_
      rw [← Array.getElem?_toList, hc]; exact hk
    · rw [← Array.length_toList, hc]; rfl
  · cases hv2
set_option maxRecDepth 100000 in
theorem lifted (os : Os) (started : os.Started) (H : Type) (enc : TypeId × Value → H) :
    ReturnsInHanded {} Tryz.checked os 3 .any (fun w args => (Rows.configBackSpec.pre enc Tryz.prog Tryz.f3 [] false w args ∧ laidMetH Tryz.prog Rows.configBackRow.laid w) ∧ sizedMet enc Tryz.prog Tryz.f3 (OpenSpec.ofChange Rows.configBackSpec) false w args)
      (Rows.configBackSpec.post enc Tryz.prog Tryz.f3 false true false false) := by
  refine returnsInHanded_of_change_and (C := Tryz.checked) (X := fun w _ => laidMetH Tryz.prog Rows.configBackRow.laid w) (fun _ _ _ hh h => h.of_heap hh) own started (by kernel_rfl) Tryz.func3
    (ChangeSpec.witness_shaped (enc := enc) (C := Tryz.checked) (os := os) (X := fun w _ => laidMetH Tryz.prog Rows.configBackRow.laid w) false (World.laidAll Tryz.prog os Rows.configBackRow.laid) #[.agg #[.int .i64 0, .int .i64 0, .int .i64 0, .int .i64 0, .int .i64 0, .int .i64 0, .int .i64 0, .int .i64 0, .int .i64 0, .int .u32 0, .int .u32 0]] 8 (World.laidAll_os _ _ _)
      (World.shaped_of_ZipB (by kernel_rfl) (by kernel_rfl)) (by kernel_rfl) (by kernel_rfl) (by kernel_rfl)
      (by rw [MakeChecks.laidMetH_plain _ _ _ (by kernel_rfl)]; exact laidMet_laidAll _ (by kernel_rfl) (by kernel_rfl))) ?_
  intro W base args ds gs before hval0 hW hcnd _ hL _
  have hval : ∀ (j : Nat) t v, Tryz.f3.params[j]? = some t → args[j]? = some v → Value.okWide Tryz.prog W .any base t v := hval0
  have hW' := hW
  obtain ⟨p, q, hA0, hV, hbef, hfz, hnd⟩ := hW
  have hA : DataW.TrodAll enc Tryz.prog W 0 (fun _ => true) true Tryz.f3.params.toList args.toList ds p := hA0
  rw [Tryz.params3] at hA hval
  obtain ⟨v0, vs0, d0, ds0, p0, q0, hargs, rfl, rfl, g0, r0⟩ := trodAll_cons hA
  obtain ⟨rfl, rfl, rfl⟩ := trodAll_nil r0
  obtain ⟨rfl, rfl⟩ := trodVars_none hV
  obtain rfl : args = #[v0] := by cases args; simp_all
  obtain ⟨q0, hr0, x0, rfl, w0⟩ := opd_val (op_world_Config_28) (hval 0 28 v0 rfl rfl) g0
  have hplain : fM x0 = some true := aD2 (by have h : (IntKind.min .u32 ≤ x0.First.c0 ∧ x0.First.c0 ≤ IntKind.max .u32) ∧ IntKind.min .u32 ≤ x0.First.c1 ∧ x0.First.c1 ≤ IntKind.max .u32 := w0.2.2; simpa [F32, IntKind.min, IntKind.max, IntKind.signed, IntKind.bits] using h)
  refine (pZ _ true hplain (Env.none W) [v0] ⟨fun b o h => h.elim, of_laid hL⟩ (.cons (aDh (hval 0 28 v0 rfl rfl) (by kernel_rfl) hr0) (.nil _))).mono ?_
  rintro e W' ⟨v, rfl, hb, hr⟩
  obtain rfl := wA hr
  exact ⟨_, rfl, aGG laidOut pars rfl rfl Tryz.underlying4 rfl hW' hb⟩
theorem holds : Rows.ConfigBackSaid :=
  OpenClaim.holds_of_wide 3 Tryz.f3 rfl rfl rfl rfl rfl rfl rfl ⟨rfl, rfl, rfl, rfl, rfl⟩ rfl rfl rfl rfl rfl (by kernel_rfl) Tryz.func3 (by kernel_rfl)
    (of_decide_eq_true (by kernel_rfl)) (by unfold Func.isWrapper; first | (rw [if_pos (by decide +kernel)]; kernel_rfl) | (rw [if_neg (by decide +kernel)]; exact ⟨rfl, rfl⟩))
    (fun os started H enc _ => lifted os started H enc)
theorem proved : Rows.ConfigBackCardSaid :=
  Claim7.holds_tied_plain_at .later [] [.data, .data, .data, .data, .pinned] true (true, "077f6f7dc4e06677c69bbbef1c25f2dfe0a421270f43445949a6aeca5375b1f9") false holds (fun _ h => by cases h) (by kernel_rfl) (fun _ h => by cases h) configBack_row_tie rfl ⟨rfl, rfl⟩ (by kernel_rfl) rfl
    (fun f fn hf hfn => by
      obtain rfl : f = 3 := Option.some.inj ((show Tryz.prog.funcNamed "sennit/sennitlaw35.ConfigBack" = some 3 by kernel_rfl).symm.trans hf) |>.symm
      obtain rfl : fn = Tryz.f3 := (Option.some.inj (Tryz.func3.symm.trans hfn)).symm
      exact ⟨by kernel_rfl, fun j t ht => by
        rw [Tryz.params3] at ht
        have hm : t ∈ [28] := by simpa using Array.mem_of_getElem? ht
        have hall : ([28].all fun u => !Tryz.prog.wantsStandIn u) = true := by kernel_rfl
        exact (show Tryz.prog.wantsStandIn t = false by simpa using List.all_eq_true.1 hall t hm)⟩)
    (by kernel_rfl)
end Go.Proofs.YtgooaecafbjhjaaGreatDoor.lawConfigBack
