/-
  ConsoleBack: for every input the law returns true, and its arguments read behind the call as they did. No condition.
-/
import Derived.Test.YtmidijokooidcaaDoorRows
import Derived.Test.YtmidijokooidcaaDoorCards
import Derived.Test.YtmidijokooidcaaDoorTie
import Derived.ProofKit
import Derived.Lay
import Derived.LaidMore
import Derived.LaidOnce
import Derived.SevenTiedAt
import Derived.Test.YtmidijokooidcaaDoorIlPn
import Derived.Test.YtmidijokooidcaaDoorIlA33bC2
import Derived.Test.YtmidijokooidcaaDoorIlO2
set_option linter.all false
set_option linter.unusedVariables false
open Go Go.IL Go.Fn Go.Proofs Go.ChangeShapes Go.WideShapes Go.ChangeAt Go.RowKit
namespace Go.Proofs.YtmidijokooidcaaDoor.lawConsoleBack
def wf_world_Step (x : T_world_Step) : Prop := (IntKind.min .u8 ≤ x.Kind ∧ x.Kind ≤ IntKind.max .u8) ∧ (IntKind.min .i64 ≤ x.Side ∧ x.Side ≤ IntKind.max .i64) ∧ (IntKind.min .i64 ≤ x.ID ∧ x.ID ≤ IntKind.max .i64) ∧ (IntKind.min .i64 ≤ x.N ∧ x.N ≤ IntKind.max .i64) ∧ (IntKind.min .i64 ≤ x.M ∧ x.M ≤ IntKind.max .i64) ∧ (IntKind.min .i64 ≤ x.Path ∧ x.Path ≤ IntKind.max .i64) ∧ x.Text.length ≤ 9223372036854775807 ∧ True
set_option maxRecDepth 100000 in
theorem op_world_Step_28 {sp : Bool} : OpD Tryd.prog sp 28 (fun ds => ∃ x : T_world_Step, ds = (E_world_Step.d x).cells ∧ wf_world_Step x) := by
  refine OpD.to (opd_struct (fs := fieldsOf Tryd.prog 28) Tryd.underlying28 (by kernel_rfl) (by kernel_rfl) (.cons (opd_int Tryd.underlying5) (.cons (opd_int Tryd.underlying3) (.cons (opd_int Tryd.underlying3) (.cons (opd_int Tryd.underlying3) (.cons (opd_int Tryd.underlying3) (.cons (opd_int Tryd.underlying3) (.cons (opd_str Tryd.underlying9) (.cons (opd_bool Tryd.underlying4) .nil))))))))) ?_
  rintro ds ⟨_, _, rfl, ⟨x0, rfl, h0⟩, ⟨_, _, rfl, ⟨x1, rfl, h1⟩, ⟨_, _, rfl, ⟨x2, rfl, h2⟩, ⟨_, _, rfl, ⟨x3, rfl, h3⟩, ⟨_, _, rfl, ⟨x4, rfl, h4⟩, ⟨_, _, rfl, ⟨x5, rfl, h5⟩, ⟨_, _, rfl, ⟨x6, rfl, h6⟩, ⟨_, _, rfl, ⟨x7, rfl⟩, rfl⟩⟩⟩⟩⟩⟩⟩⟩
  exact ⟨⟨x0, x1, x2, x3, x4, x5, x6, x7⟩, rfl, ⟨h0, h1, h2, h3, h4, h5, h6, trivial⟩⟩
theorem own : ownKnob Tryd.prog.godebug = none := by kernel_rfl
theorem laidOut : laidOutB Tryd.prog = true := by kernel_rfl
theorem pars : ∀ t ∈ Tryd.f7.params.toList, Tryd.prog.readableRec t = true ∧ t < Tryd.prog.types.size := of_decide_eq_true (by kernel_rfl)
theorem of_laid {W : World} (h : laidMetH Tryd.prog Rows.consoleBackRow.laid W) : Tabs (Env.none W) := by
  rw [MakeChecks.laidMetH_plain _ _ _ (by kernel_rfl)] at h
  obtain ⟨ps, ⟨g0, t0, cs0, f0, p0, q0, hg0, ht0, hv0, hd0, ⟨g1, t1, cs1, f1, p1, q1, hg1, ht1, hv1, hd1, ⟨g2, t2, cs2, f2, p2, q2, hg2, ht2, hv2, hd2, _, _⟩, _⟩, _⟩, _, _⟩ := h
  obtain rfl := Option.some.inj ((show Tryd.prog.globalNamed "internal/strconv.uint64pow10" = some 1 by kernel_rfl).symm.trans hg2)
  obtain rfl := Option.some.inj ((show (Tryd.prog.globals[1]?).map (·.type) = some 126 by kernel_rfl).symm.trans ht2)
  have hc := Lib.cells_of_tab (zs := Lib.pow10Tab) Tryd.underlying126 Tryd.underlying116 (by kernel_rfl) (by kernel_rfl) (show DataW.trod _ Tryd.prog W _ _ _ _ 126 cs2.toList = some (Lib.tabData .u64 Lib.pow10Tab, _) from hd2)
  unfold World.var? at hv2
  rw [hg2] at hv2
  refine ⟨fun x hx => ?_⟩
  obtain rfl := List.mem_singleton.1 hx
  simp only [Option.bind_some] at hv2
  split at hv2
  · rename_i cs e fz heq
    obtain rfl := Option.some.inj hv2
    refine ⟨fun k v hk => ⟨?_, fun h => h.elim⟩, _, _, _, heq, ?_⟩
    · rw [Nat.zero_add]
      have h9 := cell_of_row W 1 k _ _ _ heq
      refine h9.trans ?_
      rw [← Array.getElem?_toList, hc]; exact hk
    · rw [← Array.length_toList, hc]; rfl
  · cases hv2
set_option maxRecDepth 100000 in
theorem lifted (os : Os) (started : os.Started) (H : Type) (enc : TypeId × Value → H) :
    ReturnsInHanded {} Tryd.checked os 7 .any (fun w args => (Rows.consoleBackSpec.pre enc Tryd.prog Tryd.f7 [] false w args ∧ laidMetH Tryd.prog Rows.consoleBackRow.laid w) ∧ sizedMet enc Tryd.prog Tryd.f7 (OpenSpec.ofChange Rows.consoleBackSpec) false w args)
      (Rows.consoleBackSpec.post enc Tryd.prog Tryd.f7 false true false false) := by
  refine returnsInHanded_of_change_and (C := Tryd.checked) (X := fun w _ => laidMetH Tryd.prog Rows.consoleBackRow.laid w) (fun _ _ _ hh h => h.of_heap hh) own started (by kernel_rfl) Tryd.func7
    (ChangeSpec.witness_shaped (enc := enc) (C := Tryd.checked) (os := os) (X := fun w _ => laidMetH Tryd.prog Rows.consoleBackRow.laid w) false (World.laidAll Tryd.prog os Rows.consoleBackRow.laid) #[.slice none 0 0] 8 (World.laidAll_os _ _ _)
      (World.shaped_of_ZipB (by kernel_rfl) (by kernel_rfl)) (by kernel_rfl) (by kernel_rfl) (by kernel_rfl)
      (by rw [MakeChecks.laidMetH_plain _ _ _ (by kernel_rfl)]; exact laidMet_laidAll _ (by kernel_rfl) (by kernel_rfl))) ?_
  intro W base args ds gs before hval0 hW hcnd _ hL _
  have hval : ∀ (j : Nat) t v, Tryd.f7.params[j]? = some t → args[j]? = some v → Value.okWide Tryd.prog W .any base t v := hval0
  have hW' := hW
  obtain ⟨p, q, hA0, hV, hbef, hfz, hnd⟩ := hW
  have hA : DataW.TrodAll enc Tryd.prog W 0 (fun _ => true) true Tryd.f7.params.toList args.toList ds p := hA0
  rw [Tryd.params7] at hA hval
  obtain ⟨v0, vs0, d0, ds0, p0, q0, hargs, rfl, rfl, g0, r0⟩ := trodAll_cons hA
  obtain ⟨rfl, rfl, rfl⟩ := trodAll_nil r0
  obtain ⟨rfl, rfl⟩ := trodVars_none hV
  obtain rfl : args = #[v0] := by cases args; simp_all
  obtain ⟨q0, hr0, x0, rfl, w0⟩ := opd_val (opd_slice (f := E_world_Step) (wf := fun y => wf_world_Step y) Tryd.underlying34 (by kernel_rfl) op_world_Step_28) (hval 0 34 v0 rfl rfl) g0
  have hplain : sennitlaw33_ConsoleBack x0 = some true := consoleBack (fun s hs => by have h : IntKind.min .u8 ≤ s.Kind ∧ s.Kind ≤ IntKind.max .u8 := (w0.2 s hs).1; simp [IntKind.min, IntKind.max, IntKind.signed, IntKind.bits] at h; omega)
  refine (p_sennitlaw33_ConsoleBack _ true hplain (Env.none W) [v0] ⟨fun b o h => h.elim, of_laid hL⟩ (.cons (rd_arg_one (hval 0 34 v0 rfl rfl) (by kernel_rfl) hr0) (.nil _))).mono ?_
  rintro e W' ⟨v, rfl, hb, hr⟩
  obtain rfl := rd_bool hr
  exact ⟨_, rfl, law_post laidOut pars rfl rfl Tryd.underlying4 rfl hW' hb⟩
theorem holds : Rows.ConsoleBackSaid :=
  OpenClaim.holds_of_wide 7 Tryd.f7 rfl rfl rfl rfl rfl rfl rfl ⟨rfl, rfl, rfl, rfl, rfl⟩ rfl rfl rfl rfl rfl (by kernel_rfl) Tryd.func7 (by kernel_rfl)
    (of_decide_eq_true (by kernel_rfl)) (by unfold Func.isWrapper; first | (rw [if_pos (by decide +kernel)]; kernel_rfl) | (rw [if_neg (by decide +kernel)]; exact ⟨rfl, rfl⟩))
    (fun os started H enc _ => lifted os started H enc)
theorem proved : Rows.ConsoleBackCardSaid :=
  Claim7.holds_tied_plain_at .later [] [.data, .data, .data, .data, .pinned] true (true, "453c435ff332c525757b9b79a564623bd9a9f0e185afacc358748a4b5738975d") false holds (fun _ h => by cases h) (by kernel_rfl) (fun _ h => by cases h) consoleBack_row_tie rfl ⟨rfl, rfl⟩ (by kernel_rfl) rfl
    (fun f fn hf hfn => by
      obtain rfl : f = 7 := Option.some.inj ((show Tryd.prog.funcNamed "sennit/sennitlaw33.ConsoleBack" = some 7 by kernel_rfl).symm.trans hf) |>.symm
      obtain rfl : fn = Tryd.f7 := (Option.some.inj (Tryd.func7.symm.trans hfn)).symm
      exact ⟨by kernel_rfl, fun j t ht => by
        rw [Tryd.params7] at ht
        have hm : t ∈ [34] := by simpa using Array.mem_of_getElem? ht
        have hall : ([34].all fun u => !Tryd.prog.wantsStandIn u) = true := by kernel_rfl
        exact (show Tryd.prog.wantsStandIn t = false by simpa using List.all_eq_true.1 hall t hm)⟩)
    (by kernel_rfl)
end Go.Proofs.YtmidijokooidcaaDoor.lawConsoleBack
