/-
  A part of the proof: rules and plain facts. No condition.
-/
import Derived.Test.YtehpkpfhgifkaaaGreatIlKp1
import Derived.Test.YtehpkpfhgifkaaaGreatIlKp2
import Derived.Test.YtehpkpfhgifkaaaGreatIlKp3
import Derived.Test.YtehpkpfhgifkaaaGreatIlKp4
import Derived.Test.YtehpkpfhgifkaaaGreatIlKp5
import Derived.Test.YtehpkpfhgifkaaaGreatIlKp6
import Derived.Test.YtehpkpfhgifkaaaGreatIlKp7
import Derived.Test.YtehpkpfhgifkaaaGreatIlKo1
import Derived.Test.YtehpkpfhgifkaaaGreatIlKo2
import Derived.Test.YtehpkpfhgifkaaaGreatIlTu
import Derived.ProofKit
import Derived.OpenShut
set_option linter.all false
set_option maxRecDepth 100000
set_option linter.unusedVariables false
open Go Go.IL Go.Proofs
namespace Go.IL
/-! awake: its pieces, joined. -/
theorem jB1 : KGo Tryz.prog 176 (rgA Tryz.prog 0) A1 .normal B1 := kg_piece hevD _ _ tB1
theorem jC1 : KGo Tryz.prog 176 (rgA Tryz.prog 1) B1 .normal C1 := kg_piece hevD _ _ tC1
theorem jA1 : KLp Tryz.prog 176 (bdA Tryz.prog) A1 none A2 := round_of tx1 jB1 jC1 ty1
theorem jB2 : KGo Tryz.prog 176 (rgA Tryz.prog 0) A2 .normal B2 := reg0 (z := 0) (F := ⟨B2.l,[(6,.int .i64 (.ofNat 1))],B2.n⟩) tdB2 (by kernel_rfl) (drive_of tB2o taB2 (kl_piece hevD 1 _ _ tB2p0) tbB2 tcB2) rfl rfl rfl rfl
theorem jC2 : KGo Tryz.prog 176 (rgA Tryz.prog 1) B2 .normal C2 := reg1 (z := 0) (F := ⟨C2.l,[(6,.int .i64 (.ofNat 1))],C2.n⟩) tdC2 (by kernel_rfl) (drive_of tC2o taC2 (kl_piece hevD 1 _ _ tC2p0) tbC2 tcC2) rfl rfl rfl rfl
theorem jA2 : KLp Tryz.prog 176 (bdA Tryz.prog) A2 none A3 := round_of tx2 jB2 jC2 ty2
theorem jB3 : KGo Tryz.prog 176 (rgA Tryz.prog 0) A3 .normal B3 := reg0 (z := 0) (F := ⟨B3.l,[(6,.int .i64 (.ofNat 1))],B3.n⟩) tdB3 (by kernel_rfl) (drive_of tB3o taB3 (kl_piece hevD 1 _ _ tB3p0) tbB3 tcB3) rfl rfl rfl rfl
theorem jC3 : KGo Tryz.prog 176 (rgA Tryz.prog 1) B3 .normal C3 := reg1 (z := 0) (F := ⟨C3.l,[(6,.int .i64 (.ofNat 1))],C3.n⟩) tdC3 (by kernel_rfl) (drive_of tC3o taC3 (kl_piece hevD 1 _ _ tC3p0) tbC3 tcC3) rfl rfl rfl rfl
theorem jA3 : KLp Tryz.prog 176 (bdA Tryz.prog) A3 none A4 := round_of tx3 jB3 jC3 ty3
theorem jB4 : KGo Tryz.prog 176 (rgA Tryz.prog 0) A4 .normal B4 := reg0 (z := 0) (F := ⟨B4.l,[(6,.int .i64 (.ofNat 1))],B4.n⟩) tdB4 (by kernel_rfl) (drive_of tB4o taB4 (kl_piece hevD 1 _ _ tB4p0) tbB4 tcB4) rfl rfl rfl rfl
theorem jC4 : KGo Tryz.prog 176 (rgA Tryz.prog 1) B4 .normal C4 := kg_piece hevD _ _ tC4
theorem jA4 : KLp Tryz.prog 176 (bdA Tryz.prog) A4 none A5 := round_of tx4 jB4 jC4 ty4
theorem awake_ok : PureAt Tryz.prog 4 [] (.bool true) := awake_of tK0 tr8 (kl_trans (kl_trans (kl_trans (kl_trans (kl_trans jA1 jA2) jA3) jA4) (kl_piece hevD 3 _ _ tL5)) (kl_piece hevD 2 _ _ tL8)) tA10 tK11 tK12 tK13
end Go.IL
set_option maxRecDepth 100000
open Go Go.IL Go.Proofs
namespace Go.IL
/-! The law, for every input. -/
theorem p3 (k id n m p : Int) (l : List UInt8) (b : Bool) (h0 : 0 ≤ k) (h1 : k < 256) : PureAt Tryz.prog 3 [.agg (inV k id n m p l b)] (.bool true) := by
  obtain ⟨j, rfl⟩ := Int.eq_ofNat_of_zero_le h0
  have hj : j < 256 := by omega
  refine p3_of awake_ok j id n m p l b ?_
  have key : j < 16 ∨ (16 ≤ j ∧ j < 32) ∨ (32 ≤ j ∧ j < 48) ∨ (48 ≤ j ∧ j < 64) ∨ (64 ≤ j ∧ j < 80) ∨ (80 ≤ j ∧ j < 96) ∨ (96 ≤ j ∧ j < 112) ∨ (112 ≤ j ∧ j < 128) ∨ (128 ≤ j ∧ j < 144) ∨ (144 ≤ j ∧ j < 160) ∨ (160 ≤ j ∧ j < 176) ∨ (176 ≤ j ∧ j < 192) ∨ (192 ≤ j ∧ j < 208) ∨ (208 ≤ j ∧ j < 224) ∨ (224 ≤ j ∧ j < 240) ∨ (240 ≤ j ∧ j < 256) := by omega
  rcases key with h | h | h | h | h | h | h | h | h | h | h | h | h | h | h | h
  · exact oks_e (ok0 id n m p) (by omega) (by omega) b
  · exact oks_e (ok1 id n m p) (by omega) (by omega) b
  · exact oks_e (ok2 id n m p) (by omega) (by omega) b
  · exact oks_e (ok3 id n m p) (by omega) (by omega) b
  · exact oks_e (ok4 id n m p) (by omega) (by omega) b
  · exact oks_e (ok5 id n m p) (by omega) (by omega) b
  · exact oks_e (ok6 id n m p) (by omega) (by omega) b
  · exact oks_e (ok7 id n m p) (by omega) (by omega) b
  · exact oks_e (ok8 id n m p) (by omega) (by omega) b
  · exact oks_e (ok9 id n m p) (by omega) (by omega) b
  · exact oks_e (ok10 id n m p) (by omega) (by omega) b
  · exact oks_e (ok11 id n m p) (by omega) (by omega) b
  · exact oks_e (ok12 id n m p) (by omega) (by omega) b
  · exact oks_e (ok13 id n m p) (by omega) (by omega) b
  · exact oks_e (ok14 id n m p) (by omega) (by omega) b
  · exact oks_e (ok15 id n m p) (by omega) (by omega) b
end Go.IL
open Go.RowKit Go.WideShapes Go.ChangeShapes
namespace Go.IL

/-! A law's arguments: how they read. -/
def Spotless (v : Value) : Prop := ∀ a n c, v = .slice (some a) n c → a.spot = none
theorem spot_cell {P : Program} {w : World} {r : Reach} {b : Nat} {t : TypeId} {v : Value} (h : Cell.okWide P w r b t v) : Spotless v := by
  intro a n c e
  subst e
  have h2 : Cell.ok P w r b t (.slice (some a) n c) := by
    unfold Cell.okWide at h
    split at h <;> first | exact h | (rename_i h3 _; cases h3) | (rename_i h3; cases h3) | skip
    all_goals first | exact h | simp_all
  unfold Cell.ok at h2
  split at h2 <;> simp_all [World.has]
theorem spot_val {P : Program} {w : World} {r : Reach} {b : Nat} {t : TypeId} {v : Value} (h : Value.okWide P w r b t v) : ∀ u ∈ v.cells.toList, Spotless u := by
  have agg : ∀ cs : Array Value, Row.okWide P w r b t cs → ∀ u ∈ cs.toList, Spotless u := by
    intro cs ⟨ts, _, _, h3⟩ u hu
    obtain ⟨i, hi⟩ := List.getElem?_of_mem hu
    obtain ⟨q, _, hq⟩ := h3 i u (by simpa using hi)
    exact spot_cell hq
  unfold Value.okWide at h
  split at h
  · obtain ⟨cs, rfl, _, h⟩ := h; simpa [Value.cells] using agg cs h
  · obtain ⟨cs, rfl, _, h⟩ := h; simpa [Value.cells] using agg cs h
  · have h2 := spot_cell h
    intro u hu
    cases v with
    | agg cs =>
      exfalso
      unfold Cell.okWide at h
      split at h <;> simp_all [Cell.ok]
    | _ => simp [Value.cells] at hu; subst hu; exact h2

def Env.none (w : World) : Env := ⟨w, fun _ _ => False⟩
/-- What the cells of a type read as. -/
def OpD (P : Program) (sp : Bool) (t : TypeId) (Q : List D → Prop) : Prop :=
  ∀ {H : Type} {enc : TypeId × Value → H} {w : World} {base : Nat} {spare : Nat → Bool} {held : Bool} {fuel : Nat} {cs : List Value} {x : DataW H × List MemPlace},
    DataW.trod enc P w base spare held fuel t cs = some x → (sp = true → ∀ v ∈ cs, Spotless v) → ∃ ds, RdL (Env.none w) β0 cs ds ∧ Q ds
def qInt (k : IntKind) (ds : List D) : Prop := ∃ n : Int, ds = [.int k n] ∧ (k.min ≤ n ∧ n ≤ k.max)
def qBool (ds : List D) : Prop := ∃ b : Bool, ds = [.bool b]
def qStr (ds : List D) : Prop := ∃ l : List UInt8, ds = [.str l] ∧ l.length ≤ 9223372036854775807
def qList : List (List D → Prop) → List D → Prop
  | [], ds => ds = []
  | Q :: Qs, ds => ∃ a b, ds = a ++ b ∧ Q a ∧ qList Qs b

section
variable {P : Program} {sp : Bool} {t : TypeId}
theorem opd_int {k : IntKind} (hu : P.underlying t = some (.int k)) : OpD P sp t (qInt k) := by
  intro H enc w base spare held fuel cs x h _
  obtain ⟨n, rfl, rfl, hw⟩ := DataW.trod_int hu h
  exact ⟨[.int k n], .cons (.int _ _ _) (.nil _), n, rfl, by simpa [Lit.wf] using hw⟩
theorem opd_bool (hu : P.underlying t = some .bool) : OpD P sp t qBool := by
  intro H enc w base spare held fuel cs x h _
  obtain ⟨b, rfl, rfl⟩ := DataW.trod_bool hu h
  exact ⟨[.bool b], .cons (.bool _ _) (.nil _), b, rfl⟩
theorem opd_str (hu : P.underlying t = some .string) : OpD P sp t qStr := by
  intro H enc w base spare held fuel cs x h _
  obtain ⟨s, rfl, rfl, hs⟩ := DataW.trod_string hu h
  refine ⟨[.str s.data.toList], .cons ?_ (.nil _), s.data.toList, rfl, ?_⟩
  · have := Rd.str (E := Env.none w) β0 s.data.toList; rwa [bs_data] at this
  · have : s.data.toList.length = s.size := rfl
    rw [this]; unfold maxLen at hs; omega
/-- The fields of a struct, one behind the other. -/
def fieldsAt (P : Program) : Nat → List Field → Bool
  | _, [] => true
  | k, f :: fs => f.offset == k && fieldsAt P (k + P.cellsOf f.type) fs
inductive OpFs (P : Program) (sp : Bool) : List Field → List (List D → Prop) → Prop
  | nil : OpFs P sp [] []
  | cons {f fs Q Qs} (h : OpD P sp f.type Q) (t : OpFs P sp fs Qs) : OpFs P sp (f :: fs) (Q :: Qs)
theorem opd_struct {fs : Array Field} {Qs : List (List D → Prop)} (hu : P.underlying t = some (.struct fs)) (hf : fieldsAt P 0 fs.toList = true) (hn : P.cellsOf t = (fs.toList.map fun f => P.cellsOf f.type).sum) (h : OpFs P sp fs.toList Qs) : OpD P sp t (qList Qs) := by
  intro H enc w base spare held fuel cs x hx hs
  obtain ⟨xs, n, _, _, hlen, hxl, hfld⟩ := DataW.trod_struct hu hx
  have key : ∀ (l : List Field) (Qs : List (List D → Prop)) (k : Nat), OpFs P sp l Qs → fieldsAt P k l = true → k + (l.map fun f => P.cellsOf f.type).sum = cs.length →
      (∀ f ∈ l, ∃ y, DataW.trod enc P w base spare held n f.type ((cs.drop f.offset).take (P.cellsOf f.type)) = some y) → ∃ ds, RdL (Env.none w) β0 (cs.drop k) ds ∧ qList Qs ds := by
    intro l Qs k ho
    induction ho generalizing k with
    | nil =>
      intro _ h1 _
      refine ⟨[], ?_, rfl⟩
      rw [List.drop_of_length_le (by simp at h1; omega)]; exact .nil _
    | @cons f fs Q Qs h t ih =>
      intro h1 h2 h3
      simp only [fieldsAt, Bool.and_eq_true, beq_iff_eq] at h1
      simp only [List.map_cons, List.sum_cons] at h2
      obtain ⟨y, hy⟩ := h3 f (by simp)
      rw [h1.1] at hy
      obtain ⟨ds, h4, h5⟩ := h hy (fun hsp v hv => hs hsp v (List.mem_of_mem_drop (List.mem_of_mem_take hv)))
      obtain ⟨es, h6, h7⟩ := ih (k + P.cellsOf f.type) h1.2 (by omega) (fun g hg => h3 g (by simp [hg]))
      refine ⟨ds ++ es, ?_, ds, es, rfl, h5, h7⟩
      have := h4.append h6
      rwa [← List.drop_drop, List.take_append_drop] at this
  have := key fs.toList Qs 0 h hf (by rw [Nat.zero_add, ← hn, hlen]) (fun f hf => by
    obtain ⟨i, hi⟩ := List.getElem?_of_mem hf
    have h1 := hfld i f (by simpa using hi)
    have h2 : i < xs.length := by rw [hxl]; have := (List.getElem?_eq_some_iff.1 hi).1; simpa using this
    exact ⟨xs[i], by rw [h1, List.getElem?_eq_getElem h2]⟩)
  rwa [List.drop_zero] at this
theorem OpD.to {Q R : List D → Prop} (h : OpD P sp t Q) (k : ∀ ds, Q ds → R ds) : OpD P sp t R := by
  intro H enc w base spare held fuel cs x hx hs
  obtain ⟨ds, h1, h2⟩ := h hx hs
  exact ⟨ds, h1, k ds h2⟩
/-- An argument. -/
theorem opd_val {Q : List D → Prop} (h : OpD P true t Q) {H : Type} {enc : TypeId × Value → H} {w : World} {base b0 : Nat} {spare : Nat → Bool} {held : Bool} {v : Value} {d : DataW H} {ps : List MemPlace} {r : Reach}
    (hv : Value.okWide P w r b0 t v) (hd : DataW.Trod enc P w base spare held t v d ps) : ∃ ds, RdL (Env.none w) β0 v.cells.toList ds ∧ Q ds := by
  obtain ⟨fuel, hf⟩ := hd
  exact h hf (fun _ => spot_val hv)
theorem rd_aggr {E : Env} {cs : Array Value} {ds : List D} (h : RdL E β0 (Value.cells (.agg cs)).toList ds) : Rd E β0 (.agg cs) (.agg ds) := by
  have := Rd.agg (E := E) β0 cs.toList ds (by simpa [Value.cells] using h)
  simpa using this

section
variable {H : Type} {enc : TypeId × Value → H}
theorem trodAll_below (hl : laidOutB P = true) {W W' : World} (hb : Below W.heap.size W W') {sp : Nat → Bool} : ∀ {ts : List TypeId} {vs : List Value} {ds : List (DataW H)} {ps : List MemPlace},
    (∀ t ∈ ts, P.readableRec t = true ∧ t < P.types.size) → DataW.TrodAll enc P W 0 (fun _ => true) true ts vs ds ps → (∀ x ∈ ps, x.block < W.heap.size) → (∀ x ∈ ps, sp x.block = true) →
    DataW.TrodAll enc P W' 0 sp true ts vs ds ps
  | [], vs, ds, ps, _, h, _, _ => by
    obtain ⟨rfl, rfl, rfl⟩ := trodAll_nil h; exact rfl
  | t :: ts, vs, ds, ps, hr, h, hlt, hsp => by
    obtain ⟨v, vs', d, ds', p, q, rfl, rfl, rfl, h1, h2⟩ := trodAll_cons h
    refine ⟨p, q, ?_, trodAll_below hl hb (fun t ht => hr t (by simp [ht])) h2 (fun x hx => hlt x (by simp [hx])) (fun x hx => hsp x (by simp [hx])), rfl⟩
    have hx : ∀ x ∈ p, x ∈ p ++ q := fun x hx => by simp [hx]
    exact WideElems.Trod_stays hl (hr t (by simp)).1 (hr t (by simp)).2 h1 (fun x hxp => hb.same (hlt x (hx x hxp))) (fun x hxp => hsp x (hx x hxp))
theorem post_of_below {f : Func} {s : ChangeSpec} {apart fresh handsOn again : Bool} {W W' : World} {args : Array Value} {v : Value} {ds gs : List (DataW H)} {before pa pv : List MemPlace}
    (hW : DataW.Whole enc P f.params.toList s.vars apart W args.toList ds gs before)
    (hres : ∀ (b : Nat) (sp : Nat → Bool) (hd : Bool), DataW.TrodAll enc P W' b sp hd f.resultTypes.toList (v.resultList f.resultTypes.size) (s.fn H (ds ++ gs)).results [])
    (hargs : ∀ sp : Nat → Bool, (∀ p ∈ before, sp p.block = true) → DataW.TrodAll enc P W' 0 sp true f.params.toList args.toList (s.fn H (ds ++ gs)).args pa)
    (hvars : ∀ sp : Nat → Bool, (∀ p ∈ before, sp p.block = true) → DataW.TrodVars enc P W' sp s.vars (s.fn H (ds ++ gs)).vars pv)
    (hps : before = pa ++ pv) (hb : Below W.heap.size W W')
    (hok : ∀ (j : Nat) (t : TypeId) (r : Value), f.resultTypes[j]? = some t → (v.resultList f.resultTypes.size)[j]? = some r → Value.okWide P W' .any 0 t r) :
    s.post enc P f apart fresh handsOn again W args v W' := by
  have hlt : ∀ p ∈ before, p.block < W.heap.size := fun p hp => hW.lt p hp
  have hold : ∀ p ∈ before, (fun b => decide (b < W.heap.size)) p.block = true := fun p hp => by simpa using hlt p hp
  refine ⟨ds, gs, before, [], pa, pv, hW, hres _ _ _, hargs _ hold, hvars _ hold, World.keptBut_mono (fun p hp => ⟨hp, ?_⟩) (hb.frame (· ∈ before)), fun _ => ?_⟩
  · rw [hps, List.mem_append] at hp
    exact Or.inr hp
  · obtain ⟨_, _, _, _, _, hz, hn⟩ := hW
    refine ⟨hok, _, _, ([] ++ pa) ++ pv, ⟨[] ++ pa, pv, trodAll_append (hargs _ (fun _ _ => rfl)) (hres _ _ _), hvars _ (fun _ _ => rfl), rfl, ?_, ?_⟩, ?_⟩
    · intro b off hp
      have hin : MemPlace.cell b off ∈ before := by rw [hps]; simpa using hp
      rw [hb.frozen (hlt _ hin)]
      exact hz b off hin
    · intro ha
      have := hn ha
      rw [hps] at this
      simpa using this
    · intro p hp _
      rw [hps]
      simpa using hp
theorem law_post {f : Func} {s : ChangeSpec} {apart fresh handsOn again : Bool} {W W' : World} {args : Array Value} {ds gs : List (DataW H)} {before : List MemPlace} {tb : TypeId}
    (hl : laidOutB P = true) (hr : ∀ t ∈ f.params.toList, P.readableRec t = true ∧ t < P.types.size) (hv : s.vars = []) (hres : f.resultTypes = #[tb]) (hbool : P.underlying tb = some .bool)
    (hfn : s.fn H (ds ++ gs) = { results := [.lit (.bool true)], args := ds })
    (hW : DataW.Whole enc P f.params.toList s.vars apart W args.toList ds gs before) (hb : Below W.heap.size W W') : s.post enc P f apart fresh handsOn again W args (.bool true) W' := by
  have hW' := hW
  obtain ⟨p, q, hA, hV, hbef, hfz, hnd⟩ := hW
  rw [hv] at hV
  obtain ⟨rfl, rfl⟩ := trodVars_none hV
  have hlt : ∀ x ∈ before, x.block < W.heap.size := fun x hx => hW'.lt x hx
  have hsub : ∀ x ∈ p, x ∈ before := fun x hx => by rw [hbef]; simp [hx]
  refine post_of_below (pa := p) (pv := []) hW' ?_ ?_ ?_ ?_ hb ?_
  · intro b sp hd
    rw [hfn, hres]
    exact trodAll_mk1 (shut_bool hbool true)
  · intro sp hsp
    rw [hfn]
    exact trodAll_below hl hb hr hA (fun x hx => hlt x (hsub x hx)) (fun x hx => hsp x (hsub x hx))
  · intro sp hsp
    rw [hfn, hv]; exact rfl
  · exact hbef
  · exact ok_one hres rfl (okWide_bool_mk hbool true)
end
end
end Go.IL
namespace Go.IL
theorem rd_arg_agg {P : Program} {w W : World} {r : Reach} {b : Nat} {t : TypeId} {v : Value} {ds : List D} (hv : Value.okWide P W r b t v) (hg : aggOf P t = true) (h : RdL (Env.none w) β0 v.cells.toList ds) : Rd (Env.none w) β0 v (.agg ds) := by
  unfold aggOf at hg
  unfold Value.okWide at hv
  split at hv
  · obtain ⟨cs, rfl, _⟩ := hv; exact rd_aggr h
  · obtain ⟨cs, rfl, _⟩ := hv; exact rd_aggr h
  · rename_i h1 h2
    split at hg
    · rename_i h3; exact absurd h3 (h1 _)
    · rename_i h3; exact absurd h3 (h2 _ _)
    · cases hg
end Go.IL
open Go.RowKit Go.WideShapes Go.ChangeShapes
namespace Go.IL
end Go.IL
