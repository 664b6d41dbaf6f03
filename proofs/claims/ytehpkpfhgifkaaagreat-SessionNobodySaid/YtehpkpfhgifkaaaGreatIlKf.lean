/-
  A part of the proof: rules and plain facts. No condition.
-/
import Derived.Test.YtehpkpfhgifkaaaGreatIlTx
set_option linter.all false
set_option linter.unusedVariables false
namespace Go.IL
/-! Loops over functions. -/
structure XR where
  e : Exit
  X : XS
/-- What is met by less fuel: calls, and pieces of code. -/
structure EV where
  cl : CL
  cd : Bool → Code → Nat → XS → Option XR
structure CGo (P : Program) (N : Nat) (y : Bool) (c : Code) (X : XS) (R : XR) : Prop where
  fwd : Fwd X R.X
  go : ∀ (O : Origin) (S : St) (L : Nat) (Q : Exit → St → Prop), (y = true → O.round = none ∧ O.nm = false) → SubX O X S L → OC O X S → R.X.nid ≤ L → (∀ S', SubX O R.X S' L → Pres X R.X S S' → Q R.e S') → IWP P O N c S Q
def CdOk (P : Program) (cd : Bool → Code → Nat → XS → Option XR) : Prop := ∀ y c N X R, cd y c N X = some R → CGo P N y c X R
structure EvOk (P : Program) (ev : EV) : Prop where
  cl : FOk P ev.cl
  cd : CdOk P ev.cd
/-- What a list of operations is to be. -/
structure LGo (P : Program) (N : Nat) (y : Bool) (ops : Array Oper) (l : List Oper) (X X' : XS) : Prop where
  fwd : Fwd X X'
  go : ∀ (O : Origin) (S : St) (L : Nat) (Q : Exit → St → Prop), (y = true → O.round = none ∧ O.nm = false) → SubX O X S L → OC O X S → X'.nid ≤ L → (∀ S', SubX O X' S' L → Pres X X' S S' → Q .normal S') → ILS P O N ops l S Q

theorem cellsT_allD {E : Env} {β : Names} {O : Origin} {N : Nat} {S : St} {a : Act} {sl : Tt D} (hr : Rel O N S E β a) (h : ∀ t, sl.at .dead t = S.get t ∨ sl.at .dead t = .dead) : RdL E β a.tmps.toList (cellsT N sl) := by
  have key : ∀ (f g : Nat → D) (n k : Nat) (l : List Value), (∀ t, g t = f t ∨ g t = .dead) → RdL E β l ((List.range' k n).map f) → RdL E β l ((List.range' k n).map g) := by
    intro f g n
    induction n with
    | zero => intro k l _ h; exact h
    | succ n ih =>
      intro k l hg h
      rw [List.range'_succ, List.map_cons] at h ⊢
      cases h with
      | cons h1 h2 =>
        refine .cons ?_ (ih _ _ hg h2)
        rcases hg k with e | e
        · rw [e]; exact h1
        · rw [e]; exact .dead _ _
  have := rel_allD hr
  unfold allD at this
  unfold cellsT
  rw [List.range_eq_range'] at this ⊢
  exact key _ _ _ _ _ h this
section
variable {P : Program} {N : Nat} {X : XS}
theorem range_go {g : Operand} {ps : Array Tmp} {as bd : Code} {f : FuncId} {caps : List D} {f0 : Tt D} {H1 H2 : Tt XE} {R : CR} {N1 : Nat} {f1 : Tt D} {st : LoopState} {pend : Option Code} {ps1 : Array Tmp} {as1 bd1 : Code} (hx : opD X.sl g = .fn f caps)
    (hf0 : ∀ t, f0.at .dead t = if t < N then X.sl.at .dead t else .dead) (hH1 : ∀ j, H1.at .no j = if X.nid = j then .loop N f0 .ready none ps as bd else X.H.at .no j) (hg : FGo P f (.yld X.nid :: caps) H1 (X.nid + 2) X.dm R) (hR : R.H.at .no X.nid = .loop N1 f1 st pend ps1 as1 bd1) (hst : st ≠ .busy)
    (hH2 : ∀ j, H2.at .no j = if X.nid = j then .no else R.H.at .no j) : Fwd X ⟨X.sl, H2, R.nid, R.dm⟩ ∧ ∀ (O : Origin) (S : St) (L : Nat) (Q : Exit → St → Prop), O.round = none → O.nm = false → SubX O X S L → OC O X S → R.nid ≤ L →
      (∀ S', SubX O ⟨X.sl, H2, R.nid, R.dm⟩ S' L → Pres X ⟨X.sl, H2, R.nid, R.dm⟩ S S' → match pend with
        | none => Q .normal S'
        | some c => IWP P O N c S' Q) → IWP P O N (.rangeFunc g ps as bd) S Q := by
  have hn1 : X.nid + 2 ≤ R.nid := hg.fwd.nid
  have hfw : Fwd X ⟨X.sl, H2, R.nid, R.dm⟩ := by
    refine ⟨fun i h1 h2 => ?_, hg.fwd.pm, by show X.nid ≤ R.nid; omega, fun i h1 h2 => ?_, fun i => ?_⟩
    · have h2 : i < X.nid ∨ R.nid ≤ i := h2
      show H2.at .no i = .no
      rw [hH2 i, if_neg (by omega)]
      refine hg.fwd.p0 i ?_ (by rcases h2 with h2 | h2; exact .inl (by show i < X.nid + 2; omega); exact .inr h2)
      show H1.at .no i = .no
      rw [hH1 i, if_neg (by omega)]; exact h1
    · have h2 : i < X.nid ∨ R.nid ≤ i := h2
      show H2.at .no i = _
      rw [hH2 i, if_neg (by omega)]
      have := hg.fwd.p4 i h1 (by rcases h2 with h2 | h2; exact .inl (by show i < X.nid + 2; omega); exact .inr h2)
      rw [show R.H.at .no i = (mkX R.H R.nid R.dm).ent i from rfl, this]
      show H1.at .no i = _
      rw [hH1 i, if_neg (by omega)]; rfl
    · show lpC (H2.at .no i) = none ∨ lpC (H2.at .no i) = lpC (X.H.at .no i)
      rw [hH2 i]
      split
      · exact .inl rfl
      · rename_i hi
        have := hg.fwd.p5 i
        rw [show (mkX H1 (X.nid + 2) X.dm).ent i = X.H.at .no i by show H1.at .no i = _; rw [hH1 i, if_neg hi]] at this
        exact this
  refine ⟨hfw, fun O S L Q hro hnm hs hoc hL kk => ?_⟩
  obtain ⟨Ow, OX, Of, Og, Or, Okv, Olv, Odv, Olc, Omb, Odt, Onm⟩ := O
  simp only at hro hnm
  subst hro
  have hfrS : S.ent X.nid = .fresh := hs.fr _ (Nat.le_refl _) (by omega)
  obtain ⟨k, hk⟩ := fresh_num S.H
  intro E β a hr
  obtain ⟨bs, hbs, hnd, hall⟩ := hr.nd
  have hdvn : ∀ j, E.w.heap.size ∉ Odv j := fun j hm => by
    rcases hoc.dv j with g1 | ⟨i, ds, _, _, hi⟩
    · have g1 : Odv j = [] := g1
      rw [g1] at hm; cases hm
    · have he := hr.h.ent i
      rw [hi] at he
      exact Nat.lt_irrefl _ (heap_lt (he.2 _ hm))
  obtain ⟨vs, hev, hcaps⟩ := rd_fn ((hx ▸ hs.sv g : SV S g (.fn f caps)).rd hr)
  refine wpIn_rangeFunc ?_
  intro fn0 _
  let r0 : Loop := { state := .ready, pending := none, fn := fn0, tmps := a.tmps, params := ps, assign := as, body := bd, defers := E.w.heap.size }
  let W0 := E.w.alloc (.deferred (some []))
  have hsz0 : W0.heap.size = E.w.heap.size + 1 := by simp [W0]
  let W1 := W0.alloc (.loop r0)
  have hb0 : RowKit.Below E.w.heap.size E.w W0 := (RowKit.Below.refl _ _).alloc (Nat.le_refl _) _
  refine ⟨E.w.heap.size + 1, [{ target := .collected E.w.heap.size, args := #[] }], W1, { target := .fn (.func f) vs.toArray, args := #[.func (.yield (E.w.heap.size + 1)) #[] #[]] }, W1, f,
    #[.func (.yield (E.w.heap.size + 1)) #[] #[]] ++ vs.toArray, W1, run_enterLoop_outer _ _ _ _ _, ?_, fun _ _ => trivial, ?_, fun h => by simp [fen, Fence.wide] at h, ?_⟩
  · simp only [resolve, hev]
    simp [go_sem]
  · simp [invoke, run_callFunc hg.cal]
  let O' : Origin := ⟨Ow, OX, Of, Og, none, fun j => if j = k then a.tmps.toList else Okv j, fun j => if j = k then E.w.heap.size + 1 else Olv j, fun j => if j = k then E.w.heap.size :: bs else Odv j, fun j => if j = k then (ps, as, bd) else Olc j, Omb, [], false⟩
  have hsame : (⟨Ow, OX, Of, Og, none, Okv, Olv, Odv, Olc, Omb, Odt, Onm⟩ : Origin).same O' := ⟨rfl, rfl, rfl, rfl, rfl⟩
  have hcomp : ∀ e : Ent, e.num ≠ some k → compat ⟨Ow, OX, Of, Og, none, Okv, Olv, Odv, Olc, Omb, Odt, Onm⟩ O' e ∧ compat O' ⟨Ow, OX, Of, Og, none, Okv, Olv, Odv, Olc, Omb, Odt, Onm⟩ e := fun e he => by
    cases e with
    | kept j ds => have : j ≠ k := fun h => he (by rw [h]; rfl)
                   simp [compat, O', this]
    | loop j => have : j ≠ k := fun h => he (by rw [h]; rfl)
                simp [compat, O', this]
    | _ => exact ⟨trivial, trivial⟩
  have h0 : HOk O' ⟨W0, E.X⟩ β (entL S.H) := (hr.h.below hb0).swap hsame fun id => .inl ⟨rfl, (hcomp _ (hk id)).1⟩
  let E1 : Env := ⟨W1, fun b o => b = E.w.heap.size + 1 ∨ E.X b o⟩
  let β1 : Names := fun j => if j = X.nid then some (E.w.heap.size + 1) else β j
  have hfrL : β X.nid = none := by have := hr.h.ent X.nid; rw [hfrS] at this; exact this
  have hβ : β.le β1 := fun j b hj => by
    by_cases hji : j = X.nid
    · subst hji; rw [hfrL] at hj; cases hj
    · simp [β1, hji, hj]
  have hstp : Step O' ⟨W0, E.X⟩ E1 (E.w.heap.size + 1) :=
    ⟨rfl, rfl, rfl, by simp [E1, W1], by simp [E1, W1, hsz0], .inl (by have := h0.size; simp only [hsz0] at this; exact this), fun j hj _ => heap_alloc_old _ _ hj, fun j o hj => by simp [E1, hj], fun _ hx => by have h9 : E.w.heap.size + 1 < W0.heap.size := heap_lt hx; omega⟩
  have hle : (⟨W0, E.X⟩ : Env).le E1 := hstp.le (fun o v hx _ => by have := World.block_lt_of_cell? _ _ hx; simp [hsz0] at this) (fun c e f hx => by have := heap_lt hx; simp [hsz0] at this)
  have hle0 : E.le E1 := (below_le hb0).trans hle
  have hnew : W1.heap[E.w.heap.size + 1]? = some (.loop r0) := by have := World.alloc_heap_new W0 (.loop r0); rwa [hsz0] at this
  have hdef : W1.heap[E.w.heap.size]? = some (.deferred (some [])) := (heap_alloc_old _ _ (by omega)).trans (World.alloc_heap_new E.w _)
  have hrd : RdL E1 β1 a.tmps.toList (allD N S) := RdL.mono hle0 hβ (rel_allD hr)
  have hrdc : RdL E1 β1 a.tmps.toList (cellsT N f0) := RdL.mono hle0 hβ (cellsT_allD hr fun t => by
    rw [hf0 t]; split
    · exact hs.sl t
    · exact .inr rfl)
  have h1 : HOk O' E1 β1 (entL ((X.nid, .loop k (cellsT N f0) .ready none) :: S.H)) := by
    refine HOk.put h0 hstp hle hβ (id := X.nid) (fun j hj => ?_) (fun j hj hh hb => ?_) (by simp [β1]) ?_ (fun _ _ => trivial)
    · left; exact ⟨by show look _ _ _ = _; rw [look_cons, if_neg (Ne.symm hj)]; rfl, by simp [β1, hj]⟩
    · have hh' : (look (defE j) j ((X.nid, .loop k (cellsT N f0) .ready none) :: S.H)).held = true := hh
      rw [look_cons, if_neg (Ne.symm hj)] at hh'
      have := h0.lt (j := j) hh' hb
      simp [hsz0] at this
    · show EntOk O' E1 β1 _ (look _ _ _)
      rw [look_cons, if_pos rfl]
      exact ⟨r0, hnew, fun o => .inl rfl, by simp [O', r0], by simp [O', r0], by simp [O', r0], rfl, rfl, by simp [O'], hrdc⟩
  let S0 : St := ⟨[], (X.nid + 1, .kept k (allD N S)) :: (X.nid, .loop k (cellsT N f0) .ready none) :: S.H⟩
  have h2 : HOk O' E1 β1 S0.ent := by
    refine h1.addK (by simpa [O'] using hrd) fun b hb => ?_
    have hb' : b ∈ E.w.heap.size :: bs := by simpa [O'] using hb
    rcases List.mem_cons.1 hb' with rfl | hb'
    · exact hdef
    · have hx := (hall b hb').2
      have hlt := heap_lt hx
      exact ((heap_alloc_old W0 _ (by omega)).trans (heap_alloc_old E.w _ hlt)).trans hx
  have hS0 : ∀ i, X.nid ≠ i → X.nid + 1 ≠ i → S0.ent i = S.ent i := fun i h1 h2 => by simp [S0, St.ent, entL, look_cons, h1, h2]
  have hS0L : S0.ent X.nid = .loop k (cellsT N f0) .ready none := by simp [S0, St.ent, entL, look_cons]
  have hS0K : S0.ent (X.nid + 1) = .kept k (allD N S) := by simp [S0, St.ent, entL, look_cons]
  have hnoK : X.H.at .no (X.nid + 1) = .no := hs.at_nid (by omega) (by omega)
  have hsub : SubX O' (mkX H1 (X.nid + 2) X.dm) S0 L := by
    refine ⟨fun s => .inr (at_e _ _), fun i => ?_, fun i g1 g2 => ?_, hs.lim⟩
    · show EnR O' (H1.at .no i) _
      rw [hH1 i]
      by_cases hi : X.nid = i
      · subst hi
        rw [if_pos rfl, hS0L]
        exact ⟨k, rfl, by simp [O'], fun t ht => by rw [hf0 t, if_neg (by omega)]⟩
      · rw [if_neg hi]
        by_cases hi2 : X.nid + 1 = i
        · subst hi2; rw [hnoK]; trivial
        · rw [hS0 i hi hi2]
          exact (hs.en i).lc fun m hm => by
            have : m ≠ k := fun e => hk i (by rw [← e]; exact hm)
            simp [O', this]
    · have g1 : X.nid + 2 ≤ i := g1
      rw [hS0 i (by omega) (by omega)]
      exact hs.fr i (by omega) g2
  have hoc' : OC O' (mkX H1 (X.nid + 2) X.dm) S0 := by
    refine ⟨hoc.foot, fun j => ?_⟩
    by_cases hj : j = k
    · subst hj
      refine .inr ⟨X.nid + 1, _, by show X.nid + 1 < X.nid + 2; omega, ?_, hS0K⟩
      show H1.at .no (X.nid + 1) = .no
      rw [hH1, if_neg (by omega)]; exact hnoK
    · rcases hoc.dv j with g | ⟨i, ds', g1, g2, g3⟩
      · left; show (if j = k then _ else Odv j) = []; rw [if_neg hj]; exact g
      · refine .inr ⟨i, ds', by show i < X.nid + 2; omega, ?_, by rw [hS0 i (by omega) (by omega)]; exact g3⟩
        show H1.at .no i = .no
        rw [hH1 i, if_neg (by omega)]; exact g2
  have hargs : RdL E1 β1 (Value.func (.yield (E.w.heap.size + 1)) #[] #[] :: vs) (.yld X.nid :: caps) := .cons (.yld _ _ _ (by simp [β1])) (RdL.mono hle0 hβ hcaps)
  refine callsIn_wide (n := 0) |>.2 ?_
  have hcall := hg.go O' E1 β1 S0 L _ rfl rfl rfl hoc' h2 hsub hL hargs
  rw [show #[Value.func (.yield (E.w.heap.size + 1)) #[] #[]] ++ vs.toArray = (Value.func (.yield (E.w.heap.size + 1)) #[] #[] :: vs).toArray by simp]
  refine hcall.mono ?_
  rintro e w' ⟨v, rfl, S2, E2, β2, rfl, hok, hrdv, hsub2, hpres⟩
  obtain ⟨k', dl, st', pend', hentL, _⟩ : ∃ k' ds st' pend', S2.ent X.nid = .loop k' ds st' pend' ∧ st' = st ∧ pend' = pend := by
    have := hsub2.en X.nid
    rw [show (mkX R.H R.nid R.dm).H.at .no X.nid = .loop N1 f1 st pend ps1 as1 bd1 from hR] at this
    obtain ⟨k', g1, _⟩ := this
    exact ⟨k', _, _, _, g1, rfl, rfl⟩
  rename_i hsp
  obtain ⟨rfl, rfl⟩ := hsp
  have hkk : k' = k := by
    rcases hpres.p3 X.nid with g | g
    · rw [hentL] at g; cases g
    · rw [hentL, hS0L] at g
      simpa [Ent.num] using g
  subst hkk
  obtain ⟨r, g1, g2, g3, g4, g5, g6, g7, g8⟩ := HOk.turn (H := S2.H) hok hentL
  obtain ⟨g9, g10⟩ := g8 .exhausted pend'
  have hlk : O'.lv k' = E.w.heap.size + 1 := by simp [O']
  rw [hlk] at g1 g9 g10
  have hentK : S2.ent (X.nid + 1) = .kept k' (allD N S) := by
    rw [hpres.p1 (X.nid + 1) (by show H1.at .no (X.nid + 1) = .no; rw [hH1, if_neg (by omega)]; exact hnoK) (.inl (by show X.nid + 1 < X.nid + 2; omega)), hS0K]
  have hkept := hok.ent (X.nid + 1)
  rw [hentK] at hkept
  obtain ⟨k1, k2⟩ := hkept
  have hkv : O'.kv k' = a.tmps.toList := by simp [O']
  have hdk : O'.dv k' = E.w.heap.size :: bs := by simp [O']
  rw [hkv] at k1; rw [hdk] at k2
  let E3 : Env := ⟨E2.w.putObj (E.w.heap.size + 1) (.loop { r with state := .exhausted, pending := pend' }), E2.X⟩
  let S3 : St := ⟨S.sl, (X.nid + 1, .none) :: (X.nid, .none) :: S2.H⟩
  have hS3 : ∀ i, X.nid ≠ i → X.nid + 1 ≠ i → S3.ent i = S2.ent i := fun i h1 h2 => by simp [S3, St.ent, entL, look_cons, h1, h2]
  have hS3L : S3.ent X.nid = .none := by simp [S3, St.ent, entL, look_cons]
  have hS3K : S3.ent (X.nid + 1) = .none := by simp [S3, St.ent, entL, look_cons]
  have hnum : ∀ i, X.nid ≠ i → X.nid + 1 ≠ i → (S2.ent i).num ≠ some k' := fun i h1 h2 hc => by
    rcases hpres.p3 i with g | g
    · rw [g] at hc; cases hc
    · rw [g, hS0 i h1 h2] at hc; exact hk i hc
  have hrel3 : Rel ⟨Ow, OX, Of, Og, none, Okv, Olv, Odv, Olc, Omb, Odt, Onm⟩ N S3 E3 β2 { a with defers := { target := .collected E.w.heap.size, args := #[] } :: a.defers } := by
    refine ⟨hr.n, ⟨E.w.heap.size :: bs, by rw [List.map_cons, List.cons_append, ← hbs], ?_, ?_⟩, ?_, fun s => ?_⟩
    · refine ⟨?_, fun h => by rw [hnm] at h; cases h⟩
      rw [List.nodup_cons]
      exact ⟨fun hm => Nat.lt_irrefl _ (heap_lt (hall _ hm).2), hnd.1⟩
    · intro b hb
      refine ⟨⟨?_, ?_⟩, (World.putObj_heap_other ?_).trans (k2 b hb)⟩
      rotate_left
      · rcases List.mem_cons.1 hb with rfl | hb
        · exact hdvn
        · exact (hall b hb).1.2
      rotate_left
      · rcases List.mem_cons.1 hb with rfl | hb
        · exact Nat.le_trans hr.h.mbs hr.h.size
        · exact (hall b hb).1.1
      · rintro rfl; have := k2 _ hb; rw [g1] at this; cases this
    · refine HOk.swap (O := O') (H := entL ((X.nid, .loop k' dl .exhausted pend') :: S2.H)) g10 ⟨rfl, rfl, rfl, rfl, rfl⟩ fun id => ?_
      by_cases h5 : X.nid + 1 = id
      · right; subst h5; exact hS3K
      · by_cases h6 : X.nid = id
        · right; subst h6; exact hS3L
        · left
          have h7 : entL ((X.nid, .loop k' dl .exhausted pend') :: S2.H) id = S2.ent id := by show look _ _ _ = _; rw [look_cons, if_neg h6]; rfl
          rw [h7]
          exact ⟨hS3 id h6 h5, (hcomp _ (hnum id h6 h5)).2⟩
    · rcases Nat.lt_or_ge s N with hsN | hsN
      · have := rdl_slots0 (RdL.mono g9 (Names.le.refl _) k1) s
        rw [get_allD hsN] at this
        exact this
      · have hu : a.tmps.getD s undef = undef := by
          have : a.tmps.size = N := hr.n
          simp [Array.getD_eq_getD_getElem?, Array.getElem?_eq_none (show a.tmps.size ≤ s by omega)]
        have := hr.sl s
        rw [hu] at this ⊢
        exact rd_undef _ this
  have hsub3 : SubX ⟨Ow, OX, Of, Og, none, Okv, Olv, Odv, Olc, Omb, Odt, Onm⟩ ⟨X.sl, H2, R.nid, R.dm⟩ S3 L := by
    refine ⟨hs.sl, fun i => ?_, fun i g1 g2 => ?_, hs.lim⟩
    · show EnR _ (H2.at .no i) _
      rw [hH2 i]
      by_cases hi : X.nid = i
      · rw [if_pos hi]; trivial
      · rw [if_neg hi]
        by_cases hi2 : X.nid + 1 = i
        · subst hi2
          have : R.H.at .no (X.nid + 1) = .no := hg.fwd.p0 (X.nid + 1) (by show H1.at .no (X.nid + 1) = .no; rw [hH1, if_neg (by omega)]; exact hnoK) (.inl (by show X.nid + 1 < X.nid + 2; omega))
          rw [this]; trivial
        · rw [hS3 i hi hi2]
          exact (hsub2.en i).lc fun m hm => by
            have : m ≠ k' := fun e => hnum i hi hi2 (by rw [← e]; exact hm)
            simp [O', this]
    · have g1 : R.nid ≤ i := g1
      rw [hS3 i (by omega) (by omega)]
      exact hsub2.fr i g1 g2
  have hpres3 : Pres X ⟨X.sl, H2, R.nid, R.dm⟩ S S3 := by
    have noH1 : ∀ i, X.nid ≠ i → X.ent i = .no → (mkX H1 (X.nid + 2) X.dm).ent i = .no := fun i hi h => by show H1.at .no i = .no; rw [hH1 i, if_neg hi]; exact h
    refine ⟨fun i h1 h2 => ?_, fun i h1 h2 => ?_, fun i => ?_⟩
    · have h2 : i < X.nid ∨ R.nid ≤ i := h2
      rw [hS3 i (by omega) (by omega), hpres.p1 i (noH1 i (by omega) h1) (by rcases h2 with h2 | h2; exact .inl (by show i < X.nid + 2; omega); exact .inr h2), hS0 i (by omega) (by omega)]
    · have h2 : i < X.nid ∨ R.nid ≤ i := h2
      rw [hS3 i (by omega) (by omega), hpres.p2 i h1 (by rcases h2 with h2 | h2; exact .inl (by show i < X.nid + 2; omega); exact .inr h2), hS0 i (by omega) (by omega)]
    · by_cases h5 : X.nid + 1 = i
      · left; subst h5; rw [hS3K]; rfl
      · by_cases h6 : X.nid = i
        · left; subst h6; rw [hS3L]; rfl
        · rw [hS3 i h6 h5]
          rcases hpres.p3 i with g | g
          · exact .inl g
          · right; rw [g, hS0 i h6 h5]
  have hfin := kk S3 hsub3 hpres3
  refine ⟨pend', E3.w, ?_, ?_⟩
  · have := run_endLoop (P := P) (l := E.w.heap.size + 1) g1 (by rw [g6]; exact hst)
    rw [g7] at this
    exact this
  · cases pend' with
    | none => exact ⟨_, E3, β2, rfl, hrel3, hfin⟩
    | some c => exact hfin E3 β2 _ hrel3
theorem Fwd.wrL {id : Nat} {x : XE} {H' : Tt XE} (hx : lpC x = lpC (X.ent id)) (hH : ∀ j, H'.at .no j = if id = j then x else X.H.at .no j) (hk : X.ent id ≠ .no) : Fwd X ⟨X.sl, H', X.nid, X.dm ||| 1 <<< id⟩ :=
  ⟨fun i h1 h2 => by
    show H'.at .no i = .no
    have : id ≠ i := fun e => hk (e ▸ h1)
    rw [hH i, if_neg this]; exact h1, fun i h => by
    show (X.dm ||| 1 <<< id).testBit i = true
    rw [Nat.testBit_or, h]; rfl, Nat.le_refl _, fun i h1 _ => by
    show H'.at .no i = _
    have : id ≠ i := fun e => by
      subst e
      have h1 : (X.dm ||| 1 <<< id).testBit id = false := h1
      rw [Nat.testBit_or, Nat.one_shiftLeft, Nat.testBit_two_pow_self] at h1
      simp at h1
    rw [hH i, if_neg this]; rfl, fun i => by
    show lpC (H'.at .no i) = _ ∨ lpC (H'.at .no i) = _
    rw [hH i]
    split
    · rename_i e; subst e; exact .inr hx
    · exact .inr rfl⟩
/-- The loop's slots, and what is handed to the round. -/
def psB {β : Type} (N0 : Nat) : List Nat → List D → Tt D → (Tt D → Option β) → Option β
  | [], ds, f, q => match ds with
    | [] => q f
    | _ :: _ => none
  | p :: ps, ds, f, q => match ds with
    | [] => none
    | d :: ds => tstb (Nat.blt p N0) (tstb (Nat.blt p 4000) (fcT ((stC .dead 12 p).run f d) fun f => psB N0 ps ds f q))
theorem psB_e {β : Type} {r : β} {N0 : Nat} : ∀ {ps : List Nat} {ds : List D} {f : Tt D} {q : Tt D → Option β}, psB N0 ps ds f q = some r →
    ∃ f', ps.length = ds.length ∧ (∀ p ∈ ps, p < N0) ∧ (∀ S : St, (∀ s, f.at .dead s = S.get s ∨ f.at .dead s = .dead) → ∀ s, f'.at .dead s = (setsS S (ps.zip ds)).get s ∨ f'.at .dead s = .dead) ∧ q f' = some r
  | [], ds, f, q, h => by
    cases ds with
    | nil => exact ⟨f, rfl, fun p hp => (by cases hp), fun S hS s => (by simpa [setsS] using hS s), h⟩
    | cons d ds => cases h
  | p :: ps, ds, f, q, h => by
    cases ds with
    | nil => cases h
    | cons d ds =>
      simp only [psB, fcT_eq] at h
      obtain ⟨h1, h⟩ := tstb_e h
      obtain ⟨h2, h⟩ := tstb_e h
      rw [Nat.blt_eq] at h1 h2
      obtain ⟨f', g1, g2, g3, g4⟩ := psB_e h
      refine ⟨f', by simp [g1], fun q hq => ?_, fun S hS s => ?_, g4⟩
      · rcases List.mem_cons.1 hq with rfl | hq
        · exact h1
        · exact g2 q hq
      · refine g3 (S.set p d) (fun s => ?_) s
        rw [stC_at _ _ _ _ _ _ (by omega)]
        simp only [St.get, St.set, look_cons]
        by_cases hs : p = s
        · left; rw [if_pos hs, if_pos hs]
        · rw [if_neg hs, if_neg hs]; exact hS s
def lpK {β : Type} (iL : Nat) (H : Tt XE) (q : Nat → Tt D → LoopState → Option Code → Array Tmp → Code → Code → Option β) : Option β := (gkC .no 20 iL).run H fun x => match x with
  | .loop N f st pend ps as bd => q N f st pend ps as bd
  | _ => none
theorem lpK_e {β : Type} {r : β} {iL : Nat} {H : Tt XE} {q : Nat → Tt D → LoopState → Option Code → Array Tmp → Code → Code → Option β} (h : lpK iL H q = some r) : ∃ N f st pend ps as bd, H.at .no iL = .loop N f st pend ps as bd ∧ q N f st pend ps as bd = some r := by
  unfold lpK at h
  rw [gkC_at] at h
  split at h
  · rename_i N f st pend ps as bd hx
    exact ⟨_, _, _, _, _, _, _, hx, h⟩
  · cases h
def rdyK {β : Type} (st : LoopState) (pend : Option Code) (q : Option β) : Option β := match st with
  | .ready => match pend with
    | none => q
    | some _ => none
  | _ => none
theorem rdyK_e {β : Type} {r : β} {st : LoopState} {pend : Option Code} {q : Option β} (h : rdyK st pend q = some r) : st = .ready ∧ pend = none ∧ q = some r := by
  unfold rdyK at h
  split at h
  · split at h
    · exact ⟨rfl, rfl, h⟩
    · cases h
  · cases h
def bsyK {β : Type} (st : LoopState) (pend : Option Code) (q : Option β) : Option β := match st with
  | .busy => match pend with
    | none => q
    | some _ => none
  | _ => none
theorem bsyK_e {β : Type} {r : β} {st : LoopState} {pend : Option Code} {q : Option β} (h : bsyK st pend q = some r) : st = .busy ∧ pend = none ∧ q = some r := by
  unfold bsyK at h
  split at h
  · split at h
    · exact ⟨rfl, rfl, h⟩
    · cases h
  · cases h
def stJ : Option Code → LoopState
  | none => .ready
  | some _ => .done
def yiK {β : Type} (cd : Bool → Code → Nat → XS → Option XR) (iL : Nat) (ds : List D) (X : XS) (q : Bool → XS → Option β) : Option β := match X with
  | ⟨sl, H, nid, dm⟩ => lpK iL H fun N0 f st pend ps as bd => rdyK st pend (psB N0 ps.toList ds f fun f' => fcN (Nat.succ nid) fun k => match cd false as N0 ⟨f', H, k, dm⟩ with
    | some R => match R with
      | ⟨e, X1⟩ => match e with
        | .normal => match X1 with
          | ⟨s1, H1, n1, d1⟩ => lpK iL H1 fun N1 f1 st1 pend1 ps1 as1 bd1 => rdyK st1 pend1 (putH iL (.loop N1 f1 .busy none ps1 as1 bd1) H1 fun H1 => fcN (Nat.lor d1 (Nat.shiftLeft 1 iL)) fun d1 => match cd false bd N0 ⟨s1, H1, n1, d1⟩ with
            | some R => match R with
              | ⟨e, X2⟩ => match jumpOf e with
                | some j => match X2 with
                  | ⟨_, H2, n2, d2⟩ => lpK iL H2 fun N2 f2 st2 pend2 ps2 as2 bd2 => bsyK st2 pend2 (putH iL (.loop N2 f2 (stJ j) j ps2 as2 bd2) H2 fun H2 => fcN (Nat.lor d2 (Nat.shiftLeft 1 iL)) fun d2 => match j with
                      | none => q true ⟨sl, H2, n2, d2⟩
                      | some _ => q false ⟨sl, H2, n2, d2⟩)
                | none => none
            | none => none)
        | _ => none
    | none => none)
theorem yield_ils {cd : Bool → Code → Nat → XS → Option XR} (hcd : CdOk P cd) {o : Oper} {x : Operand} {xs : List Operand} {ts : Array TypeId} {t iL : Nat} {β : Type} {r : β} {q : Bool → XS → Option β} (hg : o.guard = none)
    (ho : o.op = .call { callee := .value x, args := xs.toArray, argTypes := ts }) (hd : o.dst = some t) (ht : t < N) (ht4 : t < 4000) (hx : opD X.sl x = .yld iL) (h : yiK cd iL (opDs X.sl xs) X q = some r) :
    ∃ b X1, q b X1 = some r ∧ X1.sl = X.sl ∧ Fwd X ⟨(stC .dead 12 t).run X1.sl (.bool b), X1.H, X1.nid, X1.dm⟩ ∧ ∀ (O : Origin) (S : St) (L : Nat) (ops : Array Oper) (l : List Oper) (Q : Exit → St → Prop), O.round = none → SubX O X S L → OC O X S → X1.nid ≤ L →
      (∀ S', SubX O ⟨(stC .dead 12 t).run X1.sl (.bool b), X1.H, X1.nid, X1.dm⟩ S' L → Pres X ⟨(stC .dead 12 t).run X1.sl (.bool b), X1.H, X1.nid, X1.dm⟩ S S' → ILS P O N ops l S' Q) → ILS P O N ops (o :: l) S Q := by
  obtain ⟨sl, H, nid, dm⟩ := X
  simp only [yiK] at h
  obtain ⟨N0, f, st0, pend0, ps, as, bd, hL0, h⟩ := lpK_e h
  obtain ⟨rfl, rfl, h⟩ := rdyK_e h
  obtain ⟨f', hpl, hps, hf', h⟩ := psB_e h
  rw [fcN_eq] at h
  split at h
  · rename_i R1 hR1
    obtain ⟨e1, X1⟩ := R1
    dsimp only at h
    split at h
    · obtain ⟨s1, H1, n1, d1⟩ := X1
      dsimp only at h
      obtain ⟨N1, f1, st1, pend1, ps1, as1, bd1, hL1, h⟩ := lpK_e h
      obtain ⟨rfl, rfl, h⟩ := rdyK_e h
      obtain ⟨H1b, hH1b, _, h⟩ := putH_e h
      rw [fcN_eq] at h
      split at h
      · rename_i R2 hR2
        obtain ⟨e2, X2⟩ := R2
        dsimp only at h
        split at h
        · rename_i j hj
          obtain ⟨s2, H2, n2, d2⟩ := X2
          dsimp only at h
          obtain ⟨N2, f2, st2, pend2, ps2, as2, bd2, hL2, h⟩ := lpK_e h
          obtain ⟨rfl, rfl, h⟩ := bsyK_e h
          obtain ⟨H3, hH3, _, h⟩ := putH_e h
          rw [fcN_eq] at h
          have hq : q j.isNone ⟨sl, H3, n2, d2 ||| 1 <<< iL⟩ = some r := by cases j <;> exact h
          have hga := hcd _ _ _ _ _ hR1
          have hgb := hcd _ _ _ _ _ hR2
          have fa := hga.fwd
          have fb := hgb.fwd
          have hn1 : nid + 1 ≤ n1 := fa.nid
          have hn2 : n1 ≤ n2 := fb.nid
          have fw1 : Fwd ⟨s1, H1, n1, d1⟩ ⟨s1, H1b, n1, d1 ||| 1 <<< iL⟩ := Fwd.wrL (X := ⟨s1, H1, n1, d1⟩) (id := iL) (H' := H1b) (by show _ = lpC (H1.at .no iL); rw [hL1]; rfl) hH1b (by show H1.at .no iL ≠ .no; rw [hL1]; exact fun e => by cases e)
          have fw3 : Fwd ⟨s2, H2, n2, d2⟩ ⟨s2, H3, n2, d2 ||| 1 <<< iL⟩ := Fwd.wrL (X := ⟨s2, H2, n2, d2⟩) (id := iL) (H' := H3) (by show _ = lpC (H2.at .no iL); rw [hL2]; rfl) hH3 (by show H2.at .no iL ≠ .no; rw [hL2]; exact fun e => by cases e)
          have fall : Fwd ⟨f', H, nid + 1, dm⟩ ⟨s2, H3, n2, d2 ||| 1 <<< iL⟩ := fa.trans (fw1.trans (fb.trans fw3))
          have fwd : Fwd ⟨sl, H, nid, dm⟩ ⟨sl, H3, n2, d2 ||| 1 <<< iL⟩ := by
            have up : ∀ {i : Nat}, (i < nid ∨ n2 ≤ i) → (i < nid + 1 ∨ n2 ≤ i) := fun h => by omega
            exact ⟨fun i h1 h2 => fall.p0 i h1 (up h2), fall.pm, by show nid ≤ n2; omega, fun i h1 h2 => fall.p4 i h1 (up h2), fall.p5⟩
          refine ⟨_, _, hq, rfl, fwd.trans (Fwd.put (X := ⟨sl, H3, n2, d2 ||| 1 <<< iL⟩)), fun O S L ops l Q hro hs hoc hL kk => ?_⟩
          have hL : n2 ≤ L := hL
          obtain ⟨Ow, OX, Of, Og, Or, Okv, Olv, Odv, Olc, Omb, Odt, Onm⟩ := O
          simp only at hro
          subst hro
          obtain ⟨k, he, hlc, hfN⟩ : ∃ k, S.ent iL = .loop k (cellsT N0 f) .ready none ∧ Olc k = (ps, as, bd) ∧ ∀ t, N0 ≤ t → f.at .dead t = .dead := by
            have := hs.en iL
            rw [show H.at .no iL = _ from hL0] at this
            exact this
          obtain ⟨k2, hk2⟩ := fresh_num S.H
          have hkk : k2 ≠ k := fun e => hk2 iL (by rw [show entL S.H iL = S.ent iL from rfl, he, e]; rfl)
          have hidne : nid ≠ iL := fun e => by
            have := hs.fr nid (Nat.le_refl _) (by show nid < L; omega)
            rw [e, he] at this; cases this
          intro E β0 a hr
          obtain ⟨bs, hbs, hnd, hall⟩ := hr.nd
          have hquiet : noDefer o.op = true := by rw [ho]; rfl
          refine wpListIn_plain hg fun K hK' => ⟨fun _ _ => trivial, ?_⟩
          rw [Oper.semAt_eq _ _ _ (noDefer_ne hquiet)]
          have hent := hr.h.ent iL
          rw [he] at hent
          obtain ⟨b, rr, e1', e2', e3, e4, e5, e6, e7, e8, e9, e10, e11⟩ := hent
          have hev : a.eval x = .func (.yield b) #[] #[] := by
            have := (hx ▸ hs.sv x : SV S x (.yld iL)).rd hr
            generalize a.eval x = v at this
            cases this with
            | yld _ _ l hl => rw [e1'] at hl; cases hl; rfl
          have hargs := (opDs_ok hs xs).rd hr
          have hal := hargs.length
          have hpl' : ps.size = xs.length := by simp at hal; simpa [hal] using hpl
          have hrun : (execOp a.eval o).run P E.w = .ok (.round b rr.fn ((rr.params.zip (xs.map a.eval).toArray).foldl (fun tmps (t, a) => tmps.setIfInBounds t a) rr.tmps) rr.assign rr.body) E.w := by
            have hy := run_yield (P := P) (args := (xs.map a.eval).toArray) e3 (by rw [e5]; simp only [hlc]; simp [hpl'])
            simp [execOp, ho, resolve, Deferred.ofValue, hev, invoke]
            simpa using hy
          rw [hrun, Oper.uponIn_round]
          refine ⟨fun h => by simp [fen, Fence.wide] at h, roundIn_of_wpIn trivial ?_⟩
          rw [e6, e7]
          simp only [hlc]
          have hlen : rr.tmps.size = N0 := by have := e11.length; simpa [cellsT_length] using this
          let O' : Origin := ⟨Ow, OX, Of, Og, some b, fun j => if j = k2 then a.tmps.toList else Okv j, Olv, fun j => if j = k2 then bs else Odv j, Olc, Omb, [], false⟩
          have hcomp : ∀ e : Ent, e.num ≠ some k2 → compat ⟨Ow, OX, Of, Og, none, Okv, Olv, Odv, Olc, Omb, Odt, Onm⟩ O' e ∧ compat O' ⟨Ow, OX, Of, Og, none, Okv, Olv, Odv, Olc, Omb, Odt, Onm⟩ e := fun e he => by
            cases e with
            | kept j ds => have : j ≠ k2 := fun h => he (by rw [h]; rfl)
                           simp [compat, O', this]
            | loop j => simp [compat, O']
            | _ => exact ⟨trivial, trivial⟩
          have h0 : HOk O' E β0 (entL S.H) := hr.h.swap ⟨rfl, rfl, rfl, rfl, rfl⟩ fun id => .inl ⟨rfl, (hcomp _ (hk2 id)).1⟩
          have h1 : HOk O' E β0 (entL ((nid, .kept k2 (allD N S)) :: S.H)) := h0.addK (by simpa [O'] using rel_allD hr) fun c hc => (hall c (by simpa [O'] using hc)).2
          let Sb : St := ⟨(List.range N0).zip (cellsT N0 f), (nid, .kept k2 (allD N S)) :: S.H⟩
          have hSbg : ∀ s, f.at .dead s = Sb.get s ∨ f.at .dead s = .dead := fun s => by
            rcases Nat.lt_or_ge s N0 with g | g
            · left
              show _ = look .dead s ((List.range N0).zip (cellsT N0 f))
              have key : ∀ (n k : Nat), k ≤ s → s < k + n → look .dead s ((List.range' k n).zip ((List.range' k n).map (f.at .dead))) = f.at .dead s := by
                intro n
                induction n with
                | zero => intro k h1 h2; omega
                | succ n ih =>
                  intro k h1 h2
                  rw [List.range'_succ, List.map_cons, List.zip_cons_cons, look_cons]
                  by_cases hks : k = s
                  · subst hks; rw [if_pos rfl]
                  · rw [if_neg hks]; exact ih (k + 1) (by omega) (by omega)
              have := key N0 0 (Nat.zero_le _) (by omega)
              rw [cellsT, List.range_eq_range']
              exact this.symm
            · exact .inr (hfN s g)
          have hrel0 : Rel O' N0 Sb E β0 { tmps := rr.tmps, defers := [] } := by
            refine ⟨hlen, Marks.nil rfl, h1, fun s => ?_⟩
            have := rdl_slots0 e11 s
            rw [cellsT_length] at this
            exact this
          have hrel1 := rel_sets ps.toList (xs.map a.eval) (opDs sl xs) _ rr.tmps hps hargs hrel0
          have htm : (rr.params.zip (xs.map a.eval).toArray).foldl (fun tmps (t, a) => tmps.setIfInBounds t a) rr.tmps = (ps.toList.zip (xs.map a.eval)).foldl (fun t x => t.setIfInBounds x.1 x.2) rr.tmps := by
            rw [e5]; simp only [hlc]; rw [← Array.foldl_toList]; simp
          rw [htm]
          let S0 : St := setsS Sb (ps.toList.zip (opDs sl xs))
          have hS0H : S0.H = (nid, .kept k2 (allD N S)) :: S.H := setsS_H _ _
          have hS0e : ∀ i, nid ≠ i → S0.ent i = S.ent i := fun i hi => by simp [St.ent, hS0H, entL, look_cons, hi]
          have hS0k : S0.ent nid = .kept k2 (allD N S) := by simp [St.ent, hS0H, entL, look_cons]
          have hnoK : H.at .no nid = .no := hs.at_nid (X := ⟨sl, H, nid, dm⟩) (Nat.le_refl _) (by omega)
          have hsub0 : SubX O' ⟨f', H, nid + 1, dm⟩ S0 L := by
            refine ⟨fun s => hf' Sb hSbg s, fun i => ?_, fun i g1 g2 => ?_, hs.lim⟩
            · show EnR O' (H.at .no i) _
              by_cases hi : nid = i
              · subst hi; rw [hnoK]; trivial
              · rw [hS0e i hi]; exact (hs.en i).lc fun m hm => rfl
            · have g1 : nid + 1 ≤ i := g1
              rw [hS0e i (by omega)]
              exact hs.fr i (by show nid ≤ i; omega) g2
          have hoc0 : OC O' ⟨f', H, nid + 1, dm⟩ S0 := by
            refine ⟨hoc.foot, fun j => ?_⟩
            by_cases hj : j = k2
            · subst hj
              exact .inr ⟨nid, _, Nat.lt_succ_self _, hnoK, hS0k⟩
            · rcases hoc.dv j with g | ⟨i, ds', g1, g2, g3⟩
              · left; show (if j = k2 then _ else Odv j) = []; rw [if_neg hj]; exact g
              · have g1 : i < nid := g1
                exact .inr ⟨i, ds', by show i < nid + 1; omega, g2, by rw [hS0e i (by omega)]; exact g3⟩
          refine wpIn_mono (hga.go O' S0 L (fun e S' => e = .normal ∧ SubX O' ⟨s1, H1, n1, d1⟩ S' L ∧ Pres ⟨f', H, nid + 1, dm⟩ ⟨s1, H1, n1, d1⟩ S0 S') (fun h => by cases h) hsub0 hoc0 (by show n1 ≤ L; omega) (fun S' hs' hp' => ⟨rfl, hs', hp'⟩) E β0 _ hrel1) ?_
          rintro e a1 w1 ⟨S1, E1, β1, rfl, hr1, rfl, hs1, hp1⟩
          have numk : ∀ {S' : St} {k' : Nat} {ds : List D} {st : LoopState} {pd : Option Code}, (S'.ent iL).num = none ∨ (S'.ent iL).num = (S0.ent iL).num → S'.ent iL = .loop k' ds st pd → k' = k := fun g g2 => by
            rw [g2, hS0e iL hidne, he] at g
            rcases g with g | g
            · cases g
            · simpa [Ent.num] using g
          obtain ⟨k1, he1, hlc1, hf1N⟩ : ∃ k', S1.ent iL = .loop k' (cellsT N1 f1) .ready none ∧ Olc k' = (ps1, as1, bd1) ∧ ∀ t, N1 ≤ t → f1.at .dead t = .dead := by
            have := hs1.en iL
            rw [show H1.at .no iL = _ from hL1] at this
            exact this
          have hk1 := numk (hp1.p3 iL) he1
          subst hk1
          obtain ⟨r1, g1, g2, g3, g4, g5, g6, g7, g8⟩ := hr1.h.turn (H := S1.H) he1
          obtain ⟨g9, g10⟩ := g8 .busy none
          have hlk : O'.lv k1 = b := e10
          rw [hlk] at g1 g9 g10
          let E2 : Env := ⟨E1.w.putObj b (.loop { r1 with state := .busy, pending := none }), E1.X⟩
          have hw2 : (Instr.beginRound b).run P E1.w = .ok () E2.w := by
            have := run_beginRound (P := P) g1 g6
            rw [this]
            show _ = Result.ok () (E1.w.putObj b (.loop { r1 with state := .busy, pending := none }))
            congr 3
            rw [← g7]
          refine ⟨E2.w, hw2, ?_⟩
          let S1b : St := S1.setE iL (.loop k1 (cellsT N1 f1) .busy none)
          have hrel2 : Rel O' N0 S1b E2 β1 a1 :=
            ⟨hr1.n, hr1.nd.mono (fun c hc => (World.putObj_heap_other (by rintro rfl; rw [g1] at hc; cases hc)).trans hc), g10, fun s => Rd.mono g9 (Names.le.refl _) (hr1.sl s)⟩
          have hk1n : (XS.mk s1 H1 n1 d1).ent iL ≠ .no := by show H1.at .no iL ≠ .no; rw [hL1]; exact fun e => by cases e
          have hs1b : SubX O' ⟨s1, H1b, n1, d1 ||| 1 <<< iL⟩ S1b L := hs1.setE hH1b ⟨k1, rfl, hlc1, hf1N⟩ (Nat.le_refl _) (hs1.lt (by rw [he1]; exact fun e => by cases e))
          have hp1b : Pres ⟨s1, H1, n1, d1⟩ ⟨s1, H1b, n1, d1 ||| 1 <<< iL⟩ S1 S1b := Pres.wr hk1n (.inr (by rw [he1]; rfl))
          have hoc1 : OC O' ⟨s1, H1b, n1, d1 ||| 1 <<< iL⟩ S1b := (hoc0.next fa hp1).next fw1 hp1b
          refine wpIn_mono (hgb.go O' S1b L (fun e S' => e = e2 ∧ SubX O' ⟨s2, H2, n2, d2⟩ S' L ∧ Pres ⟨s1, H1b, n1, d1 ||| 1 <<< iL⟩ ⟨s2, H2, n2, d2⟩ S1b S') (fun h => by cases h) hs1b hoc1 hL (fun S' hs' hp' => ⟨rfl, hs', hp'⟩) E2 β1 a1 hrel2) ?_
          rintro e a3 w3 ⟨S3, E3, β3, rfl, hr3, rfl, hs3, hp3⟩
          have hp13 : Pres ⟨f', H, nid + 1, dm⟩ ⟨s2, H2, n2, d2⟩ S0 S3 := hp1.trans fa (fw1.trans fb) (hp1b.trans fw1 fb hp3)
          obtain ⟨k3, he3, hlc3, hf2N⟩ : ∃ k', S3.ent iL = .loop k' (cellsT N2 f2) .busy none ∧ Olc k' = (ps2, as2, bd2) ∧ ∀ t, N2 ≤ t → f2.at .dead t = .dead := by
            have := hs3.en iL
            rw [show H2.at .no iL = _ from hL2] at this
            exact this
          have hk3 := numk (hp13.p3 iL) he3
          subst hk3
          obtain ⟨r3, m1, m2, m3, m4, m5, m6, m7, m8⟩ := hr3.h.turn (H := S3.H) he3
          obtain ⟨m9, m10⟩ := m8 (stJ j) j
          rw [hlk] at m1 m9 m10
          have heK : S3.ent nid = .kept k2 (allD N S) := by
            rw [hp13.p1 nid hnoK (.inl (Nat.lt_succ_self _)), hS0k]
          have hkept := hr3.h.ent nid
          rw [heK] at hkept
          obtain ⟨kk1, kk2⟩ := hkept
          have hkv : O'.kv k2 = a.tmps.toList := by simp [O']
          have hdk : O'.dv k2 = bs := by simp [O']
          rw [hkv] at kk1; rw [hdk] at kk2
          let E4 : Env := ⟨E3.w.putObj b (.loop { r3 with state := stJ j, pending := j }), E3.X⟩
          have hend : (Instr.endRound b j).run P E3.w = .ok (.bool j.isNone) E4.w := by
            have := run_endRound (P := P) j m1
            rw [this]
            cases j <;> rfl
          let ee : Ent := .loop k3 (cellsT N2 f2) (stJ j) j
          let S5 : St := ⟨S.sl, (iL, ee) :: (nid, .none) :: S3.H⟩
          have hS5 : ∀ i, iL ≠ i → nid ≠ i → S5.ent i = S3.ent i := fun i h1 h2 => by simp [S5, St.ent, entL, look_cons, h1, h2]
          have hS5L : S5.ent iL = ee := by simp [S5, St.ent, entL, look_cons]
          have hS5K : S5.ent nid = .none := by
            have : iL ≠ nid := Ne.symm hidne
            simp [S5, St.ent, entL, look_cons, this]
          have hnum3 : ∀ i, nid ≠ i → (S3.ent i).num ≠ some k2 := fun i hi hc => by
            rcases hp13.p3 i with g | g
            · rw [g] at hc; cases hc
            · rw [g, hS0e i hi] at hc; exact hk2 i hc
          have hrel4 : Rel ⟨Ow, OX, Of, Og, none, Okv, Olv, Odv, Olc, Omb, Odt, Onm⟩ N S5 E4 β3 a := by
            refine ⟨hr.n, ⟨bs, hbs, hnd, fun c hc => ⟨(hall c hc).1, (World.putObj_heap_other (by rintro rfl; have := kk2 _ hc; rw [m1] at this; cases this)).trans (kk2 c hc)⟩⟩, ?_, fun s => ?_⟩
            · refine HOk.swap (O := O') (H := entL ((iL, ee) :: S3.H)) m10 ⟨rfl, rfl, rfl, rfl, rfl⟩ fun id => ?_
              by_cases h6 : iL = id
              · left
                subst h6
                have h7 : entL ((iL, ee) :: S3.H) iL = ee := by show look _ _ _ = _; rw [look_cons, if_pos rfl]
                rw [h7]
                exact ⟨hS5L, (hcomp ee (by simp [ee, Ent.num]; exact Ne.symm hkk)).2⟩
              · by_cases h5 : nid = id
                · right; subst h5; exact hS5K
                · left
                  have h7 : entL ((iL, ee) :: S3.H) id = S3.ent id := by show look _ _ _ = _; rw [look_cons, if_neg h6]; rfl
                  rw [h7]
                  exact ⟨hS5 id h6 h5, (hcomp _ (hnum3 id h5)).2⟩
            · rcases Nat.lt_or_ge s N with hsN | hsN
              · have := rdl_slots0 (RdL.mono m9 (Names.le.refl _) kk1) s
                rw [get_allD hsN] at this
                exact this
              · have hu : a.tmps.getD s undef = undef := by
                  have : a.tmps.size = N := hr.n
                  simp [Array.getD_eq_getD_getElem?, Array.getElem?_eq_none (show a.tmps.size ≤ s by omega)]
                have := hr.sl s
                rw [hu] at this ⊢
                exact rd_undef _ this
          have hsub5 : SubX ⟨Ow, OX, Of, Og, none, Okv, Olv, Odv, Olc, Omb, Odt, Onm⟩ ⟨sl, H3, n2, d2 ||| 1 <<< iL⟩ S5 L := by
            refine ⟨hs.sl, fun i => ?_, fun i q1 q2 => ?_, hs.lim⟩
            · show EnR _ (H3.at .no i) _
              rw [hH3 i]
              by_cases hi : iL = i
              · subst hi
                rw [if_pos rfl, hS5L]
                exact ⟨k3, rfl, hlc3, hf2N⟩
              · rw [if_neg hi]
                by_cases hi2 : nid = i
                · subst hi2
                  have : H2.at .no nid = .no := (fa.trans (fw1.trans fb)).p0 nid hnoK (.inl (Nat.lt_succ_self _))
                  rw [this]; trivial
                · rw [hS5 i hi hi2]
                  exact (hs3.en i).lc fun m hm => rfl
            · have q1 : n2 ≤ i := q1
              have hne : iL ≠ i := fun e => by
                have := hs3.fr i q1 q2
                rw [← e, he3] at this; cases this
              rw [hS5 i hne (by omega)]
              exact hs3.fr i q1 q2
          have hpres5 : Pres ⟨sl, H, nid, dm⟩ ⟨sl, H3, n2, d2 ||| 1 <<< iL⟩ S S5 := by
            refine ⟨fun i h1 h2 => ?_, fun i h1 h2 => ?_, fun i => ?_⟩
            · have h2 : i < nid ∨ n2 ≤ i := h2
              have h1 : H.at .no i = .no := h1
              have hne : iL ≠ i := fun e => by subst e; rw [hL0] at h1; cases h1
              rw [hS5 i hne (by omega), hp13.p1 i h1 (by show i < nid + 1 ∨ n2 ≤ i; omega), hS0e i (by omega)]
            · have h2 : i < nid ∨ n2 ≤ i := h2
              have h1 : (d2 ||| 1 <<< iL).testBit i = false := h1
              rw [bit_or, Bool.or_eq_false_iff] at h1
              have hne : iL ≠ i := of_decide_eq_false h1.2
              rw [hS5 i hne (by omega), hp13.p2 i h1.1 (by show i < nid + 1 ∨ n2 ≤ i; omega), hS0e i (by omega)]
            · by_cases h5 : nid = i
              · left; subst h5; rw [hS5K]; rfl
              · by_cases h6 : iL = i
                · right; subst h6; rw [hS5L, he]; rfl
                · rw [hS5 i h6 h5]
                  rcases hp13.p3 i with g | g
                  · exact .inl g
                  · right; rw [g, hS0e i h5]
          have hfin : K (a.put o.dst (.bool j.isNone)) E4.w := by
            rw [hd]
            exact hK' _ _ (kk (S5.set t (.bool j.isNone)) (SubX.put (X := ⟨sl, H3, n2, d2 ||| 1 <<< iL⟩) hsub5 ht4 _) (Pres.trans fwd (Fwd.put (X := ⟨sl, H3, n2, d2 ||| 1 <<< iL⟩)) hpres5 (Pres.put t _)) E4 β3 _ (hrel4.set ht (.bool _ _)))
          cases e with
          | normal => cases hj; exact ⟨_, _, hend, hfin⟩
          | ret => cases hj; exact ⟨_, _, hend, hfin⟩
          | exit i => cases hj; exact ⟨_, _, hend, hfin⟩
          | goto i => cases hj
          | panic c => cases hj
          | outgrown => cases hj
        · cases h
      · cases h
    · cases h
  · cases h
end
end Go.IL
set_option linter.unusedVariables false
namespace Go.IL
/-! Regions and code. -/
structure Rg where
  run : EV → XS → Option XS
def noR : Rg := ⟨fun _ _ => none⟩
def opY (P : Program) (N : Nat) (y : Bool) (o : Oper) : Rg := match y with
  | false => let f := opR P N o; ⟨fun ev X => f.run ev.cl X⟩
  | true => match o.op with
    | .call c => match c.callee with
      | .value x => match x with
        | .tmp tt => match o.dst with
          | some t => match Nat.blt t N with
            | true => let f := opR P N o; let a := rdC (.tmp tt); let rd := rdsC c.args.toList; let w := putR t
              ⟨fun ev X => a.run X.sl fun d => match d with
                | .yld iL => rd.run X.sl fun ds => yiK ev.cd iL ds X fun b X1 => w.run X1 (.bool b) some
                | _ => f.run ev.cl X⟩
            | false => noR
          | none => let f := opR P N o; ⟨fun ev X => f.run ev.cl X⟩
        | _ => let f := opR P N o; ⟨fun ev X => f.run ev.cl X⟩
      | _ => let f := opR P N o; ⟨fun ev X => f.run ev.cl X⟩
    | _ => let f := opR P N o; ⟨fun ev X => f.run ev.cl X⟩
theorem opY_ok {P : Program} {N : Nat} {y : Bool} {o : Oper} {ev : EV} (hev : EvOk P ev) {X X1 : XS} (hg : o.guard = none) (h : (opY P N y o).run ev X = some X1) : Fwd X X1 ∧ ∀ (O : Origin) (S : St) (L : Nat) (ops : Array Oper) (l : List Oper) (Q : Exit → St → Prop), (y = true → O.round = none ∧ O.nm = false) → SubX O X S L → OC O X S → X1.nid ≤ L →
    (∀ S', SubX O X1 S' L → Pres X X1 S S' → ILS P O N ops l S' Q) → ILS P O N ops (o :: l) S Q := by
  have plain : (opR P N o).run ev.cl X = some X1 → _ := fun h => by
    obtain ⟨hnd, hst⟩ := opR_ok hev.cl h
    exact (⟨hst.fwd, fun O S L ops l Q _ hs hoc hL k => ils_step hg hnd hst hs hoc hL k⟩ : Fwd X X1 ∧ ∀ (O : Origin) (S : St) (L : Nat) (ops : Array Oper) (l : List Oper) (Q : Exit → St → Prop), (y = true → O.round = none ∧ O.nm = false) → SubX O X S L → OC O X S → X1.nid ≤ L → (∀ S', SubX O X1 S' L → Pres X X1 S S' → ILS P O N ops l S' Q) → ILS P O N ops (o :: l) S Q)
  unfold opY at h
  split at h
  · exact plain h
  · split at h
    · rename_i c ho
      obtain ⟨cl, as, ts⟩ := c
      dsimp only at h
      split at h
      · split at h
        · rename_i tt
          split at h
          · rename_i t hd
            split at h
            · rename_i ht
              rw [Nat.blt_eq] at ht
              simp only [rdC_eq] at h
              split at h
              · rename_i iL hx
                rw [rdsC_eq] at h
                obtain ⟨xl, rfl⟩ : ∃ xl : List Operand, as = xl.toArray := ⟨as.toList, by simp⟩
                by_cases ht4 : t < 4000
                · obtain ⟨b, X2, hq, hsl, hf, hgo⟩ := yield_ils hev.cd hg ho hd ht ht4 hx h
                  obtain ⟨_, hq⟩ := putR_e hq
                  cases hq
                  exact ⟨hf, fun O S L ops l Q hy hs hoc hL k => hgo O S L ops l Q (hy rfl).1 hs hoc hL k⟩
                · exfalso
                  have key : ∀ {β : Type} {r : β} {q : Bool → XS → Option β}, (∀ b X', q b X' = none) → yiK ev.cd iL (opDs X.sl xl) X q = some r → False := by
                    intro β r q hq h
                    obtain ⟨b, X2, h1, _⟩ := yield_ils (N := t + 1) (t := 0) (ts := ts) (o := ⟨some 0, .call { callee := .value (.tmp tt), args := xl.toArray, argTypes := ts }, 0, "", #[], none⟩) hev.cd rfl rfl rfl (by omega) (by omega) hx h
                    rw [hq] at h1; cases h1
                  refine key (fun b X' => ?_) h
                  cases hc : (putR t).run X' (.bool b) some with
                  | none => rfl
                  | some r => exact absurd (putR_e hc).1 ht4
              · exact plain h
            · cases h
          · exact plain h
        · exact plain h
      · exact plain h
    · exact plain h
def rgC (P : Program) (N : Nat) (y : Bool) (ops : Array Oper) : List Oper → Rg
  | [] => ⟨fun _ X => some X⟩
  | o :: l => let r := rgC P N y ops l; match o.guard with
    | none => let f := opY P N y o; ⟨fun ev X => match f.run ev X with
      | some X => r.run ev X
      | none => none⟩
    | some (j, want) => match (ops[j]?).bind (·.dst) with
      | some tj => match o.dst with
        | some t => match Nat.blt t N with
          | true => match noDefer o.op with
            | true => let f := opR P N { o with guard := none }; let g := rdC (.tmp tj); let w := putR t
              ⟨fun ev X => g.run X.sl fun d => gdK d want (match f.run ev.cl X with
                | some X => r.run ev X
                | none => none) (match (w.run X (.cnd false (.bool false)) some : Option XS) with
                | some X => r.run ev X
                | none => none)⟩
            | false => noR
          | false => noR
        | none => noR
      | none => noR
section
variable {P : Program} {N : Nat} {y : Bool} {X X' : XS} {ops : Array Oper}
theorem rgC_ok {ev : EV} (hev : EvOk P ev) : ∀ {l : List Oper} {X X' : XS}, (rgC P N y ops l).run ev X = some X' → LGo P N y ops l X X'
  | [], X, X', h => by
    cases h
    exact ⟨Fwd.refl _, fun O S L Q _ hs _ _ k => ils_nil (k S hs (Pres.refl _ _))⟩
  | o :: l, X, X', h => by
    simp only [rgC] at h
    try dsimp only at h
    split at h
    · rename_i hg
      simp only at h
      try dsimp only at h
      split at h
      · rename_i X1 h1
        obtain ⟨hfw, hgo⟩ := opY_ok hev hg h1
        have ih := rgC_ok hev h
        refine ⟨hfw.trans ih.fwd, fun O S L Q hy hs hoc hL k => ?_⟩
        have hL1 : X1.nid ≤ L := Nat.le_trans ih.fwd.nid hL
        refine hgo O S L ops l Q hy hs hoc hL1 fun S1 hs1 hp1 => ?_
        exact ih.go O S1 L Q hy hs1 (hoc.next hfw hp1) hL fun S' hs' hp' => k S' hs' (hp1.trans hfw ih.fwd hp')
      · cases h
    · rename_i j want hg
      try dsimp only at h
      split at h
      · rename_i tj hj
        try dsimp only at h
        split at h
        · rename_i t hd
          try dsimp only at h
          split at h
          · rename_i ht
            rw [Nat.blt_eq] at ht
            try dsimp only at h
            split at h
            · rename_i hnd
              simp only [rdC_eq] at h
              obtain ⟨g, hgr, hcase, hne⟩ := gdK_e h
              rcases hcase with ⟨hgt, h⟩ | ⟨hgf, h⟩
              · try dsimp only at h
                split at h
                · rename_i X1 h1
                  obtain ⟨_, hst⟩ := opR_ok hev.cl h1
                  have ih := rgC_ok hev h
                  refine ⟨hst.fwd.trans ih.fwd, fun O S L Q hy hs hoc hL k => ?_⟩
                  have hL1 : X1.nid ≤ L := Nat.le_trans ih.fwd.nid hL
                  have hSt : S.get tj = X.sl.at .dead tj := hs.eq (x := .tmp tj) rfl hne
                  refine ils_gsplit hg hj (hgr hSt) (by rw [hd, hnd]) ht (fun _ => ?_) (fun e => by rw [hgt] at e; cases e)
                  refine ils_step rfl hnd hst hs hoc hL1 fun S1 hs1 hp1 => ?_
                  exact ih.go O S1 L Q hy hs1 (hoc.next hst.fwd hp1) hL fun S' hs' hp' => k S' hs' (hp1.trans hst.fwd ih.fwd hp')
                · cases h
              · try dsimp only at h
                split at h
                · rename_i X1 h1
                  obtain ⟨ht4, h1⟩ := putR_e h1
                  cases h1
                  have ih := rgC_ok hev h
                  refine ⟨Fwd.put.trans ih.fwd, fun O S L Q hy hs hoc hL k => ?_⟩
                  have hSt : S.get tj = X.sl.at .dead tj := hs.eq (x := .tmp tj) rfl hne
                  refine ils_gsplit hg hj (hgr hSt) (by rw [hd, hnd]) ht (fun e => by rw [hgf] at e; cases e) (fun _ => ?_)
                  rw [hgf]
                  exact ih.go O _ L Q hy (hs.put ht4 _) (hoc.next Fwd.put (Pres.put t _)) hL fun S' hs' hp' => k S' hs' ((Pres.put t _).trans Fwd.put ih.fwd hp')
                · cases h
            · cases h
          · cases h
        · cases h
      · cases h
end
/-! Code. -/
structure Cd where
  run : EV → XS → Option XR
def noC : Cd := ⟨fun _ _ => none⟩
def seqK (x : Option XR) (k : XS → Option XR) : Option XR := match x with
  | some R => match R with
    | ⟨e, X⟩ => match e with
      | .normal => k X
      | e => some ⟨e, X⟩
  | none => none
def blkX (i : Nat) (x : Option XR) : Option XR := match x with
  | some R => match R with
    | ⟨e, X⟩ => match e with
      | .exit j => match Nat.beq j i with
        | true => some ⟨.normal, X⟩
        | false => some ⟨.exit j, X⟩
      | e => some ⟨e, X⟩
  | none => none
def lpX (f : XS → Option XR) : Nat → XS → Option XR
  | 0, _ => none
  | n + 1, X => match f X with
    | some R => match R with
      | ⟨e, X⟩ => match e with
        | .normal => lpX f n X
        | e => some ⟨e, X⟩
    | none => none
/-- A scope: 'c' is its code. -/
def scX (f : Code → XS → Option XR) (c : Code) : Nat → Option XR → Option XR
  | 0, _ => none
  | n + 1, x => match x with
    | some R => match R with
      | ⟨e, X⟩ => match e with
        | .goto l => match findLabel c l with
          | some c1 => scX f c n (f c1 X)
          | none => none
        | e => some ⟨e, X⟩
    | none => none
def nbK {β : Type} (st : LoopState) (q : Option β) : Option β := match st with
  | .busy => none
  | _ => q
theorem nbK_e {β : Type} {r : β} {st : LoopState} {q : Option β} (h : nbK st q = some r) : st ≠ .busy ∧ q = some r := by
  unfold nbK at h
  split at h
  · cases h
  · rename_i hne
    exact ⟨hne, h⟩
def loopN : Nat := 1000000
def cdC (P : Program) (N : Nat) (y : Bool) : Code → Cd
  | .skip => ⟨fun _ X => some ⟨.normal, X⟩⟩
  | .label _ => ⟨fun _ X => some ⟨.normal, X⟩⟩
  | .exit i => ⟨fun _ X => some ⟨.exit i, X⟩⟩
  | .goto l => ⟨fun _ X => some ⟨.goto l, X⟩⟩
  | .ret => ⟨fun _ X => some ⟨.ret, X⟩⟩
  | .region _ ops draw => match draw with
    | false => let g := rgC P N y ops ops.toList; ⟨fun ev X => match g.run ev X with
      | some X => some ⟨.normal, X⟩
      | none => none⟩
    | true => let g := drC P N ops; ⟨fun ev X => match g.run ev.cl X with
      | some X => some ⟨.normal, X⟩
      | none => none⟩
  | .seq a b => let f := cdC P N y a; let g := cdC P N y b; ⟨fun ev X => seqK (f.run ev X) fun X => g.run ev X⟩
  | .cond c a b => let x := rdC c; let f := cdC P N y a; let g := cdC P N y b; ⟨fun ev X => x.run X.sl fun d => match d with
    | .bool t => match t with
      | true => f.run ev X
      | false => g.run ev X
    | _ => none⟩
  | .block i c => let f := cdC P N y c; ⟨fun ev X => blkX i (f.run ev X)⟩
  | .loop c => let f := cdC P N y c; ⟨fun ev X => lpX (fun X => f.run ev X) loopN X⟩
  | .scope c => let f := cdC P N y c; ⟨fun ev X => scX (fun c X => ev.cd y c N X) c loopN (f.run ev X)⟩
  | .rangeFunc g ps as bd => match y with
    | true => let x := rdC g; let sls := List.range N
      ⟨fun ev X => match X with
        | ⟨sl, H, nid, dm⟩ => x.run sl fun d => match d with
          | .fn f caps => slB sl sls .e fun f0 => putH nid (.loop N f0 .ready none ps as bd) H fun H1 => fcN (Nat.add nid 2) fun k => match ev.cl f (.yld nid :: caps) H1 k dm with
            | some R => match R with
              | ⟨_, H, n1, dm⟩ => lpK nid H fun _ _ st pend _ _ _ => nbK st (putH nid .no H fun H2 => match pend with
                | none => some ⟨.normal, ⟨sl, H2, n1, dm⟩⟩
                | some c => match c with
                  | .ret => some ⟨.ret, ⟨sl, H2, n1, dm⟩⟩
                  | .exit i => some ⟨.exit i, ⟨sl, H2, n1, dm⟩⟩
                  | _ => none)
            | none => none
          | _ => none⟩
    | false => noC
  | .refuse _ => noC
section
variable {P : Program} {N : Nat} {y : Bool} {X X' : XS} {O : Origin} {S : St} {Q : Exit → St → Prop}
theorem CGo.refl {c : Code} {e : Exit} (h : ∀ (O : Origin) (S : St) (Q : Exit → St → Prop), Q e S → IWP P O N c S Q) : CGo P N y c X ⟨e, X⟩ :=
  ⟨Fwd.refl _, fun O S L Q _ hs _ _ k => h O S Q (k S hs (Pres.refl _ _))⟩
/-- Behind a jump within a scope. -/
def SG (P : Program) (O : Origin) (N : Nat) (c c0 : Code) (Q : Exit → St → Prop) (S : St) : Prop :=
  ∀ E β a, Rel O N S E β a → ∀ (b : Frame) (k : List Item) (cs : List Frame), b.roundOf = (fen O.round).round → (fen O.round).fn b.fn → (fen O.round).room (cs.length + 1 + 0) →
    ∃ e a' w', (∃ S' E' β', E'.w = w' ∧ Rel O N S' E' β' a' ∧ Q e S') ∧ ArrivesIn (Machine.fenced P (fen O.round)) P (lone (b.atR a (.code c0 :: .inScope c :: k)) cs E.w) b k cs e a' w'
theorem sg_round {c c0 : Code} (h : IWP P O N c0 S (fun e S' => match e with
    | .goto l => ∃ c1, findLabel c l = some c1 ∧ SG P O N c c1 Q S'
    | e => Q e S')) : SG P O N c c0 Q S := by
  intro E β a hr b k cs hro hb hroom
  obtain ⟨e, a₁, w₁, ⟨S₁, E₁, β₁, rfl, hr₁, hq⟩, harr⟩ := h E β a hr b (.inScope c :: k) cs hro hb hroom
  cases e with
  | goto l =>
    obtain ⟨c1, h1, h2⟩ := hq
    have hk : gotoIn l (.inScope c :: k) = some (.code c1 :: .inScope c :: k) := by simp [gotoIn, h1]
    obtain ⟨e₂, a₂, w₂, hq₂, harr₂⟩ := h2 E₁ β₁ a₁ hr₁ b k cs hro hb hroom
    exact ⟨e₂, a₂, w₂, hq₂, .of_steps (harr.1 _ hk) harr₂⟩
  | normal => exact ⟨_, a₁, _, ⟨S₁, E₁, β₁, rfl, hr₁, hq⟩, arrives_scope hro hb hroom (fun _ h => by cases h) harr⟩
  | exit id => exact ⟨_, a₁, _, ⟨S₁, E₁, β₁, rfl, hr₁, hq⟩, arrives_scope hro hb hroom (fun _ h => by cases h) harr⟩
  | ret => exact ⟨_, a₁, _, ⟨S₁, E₁, β₁, rfl, hr₁, hq⟩, arrives_scope (c := c) hro hb hroom (fun _ h => by cases h) harr⟩
  | panic ch => exact ⟨_, a₁, _, ⟨S₁, E₁, β₁, rfl, hr₁, hq⟩, arrives_scope (c := c) hro hb hroom (fun _ h => by cases h) harr⟩
  | outgrown => exact ⟨_, a₁, _, ⟨S₁, E₁, β₁, rfl, hr₁, hq⟩, arrives_scope (c := c) hro hb hroom (fun _ h => by cases h) harr⟩
theorem iwp_scope_of {c : Code} (h : SG P O N c c Q S) : IWP P O N (.scope c) S Q := by
  intro E β a hr b k cs hro hb hroom
  obtain ⟨e, a', w', hq, harr⟩ := h E β a hr b k cs hro hb hroom
  exact ⟨e, a', w', hq, .of_steps (.one (fenced_calm hb hroom rfl) stepR_scope) harr⟩
structure SGo (P : Program) (N : Nat) (y : Bool) (c c0 : Code) (X : XS) (R : XR) : Prop where
  fwd : Fwd X R.X
  go : ∀ (O : Origin) (S : St) (L : Nat) (Q : Exit → St → Prop), (y = true → O.round = none ∧ O.nm = false) → SubX O X S L → OC O X S → R.X.nid ≤ L → (∀ S', SubX O R.X S' L → Pres X R.X S S' → Q R.e S') → SG P O N c c0 Q S
theorem scX_ok {cd : Bool → Code → Nat → XS → Option XR} (hcd : CdOk P cd) {c : Code} : ∀ (n : Nat) {c0 : Code} {X : XS} {x : Option XR} {R : XR}, (∀ R0, x = some R0 → CGo P N y c0 X R0) → scX (fun c X => cd y c N X) c n x = some R → SGo P N y c c0 X R
  | 0, c0, X, x, R, _, h => by cases h
  | n + 1, c0, X, x, R, hx, h => by
    simp only [scX] at h
    try dsimp only at h
    split at h
    · rename_i R0
      obtain ⟨e0, X1⟩ := R0
      have h0 := hx _ rfl
      try dsimp only at h
      split at h
      · rename_i l
        try dsimp only at h
        split at h
        · rename_i c1 hl
          have ih := scX_ok hcd n (c0 := c1) (X := X1) (fun R0 hR => hcd _ _ _ _ _ hR) h
          refine ⟨h0.fwd.trans ih.fwd, fun O S L Q hy hs hoc hL k => ?_⟩
          have hL1 : X1.nid ≤ L := Nat.le_trans ih.fwd.nid hL
          refine sg_round (h0.go O S L _ hy hs hoc hL1 fun S1 hs1 hp1 => ⟨c1, hl, ?_⟩)
          exact ih.go O S1 L Q hy hs1 (hoc.next h0.fwd hp1) hL fun S' hs' hp' => k S' hs' (hp1.trans h0.fwd ih.fwd hp')
        · cases h
      · rename_i e hne
        cases h
        refine ⟨h0.fwd, fun O S L Q hy hs hoc hL k => sg_round (h0.go O S L _ hy hs hoc hL fun S1 hs1 hp1 => ?_)⟩
        have hq := k S1 hs1 hp1
        cases e0 with
        | goto l => exact absurd rfl (hne l)
        | _ => exact hq
    · cases h
structure LpGo (P : Program) (N : Nat) (y : Bool) (c : Code) (X : XS) (R : XR) : Prop where
  fwd : Fwd X R.X
  go : ∀ (O : Origin) (S : St) (L : Nat) (Q : Exit → St → Prop), (y = true → O.round = none ∧ O.nm = false) → SubX O X S L → OC O X S → R.X.nid ≤ L → (∀ S', SubX O R.X S' L → Pres X R.X S S' → Q R.e S') → LG P O N c Q S
theorem lpX_ok {c : Code} {f : XS → Option XR} (hf : ∀ X R, f X = some R → CGo P N y c X R) : ∀ (n : Nat) {X : XS} {R : XR}, lpX f n X = some R → LpGo P N y c X R
  | 0, X, R, h => by cases h
  | n + 1, X, R, h => by
    simp only [lpX] at h
    try dsimp only at h
    split at h
    · rename_i R0 hx
      obtain ⟨e0, X1⟩ := R0
      have h0 := hf _ _ hx
      try dsimp only at h
      split at h
      · have ih := lpX_ok hf n h
        refine ⟨h0.fwd.trans ih.fwd, fun O S L Q hy hs hoc hL k => ?_⟩
        have hL1 : X1.nid ≤ L := Nat.le_trans ih.fwd.nid hL
        refine lg_round (h0.go O S L _ hy hs hoc hL1 fun S1 hs1 hp1 => thenQ_n ?_)
        exact ih.go O S1 L Q hy hs1 (hoc.next h0.fwd hp1) hL fun S' hs' hp' => k S' hs' (hp1.trans h0.fwd ih.fwd hp')
      · rename_i hne
        cases h
        refine ⟨h0.fwd, fun O S L Q hy hs hoc hL k => lg_round (h0.go O S L _ hy hs hoc hL fun S1 hs1 hp1 => ?_)⟩
        have hq := k S1 hs1 hp1
        cases e0 with
        | normal => exact absurd rfl hne
        | _ => exact hq
    · cases h
theorem cdC_ok {ev : EV} (hev : EvOk P ev) : ∀ (c : Code) {X : XS} {R : XR}, (cdC P N y c).run ev X = some R → CGo P N y c X R
  | .skip, X, R, h => by cases h; exact .refl fun O S Q hq => iwp_skip hq
  | .label l, X, R, h => by cases h; exact .refl fun O S Q hq => iwp_label hq
  | .exit i, X, R, h => by cases h; exact .refl fun O S Q hq => iwp_exit hq
  | .goto l, X, R, h => by cases h; exact .refl fun O S Q hq => iwp_goto hq
  | .ret, X, R, h => by cases h; exact .refl fun O S Q hq => iwp_ret hq
  | .region id ops draw, X, R, h => by
    unfold cdC at h
    try dsimp only at h
    split at h
    · simp only at h
      try dsimp only at h
      split at h
      · rename_i X1 h1
        cases h
        have hg := rgC_ok hev h1
        refine ⟨hg.fwd, fun O S L Q hy hs hoc hL k => ?_⟩
        have := iwp_region (id := id) (hg.go O S L Q hy hs hoc hL k : ILS P O N ops ops.toList S Q)
        simpa using this
      · cases h
    · dsimp only at h
      split at h
      · rename_i X1 h1
        cases h
        have hg := drC_ok hev.cl h1
        exact ⟨hg.1, fun O S L Q hy hs hoc hL k => hg.2 O S L Q id hs hoc hL k⟩
      · cases h
  | .seq a b, X, R, h => by
    simp only [cdC, seqK] at h
    try dsimp only at h
    split at h
    · rename_i R0 hx
      obtain ⟨e0, X1⟩ := R0
      have h0 := cdC_ok hev a hx
      try dsimp only at h
      split at h
      · have h1 := cdC_ok hev b h
        refine ⟨h0.fwd.trans h1.fwd, fun O S L Q hy hs hoc hL k => ?_⟩
        have hL1 : X1.nid ≤ L := Nat.le_trans h1.fwd.nid hL
        refine iwp_seq (h0.go O S L _ hy hs hoc hL1 fun S1 hs1 hp1 => thenQ_n ?_)
        exact h1.go O S1 L Q hy hs1 (hoc.next h0.fwd hp1) hL fun S' hs' hp' => k S' hs' (hp1.trans h0.fwd h1.fwd hp')
      · rename_i hne
        cases h
        refine ⟨h0.fwd, fun O S L Q hy hs hoc hL k => iwp_seq (h0.go O S L _ hy hs hoc hL fun S1 hs1 hp1 => ?_)⟩
        have hq := k S1 hs1 hp1
        cases e0 with
        | normal => exact absurd rfl hne
        | _ => exact hq
    · cases h
  | .cond c a b, X, R, h => by
    simp only [cdC, rdC_eq] at h
    try dsimp only at h
    split at h
    · rename_i t hc
      try dsimp only at h
      split at h
      · have h0 := cdC_ok hev a h
        exact ⟨h0.fwd, fun O S L Q hy hs hoc hL k => iwp_cond_t (hs.eq hc (by simp)) rfl (h0.go O S L Q hy hs hoc hL k)⟩
      · have h0 := cdC_ok hev b h
        exact ⟨h0.fwd, fun O S L Q hy hs hoc hL k => iwp_cond_f (hs.eq hc (by simp)) rfl (h0.go O S L Q hy hs hoc hL k)⟩
    · cases h
  | .block i c, X, R, h => by
    simp only [cdC, blkX] at h
    try dsimp only at h
    split at h
    · rename_i R0 hx
      obtain ⟨e0, X1⟩ := R0
      have h0 := cdC_ok hev c hx
      try dsimp only at h
      split at h
      · rename_i j
        try dsimp only at h
        split at h
        · rename_i hj
          have hj := Nat.eq_of_beq_eq_true hj
          cases h
          refine ⟨h0.fwd, fun O S L Q hy hs hoc hL k => iwp_block (h0.go O S L _ hy hs hoc hL fun S1 hs1 hp1 => ?_)⟩
          show blockQ i Q (.exit j) S1
          rw [hj]
          exact blockQ_e (k S1 hs1 hp1)
        · rename_i hj
          cases h
          refine ⟨h0.fwd, fun O S L Q hy hs hoc hL k => iwp_block (h0.go O S L _ hy hs hoc hL fun S1 hs1 hp1 => ?_)⟩
          exact blockQ_x (by rw [beq_eq_false_iff_ne]; rintro rfl; rw [Nat.beq_refl] at hj; cases hj) (k S1 hs1 hp1)
      · rename_i hne
        cases h
        refine ⟨h0.fwd, fun O S L Q hy hs hoc hL k => iwp_block (h0.go O S L _ hy hs hoc hL fun S1 hs1 hp1 => ?_)⟩
        have hq := k S1 hs1 hp1
        cases e0 with
        | exit j => exact absurd rfl (hne j)
        | _ => exact hq
    · cases h
  | .loop c, X, R, h => by
    simp only [cdC] at h
    have h0 := lpX_ok (fun X R hx => cdC_ok hev c hx) _ h
    exact ⟨h0.fwd, fun O S L Q hy hs hoc hL k => iwp_loop_of (h0.go O S L Q hy hs hoc hL k)⟩
  | .scope c, X, R, h => by
    simp only [cdC] at h
    have h0 := scX_ok hev.cd (c := c) _ (c0 := c) (fun R0 hR => cdC_ok hev c hR) h
    exact ⟨h0.fwd, fun O S L Q hy hs hoc hL k => iwp_scope_of (h0.go O S L Q hy hs hoc hL k)⟩
  | .rangeFunc g ps as bd, X, R, h => by
    unfold cdC at h
    split at h
    · obtain ⟨sl, H, nid, dm⟩ := X
      dsimp only at h
      rw [rdC_eq] at h
      split at h
      · rename_i f caps hx
        obtain ⟨f0, hf0, h⟩ := slB_e h
        obtain ⟨H1, hH1, _, h⟩ := putH_e h
        rw [fcN_eq] at h
        split at h
        · rename_i R1 hR1
          obtain ⟨d1, HR, n1, dm1⟩ := R1
          dsimp only at h
          obtain ⟨N1, f1, st, pend, ps1, as1, bd1, hL, h⟩ := lpK_e h
          obtain ⟨hst, h⟩ := nbK_e h
          obtain ⟨H2, hH2, _, h⟩ := putH_e h
          have hfg := hev.cl _ _ _ _ _ _ hR1
          have hrg := range_go (P := P) (N := N) (X := ⟨sl, H, nid, dm⟩) (g := g) (ps := ps) (as := as) (bd := bd) hx (fun t => by
            rw [hf0 t, at_e]
            by_cases ht : t < N
            · rw [if_pos (List.mem_range.2 ht), if_pos ht]
            · rw [if_neg (fun hm => ht (List.mem_range.1 hm)), if_neg ht]) hH1 hfg hL hst hH2
          obtain ⟨hfw, hgo⟩ := hrg
          split at h
          · cases h
            exact ⟨hfw, fun O S L Q hy hs hoc hL k => hgo O S L Q (hy rfl).1 (hy rfl).2 hs hoc hL fun S' h1 h2 => k S' h1 h2⟩
          · split at h
            · cases h
              exact ⟨hfw, fun O S L Q hy hs hoc hL k => hgo O S L Q (hy rfl).1 (hy rfl).2 hs hoc hL fun S' h1 h2 => iwp_ret (k S' h1 h2)⟩
            · cases h
              exact ⟨hfw, fun O S L Q hy hs hoc hL k => hgo O S L Q (hy rfl).1 (hy rfl).2 hs hoc hL fun S' h1 h2 => iwp_exit (k S' h1 h2)⟩
            · cases h
        · cases h
      · cases h
    · cases h
  | .refuse _, X, R, h => by simp [cdC, noC] at h
end
end Go.IL
open Go.RowKit (Below)
set_option linter.unusedVariables false
namespace Go.IL
/-! Functions. -/
structure Rl where
  run : ∀ {β : Type}, XS → (List D → Option β) → Option β
structure Lr2 where
  run : ∀ {β : Type}, XS → Nat → Nat → (D → Option β) → Option β
def noL2 : Lr2 := ⟨fun _ _ _ _ => none⟩
def ldR (P : Program) (T : TypeId) : Lr2 := match P.info? T with
  | none => noL2
  | some i => match isI (P.underlying T) with
    | false => noL2
    | true => match Nat.ble 1 i.size with
      | false => noL2
      | true => match aggOf P T with
        | true => ⟨fun X id off q => blkK X id fun _ n c => tstb (Nat.ble (Nat.add off i.size) n) (ldF c i.size off fun cs => q (.agg cs))⟩
        | false => match Nat.beq i.size 1 with
          | false => noL2
          | true => ⟨fun X id off q => blkK X id fun _ n c => tstb (Nat.blt off n) ((gkC .dead 20 off).run c q)⟩
def rsC (P : Program) : List ResultVar → Rl
  | [] => ⟨fun _ q => q []⟩
  | x :: xs => let r := rsC P xs; match x with
    | .tmp t => let a := rdC (.tmp t); ⟨fun X q => a.run X.sl fun d => r.run X fun ds => q (d :: ds)⟩
    | .cell x T => let a := rdC (.tmp x); let f := ldR P T; ⟨fun X q => a.run X.sl fun p => match p with
      | .ref id off => f.run X id off fun d => r.run X fun ds => q (d :: ds)
      | _ => none⟩
def bindF {β : Type} : List D → Nat → Tt D → (Tt D → Option β) → Option β
  | [], _, s, q => q s
  | d :: ds, i, s, q => fcN i fun i => tstb (Nat.blt i 4000) (fcT ((stC .dead 12 i).run s d) fun s => bindF ds (Nat.succ i) s q)
structure Fr where
  run : EV → List D → Tt XE → Nat → Nat → Option CR
def noF : Fr := ⟨fun _ _ _ _ _ => none⟩
def fnC (P : Program) (f : FuncId) : Fr := match P.funcs[f]? with
  | some fn => match fn.body with
    | some c => match fn.name == "runtime.NumGoroutine" with
      | true => noF
      | false => let g := cdC P fn.ntmps true c; let r := rsC P fn.results.toList; ⟨fun ev ds H nid dm => tstb (Nat.ble ds.length fn.ntmps) (bindF ds 0 .e fun s => match g.run ev ⟨s, H, nid, dm⟩ with
        | some R => match R with
          | ⟨e, X⟩ => match e with
            | .normal => r.run X fun rs => match X with
              | ⟨_, H, nid, dm⟩ => some ⟨retD rs, H, nid, dm⟩
            | .ret => r.run X fun rs => match X with
              | ⟨_, H, nid, dm⟩ => some ⟨retD rs, H, nid, dm⟩
            | _ => none
        | none => none)⟩
    | none => noF
  | none => noF
section
variable {P : Program} {N : Nat} {X X' : XS} {O : Origin} {S : St} {L : Nat} {β : Type} {r : β}
theorem ldR_e {T : TypeId} {id off : Nat} {q : D → Option β} (h : (ldR P T).run X id off q = some r) : ∃ d, q d = some r ∧ ∀ O S L, SubX O X S L → ∃ e ds u z size bytes, S.ent id = .blk e ds ∧ P.underlying T = some u ∧ TI P T z size bytes ∧ off + size ≤ ds.length ∧ 0 < size ∧ D.load (aggOf P T) size (ds.drop off) = d := by
  unfold ldR at h
  try dsimp only at h
  split at h
  · cases h
  · rename_i i hi
    try dsimp only at h
    split at h
    · cases h
    · rename_i hu
      obtain ⟨u, hu⟩ := isI_e hu
      try dsimp only at h
      split at h
      · cases h
      · rename_i h1
        have h1 := Nat.le_of_ble_eq_true h1
        try dsimp only at h
        split at h
        · rename_i hg
          obtain ⟨e, n, c, hb, h⟩ := blkK_e h
          obtain ⟨h2, h⟩ := tstb_e h
          have h2 : off + i.size ≤ n := Nat.le_of_ble_eq_true h2
          rw [ldF_eq, ← cells_part h2] at h
          exact ⟨_, h, fun O S L hs => ⟨e, _, u, _, _, _, hs.blk hb, hu, ti_of2 hi, by rw [cellsT_length]; exact h2, h1, by rw [D.load, hg]; rfl⟩⟩
        · rename_i hg
          try dsimp only at h
          split at h
          · cases h
          · rename_i hz
            have hz := Nat.eq_of_beq_eq_true hz
            obtain ⟨e, n, c, hb, h⟩ := blkK_e h
            obtain ⟨h2, h⟩ := tstb_e h
            rw [Nat.blt_eq] at h2
            rw [gkC_at] at h
            refine ⟨_, h, fun O S L hs => ⟨e, _, u, _, _, _, hs.blk hb, hu, ti_of2 hi, by rw [cellsT_length]; omega, h1, ?_⟩⟩
            rw [D.load, hg]
            have := cellsT_get (c := c) h2
            rw [if_neg (by simp), List.headD_eq_head?_getD, List.head?_drop, this]; rfl
theorem rsC_e : ∀ {xs : List ResultVar} {q : List D → Option β}, (rsC P xs).run X q = some r → ∃ rs, q rs = some r ∧ ∀ O S L, SubX O X S L → ResVs P S xs rs
  | [], q, h => ⟨[], h, fun _ _ _ _ => .nil⟩
  | x :: xs, q, h => by
    simp only [rsC] at h
    try dsimp only at h
    split at h
    · rename_i t
      simp only [rdC_eq] at h
      obtain ⟨rs, h1, h2⟩ := rsC_e h
      exact ⟨_, h1, fun O S L hs => .cons (hs.sv (.tmp t)) (h2 O S L hs)⟩
    · rename_i x T
      simp only [rdC_eq] at h
      try dsimp only at h
      split at h
      · rename_i id off hx
        obtain ⟨d, h, hd⟩ := ldR_e h
        obtain ⟨rs, h1, h2⟩ := rsC_e h
        refine ⟨_, h1, fun O S L hs => .cons ?_ (h2 O S L hs)⟩
        obtain ⟨e, ds, u, z, size, bytes, g1, g2, g3, g4, g5, g6⟩ := hd O S L hs
        exact ⟨id, off, e, ds, u, z, size, bytes, hx ▸ hs.sv (.tmp x), g1, g2, g3, g4, g5, g6⟩
      · cases h
theorem bindF_e : ∀ {ds : List D} {i : Nat} {s : Tt D} {q : Tt D → Option β}, bindF ds i s q = some r → ∃ s', (∀ t, s'.at .dead t = if i ≤ t ∧ t < i + ds.length then (ds[t - i]?).getD .dead else s.at .dead t) ∧ q s' = some r
  | [], i, s, q, h => ⟨s, fun t => by rw [if_neg (by simp <;> omega)], h⟩
  | d :: ds, i, s, q, h => by
    simp only [bindF, fcN_eq, fcT_eq] at h
    obtain ⟨h1, h⟩ := tstb_e h
    rw [Nat.blt_eq] at h1
    obtain ⟨s', hs, hq⟩ := bindF_e h
    refine ⟨s', fun k => ?_, hq⟩
    rw [hs k, stC_at _ _ _ _ _ _ (by omega)]
    by_cases hk : i = k
    · subst hk
      rw [if_neg (by omega), if_pos rfl, if_pos (by simp)]
      simp
    · rw [if_neg hk]
      by_cases h2 : i + 1 ≤ k ∧ k < i + 1 + ds.length
      · rw [if_pos h2, if_pos (by simp <;> omega)]
        rw [show k - i = (k - (i + 1)) + 1 by omega]
        simp
      · rw [if_neg h2, if_neg (by simp <;> omega)]
theorem look_zip (ds : List D) (t : Nat) : look .dead t ((List.range ds.length).zip ds) = (ds[t]?).getD .dead := by
  have key : ∀ (ds : List D) (k : Nat), look .dead t ((List.range' k ds.length).zip ds) = if k ≤ t then (ds[t - k]?).getD .dead else .dead := by
    intro ds
    induction ds with
    | nil => intro k; simp [look]
    | cons d ds ih =>
      intro k
      rw [List.length_cons, List.range'_succ, List.zip_cons_cons, look_cons]
      by_cases hk : k = t
      · subst hk; rw [if_pos rfl, if_pos (Nat.le_refl _)]; simp
      · rw [if_neg hk, ih (k + 1)]
        by_cases h2 : k + 1 ≤ t
        · rw [if_pos h2, if_pos (by omega), show t - k = (t - (k + 1)) + 1 by omega]; simp
        · rw [if_neg h2, if_neg (by omega)]
  have := key ds 0
  rw [List.range_eq_range']
  simpa using this
theorem fnC_ok {ev : EV} (hev : EvOk P ev) {f : FuncId} {ds : List D} {H : Tt XE} {nid dm : Nat} {R : CR} (h : (fnC P f).run ev ds H nid dm = some R) : FGo P f ds H nid dm R := by
  unfold fnC at h
  try dsimp only at h
  split at h
  · rename_i fn hf
    try dsimp only at h
    split at h
    · rename_i c hb
      try dsimp only at h
      split at h
      · cases h
      · rename_i hname
        simp only at h
        obtain ⟨hlen, h⟩ := tstb_e h
        have hlen := Nat.le_of_ble_eq_true hlen
        obtain ⟨s, hs, h⟩ := bindF_e h
        have main : ∀ (e : Exit) (X : XS), (e = .normal ∨ e = .ret) → (cdC P fn.ntmps true c).run ev ⟨s, H, nid, dm⟩ = some ⟨e, X⟩ → (rsC P fn.results.toList).run X (fun rs => match X with
            | ⟨_, H, nid, dm⟩ => some (⟨retD rs, H, nid, dm⟩ : CR)) = some R → FGo P f ds H nid dm R := by
          intro e X he hcd hrs
          have hg := cdC_ok hev c hcd
          obtain ⟨rs, hR, hres⟩ := rsC_e hrs
          obtain ⟨sl', H', nid', dm'⟩ := X
          simp only [Option.some.injEq] at hR
          subst hR
          refine ⟨⟨hg.fwd.p0, hg.fwd.pm, hg.fwd.nid, hg.fwd.p4, hg.fwd.p5⟩, ⟨fn, hf, by simpa using hname, by rw [hb]; rfl⟩, ?_⟩
          intro O E β S L vs hO hdt hnm hoc hok hsub hL hvs
          have hvl := hvs.length
          let S0 : St := ⟨(List.range ds.length).zip ds, S.H⟩
          have hrel : Rel O fn.ntmps S0 E β { tmps := vs.toArray ++ Array.replicate (fn.ntmps - vs.toArray.size) undef, defers := [] } := by
            refine ⟨by simp; omega, Marks.nil hdt, hok, fun s => ?_⟩
            have := rdl_slots hvs (fn.ntmps - vs.toArray.size) s
            exact this
          have hsub0 : SubX O ⟨s, H, nid, dm⟩ S0 L := by
            refine ⟨fun t => .inl ?_, hsub.en, hsub.fr, hsub.lim⟩
            show s.at .dead t = look .dead t ((List.range ds.length).zip ds)
            rw [hs t, look_zip, at_e]
            split
            · simp
            · rw [List.getElem?_eq_none (by omega)]; rfl
          have hoc0 : OC O ⟨s, H, nid, dm⟩ S0 := ⟨hoc.foot, hoc.dv⟩
          refine calls_of_iwp (E := E) (O := O) hf hb hO hoc.foot hdt hrel (hg.go O S0 L (fun e' S' => e' = e ∧ SubX O ⟨sl', H', nid', dm'⟩ S' L ∧ Pres ⟨s, H, nid, dm⟩ ⟨sl', H', nid', dm'⟩ S0 S') (fun _ => ⟨hO, hnm⟩) hsub0 hoc0 hL fun S' hs' hp' => ⟨rfl, hs', hp'⟩) ?_
          rintro e' S' E' β' a' hr' ⟨rfl, hs', hp'⟩
          refine ⟨he, ?_⟩
          obtain ⟨v, hv, hrd⟩ := run_retD hr' (hres O S' L hs')
          refine ⟨v, hv, v, rfl, S', E', β', rfl, hr'.h, hrd, ⟨fun t => .inr (at_e _ _), hs'.en, hs'.fr, hs'.lim⟩, ⟨hp'.p1, hp'.p2, hp'.p3⟩⟩
        try dsimp only at h
        split at h
        · rename_i R1 hcd
          obtain ⟨e, X⟩ := R1
          try dsimp only at h
          split at h
          · exact main _ _ (.inl rfl) hcd h
          · exact main _ _ (.inr rfl) hcd h
          · cases h
        · cases h
    · cases h
  · cases h
end
/-- Functions that are known by themselves. -/
def FxOk (P : Program) (fx : FuncId → Option Fr) : Prop := ∀ f g, fx f = some g → ∀ ev, EvOk P ev → ∀ ds H nid dm R, g.run ev ds H nid dm = some R → FGo P f ds H nid dm R
def fnX (P : Program) (fx : FuncId → Option Fr) (f : FuncId) : Fr := match fx f with
  | some g => g
  | none => fnC P f
def evN (P : Program) (fx : FuncId → Option Fr) : Nat → EV
  | 0 => ⟨fun _ _ _ _ _ => none, fun _ _ _ _ => none⟩
  | n + 1 => ⟨fun f ds H nid dm => (fnX P fx f).run (evN P fx n) ds H nid dm, fun y c N X => (cdC P N y c).run (evN P fx n) X⟩
theorem fnX_ok {P : Program} {fx : FuncId → Option Fr} (hfx : FxOk P fx) {ev : EV} (hev : EvOk P ev) {f : FuncId} {ds : List D} {H : Tt XE} {nid dm : Nat} {R : CR} (h : (fnX P fx f).run ev ds H nid dm = some R) : FGo P f ds H nid dm R := by
  unfold fnX at h
  try dsimp only at h
  split at h
  · rename_i g hg
    exact hfx f g hg ev hev _ _ _ _ _ h
  · exact fnC_ok hev h
theorem evN_ok {P : Program} {fx : FuncId → Option Fr} (hfx : FxOk P fx) : ∀ n, EvOk P (evN P fx n)
  | 0 => ⟨fun _ _ _ _ _ _ h => (by cases h), fun _ _ _ _ _ h => (by cases h)⟩
  | n + 1 => ⟨fun _ _ _ _ _ _ h => fnX_ok hfx (evN_ok hfx n) h, fun _ _ _ _ _ h => cdC_ok (evN_ok hfx n) _ h⟩
end Go.IL
set_option linter.unusedVariables false
namespace Go.IL
/-! A function that defers one call. -/
section
variable {P : Program} {N : Nat}
/-- Behind the deferring: the call's arguments, and the marks that stood there, are kept under a name of their own. -/
theorem dfr_start {O : Origin} {S : St} {E : Env} {β : Names} {a : Act} {X : XS} {L : Nat} {ds : List D} {vs : List Value} (d : Deferred) (hr : Rel O N S E β a) (hdt : O.dt = []) (hs : SubX O X S L) (hoc : OC O X S) (hL : X.nid < L) (hvs : RdL E β vs ds) :
    ∃ (k : Nat) (bs : List Nat), (∀ i, (S.ent i).num ≠ some k) ∧ a.defers = bs.map (fun b => { target := .collected b, args := #[] }) ∧ bs.Nodup ∧ (∀ b ∈ bs, (O.mb ≤ b ∧ ∀ k, b ∉ O.dv k)) ∧
      Rel ⟨O.w, O.X, O.foot, O.given, O.round, fun j => if j = k then vs else O.kv j, O.lv, fun j => if j = k then bs else O.dv j, O.lc, O.mb, d :: a.defers, false⟩ N ⟨S.sl, (X.nid, .kept k ds) :: S.H⟩ E β { a with defers := d :: a.defers } ∧
      SubX ⟨O.w, O.X, O.foot, O.given, O.round, fun j => if j = k then vs else O.kv j, O.lv, fun j => if j = k then bs else O.dv j, O.lc, O.mb, d :: a.defers, false⟩ ⟨X.sl, X.H, X.nid + 1, X.dm⟩ ⟨S.sl, (X.nid, .kept k ds) :: S.H⟩ L ∧
      OC ⟨O.w, O.X, O.foot, O.given, O.round, fun j => if j = k then vs else O.kv j, O.lv, fun j => if j = k then bs else O.dv j, O.lc, O.mb, d :: a.defers, false⟩ ⟨X.sl, X.H, X.nid + 1, X.dm⟩ ⟨S.sl, (X.nid, .kept k ds) :: S.H⟩ := by
  obtain ⟨Ow, OX, Of, Og, Or, Okv, Olv, Odv, Olc, Omb, Odt, Onm⟩ := O
  simp only at hdt
  subst hdt
  obtain ⟨bs, hbs, hnd, hall⟩ := hr.nd
  rw [List.append_nil] at hbs
  obtain ⟨k, hk⟩ := fresh_num S.H
  let O' : Origin := ⟨Ow, OX, Of, Og, Or, fun j => if j = k then vs else Okv j, Olv, fun j => if j = k then bs else Odv j, Olc, Omb, d :: a.defers, false⟩
  have hcomp : ∀ e : Ent, e.num ≠ some k → compat ⟨Ow, OX, Of, Og, Or, Okv, Olv, Odv, Olc, Omb, [], Onm⟩ O' e := fun e he => by
    cases e with
    | kept j ds => have : j ≠ k := fun h => he (by rw [h]; rfl)
                   simp [compat, O', this]
    | loop j => simp [compat, O']
    | _ => trivial
  have h0 : HOk O' E β (entL S.H) := hr.h.swap ⟨rfl, rfl, rfl, rfl, rfl⟩ fun id => .inl ⟨rfl, hcomp _ (hk id)⟩
  let S0 : St := ⟨S.sl, (X.nid, .kept k ds) :: S.H⟩
  have h1 : HOk O' E β S0.ent := h0.addK (by simpa [O'] using hvs) fun c hc => (hall c (by simpa [O'] using hc)).2
  have hS0 : ∀ i, X.nid ≠ i → S0.ent i = S.ent i := fun i hi => by simp [S0, St.ent, entL, look_cons, hi]
  have hS0k : S0.ent X.nid = .kept k ds := by simp [S0, St.ent, entL, look_cons]
  have hno : X.H.at .no X.nid = .no := hs.at_nid (Nat.le_refl _) hL
  refine ⟨k, bs, fun i => hk i, hbs, hnd.1, fun b hb => (hall b hb).1, ⟨hr.n, ⟨[], rfl, ⟨.nil, fun _ => rfl⟩, fun _ h => (by cases h)⟩, h1, hr.sl⟩, ⟨hs.sl, fun i => ?_, fun i g1 g2 => ?_, hs.lim⟩, ⟨hoc.foot, fun j => ?_⟩⟩
  · show EnR _ (X.H.at .no i) _
    by_cases hi : X.nid = i
    · subst hi; rw [hno]; trivial
    · rw [show (St.mk S.sl ((X.nid, .kept k ds) :: S.H)).ent i = S.ent i from hS0 i hi]
      exact (hs.en i).lc fun m hm => rfl
  · have g1 : X.nid + 1 ≤ i := g1
    rw [show (St.mk S.sl ((X.nid, .kept k ds) :: S.H)).ent i = S.ent i from hS0 i (by omega)]
    exact hs.fr i (by omega) g2
  · by_cases hj : j = k
    · subst hj
      exact .inr ⟨X.nid, _, Nat.lt_succ_self _, hno, hS0k⟩
    · rcases hoc.dv j with g | ⟨i, ds', g1, g2, g3⟩
      · left; show (if j = k then _ else Odv j) = []; rw [if_neg hj]; exact g
      · exact .inr ⟨i, ds', by show i < X.nid + 1; omega, g2, by rw [show (St.mk S.sl ((X.nid, .kept k ds) :: S.H)).ent i = S.ent i from hS0 i (by omega)]; exact g3⟩
/-- Marks, with more behind them. -/
theorem leaves_marksT {O : Origin} {S : St} {β : Names} {a : Act} {fn : Func} {R : Ending → World → Prop} {n : Nat} {F : Fence} {tl : List Deferred} (ho : O.FootOk) : ∀ (bs : List Nat) (E : Env), Rel O N S E β { a with defers := O.dt } → bs.Nodup → (∀ b ∈ bs, (O.mb ≤ b ∧ ∀ k, b ∉ O.dv k) ∧ E.w.heap[b]? = some (.deferred (some []))) →
    (∀ E', Rel O N S E' β { a with defers := O.dt } → LeavesInM F n P fn a.tmps R tl .returning E'.w) → LeavesInM F n P fn a.tmps R (bs.map (fun b => { target := .collected b, args := #[] }) ++ tl) .returning E.w
  | [], E, hr, _, _, h => h E hr
  | b :: bs, E, hr, hn, hb, h => by
    obtain ⟨⟨h0, hdv⟩, h2⟩ := hb b (by simp)
    have h1 := Nat.le_trans ho.1 h0
    rw [List.nodup_cons] at hn
    refine ⟨by simp, .inl ⟨b, _, rfl, run_takeDeferred h2, ?_⟩⟩
    exact leaves_marksT ho bs ⟨E.w.putObj b (.deferred none), E.X⟩ ⟨hr.n, ⟨[], rfl, ⟨.nil, fun _ => rfl⟩, fun _ h => (by cases h)⟩, hr.h.shut h1 (ho.2 b h1) hdv h2, fun s => Rd.mono (shut_le h2) (Names.le.refl _) (hr.sl s)⟩ hn.2
      (fun c hc => ⟨(hb c (by simp [hc])).1, (World.putObj_heap_other (by rintro rfl; exact hn.1 hc)).trans (hb c (by simp [hc])).2⟩) h
/-- The deferred call: it hands back nothing; the frame that deferred it stays. -/
theorem dfr_call {O : Origin} {S : St} {E : Env} {β : Names} {a : Act} {X : XS} {L : Nat} {g : FuncId} {fng : Func} {cg : Code} {ds : List D} {vs : List Value} {s : Tt D} {e : Exit} {X3 : XS} {T : World → Prop} (hro : O.round = none) (hfg : P.funcs[g]? = some fng) (hbg : fng.body = some cg) (hres : fng.results = #[]) (hlen : ds.length ≤ fng.ntmps)
    (hs0 : ∀ k, s.at .dead k = (ds[k]?).getD .dead) (hgo : CGo P fng.ntmps false cg ⟨s, X.H, X.nid + 1, X.dm⟩ ⟨e, X3⟩) (he : e = .normal ∨ e = .ret) (hr : Rel O N S E β a) (hs : SubX O X S L) (hoc : OC O X S) (hL : X3.nid ≤ L) (hvs : RdL E β vs ds)
    (hfin : ∀ S5 E5 β5, Rel O N S5 E5 β5 a → SubX O ⟨X.sl, X3.H, X3.nid, X3.dm⟩ S5 L → Pres X ⟨X.sl, X3.H, X3.nid, X3.dm⟩ S S5 → T E5.w) :
    CallsDIn Fence.wide 0 P g vs.toArray .returning E.w fun e u' w' => u' = .returning ∧ (∃ v, e = .returned v) ∧ T w' := by
  obtain ⟨sl3, H3, n3, d3⟩ := X3
  have hL : n3 ≤ L := hL
  have hn1 : X.nid + 1 ≤ n3 := hgo.fwd.nid
  obtain ⟨Ow, OX, Of, Og, Or, Okv, Olv, Odv, Olc, Omb, Odt, Onm⟩ := O
  simp only at hro
  subst hro
  obtain ⟨bs, hbs, hnd, hall⟩ := hr.nd
  obtain ⟨k2, hk2⟩ := fresh_num S.H
  let O' : Origin := ⟨Ow, OX, Of, Og, none, fun j => if j = k2 then a.tmps.toList else Okv j, Olv, fun j => if j = k2 then bs else Odv j, Olc, Omb, [], true⟩
  have hcomp : ∀ e : Ent, e.num ≠ some k2 → compat ⟨Ow, OX, Of, Og, none, Okv, Olv, Odv, Olc, Omb, Odt, Onm⟩ O' e ∧ compat O' ⟨Ow, OX, Of, Og, none, Okv, Olv, Odv, Olc, Omb, Odt, Onm⟩ e := fun e he => by
    cases e with
    | kept j ds => have : j ≠ k2 := fun h => he (by rw [h]; rfl)
                   simp [compat, O', this]
    | loop j => simp [compat, O']
    | _ => exact ⟨trivial, trivial⟩
  have h0 : HOk O' E β (entL S.H) := hr.h.swap ⟨rfl, rfl, rfl, rfl, rfl⟩ fun id => .inl ⟨rfl, (hcomp _ (hk2 id)).1⟩
  let S0 : St := ⟨(List.range ds.length).zip ds, (X.nid, .kept k2 (allD N S)) :: S.H⟩
  have h1 : HOk O' E β S0.ent := h0.addK (by simpa [O'] using rel_allD hr) fun c hc => (hall c (by simpa [O'] using hc)).2
  have hS0 : ∀ i, X.nid ≠ i → S0.ent i = S.ent i := fun i hi => by simp [S0, St.ent, entL, look_cons, hi]
  have hS0k : S0.ent X.nid = .kept k2 (allD N S) := by simp [S0, St.ent, entL, look_cons]
  have hno : X.H.at .no X.nid = .no := hs.at_nid (Nat.le_refl _) (by omega)
  have hsub : SubX O' ⟨s, X.H, X.nid + 1, X.dm⟩ S0 L := by
    refine ⟨fun t => .inl ?_, fun i => ?_, fun i g1 g2 => ?_, hs.lim⟩
    · show s.at .dead t = look .dead t ((List.range ds.length).zip ds)
      rw [hs0 t, look_zip]
    · show EnR O' (X.H.at .no i) _
      by_cases hi : X.nid = i
      · subst hi; rw [hno]; trivial
      · rw [hS0 i hi]
        exact (hs.en i).lc fun k hk => rfl
    · have g1 : X.nid + 1 ≤ i := g1
      rw [hS0 i (by omega)]
      exact hs.fr i (by omega) g2
  have hoc' : OC O' ⟨s, X.H, X.nid + 1, X.dm⟩ S0 := by
    refine ⟨hoc.foot, fun j => ?_⟩
    by_cases hj : j = k2
    · subst hj
      exact .inr ⟨X.nid, _, Nat.lt_succ_self _, hno, hS0k⟩
    · rcases hoc.dv j with g | ⟨i, ds', g1, g2, g3⟩
      · left; show (if j = k2 then bs else Odv j) = []; rw [if_neg hj]; exact g
      · exact .inr ⟨i, ds', by show i < X.nid + 1; omega, g2, by rw [hS0 i (by omega)]; exact g3⟩
  have hvl := hvs.length
  have hrel : Rel O' fng.ntmps S0 E β { tmps := vs.toArray ++ Array.replicate (fng.ntmps - vs.toArray.size) undef, defers := [] } := by
    refine ⟨by simp; omega, Marks.nil rfl, h1, fun s => ?_⟩
    have := rdl_slots hvs (fng.ntmps - vs.toArray.size) s
    exact this
  have hw := hgo.go O' S0 L (fun e' S' => e' = e ∧ SubX O' ⟨sl3, H3, n3, d3⟩ S' L ∧ Pres ⟨s, X.H, X.nid + 1, X.dm⟩ ⟨sl3, H3, n3, d3⟩ S0 S') (fun h => by cases h) hsub hoc' hL (fun S' hs' hp' => ⟨rfl, hs', hp'⟩) E β _ hrel
  refine (callsDIn_of_wp (n := 0) (u := .returning) (R := fun e w' => (∃ v, e = .returned v) ∧ T w') hfg hbg trivial (wpIn_mono hw ?_)).mono fun e u' w' h => ⟨h.1, h.2.1, h.2.2⟩
  rintro e' a' w' ⟨S', E', β', rfl, hr', rfl, hs', hpres⟩
  have hdf : a'.defers = [] := by
    obtain ⟨bs', hb1, hb2, _⟩ := hr'.nd
    rw [hb1, hb2.2 rfl]; rfl
  have hkeep : S'.ent X.nid = .kept k2 (allD N S) := by
    rw [hpres.p1 X.nid hno (.inl (Nat.lt_succ_self _)), hS0k]
  have hkept := hr'.h.ent X.nid
  rw [hkeep] at hkept
  obtain ⟨k1, k2'⟩ := hkept
  have hkv : O'.kv k2 = a.tmps.toList := by simp [O']
  have hdk : O'.dv k2 = bs := by simp [O']
  rw [hkv] at k1; rw [hdk] at k2'
  let S1 : St := ⟨S.sl, (X.nid, .none) :: S'.H⟩
  have hS1 : ∀ i, X.nid ≠ i → S1.ent i = S'.ent i := fun i hi => by simp [S1, St.ent, entL, look_cons, hi]
  have hS1k : S1.ent X.nid = .none := by simp [S1, St.ent, entL, look_cons]
  have hnum : ∀ i, X.nid ≠ i → (S'.ent i).num ≠ some k2 := fun i hi hc => by
    rcases hpres.p3 i with g | g
    · rw [g] at hc; cases hc
    · rw [g, hS0 i hi] at hc; exact hk2 i hc
  have hrel1 : Rel ⟨Ow, OX, Of, Og, none, Okv, Olv, Odv, Olc, Omb, Odt, Onm⟩ N S1 E' β' a := by
    refine ⟨hr.n, ⟨bs, hbs, hnd, fun c hc => ⟨(hall c hc).1, k2' c hc⟩⟩, ?_, fun s => ?_⟩
    · refine HOk.swap (O := O') (H := S'.ent) hr'.h ⟨rfl, rfl, rfl, rfl, rfl⟩ fun id => ?_
      by_cases hid : X.nid = id
      · right; subst hid; exact hS1k
      · left; exact ⟨hS1 id hid, (hcomp _ (hnum id hid)).2⟩
    · rcases Nat.lt_or_ge s N with hsN | hsN
      · have := rdl_slots0 k1 s
        rw [get_allD hsN] at this
        exact this
      · have hu : a.tmps.getD s undef = undef := by
          have : a.tmps.size = N := hr.n
          simp [Array.getD_eq_getD_getElem?, Array.getElem?_eq_none (show a.tmps.size ≤ s by omega)]
        have := hr.sl s
        rw [hu] at this ⊢
        exact rd_undef _ this
  have hsub1 : SubX ⟨Ow, OX, Of, Og, none, Okv, Olv, Odv, Olc, Omb, Odt, Onm⟩ ⟨X.sl, H3, n3, d3⟩ S1 L := by
    refine ⟨hs.sl, fun i => ?_, fun i g1 g2 => ?_, hs.lim⟩
    · by_cases hi : X.nid = i
      · subst hi
        have : H3.at .no X.nid = .no := hgo.fwd.p0 X.nid hno (.inl (Nat.lt_succ_self _))
        show EnR _ (H3.at .no X.nid) _
        rw [this]; trivial
      · rw [hS1 i hi]
        exact (hs'.en i).lc fun k hk => rfl
    · have g1 : n3 ≤ i := g1
      rw [hS1 i (by omega)]
      exact hs'.fr i g1 g2
  have hpres1 : Pres X ⟨X.sl, H3, n3, d3⟩ S S1 := by
    refine ⟨fun i g1 g2 => ?_, fun i g1 g2 => ?_, fun i => ?_⟩
    · have g2 : i < X.nid ∨ n3 ≤ i := g2
      have hi : X.nid ≠ i := by omega
      rw [hS1 i hi, hpres.p1 i g1 (by rcases g2 with g2 | g2; exact .inl (by show i < X.nid + 1; omega); exact .inr g2), hS0 i hi]
    · have g2 : i < X.nid ∨ n3 ≤ i := g2
      have hi : X.nid ≠ i := by omega
      rw [hS1 i hi, hpres.p2 i g1 (by rcases g2 with g2 | g2; exact .inl (by show i < X.nid + 1; omega); exact .inr g2), hS0 i hi]
    · by_cases hi : X.nid = i
      · subst hi; left; rw [hS1k]; rfl
      · rw [hS1 i hi]
        rcases hpres.p3 i with g | g
        · exact .inl g
        · right; rw [g, hS0 i hi]
  have hT := hfin S1 E' β' hrel1 hsub1 hpres1
  have hrs : (results fng a'.tmps).run P E'.w = .ok (.tuple #[]) E'.w := by simp [results, hres]
  rcases he with rfl | rfl
  · exact ⟨hdf, _, hrs, ⟨_, rfl⟩, hT⟩
  · exact ⟨hdf, _, hrs, ⟨_, rfl⟩, hT⟩
/-- The way out: marks, the deferred call, marks. -/
theorem dfr_end {O O' : Origin} {S : St} {E : Env} {β : Names} {a : Act} {X : XS} {L : Nat} {g : FuncId} {fn fng : Func} {cg : Code} {ds : List D} {vs : List Value} {s : Tt D} {e : Exit} {X3 : XS} {R : Ending → World → Prop} {k i0 : Nat} {bs : List Nat} (hO' : O' = ⟨O.w, O.X, O.foot, O.given, O.round, fun j => if j = k then vs else O.kv j, O.lv, fun j => if j = k then bs else O.dv j, O.lc, O.mb, { target := .fn (.func g) #[], args := vs.toArray } :: bs.map (fun b => { target := .collected b, args := #[] }), false⟩)
    (hro : O.round = none) (hft : O.FootOk) (hdt : O.dt = []) (hcal : Callable P g) (hfg : P.funcs[g]? = some fng) (hbg : fng.body = some cg) (hres : fng.results = #[]) (hlen : ds.length ≤ fng.ntmps)
    (hs0 : ∀ k, s.at .dead k = (ds[k]?).getD .dead) (hgo : CGo P fng.ntmps false cg ⟨s, X.H, X.nid + 1, X.dm⟩ ⟨e, X3⟩) (he : e = .normal ∨ e = .ret) (hr : Rel O' N S E β a) (hs : SubX O' X S L) (hoc : OC O' X S) (hL : X3.nid ≤ L)
    (hi0 : S.ent i0 = .kept k ds) (hi1 : i0 < X.nid) (hi2 : X.ent i0 = .no) (hnk : ∀ i, i0 ≠ i → (S.ent i).num ≠ some k) (hbn : bs.Nodup) (hball : ∀ b ∈ bs, O.mb ≤ b ∧ ∀ k, b ∉ O.dv k)
    (hfin : ∀ S5 E5 β5, Rel O N S5 E5 β5 { a with defers := [] } → SubX O ⟨X.sl, X3.H, X3.nid, X3.dm⟩ S5 L → (∀ i, i0 ≠ i → X.ent i = .no → (i < X.nid ∨ X3.nid ≤ i) → S5.ent i = S.ent i) → (∀ i, i0 ≠ i → X3.dm.testBit i = false → (i < X.nid ∨ X3.nid ≤ i) → S5.ent i = S.ent i) → (∀ i, (S5.ent i).num = none ∨ (S5.ent i).num = (S.ent i).num) → S5.ent i0 = .none →
      ∃ v, (results fn a.tmps).run P E5.w = .ok v E5.w ∧ R (.returned v) E5.w) :
    LeavesInM Fence.wide 0 P fn a.tmps R a.defers .returning E.w := by
  obtain ⟨bs', hb1, hb2, hb3⟩ := hr.nd
  have hdt' : O'.dt = { target := .fn (.func g) #[], args := vs.toArray } :: bs.map (fun b => { target := .collected b, args := #[] }) := by rw [hO']
  rw [hb1]
  refine leaves_marksT (O := O') (S := S) (β := β) hoc.foot bs' E ⟨hr.n, ⟨[], rfl, ⟨.nil, fun _ => rfl⟩, fun _ h => (by cases h)⟩, hr.h, hr.sl⟩ hb2.1 hb3 fun E1 hr1 => ?_
  rw [hdt']
  refine ⟨by simp, .inr ⟨fun h => by simp [Fence.wide] at h, .func g, #[], g, vs.toArray, rfl, by simp [invoke, run_callFunc hcal], fun _ _ => trivial, ?_⟩⟩
  have hkv : O'.kv k = vs := by rw [hO']; simp
  have hdv : O'.dv k = bs := by rw [hO']; simp
  have hro' : O'.round = none := by rw [hO']; exact hro
  have hkept := hr1.h.ent i0
  rw [hi0] at hkept
  have hvs : RdL E1 β vs ds := hkv ▸ hkept.1
  refine (dfr_call (T := fun w' => LeavesInM Fence.wide 0 P fn a.tmps R (bs.map (fun b => { target := .collected b, args := #[] })) .returning w') hro' hfg hbg hres hlen hs0 hgo he hr1 hs hoc hL hvs ?_).mono ?_
  · intro S5 E5 β5 hr5 hs5 hp5
    have hk5 : S5.ent i0 = .kept k ds := by rw [hp5.p1 i0 hi2 (.inl hi1), hi0]
    have hkept5 := hr5.h.ent i0
    rw [hk5] at hkept5
    have hb5 : ∀ b ∈ bs, E5.w.heap[b]? = some (.deferred (some [])) := fun b hb => hkept5.2 b (by rw [hdv]; exact hb)
    let S6 : St := ⟨S5.sl, (i0, .none) :: S5.H⟩
    have hS6 : ∀ i, i0 ≠ i → S6.ent i = S5.ent i := fun i hi => by simp [S6, St.ent, entL, look_cons, hi]
    have hS6k : S6.ent i0 = .none := by simp [S6, St.ent, entL, look_cons]
    have hnum : ∀ i, i0 ≠ i → (S5.ent i).num ≠ some k := fun i hi hc => by
      rcases hp5.p3 i with g | g
      · rw [g] at hc; cases hc
      · rw [g] at hc; exact hnk i hi hc
    have hcomp : ∀ e : Ent, e.num ≠ some k → compat O' O e := fun e he => by
      subst hO'
      cases e with
      | kept j ds => have : j ≠ k := fun h => he (by rw [h]; rfl)
                     simp [compat, this]
      | loop j => simp [compat]
      | _ => trivial
    have hr6 : Rel O N S6 E5 β5 { a with defers := [] } := by
      refine ⟨hr5.n, Marks.nil hdt, HOk.swap (O := O') (H := S5.ent) hr5.h (by subst hO'; exact ⟨rfl, rfl, rfl, rfl, rfl⟩) fun id => ?_, hr5.sl⟩
      by_cases hid : i0 = id
      · right; subst hid; exact hS6k
      · left; exact ⟨hS6 id hid, hcomp _ (hnum id hid)⟩
    have hs6 : SubX O ⟨X.sl, X3.H, X3.nid, X3.dm⟩ S6 L := by
      refine ⟨hs5.sl, fun i => ?_, fun i q1 q2 => ?_, hs5.lim⟩
      · by_cases hi : i0 = i
        · subst hi
          have : X3.H.at .no i0 = .no := hgo.fwd.p0 i0 hi2 (.inl (by show i0 < X.nid + 1; omega))
          show EnR _ (X3.H.at .no i0) _
          rw [this]; trivial
        · rw [hS6 i hi]
          exact (hs5.en i).lc fun m hm => by subst hO'; rfl
      · have q1 : X3.nid ≤ i := q1
        have : X.nid + 1 ≤ X3.nid := hgo.fwd.nid
        rw [hS6 i (by omega)]
        exact hs5.fr i q1 q2
    refine leaves_marks hft hdt bs E5 hr6 hbn (fun b hb => ⟨hball b hb, hb5 b hb⟩) fun E6 hr6' => ?_
    exact hfin S6 E6 β5 hr6' hs6 (fun i hi h1 h2 => by rw [hS6 i hi]; exact hp5.p1 i h1 h2) (fun i hi h1 h2 => by rw [hS6 i hi]; exact hp5.p2 i h1 h2) (fun i => by
      by_cases hi : i0 = i
      · left; subst hi; rw [hS6k]; rfl
      · rw [hS6 i hi]; exact hp5.p3 i) hS6k
  · rintro e u' w' ⟨rfl, ⟨v, rfl⟩, hT⟩
    exact hT
/-- Operations ahead of the `defer`. -/
def prC (P : Program) (N : Nat) : List Oper → Or
  | [] => ⟨fun _ X => some X⟩
  | o :: l => match o.guard with
    | none => let f := opR P N o; let r := prC P N l; ⟨fun cl X => match f.run cl X with
      | some X => r.run cl X
      | none => none⟩
    | some _ => noO
theorem prC_ok {cl : CL} (hcl : FOk P cl) : ∀ {l : List Oper} {X X1 : XS}, (prC P N l).run cl X = some X1 → Fwd X X1 ∧ ∀ (O : Origin) (S : St) (L : Nat) (ops : Array Oper) (rest : List Oper) (Q : Exit → Act → World → Prop) (E : Env) (β : Names) (a : Act), SubX O X S L → OC O X S → X1.nid ≤ L → Rel O N S E β a →
    (∀ S' E' β' a', SubX O X1 S' L → Pres X X1 S S' → Rel O N S' E' β' a' → wpListIn (fen O.round) 0 P ops Q rest a' E'.w) → wpListIn (fen O.round) 0 P ops Q (l ++ rest) a E.w
  | [], X, X1, h => by
    cases h
    exact ⟨Fwd.refl _, fun O S L ops rest Q E β a hs _ _ hr k => k S E β a hs (Pres.refl _ _) hr⟩
  | o :: l, X, X1, h => by
    simp only [prC] at h
    split at h
    · rename_i hg
      simp only at h
      split at h
      · rename_i X2 h2
        obtain ⟨hnd, hst⟩ := opR_ok hcl h2
        obtain ⟨hf, hk⟩ := prC_ok hcl h
        refine ⟨hst.fwd.trans hf, fun O S L ops rest Q E β a hs hoc hL hr k => ?_⟩
        have hL2 : X2.nid ≤ L := Nat.le_trans hf.nid hL
        refine wpListIn_plain hg fun K hK => wp_in _ hnd ?_
        exact hst.go O S L hs hoc hL2 E β a hr _ _ fun S' E' β' a' ⟨h1, h3, _⟩ hr' => hK _ _ (hk O S' L ops rest Q E' β' a' h1 (hoc.next hst.fwd h3) hL hr' fun S6 E6 β6 a6 g1 g2 g3 => k S6 E6 β6 a6 g1 (h3.trans hst.fwd hf g2) g3)
      · cases h
    · cases h
theorem wp_dfr {ops : Array Oper} {o : Oper} {g : FuncId} {xs : List Operand} {ts : Array TypeId} {Q : Exit → Act → World → Prop} {a : Act} {w : World} (hg : o.guard = none) (hd : o.dst = none) (ho : o.op = .defer { callee := .value (.func g), args := xs.toArray, argTypes := ts })
    (h : Q .normal { a with defers := { target := .fn (.func g) #[], args := (xs.map a.eval).toArray } :: a.defers } w) : wpListIn (fen none) 0 P ops Q [o] a w := by
  refine wpListIn_plain hg fun K hK => ⟨fun _ _ => trivial, ?_⟩
  have hrun : (execOp a.eval o).run P w = .ok (.defer { target := .fn (.func g) #[], args := (xs.map a.eval).toArray }) w := by
    simp [execOp, ho, resolve, Deferred.ofValue, Act.eval]
  show o.uponIn _ _ _ _ _ _ ((o.semAt none a.eval).run P w)
  rw [Oper.semAt_none, hrun, Oper.uponIn_defer, hd]
  exact hK _ _ h
def dfR : Code → Option (List Oper × FuncId × List Operand)
  | .region _ ops draw => match draw with
    | false => match ops.toList.reverse with
      | df :: pre => match df.guard with
        | none => match df.dst with
          | none => match df.op with
            | .defer c => match c.callee with
              | .value x => match x with
                | .func g => some (pre.reverse, g, c.args.toList)
                | _ => none
              | _ => none
            | _ => none
          | some _ => none
        | some _ => none
      | [] => none
    | true => none
  | _ => none
theorem dfR_e {c : Code} {pre : List Oper} {g : FuncId} {xs : List Operand} (h : dfR c = some (pre, g, xs)) : ∃ id df ts, c = .region id (pre ++ [df]).toArray false ∧ df.guard = none ∧ df.dst = none ∧ df.op = .defer { callee := .value (.func g), args := xs.toArray, argTypes := ts } := by
  unfold dfR at h
  split at h
  · rename_i id ops draw
    split at h
    · split at h
      · rename_i df pre' hl
        split at h
        · rename_i hg
          split at h
          · rename_i hd
            split at h
            · rename_i cc ho
              obtain ⟨cl, as, ts⟩ := cc
              dsimp only at h
              split at h
              · split at h
                · cases h
                  refine ⟨id, df, ts, ?_, hg, hd, by rw [ho]⟩
                  have : ops.toList = pre'.reverse ++ [df] := by
                    have := congrArg List.reverse hl
                    simpa using this
                  rw [← this]
                · cases h
              · cases h
            · cases h
          · cases h
        · cases h
      · cases h
    · cases h
  · cases h
inductive DR where
  | plain (e : Exit) (X : XS)
  | dfr (g : FuncId) (ds : List D) (i0 : Nat) (e : Exit) (X : XS)
structure Dc where
  run : EV → XS → Option DR
/-- A body along which one call is deferred. -/
def dcC (P : Program) (N : Nat) : Code → Dc
  | .seq a b => match dfR a with
    | some x => match x with
      | (pre, g, xs) => let f := prC P N pre; let r := rdsC xs; let h := cdC P N true b
        ⟨fun ev X => match f.run ev.cl X with
          | some X1 => match X1 with
            | ⟨sl, H, nid, dm⟩ => r.run sl fun ds => fcN (Nat.succ nid) fun k => match h.run ev ⟨sl, H, k, dm⟩ with
              | some R => match R with
                | ⟨e, X2⟩ => some (.dfr g ds nid e X2)
              | none => none
          | none => none⟩
    | none => let f := cdC P N true a; let h := dcC P N b
      ⟨fun ev X => match f.run ev X with
        | some R => match R with
          | ⟨e, X⟩ => match e with
            | .normal => h.run ev X
            | e => some (.plain e X)
        | none => none⟩
  | c => let f := cdC P N true c
    ⟨fun ev X => match f.run ev X with
      | some R => match R with
        | ⟨e, X⟩ => some (.plain e X)
      | none => none⟩
structure DGo (P : Program) (N : Nat) (c : Code) (X : XS) (g : FuncId) (ds : List D) (i0 : Nat) (e : Exit) (X2 : XS) : Prop where
  fwd : Fwd X X2
  lo : X.nid ≤ i0
  hi : i0 < X2.nid
  go : ∀ (O : Origin) (S : St) (L : Nat) (Post : Exit → Act → World → Prop), O.round = none → O.nm = false → O.dt = [] → SubX O X S L → OC O X S → X2.nid ≤ L →
    (∀ (O' : Origin) (k : Nat) (bs : List Nat) (vs : List Value) (S' : St) (E' : Env) (β' : Names) (a' : Act), O' = ⟨O.w, O.X, O.foot, O.given, O.round, fun j => if j = k then vs else O.kv j, O.lv, fun j => if j = k then bs else O.dv j, O.lc, O.mb, { target := .fn (.func g) #[], args := vs.toArray } :: bs.map (fun b => { target := .collected b, args := #[] }), false⟩ → Rel O' N S' E' β' a' → SubX O' X2 S' L → OC O' X2 S' → X2.ent i0 = .no → S'.ent i0 = .kept k ds → (∀ i, i0 ≠ i → (S'.ent i).num ≠ some k) → bs.Nodup → (∀ b ∈ bs, O.mb ≤ b ∧ ∀ k, b ∉ O.dv k) →
      (∀ i, i0 ≠ i → X.ent i = .no → (i < X.nid ∨ X2.nid ≤ i) → S'.ent i = S.ent i) → (∀ i, i0 ≠ i → X2.dm.testBit i = false → (i < X.nid ∨ X2.nid ≤ i) → S'.ent i = S.ent i) → (∀ i, i0 ≠ i → (S'.ent i).num = none ∨ (S'.ent i).num = (S.ent i).num) → Post e a' E'.w) →
    ∀ E β a, Rel O N S E β a → c.wpIn (fen none) 0 P Post a E.w
def DOk (P : Program) (N : Nat) (c : Code) (X : XS) : DR → Prop
  | .plain e X' => CGo P N true c X ⟨e, X'⟩
  | .dfr g ds i0 e X2 => DGo P N c X g ds i0 e X2
theorem dfr_here {ev : EV} (hev : EvOk P ev) {a b : Code} {pre : List Oper} {g : FuncId} {xs : List Operand} {sl : Tt D} {H : Tt XE} {nid dm : Nat} {X X2 : XS} {e : Exit} (ha : dfR a = some (pre, g, xs)) (h1 : (prC P N pre).run ev.cl X = some ⟨sl, H, nid, dm⟩) (h2 : (cdC P N true b).run ev ⟨sl, H, nid + 1, dm⟩ = some ⟨e, X2⟩) : DGo P N (.seq a b) X g (opDs sl xs) nid e X2 := by
  obtain ⟨id, df, ts, rfl, hg, hd, ho⟩ := dfR_e ha
  obtain ⟨f1, k1⟩ := prC_ok hev.cl h1
  have hgo := cdC_ok hev b h2
  have f2 := hgo.fwd
  have hn1 : X.nid ≤ nid := f1.nid
  have hn2 : nid + 1 ≤ X2.nid := f2.nid
  have fwd : Fwd X X2 := by
    refine ⟨fun i g1 g2 => f2.p0 i (f1.p0 i g1 ?_) ?_, fun i g1 => f2.pm i (f1.pm i g1), by omega, fun i g1 g2 => ?_, fun i => ?_⟩
    · rcases g2 with g2 | g2
      · exact .inl g2
      · right; show nid ≤ i; omega
    · rcases g2 with g2 | g2
      · left; show i < nid + 1; omega
      · exact .inr g2
    · have := f2.p4 i g1 (by rcases g2 with g2 | g2; left; show i < nid + 1; omega; exact .inr g2)
      rw [this]
      exact f1.p4 i (f2.pm' g1) (by rcases g2 with g2 | g2; exact .inl g2; right; show nid ≤ i; omega)
    · rcases f2.p5 i with q | q
      · exact .inl q
      · rw [q]; exact f1.p5 i
  refine ⟨fwd, hn1, by omega, fun O S L Post hro hnm hdt hs hoc hL kk E β a hr => ?_⟩
  obtain ⟨Ow, OX, Of, Og, Or, Okv, Olv, Odv, Olc, Omb, Odt, Onm⟩ := O
  simp only at hro hnm hdt
  subst hro; subst hnm; subst hdt
  refine wpIn_seq (wpIn_region_lit ?_)
  refine k1 _ S L _ [df] _ E β a hs hoc (by show nid ≤ L; omega) hr fun S1 E1 β1 a1 hs1 hp1 hr1 => ?_
  refine wp_dfr hg hd ho ?_
  obtain ⟨k, bs, hnk, hbs, hbn, hball, hrel, hsub, hoc2⟩ := dfr_start (X := ⟨sl, H, nid, dm⟩) (ds := opDs sl xs) (vs := xs.map a1.eval) { target := .fn (.func g) #[], args := (xs.map a1.eval).toArray } hr1 rfl hs1 (hoc.next f1 hp1) (by show nid < L; omega) ((opDs_ok hs1 xs).rd hr1)
  have hno1 : H.at .no nid = .no := hs1.at_nid (X := ⟨sl, H, nid, dm⟩) (Nat.le_refl _) (by omega)
  have hno2 : X2.ent nid = .no := f2.p0 nid hno1 (.inl (Nat.lt_succ_self _))
  let S2 : St := ⟨S1.sl, (nid, .kept k (opDs sl xs)) :: S1.H⟩
  have hS2 : ∀ i, nid ≠ i → S2.ent i = S1.ent i := fun i hi => by simp [S2, St.ent, entL, look_cons, hi]
  have hS2k : S2.ent nid = .kept k (opDs sl xs) := by simp [S2, St.ent, entL, look_cons]
  have hw := hgo.go _ S2 L (fun e' S' => e' = e ∧ SubX _ X2 S' L ∧ Pres ⟨sl, H, nid + 1, dm⟩ X2 S2 S') (fun _ => ⟨rfl, rfl⟩) hsub hoc2 hL (fun S' hs' hp' => ⟨rfl, hs', hp'⟩) E1 β1 _ hrel
  refine wpIn_mono hw ?_
  rintro e' a' w' ⟨S', E', β', rfl, hr', rfl, hs', hp'⟩
  refine kk _ k bs (xs.map a1.eval) S' E' β' a' (by rw [hbs]) hr' hs' (hoc2.next f2 hp') hno2 (by rw [hp'.p1 nid hno1 (.inl (Nat.lt_succ_self _)), hS2k]) (fun i hi hc => ?_) hbn hball (fun i hi g1 g2 => ?_) (fun i hi g1 g2 => ?_) (fun i hi => ?_)
  · rcases hp'.p3 i with q | q
    · rw [q] at hc; cases hc
    · rw [q, hS2 i hi] at hc; exact hnk i hc
  · rw [hp'.p1 i (f1.p0 i g1 (by rcases g2 with g2 | g2; exact .inl g2; right; show nid ≤ i; omega)) (by rcases g2 with g2 | g2; left; show i < nid + 1; omega; exact .inr g2), hS2 i hi]
    exact hp1.p1 i g1 (by rcases g2 with g2 | g2; exact .inl g2; right; show nid ≤ i; omega)
  · rw [hp'.p2 i g1 (by rcases g2 with g2 | g2; left; show i < nid + 1; omega; exact .inr g2), hS2 i hi]
    exact hp1.p2 i (f2.pm' g1) (by rcases g2 with g2 | g2; exact .inl g2; right; show nid ≤ i; omega)
  · rcases hp'.p3 i with q | q
    · exact .inl q
    · rw [q, hS2 i hi]; exact hp1.p3 i
theorem CGo.seqN {y : Bool} {a b : Code} {X X1 : XS} {R : XR} (h0 : CGo P N y a X ⟨.normal, X1⟩) (h1 : CGo P N y b X1 R) : CGo P N y (.seq a b) X R := by
  refine ⟨h0.fwd.trans h1.fwd, fun O S L Q hy hs hoc hL k => ?_⟩
  have hL1 : X1.nid ≤ L := Nat.le_trans h1.fwd.nid hL
  refine iwp_seq (h0.go O S L _ hy hs hoc hL1 fun S1 hs1 hp1 => thenQ_n ?_)
  exact h1.go O S1 L Q hy hs1 (hoc.next h0.fwd hp1) hL fun S' hs' hp' => k S' hs' (hp1.trans h0.fwd h1.fwd hp')
theorem CGo.seqE {y : Bool} {a b : Code} {X X1 : XS} {e : Exit} (hne : e ≠ .normal) (h0 : CGo P N y a X ⟨e, X1⟩) : CGo P N y (.seq a b) X ⟨e, X1⟩ := by
  refine ⟨h0.fwd, fun O S L Q hy hs hoc hL k => iwp_seq (h0.go O S L _ hy hs hoc hL fun S1 hs1 hp1 => ?_)⟩
  have hq := k S1 hs1 hp1
  cases e with
  | normal => exact absurd rfl hne
  | _ => exact hq
theorem DGo.seqN {a b : Code} {X X1 X2 : XS} {g : FuncId} {ds : List D} {i0 : Nat} {e : Exit} (h0 : CGo P N true a X ⟨.normal, X1⟩) (h1 : DGo P N b X1 g ds i0 e X2) : DGo P N (.seq a b) X g ds i0 e X2 := by
  have f0 := h0.fwd
  have hn0 : X.nid ≤ X1.nid := f0.nid
  have hn1 : X1.nid ≤ X2.nid := h1.fwd.nid
  refine ⟨f0.trans h1.fwd, Nat.le_trans hn0 h1.lo, h1.hi, fun O S L Post hro hnm hdt hs hoc hL kk E β ac hr => ?_⟩
  have hw := h0.go O S L (fun e' S' => e' = .normal ∧ SubX O X1 S' L ∧ Pres X X1 S S') (fun _ => ⟨hro, hnm⟩) hs hoc (Nat.le_trans hn1 hL) (fun S' hs' hp' => ⟨rfl, hs', hp'⟩) E β ac hr
  rw [hro] at hw
  refine wpIn_seq (wpIn_mono hw ?_)
  rintro e' a' w' ⟨S1, E1, β1, rfl, hr1, rfl, hs1, hp1⟩
  refine h1.go O S1 L Post hro hnm hdt hs1 (hoc.next f0 hp1) hL (fun O' k bs vs S' E' β' a' q1 q2 q3 q4 q5 q6 q7 q8 q9 q10 q11 q12 => kk O' k bs vs S' E' β' a' q1 q2 q3 q4 q5 q6 q7 q8 q9 (fun i hi g1 g2 => ?_) (fun i hi g1 g2 => ?_) (fun i hi => ?_)) E1 β1 a' hr1
  · rw [q10 i hi (f0.p0 i g1 (by rcases g2 with g2 | g2; exact .inl g2; right; show X1.nid ≤ i; omega)) (by rcases g2 with g2 | g2; left; omega; exact .inr g2)]
    exact hp1.p1 i g1 (by rcases g2 with g2 | g2; exact .inl g2; right; show X1.nid ≤ i; omega)
  · rw [q11 i hi g1 (by rcases g2 with g2 | g2; left; omega; exact .inr g2)]
    exact hp1.p2 i (h1.fwd.pm' g1) (by rcases g2 with g2 | g2; exact .inl g2; right; show X1.nid ≤ i; omega)
  · rcases q12 i hi with q | q
    · exact .inl q
    · rw [q]; exact hp1.p3 i
theorem plain_ok {ev : EV} (hev : EvOk P ev) {c : Code} {X : XS} {r : DR} (h : (match (cdC P N true c).run ev X with
      | some R => match R with
        | ⟨e, X⟩ => some (.plain e X)
      | none => none) = some r) : DOk P N c X r := by
  split at h
  · rename_i R hR
    obtain ⟨e, X'⟩ := R
    cases h
    exact cdC_ok hev c hR
  · cases h
theorem dcC_ok {ev : EV} (hev : EvOk P ev) : ∀ (c : Code) {X : XS} {r : DR}, (dcC P N c).run ev X = some r → DOk P N c X r
  | .seq a b, X, r, h => by
    unfold dcC at h
    split at h
    · rename_i x hx
      obtain ⟨pre, g, xs⟩ := x
      dsimp only at h
      split at h
      · rename_i X1 h1
        obtain ⟨sl, H, nid, dm⟩ := X1
        dsimp only at h
        rw [rdsC_eq, fcN_eq] at h
        split at h
        · rename_i R h2
          obtain ⟨e, X2⟩ := R
          cases h
          exact dfr_here hev hx h1 h2
        · cases h
      · cases h
    · dsimp only at h
      split at h
      · rename_i R hR
        obtain ⟨e, X1⟩ := R
        have h0 := cdC_ok hev a hR
        dsimp only at h
        split at h
        · have ih := dcC_ok hev b h
          cases r with
          | plain e X2 => exact CGo.seqN h0 ih
          | dfr g ds i0 e X2 => exact DGo.seqN h0 ih
        · rename_i hne
          cases h
          exact CGo.seqE (fun h => hne h) h0
      · cases h
  | .skip, X, r, h => plain_ok hev h
  | .label _, X, r, h => plain_ok hev h
  | .exit _, X, r, h => plain_ok hev h
  | .goto _, X, r, h => plain_ok hev h
  | .ret, X, r, h => plain_ok hev h
  | .region _ _ _, X, r, h => plain_ok hev h
  | .cond _ _ _, X, r, h => plain_ok hev h
  | .block _ _, X, r, h => plain_ok hev h
  | .loop _, X, r, h => plain_ok hev h
  | .scope _, X, r, h => plain_ok hev h
  | .rangeFunc _ _ _ _, X, r, h => plain_ok hev h
  | .refuse _, X, r, h => plain_ok hev h
def enK {β : Type} (e : Exit) (q : Option β) : Option β := match e with
  | .normal => q
  | .ret => q
  | _ => none
theorem enK_e {β : Type} {r : β} {e : Exit} {q : Option β} (h : enK e q = some r) : (e = .normal ∨ e = .ret) ∧ q = some r := by
  unfold enK at h
  split at h
  · exact ⟨.inl rfl, h⟩
  · exact ⟨.inr rfl, h⟩
  · cases h
structure Db where
  run : EV → List D → XS → Option XS
def noDb : Db := ⟨fun _ _ _ => none⟩
def dbC (P : Program) (g : FuncId) : Db := match P.funcs[g]? with
  | some fn => match fn.body with
    | some c => match fn.name == "runtime.NumGoroutine" with
      | true => noDb
      | false => match fn.results.toList with
        | [] => let h := cdC P fn.ntmps false c
          ⟨fun ev ds X => match X with
            | ⟨sl, H, nid, dm⟩ => tstb (Nat.ble ds.length fn.ntmps) (bindF ds 0 .e fun s => fcN (Nat.succ nid) fun k => match h.run ev ⟨s, H, k, dm⟩ with
              | some R => match R with
                | ⟨e, X3⟩ => enK e (match X3 with
                  | ⟨_, H, nid, dm⟩ => some ⟨sl, H, nid, dm⟩)
              | none => none)⟩
        | _ => noDb
    | none => noDb
  | none => noDb
theorem dbC_e {ev : EV} (hev : EvOk P ev) {g : FuncId} {ds : List D} {X X4 : XS} (h : (dbC P g).run ev ds X = some X4) : ∃ fng cg s e X3, Callable P g ∧ P.funcs[g]? = some fng ∧ fng.body = some cg ∧ fng.results = #[] ∧ ds.length ≤ fng.ntmps ∧ (∀ k, s.at .dead k = (ds[k]?).getD .dead) ∧ CGo P fng.ntmps false cg ⟨s, X.H, X.nid + 1, X.dm⟩ ⟨e, X3⟩ ∧ (e = .normal ∨ e = .ret) ∧ X4 = ⟨X.sl, X3.H, X3.nid, X3.dm⟩ := by
  unfold dbC at h
  split at h
  · rename_i fn hf
    split at h
    · rename_i c hb
      split at h
      · cases h
      · rename_i hname
        split at h
        · rename_i hres
          obtain ⟨sl, H, nid, dm⟩ := X
          dsimp only at h
          obtain ⟨hlen, h⟩ := tstb_e h
          have hlen := Nat.le_of_ble_eq_true hlen
          obtain ⟨s, hs, h⟩ := bindF_e h
          rw [fcN_eq] at h
          split at h
          · rename_i R hR
            obtain ⟨e, X3⟩ := R
            dsimp only at h
            obtain ⟨he, h⟩ := enK_e h
            obtain ⟨sl3, H3, n3, d3⟩ := X3
            cases h
            refine ⟨fn, c, s, e, _, ⟨fn, hf, by simpa using hname, by rw [hb]; rfl⟩, hf, hb, by simpa using hres, hlen, fun k => ?_, cdC_ok hev c hR, he, rfl⟩
            rw [hs k, at_e]
            split
            · simp
            · rw [List.getElem?_eq_none (by omega)]; rfl
          · cases h
        · cases h
    · cases h
  · cases h
/-- A function that defers one call along its body. -/
def dfnC (P : Program) (f : FuncId) : Fr := match P.funcs[f]? with
  | some fn => match fn.body with
    | some c => match fn.name == "runtime.NumGoroutine" with
      | true => noF
      | false => let d := dcC P fn.ntmps c; let r := rsC P fn.results.toList
        ⟨fun ev ds H nid dm => tstb (Nat.ble ds.length fn.ntmps) (bindF ds 0 .e fun s => match d.run ev ⟨s, H, nid, dm⟩ with
          | some D => match D with
            | .plain _ _ => none
            | .dfr g as _ e X => enK e (match (dbC P g).run ev as X with
              | some X => r.run X fun rs => match X with
                | ⟨_, H, nid, dm⟩ => some ⟨retD rs, H, nid, dm⟩
              | none => none)
          | none => none)⟩
    | none => noF
  | none => noF
theorem dfnC_ok {ev : EV} (hev : EvOk P ev) {f : FuncId} {ds : List D} {H : Tt XE} {nid dm : Nat} {R : CR} (h : (dfnC P f).run ev ds H nid dm = some R) : FGo P f ds H nid dm R := by
  unfold dfnC at h
  split at h
  · rename_i fn hf
    split at h
    · rename_i c hb
      split at h
      · cases h
      · rename_i hname
        dsimp only at h
        obtain ⟨hlen, h⟩ := tstb_e h
        have hlen := Nat.le_of_ble_eq_true hlen
        obtain ⟨s, hs, h⟩ := bindF_e h
        split at h
        · rename_i D hD
          have hok := dcC_ok hev c hD
          split at h
          · cases h
          · rename_i g as i0 e X2
            obtain ⟨he, h⟩ := enK_e h
            split at h
            · rename_i X4 hX4
              obtain ⟨rs, hR, hres⟩ := rsC_e h
              obtain ⟨fng, cg, s3, e3, X3, hcal, hfg, hbg, hresg, hleng, hs3, hgo3, he3, rfl⟩ := dbC_e hev hX4
              simp only [Option.some.injEq] at hR
              subst hR
              have hok : DGo P fn.ntmps c ⟨s, H, nid, dm⟩ g as i0 e X2 := hok
              have f1 := hok.fwd
              have f3 := hgo3.fwd
              have hlo : nid ≤ i0 := hok.lo
              have hhi := hok.hi
              have hn1 : nid ≤ X2.nid := f1.nid
              have hn3 : X2.nid + 1 ≤ X3.nid := f3.nid
              refine ⟨⟨fun i g1 g2 => ?_, fun i g1 => f3.pm i (f1.pm i g1), by show nid ≤ X3.nid; omega, fun i g1 g2 => ?_, fun i => ?_⟩, ⟨fn, hf, by simpa using hname, by rw [hb]; rfl⟩, ?_⟩
              · have g2 : i < nid ∨ X3.nid ≤ i := g2
                exact f3.p0 i (f1.p0 i g1 (by show i < nid ∨ X2.nid ≤ i; omega)) (by show i < X2.nid + 1 ∨ X3.nid ≤ i; omega)
              · have g2 : i < nid ∨ X3.nid ≤ i := g2
                have a1 := f3.p4 i g1 (by show i < X2.nid + 1 ∨ X3.nid ≤ i; omega)
                have a2 := f1.p4 i (f3.pm' g1) (by show i < nid ∨ X2.nid ≤ i; omega)
                exact a1.trans a2
              · rcases f3.p5 i with q | q
                · exact .inl q
                · have := f1.p5 i
                  rcases this with q2 | q2
                  · left; exact q.trans q2
                  · right; exact q.trans q2
              intro O E β S L vs hO hdt hnm hoc hokk hsub hL hvs
              have hL : X3.nid ≤ L := hL
              have hvl := hvs.length
              let S0 : St := ⟨(List.range ds.length).zip ds, S.H⟩
              have hrel : Rel O fn.ntmps S0 E β { tmps := vs.toArray ++ Array.replicate (fn.ntmps - vs.toArray.size) undef, defers := [] } := by
                refine ⟨by simp; omega, Marks.nil hdt, hokk, fun s => ?_⟩
                have := rdl_slots hvs (fn.ntmps - vs.toArray.size) s
                exact this
              have hsub0 : SubX O ⟨s, H, nid, dm⟩ S0 L := by
                refine ⟨fun t => .inl ?_, hsub.en, hsub.fr, hsub.lim⟩
                show s.at .dead t = look .dead t ((List.range ds.length).zip ds)
                rw [hs t, look_zip, at_e]
                split
                · simp
                · rw [List.getElem?_eq_none (by omega)]; rfl
              have hoc0 : OC O ⟨s, H, nid, dm⟩ S0 := ⟨hoc.foot, hoc.dv⟩
              refine callsIn_wide (n := 0) |>.1 (callsIn_of_wp_marks hf hb trivial ?_)
              refine hok.go O S0 L _ hO hnm hdt hsub0 hoc0 (by omega) (fun O' k bs vs' S' E' β' a' q1 q2 q3 q4 q5 q6 q7 q8 q9 q10 q11 q12 => ?_) E β _ hrel
              have key := dfr_end (fn := fn) (R := fun e w' => ∃ v, e = .returned v ∧ ∃ S' E' β', E'.w = w' ∧ HOk O E' β' S'.ent ∧ Rd E' β' v (retD rs) ∧ SubX O (mkX X3.H X3.nid X3.dm) S' L ∧ Pres (mkX H nid dm) (mkX X3.H X3.nid X3.dm) S S') q1 hO hoc.foot hdt hcal hfg hbg hresg hleng hs3 hgo3 he3 q2 q3 q4 hL q6 hhi q5 q7 q8 q9 fun S5 E5 β5 hr5 hs5 p1 p2 p3 p4 => ?_
              · rcases he with rfl | rfl
                · exact key
                · exact key
              · obtain ⟨v, hv, hrd⟩ := run_retD hr5 (hres O S5 L hs5)
                refine ⟨v, hv, v, rfl, S5, E5, β5, rfl, hr5.h, hrd, ⟨fun t => .inr (at_e _ _), hs5.en, hs5.fr, hs5.lim⟩, ⟨fun i g1 g2 => ?_, fun i g1 g2 => ?_, fun i => ?_⟩⟩
                · have g2 : i < nid ∨ X3.nid ≤ i := g2
                  rw [p1 i (by omega) (f1.p0 i g1 (by show i < nid ∨ X2.nid ≤ i; omega)) (by omega), q10 i (by omega) g1 (by show i < nid ∨ X2.nid ≤ i; omega)]
                  rfl
                · have g2 : i < nid ∨ X3.nid ≤ i := g2
                  rw [p2 i (by omega) g1 (by omega), q11 i (by omega) (f3.pm' g1) (by show i < nid ∨ X2.nid ≤ i; omega)]
                  rfl
                · by_cases hi : i0 = i
                  · left; subst hi; rw [p4]; rfl
                  · rcases p3 i with q | q
                    · exact .inl q
                    · rw [q]; exact q12 i hi
            · cases h
        · cases h
    · cases h
  · cases h
end
end Go.IL
set_option linter.unusedVariables false
namespace Go.IL
/-! An evaluation that is cut into pieces: states as lists, in between. -/
inductive KX where
  | blk (e : TypeId) (ds : List D)
  | mp (l : List (Int × D))
def EnKx : KX → Ent → Prop
  | .blk e ds, s => s = .blk e ds
  | .mp l, s => s = .mp (l.map (·.1)) (l.map (·.2))
structure SubK (l : List (Nat × KX)) (sl : List (Nat × D)) (nid : Nat) (S : St) (L : Nat) : Prop where
  sl : ∀ x ∈ sl, S.get x.1 = x.2 ∨ x.2 = .dead
  en : ∀ x ∈ l, EnKx x.2 (S.ent x.1)
  fr : ∀ i, nid ≤ i → i < L → S.ent i = .fresh
  lim : L ≤ 1000000
def RKx : KX → XE → Prop
  | .blk e ds, x => ∃ c, x = .blk e ds.length c ∧ cellsT ds.length c = ds
  | .mp l, x => x = .mp l
def mkK {β : Type} : List (Nat × KX) → Tt XE → (Tt XE → Option β) → Option β
  | [], H, q => q H
  | x :: l, H, q => match x with
    | (i, nx) => match nx with
      | .blk e ds => stL ds 0 .e fun c => fcN ds.length fun n => putH i (.blk e n c) H fun H => mkK l H q
      | .mp m => putH i (.mp m) H fun H => mkK l H q
theorem mkK_e {β : Type} {r : β} {A : List (Nat × KX)} : ∀ {l : List (Nat × KX)} {H : Tt XE} {q : Tt XE → Option β}, (∀ x ∈ l, x ∈ A) → (∀ i, H.at .no i = .no ∨ ∃ nx, (i, nx) ∈ A ∧ RKx nx (H.at .no i)) → mkK l H q = some r → ∃ H', (∀ i, H'.at .no i = .no ∨ ∃ nx, (i, nx) ∈ A ∧ RKx nx (H'.at .no i)) ∧ q H' = some r
  | [], H, q, _, hH, h => ⟨H, hH, h⟩
  | (i, .blk e ds) :: l, H, q, hA, hH, h => by
    simp only [mkK] at h
    obtain ⟨c, hc, h⟩ := stL_e h
    rw [fcN_eq] at h
    obtain ⟨H1, hH1, _, h⟩ := putH_e h
    refine mkK_e (fun x hx => hA x (by simp [hx])) (fun j => ?_) h
    rw [hH1 j]
    by_cases hj : i = j
    · subst hj
      rw [if_pos rfl]
      exact .inr ⟨.blk e ds, hA _ (by simp), c, rfl, cells_of hc⟩
    · rw [if_neg hj]; exact hH j
  | (i, .mp m) :: l, H, q, hA, hH, h => by
    simp only [mkK] at h
    obtain ⟨H1, hH1, _, h⟩ := putH_e h
    refine mkK_e (fun x hx => hA x (by simp [hx])) (fun j => ?_) h
    rw [hH1 j]
    by_cases hj : i = j
    · subst hj
      rw [if_pos rfl]
      exact .inr ⟨.mp m, hA _ (by simp), rfl⟩
    · rw [if_neg hj]; exact hH j
def slK {β : Type} : List (Nat × D) → Tt D → (Tt D → Option β) → Option β
  | [], s, q => q s
  | x :: l, s, q => match x with
    | (t, d) => tstb (Nat.blt t 4000) (fcT ((stC .dead 12 t).run s d) fun s => slK l s q)
theorem slK_e {β : Type} {r : β} {A : List (Nat × D)} : ∀ {l : List (Nat × D)} {s : Tt D} {q : Tt D → Option β}, (∀ x ∈ l, x ∈ A) → (∀ t, s.at .dead t = .dead ∨ (t, s.at .dead t) ∈ A) → slK l s q = some r → ∃ s', (∀ t, s'.at .dead t = .dead ∨ (t, s'.at .dead t) ∈ A) ∧ q s' = some r
  | [], s, q, _, hs, h => ⟨s, hs, h⟩
  | (t, d) :: l, s, q, hA, hs, h => by
    simp only [slK, fcT_eq] at h
    obtain ⟨h1, h⟩ := tstb_e h
    rw [Nat.blt_eq] at h1
    refine slK_e (fun x hx => hA x (by simp [hx])) (fun j => ?_) h
    rw [stC_at _ _ _ _ _ _ (by omega)]
    by_cases hj : t = j
    · subst hj; rw [if_pos rfl]; exact .inr (hA _ (by simp))
    · rw [if_neg hj]; exact hs j
theorem subX_of {O : Origin} {l : List (Nat × KX)} {sls : List (Nat × D)} {nid dm : Nat} {S : St} {L : Nat} {H : Tt XE} {s : Tt D} (hs : SubK l sls nid S L) (hH : ∀ i, H.at .no i = .no ∨ ∃ nx, (i, nx) ∈ l ∧ RKx nx (H.at .no i)) (hsl : ∀ t, s.at .dead t = .dead ∨ (t, s.at .dead t) ∈ sls) : SubX O ⟨s, H, nid, dm⟩ S L := by
  refine ⟨fun t => ?_, fun i => ?_, hs.fr, hs.lim⟩
  · rcases hsl t with h | h
    · exact .inr h
    · rcases hs.sl _ h with g | g
      · exact .inl g.symm
      · exact .inr g
  · show EnR O (H.at .no i) _
    rcases hH i with h | ⟨nx, h1, h2⟩
    · rw [h]; trivial
    · have h3 := hs.en _ h1
      cases nx with
      | blk e ds =>
        obtain ⟨c, g1, g2⟩ := h2
        rw [g1]
        show _ = _
        rw [g2]; exact h3
      | mp m =>
        rw [show H.at .no i = .mp m from h2]
        exact h3
def nmK : List Nat → Tt XE → Option (List (Nat × KX))
  | [], _ => some []
  | i :: is, H => (gkC .no 20 i).run H fun x => match x with
    | .blk e n c => ldF c n 0 fun ds => match nmK is H with
      | some l => some ((i, .blk e ds) :: l)
      | none => none
    | .mp m => match nmK is H with
      | some l => some ((i, .mp m) :: l)
      | none => none
    | _ => none
theorem nmK_e {O : Origin} {X : XS} {S : St} {L : Nat} (hs : SubX O X S L) : ∀ {is : List Nat} {l : List (Nat × KX)}, nmK is X.H = some l → ∀ x ∈ l, EnKx x.2 (S.ent x.1)
  | [], l, h => by cases h; exact fun x hx => by cases hx
  | i :: is, l, h => by
    simp only [nmK, gkC_at] at h
    split at h
    · rename_i e n c hx
      rw [ldF_eq] at h
      split at h
      · rename_i l' hl
        cases h
        intro x hxm
        rcases List.mem_cons.1 hxm with rfl | hxm
        · have := hs.blk (id := i) hx
          show S.ent i = _
          rw [this, cellsT, List.range_eq_range']
        · exact nmK_e hs hl x hxm
      · cases h
    · rename_i m hx
      split at h
      · rename_i l' hl
        cases h
        intro x hxm
        rcases List.mem_cons.1 hxm with rfl | hxm
        · exact hs.mp (id := i) hx
        · exact nmK_e hs hl x hxm
      · cases h
    · cases h
def nsK (ts : List Nat) (s : Tt D) : List (Nat × D) := ts.map fun t => (t, s.at .dead t)
end Go.IL
set_option linter.unusedVariables false
namespace Go.IL
/-! Pieces, joined. -/
structure KO (O : Origin) : Prop where
  ro : O.round = none
  nm : O.nm = false
  ft : O.FootOk
structure KS where
  l : List (Nat × KX)
  s : List (Nat × D)
  n : Nat
abbrev KSub (K : KS) (S : St) (L : Nat) : Prop := SubK K.l K.s K.n S L
/-- Marks of the frames that wait stand under names that are not looked at. -/
def KC (O : Origin) (K : KS) (S : St) : Prop := ∀ j, O.dv j = [] ∨ ∃ i ds, i < K.n ∧ (∀ x ∈ K.l, x.1 ≠ i) ∧ S.ent i = .kept j ds
structure KFw (K K' : KS) : Prop where
  le : K.n ≤ K'.n
  old : ∀ x ∈ K'.l, x.1 < K.n ∨ K'.n ≤ x.1 → ∃ y ∈ K.l, y.1 = x.1
structure KPr (K K' : KS) (S S' : St) : Prop where
  p1 : ∀ i, (∀ x ∈ K.l, x.1 ≠ i) → (i < K.n ∨ K'.n ≤ i) → S'.ent i = S.ent i
  p3 : ∀ i, (S'.ent i).num = none ∨ (S'.ent i).num = (S.ent i).num
theorem KFw.refl (K : KS) : KFw K K := ⟨Nat.le_refl _, fun x hx _ => ⟨x, hx, rfl⟩⟩
theorem KFw.trans {A B C : KS} (h : KFw A B) (g : KFw B C) : KFw A C := by
  refine ⟨Nat.le_trans h.le g.le, fun x hx hn => ?_⟩
  have h1 := h.le
  have h2 := g.le
  obtain ⟨y, hy, e1⟩ := g.old x hx (by omega)
  obtain ⟨z, hz, e2⟩ := h.old y hy (by omega)
  exact ⟨z, hz, e2.trans e1⟩
theorem KPr.refl (K : KS) (S : St) : KPr K K S S := ⟨fun _ _ _ => rfl, fun _ => .inr rfl⟩
theorem KPr.trans {A B C : KS} {S T U : St} (hf : KFw A B) (gf : KFw B C) (h : KPr A B S T) (g : KPr B C T U) : KPr A C S U := by
  have h1 := hf.le
  have h2 := gf.le
  refine ⟨fun i hi hn => ?_, fun i => ?_⟩
  · have hb : ∀ x ∈ B.l, x.1 ≠ i := fun x hx e => by
      subst e
      obtain ⟨y, hy, e⟩ := hf.old x hx (by omega)
      exact hi y hy e
    rw [g.p1 i hb (by omega), h.p1 i hi (by omega)]
  · rcases g.p3 i with e | e
    · exact .inl e
    · rw [e]; exact h.p3 i
theorem KC.next {O : Origin} {K K' : KS} {S S' : St} (h : KC O K S) (hf : KFw K K') (hp : KPr K K' S S') : KC O K' S' := fun j => by
  rcases h j with h1 | ⟨i, ds, h1, h2, h3⟩
  · exact .inl h1
  · refine .inr ⟨i, ds, Nat.lt_of_lt_of_le h1 hf.le, fun x hx e => ?_, by rw [hp.p1 i h2 (.inl h1)]; exact h3⟩
    subst e
    obtain ⟨y, hy, e⟩ := hf.old x hx (.inl h1)
    exact h2 y hy e
structure KGo (P : Program) (N : Nat) (c : Code) (K : KS) (e : Exit) (K' : KS) : Prop where
  fw : KFw K K'
  go : ∀ (O : Origin) (S : St) (L : Nat) (Q : Exit → St → Prop), KO O → KC O K S → KSub K S L → K'.n ≤ L → (∀ S', KSub K' S' L → KPr K K' S S' → Q e S') → IWP P O N c S Q
/-- Rounds of a loop. -/
structure KLp (P : Program) (N : Nat) (c : Code) (K : KS) (e : Option Exit) (K' : KS) : Prop where
  fw : KFw K K'
  go : ∀ (O : Origin) (S : St) (L : Nat) (Q : Exit → St → Prop), KO O → KC O K S → KSub K S L → K'.n ≤ L → (∀ S', KSub K' S' L → KPr K K' S S' → match e with
    | none => LG P O N c Q S'
    | some e => Q e S') → LG P O N c Q S
/-- From a code at one state to another code at another. -/
structure KTo (P : Program) (N : Nat) (c : Code) (K : KS) (c' : Code) (K' : KS) : Prop where
  fw : KFw K K'
  go : ∀ (O : Origin) (S : St) (L : Nat) (Q : Exit → St → Prop), KO O → KC O K S → KSub K S L → K'.n ≤ L → (∀ S', KSub K' S' L → KPr K K' S S' → IWP P O N c' S' Q) → IWP P O N c S Q
def inK {β : Type} (K : KS) (q : XS → Option β) : Option β := mkK K.l .e fun H => slK K.s .e fun s => q ⟨s, H, K.n, 0⟩
def outK (ids ts : List Nat) (X : XS) : Option KS := match X with
  | ⟨s1, H1, n1, _⟩ => match nmK ids H1 with
    | some l => some ⟨l, nsK ts s1, n1⟩
    | none => none
def pieceE (P : Program) (N : Nat) (c : Code) (ev : EV) (ids ts : List Nat) (K : KS) : Option (Exit × KS) := inK K fun X => match (cdC P N true c).run ev X with
  | some R => match R with
    | ⟨e, X⟩ => match outK ids ts X with
      | some K => some (e, K)
      | none => none
  | none => none
def rdX (f : XS → Option XR) : Nat → XS → Option XS
  | 0, X => some X
  | n + 1, X => match f X with
    | some R => match R with
      | ⟨e, X⟩ => match e with
        | .normal => rdX f n X
        | _ => none
    | none => none
def pieceL (P : Program) (N : Nat) (c : Code) (ev : EV) (n : Nat) (ids ts : List Nat) (K : KS) : Option KS := inK K fun X => let g := cdC P N true c; match rdX (fun X => g.run ev X) n X with
  | some X => outK ids ts X
  | none => none
def seqX (P : Program) (N : Nat) (ev : EV) : Nat → Code → XS → Option XS
  | 0, _, X => some X
  | n + 1, c, X => match c with
    | .seq a b => match (cdC P N true a).run ev X with
      | some R => match R with
        | ⟨e, X⟩ => match e with
          | .normal => seqX P N ev n b X
          | _ => none
      | none => none
    | _ => none
def cTl : Nat → Code → Code
  | 0, c => c
  | n + 1, c => match c with
    | .seq _ b => cTl n b
    | c => c
def pieceS (P : Program) (N : Nat) (c : Code) (ev : EV) (n : Nat) (ids ts : List Nat) (K : KS) : Option KS := inK K fun X => match seqX P N ev n c X with
  | some X => outK ids ts X
  | none => none
theorem nmK_ne : ∀ {is : List Nat} {l : List (Nat × KX)} {H : Tt XE}, nmK is H = some l → ∀ x ∈ l, H.at .no x.1 ≠ .no
  | [], l, H, h => by cases h; exact fun x hx => by cases hx
  | i :: is, l, H, h => by
    simp only [nmK, gkC_at] at h
    split at h
    · rename_i e n c hx
      rw [ldF_eq] at h
      split at h
      · rename_i l' hl
        cases h
        intro x hxm
        rcases List.mem_cons.1 hxm with rfl | hxm
        · show H.at .no i ≠ .no
          rw [hx]; exact fun h9 => by cases h9
        · exact nmK_ne hl x hxm
      · cases h
    · rename_i m hx
      split at h
      · rename_i l' hl
        cases h
        intro x hxm
        rcases List.mem_cons.1 hxm with rfl | hxm
        · show H.at .no i ≠ .no
          rw [hx]; exact fun h9 => by cases h9
        · exact nmK_ne hl x hxm
      · cases h
    · cases h
/-- A state that was built out of a list. -/
structure KX0 (K : KS) (X : XS) : Prop where
  nid : X.nid = K.n
  sub : ∀ O S L, KSub K S L → SubX O X S L
  no : ∀ i, (∀ x ∈ K.l, x.1 ≠ i) → X.ent i = .no
/-- A list that was read off a state. -/
structure KX1 (K : KS) (X : XS) : Prop where
  nid : K.n = X.nid
  sub : ∀ O S L, SubX O X S L → KSub K S L
  ne : ∀ x ∈ K.l, X.ent x.1 ≠ .no
section
variable {P : Program} {N : Nat} {c a b : Code} {ev : EV} {K K' K1 : KS} {e : Exit} {ids ts : List Nat}
theorem inK_e {β : Type} {q : XS → Option β} {r : β} (h : inK K q = some r) : ∃ X, KX0 K X ∧ q X = some r := by
  unfold inK at h
  obtain ⟨H, hH, h⟩ := mkK_e (A := K.l) (fun _ h => h) (fun i => .inl (at_e _ _)) h
  obtain ⟨s, hsl, h⟩ := slK_e (A := K.s) (fun _ h => h) (fun t => .inl (at_e _ _)) h
  refine ⟨_, ⟨rfl, fun O S L hs => subX_of hs hH hsl, fun i hi => ?_⟩, h⟩
  rcases hH i with h1 | ⟨nx, h1, _⟩
  · exact h1
  · exact absurd rfl (hi _ h1)
theorem outK_e {X : XS} (h : outK ids ts X = some K) : KX1 K X := by
  obtain ⟨s1, H1, n1, d1⟩ := X
  simp only [outK] at h
  split at h
  · rename_i l hl
    cases h
    refine ⟨rfl, fun O S L hs => ⟨fun x hx => ?_, nmK_e hs hl, hs.fr, hs.lim⟩, fun x hx => nmK_ne hl x hx⟩
    obtain ⟨t, _, rfl⟩ := List.mem_map.1 hx
    rcases hs.sl t with g | g
    · exact .inl g.symm
    · exact .inr g
  · cases h
theorem KX0.oc {X : XS} (h : KX0 K X) {O : Origin} {S : St} (ho : KO O) (hc : KC O K S) : OC O X S := ⟨ho.ft, fun j => by
  rcases hc j with h1 | ⟨i, ds, h1, h2, h3⟩
  · exact .inl h1
  · exact .inr ⟨i, ds, by rw [h.nid]; exact h1, h.no i h2, h3⟩⟩
theorem kfw_of {X X' : XS} (h0 : KX0 K X) (h1 : KX1 K' X') (hf : Fwd X X') : KFw K K' := by
  refine ⟨by rw [← h0.nid, h1.nid]; exact hf.nid, fun x hx hn => ?_⟩
  refine Classical.byContradiction fun hc => ?_
  have hx0 : X.ent x.1 = .no := h0.no x.1 fun y hy e => hc ⟨y, hy, e⟩
  exact h1.ne x hx (hf.p0 x.1 hx0 (by rw [h0.nid, ← h1.nid]; exact hn))
theorem kpr_of {X X' : XS} {S S' : St} (h0 : KX0 K X) (h1 : KX1 K' X') (hp : Pres X X' S S') : KPr K K' S S' :=
  ⟨fun i hi hn => hp.p1 i (h0.no i hi) (by rw [h0.nid, ← h1.nid]; exact hn), hp.p3⟩
theorem kg_piece (hev : EvOk P ev) (ids ts : List Nat) (h : pieceE P N c ev ids ts K = some (e, K')) : KGo P N c K e K' := by
  obtain ⟨X, h0, h⟩ := inK_e h
  try dsimp only at h
  split at h
  · rename_i R hR
    obtain ⟨e1, X1⟩ := R
    try dsimp only at h
    split at h
    · rename_i K2 hK
      cases h
      have h1 := outK_e hK
      have hg := cdC_ok hev c hR
      refine ⟨kfw_of h0 h1 hg.fwd, fun O S L Q ho hc hs hL k => ?_⟩
      exact hg.go O S L Q (fun _ => ⟨ho.ro, ho.nm⟩) (h0.sub O S L hs) (h0.oc ho hc) (by rw [← h1.nid]; exact hL) fun S' hs' hp => k S' (h1.sub O S' L hs') (kpr_of h0 h1 hp)
    · cases h
  · cases h
theorem rdX_ok {f : XS → Option XR} (hf : ∀ X R, f X = some R → CGo P N true c X R) : ∀ (n : Nat) {X X' : XS}, rdX f n X = some X' → Fwd X X' ∧ ∀ (O : Origin) (S : St) (L : Nat) (Q : Exit → St → Prop), KO O → SubX O X S L → OC O X S → X'.nid ≤ L → (∀ S', SubX O X' S' L → Pres X X' S S' → LG P O N c Q S') → LG P O N c Q S
  | 0, X, X', h => by
    cases h
    exact ⟨Fwd.refl _, fun O S L Q _ hs _ _ k => k S hs (Pres.refl _ _)⟩
  | n + 1, X, X', h => by
    simp only [rdX] at h
    try dsimp only at h
    split at h
    · rename_i R0 hx
      obtain ⟨e0, X1⟩ := R0
      have h0 := hf _ _ hx
      try dsimp only at h
      split at h
      · obtain ⟨ih1, ih2⟩ := rdX_ok hf n h
        refine ⟨h0.fwd.trans ih1, fun O S L Q ho hs hoc hL k => ?_⟩
        exact lg_round (h0.go O S L _ (fun _ => ⟨ho.ro, ho.nm⟩) hs hoc (Nat.le_trans ih1.nid hL) fun S1 hs1 hp1 => thenQ_n (ih2 O S1 L Q ho hs1 (hoc.next h0.fwd hp1) hL fun S' hs' hp' => k S' hs' (hp1.trans h0.fwd ih1 hp')))
      · cases h
    · cases h
theorem kl_piece (hev : EvOk P ev) (n : Nat) (ids ts : List Nat) (h : pieceL P N c ev n ids ts K = some K') : KLp P N c K none K' := by
  obtain ⟨X, h0, h⟩ := inK_e h
  try dsimp only at h
  split at h
  · rename_i X1 hR
    have h1 := outK_e h
    obtain ⟨g1, g2⟩ := rdX_ok (fun X R hx => cdC_ok hev c hx) n hR
    refine ⟨kfw_of h0 h1 g1, fun O S L Q ho hc hs hL k => ?_⟩
    exact g2 O S L Q ho (h0.sub O S L hs) (h0.oc ho hc) (by rw [← h1.nid]; exact hL) fun S' hs' hp => k S' (h1.sub O S' L hs') (kpr_of h0 h1 hp)
  · cases h
theorem seqX_ok (hev : EvOk P ev) : ∀ (n : Nat) {c : Code} {X X' : XS}, seqX P N ev n c X = some X' → Fwd X X' ∧ ∀ (O : Origin) (S : St) (L : Nat) (Q : Exit → St → Prop), KO O → SubX O X S L → OC O X S → X'.nid ≤ L → (∀ S', SubX O X' S' L → Pres X X' S S' → IWP P O N (cTl n c) S' Q) → IWP P O N c S Q
  | 0, c, X, X', h => by
    cases h
    exact ⟨Fwd.refl _, fun O S L Q _ hs _ _ k => k S hs (Pres.refl _ _)⟩
  | n + 1, c, X, X', h => by
    simp only [seqX] at h
    try dsimp only at h
    split at h
    · rename_i a b
      try dsimp only at h
      split at h
      · rename_i R0 hx
        obtain ⟨e0, X1⟩ := R0
        have h0 := cdC_ok hev a hx
        try dsimp only at h
        split at h
        · obtain ⟨ih1, ih2⟩ := seqX_ok hev n h
          refine ⟨h0.fwd.trans ih1, fun O S L Q ho hs hoc hL k => ?_⟩
          exact iwp_seq (h0.go O S L _ (fun _ => ⟨ho.ro, ho.nm⟩) hs hoc (Nat.le_trans ih1.nid hL) fun S1 hs1 hp1 => thenQ_n (ih2 O S1 L Q ho hs1 (hoc.next h0.fwd hp1) hL fun S' hs' hp' => k S' hs' (hp1.trans h0.fwd ih1 hp')))
        · cases h
      · cases h
    · cases h
theorem kt_piece (hev : EvOk P ev) (n : Nat) (ids ts : List Nat) (h : pieceS P N c ev n ids ts K = some K') : KTo P N c K (cTl n c) K' := by
  obtain ⟨X, h0, h⟩ := inK_e h
  try dsimp only at h
  split at h
  · rename_i X1 hR
    have h1 := outK_e h
    obtain ⟨g1, g2⟩ := seqX_ok hev n hR
    refine ⟨kfw_of h0 h1 g1, fun O S L Q ho hc hs hL k => ?_⟩
    exact g2 O S L Q ho (h0.sub O S L hs) (h0.oc ho hc) (by rw [← h1.nid]; exact hL) fun S' hs' hp => k S' (h1.sub O S' L hs') (kpr_of h0 h1 hp)
  · cases h
theorem kg_seq (h : KGo P N a K .normal K1) (g : KGo P N b K1 e K') : KGo P N (.seq a b) K e K' :=
  ⟨h.fw.trans g.fw, fun O S L Q ho hc hs hL k => iwp_seq (h.go O S L _ ho hc hs (Nat.le_trans g.fw.le hL) fun S1 hs1 hp1 => thenQ_n (g.go O S1 L Q ho (hc.next h.fw hp1) hs1 hL fun S' hs' hp' => k S' hs' (hp1.trans h.fw g.fw hp')))⟩
theorem kg_block {i : Nat} (h : KGo P N c K (.exit i) K') : KGo P N (.block i c) K .normal K' :=
  ⟨h.fw, fun O S L Q ho hc hs hL k => iwp_block (h.go O S L _ ho hc hs hL fun S1 hs1 hp1 => blockQ_e (k S1 hs1 hp1))⟩
theorem kg_blockn {i : Nat} (h : KGo P N c K .normal K') : KGo P N (.block i c) K .normal K' :=
  ⟨h.fw, fun O S L Q ho hc hs hL k => iwp_block (h.go O S L _ ho hc hs hL fun S1 hs1 hp1 => blockQ_n (k S1 hs1 hp1))⟩
theorem kg_loop (h : KLp P N c K (some e) K') : KGo P N (.loop c) K e K' :=
  ⟨h.fw, fun O S L Q ho hc hs hL k => iwp_loop_of (h.go O S L Q ho hc hs hL k)⟩
theorem kl_trans {e : Option Exit} (h : KLp P N c K none K1) (g : KLp P N c K1 e K') : KLp P N c K e K' :=
  ⟨h.fw.trans g.fw, fun O S L Q ho hc hs hL k => h.go O S L Q ho hc hs (Nat.le_trans g.fw.le hL) fun S1 hs1 hp1 => g.go O S1 L Q ho (hc.next h.fw hp1) hs1 hL fun S' hs' hp' => k S' hs' (hp1.trans h.fw g.fw hp')⟩
theorem kl_round (h : KGo P N c K .normal K') : KLp P N c K none K' :=
  ⟨h.fw, fun O S L Q ho hc hs hL k => lg_round (h.go O S L _ ho hc hs hL fun S1 hs1 hp1 => thenQ_n (k S1 hs1 hp1))⟩
theorem kl_end {i : Nat} (h : KGo P N c K (.exit i) K') : KLp P N c K (some (.exit i)) K' :=
  ⟨h.fw, fun O S L Q ho hc hs hL k => lg_round (h.go O S L _ ho hc hs hL fun S1 hs1 hp1 => k S1 hs1 hp1)⟩
theorem KTo.trans {c' c'' : Code} {K'' : KS} (h : KTo P N c K c' K') (g : KTo P N c' K' c'' K'') : KTo P N c K c'' K'' :=
  ⟨h.fw.trans g.fw, fun O S L Q ho hc hs hL k => h.go O S L Q ho hc hs (Nat.le_trans g.fw.le hL) fun S1 hs1 hp1 => g.go O S1 L Q ho (hc.next h.fw hp1) hs1 hL fun S' hs' hp' => k S' hs' (hp1.trans h.fw g.fw hp')⟩
theorem KTo.end {c' : Code} {K'' : KS} (h : KTo P N c K c' K') (g : KGo P N c' K' e K'') : KGo P N c K e K'' :=
  ⟨h.fw.trans g.fw, fun O S L Q ho hc hs hL k => h.go O S L Q ho hc hs (Nat.le_trans g.fw.le hL) fun S1 hs1 hp1 => g.go O S1 L Q ho (hc.next h.fw hp1) hs1 hL fun S' hs' hp' => k S' hs' (hp1.trans h.fw g.fw hp')⟩
theorem kt_seq (h : KGo P N a K .normal K') : KTo P N (.seq a b) K b K' :=
  ⟨h.fw, fun O S L Q ho hc hs hL k => iwp_seq (h.go O S L _ ho hc hs hL fun S1 hs1 hp1 => thenQ_n (k S1 hs1 hp1))⟩
/-- A closed call whose body was cut. -/
theorem pure_of_kgo {f : FuncId} {fn : Func} (hf : P.funcs[f]? = some fn) (hb : fn.body = some c) (hN : fn.ntmps = N) {t : Nat} (hres : fn.results = #[.tmp t]) {d : D} {rest : List (Nat × D)} (h : KGo P N c ⟨[], [], 0⟩ .ret K') (hs : K'.s = (t, d) :: rest) (hp : d.refsIn noRef = true) (hd : d ≠ .dead) (hn : Nat.ble K'.n 1000000 = true) : PureAt P f [] d := by
  subst hN
  intro E vs hX hvs
  cases hvs
  let O : Origin := ⟨E.w, E.X, fun _ => False, β0, none, fun _ => [], fun _ => 0, fun _ => [], fun _ => (#[], .skip, .skip), E.w.heap.size, [], false⟩
  have hft : O.FootOk := ⟨Nat.le_refl _, fun _ _ h => h⟩
  have hok : HOk O E β0 (entL []) := init_hok hX
  have hrel : Rel O fn.ntmps ⟨[], []⟩ E β0 { tmps := [].toArray ++ Array.replicate (fn.ntmps - ([] : List Value).toArray.size) undef, defers := [] } := by
    refine ⟨by simp, Marks.nil rfl, hok, fun s => ?_⟩
    exact .dead _ _
  have hsub : KSub ⟨[], [], 0⟩ ⟨[], []⟩ 1000000 := by
    refine ⟨fun x hx => (by cases hx), fun x hx => (by cases hx), fun i _ h2 => ?_, Nat.le_refl _⟩
    show defE i = .fresh
    unfold defE; rw [if_neg (by omega)]
  refine calls_of_iwp (E := E) (O := O) hf hb rfl hft rfl hrel (h.go O _ 1000000 (fun e' S' => e' = .ret ∧ KSub K' S' 1000000) ⟨rfl, rfl, hft⟩ (fun _ => .inl rfl) hsub (Nat.le_of_ble_eq_true hn) fun S' hs' _ => ⟨rfl, hs'⟩) ?_
  rintro e' S' E' β' a' hr' ⟨rfl, hs'⟩
  refine ⟨.inr rfl, ?_⟩
  have hsv : SV S' (.tmp t) d := by
    rcases hs'.sl (t, d) (by rw [hs]; simp) with g | g
    · exact IL.sv g
    · exact absurd g hd
  obtain ⟨v, hv, hrd⟩ := run_retD hr' (show ResVs P S' fn.results.toList [d] by rw [hres]; exact .cons hsv .nil)
  have hok' := hr'.h
  refine ⟨v, hv, v, rfl, ⟨hok'.os, hok'.tape, hok'.output, hok'.size, fun k hk => hok'.block k hk (fun h => h)⟩, ?_⟩
  have hxx : E'.le ⟨E'.w, E.X⟩ := by
    constructor
    · intro b o v hc hx
      refine ⟨hc, fun hX' => hx ?_⟩
      exact (hok'.xold b o (hX.xlt b o hX') (fun h => h)).2 hX'
    · intro b c e f hc; exact ⟨c, f, hc, rfl⟩
  exact Rd.mono hxx (Names.le.refl _) (hrd.bare hp)
end
/-- A part of a code: 0 the first half (or what stands in it), 1 the second. -/
def Code.part : Code → List Nat → Code
  | c, [] => c
  | c, i :: l => match c with
    | .seq a b => match i with
      | 0 => Code.part a l
      | _ => Code.part b l
    | .cond _ a b => match i with
      | 0 => Code.part a l
      | _ => Code.part b l
    | .block _ a => Code.part a l
    | .loop a => Code.part a l
    | c => c
def bodyOf (P : Program) (f : FuncId) : Code := match P.funcs[f]? with
  | some fn => match fn.body with
    | some c => c
    | none => .skip
  | none => .skip
end Go.IL
set_option linter.unusedVariables false
namespace Go.IL
/-! A function without arguments that is known by its contract. -/
def cstF (d : D) : Fr := ⟨fun _ ds H nid dm => match ds with
  | [] => some ⟨d, H, nid, dm⟩
  | _ => none⟩
theorem cstF_ok {P : Program} {f : FuncId} {d : D} (hc : Callable P f) (h : PureAt P f [] d) {ev : EV} {ds : List D} {H : Tt XE} {nid dm : Nat} {R : CR} (hr : (cstF d).run ev ds H nid dm = some R) : FGo P f ds H nid dm R := by
  cases ds with
  | cons => cases hr
  | nil =>
    cases hr
    refine ⟨Fwd.refl _, hc, fun O E β S L vs hO hdt hnm hoc hok hsub hL hvs => ?_⟩
    cases hvs
    refine (h E [] hok.good (.nil _)).mono ?_
    rintro e w' ⟨v, rfl, hb, hrd⟩
    exact ⟨v, rfl, S, ⟨w', E.X⟩, β, rfl, hok.below hb, hrd.up, hsub, Pres.refl _ _⟩
def fxA (f : FuncId) : Option Fr := match Nat.beq f 4 with
  | true => some (cstF (.bool true))
  | false => none
theorem fxA_ok {P : Program} (hc : Callable P 4) (h : PureAt P 4 [] (.bool true)) : FxOk P fxA := by
  intro f g hg ev hev ds H nid dm R hr
  unfold fxA at hg
  split at hg
  · rename_i hf
    have hf := Nat.eq_of_beq_eq_true hf
    subst hf
    cases hg
    exact cstF_ok hc h hr
  · cases hg
/-- One function that may defer, or end ahead of it. -/
def altF (a b : Fr) : Fr := ⟨fun ev ds H nid dm => match a.run ev ds H nid dm with
  | some R => some R
  | none => b.run ev ds H nid dm⟩
def fxE (P : Program) (k : FuncId) (f : FuncId) : Option Fr := match Nat.beq f k with
  | true => some (altF (dfnC P f) (fnC P f))
  | false => none
theorem fxE_ok {P : Program} (k : FuncId) : FxOk P (fxE P k) := by
  intro f g hg ev hev ds H nid dm R h
  unfold fxE at hg
  split at hg
  · cases hg
    simp only [altF] at h
    split at h
    · rename_i R' hR
      cases h
      exact dfnC_ok hev hR
    · exact fnC_ok hev h
  · cases hg
/-- Does a piece end the function, with 'true' in slot t? -/
def truK (t : Nat) (x : Option (Exit × KS)) : Bool := match x with
  | some (.ret, ⟨_, (t', .bool true) :: _, n⟩) => Nat.beq t t' && Nat.ble n 1000000
  | _ => false
theorem truK_e {t : Nat} {x : Option (Exit × KS)} (h : truK t x = true) : ∃ K rest, x = some (.ret, K) ∧ K.s = (t, .bool true) :: rest ∧ Nat.ble K.n 1000000 = true := by
  unfold truK at h
  split at h
  · rename_i l t' rest n
    rw [Bool.and_eq_true] at h
    have h1 := Nat.eq_of_beq_eq_true h.1
    subst h1
    exact ⟨_, rest, rfl, rfl, h.2⟩
  · cases h
theorem SubK.set {l : List (Nat × KX)} {sl : List (Nat × D)} {nid : Nat} {S : St} {L : Nat} (h : SubK l sl nid S L) (t : Nat) (d : D) (hn : ∀ x ∈ sl, x.1 ≠ t) : SubK l sl nid (S.set t d) L := by
  refine ⟨fun x hx => ?_, h.en, h.fr, h.lim⟩
  have h1 := h.sl x hx
  rwa [show (S.set t d).get x.1 = S.get x.1 by simp [St.get, St.set, look_cons, (hn x hx).symm]]
section
variable {P : Program} {N : Nat} {ev : EV} {c : Code} {K K' : KS}
/-- A piece that ends the function. -/
theorem iwp_tru (hev : EvOk P ev) {t : Nat} (h : truK t (pieceE P N c ev [] [t] K) = true) {O : Origin} {S : St} (ho : KO O) (hc : KC O K S) (hs : KSub K S 1000000) : IWP P O N c S (fun e S => e = .ret ∧ ResVs P S [.tmp t] [.bool true]) := by
  obtain ⟨K', rest, h1, h2, h3⟩ := truK_e h
  have hg := kg_piece hev [] [t] h1
  refine hg.go O S 1000000 _ ho hc hs (Nat.le_of_ble_eq_true h3) fun S' hs' _ => ⟨rfl, .cons ?_ .nil⟩
  rcases hs'.sl (t, .bool true) (by rw [h2]; simp) with g | g
  · exact IL.sv g
  · cases g
/-- Some operations ahead of others. -/
theorem rg_pre (hev : EvOk P ev) {ops : Array Oper} : ∀ {l1 : List Oper} {X X1 : XS}, l1.all (fun o => o.guard.isNone) = true → (rgC P N true ops l1).run ev X = some X1 → Fwd X X1 ∧ ∀ (O : Origin) (S : St) (L : Nat) (l2 : List Oper) (Q : Exit → St → Prop), KO O → SubX O X S L → OC O X S → X1.nid ≤ L → (∀ S', SubX O X1 S' L → Pres X X1 S S' → ILS P O N ops l2 S' Q) → ILS P O N ops (l1 ++ l2) S Q
  | [], X, X1, _, h => by
    cases h
    exact ⟨Fwd.refl _, fun O S L l2 Q _ hs _ _ k => k S hs (Pres.refl _ _)⟩
  | o :: l1, X, X1, hg, h => by
    rw [List.all_cons, Bool.and_eq_true] at hg
    obtain ⟨hg1, hg2⟩ := hg
    have hg1 : o.guard = none := by cases ho : o.guard with
      | none => rfl
      | some x => rw [ho] at hg1; cases hg1
    simp only [rgC] at h
    try dsimp only at h
    split at h
    · simp only at h
      try dsimp only at h
      split at h
      · rename_i X2 h1
        obtain ⟨hfw, hgo⟩ := opY_ok hev hg1 h1
        obtain ⟨ih1, ih2⟩ := rg_pre hev hg2 h
        refine ⟨hfw.trans ih1, fun O S L l2 Q ho hs hoc hL k => ?_⟩
        exact hgo O S L ops (l1 ++ l2) Q (fun _ => ⟨ho.ro, ho.nm⟩) hs hoc (Nat.le_trans ih1.nid hL) fun S1 hs1 hp1 => ih2 O S1 L l2 Q ho hs1 (hoc.next hfw hp1) hL fun S' hs' hp' => k S' hs' (hp1.trans hfw ih1 hp')
      · cases h
    · rename_i hg9
      rw [hg1] at hg9
      cases hg9
def pieceO (P : Program) (N : Nat) (ops : Array Oper) (l1 : List Oper) (ev : EV) (ids ts : List Nat) (K : KS) : Option KS := inK K fun X => match (rgC P N true ops l1).run ev X with
  | some X => outK ids ts X
  | none => none
/-- From operations at one state to others at another. -/
structure KOp (P : Program) (N : Nat) (ops : Array Oper) (l : List Oper) (K : KS) (l' : List Oper) (K' : KS) : Prop where
  fw : KFw K K'
  go : ∀ (O : Origin) (S : St) (L : Nat) (Q : Exit → St → Prop), KO O → KC O K S → KSub K S L → K'.n ≤ L → (∀ S', KSub K' S' L → KPr K K' S S' → ILS P O N ops l' S' Q) → ILS P O N ops l S Q
theorem ko_piece (hev : EvOk P ev) {ops : Array Oper} {l1 : List Oper} (ids ts : List Nat) (hl : l1.all (fun o => o.guard.isNone) = true) (h : pieceO P N ops l1 ev ids ts K = some K') (l2 : List Oper) : KOp P N ops (l1 ++ l2) K l2 K' := by
  obtain ⟨X, h0, h⟩ := inK_e h
  try dsimp only at h
  split at h
  · rename_i X1 hR
    have h1 := outK_e h
    obtain ⟨g1, g2⟩ := rg_pre hev hl hR
    refine ⟨kfw_of h0 h1 g1, fun O S L Q ho hc hs hL k => ?_⟩
    exact g2 O S L l2 Q ho (h0.sub O S L hs) (h0.oc ho hc) (by rw [← h1.nid]; exact hL) fun S' hs' hp => k S' (h1.sub O S' L hs') (kpr_of h0 h1 hp)
  · cases h
theorem KOp.trans {ops : Array Oper} {l1 l2 l3 : List Oper} {K1 K2 K3 : KS} (h : KOp P N ops l1 K1 l2 K2) (g : KOp P N ops l2 K2 l3 K3) : KOp P N ops l1 K1 l3 K3 :=
  ⟨h.fw.trans g.fw, fun O S L Q ho hc hs hL k => h.go O S L Q ho hc hs (Nat.le_trans g.fw.le hL) fun S1 hs1 hp1 => g.go O S1 L Q ho (hc.next h.fw hp1) hs1 hL fun S' hs' hp' => k S' hs' (hp1.trans h.fw g.fw hp')⟩
theorem kg_region {id : Nat} {l : List Oper} (h : KOp P N l.toArray l K [] K') : KGo P N (.region id l.toArray false) K .normal K' :=
  ⟨h.fw, fun O S L Q ho hc hs hL k => iwp_region (h.go O S L Q ho hc hs hL fun S' hs' hp' => ils_nil (k S' hs' hp'))⟩
/-- A call whose body was cut. -/
theorem k_call {f : FuncId} {fn : Func} {o : Oper} {l : List Oper} {ops : Array Oper} {xs : List Operand} {ts : Array TypeId} {ds : List D} {t tr : Nat} {d : D} {rest : List (Nat × D)} (hf : P.funcs[f]? = some fn) (hb : fn.body = some c) (hcal : Callable P f)
    (hres : fn.results = #[.tmp tr]) (hlen : ds.length ≤ fn.ntmps) (hg : KGo P fn.ntmps c ⟨K.l, (List.range ds.length).zip ds, K.n + 1⟩ .ret K') (hs' : K'.s = (tr, d) :: rest) (hd9 : d ≠ .dead)
    (hgd : o.guard = none) (hop : o.op = .call { callee := .value (.func f), args := xs.toArray, argTypes := ts }) (hdst : o.dst = some t) (ht : t < N) (hts : ∀ x ∈ K.s, x.1 ≠ t) (hxs : ∀ S L, KSub K S L → SVs S xs ds) : KOp P N ops (o :: l) K l ⟨K'.l, (t, d) :: K.s, K'.n⟩ := by
  have hn1 : K.n + 1 ≤ K'.n := hg.fw.le
  refine ⟨⟨by show K.n ≤ K'.n; omega, fun x hx hn => hg.fw.old x hx (by
    rcases hn with hn | hn
    · left; show x.1 < K.n + 1; omega
    · exact .inr hn)⟩, fun O S L Q ho hkc hks hL k => ?_⟩
  have hL : K'.n ≤ L := hL
  intro E β a hr
  have hnd0 : noDefer o.op = true := by rw [hop]; rfl
  refine wpListIn_plain hgd fun Kk hK => wp_in _ hnd0 ?_
  have hrun : (execOp a.eval o).run P E.w = .ok (.enter f (xs.map a.eval).toArray) E.w := by
    simp [execOp, hop, resolve, Deferred.ofValue, Act.eval, invoke, run_callFunc hcal]
  have hv : RdL E β (xs.map a.eval) ds := (hxs S L hks).rd hr
  generalize hvse : xs.map a.eval = vs at hv hrun
  unfold Oper.wp
  rw [hrun]
  simp only [Oper.upon, hdst]
  obtain ⟨Ow, OX, Of, Og, Or, Okv, Olv, Odv, Olc, Omb, Odt, Onm⟩ := O
  obtain ⟨bs, hbs, hnd, hall⟩ := hr.nd
  obtain ⟨k2, hk2⟩ := fresh_num S.H
  let O' : Origin := ⟨Ow, OX, Of, Og, none, fun j => if j = k2 then a.tmps.toList else Okv j, Olv, fun j => if j = k2 then bs else Odv j, Olc, Omb, [], false⟩
  have hcomp : ∀ e : Ent, e.num ≠ some k2 → compat ⟨Ow, OX, Of, Og, Or, Okv, Olv, Odv, Olc, Omb, Odt, Onm⟩ O' e ∧ compat O' ⟨Ow, OX, Of, Og, Or, Okv, Olv, Odv, Olc, Omb, Odt, Onm⟩ e := fun e he => by
    cases e with
    | kept j ds => have : j ≠ k2 := fun h => he (by rw [h]; rfl)
                   simp [compat, O', this]
    | loop j => simp [compat, O']
    | _ => exact ⟨trivial, trivial⟩
  have h0 : HOk O' E β (entL S.H) := hr.h.swap ⟨rfl, rfl, rfl, rfl, rfl⟩ fun id => .inl ⟨rfl, (hcomp _ (hk2 id)).1⟩
  let S0 : St := ⟨(List.range ds.length).zip ds, (K.n, .kept k2 (allD N S)) :: S.H⟩
  have h1 : HOk O' E β S0.ent := h0.addK (by simpa [O'] using rel_allD hr) fun c hc => (hall c (by simpa [O'] using hc)).2
  have hS0 : ∀ i, K.n ≠ i → S0.ent i = S.ent i := fun i hi => by simp [S0, St.ent, entL, look_cons, hi]
  have hS0k : S0.ent K.n = .kept k2 (allD N S) := by simp [S0, St.ent, entL, look_cons]
  have hKn : ∀ x ∈ K.l, x.1 ≠ K.n := fun x hx e => by
    have h2 := hks.en x hx
    rw [e, hks.fr K.n (Nat.le_refl _) (by omega)] at h2
    cases hx2 : x.2 with
    | blk e ds => rw [hx2] at h2; cases h2
    | mp l => rw [hx2] at h2; cases h2
  let K0 : KS := ⟨K.l, (List.range ds.length).zip ds, K.n + 1⟩
  have hsub0 : KSub K0 S0 L := by
    refine ⟨fun x hx => .inl ?_, fun x hx => ?_, fun i g1 g2 => ?_, hks.lim⟩
    · show look .dead x.1 ((List.range ds.length).zip ds) = x.2
      rw [look_zip]
      obtain ⟨i, hi, hxe⟩ := List.getElem_of_mem hx
      have hi2 : i < ds.length := by
        have h9 : i < ((List.range ds.length).zip ds).length := hi
        simp at h9; exact h9
      rw [← hxe]
      show (ds[(((List.range ds.length).zip ds)[i]'hi).1]?).getD .dead = (((List.range ds.length).zip ds)[i]'hi).2
      simp [List.getElem_zip, hi2]
    · rw [hS0 x.1 fun e => hKn x hx e.symm]
      exact hks.en x hx
    · have g1 : K.n + 1 ≤ i := g1
      rw [hS0 i (by omega)]
      exact hks.fr i (by omega) g2
  have hkc0 : KC O' K0 S0 := fun j => by
    by_cases hj : j = k2
    · subst hj
      exact .inr ⟨K.n, _, Nat.lt_succ_self _, hKn, hS0k⟩
    · rcases hkc j with g | ⟨i, ds', g1, g2, g3⟩
      · left; show (if j = k2 then bs else Odv j) = []; rw [if_neg hj]; exact g
      · exact .inr ⟨i, ds', by show i < K.n + 1; omega, g2, by rw [hS0 i (by omega)]; exact g3⟩
  have hvl := hv.length
  have hrel0 : Rel O' fn.ntmps S0 E β { tmps := vs.toArray ++ Array.replicate (fn.ntmps - vs.toArray.size) undef, defers := [] } := by
    refine ⟨by simp; omega, Marks.nil rfl, h1, fun s => ?_⟩
    exact rdl_slots hv (fn.ntmps - vs.toArray.size) s
  have hcalls : Calls P f vs.toArray E.w fun e w' => ∃ v, e = .returned v ∧ ∃ S' E' β', E'.w = w' ∧ HOk O' E' β' S'.ent ∧ Rd E' β' v d ∧ KSub K' S' L ∧ KPr K0 K' S0 S' := by
    refine calls_of_iwp (E := E) (O := O') hf hb rfl ho.ft rfl hrel0 (hg.go O' S0 L (fun e' S' => e' = .ret ∧ KSub K' S' L ∧ KPr K0 K' S0 S') ⟨rfl, rfl, ho.ft⟩ hkc0 hsub0 hL fun S' h1 h2 => ⟨rfl, h1, h2⟩) ?_
    rintro e' S' E' β' a' hr' ⟨rfl, hs1, hp1⟩
    refine ⟨.inr rfl, ?_⟩
    have hsv : SV S' (.tmp tr) d := by
      rcases hs1.sl (tr, d) (by rw [hs']; simp) with g | g
      · exact IL.sv g
      · exact absurd g hd9
    obtain ⟨v, hv, hrd⟩ := run_retD hr' (show ResVs P S' fn.results.toList [d] by rw [hres]; exact .cons hsv .nil)
    exact ⟨v, hv, v, rfl, S', E', β', rfl, hr'.h, hrd, hs1, hp1⟩
  refine hcalls.mono ?_
  rintro e w' ⟨v, rfl, S', E', β', rfl, hok, hrd, hsub', hpres⟩
  have hkeep : S'.ent K.n = .kept k2 (allD N S) := by
    rw [hpres.p1 K.n hKn (.inl (Nat.lt_succ_self _)), hS0k]
  have hkept := hok.ent K.n
  rw [hkeep] at hkept
  obtain ⟨k1, k2'⟩ := hkept
  have hkv : O'.kv k2 = a.tmps.toList := by simp [O']
  have hdk : O'.dv k2 = bs := by simp [O']
  rw [hkv] at k1; rw [hdk] at k2'
  let S1 : St := ⟨S.sl, (K.n, .none) :: S'.H⟩
  have hS1 : ∀ i, K.n ≠ i → S1.ent i = S'.ent i := fun i hi => by simp [S1, St.ent, entL, look_cons, hi]
  have hS1k : S1.ent K.n = .none := by simp [S1, St.ent, entL, look_cons]
  have hnum : ∀ i, K.n ≠ i → (S'.ent i).num ≠ some k2 := fun i hi hc => by
    rcases hpres.p3 i with g | g
    · rw [g] at hc; cases hc
    · rw [g, hS0 i hi] at hc; exact hk2 i hc
  have hrel : Rel ⟨Ow, OX, Of, Og, Or, Okv, Olv, Odv, Olc, Omb, Odt, Onm⟩ N S1 E' β' a := by
    refine ⟨hr.n, ⟨bs, hbs, hnd, fun c hc => ⟨(hall c hc).1, k2' c hc⟩⟩, ?_, fun s => ?_⟩
    · refine HOk.swap (O := O') (H := S'.ent) hok ⟨rfl, rfl, rfl, rfl, rfl⟩ fun id => ?_
      by_cases hid : K.n = id
      · right; subst hid; exact hS1k
      · left; exact ⟨hS1 id hid, (hcomp _ (hnum id hid)).2⟩
    · rcases Nat.lt_or_ge s N with hsN | hsN
      · have := rdl_slots0 k1 s
        rw [get_allD hsN] at this
        exact this
      · have hu : a.tmps.getD s undef = undef := by
          have : a.tmps.size = N := hr.n
          simp [Array.getD_eq_getD_getElem?, Array.getElem?_eq_none (show a.tmps.size ≤ s by omega)]
        have := hr.sl s
        rw [hu] at this ⊢
        exact rd_undef _ this
  refine hK _ _ (k (S1.set t d) ?_ ?_ E' β' _ (hrel.set ht hrd))
  · refine ⟨fun x hx => ?_, fun x hx => ?_, fun i g1 g2 => ?_, hks.lim⟩
    · rcases List.mem_cons.1 hx with rfl | hx
      · exact .inl (by simp [St.get, St.set, look_cons])
      · have h2 := hks.sl x hx
        rw [show (S1.set t d).get x.1 = S.get x.1 by simp [St.get, St.set, look_cons, (hts x hx).symm, S1]]
        exact h2
    · show EnKx x.2 (S1.ent x.1)
      rw [hS1 x.1 fun e => ?_]
      · exact hsub'.en x hx
      · have h2 := hsub'.en x hx
        rw [← e, hkeep] at h2
        cases hx2 : x.2 with
        | blk e ds => rw [hx2] at h2; cases h2
        | mp l => rw [hx2] at h2; cases h2
    · have g1 : K'.n ≤ i := g1
      show S1.ent i = _
      rw [hS1 i (by omega)]
      exact hsub'.fr i g1 g2
  · refine ⟨fun i g1 g2 => ?_, fun i => ?_⟩
    · have g2 : i < K.n ∨ K'.n ≤ i := g2
      have hi : K.n ≠ i := by omega
      show S1.ent i = _
      rw [hS1 i hi, hpres.p1 i g1 (by rcases g2 with g2 | g2; exact .inl (by show i < K.n + 1; omega); exact .inr g2), hS0 i hi]
    · show (S1.ent i).num = none ∨ (S1.ent i).num = _
      by_cases hi : K.n = i
      · subst hi; left; rw [hS1k]; rfl
      · rw [hS1 i hi]
        rcases hpres.p3 i with g | g
        · exact .inl g
        · right; rw [g, hS0 i hi]
end
/-- The operations of a region. -/
def opsL : Code → List Oper
  | .region _ ops _ => ops.toList
  | _ => []
def op4 (l : List Oper) : Oper := match l with
  | _ :: _ :: _ :: o :: _ => o
  | _ => ⟨none, .move (.tmp 0), 0, "", #[], none⟩
end Go.IL
