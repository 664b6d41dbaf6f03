/-
  A part of the proof: rules and plain facts. No condition.
-/
import Derived.Test.YtalalambgppmpaaIlZ
import Derived.RangeFuncIn
set_option linter.all false
namespace Go.IL
open RowKit (Below)

/-! Loops over functions ('for x := range seq'): the function that is ranged over is walked at once, and each of its calls of yield walks the loop's body. -/
def noK (k : Nat) : Ent → Bool
  | .kept j _ => !(j == k)
  | .loop j .. => !(j == k)
  | _ => true
/-- No entry that is told bears this number, but those named. -/
def freeX (k : Nat) (ids : List Nat) (H : List (Nat × Ent)) : Bool := H.all fun x => ids.elem x.1 || noK k x.2
theorem freeX_ent {k : Nat} {ids : List Nat} {H : List (Nat × Ent)} (h : freeX k ids H = true) {id : Nat} (hid : id ∉ ids) : noK k (entL H id) = true := by
  unfold entL
  rcases look_mem (z := defE id) (t := id) (l := H) with h1 | h1
  · rw [h1]; unfold defE; split <;> rfl
  · have h2 := List.all_eq_true.1 h _ h1
    simp only [Bool.or_eq_true, List.elem_eq_mem, decide_eq_true_eq] at h2
    exact h2.resolve_left hid

def Origin.same (O O' : Origin) : Prop := O'.w = O.w ∧ O'.X = O.X ∧ O'.foot = O.foot ∧ O'.given = O.given
def compat (O O' : Origin) : Ent → Prop
  | .kept j _ => O'.kv j = O.kv j ∧ O'.dv j = O.dv j
  | .loop j .. => O'.lv j = O.lv j ∧ O'.lc j = O.lc j
  | _ => True
theorem EntAt.swap {O O' : Origin} {E : Env} {β : Names} {id : Nat} {e : Ent} (h : EntAt O E β id e) (hs : O.same O') (hc : compat O O' e) : EntAt O' E β id e := by
  obtain ⟨s1, s2, s3, s4⟩ := hs
  have hown : ∀ b, O.own b → O'.own b := fun b hb => by unfold Origin.own at hb ⊢; rw [s1, s3]; exact hb
  cases e with
  | none => trivial
  | fresh => exact h
  | blk e ds =>
    rcases h with h | ⟨b, vs, sp, h1, h2, h3⟩
    · exact .inl h
    · exact .inr ⟨b, vs, sp, h1, hown b h2, h3⟩
  | tail e sz n =>
    rcases h with h | ⟨b, c, h1, h2, h3⟩
    · exact .inl h
    · exact .inr ⟨b, c, h1, hown b h2, h3⟩
  | loop lk ds st pend =>
    obtain ⟨b, r, h1, h2, h3, h4, h5, h6, h7, h8, h9, h10, h11⟩ := h
    obtain ⟨c1, c2⟩ : O'.lv lk = O.lv lk ∧ O'.lc lk = O.lc lk := hc
    exact ⟨b, r, h1, hown b h2, h3, h4, by rw [c2]; exact h5, by rw [c2]; exact h6, by rw [c2]; exact h7, h8, h9, c1.trans h10, h11⟩
  | kept k ds =>
    obtain ⟨c1, c2⟩ : O'.kv k = O.kv k ∧ O'.dv k = O.dv k := hc
    exact ⟨c1 ▸ h.1, fun b hb => h.2 b (c2 ▸ hb)⟩
theorem HOk.swap {O O' : Origin} {E : Env} {β : Names} {H H' : Nat → Ent} (h : HOk O E β H) (hs : O.same O') (hc : ∀ id, (H' id = H id ∧ compat O O' (H id)) ∨ H' id = .none) : HOk O' E β H' where
  os := by rw [hs.1]; exact h.os
  tape := by rw [hs.1]; exact h.tape
  output := by rw [hs.1]; exact h.output
  size := by rw [hs.1]; exact h.size
  block k hk hf := by rw [hs.1] at hk ⊢; rw [hs.2.2.1] at hf; exact h.block k hk hf
  xlt := h.xlt
  xold b o hb hf := by rw [hs.1] at hb; rw [hs.2.2.1] at hf; rw [hs.2.1]; exact h.xold b o hb hf
  ent id := by
    rcases hc id with ⟨h1, h2⟩ | h1
    · rw [h1]; exact (h.ent id).swap hs h2
    · rw [h1]; trivial
  inj i j b hi hj := by
    have key : ∀ i, (H' i).held = true → (H i).held = true := fun i hi => by
      rcases hc i with ⟨h1, _⟩ | h1
      · rwa [h1] at hi
      · rw [h1] at hi; cases hi
    exact h.inj i j b (key i hi) (key j hj)
  le := by rw [hs.1, hs.2.1]; exact h.le
  gid := by rw [hs.2.2.2]; exact h.gid
  given := by rw [hs.2.2.2]; exact h.given
theorem HOk.addK {O : Origin} {E : Env} {β : Names} {H : List (Nat × Ent)} (h : HOk O E β (entL H)) {id k : Nat} {ds : List D} (hr : RdL E β (O.kv k) ds) (hd : ∀ b ∈ O.dv k, E.w.heap[b]? = some (.deferred (some []))) : HOk O E β (entL ((id, .kept k ds) :: H)) :=
  { h with
    ent := fun j => by
      show EntAt O E β j (look _ _ _)
      rw [look_cons]
      by_cases hj : id = j
      · rw [if_pos hj]; exact ⟨hr, hd⟩
      · rw [if_neg hj]; exact h.ent j
    inj := fun i j b hi hj => by
      have key : ∀ i, (entL ((id, .kept k ds) :: H) i).held = true → (entL H i).held = true := fun i hi => by
        have hi' : (look (defE i) i ((id, .kept k ds) :: H)).held = true := hi
        rw [look_cons] at hi'
        by_cases h : id = i
        · rw [if_pos h] at hi'; cases hi'
        · rw [if_neg h] at hi'; exact hi'
      exact h.inj i j b (key i hi) (key j hj) }

/-- What slots read as, of what is passed. -/
theorem rdl_slots {E : Env} {β : Names} {vs : List Value} {ds : List D} (hv : RdL E β vs ds) (n : Nat) (s : Nat) : Rd E β ((vs.toArray ++ Array.replicate n undef).getD s undef) (look .dead s ((List.range ds.length).zip ds)) := by
  have key : ∀ (ds : List D) (vs : List Value) (k : Nat), RdL E β vs ds → Rd E β (if s < k then undef else vs.getD (s - k) undef) (look .dead s ((List.range' k ds.length).zip ds)) := by
    intro ds
    induction ds with
    | nil => intro vs k _; simp [look]; exact .dead _ _
    | cons d ds ih =>
      intro vs k hv
      cases hv with
      | cons h1 h2 =>
        simp only [List.length_cons, List.range'_succ, List.zip_cons_cons, look_cons]
        by_cases hks : k = s
        · subst hks; simpa using h1
        · rw [if_neg hks]
          have := ih _ (k + 1) h2
          by_cases hlt : s < k
          · simpa [hlt, show s < k + 1 by omega] using this
          · have h3 : ¬ s < k + 1 := by omega
            rw [if_neg hlt]; rw [if_neg h3] at this
            rw [show s - k = (s - (k + 1)) + 1 by omega]
            simpa using this
  have := key ds vs 0 hv
  rw [List.range_eq_range']
  simp only [Nat.not_lt_zero, if_false, Nat.sub_zero] at this
  have hg : (vs.toArray ++ Array.replicate n undef).getD s undef = vs.getD s undef := by
    by_cases hs : s < vs.length
    · simp [hs, Array.getElem?_append]
    · simp [Array.getElem?_append, hs, List.getElem?_eq_none (Nat.le_of_not_lt hs)]
      simp [Array.getElem?_replicate]
      split <;> rfl
  rw [hg]
  exact this
theorem rdl_slots0 {E : Env} {β : Names} {a : Array Value} {ds : List D} (hv : RdL E β a.toList ds) (s : Nat) : Rd E β (a.getD s undef) (look .dead s ((List.range ds.length).zip ds)) := by
  have := rdl_slots hv 0 s
  simpa using this
/-- All slots of a state, in a row. -/
def allD (N : Nat) (S : St) : List D := (List.range N).map S.get
theorem rel_allD {O : Origin} {N : Nat} {S : St} {E : Env} {β : Names} {a : Act} (hr : Rel O N S E β a) : RdL E β a.tmps.toList (allD N S) := by
  have key : ∀ (l : List Value) (k : Nat), (∀ s, s < l.length → Rd E β (l.getD s undef) (S.get (k + s))) → RdL E β l ((List.range' k l.length).map S.get) := by
    intro l
    induction l with
    | nil => intro k _; exact .nil _
    | cons v l ih =>
      intro k h
      rw [List.length_cons, List.range'_succ, List.map_cons]
      refine .cons (by simpa using h 0 (by simp)) (ih (k + 1) fun s hs => ?_)
      have := h (s + 1) (by simpa using hs)
      rw [show k + 1 + s = k + (s + 1) by omega]
      simpa using this
  unfold allD
  have hn : a.tmps.toList.length = N := by simpa using hr.n
  have := key a.tmps.toList 0 fun s hs => by
    have h1 := hr.sl s
    rw [Nat.zero_add]
    simpa using h1
  rwa [hn, ← List.range_eq_range'] at this
/-- The record of a loop turns. -/
theorem HOk.turn {O : Origin} {E : Env} {β : Names} {H : List (Nat × Ent)} (h : HOk O E β (entL H)) {id k : Nat} {ds : List D} {st : LoopState} {pend : Option Code} (he : entL H id = .loop k ds st pend) :
    ∃ r, E.w.heap[O.lv k]? = some (.loop r) ∧ β id = some (O.lv k) ∧ r.params = (O.lc k).1 ∧ r.assign = (O.lc k).2.1 ∧ r.body = (O.lc k).2.2 ∧ r.state = st ∧ r.pending = pend ∧ ∀ st' pend', (E).le ⟨E.w.putObj (O.lv k) (.loop { r with state := st', pending := pend' }), E.X⟩ ∧
      HOk O ⟨E.w.putObj (O.lv k) (.loop { r with state := st', pending := pend' }), E.X⟩ β (entL ((id, .loop k ds st' pend') :: H)) := by
  have hh := h.ent id
  rw [he] at hh
  obtain ⟨b, r, h1, h2, h3, h4, h5, h6, h7, h8, h9, h10, h11⟩ := hh
  subst h10
  refine ⟨r, h3, h1, h5, h6, h7, h8, h9, fun st' pend' => ?_⟩
  let E' : Env := ⟨E.w.putObj (O.lv k) (.loop { r with state := st', pending := pend' }), E.X⟩
  have hs : Step O E E' (O.lv k) := ⟨rfl, rfl, rfl, by simp [E', World.putObj], by simpa [E', World.putObj] using heap_lt h3, h2, fun j _ hj => World.putObj_heap_other hj, fun _ _ _ => Iff.rfl, fun _ hx => by rw [h3] at hx; cases hx⟩
  have hle : E.le E' := hs.le (fun o v _ hx => absurd (h4 o) hx) (fun c e f hx => by rw [h3] at hx; cases hx)
  refine ⟨hle, HOk.put h hs hle (Names.le.refl _) (id := id) (fun j hj => ?_) (fun j hj hh hb => ?_) h1 ?_ (fun _ _ => trivial)⟩
  · left; exact ⟨by show look _ _ _ = _; rw [look_cons, if_neg (Ne.symm hj)]; rfl, rfl⟩
  · have hh' : (look (defE j) j ((id, .loop k ds st' pend') :: H)).held = true := hh
    rw [look_cons, if_neg (Ne.symm hj)] at hh'
    exact hj (h.inj j id _ hh' (by rw [he]; rfl) hb h1)
  · show EntOk O E' β _ (look _ _ _)
    rw [look_cons, if_pos rfl]
    exact ⟨_, World.putObj_heap_same (heap_lt h3), h4, h5, h6, h7, rfl, rfl, rfl, RdL.mono hle (Names.le.refl _) h11⟩
end Go.IL
namespace Go.IL
open RowKit (Below)
section
variable {P : Program} {O : Origin} {N : Nat} {S S' : St} {Q : Exit → St → Prop}

/-- What the walk of the function that is ranged over must come to. -/
@[reducible] def rangeQ (P : Program) (O : Origin) (N k : Nat) (Q : Exit → St → Prop) (e : Exit) (S' : St) : Prop :=
  (e = .normal ∨ e = .ret) ∧ ∃ iL iK dl ds' st pend, S'.ent iL = .loop k dl st pend ∧ st ≠ .busy ∧ S'.ent iK = .kept k ds' ∧ freeX k [iL, iK] S'.H = true ∧
    ∃ S2 ρ, Weak ⟨(List.range N).zip ds', (iK, .none) :: (iL, .none) :: S'.H⟩ S2 ρ ∧ match pend with
    | none => Q .normal S2
    | some c => IWP P O N c S2 Q

theorem iwp_range {g : Operand} {ps : Array Tmp} {as bd : Code} {f : FuncId} {fn : Func} {c : Code} {caps : List D} (k idL idK : Nat)
    (hg : SV S g (.fn f caps)) (hc : Callable P f) (hf : P.funcs[f]? = some fn) (hb : fn.body = some c) (hres : fn.results = #[]) {N' : Nat} (hn : fn.ntmps = N') (hN' : caps.length + 1 ≤ N')
    (hfr : freeX k [] S.H = true) (hL : S.ent idL = .fresh) (hO : O.Plain)
    (h : ∀ O', O'.round = none → O'.lc k = (ps, as, bd) → IWP P O' N' c ⟨(List.range (.yld idL :: caps).length).zip (.yld idL :: caps), (idK, .kept k (allD N S)) :: (idL, .loop k (allD N S) .ready none) :: S.H⟩ (rangeQ P O N k Q)) : IWP P O N (.rangeFunc g ps as bd) S Q := by
  subst hn
  obtain ⟨Ow, OX, Of, Og, Or, Okv, Olv, Odv, Olc⟩ := O
  obtain ⟨hro, hfoot, hdv⟩ := hO
  simp only at hro hfoot hdv
  subst hro
  intro E β a hr
  obtain ⟨bs, hbs, hnd, hall⟩ := hr.nd
  obtain ⟨vs, hev, hcaps⟩ := rd_fn (hg.rd hr)
  refine wpIn_rangeFunc ?_
  intro fn0 _
  let r0 : Loop := { state := .ready, pending := none, fn := fn0, tmps := a.tmps, params := ps, assign := as, body := bd, defers := E.w.heap.size }
  let W0 := E.w.alloc (.deferred (some []))
  have hsz0 : W0.heap.size = E.w.heap.size + 1 := by simp [W0]
  let W1 := W0.alloc (.loop r0)
  have hb0 : Below E.w.heap.size E.w W0 := (Below.refl _ _).alloc (Nat.le_refl _) _
  refine ⟨E.w.heap.size + 1, [{ target := .collected E.w.heap.size, args := #[] }], W1, { target := .fn (.func f) vs.toArray, args := #[.func (.yield (E.w.heap.size + 1)) #[] #[]] }, W1, f,
    #[.func (.yield (E.w.heap.size + 1)) #[] #[]] ++ vs.toArray, W1, run_enterLoop_outer _ _ _ _ _, ?_, fun _ _ => trivial, ?_, fun h => by simp [fen, Fence.wide] at h, ?_⟩
  · simp only [resolve, hev]
    simp [go_sem]
  · simp [invoke, run_callFunc hc]
  let O' : Origin := ⟨Ow, OX, Of, Og, none, fun j => if j = k then a.tmps.toList else Okv j, fun j => if j = k then E.w.heap.size + 1 else Olv j, fun j => if j = k then E.w.heap.size :: bs else Odv j, fun j => if j = k then (ps, as, bd) else Olc j⟩
  have hsame : (⟨Ow, OX, Of, Og, none, Okv, Olv, Odv, Olc⟩ : Origin).same O' := ⟨rfl, rfl, rfl, rfl⟩
  have hcomp : ∀ e, noK k e = true → compat ⟨Ow, OX, Of, Og, none, Okv, Olv, Odv, Olc⟩ O' e ∧ compat O' ⟨Ow, OX, Of, Og, none, Okv, Olv, Odv, Olc⟩ e := fun e he => by
    cases e with
    | kept j ds => have : j ≠ k := by simpa [noK] using he
                   simp [compat, O', this]
    | loop j => have : j ≠ k := by simpa [noK] using he
                simp [compat, O', this]
    | _ => exact ⟨trivial, trivial⟩
  have h0 : HOk O' ⟨W0, E.X⟩ β (entL S.H) := (hr.h.below hb0).swap hsame fun id => .inl ⟨rfl, (hcomp _ (freeX_ent hfr (by simp))).1⟩
  let E1 : Env := ⟨W1, fun b o => b = E.w.heap.size + 1 ∨ E.X b o⟩
  let β1 : Names := fun j => if j = idL then some (E.w.heap.size + 1) else β j
  have hfrL : β idL = none := by have := hr.h.ent idL; rw [hL] at this; exact this
  have hβ : β.le β1 := fun j b hj => by
    by_cases hji : j = idL
    · subst hji; rw [hfrL] at hj; cases hj
    · simp [β1, hji, hj]
  have hs : Step O' ⟨W0, E.X⟩ E1 (E.w.heap.size + 1) :=
    ⟨rfl, rfl, rfl, by simp [E1, W1], by simp [E1, W1, hsz0], .inl (by have := h0.size; simp only [hsz0] at this; exact this), fun j hj _ => heap_alloc_old _ _ hj, fun j o hj => by simp [E1, hj], fun _ hx => by have h9 : E.w.heap.size + 1 < W0.heap.size := heap_lt hx; omega⟩
  have hle : (⟨W0, E.X⟩ : Env).le E1 := hs.le (fun o v hx _ => by have := World.block_lt_of_cell? _ _ hx; simp [hsz0] at this) (fun c e f hx => by have := heap_lt hx; simp [hsz0] at this)
  have hle0 : E.le E1 := (below_le hb0).trans hle
  have hnew : W1.heap[E.w.heap.size + 1]? = some (.loop r0) := by have := World.alloc_heap_new W0 (.loop r0); rwa [hsz0] at this
  have hdef : W1.heap[E.w.heap.size]? = some (.deferred (some [])) := (heap_alloc_old _ _ (by omega)).trans (World.alloc_heap_new E.w _)
  have hrd : RdL E1 β1 a.tmps.toList (allD N S) := RdL.mono hle0 hβ (rel_allD hr)
  have h1 : HOk O' E1 β1 (entL ((idL, .loop k (allD N S) .ready none) :: S.H)) := by
    refine HOk.put h0 hs hle hβ (id := idL) (fun j hj => ?_) (fun j hj hh hb => ?_) (by simp [β1]) ?_ (fun _ _ => trivial)
    · left; exact ⟨by show look _ _ _ = _; rw [look_cons, if_neg (Ne.symm hj)]; rfl, by simp [β1, hj]⟩
    · have hh' : (look (defE j) j ((idL, .loop k (allD N S) .ready none) :: S.H)).held = true := hh
      rw [look_cons, if_neg (Ne.symm hj)] at hh'
      have := h0.lt (j := j) hh' hb
      simp [hsz0] at this
    · show EntOk O' E1 β1 _ (look _ _ _)
      rw [look_cons, if_pos rfl]
      exact ⟨r0, hnew, fun o => .inl rfl, by simp [O', r0], by simp [O', r0], by simp [O', r0], rfl, rfl, by simp [O'], hrd⟩
  have h2 : HOk O' E1 β1 (entL ((idK, .kept k (allD N S)) :: (idL, .loop k (allD N S) .ready none) :: S.H)) := by
    refine h1.addK (by simpa [O'] using hrd) fun b hb => ?_
    have hb' : b ∈ E.w.heap.size :: bs := by simpa [O'] using hb
    rcases List.mem_cons.1 hb' with rfl | hb'
    · exact hdef
    · have hx := (hall b hb').2
      have hlt := heap_lt hx
      exact ((heap_alloc_old W0 _ (by omega)).trans (heap_alloc_old E.w _ hlt)).trans hx
  have hargs : RdL E1 β1 (Value.func (.yield (E.w.heap.size + 1)) #[] #[] :: vs) (.yld idL :: caps) := .cons (.yld _ _ _ (by simp [β1])) (RdL.mono hle0 hβ hcaps)
  have hlen := hargs.length
  have hrel : Rel O' fn.ntmps ⟨(List.range (D.yld idL :: caps).length).zip (.yld idL :: caps), (idK, .kept k (allD N S)) :: (idL, .loop k (allD N S) .ready none) :: S.H⟩ E1 β1
      { tmps := (#[Value.func (.yield (E.w.heap.size + 1)) #[] #[]] ++ vs.toArray) ++ Array.replicate (fn.ntmps - (#[Value.func (.yield (E.w.heap.size + 1)) #[] #[]] ++ vs.toArray).size) undef, defers := [] } := by
    refine ⟨by simp at hlen ⊢; omega, Marks.nil, h2, fun s => ?_⟩
    have := rdl_slots hargs (fn.ntmps - (#[Value.func (.yield (E.w.heap.size + 1)) #[] #[]] ++ vs.toArray).size) s
    show Rd E1 β1 _ (look _ _ _)
    simpa using this
  refine callsIn_wide (n := 0) |>.2 (calls_of_iwp (E := E1) (O := O') hf hb rfl hfoot hrel (h O' rfl (by simp [O'])) ?_)
  rintro e S2 E2 β2 a2 hr2 ⟨he, iL, iK, dl, ds', st, pend, hentL, hst, hentK, hfree, S3, ρ3, hw3, hQ⟩
  refine ⟨he, .tuple #[], by simp [results, hres], ?_⟩
  obtain ⟨r, g1, g2, g3, g4, g5, g6, g7, g8⟩ := hr2.h.turn (H := S2.H) hentL
  obtain ⟨g9, g10⟩ := g8 .exhausted pend
  have hlk : O'.lv k = E.w.heap.size + 1 := by simp [O']
  rw [hlk] at g1 g9 g10
  have hkept := hr2.h.ent iK
  rw [hentK] at hkept
  obtain ⟨k1, k2⟩ := hkept
  have hkv : O'.kv k = a.tmps.toList := by simp [O']
  have hdk : O'.dv k = E.w.heap.size :: bs := by simp [O']
  rw [hkv] at k1; rw [hdk] at k2
  have hds' : ds'.length = N := by rw [← k1.length]; simpa using hr.n
  let E3 : Env := ⟨E2.w.putObj (E.w.heap.size + 1) (.loop { r with state := .exhausted, pending := pend }), E2.X⟩
  have hrel3 : Rel ⟨Ow, OX, Of, Og, none, Okv, Olv, Odv, Olc⟩ N ⟨(List.range N).zip ds', (iK, .none) :: (iL, .none) :: S2.H⟩ E3 β2 { a with defers := { target := .collected E.w.heap.size, args := #[] } :: a.defers } := by
    refine ⟨hr.n, ⟨E.w.heap.size :: bs, by rw [List.map_cons, ← hbs], ?_, ?_⟩, ?_, fun s => ?_⟩
    · rw [List.nodup_cons]
      exact ⟨fun hm => Nat.lt_irrefl _ (heap_lt (hall _ hm).2), hnd⟩
    · intro b hb
      refine ⟨⟨?_, fun j => by simp [hdv]⟩, (World.putObj_heap_other ?_).trans (k2 b hb)⟩
      · rcases List.mem_cons.1 hb with rfl | hb
        · exact hr.h.size
        · exact (hall b hb).1.1
      · rintro rfl; have := k2 _ hb; rw [g1] at this; cases this
    · refine HOk.swap (O := O') (H := entL ((iL, .loop k dl .exhausted pend) :: S2.H)) g10 ⟨rfl, rfl, rfl, rfl⟩ fun id => ?_
      show (look _ _ _ = look _ _ _ ∧ _) ∨ _
      simp only [look_cons]
      by_cases h5 : iK = id
      · right; show look _ _ _ = _; rw [look_cons, if_pos h5]
      · by_cases h6 : iL = id
        · right; show look _ _ _ = _; rw [look_cons, if_neg h5, look_cons, if_pos h6]
        · left
          rw [if_neg h5, if_neg h6]
          refine ⟨by first | rfl | rw [if_neg h6], (hcomp _ ?_).2⟩
          show noK k (look _ _ _) = true
          rw [look_cons, if_neg h6]
          exact freeX_ent hfree (by simp; exact ⟨Ne.symm h6, Ne.symm h5⟩)
    · have := rdl_slots0 (RdL.mono g9 (Names.le.refl _) k1) s
      rw [hds'] at this
      exact this
  refine ⟨pend, E3.w, ?_, ?_⟩
  · have := run_endLoop (P := P) (l := E.w.heap.size + 1) g1 (by rw [g6]; exact hst)
    rw [g7] at this
    exact this
  · cases pend with
    | none => obtain ⟨β4, hr4⟩ := hrel3.weak hw3; exact ⟨_, E3, β4, rfl, hr4, hQ⟩
    | some c => obtain ⟨β4, hr4⟩ := hrel3.weak hw3; exact hQ E3 β4 _ hr4

def jumpOf : Exit → Option (Option Code)
  | .normal => some none
  | .ret => some (some .ret)
  | .exit i => some (some (.exit i))
  | _ => none
/-- What the walk of a round must come to: the walk of the function that is ranged over goes on. -/
@[reducible] def yieldQ (P : Program) (O : Origin) (N t k k2 : Nat) (ops : Array Oper) (l : List Oper) (Q : Exit → St → Prop) (e : Exit) (S' : St) : Prop :=
  ∃ iL iK dl dk j, jumpOf e = some j ∧ S'.ent iL = .loop k dl .busy none ∧ S'.ent iK = .kept k2 dk ∧ freeX k2 [iK] S'.H = true ∧ iL ≠ iK ∧
    ∃ S2 ρ, Weak ⟨(t, .bool j.isNone) :: (List.range N).zip dk, (iL, .loop k dl (if j.isNone then .ready else .done) j) :: (iK, .none) :: S'.H⟩ S2 ρ ∧ ILS P O N ops l S2 Q
def setsS (S : St) (l : List (Nat × D)) : St := l.foldl (fun S x => S.set x.1 x.2) S
theorem rel_sets {E : Env} {β : Names} : ∀ (ps : List Nat) (vs : List Value) (ds : List D) (S : St) (a : Array Value), (∀ p ∈ ps, p < N) → RdL E β vs ds → Rel O N S E β { tmps := a, defers := [] } →
    Rel O N (setsS S (ps.zip ds)) E β { tmps := (ps.zip vs).foldl (fun t x => t.setIfInBounds x.1 x.2) a, defers := [] }
  | [], _, _, S, a, _, _, h => by simpa [setsS] using h
  | _ :: _, _, _, S, a, _, .nil _, h => by simpa [setsS] using h
  | p :: ps, _, _, S, a, hp, .cons hv hvs, h => rel_sets ps _ _ _ _ (fun q hq => hp q (by simp [hq])) hvs (h.set (hp p (by simp)) hv)
theorem setsS_H (l : List (Nat × D)) : ∀ (S : St), (setsS S l).H = S.H := by
  induction l with
  | nil => intro S; rfl
  | cons x l ih => intro S; exact ih (S.set x.1 x.2)

theorem ils_yield {ops : Array Oper} {o : Oper} {l : List Oper} {x : Operand} {xs : List Operand} {ts : Array TypeId} {t k : Nat} {ps : Array Tmp} {as bd : Code} {ds da : List D} {N0 : Nat} (k2 idL idK : Nat) (hg : quiet o = true)
    (ho : o.op = .call { callee := .value x, args := xs.toArray, argTypes := ts }) (hd : o.dst = some t) (ht : t < N) (hx : S.op x = .yld idL) (hxs : SVs S xs da) (he : S.ent idL = .loop k ds .ready none)
    (hn : ds.length = N0) (hps : ps.toList.length = da.length) (hpl : (ps.toList.all fun p => Nat.blt p N0) = true) (hfr : freeX k2 [] S.H = true) (hK : S.ent idK = .fresh) (hro : O.round = none) (hlc : O.lc k = (ps, as, bd))
    (S0 : St) (ρ0 : Nat → Nat) (hw0 : Weak (setsS ⟨(List.range ds.length).zip ds, (idK, .kept k2 (allD N S)) :: S.H⟩ (ps.toList.zip da)) S0 ρ0)
    (h : ∀ O', IWP P O' N0 as S0 (fun e S1 => e = .normal ∧ ∃ iL dl, S1.ent iL = .loop k dl .ready none ∧
      ∃ S2 ρ, Weak ⟨S1.sl, (iL, .loop k dl .busy none) :: S1.H⟩ S2 ρ ∧ IWP P O' N0 bd S2 (yieldQ P O N t k k2 ops l Q))) : ILS P O N ops (o :: l) S Q := by
  subst hn
  replace hpl : ∀ p ∈ ps.toList, p < ds.length := fun p hp => by simpa using List.all_eq_true.1 hpl p hp
  obtain ⟨Ow, OX, Of, Og, Or, Okv, Olv, Odv, Olc⟩ := O
  simp only at hro
  subst hro
  intro E β a hr
  obtain ⟨bs, hbs, hnd, hall⟩ := hr.nd
  have hkk : k2 ≠ k := by
    have := freeX_ent hfr (id := idL) (by simp)
    have he' : entL S.H idL = _ := he
    rw [he'] at this
    intro e; subst e; simp [noK] at this
  have hidne : idK ≠ idL := by rintro rfl; rw [hK] at he; cases he
  refine wpListIn_plain (quiet_iff hg).1 fun K hK' => ⟨fun _ _ => trivial, ?_⟩
  rw [Oper.semAt_eq _ _ _ (noDefer_ne (quiet_iff hg).2)]
  have hent := hr.h.ent idL
  rw [he] at hent
  obtain ⟨b, r, e1, e2, e3, e4, e5, e6, e7, e8, e9, e10, e11⟩ := hent
  have hev : a.eval x = .func (.yield b) #[] #[] := by
    have := hr.op x
    rw [hx] at this
    generalize a.eval x = v at this
    cases this with
    | yld _ _ l hl => rw [e1] at hl; cases hl; rfl
  have hargs := hxs.rd hr
  have hal := hargs.length
  have hrun : (execOp a.eval o).run P E.w = .ok (.round b r.fn ((r.params.zip (xs.map a.eval).toArray).foldl (fun tmps (t, a) => tmps.setIfInBounds t a) r.tmps) r.assign r.body) E.w := by
    have hy := run_yield (P := P) (args := (xs.map a.eval).toArray) e3 (by rw [e5, hlc]; simp at hal ⊢; simp at hps; omega)
    simp [execOp, ho, resolve, Deferred.ofValue, hev, invoke]
    simpa using hy
  rw [hrun, Oper.uponIn_round]
  refine ⟨fun h => by simp [fen, Fence.wide] at h, roundIn_of_wpIn trivial ?_⟩
  have hlc' : Olc k = (ps, as, bd) := hlc
  rw [e6, e7]
  simp only [hlc']
  have hlen : r.tmps.size = ds.length := by have := e11.length; simpa using this
  let O' : Origin := ⟨Ow, OX, Of, Og, some b, fun j => if j = k2 then a.tmps.toList else Okv j, Olv, fun j => if j = k2 then bs else Odv j, Olc⟩
  have hcomp : ∀ e, noK k2 e = true → compat ⟨Ow, OX, Of, Og, none, Okv, Olv, Odv, Olc⟩ O' e ∧ compat O' ⟨Ow, OX, Of, Og, none, Okv, Olv, Odv, Olc⟩ e := fun e he => by
    cases e with
    | kept j ds => have : j ≠ k2 := by simpa [noK] using he
                   simp [compat, O', this]
    | _ => exact ⟨by first | trivial | rfl, by first | trivial | rfl⟩
  have h0 : HOk O' E β (entL S.H) := hr.h.swap ⟨rfl, rfl, rfl, rfl⟩ fun id => .inl ⟨rfl, (hcomp _ (freeX_ent hfr (by simp))).1⟩
  have h1 : HOk O' E β (entL ((idK, .kept k2 (allD N S)) :: S.H)) := h0.addK (by simpa [O'] using rel_allD hr) fun c hc => (hall c (by simpa [O'] using hc)).2
  have hrel0 : Rel O' ds.length ⟨(List.range ds.length).zip ds, (idK, .kept k2 (allD N S)) :: S.H⟩ E β { tmps := r.tmps, defers := [] } :=
    ⟨hlen, Marks.nil, h1, fun s => rdl_slots0 e11 s⟩
  have hrel1 := rel_sets ps.toList (xs.map a.eval) da _ r.tmps hpl hargs hrel0
  have htm : (r.params.zip (xs.map a.eval).toArray).foldl (fun tmps (t, a) => tmps.setIfInBounds t a) r.tmps = (ps.toList.zip (xs.map a.eval)).foldl (fun t x => t.setIfInBounds x.1 x.2) r.tmps := by
    rw [e5, hlc, ← Array.foldl_toList]; simp
  rw [htm]
  obtain ⟨β6, hr6⟩ := hrel1.weak hw0
  refine wpIn_mono (h O' E β6 _ hr6) ?_
  rintro e a1 w1 ⟨S1, E1, β1, rfl, hr1, rfl, iL, dl, hentL, S7, ρ7, hw7, hbody⟩
  obtain ⟨r1, g1, g2, g3, g4, g5, g6, g7, g8⟩ := hr1.h.turn (H := S1.H) hentL
  obtain ⟨g9, g10⟩ := g8 .busy none
  have hlk : O'.lv k = b := e10
  rw [hlk] at g1 g9 g10
  let E2 : Env := ⟨E1.w.putObj b (.loop { r1 with state := .busy, pending := none }), E1.X⟩
  have hw2 : (Instr.beginRound b).run P E1.w = .ok () E2.w := by
    have := run_beginRound (P := P) g1 g6
    rw [this]
    show _ = Result.ok () (E1.w.putObj b (.loop { r1 with state := .busy, pending := none }))
    congr 3
    rw [← g7]
  refine ⟨E2.w, hw2, ?_⟩
  have hrel2 : Rel O' ds.length ⟨S1.sl, (iL, .loop k dl .busy none) :: S1.H⟩ E2 β1 a1 :=
    ⟨hr1.n, hr1.nd.mono (fun c hc => (World.putObj_heap_other (by rintro rfl; rw [g1] at hc; cases hc)).trans hc), g10, fun s => Rd.mono g9 (Names.le.refl _) (hr1.sl s)⟩
  obtain ⟨β7, hr7⟩ := hrel2.weak hw7
  refine wpIn_mono (hbody E2 β7 a1 hr7) ?_
  rintro e a3 w3 ⟨S3, E3, β3, rfl, hr3, iL3, iK3, dl3, dk3, j, hj, hL3, hK3, hf3, hne3, S5, ρ5, hw5, hils⟩
  obtain ⟨r3, m1, m2, m3, m4, m5, m6, m7, m8⟩ := hr3.h.turn (H := S3.H) hL3
  obtain ⟨m9, m10⟩ := m8 (if j.isNone then .ready else .done) j
  rw [hlk] at m1 m9 m10
  have hkept := hr3.h.ent iK3
  rw [hK3] at hkept
  obtain ⟨k1, k2'⟩ := hkept
  have hkv : O'.kv k2 = a.tmps.toList := by simp [O']
  have hdk : O'.dv k2 = bs := by simp [O']
  rw [hkv] at k1; rw [hdk] at k2'
  have hdk3 : dk3.length = N := by rw [← k1.length]; simpa using hr.n
  let E4 : Env := ⟨E3.w.putObj b (.loop { r3 with state := if j.isNone then .ready else .done, pending := j }), E3.X⟩
  have hend : (Instr.endRound b j).run P E3.w = .ok (.bool j.isNone) E4.w := run_endRound (P := P) j m1
  have hrel4 : Rel ⟨Ow, OX, Of, Og, none, Okv, Olv, Odv, Olc⟩ N ⟨(t, .bool j.isNone) :: (List.range N).zip dk3, (iL3, .loop k dl3 (if j.isNone then .ready else .done) j) :: (iK3, .none) :: S3.H⟩ E4 β3 (a.put (some t) (.bool j.isNone)) := by
    refine Rel.set (S := ⟨(List.range N).zip dk3, (iL3, .loop k dl3 (if j.isNone then .ready else .done) j) :: (iK3, .none) :: S3.H⟩) ⟨hr.n, ⟨bs, hbs, hnd, fun c hc => ⟨(hall c hc).1, (World.putObj_heap_other (by rintro rfl; have := k2' _ hc; rw [m1] at this; cases this)).trans (k2' c hc)⟩⟩, ?_, fun s => ?_⟩ ht (.bool _ _)
    · refine HOk.swap (O := O') (H := entL ((iL3, .loop k dl3 (if j.isNone then .ready else .done) j) :: S3.H)) m10 ⟨rfl, rfl, rfl, rfl⟩ fun id => ?_
      by_cases h6 : iL3 = id
      · left
        subst h6
        refine ⟨by show look _ _ _ = look _ _ _; rw [look_cons, if_pos rfl, look_cons, if_pos rfl], (hcomp _ ?_).2⟩
        show noK k2 (look _ _ _) = true
        rw [look_cons, if_pos rfl]
        simp [noK, Ne.symm hkk]
      · by_cases h5 : iK3 = id
        · right; show look _ _ _ = _; rw [look_cons, if_neg h6, look_cons, if_pos h5]
        · left
          refine ⟨by show look _ _ _ = look _ _ _; rw [look_cons, if_neg h6, look_cons, if_neg h5, look_cons, if_neg h6], (hcomp _ ?_).2⟩
          show noK k2 (look _ _ _) = true
          rw [look_cons, if_neg h6]
          exact freeX_ent hf3 (by simp; exact Ne.symm h5)
    · have := rdl_slots0 (RdL.mono m9 (Names.le.refl _) k1) s
      rw [hdk3] at this
      exact this
  have hfin : K (a.put o.dst (.bool j.isNone)) E4.w := by
    rw [hd]
    obtain ⟨β5, hr5⟩ := hrel4.weak hw5
    exact hK' _ _ (hils E4 β5 _ hr5)
  cases e with
  | normal => cases hj; exact ⟨_, _, hend, hfin⟩
  | ret => cases hj; exact ⟨_, _, hend, hfin⟩
  | exit i => cases hj; exact ⟨_, _, hend, hfin⟩
  | goto i => cases hj
  | panic c => cases hj
  | outgrown => cases hj

theorem run_retD {E : Env} {β : Names} {S : St} {a : Act} {rs : List D} {fn : Func} (hr : Rel O N S E β a) (hres : ResVs P S fn.results.toList rs) : ∃ v, (results fn a.tmps).run P E.w = .ok v E.w ∧ Rd E β v (retD rs) := by
  obtain ⟨vs', h1, h2⟩ := run_results (P := P) hr hres
  have hrun : (results fn a.tmps).run P E.w = .ok (if h : vs'.toArray.size = 1 then vs'.toArray[0] else .tuple vs'.toArray) E.w := by
    have hF : results fn a.tmps = (fn.results.mapM (resF a.tmps)) >>= fun vs => pure (if h : vs.size = 1 then vs[0] else .tuple vs) := by
      unfold results
      congr 2
    rw [hF, ← Array.toArray_toList (xs := fn.results), List.mapM_toArray]
    simp only [Sem.run_bind, Sem.run_map, h1, Result.andThen_ok, Sem.run_pure]
  refine ⟨_, hrun, ?_⟩
  cases h2 with
  | nil => simpa [retD] using Rd.tuple (E := E) β [] [] (.nil _)
  | cons h5 h6 =>
    cases h6 with
    | nil => simpa [retD] using h5
    | cons h7 h8 =>
      simp only [retD, List.size_toArray, List.length_cons]
      rw [dif_neg (by omega)]
      exact .tuple _ _ _ (.cons h5 (.cons h7 h8))
@[reducible] def inlQ (P : Program) (O : Origin) (N t k2 : Nat) (fn : Func) (ops : Array Oper) (l : List Oper) (Q : Exit → St → Prop) (e : Exit) (S' : St) : Prop :=
  (e = .normal ∨ e = .ret) ∧ ∃ iK dk rs, ResVs P S' fn.results.toList rs ∧ S'.ent iK = .kept k2 dk ∧ freeX k2 [iK] S'.H = true ∧
    ∃ S2 ρ, Weak ⟨(t, retD rs) :: (List.range N).zip dk, (iK, .none) :: S'.H⟩ S2 ρ ∧ ILS P O N ops l S2 Q
/-- A call that is walked at once. -/
theorem ils_inl {ops : Array Oper} {o : Oper} {l : List Oper} {xs : List Operand} {ts : Array TypeId} {f : FuncId} {fn : Func} {c : Code} {t : Nat} {ds : List D} (k2 idK : Nat) (hg : quiet o = true)
    (ho : o.op = .call { callee := .value (.func f), args := xs.toArray, argTypes := ts }) (hd : o.dst = some t) (ht : t < N) (hc : Callable P f) (hf : P.funcs[f]? = some fn) (hb : fn.body = some c) (hxs : SVs S xs ds) {N' : Nat} (hn : fn.ntmps = N') (hN : ds.length ≤ N')
    (hfr : freeX k2 [] S.H = true) (hO : O.Plain)
    (h : ∀ O', O'.round = none → IWP P O' N' c ⟨(List.range ds.length).zip ds, (idK, .kept k2 (allD N S)) :: S.H⟩ (inlQ P O N t k2 fn ops l Q)) : ILS P O N ops (o :: l) S Q := by
  subst hn
  obtain ⟨Ow, OX, Of, Og, Or, Okv, Olv, Odv, Olc⟩ := O
  obtain ⟨hro, hfoot, hdv⟩ := hO
  simp only at hro hfoot hdv
  subst hro
  intro E β a hr
  obtain ⟨bs, hbs, hnd, hall⟩ := hr.nd
  refine wpListIn_plain (quiet_iff hg).1 fun K hK' => wp_in _ (quiet_iff hg).2 ?_
  have hrun : (execOp a.eval o).run P E.w = .ok (.enter f (xs.map a.eval).toArray) E.w := by
    simp [execOp, ho, resolve, Deferred.ofValue, Act.eval, invoke, run_callFunc hc]
  unfold Oper.wp
  rw [hrun]
  simp only [Oper.upon, hd]
  let O' : Origin := ⟨Ow, OX, Of, Og, none, fun j => if j = k2 then a.tmps.toList else Okv j, Olv, fun j => if j = k2 then bs else Odv j, Olc⟩
  have hcomp : ∀ e, noK k2 e = true → compat ⟨Ow, OX, Of, Og, none, Okv, Olv, Odv, Olc⟩ O' e ∧ compat O' ⟨Ow, OX, Of, Og, none, Okv, Olv, Odv, Olc⟩ e := fun e he => by
    cases e with
    | kept j ds => have : j ≠ k2 := by simpa [noK] using he
                   simp [compat, O', this]
    | loop j => simp [compat, O']
    | _ => exact ⟨trivial, trivial⟩
  have h0 : HOk O' E β (entL S.H) := hr.h.swap ⟨rfl, rfl, rfl, rfl⟩ fun id => .inl ⟨rfl, (hcomp _ (freeX_ent hfr (by simp))).1⟩
  have h1 : HOk O' E β (entL ((idK, .kept k2 (allD N S)) :: S.H)) := h0.addK (by simpa [O'] using rel_allD hr) fun c hc => (hall c (by simpa [O'] using hc)).2
  have hargs := hxs.rd hr
  have hlen := hargs.length
  have hrel : Rel O' fn.ntmps ⟨(List.range ds.length).zip ds, (idK, .kept k2 (allD N S)) :: S.H⟩ E β { tmps := (xs.map a.eval).toArray ++ Array.replicate (fn.ntmps - (xs.map a.eval).toArray.size) undef, defers := [] } := by
    refine ⟨by simp at hlen ⊢; omega, Marks.nil, h1, fun s => ?_⟩
    have := rdl_slots hargs (fn.ntmps - (xs.map a.eval).toArray.size) s
    show Rd E β _ (look _ _ _)
    simpa using this
  refine calls_of_iwp (E := E) (O := O') hf hb rfl hfoot hrel (h O' rfl) ?_
  rintro e S2 E2 β2 a2 hr2 ⟨he, iK, dk, rs, hres, hentK, hfree, S5, ρ5, hw5, hils⟩
  refine ⟨he, ?_⟩
  obtain ⟨v, hv, hrd⟩ := run_retD hr2 hres
  have hkept := hr2.h.ent iK
  rw [hentK] at hkept
  obtain ⟨k1, k2'⟩ := hkept
  have hkv : O'.kv k2 = a.tmps.toList := by simp [O']
  have hdk : O'.dv k2 = bs := by simp [O']
  rw [hkv] at k1; rw [hdk] at k2'
  have hdk3 : dk.length = N := by rw [← k1.length]; simpa using hr.n
  suffices hrel5 : Rel ⟨Ow, OX, Of, Og, none, Okv, Olv, Odv, Olc⟩ N ⟨(t, retD rs) :: (List.range N).zip dk, (iK, .none) :: S2.H⟩ E2 β2 (a.put (some t) v) by
    obtain ⟨β5, hr5⟩ := hrel5.weak hw5
    exact ⟨v, hv, hK' _ _ (hils E2 β5 _ hr5)⟩
  refine Rel.set (S := ⟨(List.range N).zip dk, (iK, .none) :: S2.H⟩) ⟨hr.n, ⟨bs, hbs, hnd, fun c hc => ⟨(hall c hc).1, k2' c hc⟩⟩, ?_, fun s => ?_⟩ ht hrd
  · refine HOk.swap (O := O') (H := entL S2.H) hr2.h ⟨rfl, rfl, rfl, rfl⟩ fun id => ?_
    by_cases h5 : iK = id
    · right; show look _ _ _ = _; rw [look_cons, if_pos h5]
    · left
      refine ⟨by show look _ _ _ = look _ _ _; rw [look_cons, if_neg h5], (hcomp _ ?_).2⟩
      exact freeX_ent hfree (by simp; exact Ne.symm h5)
  · have := rdl_slots0 k1 s
    rw [hdk3] at this
    exact this
theorem SV.gsls {x : Operand} {id sz : Nat} {l : List D} (h : SV S x (.gsl id sz l)) : SV S x (.slice false l) := fun E β v hv => by
  have := h E β v hv
  cases this with
  | gsl _ _ b len cap _ vs _ hβ hl hc hz hsz hr hv c e f h1 h2 h3 => exact .slice _ _ _ _ _ _ _ _ _ hl hc (by simp) hz hsz hr hv
  | ngsl => exact .nslice _ _
theorem SV.nilss {x : Operand} {f : Bool} (h : SV S x .nils) : SV S x (.slice f []) := fun E β v hv => by
  have := h E β v hv
  cases this; exact .nslice _ _
end
end Go.IL
