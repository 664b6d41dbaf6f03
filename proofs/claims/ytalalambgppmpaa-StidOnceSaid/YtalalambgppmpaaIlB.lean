/-
  A part of the proof: rules and plain facts. No condition.
-/
import Derived.Test.YtalalambgppmpaaIlA
import Derived.TacticsIn
import Derived.OrdersIn
import Derived.RangeFuncCalls
import Derived.RangeFuncLeaves
set_option linter.all false
namespace Go.IL

inductive Ent where
  | none | fresh
  | blk (e : TypeId) (ds : List D)
  | tail (e : TypeId) (sz n : Nat)
  | loop (k : Nat) (ds : List D) (st : LoopState) (pend : Option Code)
  | kept (k : Nat) (ds : List D)
  deriving Inhabited

def Ent.held : Ent → Bool
  | .blk .. | .tail .. | .loop .. => true
  | _ => false

structure Origin where
  w : World
  X : Nat → Nat → Prop
  foot : Nat → Prop
  given : Names
  round : Option Nat
  kv : Nat → List Value
  lv : Nat → Nat
  dv : Nat → List Nat
  lc : Nat → Array Tmp × Code × Code

/-- A call's own walk begins so. -/
structure Origin.Plain (O : Origin) : Prop where
  round : O.round = none
  foot : ∀ b, O.w.heap.size ≤ b → ¬ O.foot b
  dv : ∀ k, O.dv k = []

def Origin.own (O : Origin) (b : Nat) : Prop := O.w.heap.size ≤ b ∨ O.foot b

def EntAt (O : Origin) (E : Env) (β : Names) (id : Nat) : Ent → Prop
  | .none => True
  | .fresh => β id = .none
  | .blk e ds => (β id = .none ∧ ds = []) ∨ ∃ b vs sp, β id = some b ∧ O.own b ∧ E.w.heap[b]? = some (.cells (List.toArray (vs ++ sp)) e (0, 0)) ∧ (∀ o, E.X b o) ∧ RdL E β vs ds
  | .tail e sz n => (β id = .none ∧ n = 0) ∨ ∃ b c, β id = some b ∧ O.own b ∧ E.w.heap[b]? = some (.cells c e (0, 0)) ∧ ∀ o, n * sz ≤ o → E.X b o
  | .loop lk ds st pend => ∃ b r, β id = some b ∧ O.own b ∧ E.w.heap[b]? = some (.loop r) ∧ (∀ o, E.X b o) ∧ r.params = (O.lc lk).1 ∧ r.assign = (O.lc lk).2.1 ∧ r.body = (O.lc lk).2.2 ∧ r.state = st ∧ r.pending = pend ∧ O.lv lk = b ∧ RdL E β r.tmps.toList ds
  | .kept k ds => RdL E β (O.kv k) ds ∧ ∀ b ∈ O.dv k, E.w.heap[b]? = some (.deferred (some []))

structure HOk (O : Origin) (E : Env) (β : Names) (H : Nat → Ent) : Prop where
  os : E.w.os = O.w.os
  tape : E.w.tape = O.w.tape
  output : E.w.output = O.w.output
  size : O.w.heap.size ≤ E.w.heap.size
  block : ∀ k, k < O.w.heap.size → ¬ O.foot k → E.w.heap[k]? = O.w.heap[k]?
  xlt : ∀ b o, E.X b o → b < E.w.heap.size
  xold : ∀ b o, b < O.w.heap.size → ¬ O.foot b → (E.X b o ↔ O.X b o)
  ent : ∀ id, EntAt O E β id (H id)
  inj : ∀ i j b, (H i).held = true → (H j).held = true → β i = some b → β j = some b → i = j
  le : (⟨O.w, O.X⟩ : Env).le E
  gid : ∀ i b, O.given i = some b → 1000 ≤ i
  given : ∀ i b, O.given i = some b → β i = some b

/-- The state: what the slots read as, what is owned. -/
structure St where
  sl : List (Nat × D)
  H : List (Nat × Ent)

def look {α : Type} (z : α) (t : Nat) : List (Nat × α) → α
  | [] => z
  | (s, d) :: r => if s = t then d else look z t r

def St.get (S : St) (t : Nat) : D := look .dead t S.sl
/-- Names from 1000 on are those that a call was handed. -/
def defE (id : Nat) : Ent := if 1000 ≤ id then .none else .fresh
def entL (H : List (Nat × Ent)) (id : Nat) : Ent := look (defE id) id H
def St.ent (S : St) (id : Nat) : Ent := entL S.H id
def St.set (S : St) (t : Nat) (d : D) : St := { S with sl := (t, d) :: S.sl }
def St.setE (S : St) (id : Nat) (e : Ent) : St := { S with H := (id, e) :: S.H }

theorem look_cons {α : Type} (z : α) (t s : Nat) (d : α) (r : List (Nat × α)) : look z t ((s, d) :: r) = if s = t then d else look z t r := rfl

/-- The marks that outermost loops over functions left: nothing was deferred in them. -/
def Marks (O : Origin) (E : Env) (ds : List Deferred) : Prop := ∃ bs : List Nat, ds = bs.map (fun b => { target := .collected b, args := #[] }) ∧ bs.Nodup ∧ ∀ b ∈ bs, (O.w.heap.size ≤ b ∧ ∀ k, b ∉ O.dv k) ∧ E.w.heap[b]? = some (.deferred (some []))
theorem Marks.mono {O : Origin} {E E' : Env} {ds : List Deferred} (h : Marks O E ds) (hd : ∀ b : Nat, E.w.heap[b]? = some (Obj.deferred (some [])) → E'.w.heap[b]? = some (Obj.deferred (some []))) : Marks O E' ds :=
  let ⟨bs, h1, h2, h3⟩ := h; ⟨bs, h1, h2, fun b hb => ⟨(h3 b hb).1, hd b (h3 b hb).2⟩⟩
theorem Marks.nil {O : Origin} {E : Env} : Marks O E [] := ⟨[], rfl, .nil, fun _ h => by cases h⟩
/-- All functions, any depth; in a round, if told. -/
def fen (r : Option Nat) : Fence := { Fence.wide with round := r }

structure Rel (O : Origin) (N : Nat) (S : St) (E : Env) (β : Names) (a : Act) : Prop where
  n : a.tmps.size = N
  nd : Marks O E a.defers
  h : HOk O E β S.ent
  sl : ∀ t, Rd E β (a.tmps.getD t undef) (S.get t)

def IWP (P : Program) (O : Origin) (N : Nat) (c : Code) (S : St) (Q : Exit → St → Prop) : Prop :=
  ∀ E β a, Rel O N S E β a → c.wpIn (fen O.round) 0 P (fun e a' w' => ∃ S' E' β', E'.w = w' ∧ Rel O N S' E' β' a' ∧ Q e S') a E.w

def ILS (P : Program) (O : Origin) (N : Nat) (ops : Array Oper) (l : List Oper) (S : St) (Q : Exit → St → Prop) : Prop :=
  ∀ E β a, Rel O N S E β a → wpListIn (fen O.round) 0 P ops (fun e a' w' => ∃ S' E' β', E'.w = w' ∧ Rel O N S' E' β' a' ∧ Q e S') l a E.w

def IOp (P : Program) (O : Origin) (N : Nat) (o : Oper) (S S' : St) : Prop :=
  ∀ E β a, Rel O N S E β a → ∀ (next : Act → World → Prop) Q, (∀ E' β' a', Rel O N S' E' β' a' → next a' E'.w) → o.wp P a E.w next Q

/-- No call is put off by it. -/
def noDefer : Op → Bool
  | .defer _ => false
  | _ => true
/-- Neither under a guard, nor putting off a call. -/
def quiet (o : Oper) : Bool := o.guard.isNone && noDefer o.op
theorem quiet_iff {o : Oper} (h : quiet o = true) : o.guard = none ∧ noDefer o.op = true := by
  unfold quiet at h
  rw [Bool.and_eq_true] at h
  exact ⟨by simpa using h.1, h.2⟩
theorem noDefer_ne {o : Op} (h : noDefer o = true) : ∀ c, o ≠ .defer c := by rintro c rfl; cases h
theorem wp_in {P : Program} {o : Oper} {a : Act} {w : World} {next : Act → World → Prop} {Q : Exit → Act → World → Prop} (r : Option Nat) (hd : noDefer o.op = true) (h : o.wp P a w next Q) : o.wpIn (fen r) 0 P a w next Q := by
  refine ⟨fun _ _ => trivial, ?_⟩
  unfold Oper.wp at h
  rw [Oper.semAt_eq _ _ _ (noDefer_ne hd)]
  generalize (execOp a.eval o).run P w = x at h
  cases x with
  | ok x w' =>
    cases x
    case enter f args => exact ⟨fun h => by simp [fen, Fence.wide] at h, callsIn_wide (n := 0) |>.2 h⟩
    case row row args => exact ⟨fun h => by simp [fen, Fence.wide] at h, fun c cs _ => let ⟨v, w', r, s⟩ := h c cs; ⟨v, w', r, stepsIn_wide.2 s⟩⟩
    case round => exact False.elim h
    all_goals exact h
  | halt x w' => cases x <;> exact h

section rules
variable {P : Program} {O : Origin} {N : Nat} {S S' : St} {Q Q' : Exit → St → Prop}

theorem iwp_mono {c : Code} (h : IWP P O N c S Q) (hq : ∀ e S, Q e S → Q' e S) : IWP P O N c S Q' :=
  fun E β a hr => wpIn_mono (h E β a hr) fun e a' w' ⟨S', E', β', h1, h2, h3⟩ => ⟨S', E', β', h1, h2, hq _ _ h3⟩

def thenQ (k : St → Prop) (Q : Exit → St → Prop) : Exit → St → Prop
  | .normal, S => k S
  | e, S => Q e S

theorem iwp_seq {x y : Code} (h : IWP P O N x S (thenQ (fun S' => IWP P O N y S' Q) Q)) : IWP P O N (.seq x y) S Q := by
  intro E β a hr
  refine wpIn_seq (wpIn_mono (h E β a hr) ?_)
  rintro e a' w' ⟨S', E', β', rfl, h2, h3⟩
  cases e with
  | normal => exact h3 E' β' a' h2
  | _ => exact ⟨S', E', β', rfl, h2, h3⟩

theorem iwp_skip (h : Q .normal S) : IWP P O N .skip S Q := fun E β _ hr => wpIn_skip ⟨S, E, β, rfl, hr, h⟩
theorem iwp_label {l : Nat} (h : Q .normal S) : IWP P O N (.label l) S Q := fun E β _ hr => wpIn_label ⟨S, E, β, rfl, hr, h⟩
theorem iwp_exit {i : Nat} (h : Q (.exit i) S) : IWP P O N (.exit i) S Q := fun E β _ hr => wpIn_exit ⟨S, E, β, rfl, hr, h⟩
theorem iwp_goto {l : Nat} (h : Q (.goto l) S) : IWP P O N (.goto l) S Q := fun E β _ hr => wpIn_goto ⟨S, E, β, rfl, hr, h⟩
theorem iwp_ret (h : Q .ret S) : IWP P O N .ret S Q := fun E β _ hr => wpIn_ret ⟨S, E, β, rfl, hr, h⟩

def blockQ (i : Nat) (Q : Exit → St → Prop) : Exit → St → Prop
  | .exit j, S => if j = i then Q .normal S else Q (.exit j) S
  | e, S => Q e S

theorem iwp_block {i : Nat} {c : Code} (h : IWP P O N c S (blockQ i Q)) : IWP P O N (.block i c) S Q := by
  intro E β a hr
  refine wpIn_block (wpIn_mono (h E β a hr) ?_)
  rintro e a' w' ⟨S', E', β', rfl, h2, h3⟩
  cases e with
  | exit j =>
    simp only [Exit.inBlock, blockQ] at h3 ⊢
    split
    · rename_i hj; rw [if_pos hj] at h3; exact ⟨S', E', β', rfl, h2, h3⟩
    · rename_i hj; rw [if_neg hj] at h3; exact ⟨S', E', β', rfl, h2, h3⟩
  | _ => exact ⟨S', E', β', rfl, h2, h3⟩

theorem iwp_loop {c : Code} (I : St → Prop) (μ : St → Nat) (h0 : I S)
    (round : ∀ S, I S → IWP P O N c S (thenQ (fun S' => I S' ∧ μ S' < μ S) Q)) : IWP P O N (.loop c) S Q := by
  intro E β a hr b k cs hro hb hroom
  have key : ∀ n S E β a, μ S = n → I S → Rel O N S E β a →
      ∃ e a' w', (∃ S' E' β', E'.w = w' ∧ Rel O N S' E' β' a' ∧ Q e S') ∧ ArrivesIn (Machine.fenced P (fen O.round)) P (lone (b.atR a (.code c :: .inLoop c :: k)) cs E.w) b k cs e a' w' := by
    intro n
    induction n using Nat.strongRecOn with
    | _ n ih =>
      intro S E β a hn hI hr
      obtain ⟨e, a₁, w₁, ⟨S₁, E₁, β₁, rfl, hr₁, hq⟩, harr⟩ := round S hI E β a hr b (.inLoop c :: k) cs hro hb hroom
      cases e with
      | normal =>
        obtain ⟨hI₁, hlt⟩ := hq
        obtain ⟨e₂, a₂, w₂, hq₂, harr₂⟩ := ih (μ S₁) (hn ▸ hlt) S₁ E₁ β₁ a₁ rfl hI₁ hr₁
        exact ⟨e₂, a₂, w₂, hq₂, .of_steps (StepsIn.trans harr (.one (fenced_calm hb hroom rfl) stepR_inLoop)) harr₂⟩
      | exit id => exact ⟨_, a₁, _, ⟨S₁, E₁, β₁, rfl, hr₁, hq⟩, .pass (x := .inLoop c) rfl (fun _ _ => .inl (by simp)) harr⟩
      | goto l => exact ⟨_, a₁, _, ⟨S₁, E₁, β₁, rfl, hr₁, hq⟩, .pass (x := .inLoop c) rfl (fun _ _ => .inl (by simp)) harr⟩
      | ret => exact ⟨_, a₁, _, ⟨S₁, E₁, β₁, rfl, hr₁, hq⟩, .pass (x := .inLoop c) rfl (fun _ _ => .inl (by simp)) harr⟩
      | panic ch => exact ⟨_, a₁, _, ⟨S₁, E₁, β₁, rfl, hr₁, hq⟩, .pass (x := .inLoop c) rfl (fun _ _ => .inl (by simp)) harr⟩
      | outgrown => exact ⟨_, a₁, _, ⟨S₁, E₁, β₁, rfl, hr₁, hq⟩, .pass (x := .inLoop c) rfl (fun _ _ => .inl (by simp)) harr⟩
  obtain ⟨e, a', w', hq, harr⟩ := key _ S E β a rfl h0 hr
  exact ⟨e, a', w', hq, .of_steps (.one (fenced_calm hb hroom rfl) stepR_loop) harr⟩

theorem iwp_region {id : Nat} {l : List Oper} (h : ILS P O N l.toArray l S Q) : IWP P O N (.region id l.toArray false) S Q :=
  fun E β a hr => wpIn_region_lit (h E β a hr)

theorem ils_nil {ops : Array Oper} (h : Q .normal S) : ILS P O N ops [] S Q := fun E β _ hr => ⟨S, E, β, rfl, hr, h⟩

theorem ils_cons {ops : Array Oper} {o : Oper} {l : List Oper} (hg : quiet o = true) (h : IOp P O N o S S') (k : ILS P O N ops l S' Q) : ILS P O N ops (o :: l) S Q :=
  fun E β a hr => wpListIn_plain (quiet_iff hg).1 fun _ hK => wp_in _ (quiet_iff hg).2 (h E β a hr _ _ fun E' β' a' hr' => hK _ _ (k E' β' a' hr'))

theorem Rel.set {E : Env} {β : Names} {a : Act} (h : Rel O N S E β a) {t : Nat} (ht : t < N) {v : Value} {d : D} (hv : Rd E β v d) : Rel O N (S.set t d) E β (a.put (some t) v) := by
  refine ⟨by simp [Act.put, h.n], h.nd, h.h, fun s => ?_⟩
  have hs : t < a.tmps.size := h.n ▸ ht
  by_cases hst : t = s
  · subst hst; simpa [Act.put, St.get, St.set, look_cons, hs] using hv
  · have := h.sl s
    simpa [Act.put, St.get, St.set, look_cons, hst, Array.getElem?_setIfInBounds_ne] using this

/-- An operation that leaves the world. -/
theorem iop_of {o : Oper} {t : Nat} {d : D} (hd : o.dst = some t) (ht : t < N)
    (h : ∀ E β a, Rel O N S E β a → ∃ v, (execOp a.eval o).run P E.w = .ok (.value v) E.w ∧ Rd E β v d) : IOp P O N o S (S.set t d) := by
  intro E β a hr next Q hn
  obtain ⟨v, hv, hd'⟩ := h E β a hr
  unfold Oper.wp
  rw [hv]
  simp only [Oper.upon, hd]
  exact hn _ _ _ (hr.set ht hd')

theorem Rel.cndT {E : Env} {β : Names} {a : Act} {t : Nat} {d : D} (h : Rel O N (S.set t d) E β a) : Rel O N (S.set t (.cnd true d)) E β a := by
  refine ⟨h.n, h.nd, h.h, fun s => ?_⟩
  have := h.sl s
  by_cases hst : t = s
  · subst hst
    simp only [St.get, St.set, look_cons, if_true] at this ⊢
    exact .cnd _ _ _ _ (fun _ => this) (fun h => by cases h)
  · simpa [St.get, St.set, look_cons, hst] using this

/-- What a guard's slot tells: a bool, or (under a guard of its own) a bool or nothing. -/
inductive Grd (S : St) (tj : Nat) (want : Bool) : Bool → Prop
  | one {b} (h : S.get tj = .bool b) : Grd S tj want (b == want)
  | two {c b} (h : S.get tj = .cnd c (.bool b)) : Grd S tj want (c && (b == want))

theorem Grd.yields {E : Env} {β : Names} {a : Act} (hr : Rel O N S E β a) {ops : Array Oper} {j tj : Nat} {want g : Bool} (hg : Grd S tj want g) (hj : (ops[j]?).bind (·.dst) = some tj) {o : Oper} (ho : o.guard = some (j, want)) :
    Region.wanted o (yielded ops a.tmps) = g := by
  have hv := hr.sl tj
  have bool : ∀ b, Rd E β (a.tmps.getD tj undef) (.bool b) → yielded ops a.tmps j = some b := by
    intro b hv
    have htj : a.tmps[tj]? = some (.bool b) := by
      generalize hgd : a.tmps.getD tj undef = v at hv
      cases hv
      cases hh : a.tmps[tj]? with
      | none => simp [hh, undef] at hgd
      | some x => simp [hh] at hgd; rw [hgd]
    simp [yielded, hj, htj]
  cases hg with
  | @one b h =>
    rw [h] at hv
    simp only [Region.wanted, ho, bool b hv]
    cases b <;> cases want <;> rfl
  | @two c b h =>
    rw [h] at hv
    have hcn : (c = true → Rd E β (a.tmps.getD tj undef) (.bool b)) ∧ (c = false → a.tmps.getD tj undef = undef) := by
      generalize a.tmps.getD tj undef = v at hv
      cases hv with
      | cnd _ _ _ _ h1 h2 => exact ⟨h1, h2⟩
    obtain ⟨h1, h2⟩ := hcn
    cases c with
    | true =>
      simp only [Region.wanted, ho, bool b (h1 rfl)]
      cases b <;> cases want <;> rfl
    | false =>
      have hu := h2 rfl
      have : yielded ops a.tmps j = none := by
        simp only [yielded, hj, Option.bind_some]
        cases hh : a.tmps[tj]? with
        | none => rfl
        | some x => simp [hh] at hu; subst hu; rfl
      simp only [Region.wanted, ho, this]
      cases b <;> cases want <;> rfl

/-- An operation under a guard. -/
theorem ils_guard {ops : Array Oper} {o : Oper} {l : List Oper} {j tj t : Nat} {want g : Bool} {d : D} (hg : o.guard = some (j, want)) (hj : (ops[j]?).bind (·.dst) = some tj)
    (hb : Grd S tj want g) (hd : (o.dst, noDefer o.op) = (some t, true)) (ht : t < N) (h : g = true → IOp P O N o S (S.set t d)) (k : ILS P O N ops l (S.set t (.cnd g d)) Q) : ILS P O N ops (o :: l) S Q := by
  obtain ⟨hd, hnd⟩ := Prod.mk.inj hd
  intro E β a hr
  have hwant := hb.yields hr hj hg
  refine wpListIn_step fun K hK => ?_
  rw [hwant]
  cases g with
  | true =>
    simp only [if_true]
    exact wp_in _ hnd (h rfl E β a hr _ _ fun E' β' a' hr' => hK _ _ (k E' β' a' hr'.cndT))
  | false =>
    simp only [Bool.false_eq_true, if_false, hd]
    exact ⟨fun _ _ => trivial, hK _ _ (k E β _ (hr.set ht (.cnd _ _ _ _ (fun h => by cases h) fun _ => rfl)))⟩

end rules
end Go.IL
