/-
  A part of the proof: rules and plain facts. No condition.
-/
import Derived.Test.YtleninhggapmeaaIlA
set_option linter.all false
namespace Go.IL

inductive Ent where
  | none | fresh
  | blk (e : TypeId) (ds : List D)
  | tail (e : TypeId) (sz n : Nat)
  deriving Inhabited

def Ent.held : Ent → Bool
  | .blk .. | .tail .. => true
  | _ => false

structure Origin where
  w : World
  X : Nat → Nat → Prop
  foot : Nat → Prop
  given : Names

def Origin.own (O : Origin) (b : Nat) : Prop := O.w.heap.size ≤ b ∨ O.foot b

def EntAt (O : Origin) (E : Env) (β : Names) (id : Nat) : Ent → Prop
  | .none => True
  | .fresh => β id = .none
  | .blk e ds => (β id = .none ∧ ds = []) ∨ ∃ b vs sp, β id = some b ∧ O.own b ∧ E.w.heap[b]? = some (.cells (List.toArray (vs ++ sp)) e (0, 0)) ∧ (∀ o, E.X b o) ∧ RdL E β vs ds
  | .tail e sz n => (β id = .none ∧ n = 0) ∨ ∃ b c, β id = some b ∧ O.own b ∧ E.w.heap[b]? = some (.cells c e (0, 0)) ∧ ∀ o, n * sz ≤ o → E.X b o

structure HOk (O : Origin) (E : Env) (β : Names) (H : Nat → Ent) : Prop where
  os : E.w.os = O.w.os
  tape : E.w.tape = O.w.tape
  output : E.w.output = O.w.output
  size : O.w.heap.size ≤ E.w.heap.size
  block : ∀ k, k < O.w.heap.size → ¬ O.foot k → E.w.heap[k]? = O.w.heap[k]?
  xlt : ∀ b o, E.X b o → b < E.w.heap.size
  xold : ∀ b o, b < O.w.heap.size → ¬ O.foot b → (E.X b o ↔ O.X b o)
  ent : ∀ id, EntAt O E β id (H id)
  inj : ∀ i j b, (H i).held = true → (H j).held = true → β i = some b → β j = some b → i = j
  le : (⟨O.w, O.X⟩ : Env).le E
  gid : ∀ i b, O.given i = some b → 1000 ≤ i
  given : ∀ i b, O.given i = some b → β i = some b

/-- The state: what the slots read as, what is owned. -/
structure St where
  sl : List (Nat × D)
  H : List (Nat × Ent)

def look {α : Type} (z : α) (t : Nat) : List (Nat × α) → α
  | [] => z
  | (s, d) :: r => if s = t then d else look z t r

def St.get (S : St) (t : Nat) : D := look .dead t S.sl
/-- Names from 1000 on are those that a call was handed. -/
def defE (id : Nat) : Ent := if 1000 ≤ id then .none else .fresh
def entL (H : List (Nat × Ent)) (id : Nat) : Ent := look (defE id) id H
def St.ent (S : St) (id : Nat) : Ent := entL S.H id
def St.set (S : St) (t : Nat) (d : D) : St := { S with sl := (t, d) :: S.sl }
def St.setE (S : St) (id : Nat) (e : Ent) : St := { S with H := (id, e) :: S.H }

theorem look_cons {α : Type} (z : α) (t s : Nat) (d : α) (r : List (Nat × α)) : look z t ((s, d) :: r) = if s = t then d else look z t r := rfl

structure Rel (O : Origin) (N : Nat) (S : St) (E : Env) (β : Names) (a : Act) : Prop where
  n : a.tmps.size = N
  nd : a.defers = []
  h : HOk O E β S.ent
  sl : ∀ t, Rd E β (a.tmps.getD t undef) (S.get t)

def IWP (P : Program) (O : Origin) (N : Nat) (c : Code) (S : St) (Q : Exit → St → Prop) : Prop :=
  ∀ E β a, Rel O N S E β a → c.wp P (fun e a' w' => ∃ S' E' β', E'.w = w' ∧ Rel O N S' E' β' a' ∧ Q e S') a E.w

def ILS (P : Program) (O : Origin) (N : Nat) (ops : Array Oper) (l : List Oper) (S : St) (Q : Exit → St → Prop) : Prop :=
  ∀ E β a, Rel O N S E β a → wpList P ops (fun e a' w' => ∃ S' E' β', E'.w = w' ∧ Rel O N S' E' β' a' ∧ Q e S') l a E.w

def IOp (P : Program) (O : Origin) (N : Nat) (o : Oper) (S S' : St) : Prop :=
  ∀ E β a, Rel O N S E β a → ∀ (next : Act → World → Prop) Q, (∀ E' β' a', Rel O N S' E' β' a' → next a' E'.w) → o.wp P a E.w next Q

section rules
variable {P : Program} {O : Origin} {N : Nat} {S S' : St} {Q Q' : Exit → St → Prop}

theorem iwp_mono {c : Code} (h : IWP P O N c S Q) (hq : ∀ e S, Q e S → Q' e S) : IWP P O N c S Q' :=
  fun E β a hr => wp_mono (h E β a hr) fun e a' w' ⟨S', E', β', h1, h2, h3⟩ => ⟨S', E', β', h1, h2, hq _ _ h3⟩

def thenQ (k : St → Prop) (Q : Exit → St → Prop) : Exit → St → Prop
  | .normal, S => k S
  | e, S => Q e S

theorem iwp_seq {x y : Code} (h : IWP P O N x S (thenQ (fun S' => IWP P O N y S' Q) Q)) : IWP P O N (.seq x y) S Q := by
  intro E β a hr
  refine wp_seq (wp_mono (h E β a hr) ?_)
  rintro e a' w' ⟨S', E', β', rfl, h2, h3⟩
  cases e with
  | normal => exact h3 E' β' a' h2
  | _ => exact ⟨S', E', β', rfl, h2, h3⟩

theorem iwp_skip (h : Q .normal S) : IWP P O N .skip S Q := fun E β _ hr => wp_skip ⟨S, E, β, rfl, hr, h⟩
theorem iwp_label {l : Nat} (h : Q .normal S) : IWP P O N (.label l) S Q := fun E β _ hr => wp_label ⟨S, E, β, rfl, hr, h⟩
theorem iwp_exit {i : Nat} (h : Q (.exit i) S) : IWP P O N (.exit i) S Q := fun E β _ hr => wp_exit ⟨S, E, β, rfl, hr, h⟩
theorem iwp_goto {l : Nat} (h : Q (.goto l) S) : IWP P O N (.goto l) S Q := fun E β _ hr => wp_goto ⟨S, E, β, rfl, hr, h⟩
theorem iwp_ret (h : Q .ret S) : IWP P O N .ret S Q := fun E β _ hr => wp_ret ⟨S, E, β, rfl, hr, h⟩

def blockQ (i : Nat) (Q : Exit → St → Prop) : Exit → St → Prop
  | .exit j, S => if j = i then Q .normal S else Q (.exit j) S
  | e, S => Q e S

theorem iwp_block {i : Nat} {c : Code} (h : IWP P O N c S (blockQ i Q)) : IWP P O N (.block i c) S Q := by
  intro E β a hr
  refine wp_block (wp_mono (h E β a hr) ?_)
  rintro e a' w' ⟨S', E', β', rfl, h2, h3⟩
  cases e with
  | exit j =>
    simp only [Exit.inBlock, blockQ] at h3 ⊢
    split
    · rename_i hj; rw [if_pos hj] at h3; exact ⟨S', E', β', rfl, h2, h3⟩
    · rename_i hj; rw [if_neg hj] at h3; exact ⟨S', E', β', rfl, h2, h3⟩
  | _ => exact ⟨S', E', β', rfl, h2, h3⟩

theorem iwp_loop {c : Code} (I : St → Prop) (μ : St → Nat) (h0 : I S)
    (round : ∀ S, I S → IWP P O N c S (thenQ (fun S' => I S' ∧ μ S' < μ S) Q)) : IWP P O N (.loop c) S Q := by
  intro E β a hr b k cs
  have key : ∀ n S E β a, μ S = n → I S → Rel O N S E β a →
      ∃ e a' w', (∃ S' E' β', E'.w = w' ∧ Rel O N S' E' β' a' ∧ Q e S') ∧ Arrives P (lone (b.at a (.code c :: .inLoop c :: k)) cs E.w) b k cs e a' w' := by
    intro n
    induction n using Nat.strongRecOn with
    | _ n ih =>
      intro S E β a hn hI hr
      obtain ⟨e, a₁, w₁, ⟨S₁, E₁, β₁, rfl, hr₁, hq⟩, harr⟩ := round S hI E β a hr b (.inLoop c :: k) cs
      cases e with
      | normal =>
        obtain ⟨hI₁, hlt⟩ := hq
        obtain ⟨e₂, a₂, w₂, hq₂, harr₂⟩ := ih (μ S₁) (hn ▸ hlt) S₁ E₁ β₁ a₁ rfl hI₁ hr₁
        exact ⟨e₂, a₂, w₂, hq₂, .of_steps (Steps.trans harr (.one step_inLoop)) harr₂⟩
      | exit id => exact ⟨_, a₁, _, ⟨S₁, E₁, β₁, rfl, hr₁, hq⟩, .pass (x := .inLoop c) rfl (fun _ _ => .inl (by simp)) harr⟩
      | goto l => exact ⟨_, a₁, _, ⟨S₁, E₁, β₁, rfl, hr₁, hq⟩, .pass (x := .inLoop c) rfl (fun _ _ => .inl (by simp)) harr⟩
      | ret => exact ⟨_, a₁, _, ⟨S₁, E₁, β₁, rfl, hr₁, hq⟩, .pass (x := .inLoop c) rfl (fun _ _ => .inl (by simp)) harr⟩
      | panic ch => exact ⟨_, a₁, _, ⟨S₁, E₁, β₁, rfl, hr₁, hq⟩, .pass (x := .inLoop c) rfl (fun _ _ => .inl (by simp)) harr⟩
      | outgrown => exact ⟨_, a₁, _, ⟨S₁, E₁, β₁, rfl, hr₁, hq⟩, .pass (x := .inLoop c) rfl (fun _ _ => .inl (by simp)) harr⟩
  obtain ⟨e, a', w', hq, harr⟩ := key _ S E β a rfl h0 hr
  exact ⟨e, a', w', hq, .of_steps (.one step_loop) harr⟩

theorem iwp_region {id : Nat} {l : List Oper} (h : ILS P O N l.toArray l S Q) : IWP P O N (.region id l.toArray false) S Q :=
  fun E β a hr => wp_region_lit (h E β a hr)

theorem ils_nil {ops : Array Oper} (h : Q .normal S) : ILS P O N ops [] S Q := fun E β _ hr => ⟨S, E, β, rfl, hr, h⟩

theorem ils_cons {ops : Array Oper} {o : Oper} {l : List Oper} (hg : o.guard = none) (h : IOp P O N o S S') (k : ILS P O N ops l S' Q) : ILS P O N ops (o :: l) S Q :=
  fun E β a hr => wpList_plain hg fun _ hK => h E β a hr _ _ fun E' β' a' hr' => hK _ _ (k E' β' a' hr')

theorem Rel.set {E : Env} {β : Names} {a : Act} (h : Rel O N S E β a) {t : Nat} (ht : t < N) {v : Value} {d : D} (hv : Rd E β v d) : Rel O N (S.set t d) E β (a.put (some t) v) := by
  refine ⟨by simp [Act.put, h.n], h.nd, h.h, fun s => ?_⟩
  have hs : t < a.tmps.size := h.n ▸ ht
  by_cases hst : t = s
  · subst hst; simpa [Act.put, St.get, St.set, look_cons, hs] using hv
  · have := h.sl s
    simpa [Act.put, St.get, St.set, look_cons, hst, Array.getElem?_setIfInBounds_ne] using this

/-- An operation that leaves the world. -/
theorem iop_of {o : Oper} {t : Nat} {d : D} (hd : o.dst = some t) (ht : t < N)
    (h : ∀ E β a, Rel O N S E β a → ∃ v, (execOp a.eval o).run P E.w = .ok (.value v) E.w ∧ Rd E β v d) : IOp P O N o S (S.set t d) := by
  intro E β a hr next Q hn
  obtain ⟨v, hv, hd'⟩ := h E β a hr
  unfold Oper.wp
  rw [hv]
  simp only [Oper.upon, hd]
  exact hn _ _ _ (hr.set ht hd')

theorem Rel.cndT {E : Env} {β : Names} {a : Act} {t : Nat} {d : D} (h : Rel O N (S.set t d) E β a) : Rel O N (S.set t (.cnd true d)) E β a := by
  refine ⟨h.n, h.nd, h.h, fun s => ?_⟩
  have := h.sl s
  by_cases hst : t = s
  · subst hst
    simp only [St.get, St.set, look_cons, if_true] at this ⊢
    exact .cnd _ _ _ _ (fun _ => this) (fun h => by cases h)
  · simpa [St.get, St.set, look_cons, hst] using this

/-- What a guard's slot tells: a bool, or (under a guard of its own) a bool or nothing. -/
inductive Grd (S : St) (tj : Nat) (want : Bool) : Bool → Prop
  | one {b} (h : S.get tj = .bool b) : Grd S tj want (b == want)
  | two {c b} (h : S.get tj = .cnd c (.bool b)) : Grd S tj want (c && (b == want))

theorem Grd.yields {E : Env} {β : Names} {a : Act} (hr : Rel O N S E β a) {ops : Array Oper} {j tj : Nat} {want g : Bool} (hg : Grd S tj want g) (hj : (ops[j]?).bind (·.dst) = some tj) {o : Oper} (ho : o.guard = some (j, want)) :
    Region.wanted o (yielded ops a.tmps) = g := by
  have hv := hr.sl tj
  have bool : ∀ b, Rd E β (a.tmps.getD tj undef) (.bool b) → yielded ops a.tmps j = some b := by
    intro b hv
    have htj : a.tmps[tj]? = some (.bool b) := by
      generalize hgd : a.tmps.getD tj undef = v at hv
      cases hv
      cases hh : a.tmps[tj]? with
      | none => simp [hh, undef] at hgd
      | some x => simp [hh] at hgd; rw [hgd]
    simp [yielded, hj, htj]
  cases hg with
  | @one b h =>
    rw [h] at hv
    simp only [Region.wanted, ho, bool b hv]
    cases b <;> cases want <;> rfl
  | @two c b h =>
    rw [h] at hv
    have hcn : (c = true → Rd E β (a.tmps.getD tj undef) (.bool b)) ∧ (c = false → a.tmps.getD tj undef = undef) := by
      generalize a.tmps.getD tj undef = v at hv
      cases hv with
      | cnd _ _ _ _ h1 h2 => exact ⟨h1, h2⟩
    obtain ⟨h1, h2⟩ := hcn
    cases c with
    | true =>
      simp only [Region.wanted, ho, bool b (h1 rfl)]
      cases b <;> cases want <;> rfl
    | false =>
      have hu := h2 rfl
      have : yielded ops a.tmps j = none := by
        simp only [yielded, hj, Option.bind_some]
        cases hh : a.tmps[tj]? with
        | none => rfl
        | some x => simp [hh] at hu; subst hu; rfl
      simp only [Region.wanted, ho, this]
      cases b <;> cases want <;> rfl

/-- An operation under a guard. -/
theorem ils_guard {ops : Array Oper} {o : Oper} {l : List Oper} {j tj t : Nat} {want g : Bool} {d : D} (hg : o.guard = some (j, want)) (hj : (ops[j]?).bind (·.dst) = some tj)
    (hb : Grd S tj want g) (hd : o.dst = some t) (ht : t < N) (h : g = true → IOp P O N o S (S.set t d)) (k : ILS P O N ops l (S.set t (.cnd g d)) Q) : ILS P O N ops (o :: l) S Q := by
  intro E β a hr
  have hwant := hb.yields hr hj hg
  refine wpList_step fun K hK => ?_
  rw [hwant]
  cases g with
  | true =>
    simp only [if_true]
    exact h rfl E β a hr _ _ fun E' β' a' hr' => hK _ _ (k E' β' a' hr'.cndT)
  | false =>
    simp only [Bool.false_eq_true, if_false, hd]
    exact hK _ _ (k E β _ (hr.set ht (.cnd _ _ _ _ (fun h => by cases h) fun _ => rfl)))

end rules
end Go.IL
