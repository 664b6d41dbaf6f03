/-
  A part of the proof: rules and plain facts. No condition.
-/
import Derived.Test.YtalalambgppmpaaIlC
set_option linter.all false
namespace Go.IL

/-- Fits an entry at a block. -/
def EntOk (O : Origin) (E : Env) (β : Names) (b : Nat) : Ent → Prop
  | .none | .fresh => False
  | .blk e ds => ∃ vs sp, E.w.heap[b]? = some (.cells (List.toArray (vs ++ sp)) e (0, 0)) ∧ (∀ o, E.X b o) ∧ RdL E β vs ds
  | .tail e sz n => ∃ c, E.w.heap[b]? = some (.cells c e (0, 0)) ∧ ∀ o, n * sz ≤ o → E.X b o
  | .loop lk ds st pend => ∃ r, E.w.heap[b]? = some (.loop r) ∧ (∀ o, E.X b o) ∧ r.params = (O.lc lk).1 ∧ r.assign = (O.lc lk).2.1 ∧ r.body = (O.lc lk).2.2 ∧ r.state = st ∧ r.pending = pend ∧ O.lv lk = b ∧ RdL E β r.tmps.toList ds
  | .kept .. => False

theorem EntOk.at {O : Origin} {E : Env} {β : Names} {b id : Nat} {e : Ent} (h : EntOk O E β b e) (hb : β id = some b) (ho : O.own b) : EntAt O E β id e := by
  cases e with
  | none => exact h.elim
  | fresh => exact h.elim
  | blk e ds => obtain ⟨vs, sp, h1, h2, h3⟩ := h; exact .inr ⟨b, vs, sp, hb, ho, h1, h2, h3⟩
  | tail e sz n => obtain ⟨c, h1, h2⟩ := h; exact .inr ⟨b, c, hb, ho, h1, h2⟩
  | loop lk ds st pend => obtain ⟨r, h1, h2⟩ := h; exact ⟨b, r, hb, ho, h1, h2⟩
  | kept k ds => exact h.elim

theorem blk_at {O : Origin} {E : Env} {β : Names} {id b : Nat} {e : TypeId} {ds : List D} (h : EntAt O E β id (.blk e ds)) (hb : β id = some b) :
    ∃ vs sp, O.own b ∧ E.w.heap[b]? = some (.cells (List.toArray (vs ++ sp)) e (0, 0)) ∧ (∀ o, E.X b o) ∧ RdL E β vs ds := by
  rcases h with ⟨h1, _⟩ | ⟨b', vs, sp, h1, h2, h3, h4, h5⟩
  · rw [hb] at h1; cases h1
  · rw [hb] at h1; cases h1; exact ⟨vs, sp, h2, h3, h4, h5⟩

/-- The step from one world to the next: one block is new, or written; one name is given (or given anew). -/
structure Step (O : Origin) (E E' : Env) (b : Nat) : Prop where
  os : E'.w.os = E.w.os
  tape : E'.w.tape = E.w.tape
  output : E'.w.output = E.w.output
  size : E.w.heap.size ≤ E'.w.heap.size
  lt : b < E'.w.heap.size
  own : O.own b
  block : ∀ k, k < E.w.heap.size → k ≠ b → E'.w.heap[k]? = E.w.heap[k]?
  X : ∀ k o, k ≠ b → (E'.X k o ↔ E.X k o)
  dfr : ∀ ds, E.w.heap[b]? ≠ some (.deferred ds)

theorem World.cell_block {w w' : World} {b o : Nat} (h : w'.heap[b]? = w.heap[b]?) : w'.cell? ⟨b, o, none⟩ = w.cell? ⟨b, o, none⟩ := by
  simp [World.cell?, h]

theorem heap_lt {w : World} {b : Nat} {o : Obj} (h : w.heap[b]? = some o) : b < w.heap.size := (Array.getElem?_eq_some_iff.1 h).1

/-- Where the one block's cells that may be looked at stay, all that may be looked at stays. -/
theorem Step.le {O : Origin} {E E' : Env} {b : Nat} (h : Step O E E' b)
    (hc : ∀ o v, E.w.cell? ⟨b, o, none⟩ = some v → ¬ E.X b o → E'.w.cell? ⟨b, o, none⟩ = some v ∧ ¬ E'.X b o)
    (hz : ∀ (c : Array Value) (e : TypeId) (f : Nat × Nat), E.w.heap[b]? = some (Obj.cells c e f) → ∃ (c' : Array Value) (f' : Nat × Nat), E'.w.heap[b]? = some (Obj.cells c' e f') ∧ c'.size = c.size) : E.le E' := by
  constructor
  · intro k o v h1 h2
    by_cases hk : k = b
    · subst hk; exact hc o v h1 h2
    · have hlt : k < E.w.heap.size := World.block_lt_of_cell? _ _ h1
      exact ⟨(World.cell_block (h.block k hlt hk)).trans h1, fun h3 => h2 ((h.X k o hk).1 h3)⟩
  · intro k c e f h1
    by_cases hk : k = b
    · subst hk; exact hz c e f h1
    · exact ⟨c, f, (h.block k (heap_lt h1) hk).trans h1, rfl⟩

theorem Marks.step {O : Origin} {E E' : Env} {b : Nat} {ds : List Deferred} (h : Marks O E ds) (hs : Step O E E' b) : Marks O E' ds := h.mono fun k h1 => by
  by_cases hk : k = b
  · subst hk; exact absurd h1 (hs.dfr _)
  · exact (hs.block k (heap_lt h1) hk).trans h1
theorem HOk.nodef {O : Origin} {E : Env} {β : Names} {H : Nat → Ent} (h : HOk O E β H) {j b : Nat} (hh : (H j).held = true) (hb : β j = some b) (ds : Option (List Deferred)) : E.w.heap[b]? ≠ some (.deferred ds) := by
  intro hx
  have he := h.ent j
  cases hH : H j with
  | none => rw [hH] at hh; cases hh
  | fresh => rw [hH] at hh; cases hh
  | kept k ds => rw [hH] at hh; cases hh
  | blk e ds =>
    rw [hH] at he
    rcases he with ⟨h3, _⟩ | ⟨k, vs, sp, h3, _, h5, _⟩
    · rw [hb] at h3; cases h3
    · rw [hb] at h3; cases h3; rw [hx] at h5; cases h5
  | tail e sz n =>
    rw [hH] at he
    rcases he with ⟨h3, _⟩ | ⟨k, c, h3, _, h5, _⟩
    · rw [hb] at h3; cases h3
    · rw [hb] at h3; cases h3; rw [hx] at h5; cases h5
  | loop lk ds st pend =>
    rw [hH] at he
    obtain ⟨k, r, h3, _, h5, _⟩ := he
    rw [hb] at h3; cases h3; rw [hx] at h5; cases h5
theorem HOk.own {O : Origin} {E : Env} {β : Names} {H : Nat → Ent} (h : HOk O E β H) {j b : Nat} (hh : (H j).held = true) (hb : β j = some b) : O.own b := by
  have he := h.ent j
  cases hH : H j with
  | none => rw [hH] at hh; cases hh
  | fresh => rw [hH] at hh; cases hh
  | kept k ds => rw [hH] at hh; cases hh
  | blk e ds => rw [hH] at he; obtain ⟨_, _, g2, _⟩ := blk_at he hb; exact g2
  | tail e sz n =>
    rw [hH] at he
    rcases he with ⟨h3, _⟩ | ⟨k, c, h3, h4, _⟩
    · rw [hb] at h3; cases h3
    · rw [hb] at h3; cases h3; exact h4
  | loop lk ds st pend =>
    rw [hH] at he
    obtain ⟨k, r, h3, h4, _⟩ := he
    rw [hb] at h3; cases h3; exact h4
theorem HOk.lt {O : Origin} {E : Env} {β : Names} {H : Nat → Ent} (h : HOk O E β H) {j b : Nat} (hh : (H j).held = true) (hb : β j = some b) : b < E.w.heap.size := by
  have he := h.ent j
  cases hH : H j with
  | none => rw [hH] at hh; cases hh
  | fresh => rw [hH] at hh; cases hh
  | kept k ds => rw [hH] at hh; cases hh
  | blk e ds =>
    rw [hH] at he
    rcases he with ⟨h3, _⟩ | ⟨k, vs, sp, h3, _, h5, _⟩
    · rw [hb] at h3; cases h3
    · rw [hb] at h3; cases h3; exact heap_lt h5
  | tail e sz n =>
    rw [hH] at he
    rcases he with ⟨h3, _⟩ | ⟨k, c, h3, _, h5, _⟩
    · rw [hb] at h3; cases h3
    · rw [hb] at h3; cases h3; exact heap_lt h5
  | loop lk ds st pend =>
    rw [hH] at he
    obtain ⟨k, r, h3, _, h5, _⟩ := he
    rw [hb] at h3; cases h3; exact heap_lt h5

/-- What is owned stays, and one name is given. -/
theorem HOk.put {O : Origin} {E E' : Env} {β β' : Names} {H H' : Nat → Ent} {b id : Nat} (h : HOk O E β H) (hs : Step O E E' b) (hle : E.le E') (hβ : β.le β')
    (hother : ∀ j, j ≠ id → (H' j = H j ∧ (β' j = β j)) ∨ H' j = .none)
    (hapart : ∀ j, j ≠ id → (H' j).held = true → β j ≠ some b)
    (hid : β' id = some b) (hent : EntOk O E' β' b (H' id)) (_hx : ∀ o, E'.X b o → True) : HOk O E' β' H' where
  os := hs.os.trans h.os
  tape := hs.tape.trans h.tape
  output := hs.output.trans h.output
  size := Nat.le_trans h.size hs.size
  block k hk hf := by
    have hne : k ≠ b := by
      rintro rfl
      rcases hs.own with h1 | h1
      · omega
      · exact hf h1
    exact (hs.block k (by have := h.size; omega) hne).trans (h.block k hk hf)
  xlt k o hX := by
    by_cases hk : k = b
    · subst hk; exact hs.lt
    · exact Nat.lt_of_lt_of_le (h.xlt k o ((hs.X k o hk).1 hX)) hs.size
  xold k o hk hf := by
    have hne : k ≠ b := by
      rintro rfl
      rcases hs.own with h1 | h1
      · omega
      · exact hf h1
    exact (hs.X k o hne).trans (h.xold k o hk hf)
  ent j := by
    by_cases hj : j = id
    · subst hj; exact hent.at hid hs.own
    · rcases hother j hj with ⟨h1, h2⟩ | h1
      · have hap := hapart j hj
        rw [h1] at hap ⊢
        have he := h.ent j
        cases hH : H j with
        | none => trivial
        | fresh => rw [hH] at he; exact h2.trans he
        | blk e ds =>
          rw [hH] at he hap
          rcases he with ⟨h3, h4⟩ | ⟨k, vs, sp, h3, h4, h5, h6, h7⟩
          · exact .inl ⟨h2.trans h3, h4⟩
          · have hne : k ≠ b := fun e => hap rfl (e ▸ h3)
            exact .inr ⟨k, vs, sp, h2.trans h3, h4, (hs.block k (heap_lt h5) hne).trans h5, fun o => (hs.X k o hne).2 (h6 o), RdL.mono hle hβ h7⟩
        | tail e sz n =>
          rw [hH] at he hap
          rcases he with ⟨h3, h4⟩ | ⟨k, c, h3, h4, h5, h6⟩
          · exact .inl ⟨h2.trans h3, h4⟩
          · have hne : k ≠ b := fun e => hap rfl (e ▸ h3)
            exact .inr ⟨k, c, h2.trans h3, h4, (hs.block k (heap_lt h5) hne).trans h5, fun o ho => (hs.X k o hne).2 (h6 o ho)⟩
        | loop lk ds st pend =>
          rw [hH] at he hap
          obtain ⟨k, r, h3, h4, h5, h6, h7, h8, h9, h10, h11, h12⟩ := he
          have hne : k ≠ b := fun e => hap rfl (e ▸ h3)
          exact ⟨k, r, h2.trans h3, h4, (hs.block k (heap_lt h5) hne).trans h5, fun o => (hs.X k o hne).2 (h6 o), h7, h8, h9, h10, h11, h12.1, RdL.mono hle hβ h12.2⟩
        | kept n ds =>
          rw [hH] at he
          refine ⟨RdL.mono hle hβ he.1, fun c hc => ?_⟩
          have h5 := he.2 c hc
          by_cases hcb : c = b
          · subst hcb; exact absurd h5 (hs.dfr _)
          · exact (hs.block c (heap_lt h5) hcb).trans h5
      · rw [h1]; trivial
  le := h.le.trans hle
  gid := h.gid
  given i b hi := hβ _ _ (h.given i b hi)
  inj i j k hi hj h1 h2 := by
    by_cases hii : i = id
    · by_cases hjj : j = id
      · rw [hii, hjj]
      · subst hii
        have : k = b := by rw [hid] at h1; exact (Option.some.inj h1).symm
        subst this
        have hap := hapart j hjj hj
        rcases hother j hjj with ⟨_, h4⟩ | h3
        · exact absurd (h4 ▸ h2) hap
        · rw [h3] at hj; cases hj
    · by_cases hjj : j = id
      · subst hjj
        have : k = b := by rw [hid] at h2; exact (Option.some.inj h2).symm
        subst this
        have hap := hapart i hii hi
        rcases hother i hii with ⟨_, h4⟩ | h3
        · exact absurd (h4 ▸ h1) hap
        · rw [h3] at hi; cases hi
      · rcases hother i hii with ⟨h3, h4⟩ | h3
        · rcases hother j hjj with ⟨h5, h6⟩ | h5
          · exact h.inj i j k (h3 ▸ hi) (h5 ▸ hj) (h4 ▸ h1) (h6 ▸ h2)
          · rw [h5] at hj; cases hj
        · rw [h3] at hi; cases hi

end Go.IL
