/-
  A part of the proof: rules and plain facts. No condition.
-/
import Derived.Test.YtalalambgppmpaaIlS
import Derived.WalkSpells
set_option linter.all false
namespace Go.IL
open RowKit (Below)

def footB (β : Names) (H : List (Nat × Ent)) (b : Nat) : Prop := ∃ i, (entL H i).held = true ∧ β i = some b

/-- A call on what reads as 'ds', handed what 'H0' tells (by the names from 1000 on): it hands back what reads as 'r', and 'H1'. -/
def FnH (P : Program) (f : FuncId) (ds : List D) (H0 : List (Nat × Ent)) (r : D) (H1 : List (Nat × Ent)) : Prop :=
  ∀ (E : Env) (β : Names) (vs : List Value), (∀ b o, E.X b o → b < E.w.heap.size) → (∀ i b, β i = some b → 1000 ≤ i) →
    HOk ⟨E.w, E.X, footB β H0, β, none, fun _ => [], fun _ => 0, fun _ => [], fun _ => (#[], .skip, .skip)⟩ E β (entL H0) → RdL E β vs ds →
    Calls P f vs.toArray E.w fun e w' => ∃ v, e = .returned v ∧ ∃ E' β', E'.w = w' ∧ HOk ⟨E.w, E.X, footB β H0, β, none, fun _ => [], fun _ => 0, fun _ => [], fun _ => (#[], .skip, .skip)⟩ E' β' (entL H1) ∧ Rd E' β' v r

def Ent.ren (ρ : Nat → Nat) : Ent → Ent
  | .blk e ds => .blk e (D.renL ρ ds)
  | .loop k ds st p => .loop k (D.renL ρ ds) st p
  | .kept k ds => .kept k (D.renL ρ ds)
  | e => e
def Ent.refsIn (p : Nat → Bool) : Ent → Bool
  | .blk _ ds => D.refsInL p ds
  | .loop .. => false
  | .kept .. => false
  | _ => true
theorem Ent.held_ren (ρ : Nat → Nat) (e : Ent) : (e.ren ρ).held = e.held := by cases e <;> rfl

mutual
theorem Rd.renp {E : Env} {β β' : Names} {ρ : Nat → Nat} {p : Nat → Bool} (hp : ∀ id b, p id = true → β id = some b → β' (ρ id) = some b) : ∀ {v : Value} {d : D}, Rd E β v d → d.refsIn p = true → Rd E β' v (d.ren ρ)
  | _, _, .dead _ v, _ => .dead _ v
  | _, _, .bool _ b, _ => .bool _ b
  | _, _, .int _ k n, _ => .int _ k n
  | _, _, .float _ k m n h, _ => .float _ k m n h
  | _, _, .str _ l, _ => .str _ l
  | _, _, .slice _ b off len cap sz full vs l hl hc hf hz hsz hr hv, _ => .slice _ b off len cap sz full vs l hl hc hf hz hsz hr hv
  | _, _, .nslice _ f, _ => .nslice _ f
  | _, _, .eslice _ a c, _ => .eslice _ a c
  | _, _, .nils _, _ => .nils _
  | _, _, .agg _ vs cs hv, hi => .agg _ vs _ (RdL.renp hp hv (by simpa [D.refsIn] using hi))
  | _, _, .tuple _ vs cs hv, hi => .tuple _ vs _ (RdL.renp hp hv (by simpa [D.refsIn] using hi))
  | _, _, .fptr _ b off vs cs hr hv, _ => .fptr _ b off vs cs hr hv
  | _, _, .nilp _, _ => .nilp _
  | _, _, .nilf _, _ => .nilf _
  | _, _, .nili _, _ => .nili _
  | _, _, .fn _ f vs caps hv, hi => .fn _ f vs _ (RdL.renp hp hv (by simpa [D.refsIn] using hi))
  | _, _, .ref _ id off b hb, hi => .ref _ _ off b (hp _ _ (by simpa [D.refsIn] using hi) hb)
  | _, _, .rsl _ id sz off len cap b o hb hc hsz ho c e f h1 h2 h3, hi => .rsl _ _ sz off len cap b o (hp _ _ (by simpa [D.refsIn] using hi) hb) hc hsz ho c e f h1 h2 h3
  | _, _, .gsl _ id b len cap sz vs l hb hl hc hz hsz hr hv c e f h1 h2 h3, hi => .gsl _ _ b len cap sz vs l (hp _ _ (by simpa [D.refsIn] using hi) hb) hl hc hz hsz hr hv c e f h1 h2 h3
  | _, _, .ngsl _ id sz, _ => .ngsl _ _ sz
  | _, _, .osl _ id b len cap sz hb hc hsz c e f h1 h2 h3, hi => .osl _ _ b len cap sz (hp _ _ (by simpa [D.refsIn] using hi) hb) hc hsz c e f h1 h2 h3
  | _, _, .nosl _ id sz, _ => .nosl _ _ sz
  | _, _, .cnd _ v b d hv hu, hi => .cnd _ v b _ (fun hb => Rd.renp hp (hv hb) (by simpa [D.refsIn] using hi)) hu
  | _, _, .yld _ id l hb, hi => .yld _ _ l (hp id l (by simpa [D.refsIn] using hi) hb)
theorem RdL.renp {E : Env} {β β' : Names} {ρ : Nat → Nat} {p : Nat → Bool} (hp : ∀ id b, p id = true → β id = some b → β' (ρ id) = some b) : ∀ {vs : List Value} {ds : List D}, RdL E β vs ds → D.refsInL p ds = true → RdL E β' vs (D.renL ρ ds)
  | _, _, .nil _, _ => .nil _
  | _, _, .cons (d := d) (ds := ds) hv t, hi =>
    have hi' : d.refsIn p = true ∧ D.refsInL p ds = true := by simpa [D.refsInL] using hi
    .cons (Rd.renp hp hv hi'.1) (RdL.renp hp t hi'.2)
end

/-- The names of a call, in its caller's. -/
def sig (k : Nat) (A : List Nat) (i : Nat) : Nat := if 1000 ≤ i then A.getD (i - 1000) 0 else k + i
def givenB (A : List Nat) (i : Nat) : Bool := Nat.ble 1000 i && Nat.blt i (1000 + A.length)
def backB (k : Nat) (A : List Nat) (i : Nat) : Bool := Nat.blt (k + i) 1000 || givenB A i

theorem look_of_mem {α : Type} {z : α} {i : Nat} : ∀ {l : List (Nat × α)}, i ∈ l.map (·.1) → ∃ e, (i, e) ∈ l ∧ look z i l = e
  | (j, e) :: l, h => by
    rw [look_cons]
    by_cases hj : j = i
    · subst hj; exact ⟨e, by simp, by simp⟩
    · rw [if_neg hj]
      have : i ∈ l.map (·.1) := by simp only [List.map_cons, List.mem_cons] at h; rcases h with h | h; exact absurd h.symm hj; exact h
      obtain ⟨e', h1, h2⟩ := look_of_mem (z := z) this
      exact ⟨e', by simp [h1], h2⟩
theorem look_not_mem {α : Type} {z : α} {i : Nat} : ∀ {l : List (Nat × α)}, i ∉ l.map (·.1) → look z i l = z
  | [], _ => rfl
  | (j, e) :: l, h => by
    simp only [List.map_cons, List.mem_cons, not_or] at h
    rw [look_cons, if_neg (Ne.symm h.1)]; exact look_not_mem h.2

theorem entL_held {H : List (Nat × Ent)} {i : Nat} (h : (entL H i).held = true) : (i, entL H i) ∈ H := by
  by_cases hm : i ∈ H.map (·.1)
  · obtain ⟨e, h1, h2⟩ := look_of_mem (z := defE i) hm
    rw [show entL H i = e from h2]; exact h1
  · have : entL H i = defE i := look_not_mem hm
    rw [this] at h; unfold defE at h; split at h <;> cases h

section
variable {P : Program} {O : Origin} {N : Nat} {S S' : St} {o : Oper} {t : Nat}

structure Hand (S : St) (k : Nat) (A : List Nat) (H0 : List (Nat × Ent)) : Prop where
  keys : (S.H.map (·.1)).all (fun i => Nat.blt i k || Nat.ble 1000 i) = true
  kA : A.all (fun i => Nat.blt i k || Nat.ble 1000 i) = true
  nd : A.Nodup
  cov : A.all (fun i => (H0.map fun x => sig k A x.1).contains i) = true
  ents : ∀ x ∈ H0, givenB A x.1 = true ∧ x.2.held = true ∧ S.ent (sig k A x.1) = x.2.ren (sig k A) ∧ x.2.refsIn (givenB A) = true

def afterH (k : Nat) (A : List Nat) (H0 H1 H : List (Nat × Ent)) : List (Nat × Ent) :=
  (H1.map fun x => (sig k A x.1, x.2.ren (sig k A))) ++ ((H0.map fun x => (sig k A x.1, Ent.none)) ++ H)

theorem sig_given {k i : Nat} {A : List Nat} (h : givenB A i = true) : sig k A i ∈ A := by
  simp only [givenB, Bool.and_eq_true, Nat.ble_eq, Nat.blt_eq] at h
  simp only [sig, if_pos h.1]
  rw [List.getD_eq_getElem?_getD, List.getElem?_eq_getElem (show i - 1000 < A.length by omega)]
  exact List.getElem_mem _
theorem nodup_idx : ∀ {A : List Nat}, A.Nodup → ∀ {j : Nat} (hj : j < A.length), A.idxOf A[j] = j
  | [], _, _, hj => absurd hj (by simp)
  | a :: A, _, 0, _ => by simp [List.idxOf_cons]
  | a :: A, hn, j + 1, hj => by
    rw [List.nodup_cons] at hn
    have hj' : j < A.length := by simpa using hj
    have hne : ¬ a = A[j] := fun h => hn.1 (h ▸ List.getElem_mem hj')
    have := nodup_idx hn.2 hj'
    simp only [List.getElem_cons_succ, List.idxOf_cons]
    rw [this, show (a == A[j]) = false from by simpa using hne]; rfl
theorem idx_get {i : Nat} : ∀ {A : List Nat} (h : A.idxOf i < A.length), A[A.idxOf i] = i
  | [], h => absurd h (by simp)
  | a :: A, h => by
    by_cases hai : a = i
    · subst hai; simp [List.idxOf_cons]
    · have e : (a :: A).idxOf i = A.idxOf i + 1 := by rw [List.idxOf_cons, show (a == i) = false from by simpa using hai]; rfl
      have h' : A.idxOf i < A.length := by rw [e] at h; simpa using h
      have := idx_get h'
      simp only [e, List.getElem_cons_succ]; exact this
theorem sig_idx {k i : Nat} {A : List Nat} (hn : A.Nodup) (h : givenB A i = true) : 1000 + A.idxOf (sig k A i) = i := by
  simp only [givenB, Bool.and_eq_true, Nat.ble_eq, Nat.blt_eq] at h
  simp only [sig, if_pos h.1]
  have hlt : i - 1000 < A.length := by omega
  rw [List.getD_eq_getElem?_getD, List.getElem?_eq_getElem hlt, Option.getD_some, nodup_idx hn hlt]
  omega
theorem sig_inj {k i j : Nat} {A : List Nat} (hn : A.Nodup) (hi : givenB A i = true) (hj : givenB A j = true) (h : sig k A i = sig k A j) : i = j := by
  rw [← sig_idx (k := k) hn hi, ← sig_idx (k := k) hn hj, h]
theorem given_of_mem {k i : Nat} {A : List Nat} (h : i ∈ A) : givenB A (1000 + A.idxOf i) = true ∧ sig k A (1000 + A.idxOf i) = i := by
  have hlt := List.idxOf_lt_length_of_mem h
  constructor
  · simp only [givenB, Bool.and_eq_true, Nat.ble_eq, Nat.blt_eq]; omega
  · simp only [sig, if_pos (Nat.le_add_right 1000 _)]
    rw [show 1000 + A.idxOf i - 1000 = A.idxOf i by omega, List.getD_eq_getElem?_getD, List.getElem?_eq_getElem hlt, Option.getD_some]
    exact idx_get hlt

theorem iop_enterh {f : FuncId} {ds ds' : List D} {r r' : D} {H0 H1 H2 : List (Nat × Ent)} (k : Nat) (A : List Nat) (hd : o.dst = some t) (ht : t < N)
    (h : ∀ E β a, Rel O N S E β a → ∃ vs : List Value, (execOp a.eval o).run P E.w = .ok (.enter f vs.toArray) E.w ∧ RdL E β vs ds') (hds : D.renL (sig k A) ds = ds') (hp : D.refsInL (givenB A) ds = true)
    (hh : Hand S k A H0) (hf : FnH P f ds H0 r H1) (hrr : r.ren (sig k A) = r') (hrp : r.refsIn (backB k A) = true) (hH1 : ∀ x ∈ H1, backB k A x.1 = true ∧ x.2.refsIn (backB k A) = true)
    (hH2 : afterH k A H0 H1 S.H = H2) : IOp P O N o S (St.set ⟨S.sl, H2⟩ t r') := by
  intro E β a hr next Q hn
  obtain ⟨vs, hrun, hv⟩ := h E β a hr
  unfold Oper.wp
  rw [hrun]
  simp only [Oper.upon, hd]
  subst hds hrr hH2
  let βc : Names := fun i => if givenB A i = true then β (sig k A i) else none
  have hβc : ∀ id, givenB A id = true → βc id = β (sig k A id) := fun id hid => by simp [βc, hid]
  have hvc : RdL E βc vs ds := RdL.ren hβc ds hv hp
  have h0 : ∀ i, (entL H0 i).held = true → givenB A i = true ∧ S.ent (sig k A i) = (entL H0 i).ren (sig k A) ∧ (entL H0 i).refsIn (givenB A) = true := fun i hi => by
    have h1 := hh.ents _ (entL_held hi)
    exact ⟨h1.1, h1.2.2.1, h1.2.2.2⟩
  have hcall : HOk ⟨E.w, E.X, footB βc H0, βc, none, fun _ => [], fun _ => 0, fun _ => [], fun _ => (#[], .skip, .skip)⟩ E βc (entL H0) := {
    os := rfl, tape := rfl, output := rfl, size := Nat.le_refl _, block := fun _ _ _ => rfl, xlt := hr.h.xlt, xold := fun _ _ _ _ => Iff.rfl, le := Env.le.refl _
    gid := fun i b hi => by
      by_cases hg : givenB A i = true
      · simp only [givenB, Bool.and_eq_true, Nat.ble_eq] at hg; exact hg.1
      · simp [βc, hg] at hi
    given := fun _ _ hi => hi
    ent := fun i => by
      cases hhe : (entL H0 i).held with
      | true =>
        obtain ⟨h1, h2, h3⟩ := h0 i hhe
        have he := hr.h.ent (sig k A i)
        rw [h2] at he
        have hown : ∀ b, βc i = some b → (⟨E.w, E.X, footB βc H0, βc, none, fun _ => [], fun _ => 0, fun _ => [], fun _ => (#[], .skip, .skip)⟩ : Origin).own b := fun b hb => .inr ⟨i, hhe, hb⟩
        cases hE : entL H0 i with
        | none => trivial
        | fresh => rw [hE] at hhe; cases hhe
        | blk e es =>
          rw [hE] at he h3
          rcases he with ⟨g1, g2⟩ | ⟨b, ws, sp, g1, g2, g3, g4, g5⟩
          · exact .inl ⟨(hβc i h1).trans g1, renL_nil g2⟩
          · exact .inr ⟨b, ws, sp, (hβc i h1).trans g1, hown b ((hβc i h1).trans g1), g3, g4, RdL.ren hβc es g5 h3⟩
        | tail e sz n =>
          rw [hE] at he
          rcases he with ⟨g1, g2⟩ | ⟨b, c, g1, g2, g3, g4⟩
          · exact .inl ⟨(hβc i h1).trans g1, g2⟩
          · exact .inr ⟨b, c, (hβc i h1).trans g1, hown b ((hβc i h1).trans g1), g3, g4⟩
        | loop lk es st pe =>
          rw [hE] at h3; cases h3
        | kept n es => rw [hE] at hhe; cases hhe
      | false =>
        cases hE : entL H0 i with
        | none => trivial
        | fresh =>
          show βc i = none
          by_cases hm : i ∈ H0.map (·.1)
          · obtain ⟨e, h1, h2⟩ := look_of_mem (z := defE i) hm
            have h3 := hh.ents _ h1
            have : entL H0 i = e := h2
            rw [hE] at this; rw [← this] at h3; exact absurd h3.2.1 (by simp [Ent.held])
          · have : entL H0 i = defE i := look_not_mem hm
            rw [hE] at this
            unfold defE at this
            split at this
            · cases this
            · rename_i hlt
              have : ¬ givenB A i = true := by simp only [givenB, Bool.and_eq_true, Nat.ble_eq]; omega
              simp [βc, this]
        | blk => rw [hE] at hhe; cases hhe
        | tail => rw [hE] at hhe; cases hhe
        | loop => rw [hE] at hhe; cases hhe
        | kept n es =>
          exfalso
          by_cases hm : i ∈ H0.map (·.1)
          · obtain ⟨e, h1, h2⟩ := look_of_mem (z := defE i) hm
            have h3 := hh.ents _ h1
            have : entL H0 i = e := h2
            rw [hE] at this; rw [← this] at h3; exact absurd h3.2.1 (by simp [Ent.held])
          · have : entL H0 i = defE i := look_not_mem hm
            rw [hE] at this
            unfold defE at this
            split at this <;> cases this
    inj := fun i j b hi hj h1 h2 => by
      obtain ⟨a1, a2, _⟩ := h0 i hi
      obtain ⟨b1, b2, _⟩ := h0 j hj
      have h1 : β (sig k A i) = some b := (hβc i a1).symm.trans h1
      have h2 : β (sig k A j) = some b := (hβc j b1).symm.trans h2
      exact sig_inj hh.nd a1 b1 (hr.h.inj _ _ b (by rw [a2, Ent.held_ren]; exact hi) (by rw [b2, Ent.held_ren]; exact hj) h1 h2) }
  refine (hf E βc vs hr.h.xlt hcall.gid hcall hvc).mono ?_
  rintro e w' ⟨v, rfl, E', β', rfl, hok, hrd⟩
  -- old blocks that were not handed over
  have hfoot : ∀ b, footB βc H0 b → ∃ i, givenB A i = true ∧ (S.ent (sig k A i)).held = true ∧ β (sig k A i) = some b := fun b ⟨i, hi, hb⟩ => by
    obtain ⟨h1, h2, _⟩ := h0 i hi
    exact ⟨i, h1, by rw [h2, Ent.held_ren]; exact hi, by rw [← hβc i h1]; exact hb⟩
  have hfown : ∀ b, footB βc H0 b → O.own b := fun b hb => by
    obtain ⟨i, _, h2, h3⟩ := hfoot b hb
    have he := hr.h.ent (sig k A i)
    exact hr.h.own h2 h3
  have hcown : ∀ b, (⟨E.w, E.X, footB βc H0, βc, none, fun _ => [], fun _ => 0, fun _ => [], fun _ => (#[], .skip, .skip)⟩ : Origin).own b → O.own b := fun b hb => by
    rcases hb with hb | hb
    · exact .inl (Nat.le_trans hr.h.size hb)
    · exact hfown b hb
  have hfresh : ∀ i, k ≤ i → i < 1000 → β i = none := fun i h1 h2 => by
    have he := hr.h.ent i
    have : S.ent i = .fresh := by
      have hnm : i ∉ S.H.map (·.1) := fun hm => by
        have := List.all_eq_true.1 hh.keys i hm
        simp only [Bool.or_eq_true, Nat.blt_eq, Nat.ble_eq] at this; omega
      have h3 : S.ent i = defE i := look_not_mem hnm
      rw [h3, defE, if_neg (by omega)]
    rw [this] at he; exact he
  let βn : Names := fun i => if k ≤ i ∧ i < 1000 then β' (i - k) else if i ∈ A then β' (1000 + A.idxOf i) else β i
  have hAk : ∀ i, i ∈ A → ¬ (k ≤ i ∧ i < 1000) := fun i hi => by
    have := List.all_eq_true.1 hh.kA _ hi
    simp only [Bool.or_eq_true, Nat.blt_eq, Nat.ble_eq] at this; omega
  have hnA : ∀ i, i ∈ A → βn i = β' (1000 + A.idxOf i) := fun i hi => by simp [βn, hAk i hi, hi]
  have hnO : ∀ i, i ∉ A → ¬ (k ≤ i ∧ i < 1000) → βn i = β i := fun i h1 h2 => by simp [βn, h1, h2]
  have hβ1 : β.le βn := fun i b hi => by
    by_cases hki : k ≤ i ∧ i < 1000
    · rw [hfresh i hki.1 hki.2] at hi; cases hi
    · by_cases hA : i ∈ A
      · rw [hnA i hA]
        obtain ⟨h1, h2⟩ := given_of_mem (k := k) hA
        exact hok.given _ _ (((hβc _ h1).trans (by rw [h2])).trans hi)
      · rw [hnO i hA hki]; exact hi
  have hβ2 : ∀ i, backB k A i = true → βn (sig k A i) = β' i := fun i hi => by
    by_cases hg : givenB A i = true
    · rw [hnA _ (sig_given hg), sig_idx hh.nd hg]
    · simp only [backB, hg, Bool.or_false, Nat.blt_eq] at hi
      have h2 : ¬ 1000 ≤ i := by omega
      have h1 : sig k A i = k + i := by simp [sig, h2]
      rw [h1]
      simp [βn, hi]
  have hle : E.le E' := hok.le
  -- the entries behind the call
  have hkey1 : ∀ i, backB k A i = true → ∀ j, backB k A j = true → sig k A i = sig k A j → i = j := fun i hi j hj hij => by
    by_cases hgi : givenB A i = true
    · by_cases hgj : givenB A j = true
      · exact sig_inj hh.nd hgi hgj hij
      · exfalso
        simp only [backB, hgj, Bool.or_false, Nat.blt_eq] at hj
        have h2 : sig k A j = k + j := by simp [sig, show ¬ 1000 ≤ j by omega]
        exact hAk _ (sig_given (k := k) hgi) (by rw [hij, h2]; omega)
    · by_cases hgj : givenB A j = true
      · exfalso
        simp only [backB, hgi, Bool.or_false, Nat.blt_eq] at hi
        have h2 : sig k A i = k + i := by simp [sig, show ¬ 1000 ≤ i by omega]
        exact hAk _ (sig_given (k := k) hgj) (by rw [← hij, h2]; omega)
      · simp only [backB, hgi, hgj, Bool.or_false, Nat.blt_eq] at hi hj
        simp only [sig, show ¬ 1000 ≤ i by omega, show ¬ 1000 ≤ j by omega, if_false] at hij
        omega
  have hent : ∀ i, (St.set ⟨S.sl, afterH k A H0 H1 S.H⟩ t (r.ren (sig k A))).ent i =
      if i ∈ H1.map (fun x => sig k A x.1) then (look (defE i) i (H1.map fun x => (sig k A x.1, x.2.ren (sig k A)))) else if i ∈ H0.map (fun x => sig k A x.1) then .none else S.ent i := fun i => by
    simp only [St.ent, entL, St.set, afterH, look_append, List.map_map]
    have e1 : (Prod.fst ∘ fun x : Nat × Ent => (sig k A x.1, x.2.ren (sig k A))) = fun x => sig k A x.1 := rfl
    have e2 : (Prod.fst ∘ fun x : Nat × Ent => (sig k A x.1, Ent.none)) = fun x => sig k A x.1 := rfl
    rw [e1, e2]
    split
    · rfl
    · split
      · rename_i h1 h2
        obtain ⟨e, h3, h4⟩ := look_of_mem (z := defE i) (l := H0.map fun x => (sig k A x.1, Ent.none)) (by rw [List.map_map, e2]; exact h2)
        rw [h4]
        obtain ⟨x, _, hx⟩ := List.mem_map.1 h3
        cases hx; rfl
      · rfl
  have hlook1 : ∀ j, backB k A j = true → j ∈ H1.map (·.1) → look (defE (sig k A j)) (sig k A j) (H1.map fun x => (sig k A x.1, x.2.ren (sig k A))) = (entL H1 j).ren (sig k A) := by
    intro j hj
    unfold entL
    have aux : ∀ (z z' : Ent) (l : List (Nat × Ent)), (∀ x ∈ l, backB k A x.1 = true) → j ∈ l.map (·.1) → look z (sig k A j) (l.map fun x => (sig k A x.1, x.2.ren (sig k A))) = (look z' j l).ren (sig k A) := by
      intro z z' l
      induction l with
      | nil => intro _ h; simp at h
      | cons x l ih =>
        obtain ⟨i, e⟩ := x
        intro hl hm
        simp only [List.map_cons, look_cons]
        by_cases hij : i = j
        · subst hij; rw [if_pos rfl, if_pos rfl]
        · rw [if_neg (fun h => hij (hkey1 i (hl (i, e) List.mem_cons_self) j hj h)), if_neg hij]
          refine ih (fun x hx => hl x (List.mem_cons_of_mem _ hx)) ?_
          simp only [List.map_cons, List.mem_cons] at hm
          rcases hm with h | h
          · exact absurd h.symm hij
          · exact h
    exact aux _ _ H1 (fun x hx => (hH1 x hx).1)
  have hH1r : ∀ j, j ∈ H1.map (·.1) → backB k A j = true ∧ (entL H1 j).refsIn (backB k A) = true := fun j hj => by
    obtain ⟨e, h1, h2⟩ := look_of_mem (z := defE j) hj
    have h3 := hH1 _ h1
    exact ⟨h3.1, by rw [show entL H1 j = e from h2]; exact h3.2⟩
  have cases1 : ∀ i, i ∈ H1.map (fun x => sig k A x.1) → ∃ j, j ∈ H1.map (·.1) ∧ backB k A j = true ∧ i = sig k A j := fun i hi => by
    obtain ⟨x, hx, rfl⟩ := List.mem_map.1 hi
    exact ⟨x.1, List.mem_map.2 ⟨x, hx, rfl⟩, (hH1 x hx).1, rfl⟩
  -- an entry that was not handed over
  have hold : ∀ i, i ∉ H1.map (fun x => sig k A x.1) → i ∉ H0.map (fun x => sig k A x.1) → (S.ent i).held = true → ∀ b, β i = some b → βn i = some b ∧ b < E.w.heap.size ∧ ¬ footB βc H0 b := fun i h1 h2 h3 b hb => by
    refine ⟨hβ1 i b hb, ?_, ?_⟩
    · exact hr.h.lt h3 hb
    · rintro ⟨j, hj, hbj⟩
      obtain ⟨g1, g2, _⟩ := h0 j hj
      have : i = sig k A j := hr.h.inj i (sig k A j) b h3 (by rw [g2, Ent.held_ren]; exact hj) hb (by rw [← hβc j g1]; exact hbj)
      exact h2 (List.mem_map.2 ⟨_, entL_held hj, this.symm⟩)
  have hcov : ∀ i, i ∈ A → i ∈ H0.map (fun x => sig k A x.1) := fun i hi => by
    have := List.all_eq_true.1 hh.cov i hi
    simpa using this
  have hold' : ∀ i, i ∉ H0.map (fun x => sig k A x.1) → S.ent i ≠ .fresh → βn i = β i := fun i h0 hf => by
    refine hnO i (fun hA => h0 (hcov i hA)) (fun hki => hf ?_)
    have hnm : i ∉ S.H.map (·.1) := fun hm => by
      have := List.all_eq_true.1 hh.keys i hm
      simp only [Bool.or_eq_true, Nat.blt_eq, Nat.ble_eq] at this; omega
    have h3 : S.ent i = defE i := look_not_mem hnm
    rw [h3, defE, if_neg (by omega)]
  refine hn E' βn _ ⟨by simp [Act.put, hr.n], hr.nd.mono (fun b hx => (hok.block b (heap_lt hx) (fun hf => by obtain ⟨i, _, h2, h3⟩ := hfoot b hf; exact hr.h.nodef h2 h3 _ hx)).trans hx), ?_, ?_⟩
  · exact {
      os := hok.os.trans hr.h.os, tape := hok.tape.trans hr.h.tape, output := hok.output.trans hr.h.output, size := Nat.le_trans hr.h.size hok.size
      block := fun j hj hf => by
        have hnf : ¬ footB βc H0 j := fun h => by
          rcases hfown j h with h1 | h1
          · omega
          · exact hf h1
        exact (hok.block j (Nat.lt_of_lt_of_le hj hr.h.size) hnf).trans (hr.h.block j hj hf)
      xlt := hok.xlt
      xold := fun b o hb hf => by
        have hnf : ¬ footB βc H0 b := fun h => by
          rcases hfown b h with h1 | h1
          · omega
          · exact hf h1
        exact (hok.xold b o (Nat.lt_of_lt_of_le hb hr.h.size) hnf).trans (hr.h.xold b o hb hf)
      le := hr.h.le.trans hle
      gid := hr.h.gid
      given := fun i b hi => hβ1 i b (hr.h.given i b hi)
      ent := fun i => by
        rw [hent i]
        by_cases hi1 : i ∈ H1.map (fun x => sig k A x.1)
        · rw [if_pos hi1]
          obtain ⟨j, hj, hbj, rfl⟩ := cases1 i hi1
          rw [hlook1 j hbj hj]
          have he := hok.ent j
          have hrf := (hH1r j hj).2
          have hb2 := hβ2 j hbj
          cases hE : entL H1 j with
          | none => trivial
          | fresh => rw [hE] at he; exact hb2.trans he
          | blk e es =>
            rw [hE] at he hrf
            rcases he with ⟨g1, g2⟩ | ⟨b, ws, sp, g1, g2, g3, g4, g5⟩
            · exact .inl ⟨hb2.trans g1, by rw [g2]; rfl⟩
            · exact .inr ⟨b, ws, sp, hb2.trans g1, hcown b g2, g3, g4, RdL.renp (fun id b hid hb => (hβ2 id hid).trans hb) g5 hrf⟩
          | tail e sz n =>
            rw [hE] at he
            rcases he with ⟨g1, g2⟩ | ⟨b, c, g1, g2, g3, g4⟩
            · exact .inl ⟨hb2.trans g1, g2⟩
            · exact .inr ⟨b, c, hb2.trans g1, hcown b g2, g3, g4⟩
          | loop lk es st pe =>
            rw [hE] at hrf; cases hrf
          | kept n es => rw [hE] at hrf; cases hrf
        · rw [if_neg hi1]
          by_cases hi0 : i ∈ H0.map (fun x => sig k A x.1)
          · rw [if_pos hi0]; trivial
          · rw [if_neg hi0]
            have he := hr.h.ent i
            have hnb : ∀ b, (S.ent i).held = true → β i = some b → βn i = some b ∧ E'.w.heap[b]? = E.w.heap[b]? ∧ ∀ o, (E'.X b o ↔ E.X b o) := fun b hhe hb => by
              obtain ⟨g1, g2, g3⟩ := hold i hi1 hi0 hhe b hb
              exact ⟨g1, hok.block b g2 g3, fun o => hok.xold b o g2 g3⟩
            cases hE : S.ent i with
            | none => trivial
            | fresh =>
              rw [hE] at he
              show βn i = none
              by_cases hki : k ≤ i ∧ i < 1000
              · -- a fresh name of the callee's that is told by nothing
                have hbi : i - k ∉ H1.map (·.1) := fun hm => by
                  have hbb := (hH1r _ hm).1
                  refine hi1 ?_
                  obtain ⟨x, hx, hxe⟩ := List.mem_map.1 hm
                  refine List.mem_map.2 ⟨x, hx, ?_⟩
                  have hx' : x.1 = i - k := hxe
                  rw [hx']
                  simp only [sig, show ¬ 1000 ≤ i - k by omega, if_false]
                  omega
                have h3 := hok.ent (i - k)
                have h4 : entL H1 (i - k) = defE (i - k) := look_not_mem hbi
                rw [h4, defE, if_neg (by omega)] at h3
                simp only [βn, hki, and_self, if_true]
                exact h3
              · rw [hnO i (fun hA => hi0 (hcov i hA)) hki]; exact he
            | blk e es =>
              rw [hE] at he
              rcases he with ⟨g1, g2⟩ | ⟨b, ws, sp, g1, g2, g3, g4, g5⟩
              · exact .inl ⟨(hold' i hi0 (by rw [hE]; exact fun h => by cases h)).trans g1, g2⟩
              · obtain ⟨f1, f2, f3⟩ := hnb b (by rw [hE]; rfl) g1
                exact .inr ⟨b, ws, sp, f1, g2, f2.trans g3, fun o => (f3 o).2 (g4 o), RdL.mono hle hβ1 g5⟩
            | tail e sz n =>
              rw [hE] at he
              rcases he with ⟨g1, g2⟩ | ⟨b, c, g1, g2, g3, g4⟩
              · exact .inl ⟨(hold' i hi0 (by rw [hE]; exact fun h => by cases h)).trans g1, g2⟩
              · obtain ⟨f1, f2, f3⟩ := hnb b (by rw [hE]; rfl) g1
                exact .inr ⟨b, c, f1, g2, f2.trans g3, fun o ho => (f3 o).2 (g4 o ho)⟩
            | loop lk es st pe =>
              rw [hE] at he
              obtain ⟨b, q, g1, g2, g3, g4, g5, g6, g7, g8, g9, g10⟩ := he
              obtain ⟨f1, f2, f3⟩ := hnb b (by rw [hE]; rfl) g1
              exact ⟨b, q, f1, g2, f2.trans g3, fun o => (f3 o).2 (g4 o), g5, g6, g7, g8, g9, g10.1, RdL.mono hle hβ1 g10.2⟩
            | kept n es =>
              rw [hE] at he
              exact ⟨RdL.mono hle hβ1 he.1, fun c hc => (hok.block c (heap_lt (he.2 c hc)) (fun hf => by obtain ⟨i, _, h2, h3⟩ := hfoot c hf; exact hr.h.nodef h2 h3 _ (he.2 c hc))).trans (he.2 c hc)⟩
      inj := fun i j b hi hj hbi hbj => by
        rw [hent i] at hi
        rw [hent j] at hj
        have hone : ∀ i, i ∈ H1.map (fun x => sig k A x.1) → (look (defE i) i (H1.map fun x => (sig k A x.1, x.2.ren (sig k A)))).held = true → βn i = some b → ∃ a, (entL H1 a).held = true ∧ β' a = some b ∧ i = sig k A a ∧ backB k A a = true := fun i hm hh hb => by
          obtain ⟨a, ha, hba, rfl⟩ := cases1 i hm
          rw [hlook1 a hba ha, Ent.held_ren] at hh
          exact ⟨a, hh, (hβ2 a hba).symm.trans hb, rfl, hba⟩
        have hown1 : ∀ a, (entL H1 a).held = true → β' a = some b → E.w.heap.size ≤ b ∨ footB βc H0 b := fun a hh hb => by
          exact hok.own hh hb
        have hto : ∀ i, i ∉ H0.map (fun x => sig k A x.1) → (S.ent i).held = true → βn i = some b → β i = some b := fun i h0 hh hb => by
          rw [← hold' i h0 (fun h => by rw [h] at hh; cases hh)]; exact hb
        have hmix : ∀ i j, i ∈ H1.map (fun x => sig k A x.1) → (look (defE i) i (H1.map fun x => (sig k A x.1, x.2.ren (sig k A)))).held = true → βn i = some b → j ∉ H1.map (fun x => sig k A x.1) → j ∉ H0.map (fun x => sig k A x.1) → (S.ent j).held = true → βn j = some b → False := fun i j h1 h2 h3 h4 h5 h6 h7 => by
          obtain ⟨a, ha, hb, _⟩ := hone i h1 h2 h3
          obtain ⟨_, f2, f3⟩ := hold j h4 h5 h6 b (hto j h5 h6 h7)
          rcases hown1 a ha hb with h | h
          · omega
          · exact f3 h
        by_cases hi1 : i ∈ H1.map (fun x => sig k A x.1)
        · rw [if_pos hi1] at hi
          by_cases hj1 : j ∈ H1.map (fun x => sig k A x.1)
          · rw [if_pos hj1] at hj
            obtain ⟨a, ha, hab, rfl, _⟩ := hone i hi1 hi hbi
            obtain ⟨c, hc, hcb, rfl, _⟩ := hone j hj1 hj hbj
            rw [hok.inj a c b ha hc hab hcb]
          · rw [if_neg hj1] at hj
            by_cases hj0 : j ∈ H0.map (fun x => sig k A x.1)
            · rw [if_pos hj0] at hj; cases hj
            · rw [if_neg hj0] at hj
              exact (hmix i j hi1 hi hbi hj1 hj0 hj hbj).elim
        · rw [if_neg hi1] at hi
          by_cases hi0 : i ∈ H0.map (fun x => sig k A x.1)
          · rw [if_pos hi0] at hi; cases hi
          · rw [if_neg hi0] at hi
            by_cases hj1 : j ∈ H1.map (fun x => sig k A x.1)
            · rw [if_pos hj1] at hj
              exact (hmix j i hj1 hj hbj hi1 hi0 hi hbi).elim
            · rw [if_neg hj1] at hj
              by_cases hj0 : j ∈ H0.map (fun x => sig k A x.1)
              · rw [if_pos hj0] at hj; cases hj
              · rw [if_neg hj0] at hj
                exact hr.h.inj i j b hi hj (hto i hi0 hi hbi) (hto j hj0 hj hbj) }
  · intro s
    have hts : t < a.tmps.size := hr.n ▸ ht
    by_cases hst : t = s
    · subst hst
      have h1 := Rd.renp (p := backB k A) (fun id b hid hb => (hβ2 id hid).trans hb) hrd hrp
      simpa [Act.put, St.get, St.set, look_cons, hts] using h1
    · have := Rd.mono hle hβ1 (hr.sl s)
      simpa [Act.put, St.get, St.set, look_cons, hst, Array.getElem?_setIfInBounds_ne] using this

theorem iop_callh {f : FuncId} {xs : List Operand} {ts : Array TypeId} {ds ds' : List D} {r r' : D} {H0 H1 H2 : List (Nat × Ent)} (k : Nat) (A : List Nat) (ho : o.op = .call { callee := .value (.func f), args := xs.toArray, argTypes := ts }) (hd : o.dst = some t) (ht : t < N)
    (hc : Callable P f) (hx : SVs S xs ds') (hds : D.renL (sig k A) ds = ds') (hp : D.refsInL (givenB A) ds = true)
    (hh : Hand S k A H0) (hf : FnH P f ds H0 r H1) (hrr : r.ren (sig k A) = r') (hrp : r.refsIn (backB k A) = true) (hH1 : ∀ x ∈ H1, backB k A x.1 = true ∧ x.2.refsIn (backB k A) = true)
    (hH2 : afterH k A H0 H1 S.H = H2) : IOp P O N o S (St.set ⟨S.sl, H2⟩ t r') :=
  iop_enterh k A hd ht (fun E β a hr => ⟨xs.map a.eval, by
    simp [execOp, ho, resolve, Deferred.ofValue, Act.eval, invoke, run_callFunc hc], hx.rd hr⟩) hds hp hh hf hrr hrp hH1 hH2

theorem iop_callvh {x : Operand} {f : FuncId} {caps : List D} {xs : List Operand} {ts : Array TypeId} {ds ds' : List D} {r r' : D} {H0 H1 H2 : List (Nat × Ent)} (k : Nat) (A : List Nat) (ho : o.op = .call { callee := .value x, args := xs.toArray, argTypes := ts }) (hd : o.dst = some t) (ht : t < N)
    (hc : Callable P f) (hfx : SV S x (.fn f caps)) (hx : SVs S xs ds') (hds : D.renL (sig k A) ds = ds' ++ caps) (hp : D.refsInL (givenB A) ds = true)
    (hh : Hand S k A H0) (hf : FnH P f ds H0 r H1) (hrr : r.ren (sig k A) = r') (hrp : r.refsIn (backB k A) = true) (hH1 : ∀ x ∈ H1, backB k A x.1 = true ∧ x.2.refsIn (backB k A) = true)
    (hH2 : afterH k A H0 H1 S.H = H2) : IOp P O N o S (St.set ⟨S.sl, H2⟩ t r') :=
  iop_enterh k A hd ht (fun E β a hr => by
    obtain ⟨vs, hev, hl⟩ := rd_fn (hfx.rd hr)
    exact ⟨xs.map a.eval ++ vs, by simp [execOp, ho, resolve, Deferred.ofValue, hev, invoke, run_callFunc hc], (hx.rd hr).append hl⟩) hds hp hh hf hrr hrp hH1 hH2

/-- How such a contract comes out of the code. -/
theorem fnh_of_iwp {f : FuncId} {fn : Func} {c : Code} {ds rs : List D} {H0 H1 : List (Nat × Ent)} (hf : P.funcs[f]? = some fn) (hb : fn.body = some c) (hN : fn.ntmps = N) (hlen : ds.length ≤ N)
    (h : ∀ O : Origin, O.Plain → IWP P O N c ⟨(List.range ds.length).zip ds, H0⟩ (fun e S => (e = .normal ∨ e = .ret) ∧ ∃ ρ, Weak S ⟨[], H1⟩ ρ ∧ ResVs P S fn.results.toList (D.renL ρ rs) ∧ D.refsInL (St.okn ⟨[], H1⟩) rs = true)) : FnH P f ds H0 (retD rs) H1 := by
  intro E β vs hX hβ hok0 hvs
  let O : Origin := ⟨E.w, E.X, footB β H0, β, none, fun _ => [], fun _ => 0, fun _ => [], fun _ => (#[], .skip, .skip)⟩
  have hl := hvs.length
  have hrel : Rel O N ⟨(List.range ds.length).zip ds, H0⟩ E β { tmps := vs.toArray ++ Array.replicate (fn.ntmps - vs.toArray.size) undef, defers := [] } := by
    refine ⟨by simp; omega, Marks.nil, hok0, ?_⟩
    intro s
    have key : ∀ (ds : List D) (vs : List Value) (k : Nat), RdL E β vs ds → Rd E β (if s < k then undef else vs.getD (s - k) undef) (look .dead s ((List.range' k ds.length).zip ds)) := by
      intro ds
      induction ds with
      | nil => intro vs k _; simp [look]; exact .dead _ _
      | cons d ds ih =>
        intro vs k hv
        cases hv with
        | cons h1 h2 =>
          simp only [List.length_cons, List.range'_succ, List.zip_cons_cons, look_cons]
          by_cases hks : k = s
          · subst hks; simpa using h1
          · rw [if_neg hks]
            have := ih _ (k + 1) h2
            by_cases hlt : s < k
            · simpa [hlt, show s < k + 1 by omega] using this
            · have h3 : ¬ s < k + 1 := by omega
              rw [if_neg hlt]; rw [if_neg h3] at this
              rw [show s - k = (s - (k + 1)) + 1 by omega]
              simpa using this
    have := key ds vs 0 hvs
    rw [List.range_eq_range']
    simp only [Nat.not_lt_zero, if_false, Nat.sub_zero] at this
    have hg : (vs.toArray ++ Array.replicate (fn.ntmps - vs.toArray.size) undef).getD s undef = vs.getD s undef := by
      by_cases hs : s < vs.length
      · simp [hs, Array.getElem?_append]
      · simp [Array.getElem?_append, hs, List.getElem?_eq_none (Nat.le_of_not_lt hs)]
        simp [Array.getElem?_replicate]
        split <;> rfl
    show Rd E β (Array.getD _ s undef) _
    rw [hg]
    exact this
  refine calls_of_iwp hf hb rfl (fun b hb hf => by obtain ⟨i, hi, hbi⟩ := hf; exact absurd (hok0.lt hi hbi) (Nat.not_lt.2 hb)) hrel (O := O) (h O ⟨rfl, fun b hb hf => by obtain ⟨i, hi, hbi⟩ := hf; exact absurd (hok0.lt hi hbi) (Nat.not_lt.2 hb), fun _ => rfl⟩) ?_
  rintro e S' E' β' a' hr' ⟨he, ρ, hw, hres, hin⟩
  refine ⟨he, ?_⟩
  obtain ⟨vs', h1, h2⟩ := run_results (P := P) hr' hres
  obtain ⟨β3, hr3, hβ3⟩ := hr'.weak' hw
  have h3 : RdL E' β3 vs' rs := RdL.ren hβ3 rs h2 hin
  have hrun : (results fn a'.tmps).run P E'.w = .ok (if h : vs'.toArray.size = 1 then vs'.toArray[0] else .tuple vs'.toArray) E'.w := by
    have hF : results fn a'.tmps = (fn.results.mapM (resF a'.tmps)) >>= fun vs => pure (if h : vs.size = 1 then vs[0] else .tuple vs) := by
      unfold results
      congr 2
    rw [hF, ← Array.toArray_toList (xs := fn.results), List.mapM_toArray]
    simp only [Sem.run_bind, Sem.run_map, h1, Result.andThen_ok, Sem.run_pure]
  have hfin : ∃ v, (results fn a'.tmps).run P E'.w = .ok v E'.w ∧ Rd E' β3 v (retD rs) := by
    refine ⟨_, hrun, ?_⟩
    cases h3 with
    | nil => simpa [retD] using Rd.tuple (E := E') β3 [] [] (.nil _)
    | cons h5 h6 =>
      cases h6 with
      | nil => simpa [retD] using h5
      | cons h7 h8 =>
        simp only [retD, List.size_toArray, List.length_cons]
        rw [dif_neg (by omega)]
        exact .tuple _ _ _ (.cons h5 (.cons h7 h8))
  obtain ⟨v, h5, h6⟩ := hfin
  exact ⟨v, h5, v, rfl, E', β3, rfl, hr3.h, h6⟩

theorem FnH.pure {f : FuncId} {ds : List D} {r : D} (h : FnH P f ds [] r []) (hp : r.refsIn noRef = true) : PureAt P f ds r := by
  intro E vs hX hv
  have e : footB β0 [] = fun _ => False := by
    funext b; apply propext; constructor
    · rintro ⟨i, _, hi⟩; cases hi
    · exact fun h => h.elim
  refine (h E β0 vs hX (fun i b hi => by cases hi) (by rw [e]; exact init_hok hX) hv).mono ?_
  rintro e w' ⟨v, rfl, E', β', rfl, hok, hrd⟩
  refine ⟨v, rfl, ⟨hok.os, hok.tape, hok.output, hok.size, fun k hk => hok.block k hk (by rintro ⟨i, _, hi⟩; cases hi)⟩, ?_⟩
  have hxx : E'.le ⟨E'.w, E.X⟩ := by
    constructor
    · intro b o v hc hx
      exact ⟨hc, fun hX' => hx ((hok.xold b o (hX b o hX') (by rintro ⟨i, _, hi⟩; cases hi)).2 hX')⟩
    · intro b c e f hc; exact ⟨c, f, hc, rfl⟩
  exact Rd.mono hxx (Names.le.refl _) (hrd.bare hp)

/-- What may hang on whether a list is nil, goes on both ways. -/
theorem ils_eqnil {ops : Array Oper} {l : List Oper} {xt yt e : TypeId} {x y : Operand} {f : Bool} {s : List D} {Q : Exit → St → Prop} (hg : o.guard = none) (ho : o.op = .binOp .eql xt x y yt) (hd : o.dst = some t) (ht : t < N) (hu : P.underlying xt = some (.slice e))
    (hx : SV S x (.slice f s)) (hy : S.op y = .nils) (k : ∀ b, (b = true → s = []) → ILS P O N ops l (S.set t (.bool b)) Q) : ILS P O N ops (o :: l) S Q := by
  intro E β a hr
  refine wpListIn_plain hg fun K hK => wp_in _ (by rw [ho]; rfl) ?_
  have hyv : a.eval y = .slice none 0 0 := by
    have := hr.op y
    rw [hy] at this
    generalize a.eval y = v at this
    cases this; rfl
  have key : ∃ b : Bool, (b = true → s = []) ∧ (execOp a.eval o).run P E.w = .ok (.value (.bool b)) E.w := by
    rcases rd_slice (hx.rd hr) with ⟨hev, hs⟩ | ⟨b, off, cap, sz, vs, hev, _⟩ | ⟨ad, cap, hev, hs⟩
    · refine ⟨true, fun _ => hs, ?_⟩
      have h1 := Lib.run_eql_slice_nil (P := P) E.w xt e none 0 0 0 0 hu
      simp [execOp, ho, hev, hyv, eqGuard, h1]
    · refine ⟨false, (fun h => by cases h), ?_⟩
      have h1 := Lib.run_eql_slice_nil (P := P) E.w xt e (some ⟨b, off, none⟩) s.length cap 0 0 hu
      simp [execOp, ho, hev, hyv, eqGuard, h1]
    · refine ⟨false, (fun h => by cases h), ?_⟩
      have h1 := Lib.run_eql_slice_nil (P := P) E.w xt e (some ad) 0 cap 0 0 hu
      simp [execOp, ho, hev, hyv, eqGuard, h1]
  obtain ⟨b, hb, hrun⟩ := key
  unfold Oper.wp
  rw [hrun]
  simp only [Oper.upon, hd]
  exact hK _ _ (k b hb E β _ (hr.set ht (.bool _ _)))


end
end Go.IL
