/-
  A part of the proof: rules and plain facts. No condition.
-/
import Derived.Test.YtpmmgpdokjchkaaDoorIlS
import Derived.WalkSpells
import Derived.Laws.StructEq
import Derived.RangeFuncIn
import Derived.Laws.FloatArith
import Derived.Laws.Cover2
import Derived.Laws.Externs
import Derived.Lib.AppendZerosOnto
import Derived.Laws.CopyRow
import Derived.Lib.Overlaps
import Derived.KernelRfl
import Derived.Lib.Bytealg
import Derived.Lib.ItoaNum
set_option linter.all false
namespace Go.IL
open RowKit (Below)

def footB (β : Names) (H : List (Nat × Ent)) (b : Nat) : Prop := ∃ i, (entL H i).held = true ∧ β i = some b

/-- A call on what reads as 'ds', handed what 'H0' tells (by the names from 1000 on): it hands back what reads as 'r', and 'H1'. -/
def FnH (P : Program) (f : FuncId) (ds : List D) (H0 : List (Nat × Ent)) (r : D) (H1 : List (Nat × Ent)) : Prop :=
  ∀ (E : Env) (β : Names) (vs : List Value), E.good → (∀ i b, β i = some b → 1000 ≤ i) →
    HOk ⟨E.w, E.X, footB β H0, β, none, fun _ => [], fun _ => 0, fun _ => [], fun _ => (#[], .skip, .skip)⟩ E β (entL H0) → RdL E β vs ds →
    Calls P f vs.toArray E.w fun e w' => ∃ v, e = .returned v ∧ ∃ E' β', E'.w = w' ∧ HOk ⟨E.w, E.X, footB β H0, β, none, fun _ => [], fun _ => 0, fun _ => [], fun _ => (#[], .skip, .skip)⟩ E' β' (entL H1) ∧ Rd E' β' v r

def Ent.ren (ρ : Nat → Nat) : Ent → Ent
  | .blk e ds => .blk e (D.renL ρ ds)
  | .loop k ds st p => .loop k (D.renL ρ ds) st p
  | .kept k ds => .kept k (D.renL ρ ds)
  | e => e
def Ent.refsIn (p : Nat → Bool) : Ent → Bool
  | .blk _ ds => D.refsInL p ds
  | .loop .. => false
  | .kept .. => false
  | _ => true
theorem Ent.held_ren (ρ : Nat → Nat) (e : Ent) : (e.ren ρ).held = e.held := by cases e <;> rfl

mutual
theorem Rd.renp {E : Env} {β β' : Names} {ρ : Nat → Nat} {p : Nat → Bool} (hp : ∀ id b, p id = true → β id = some b → β' (ρ id) = some b) : ∀ {v : Value} {d : D}, Rd E β v d → d.refsIn p = true → Rd E β' v (d.ren ρ)
  | _, _, .dead _ v, _ => .dead _ v
  | _, _, .bool _ b, _ => .bool _ b
  | _, _, .int _ k n, _ => .int _ k n
  | _, _, .float _ k m n h, _ => .float _ k m n h
  | _, _, .str _ l, _ => .str _ l
  | _, _, .slice _ b off len cap sz full vs l hl hc hf hz hsz hr hv, _ => .slice _ b off len cap sz full vs l hl hc hf hz hsz hr hv
  | _, _, .nslice _ f, _ => .nslice _ f
  | _, _, .eslice _ a c f h, _ => .eslice _ a c f h
  | _, _, .nils _, _ => .nils _
  | _, _, .agg _ vs cs hv, hi => .agg _ vs _ (RdL.renp hp hv (by simpa [D.refsIn] using hi))
  | _, _, .tuple _ vs cs hv, hi => .tuple _ vs _ (RdL.renp hp hv (by simpa [D.refsIn] using hi))
  | _, _, .fptr _ b off vs cs hr hv, _ => .fptr _ b off vs cs hr hv
  | _, _, .nilp _, _ => .nilp _
  | _, _, .nilf _, _ => .nilf _
  | _, _, .nili _, _ => .nili _
  | _, _, .fn _ f vs caps hv, hi => .fn _ f vs _ (RdL.renp hp hv (by simpa [D.refsIn] using hi))
  | _, _, .mv _ f us first hv, hi => .mv _ f us _ (RdL.renp hp hv (by simpa [D.refsIn] using hi))
  | _, _, .ref _ id off b hb, hi => .ref _ _ off b (hp _ _ (by simpa [D.refsIn] using hi) hb)
  | _, _, .rsl _ id sz off len cap b o hb hc hsz ho c e f h1 h2 h3, hi => .rsl _ _ sz off len cap b o (hp _ _ (by simpa [D.refsIn] using hi) hb) hc hsz ho c e f h1 h2 h3
  | _, _, .gsl _ id b len cap sz vs l hb hl hc hz hsz hr hv c e f h1 h2 h3, hi => .gsl _ _ b len cap sz vs l (hp _ _ (by simpa [D.refsIn] using hi) hb) hl hc hz hsz hr hv c e f h1 h2 h3
  | _, _, .ngsl _ id sz, _ => .ngsl _ _ sz
  | _, _, .osl _ id b len cap sz hb hc hsz c e f h1 h2 h3, hi => .osl _ _ b len cap sz (hp _ _ (by simpa [D.refsIn] using hi) hb) hc hsz c e f h1 h2 h3
  | _, _, .nosl _ id sz, _ => .nosl _ _ sz
  | _, _, .cnd _ v b d hv hu, hi => .cnd _ v b _ (fun hb => Rd.renp hp (hv hb) (by simpa [D.refsIn] using hi)) hu
  | _, _, .yld _ id l hb, hi => .yld _ _ l (hp id l (by simpa [D.refsIn] using hi) hb)
theorem RdL.renp {E : Env} {β β' : Names} {ρ : Nat → Nat} {p : Nat → Bool} (hp : ∀ id b, p id = true → β id = some b → β' (ρ id) = some b) : ∀ {vs : List Value} {ds : List D}, RdL E β vs ds → D.refsInL p ds = true → RdL E β' vs (D.renL ρ ds)
  | _, _, .nil _, _ => .nil _
  | _, _, .cons (d := d) (ds := ds) hv t, hi =>
    have hi' : d.refsIn p = true ∧ D.refsInL p ds = true := by simpa [D.refsInL] using hi
    .cons (Rd.renp hp hv hi'.1) (RdL.renp hp t hi'.2)
end

/-- The names of a call, in its caller's. -/
def sig (k : Nat) (A : List Nat) (i : Nat) : Nat := if 1000 ≤ i then A.getD (i - 1000) 0 else k + i
def givenB (A : List Nat) (i : Nat) : Bool := Nat.ble 1000 i && Nat.blt i (1000 + A.length)
def backB (k : Nat) (A : List Nat) (i : Nat) : Bool := Nat.blt (k + i) 1000 || givenB A i

theorem look_of_mem {α : Type} {z : α} {i : Nat} : ∀ {l : List (Nat × α)}, i ∈ l.map (·.1) → ∃ e, (i, e) ∈ l ∧ look z i l = e
  | (j, e) :: l, h => by
    rw [look_cons]
    by_cases hj : j = i
    · subst hj; exact ⟨e, by simp, by simp⟩
    · rw [if_neg hj]
      have : i ∈ l.map (·.1) := by simp only [List.map_cons, List.mem_cons] at h; rcases h with h | h; exact absurd h.symm hj; exact h
      obtain ⟨e', h1, h2⟩ := look_of_mem (z := z) this
      exact ⟨e', by simp [h1], h2⟩
theorem look_not_mem {α : Type} {z : α} {i : Nat} : ∀ {l : List (Nat × α)}, i ∉ l.map (·.1) → look z i l = z
  | [], _ => rfl
  | (j, e) :: l, h => by
    simp only [List.map_cons, List.mem_cons, not_or] at h
    rw [look_cons, if_neg (Ne.symm h.1)]; exact look_not_mem h.2

theorem entL_held {H : List (Nat × Ent)} {i : Nat} (h : (entL H i).held = true) : (i, entL H i) ∈ H := by
  by_cases hm : i ∈ H.map (·.1)
  · obtain ⟨e, h1, h2⟩ := look_of_mem (z := defE i) hm
    rw [show entL H i = e from h2]; exact h1
  · have : entL H i = defE i := look_not_mem hm
    rw [this] at h; unfold defE at h; split at h <;> cases h

section
variable {P : Program} {O : Origin} {N : Nat} {S S' : St} {o : Oper} {t : Nat}

structure Hand (S : St) (k : Nat) (A : List Nat) (H0 : List (Nat × Ent)) : Prop where
  keys : (S.H.map (·.1)).all (fun i => Nat.blt i k || Nat.ble 1000 i) = true
  kA : A.all (fun i => Nat.blt i k || Nat.ble 1000 i) = true
  nd : A.Nodup
  cov : A.all (fun i => (H0.map fun x => sig k A x.1).contains i) = true
  ents : ∀ x ∈ H0, givenB A x.1 = true ∧ x.2.held = true ∧ S.ent (sig k A x.1) = x.2.ren (sig k A) ∧ x.2.refsIn (givenB A) = true

def afterH (k : Nat) (A : List Nat) (H0 H1 H : List (Nat × Ent)) : List (Nat × Ent) :=
  (H1.map fun x => (sig k A x.1, x.2.ren (sig k A))) ++ ((H0.map fun x => (sig k A x.1, Ent.none)) ++ H)

theorem sig_given {k i : Nat} {A : List Nat} (h : givenB A i = true) : sig k A i ∈ A := by
  simp only [givenB, Bool.and_eq_true, Nat.ble_eq, Nat.blt_eq] at h
  simp only [sig, if_pos h.1]
  rw [List.getD_eq_getElem?_getD, List.getElem?_eq_getElem (show i - 1000 < A.length by omega)]
  exact List.getElem_mem _
theorem nodup_idx : ∀ {A : List Nat}, A.Nodup → ∀ {j : Nat} (hj : j < A.length), A.idxOf A[j] = j
  | [], _, _, hj => absurd hj (by simp)
  | a :: A, _, 0, _ => by simp [List.idxOf_cons]
  | a :: A, hn, j + 1, hj => by
    rw [List.nodup_cons] at hn
    have hj' : j < A.length := by simpa using hj
    have hne : ¬ a = A[j] := fun h => hn.1 (h ▸ List.getElem_mem hj')
    have := nodup_idx hn.2 hj'
    simp only [List.getElem_cons_succ, List.idxOf_cons]
    rw [this, show (a == A[j]) = false from by simpa using hne]; rfl
theorem idx_get {i : Nat} : ∀ {A : List Nat} (h : A.idxOf i < A.length), A[A.idxOf i] = i
  | [], h => absurd h (by simp)
  | a :: A, h => by
    by_cases hai : a = i
    · subst hai; simp [List.idxOf_cons]
    · have e : (a :: A).idxOf i = A.idxOf i + 1 := by rw [List.idxOf_cons, show (a == i) = false from by simpa using hai]; rfl
      have h' : A.idxOf i < A.length := by rw [e] at h; simpa using h
      have := idx_get h'
      simp only [e, List.getElem_cons_succ]; exact this
theorem sig_idx {k i : Nat} {A : List Nat} (hn : A.Nodup) (h : givenB A i = true) : 1000 + A.idxOf (sig k A i) = i := by
  simp only [givenB, Bool.and_eq_true, Nat.ble_eq, Nat.blt_eq] at h
  simp only [sig, if_pos h.1]
  have hlt : i - 1000 < A.length := by omega
  rw [List.getD_eq_getElem?_getD, List.getElem?_eq_getElem hlt, Option.getD_some, nodup_idx hn hlt]
  omega
theorem sig_inj {k i j : Nat} {A : List Nat} (hn : A.Nodup) (hi : givenB A i = true) (hj : givenB A j = true) (h : sig k A i = sig k A j) : i = j := by
  rw [← sig_idx (k := k) hn hi, ← sig_idx (k := k) hn hj, h]
theorem given_of_mem {k i : Nat} {A : List Nat} (h : i ∈ A) : givenB A (1000 + A.idxOf i) = true ∧ sig k A (1000 + A.idxOf i) = i := by
  have hlt := List.idxOf_lt_length_of_mem h
  constructor
  · simp only [givenB, Bool.and_eq_true, Nat.ble_eq, Nat.blt_eq]; omega
  · simp only [sig, if_pos (Nat.le_add_right 1000 _)]
    rw [show 1000 + A.idxOf i - 1000 = A.idxOf i by omega, List.getD_eq_getElem?_getD, List.getElem?_eq_getElem hlt, Option.getD_some]
    exact idx_get hlt

theorem iop_enterh {f : FuncId} {ds ds' : List D} {r r' : D} {H0 H1 H2 : List (Nat × Ent)} (k : Nat) (A : List Nat) (hd : o.dst = some t) (ht : t < N)
    (h : ∀ E β a, Rel O N S E β a → ∃ vs : List Value, (execOp a.eval o).run P E.w = .ok (.enter f vs.toArray) E.w ∧ RdL E β vs ds') (hds : D.renL (sig k A) ds = ds') (hp : D.refsInL (givenB A) ds = true)
    (hh : Hand S k A H0) (hf : FnH P f ds H0 r H1) (hrr : r.ren (sig k A) = r') (hrp : r.refsIn (backB k A) = true) (hH1 : ∀ x ∈ H1, backB k A x.1 = true ∧ x.2.refsIn (backB k A) = true)
    (hH2 : afterH k A H0 H1 S.H = H2) : IOp P O N o S (St.set ⟨S.sl, H2⟩ t r') := by
  intro E β a hr next Q hn
  obtain ⟨vs, hrun, hv⟩ := h E β a hr
  unfold Oper.wp
  rw [hrun]
  simp only [Oper.upon, hd]
  subst hds hrr hH2
  let βc : Names := fun i => if givenB A i = true then β (sig k A i) else none
  have hβc : ∀ id, givenB A id = true → βc id = β (sig k A id) := fun id hid => by simp [βc, hid]
  have hvc : RdL E βc vs ds := RdL.ren hβc ds hv hp
  have h0 : ∀ i, (entL H0 i).held = true → givenB A i = true ∧ S.ent (sig k A i) = (entL H0 i).ren (sig k A) ∧ (entL H0 i).refsIn (givenB A) = true := fun i hi => by
    have h1 := hh.ents _ (entL_held hi)
    exact ⟨h1.1, h1.2.2.1, h1.2.2.2⟩
  have hcall : HOk ⟨E.w, E.X, footB βc H0, βc, none, fun _ => [], fun _ => 0, fun _ => [], fun _ => (#[], .skip, .skip)⟩ E βc (entL H0) := {
    tab := hr.h.good.tab, os := rfl, tape := rfl, output := rfl, size := Nat.le_refl _, block := fun _ _ _ => rfl, xlt := hr.h.xlt, xold := fun _ _ _ _ => Iff.rfl, le := Env.le.refl _
    gid := fun i b hi => by
      by_cases hg : givenB A i = true
      · simp only [givenB, Bool.and_eq_true, Nat.ble_eq] at hg; exact hg.1
      · simp [βc, hg] at hi
    given := fun _ _ hi => hi
    ent := fun i => by
      cases hhe : (entL H0 i).held with
      | true =>
        obtain ⟨h1, h2, h3⟩ := h0 i hhe
        have he := hr.h.ent (sig k A i)
        rw [h2] at he
        have hown : ∀ b, βc i = some b → (⟨E.w, E.X, footB βc H0, βc, none, fun _ => [], fun _ => 0, fun _ => [], fun _ => (#[], .skip, .skip)⟩ : Origin).own b := fun b hb => .inr ⟨i, hhe, hb⟩
        cases hE : entL H0 i with
        | none => trivial
        | fresh => rw [hE] at hhe; cases hhe
        | blk e es =>
          rw [hE] at he h3
          rcases he with ⟨g1, g2⟩ | ⟨b, ws, sp, g1, g2, g3, g4, g5⟩
          · exact .inl ⟨(hβc i h1).trans g1, renL_nil g2⟩
          · exact .inr ⟨b, ws, sp, (hβc i h1).trans g1, hown b ((hβc i h1).trans g1), g3, g4, RdL.ren hβc es g5 h3⟩
        | tail e sz n =>
          rw [hE] at he
          rcases he with ⟨g1, g2⟩ | ⟨b, c, g1, g2, g3, g4⟩
          · exact .inl ⟨(hβc i h1).trans g1, g2⟩
          · exact .inr ⟨b, c, (hβc i h1).trans g1, hown b ((hβc i h1).trans g1), g3, g4⟩
        | loop lk es st pe =>
          rw [hE] at h3; cases h3
        | kept n es => rw [hE] at hhe; cases hhe
      | false =>
        cases hE : entL H0 i with
        | none => trivial
        | fresh =>
          show βc i = none
          by_cases hm : i ∈ H0.map (·.1)
          · obtain ⟨e, h1, h2⟩ := look_of_mem (z := defE i) hm
            have h3 := hh.ents _ h1
            have : entL H0 i = e := h2
            rw [hE] at this; rw [← this] at h3; exact absurd h3.2.1 (by simp [Ent.held])
          · have : entL H0 i = defE i := look_not_mem hm
            rw [hE] at this
            unfold defE at this
            split at this
            · cases this
            · rename_i hlt
              have : ¬ givenB A i = true := by simp only [givenB, Bool.and_eq_true, Nat.ble_eq]; omega
              simp [βc, this]
        | blk => rw [hE] at hhe; cases hhe
        | tail => rw [hE] at hhe; cases hhe
        | loop => rw [hE] at hhe; cases hhe
        | kept n es =>
          exfalso
          by_cases hm : i ∈ H0.map (·.1)
          · obtain ⟨e, h1, h2⟩ := look_of_mem (z := defE i) hm
            have h3 := hh.ents _ h1
            have : entL H0 i = e := h2
            rw [hE] at this; rw [← this] at h3; exact absurd h3.2.1 (by simp [Ent.held])
          · have : entL H0 i = defE i := look_not_mem hm
            rw [hE] at this
            unfold defE at this
            split at this <;> cases this
    inj := fun i j b hi hj h1 h2 => by
      obtain ⟨a1, a2, _⟩ := h0 i hi
      obtain ⟨b1, b2, _⟩ := h0 j hj
      have h1 : β (sig k A i) = some b := (hβc i a1).symm.trans h1
      have h2 : β (sig k A j) = some b := (hβc j b1).symm.trans h2
      exact sig_inj hh.nd a1 b1 (hr.h.inj _ _ b (by rw [a2, Ent.held_ren]; exact hi) (by rw [b2, Ent.held_ren]; exact hj) h1 h2) }
  refine (hf E βc vs hr.h.good hcall.gid hcall hvc).mono ?_
  rintro e w' ⟨v, rfl, E', β', rfl, hok, hrd⟩
  -- old blocks that were not handed over
  have hfoot : ∀ b, footB βc H0 b → ∃ i, givenB A i = true ∧ (S.ent (sig k A i)).held = true ∧ β (sig k A i) = some b := fun b ⟨i, hi, hb⟩ => by
    obtain ⟨h1, h2, _⟩ := h0 i hi
    exact ⟨i, h1, by rw [h2, Ent.held_ren]; exact hi, by rw [← hβc i h1]; exact hb⟩
  have hfown : ∀ b, footB βc H0 b → O.own b := fun b hb => by
    obtain ⟨i, _, h2, h3⟩ := hfoot b hb
    have he := hr.h.ent (sig k A i)
    exact hr.h.own h2 h3
  have hcown : ∀ b, (⟨E.w, E.X, footB βc H0, βc, none, fun _ => [], fun _ => 0, fun _ => [], fun _ => (#[], .skip, .skip)⟩ : Origin).own b → O.own b := fun b hb => by
    rcases hb with hb | hb
    · exact .inl (Nat.le_trans hr.h.size hb)
    · exact hfown b hb
  have hfresh : ∀ i, k ≤ i → i < 1000 → β i = none := fun i h1 h2 => by
    have he := hr.h.ent i
    have : S.ent i = .fresh := by
      have hnm : i ∉ S.H.map (·.1) := fun hm => by
        have := List.all_eq_true.1 hh.keys i hm
        simp only [Bool.or_eq_true, Nat.blt_eq, Nat.ble_eq] at this; omega
      have h3 : S.ent i = defE i := look_not_mem hnm
      rw [h3, defE, if_neg (by omega)]
    rw [this] at he; exact he
  let βn : Names := fun i => if k ≤ i ∧ i < 1000 then β' (i - k) else if i ∈ A then β' (1000 + A.idxOf i) else β i
  have hAk : ∀ i, i ∈ A → ¬ (k ≤ i ∧ i < 1000) := fun i hi => by
    have := List.all_eq_true.1 hh.kA _ hi
    simp only [Bool.or_eq_true, Nat.blt_eq, Nat.ble_eq] at this; omega
  have hnA : ∀ i, i ∈ A → βn i = β' (1000 + A.idxOf i) := fun i hi => by simp [βn, hAk i hi, hi]
  have hnO : ∀ i, i ∉ A → ¬ (k ≤ i ∧ i < 1000) → βn i = β i := fun i h1 h2 => by simp [βn, h1, h2]
  have hβ1 : β.le βn := fun i b hi => by
    by_cases hki : k ≤ i ∧ i < 1000
    · rw [hfresh i hki.1 hki.2] at hi; cases hi
    · by_cases hA : i ∈ A
      · rw [hnA i hA]
        obtain ⟨h1, h2⟩ := given_of_mem (k := k) hA
        exact hok.given _ _ (((hβc _ h1).trans (by rw [h2])).trans hi)
      · rw [hnO i hA hki]; exact hi
  have hβ2 : ∀ i, backB k A i = true → βn (sig k A i) = β' i := fun i hi => by
    by_cases hg : givenB A i = true
    · rw [hnA _ (sig_given hg), sig_idx hh.nd hg]
    · simp only [backB, hg, Bool.or_false, Nat.blt_eq] at hi
      have h2 : ¬ 1000 ≤ i := by omega
      have h1 : sig k A i = k + i := by simp [sig, h2]
      rw [h1]
      simp [βn, hi]
  have hle : E.le E' := hok.le
  -- the entries behind the call
  have hkey1 : ∀ i, backB k A i = true → ∀ j, backB k A j = true → sig k A i = sig k A j → i = j := fun i hi j hj hij => by
    by_cases hgi : givenB A i = true
    · by_cases hgj : givenB A j = true
      · exact sig_inj hh.nd hgi hgj hij
      · exfalso
        simp only [backB, hgj, Bool.or_false, Nat.blt_eq] at hj
        have h2 : sig k A j = k + j := by simp [sig, show ¬ 1000 ≤ j by omega]
        exact hAk _ (sig_given (k := k) hgi) (by rw [hij, h2]; omega)
    · by_cases hgj : givenB A j = true
      · exfalso
        simp only [backB, hgi, Bool.or_false, Nat.blt_eq] at hi
        have h2 : sig k A i = k + i := by simp [sig, show ¬ 1000 ≤ i by omega]
        exact hAk _ (sig_given (k := k) hgj) (by rw [← hij, h2]; omega)
      · simp only [backB, hgi, hgj, Bool.or_false, Nat.blt_eq] at hi hj
        simp only [sig, show ¬ 1000 ≤ i by omega, show ¬ 1000 ≤ j by omega, if_false] at hij
        omega
  have hent : ∀ i, (St.set ⟨S.sl, afterH k A H0 H1 S.H⟩ t (r.ren (sig k A))).ent i =
      if i ∈ H1.map (fun x => sig k A x.1) then (look (defE i) i (H1.map fun x => (sig k A x.1, x.2.ren (sig k A)))) else if i ∈ H0.map (fun x => sig k A x.1) then .none else S.ent i := fun i => by
    simp only [St.ent, entL, St.set, afterH, look_append, List.map_map]
    have e1 : (Prod.fst ∘ fun x : Nat × Ent => (sig k A x.1, x.2.ren (sig k A))) = fun x => sig k A x.1 := rfl
    have e2 : (Prod.fst ∘ fun x : Nat × Ent => (sig k A x.1, Ent.none)) = fun x => sig k A x.1 := rfl
    rw [e1, e2]
    split
    · rfl
    · split
      · rename_i h1 h2
        obtain ⟨e, h3, h4⟩ := look_of_mem (z := defE i) (l := H0.map fun x => (sig k A x.1, Ent.none)) (by rw [List.map_map, e2]; exact h2)
        rw [h4]
        obtain ⟨x, _, hx⟩ := List.mem_map.1 h3
        cases hx; rfl
      · rfl
  have hlook1 : ∀ j, backB k A j = true → j ∈ H1.map (·.1) → look (defE (sig k A j)) (sig k A j) (H1.map fun x => (sig k A x.1, x.2.ren (sig k A))) = (entL H1 j).ren (sig k A) := by
    intro j hj
    unfold entL
    have aux : ∀ (z z' : Ent) (l : List (Nat × Ent)), (∀ x ∈ l, backB k A x.1 = true) → j ∈ l.map (·.1) → look z (sig k A j) (l.map fun x => (sig k A x.1, x.2.ren (sig k A))) = (look z' j l).ren (sig k A) := by
      intro z z' l
      induction l with
      | nil => intro _ h; simp at h
      | cons x l ih =>
        obtain ⟨i, e⟩ := x
        intro hl hm
        simp only [List.map_cons, look_cons]
        by_cases hij : i = j
        · subst hij; rw [if_pos rfl, if_pos rfl]
        · rw [if_neg (fun h => hij (hkey1 i (hl (i, e) List.mem_cons_self) j hj h)), if_neg hij]
          refine ih (fun x hx => hl x (List.mem_cons_of_mem _ hx)) ?_
          simp only [List.map_cons, List.mem_cons] at hm
          rcases hm with h | h
          · exact absurd h.symm hij
          · exact h
    exact aux _ _ H1 (fun x hx => (hH1 x hx).1)
  have hH1r : ∀ j, j ∈ H1.map (·.1) → backB k A j = true ∧ (entL H1 j).refsIn (backB k A) = true := fun j hj => by
    obtain ⟨e, h1, h2⟩ := look_of_mem (z := defE j) hj
    have h3 := hH1 _ h1
    exact ⟨h3.1, by rw [show entL H1 j = e from h2]; exact h3.2⟩
  have cases1 : ∀ i, i ∈ H1.map (fun x => sig k A x.1) → ∃ j, j ∈ H1.map (·.1) ∧ backB k A j = true ∧ i = sig k A j := fun i hi => by
    obtain ⟨x, hx, rfl⟩ := List.mem_map.1 hi
    exact ⟨x.1, List.mem_map.2 ⟨x, hx, rfl⟩, (hH1 x hx).1, rfl⟩
  -- an entry that was not handed over
  have hold : ∀ i, i ∉ H1.map (fun x => sig k A x.1) → i ∉ H0.map (fun x => sig k A x.1) → (S.ent i).held = true → ∀ b, β i = some b → βn i = some b ∧ b < E.w.heap.size ∧ ¬ footB βc H0 b := fun i h1 h2 h3 b hb => by
    refine ⟨hβ1 i b hb, ?_, ?_⟩
    · exact hr.h.lt h3 hb
    · rintro ⟨j, hj, hbj⟩
      obtain ⟨g1, g2, _⟩ := h0 j hj
      have : i = sig k A j := hr.h.inj i (sig k A j) b h3 (by rw [g2, Ent.held_ren]; exact hj) hb (by rw [← hβc j g1]; exact hbj)
      exact h2 (List.mem_map.2 ⟨_, entL_held hj, this.symm⟩)
  have hcov : ∀ i, i ∈ A → i ∈ H0.map (fun x => sig k A x.1) := fun i hi => by
    have := List.all_eq_true.1 hh.cov i hi
    simpa using this
  have hold' : ∀ i, i ∉ H0.map (fun x => sig k A x.1) → S.ent i ≠ .fresh → βn i = β i := fun i h0 hf => by
    refine hnO i (fun hA => h0 (hcov i hA)) (fun hki => hf ?_)
    have hnm : i ∉ S.H.map (·.1) := fun hm => by
      have := List.all_eq_true.1 hh.keys i hm
      simp only [Bool.or_eq_true, Nat.blt_eq, Nat.ble_eq] at this; omega
    have h3 : S.ent i = defE i := look_not_mem hnm
    rw [h3, defE, if_neg (by omega)]
  refine hn E' βn _ ⟨by simp [Act.put, hr.n], hr.nd.mono (fun b hx => (hok.block b (heap_lt hx) (fun hf => by obtain ⟨i, _, h2, h3⟩ := hfoot b hf; exact hr.h.nodef h2 h3 _ hx)).trans hx), ?_, ?_⟩
  · exact {
      tab := hr.h.tab, os := hok.os.trans hr.h.os, tape := hok.tape.trans hr.h.tape, output := hok.output.trans hr.h.output, size := Nat.le_trans hr.h.size hok.size
      block := fun j hj hf => by
        have hnf : ¬ footB βc H0 j := fun h => by
          rcases hfown j h with h1 | h1
          · omega
          · exact hf h1
        exact (hok.block j (Nat.lt_of_lt_of_le hj hr.h.size) hnf).trans (hr.h.block j hj hf)
      xlt := hok.xlt
      xold := fun b o hb hf => by
        have hnf : ¬ footB βc H0 b := fun h => by
          rcases hfown b h with h1 | h1
          · omega
          · exact hf h1
        exact (hok.xold b o (Nat.lt_of_lt_of_le hb hr.h.size) hnf).trans (hr.h.xold b o hb hf)
      le := hr.h.le.trans hle
      gid := hr.h.gid
      given := fun i b hi => hβ1 i b (hr.h.given i b hi)
      ent := fun i => by
        rw [hent i]
        by_cases hi1 : i ∈ H1.map (fun x => sig k A x.1)
        · rw [if_pos hi1]
          obtain ⟨j, hj, hbj, rfl⟩ := cases1 i hi1
          rw [hlook1 j hbj hj]
          have he := hok.ent j
          have hrf := (hH1r j hj).2
          have hb2 := hβ2 j hbj
          cases hE : entL H1 j with
          | none => trivial
          | fresh => rw [hE] at he; exact hb2.trans he
          | blk e es =>
            rw [hE] at he hrf
            rcases he with ⟨g1, g2⟩ | ⟨b, ws, sp, g1, g2, g3, g4, g5⟩
            · exact .inl ⟨hb2.trans g1, by rw [g2]; rfl⟩
            · exact .inr ⟨b, ws, sp, hb2.trans g1, hcown b g2, g3, g4, RdL.renp (fun id b hid hb => (hβ2 id hid).trans hb) g5 hrf⟩
          | tail e sz n =>
            rw [hE] at he
            rcases he with ⟨g1, g2⟩ | ⟨b, c, g1, g2, g3, g4⟩
            · exact .inl ⟨hb2.trans g1, g2⟩
            · exact .inr ⟨b, c, hb2.trans g1, hcown b g2, g3, g4⟩
          | loop lk es st pe =>
            rw [hE] at hrf; cases hrf
          | kept n es => rw [hE] at hrf; cases hrf
        · rw [if_neg hi1]
          by_cases hi0 : i ∈ H0.map (fun x => sig k A x.1)
          · rw [if_pos hi0]; trivial
          · rw [if_neg hi0]
            have he := hr.h.ent i
            have hnb : ∀ b, (S.ent i).held = true → β i = some b → βn i = some b ∧ E'.w.heap[b]? = E.w.heap[b]? ∧ ∀ o, (E'.X b o ↔ E.X b o) := fun b hhe hb => by
              obtain ⟨g1, g2, g3⟩ := hold i hi1 hi0 hhe b hb
              exact ⟨g1, hok.block b g2 g3, fun o => hok.xold b o g2 g3⟩
            cases hE : S.ent i with
            | none => trivial
            | fresh =>
              rw [hE] at he
              show βn i = none
              by_cases hki : k ≤ i ∧ i < 1000
              · -- a fresh name of the callee's that is told by nothing
                have hbi : i - k ∉ H1.map (·.1) := fun hm => by
                  have hbb := (hH1r _ hm).1
                  refine hi1 ?_
                  obtain ⟨x, hx, hxe⟩ := List.mem_map.1 hm
                  refine List.mem_map.2 ⟨x, hx, ?_⟩
                  have hx' : x.1 = i - k := hxe
                  rw [hx']
                  simp only [sig, show ¬ 1000 ≤ i - k by omega, if_false]
                  omega
                have h3 := hok.ent (i - k)
                have h4 : entL H1 (i - k) = defE (i - k) := look_not_mem hbi
                rw [h4, defE, if_neg (by omega)] at h3
                simp only [βn, hki, and_self, if_true]
                exact h3
              · rw [hnO i (fun hA => hi0 (hcov i hA)) hki]; exact he
            | blk e es =>
              rw [hE] at he
              rcases he with ⟨g1, g2⟩ | ⟨b, ws, sp, g1, g2, g3, g4, g5⟩
              · exact .inl ⟨(hold' i hi0 (by rw [hE]; exact fun h => by cases h)).trans g1, g2⟩
              · obtain ⟨f1, f2, f3⟩ := hnb b (by rw [hE]; rfl) g1
                exact .inr ⟨b, ws, sp, f1, g2, f2.trans g3, fun o => (f3 o).2 (g4 o), RdL.mono hle hβ1 g5⟩
            | tail e sz n =>
              rw [hE] at he
              rcases he with ⟨g1, g2⟩ | ⟨b, c, g1, g2, g3, g4⟩
              · exact .inl ⟨(hold' i hi0 (by rw [hE]; exact fun h => by cases h)).trans g1, g2⟩
              · obtain ⟨f1, f2, f3⟩ := hnb b (by rw [hE]; rfl) g1
                exact .inr ⟨b, c, f1, g2, f2.trans g3, fun o ho => (f3 o).2 (g4 o ho)⟩
            | loop lk es st pe =>
              rw [hE] at he
              obtain ⟨b, q, g1, g2, g3, g4, g5, g6, g7, g8, g9, g10⟩ := he
              obtain ⟨f1, f2, f3⟩ := hnb b (by rw [hE]; rfl) g1
              exact ⟨b, q, f1, g2, f2.trans g3, fun o => (f3 o).2 (g4 o), g5, g6, g7, g8, g9, g10.1, RdL.mono hle hβ1 g10.2⟩
            | kept n es =>
              rw [hE] at he
              exact ⟨RdL.mono hle hβ1 he.1, fun c hc => (hok.block c (heap_lt (he.2 c hc)) (fun hf => by obtain ⟨i, _, h2, h3⟩ := hfoot c hf; exact hr.h.nodef h2 h3 _ (he.2 c hc))).trans (he.2 c hc)⟩
      inj := fun i j b hi hj hbi hbj => by
        rw [hent i] at hi
        rw [hent j] at hj
        have hone : ∀ i, i ∈ H1.map (fun x => sig k A x.1) → (look (defE i) i (H1.map fun x => (sig k A x.1, x.2.ren (sig k A)))).held = true → βn i = some b → ∃ a, (entL H1 a).held = true ∧ β' a = some b ∧ i = sig k A a ∧ backB k A a = true := fun i hm hh hb => by
          obtain ⟨a, ha, hba, rfl⟩ := cases1 i hm
          rw [hlook1 a hba ha, Ent.held_ren] at hh
          exact ⟨a, hh, (hβ2 a hba).symm.trans hb, rfl, hba⟩
        have hown1 : ∀ a, (entL H1 a).held = true → β' a = some b → E.w.heap.size ≤ b ∨ footB βc H0 b := fun a hh hb => by
          exact hok.own hh hb
        have hto : ∀ i, i ∉ H0.map (fun x => sig k A x.1) → (S.ent i).held = true → βn i = some b → β i = some b := fun i h0 hh hb => by
          rw [← hold' i h0 (fun h => by rw [h] at hh; cases hh)]; exact hb
        have hmix : ∀ i j, i ∈ H1.map (fun x => sig k A x.1) → (look (defE i) i (H1.map fun x => (sig k A x.1, x.2.ren (sig k A)))).held = true → βn i = some b → j ∉ H1.map (fun x => sig k A x.1) → j ∉ H0.map (fun x => sig k A x.1) → (S.ent j).held = true → βn j = some b → False := fun i j h1 h2 h3 h4 h5 h6 h7 => by
          obtain ⟨a, ha, hb, _⟩ := hone i h1 h2 h3
          obtain ⟨_, f2, f3⟩ := hold j h4 h5 h6 b (hto j h5 h6 h7)
          rcases hown1 a ha hb with h | h
          · omega
          · exact f3 h
        by_cases hi1 : i ∈ H1.map (fun x => sig k A x.1)
        · rw [if_pos hi1] at hi
          by_cases hj1 : j ∈ H1.map (fun x => sig k A x.1)
          · rw [if_pos hj1] at hj
            obtain ⟨a, ha, hab, rfl, _⟩ := hone i hi1 hi hbi
            obtain ⟨c, hc, hcb, rfl, _⟩ := hone j hj1 hj hbj
            rw [hok.inj a c b ha hc hab hcb]
          · rw [if_neg hj1] at hj
            by_cases hj0 : j ∈ H0.map (fun x => sig k A x.1)
            · rw [if_pos hj0] at hj; cases hj
            · rw [if_neg hj0] at hj
              exact (hmix i j hi1 hi hbi hj1 hj0 hj hbj).elim
        · rw [if_neg hi1] at hi
          by_cases hi0 : i ∈ H0.map (fun x => sig k A x.1)
          · rw [if_pos hi0] at hi; cases hi
          · rw [if_neg hi0] at hi
            by_cases hj1 : j ∈ H1.map (fun x => sig k A x.1)
            · rw [if_pos hj1] at hj
              exact (hmix j i hj1 hj hbj hi1 hi0 hi hbi).elim
            · rw [if_neg hj1] at hj
              by_cases hj0 : j ∈ H0.map (fun x => sig k A x.1)
              · rw [if_pos hj0] at hj; cases hj
              · rw [if_neg hj0] at hj
                exact hr.h.inj i j b hi hj (hto i hi0 hi hbi) (hto j hj0 hj hbj) }
  · intro s
    have hts : t < a.tmps.size := hr.n ▸ ht
    by_cases hst : t = s
    · subst hst
      have h1 := Rd.renp (p := backB k A) (fun id b hid hb => (hβ2 id hid).trans hb) hrd hrp
      simpa [Act.put, St.get, St.set, look_cons, hts] using h1
    · have := Rd.mono hle hβ1 (hr.sl s)
      simpa [Act.put, St.get, St.set, look_cons, hst, Array.getElem?_setIfInBounds_ne] using this

theorem iop_callh {f : FuncId} {xs : List Operand} {ts : Array TypeId} {ds ds' : List D} {r r' : D} {H0 H1 H2 : List (Nat × Ent)} (k : Nat) (A : List Nat) (ho : o.op = .call { callee := .value (.func f), args := xs.toArray, argTypes := ts }) (hd : o.dst = some t) (ht : t < N)
    (hc : Callable P f) (hx : SVs S xs ds') (hds : D.renL (sig k A) ds = ds') (hp : D.refsInL (givenB A) ds = true)
    (hh : Hand S k A H0) (hf : FnH P f ds H0 r H1) (hrr : r.ren (sig k A) = r') (hrp : r.refsIn (backB k A) = true) (hH1 : ∀ x ∈ H1, backB k A x.1 = true ∧ x.2.refsIn (backB k A) = true)
    (hH2 : afterH k A H0 H1 S.H = H2) : IOp P O N o S (St.set ⟨S.sl, H2⟩ t r') :=
  iop_enterh k A hd ht (fun E β a hr => ⟨xs.map a.eval, by
    simp [execOp, ho, resolve, Deferred.ofValue, Act.eval, invoke, run_callFunc hc], hx.rd hr⟩) hds hp hh hf hrr hrp hH1 hH2

/-- How such a contract comes out of the code. -/
theorem fnh_of_iwp {f : FuncId} {fn : Func} {c : Code} {ds rs : List D} {H0 H1 : List (Nat × Ent)} (hf : P.funcs[f]? = some fn) (hb : fn.body = some c) (hN : fn.ntmps = N) (hlen : ds.length ≤ N)
    (h : ∀ O : Origin, O.Plain → IWP P O N c ⟨(List.range ds.length).zip ds, H0⟩ (fun e S => (e = .normal ∨ e = .ret) ∧ ∃ ρ, Weak S ⟨[], H1⟩ ρ ∧ ResVs P S fn.results.toList (D.renL ρ rs) ∧ D.refsInL (St.okn ⟨[], H1⟩) rs = true)) : FnH P f ds H0 (retD rs) H1 := by
  intro E β vs hX hβ hok0 hvs
  let O : Origin := ⟨E.w, E.X, footB β H0, β, none, fun _ => [], fun _ => 0, fun _ => [], fun _ => (#[], .skip, .skip)⟩
  have hl := hvs.length
  have hrel : Rel O N ⟨(List.range ds.length).zip ds, H0⟩ E β { tmps := vs.toArray ++ Array.replicate (fn.ntmps - vs.toArray.size) undef, defers := [] } := by
    refine ⟨by simp; omega, Marks.nil, hok0, ?_⟩
    intro s
    have key : ∀ (ds : List D) (vs : List Value) (k : Nat), RdL E β vs ds → Rd E β (if s < k then undef else vs.getD (s - k) undef) (look .dead s ((List.range' k ds.length).zip ds)) := by
      intro ds
      induction ds with
      | nil => intro vs k _; simp [look]; exact .dead _ _
      | cons d ds ih =>
        intro vs k hv
        cases hv with
        | cons h1 h2 =>
          simp only [List.length_cons, List.range'_succ, List.zip_cons_cons, look_cons]
          by_cases hks : k = s
          · subst hks; simpa using h1
          · rw [if_neg hks]
            have := ih _ (k + 1) h2
            by_cases hlt : s < k
            · simpa [hlt, show s < k + 1 by omega] using this
            · have h3 : ¬ s < k + 1 := by omega
              rw [if_neg hlt]; rw [if_neg h3] at this
              rw [show s - k = (s - (k + 1)) + 1 by omega]
              simpa using this
    have := key ds vs 0 hvs
    rw [List.range_eq_range']
    simp only [Nat.not_lt_zero, if_false, Nat.sub_zero] at this
    have hg : (vs.toArray ++ Array.replicate (fn.ntmps - vs.toArray.size) undef).getD s undef = vs.getD s undef := by
      by_cases hs : s < vs.length
      · simp [hs, Array.getElem?_append]
      · simp [Array.getElem?_append, hs, List.getElem?_eq_none (Nat.le_of_not_lt hs)]
        simp [Array.getElem?_replicate]
        split <;> rfl
    show Rd E β (Array.getD _ s undef) _
    rw [hg]
    exact this
  refine calls_of_iwp hf hb rfl (fun b hb hf => by obtain ⟨i, hi, hbi⟩ := hf; exact absurd (hok0.lt hi hbi) (Nat.not_lt.2 hb)) hrel (O := O) (h O ⟨rfl, fun b hb hf => by obtain ⟨i, hi, hbi⟩ := hf; exact absurd (hok0.lt hi hbi) (Nat.not_lt.2 hb), fun _ => rfl⟩) ?_
  rintro e S' E' β' a' hr' ⟨he, ρ, hw, hres, hin⟩
  refine ⟨he, ?_⟩
  obtain ⟨vs', h1, h2⟩ := run_results (P := P) hr' hres
  obtain ⟨β3, hr3, hβ3⟩ := hr'.weak' hw
  have h3 : RdL E' β3 vs' rs := RdL.ren hβ3 rs h2 hin
  have hrun : (results fn a'.tmps).run P E'.w = .ok (if h : vs'.toArray.size = 1 then vs'.toArray[0] else .tuple vs'.toArray) E'.w := by
    have hF : results fn a'.tmps = (fn.results.mapM (resF a'.tmps)) >>= fun vs => pure (if h : vs.size = 1 then vs[0] else .tuple vs) := by
      unfold results
      congr 2
    rw [hF, ← Array.toArray_toList (xs := fn.results), List.mapM_toArray]
    simp only [Sem.run_bind, Sem.run_map, h1, Result.andThen_ok, Sem.run_pure]
  have hfin : ∃ v, (results fn a'.tmps).run P E'.w = .ok v E'.w ∧ Rd E' β3 v (retD rs) := by
    refine ⟨_, hrun, ?_⟩
    cases h3 with
    | nil => simpa [retD] using Rd.tuple (E := E') β3 [] [] (.nil _)
    | cons h5 h6 =>
      cases h6 with
      | nil => simpa [retD] using h5
      | cons h7 h8 =>
        simp only [retD, List.size_toArray, List.length_cons]
        rw [dif_neg (by omega)]
        exact .tuple _ _ _ (.cons h5 (.cons h7 h8))
  obtain ⟨v, h5, h6⟩ := hfin
  exact ⟨v, h5, v, rfl, E', β3, rfl, hr3.h, h6⟩

theorem FnH.pure {f : FuncId} {ds : List D} {r : D} (h : FnH P f ds [] r []) (hp : r.refsIn noRef = true) : PureAt P f ds r := by
  intro E vs hX hv
  have e : footB β0 [] = fun _ => False := by
    funext b; apply propext; constructor
    · rintro ⟨i, _, hi⟩; cases hi
    · exact fun h => h.elim
  refine (h E β0 vs hX (fun i b hi => by cases hi) (by rw [e]; exact init_hok hX) hv).mono ?_
  rintro e w' ⟨v, rfl, E', β', rfl, hok, hrd⟩
  refine ⟨v, rfl, ⟨hok.os, hok.tape, hok.output, hok.size, fun k hk => hok.block k hk (by rintro ⟨i, _, hi⟩; cases hi)⟩, ?_⟩
  have hxx : E'.le ⟨E'.w, E.X⟩ := by
    constructor
    · intro b o v hc hx
      exact ⟨hc, fun hX' => hx ((hok.xold b o (hX.xlt b o hX') (by rintro ⟨i, _, hi⟩; cases hi)).2 hX')⟩
    · intro b c e f hc; exact ⟨c, f, hc, rfl⟩
  exact Rd.mono hxx (Names.le.refl _) (hrd.bare hp)

end
end Go.IL
namespace Go.IL
section
variable {P : Program} {O : Origin} {N : Nat} {S S' : St} {o : Oper} {t : Nat} {Q : Exit → St → Prop}

end
end Go.IL
namespace Go.IL
section
variable {P : Program} {O : Origin} {N : Nat} {S S' : St} {o : Oper} {t : Nat} {Q : Exit → St → Prop}

/-- Where an entry that is held points, is no new block. -/
theorem HOk.held_lt {E : Env} {β : Names} {H : Nat → Ent} (h : HOk O E β H) {j b : Nat} (hh : (H j).held = true) (hb : β j = some b) : b < E.w.heap.size := by
  exact h.lt hh hb

theorem iop_index_osl {T e : TypeId} {x y : Operand} {len sz : Nat} {k : IntKind} {n : Int} {z : Option Value} {bytes : Nat} {id off' : Nat} (ho : o.op = .indexAddr T x y) (hd : o.dst = some t) (ht : t < N)
    (hu : P.underlying T = some (.slice e)) (hi : TI P e z sz bytes) (hx : SV S x (.osl id sz len)) (hy : SV S y (.int k n)) (h0 : 0 ≤ n) (hn : n.toNat < len) (ho' : n.toNat * sz = off') :
    IOp P O N o S (S.set t (.ref id off')) :=
  iop_of hd ht fun E β a hr => by
    have hv := hx.rd hr
    generalize hev : a.eval x = v at hv
    cases hv with
    | nosl => omega
    | osl _ _ b _ cap _ hb hc =>
      refine ⟨.pointer (some ⟨b, off', none⟩), ?_, .ref _ _ _ _ hb⟩
      have h1 := rd_int (hy.rd hr)
      have h2 : n < (len : Int) := by omega
      subst ho'
      simp [execOp, ho, hev, h1, Instr.indexAt, asIntOf, run_underlying hu, h0, h2, hi.run_size, add_none]

/-- A new block, as an owned slice. -/
theorem iop_newosl {e : TypeId} {sz n : Nat} {ds : List D} (id : Nat) (hd : o.dst = some t) (ht : t < N) (hf : S.ent id = .fresh) (hlen : ds.length = n * sz) (hsp : 0 < sz) (hmax : n ≤ maxLen)
    (h : ∀ E β a, Rel O N S E β a → ∃ vs : List Value, (execOp a.eval o).run P E.w = .ok (.value (.slice (some ⟨E.w.heap.size, 0, none⟩) n n)) (E.w.alloc (.cells vs.toArray e)) ∧ RdL E β vs ds) :
    IOp P O N o S ((S.setE id (.blk e ds)).set t (.osl id sz n)) := by
  intro E β a hr next Q hn
  obtain ⟨vs, hrun, hv⟩ := h E β a hr
  unfold Oper.wp
  rw [hrun]
  simp only [Oper.upon, hd]
  have hfr : β id = none := by have := hr.h.ent id; rw [hf] at this; exact this
  let E' : Env := ⟨E.w.alloc (.cells vs.toArray e), fun b o => b = E.w.heap.size ∨ E.X b o⟩
  let β' : Names := fun j => if j = id then some E.w.heap.size else β j
  have hβ : β.le β' := fun j b hj => by
    by_cases hji : j = id
    · subst hji; rw [hfr] at hj; cases hj
    · simp [β', hji, hj]
  have hs : Step O E E' E.w.heap.size :=
    ⟨rfl, rfl, rfl, by simp [E'], by simp [E'], .inl hr.h.size, fun k hk _ => heap_alloc_old _ _ hk, fun k o hk => by simp [E', hk], fun _ h => Nat.lt_irrefl _ (heap_lt h)⟩
  have hle : E.le E' := hs.le (fun o v h1 _ => by have := World.block_lt_of_cell? _ _ h1; simp at this) (fun c e f h1 => by have := heap_lt h1; simp at this)
  refine hn E' β' _ ⟨by simp [Act.put, hr.n], hr.nd.step hs, ?_, ?_⟩
  · refine HOk.put hr.h hs hle hβ ?_ ?_ (id := id) (by simp [β']) ?_ (fun _ _ => trivial)
    · intro j hj; left; constructor
      · simp [St.ent, entL, St.setE, St.set, look_cons, Ne.symm hj]
      · simp [β', hj]
    · intro j hj hheld hb
      have : (S.ent j).held = true := by simpa [St.ent, entL, St.setE, St.set, look_cons, Ne.symm hj] using hheld
      have := hr.h.held_lt this hb
      omega
    · simp only [St.ent, entL, St.setE, St.set, look_cons, if_true]
      exact ⟨vs, [], by rw [List.append_nil]; exact heap_alloc_new _ _, fun o => .inl rfl, RdL.mono hle hβ hv⟩
  · intro s
    have hts : t < a.tmps.size := hr.n ▸ ht
    by_cases hst : t = s
    · subst hst
      simp only [Act.put, St.get, St.set, look_cons, if_true, Array.getD_eq_getD_getElem?, Array.getElem?_setIfInBounds_self, hts, Option.getD_some]
      exact .osl _ _ E.w.heap.size _ n sz (by simp [β']) (Nat.le_refl _) hsp _ _ _ (heap_alloc_new E.w _) (by simp [hv.length, hlen]) hmax
    · have := Rd.mono hle hβ (hr.sl s)
      simpa [Act.put, St.get, St.set, St.setE, look_cons, hst, Array.getElem?_setIfInBounds_ne] using this

end
end Go.IL
namespace Go.IL
section
variable {P : Program} {O : Origin} {N : Nat} {S S' : St} {o : Oper} {t : Nat} {Q : Exit → St → Prop}

/-! Structs of plain cells, compared. -/
def eqCell (u : Option TypeDesc) (d e : D) : Option Bool :=
  match u, d, e with
  | some (.int _), .int k a, .int k' b => if k = k' then some (decide (a = b)) else none
  | some .bool, .bool a, .bool b => some (a == b)
  | some .string, .str a, .str b => some (decide (a = b))
  | _, _, _ => none
theorem bs_eq (a b : List UInt8) : (bs a == bs b) = decide (a = b) := by
  show ((bs a).data == (bs b).data) = _
  simp [bs]; exact Bool.beq_eq_decide_eq _ _

theorem run_eqCell {w : World} {E : Env} {β β' : Names} {T : TypeId} {x y : Value} {d e : D} {b : Bool} (n : Nat) (h : eqCell (P.underlying T) d e = some b) (hx : Rd E β x d) (hy : Rd E β' y e) :
    (Op.equalIn (n + 1) T x y).run P w = .ok b w ∧ (isAgg T).run P w = .ok false w := by
  unfold eqCell at h
  split at h
  · rename_i k k1 a k2 c hu
    cases hx; cases hy
    split at h
    · rename_i hk; subst hk; cases h
      exact ⟨by simp [Op.equalIn, run_underlying hu, Bool.beq_eq_decide_eq], by simp [isAgg, run_underlying hu]⟩
    · cases h
  · rename_i a c hu
    cases hx; cases hy; cases h
    exact ⟨by simp [Op.equalIn, run_underlying hu], by simp [isAgg, run_underlying hu]⟩
  · rename_i a c hu
    cases hx; cases hy; cases h
    exact ⟨by simp [Op.equalIn, run_underlying hu, bs_eq], by simp [isAgg, run_underlying hu]⟩
  · cases h

end
end Go.IL
namespace Go.IL

/-! What is less known. -/
mutual
inductive Sub : D → D → Prop
  | refl (d) : Sub d d
  | nils (f) : Sub .nils (.slice f [])
  | full (l) : Sub (.slice true l) (.slice false l)
  | gsl (id sz l) : Sub (.gsl id sz l) (.slice false l)
  | dead (d) : Sub d .dead
  | agg {cs cs'} (h : SubL cs cs') : Sub (.agg cs) (.agg cs')
  | tuple {cs cs'} (h : SubL cs cs') : Sub (.tuple cs) (.tuple cs')
inductive SubL : List D → List D → Prop
  | nil : SubL [] []
  | cons {d d' ds ds'} (h : Sub d d') (t : SubL ds ds') : SubL (d :: ds) (d' :: ds')
end
mutual
theorem Rd.sub {E : Env} {β : Names} : ∀ {v : Value} {d d' : D}, Sub d d' → Rd E β v d → Rd E β v d'
  | _, _, _, .refl _, h => h
  | _, _, _, .nils f, .nils _ => .nslice _ f
  | _, _, _, .full l, .slice _ b off len cap sz _ vs _ hl hc hf hz hsz hr hv => .slice _ b off len cap sz false vs l hl hc (fun h => by cases h) hz hsz hr hv
  | _, _, _, .full _, .nslice _ _ => .nslice _ false
  | _, _, _, .full _, .eslice _ a c _ _ => .eslice _ a c false (fun h => by cases h)
  | _, _, _, .gsl _ _ l, .gsl _ _ b len cap sz vs _ _ hl hc hz hsz hr hv _ _ _ _ _ _ => .slice _ b 0 len cap sz false vs l hl hc (fun h => by cases h) hz hsz hr hv
  | _, _, _, .gsl _ _ _, .ngsl _ _ _ => .nslice _ false
  | _, _, _, .dead _, _ => .dead _ _
  | _, _, _, .agg h, .agg _ vs _ hv => .agg _ vs _ (RdL.sub h hv)
  | _, _, _, .tuple h, .tuple _ vs _ hv => .tuple _ vs _ (RdL.sub h hv)
theorem RdL.sub {E : Env} {β : Names} : ∀ {vs : List Value} {ds ds' : List D}, SubL ds ds' → RdL E β vs ds → RdL E β vs ds'
  | _, _, _, .nil, .nil _ => .nil _
  | _, _, _, .cons h t, .cons hv tv => .cons (Rd.sub h hv) (RdL.sub t tv)
end

section
variable {P : Program} {O : Origin} {N : Nat} {S S' : St} {o : Oper} {t : Nat} {Q : Exit → St → Prop}
theorem SV.sub {x : Operand} {d d' : D} (h : SV S x d) (k : Sub d d') : SV S x d' := fun E β v hv => Rd.sub k (h E β v hv)

theorem Rel.subE {E : Env} {β : Names} {a : Act} (h : Rel O N S E β a) {id : Nat} {e : TypeId} {ds ds' : List D} (hE : S.ent id = .blk e ds) (k : SubL ds ds') : Rel O N (S.setE id (.blk e ds')) E β a := by
  have hsame : ∀ j, j ≠ id → (S.setE id (.blk e ds')).ent j = S.ent j := fun j hj => by simp [St.ent, entL, St.setE, look_cons, Ne.symm hj]
  have hid : (S.setE id (.blk e ds')).ent id = .blk e ds' := by simp [St.ent, entL, St.setE, look_cons]
  have hheld : ∀ j, ((S.setE id (.blk e ds')).ent j).held = true → (S.ent j).held = true := fun j hj => by
    by_cases h1 : j = id
    · subst h1; rw [hE]; rfl
    · rw [← hsame j h1]; exact hj
  refine ⟨h.n, h.nd, ?_, h.sl⟩
  refine { h.h with ent := fun j => ?_, inj := fun i j b hi hj h1 h2 => h.h.inj i j b (hheld i hi) (hheld j hj) h1 h2 }
  by_cases hj : j = id
  · subst hj
    have he := h.h.ent j
    rw [hE] at he
    rw [hid]
    rcases he with ⟨h1, h2⟩ | ⟨b, vs, sp, h1, h2, h3, h4, h5⟩
    · subst h2; cases k; exact .inl ⟨h1, rfl⟩
    · exact .inr ⟨b, vs, sp, h1, h2, h3, h4, RdL.sub k h5⟩
  · rw [hsame j hj]; exact h.h.ent j
end
end Go.IL
namespace Go.IL

/-! Numbers of bits, and of bytes. -/
theorem wrap_u8 (n : Int) : IntKind.u8.wrap n = n % 256 := by simp [IntKind.wrap, IntKind.signed, IntKind.bits]
theorem wrap_i64 {n : Int} (h0 : -9223372036854775808 ≤ n) (h : n ≤ 9223372036854775807) : IntKind.i64.wrap n = n := by
  simp [IntKind.wrap, IntKind.signed, IntKind.bits]; omega

def vbad (n : Int) : Prop := n < 0 ∨ 4611686018427387903 < n
instance (n : Int) : Decidable (vbad n) := by unfold vbad; exact inferInstance
/-! No references in a list of data. -/
def NR (ds : List D) : Prop := D.refsInL noRef ds = true
theorem NR.nil : NR [] := rfl
theorem NR.cons {d : D} {ds : List D} (h : d.refsIn noRef = true) (k : NR ds) : NR (d :: ds) := by unfold NR; rw [D.refsInL, h]; exact k
theorem NR.append {ds es : List D} (h : NR ds) (k : NR es) : NR (ds ++ es) := by
  induction ds with
  | nil => exact k
  | cons d ds ih =>
    have h' : d.refsIn noRef = true ∧ D.refsInL noRef ds = true := by simpa [NR, D.refsInL] using h
    exact NR.cons h'.1 (ih h'.2)
theorem NR.map {α : Type} {f : α → D} (h : ∀ x, (f x).refsIn noRef = true) (l : List α) : NR (l.map f) := by
  induction l with
  | nil => rfl
  | cons a l ih => exact NR.cons (h a) ih
theorem NR.replicate {d : D} (h : d.refsIn noRef = true) (n : Nat) : NR (List.replicate n d) := by
  induction n with
  | zero => rfl
  | succ n ih => exact NR.cons h ih
mutual
theorem D.ren_bare {ρ : Nat → Nat} : ∀ (d : D), d.refsIn noRef = true → d.ren ρ = d
  | .dead, _ | .bool _, _ | .int _ _, _ | .float _ _, _ | .str _, _ | .slice _ _, _ | .nils, _ | .fptr _, _ | .nilp, _ | .nilf, _ | .nili, _ => rfl
  | .ref _ _, h | .rsl _ _ _ _ _, h | .gsl _ _ _, h | .osl _ _ _, h | .yld _, h => by cases h
  | .agg cs, h => by rw [D.ren, D.renL_bare cs (by simpa [D.refsIn] using h)]
  | .tuple cs, h => by rw [D.ren, D.renL_bare cs (by simpa [D.refsIn] using h)]
  | .fn f cs, h => by rw [D.ren, D.renL_bare cs (by simpa [D.refsIn] using h)]
  | .mv f cs, h => by rw [D.ren, D.renL_bare cs (by simpa [D.refsIn] using h)]
  | .cnd b d, h => by rw [D.ren, D.ren_bare d (by simpa [D.refsIn] using h)]
theorem D.renL_bare {ρ : Nat → Nat} : ∀ (ds : List D), D.refsInL noRef ds = true → D.renL ρ ds = ds
  | [], _ => rfl
  | d :: ds, h => by
    have h' : d.refsIn noRef = true ∧ D.refsInL noRef ds = true := by simpa [D.refsInL] using h
    rw [D.renL, D.ren_bare d h'.1, D.renL_bare ds h'.2]
end
mutual
theorem D.refsIn_mono {p : Nat → Bool} : ∀ (d : D), d.refsIn noRef = true → d.refsIn p = true
  | .dead, _ | .bool _, _ | .int _ _, _ | .float _ _, _ | .str _, _ | .slice _ _, _ | .nils, _ | .fptr _, _ | .nilp, _ | .nilf, _ | .nili, _ => rfl
  | .ref _ _, h | .rsl _ _ _ _ _, h | .gsl _ _ _, h | .osl _ _ _, h | .yld _, h => by cases h
  | .agg cs, h => by simp only [D.refsIn] at h ⊢; exact D.refsInL_mono cs h
  | .tuple cs, h => by simp only [D.refsIn] at h ⊢; exact D.refsInL_mono cs h
  | .fn f cs, h => by simp only [D.refsIn] at h ⊢; exact D.refsInL_mono cs h
  | .mv f cs, h => by simp only [D.refsIn] at h ⊢; exact D.refsInL_mono cs h
  | .cnd b d, h => by simp only [D.refsIn] at h ⊢; exact D.refsIn_mono d h
theorem D.refsInL_mono {p : Nat → Bool} : ∀ (ds : List D), D.refsInL noRef ds = true → D.refsInL p ds = true
  | [], _ => rfl
  | d :: ds, h => by
    have h' : d.refsIn noRef = true ∧ D.refsInL noRef ds = true := by simpa [D.refsInL] using h
    rw [D.refsInL, D.refsIn_mono d h'.1, D.refsInL_mono ds h'.2]; rfl
end
/-- An entry's data without references. -/
theorem EntW.plain {S S' : St} {ρ : Nat → Nat} {id : Nat} {e : TypeId} {ds ds' : List D} (h : S.ent (ρ id) = .blk e ds') (hd : ds' = ds) (hr : NR ds) : EntW S S' ρ id (.blk e ds) :=
  .blk h (by rw [hd, D.renL_bare ds hr]) (D.refsInL_mono ds hr)

/-! Varints. -/
end Go.IL
namespace Go.IL
end Go.IL
namespace Go.IL
end Go.IL
namespace Go.IL
end Go.IL
namespace Go.IL
end Go.IL
namespace Go.IL
end Go.IL
namespace Go.IL
end Go.IL
namespace Go.IL
end Go.IL
namespace Go.IL

/-! The words of the printed functions: what may fail is an Option. -/
def bnd {α β : Type} (e : α) (f : α → Option β) : Option β := f e
def bno {α β : Type} (e : Option α) (f : α → Option β) : Option β := match e with | some x => f x | none => none
def chk {β : Type} (p : Prop) [Decidable p] (o : Option β) : Option β := if p then o else none
def gd {α : Type} (g : Bool) (o : Option α) (d : α) : Option α := bif g then o else some d

theorem bnd_e {α β : Type} {e : α} {f : α → Option β} {r : β} (h : bnd e f = some r) : ∃ x, e = x ∧ f x = some r := ⟨e, rfl, h⟩
theorem bno_e {α β : Type} {e : Option α} {f : α → Option β} {r : β} (h : bno e f = some r) : ∃ x, e = some x ∧ f x = some r := by
  cases e with
  | none => cases h
  | some x => exact ⟨x, rfl, h⟩
theorem chk_e {β : Type} {p : Prop} [Decidable p] {o : Option β} {r : β} (h : chk p o = some r) : p ∧ o = some r := by
  unfold chk at h; split at h
  · exact ⟨‹_›, h⟩
  · cases h
theorem bif_t {α : Type} {b : Bool} {x y r : α} (h : (bif b then x else y) = r) (hb : b = true) : x = r := by subst hb; exact h
theorem bif_f {α : Type} {b : Bool} {x y r : α} (h : (bif b then x else y) = r) (hb : b = false) : y = r := by subst hb; exact h
theorem gd_t {α : Type} {g : Bool} {o : Option α} {d x : α} (h : gd g o d = some x) (hb : g = true) : o = some x := by subst hb; exact h

def xorI (k : IntKind) (a b : Int) : Int := k.wrap ((BitVec.ofInt k.bits a) ^^^ (BitVec.ofInt k.bits b)).toNat
def gix {α : Type} (l : List α) (i : Int) : Option α := if 0 ≤ i then l[i.toNat]? else none
def cut {α : Type} (l : List α) (lo hi : Int) : Option (List α) := if 0 ≤ lo ∧ lo ≤ hi ∧ hi ≤ (l.length : Int) then some ((l.take hi.toNat).drop lo.toNat) else none
def app {α : Type} (b : Nat) (l m : List α) : Option (List α) := if l.length + m.length ≤ 9223372036854775807 ∧ (l.length + m.length) * b ≤ 140737488355328 then some (l ++ m) else none
def cat (a b : List UInt8) : Option (List UInt8) := if a.length + b.length ≤ 9223372036854775807 then some (a ++ b) else none
def made {α : Type} (b : Nat) (n : Int) (z : α) : Option (List α) := if 0 ≤ n ∧ (b : Int) * n ≤ 281474976710656 ∧ n ≤ 9223372036854775807 then some (List.replicate n.toNat z) else none
/-- how often a loop may go round -/
def fuel : Nat := 2 ^ 64

theorem gix_e {α : Type} {l : List α} {i : Int} {x : α} (h : gix l i = some x) : 0 ≤ i ∧ l[i.toNat]? = some x := by
  unfold gix at h; split at h
  · exact ⟨‹_›, h⟩
  · cases h
theorem cut_e {α : Type} {l m : List α} {lo hi : Int} (h : cut l lo hi = some m) : (0 ≤ lo ∧ lo ≤ hi ∧ hi ≤ (l.length : Int)) ∧ (l.take hi.toNat).drop lo.toNat = m := by
  unfold cut at h; split at h
  · exact ⟨‹_›, Option.some.inj h⟩
  · cases h
theorem app_e {α : Type} {b : Nat} {l m r : List α} (h : app b l m = some r) : (l.length + m.length ≤ maxLen ∧ (l.length + m.length) * b ≤ 140737488355328) ∧ l ++ m = r := by
  unfold app at h; split at h
  · rename_i hh; exact ⟨⟨by unfold maxLen; omega, hh.2⟩, Option.some.inj h⟩
  · cases h
theorem cat_e {a b c : List UInt8} (h : cat a b = some c) : a ++ b = c ∧ c.length ≤ 9223372036854775807 := by
  unfold cat at h; split at h
  · cases h; exact ⟨rfl, by simpa using ‹_›⟩
  · cases h
theorem made_e {α : Type} {b : Nat} {n : Int} {z : α} {r : List α} (h : made b n z = some r) : (0 ≤ n ∧ (b : Int) * n ≤ 281474976710656 ∧ n ≤ 9223372036854775807) ∧ List.replicate n.toNat z = r := by
  unfold made at h; split at h
  · exact ⟨‹_›, Option.some.inj h⟩
  · cases h

/-- How a type's values are read as data: so many cells each. -/
structure Enc0 (α : Type) where
  d : α → D
  sz : Nat
  pos : 0 < sz
  fl : ∀ x, (d x).cells.length = sz ∧ (d x).cells.all D.one = true
structure Enc (α : Type) extends Enc0 α where
  nr : ∀ x, D.refsInL noRef (d x).cells = true

theorem Enc0.flat {α : Type} (f : Enc0 α) (l : List α) : Flat f.sz (l.map f.d) := Flat.map f.fl l
theorem Enc0.len {α : Type} (f : Enc0 α) (l : List α) : ∀ d ∈ l.map f.d, d.cells.length = f.sz := (f.flat l).len
theorem refsInL_append {p : Nat → Bool} : ∀ {l m : List D}, D.refsInL p l = true → D.refsInL p m = true → D.refsInL p (l ++ m) = true
  | [], _, _, h => h
  | d :: l, m, h, k => by
    simp only [List.cons_append, D.refsInL, Bool.and_eq_true] at h ⊢
    exact ⟨h.1, refsInL_append h.2 k⟩
theorem Enc.noRef {α : Type} (f : Enc α) : ∀ (l : List α), D.refsInL noRef (D.flat (l.map f.d)) = true
  | [] => rfl
  | x :: l => by
    simp only [D.flat, List.map_cons, List.flatMap_cons]
    exact refsInL_append (f.nr x) (f.noRef l)
theorem Enc0.flat_len {α : Type} (f : Enc0 α) (l : List α) : (D.flat (l.map f.d)).length = l.length * f.sz := by
  rw [flat_length (f.len l), List.length_map]
theorem Enc0.flat_append {α : Type} (f : Enc0 α) (l m : List α) : D.flat (l.map f.d) ++ D.flat (m.map f.d) = D.flat ((l ++ m).map f.d) := by
  simp [D.flat]
theorem Enc0.one {α : Type} (f : Enc0 α) (l : List α) : (D.flat (l.map f.d)).all D.one = true := (f.flat l).all

section
variable {P : Program} {O : Origin} {N : Nat} {S S' : St} {o : Oper} {t : Nat} {Q : Exit → St → Prop}

theorem IOp.to {S1 S2 : St} (h : IOp P O N o S S1) (k : ∀ E β a, Rel O N S1 E β a → Rel O N S2 E β a) : IOp P O N o S S2 :=
  fun E β a hr next Q hn => h E β a hr next Q fun E' β' a' hr' => hn _ _ _ (k _ _ _ hr')
theorem iop_andx {c x y : Operand} {b z r : Bool} (ho : o.op = .pick c x y) (hd : o.dst = some t) (ht : t < N) (hc : SV S c (.bool b)) (hx : S.op x = .cnd (b == true) (.bool z)) (hy : S.op y = .bool false) (hr : (b && z) = r) : IOp P O N o S (S.set t (.bool r)) :=
  hr ▸ iop_and ho hd ht hc hx hy
theorem iop_orx {c x y : Operand} {b z r : Bool} (ho : o.op = .pick c x y) (hd : o.dst = some t) (ht : t < N) (hc : SV S c (.bool b)) (hx : S.op x = .bool true) (hy : S.op y = .cnd (b == false) (.bool z)) (hr : (b || z) = r) : IOp P O N o S (S.set t (.bool r)) :=
  hr ▸ iop_or ho hd ht hc hx hy
theorem iop_and2x {c x y : Operand} {b z g r : Bool} (ho : o.op = .pick c x y) (hd : o.dst = some t) (ht : t < N) (hg : g = true) (hc : SV S c (.bool b)) (hx : S.op x = .cnd (g && (b == true)) (.bool z)) (hy : S.op y = .bool false) (hr : (b && z) = r) : IOp P O N o S (S.set t (.bool r)) :=
  hr ▸ iop_and2 ho hd ht hg hc hx hy
/-- 'c && k' with a constant behind. -/
theorem iop_pickc {c x y : Operand} {b u v r : Bool} (ho : o.op = .pick c x y) (hd : o.dst = some t) (ht : t < N) (hc : SV S c (.bool b)) (hx : S.op x = .bool u) (hy : S.op y = .bool v) (hr : (bif b then u else v) = r) : IOp P O N o S (S.set t (.bool r)) :=
  iop_pick ho hd ht hc (fun h => sv (by rw [hx, ← hr, h]; rfl)) (fun h => sv (by rw [hy, ← hr, h]; rfl))

theorem iop_intx {op : BinOp} {xt yt : TypeId} {x y : Operand} {k : IntKind} {a b c c' : Int} (ho : o.op = .binOp op xt x y yt) (hd : o.dst = some t) (ht : t < N)
    (hx : SV S x (.int k a)) (hy : SV S y (.int k b)) (hr : int2 op k a b = some (.int k c)) (hc : c = c') : IOp P O N o S (S.set t (.int k c')) := iop_int2 ho hd ht hx hy (hc ▸ hr)
theorem iop_cmpx {op : BinOp} {xt yt : TypeId} {x y : Operand} {k : IntKind} {a b : Int} {c c' : Bool} (ho : o.op = .binOp op xt x y yt) (hd : o.dst = some t) (ht : t < N)
    (hx : SV S x (.int k a)) (hy : SV S y (.int k b)) (hr : int2 op k a b = some (.bool c)) (hc : c = c') : IOp P O N o S (S.set t (.bool c')) := iop_int2 ho hd ht hx hy (hc ▸ hr)
theorem iop_strx {op : BinOp} {xt yt : TypeId} {x y : Operand} {a b : List UInt8} {c c' : Bool} (ho : o.op = .binOp op xt x y yt) (hd : o.dst = some t) (ht : t < N)
    (hx : SV S x (.str a)) (hy : SV S y (.str b)) (hr : str2 op a b = some (.bool c)) (hc : c = c') : IOp P O N o S (S.set t (.bool c')) := iop_str2 ho hd ht hx hy (hc ▸ hr)
theorem iop_catx {xt yt : TypeId} {x y : Operand} {a b c : List UInt8} (ho : o.op = .binOp .add xt x y yt) (hd : o.dst = some t) (ht : t < N)
    (hx : SV S x (.str a)) (hy : SV S y (.str b)) (hc : cat a b = some c) : IOp P O N o S (S.set t (.str c)) := iop_cat ho hd ht hx hy (cat_e hc).1 (cat_e hc).2
theorem iop_str_at {T : TypeId} {x y : Operand} {k : IntKind} {n : Int} {l : List UInt8} {c : UInt8} (ho : o.op = .index T x y) (hd : o.dst = some t) (ht : t < N)
    (hu : P.underlying T = some .string) (hx : SV S x (.str l)) (hy : SV S y (.int k n)) (hc : gix l n = some c) : IOp P O N o S (S.set t (.int .u8 (c.toNat : Int))) :=
  iop_index_str ho hd ht hu hx hy (gix_e hc).1 (gix_e hc).2 rfl
theorem iop_lenT {α : Type} (f : Enc α) {T e : TypeId} {x : Operand} {b : Bool} {l : List α} (ho : o.op = .call { callee := .builtin .len, args := #[x], argTypes := #[T] }) (hd : o.dst = some t) (ht : t < N) (hu : P.underlying T = some (.slice e))
    (hx : SV S x (.slice b (l.map f.d))) : IOp P O N o S (S.set t (.int .i64 (l.length : Int))) := iop_len_slice ho hd ht hu hx (by rw [List.length_map])
theorem iop_idxT {α : Type} (f : Enc α) {T e : TypeId} {x y : Operand} {b : Bool} {l : List α} {k : IntKind} {n : Int} {z : Option Value} {size bytes : Nat} {a : α} {cs : List D} (ho : o.op = .indexAddr T x y) (hd : o.dst = some t) (ht : t < N)
    (hu : P.underlying T = some (.slice e)) (hi : TI P e z size bytes) (hx : SV S x (.slice b (l.map f.d))) (hy : SV S y (.int k n)) (hn : gix l n = some a) (hcs : (f.d a).cells = cs) (hsz : cs.length = size) :
    IOp P O N o S (S.set t (.fptr cs)) :=
  iop_index_slice ho hd ht hu hi hx hy (gix_e hn).1 (by rw [List.getElem?_map, (gix_e hn).2]; rfl) hcs hsz
theorem iop_cutT {α : Type} (f : Enc α) {T e : TypeId} {x : Operand} {lo hi : Option Operand} {s r : List α} {b : Bool} {l h : Int} {z : Option Value} {bytes : Nat} (ho : o.op = .slice T x lo hi none) (hd : o.dst = some t) (ht : t < N) (hu : P.underlying T = some (.slice e)) (hi' : TI P e z f.sz bytes)
    (hx : SV S x (.slice b (s.map f.d))) (hlo : Bound S 0 lo l) (hhi : Bound S (s.length : Int) hi h) (hc : cut s l h = some r) : IOp P O N o S (S.set t (.slice false (r.map f.d))) := by
  obtain ⟨⟨h0, h1, h2⟩, hr⟩ := cut_e hc
  refine iop_slice_slice (l := l) (h := h) ho hd ht hu hi' hx (f.len s) hlo (by rw [List.length_map]; exact hhi) h0 h1 (by rw [List.length_map]; exact h2) ?_
  rw [← hr, List.map_drop, List.map_take]
theorem iop_cutS {T : TypeId} {x : Operand} {lo hi : Option Operand} {s r : List UInt8} {l h : Int} (ho : o.op = .slice T x lo hi none) (hd : o.dst = some t) (ht : t < N) (hu : P.underlying T = some .string)
    (hx : SV S x (.str s)) (hlo : Bound S 0 lo l) (hhi : Bound S (s.length : Int) hi h) (hc : cut s l h = some r) : IOp P O N o S (S.set t (.str r)) := by
  obtain ⟨⟨h0, h1, h2⟩, hr⟩ := cut_e hc
  exact iop_slice_str ho hd ht hu hx hlo hhi h0 h1 h2 hr

theorem iop_appT {α : Type} (f : Enc α) {T e : TypeId} {x y : Operand} {z : Value} {bytes : Nat} {xs ys zs : List α} {b : Bool} {id : Nat} (id' : Nat)
    (ho : o.op = .call { callee := .builtin .append, args := #[x, y], argTypes := #[T, T] }) (hd : o.dst = some t) (ht : t < N)
    (hu : P.underlying T = some (.slice e)) (hi : TI P e (some z) f.sz bytes) (hz : z.cells.size = f.sz)
    (hx : S.op x = .gsl id f.sz (xs.map f.d)) (he : S.ent id = .tail e f.sz xs.length) (hfr : S.ent id' = .fresh)
    (hy : SV S y (.slice b (ys.map f.d))) (ha : app bytes xs ys = some zs) :
    IOp P O N o S (((S.setE id .none).setE id' (.tail e f.sz zs.length)).set t (.gsl id' f.sz (zs.map f.d))) := by
  obtain ⟨⟨h1, h2⟩, rfl⟩ := app_e ha
  have := iop_append (O := O) id' ho hd ht hu hi hz f.pos hx (by rw [List.length_map]; exact he) hfr (f.len xs) hy (f.flat ys) (by simpa using h1) (by simpa using h2)
  simpa using this
theorem iop_bsT {α : Type} (f : Enc α) (xs : List α) {T e : TypeId} {len eb : Nat} {ez : Value} {ps : List (Nat × Operand)} {dps : List (Nat × D)} (id : Nat) (ho : o.op = .buildSlice T len ps.toArray) (hd : o.dst = some t) (ht : t < N)
    (hu : P.underlying T = some (.slice e)) (he : TI P e (some ez) f.sz eb) (hf : S.ent id = .fresh) (hx : PVs S ps dps)
    (hfill : fillD (fun i => some (i * f.sz, f.sz)) (List.replicate (len * f.sz) .dead) dps = some (D.flat (xs.map f.d))) (hl : xs.length = len) (hb : len * f.sz ≤ 2 ^ 24) :
    IOp P O N o S ((S.setE id (.tail e f.sz xs.length)).set t (.gsl id f.sz (xs.map f.d))) := by
  have := iop_buildSlice (O := O) id ho hd ht hu he f.pos hf hx hfill (by rw [List.length_map]; exact hl) (f.len xs) (f.noRef xs) hb
  rw [hl]; exact this

/-! Slices that the call owns whole: a block that reads as a list. -/
theorem iop_idxO {α : Type} (f : Enc0 α) {T e : TypeId} {x y : Operand} {xs : List α} {a : α} {k : IntKind} {n : Int} {z : Option Value} {bytes m : Nat} {id : Nat} (ho : o.op = .indexAddr T x y) (hd : o.dst = some t) (ht : t < N)
    (hu : P.underlying T = some (.slice e)) (hi : TI P e z f.sz bytes) (hx : SV S x (.osl id f.sz m)) (hl : xs.length = m) (hy : SV S y (.int k n)) (hn : gix xs n = some a) :
    IOp P O N o S (S.set t (.ref id (n.toNat * f.sz + 0))) :=
  iop_index_osl ho hd ht hu hi hx hy (gix_e hn).1 (hl ▸ (List.getElem?_eq_some_iff.1 (gix_e hn).2).1) rfl

theorem flat_cons (d : D) (l : List D) : D.flat (d :: l) = d.cells ++ D.flat l := rfl
theorem Enc0.flat_set {α : Type} (f : Enc0 α) {k : Nat} {new : List D} (hk : k + new.length ≤ f.sz) {a' : α} : ∀ {xs : List α} {i : Nat} {a : α}, xs[i]? = some a → splice (f.d a).cells k new = (f.d a').cells →
    splice (D.flat (xs.map f.d)) (i * f.sz + k) new = D.flat ((xs.set i a').map f.d)
  | [], i, a, h, _ => by simp at h
  | x :: xs, 0, a, h, he => by
    simp only [List.getElem?_cons_zero, Option.some.injEq] at h; subst h
    have hc := (f.fl x).1
    simp only [Nat.zero_mul, Nat.zero_add, List.map_cons, List.set_cons_zero, flat_cons]
    rw [← he]
    simp only [splice]
    rw [List.take_append_of_le_length (by omega), List.drop_append_of_le_length (by omega)]
    simp
  | x :: xs, i + 1, a, h, he => by
    simp only [List.getElem?_cons_succ] at h
    have ih := f.flat_set hk (xs := xs) h he
    have hc := (f.fl x).1
    simp only [List.map_cons, List.set_cons_succ, flat_cons]
    rw [← ih]
    simp only [splice]
    have e1 : (i + 1) * f.sz + k = f.sz + (i * f.sz + k) := by rw [Nat.add_mul, Nat.one_mul]; omega
    rw [e1, ← hc, List.take_append, List.drop_append]
    rw [List.take_of_length_le (by omega), List.drop_of_length_le (by omega : (f.d x).cells.length ≤ _)]
    simp only [Nat.add_sub_cancel_left, List.append_assoc, List.nil_append]
    congr 4
    omega
theorem iop_storeE {α : Type} (f : Enc0 α) {T : TypeId} {x y : Operand} {z : Option Value} {size bytes : Nat} {id i k : Nat} {e : TypeId} {xs zs : List α} {a a' : α} {d : D} (ho : o.op = .store T x y) (hd : o.dst = none)
    (hi : TI P T z size bytes) (hx : SV S x (.ref id (i * f.sz + k))) (he : S.ent id = .blk e (D.flat (xs.map f.d))) (hy : SV S y d) (hb : d.boxable = true) (hsz : d.cells.length = size) (h1 : d.cells.all D.one = true)
    (ha : xs[i]? = some a) (hn : k + size ≤ f.sz) (hs : splice (f.d a).cells k d.cells = (f.d a').cells) (hz : xs.set i a' = zs) : IOp P O N o S (S.setE id (.blk e (D.flat (zs.map f.d)))) := by
  subst hz
  refine iop_store ho hd hi hx he hy hb hsz h1 ?_ (f.flat_set (by omega) ha hs)
  have := (List.getElem?_eq_some_iff.1 ha).1
  have : (i + 1) * f.sz ≤ xs.length * f.sz := Nat.mul_le_mul_right _ (by omega)
  rw [f.flat_len]; rw [Nat.add_mul, Nat.one_mul] at this; omega
/-- Zero data may be taken as plain. -/
theorem iop_allocS {e : TypeId} {z : Value} {size bytes : Nat} {cs cs' : List D} (id : Nat) (ho : o.op = .alloc e) (hd : o.dst = some t) (ht : t < N) (hf : S.ent id = .fresh) (hz : TI P e (some z) size bytes) (hb : (D.ofVal z).boxable = true) (hcs : (D.ofVal z).cells = cs) (hk : SubL cs cs') :
    IOp P O N o S ((S.setE id (.blk e cs')).set t (.ref id 0)) := by
  refine (iop_alloc' id ho hd ht hf hz hb hcs).to fun E β a hr => ?_
  have := hr.subE (id := id) (e := e) (ds := cs) (ds' := cs') (by simp [St.ent, entL, St.setE, St.set, look_cons]) hk
  refine ⟨this.n, this.nd, ?_, this.sl⟩
  have h2 := this.h
  have e2 : (((S.setE id (.blk e cs)).set t (.ref id 0)).setE id (.blk e cs')).ent = ((S.setE id (.blk e cs')).set t (.ref id 0)).ent := by
    funext j; simp only [St.ent, entL, St.setE, St.set, look_cons]; split <;> rfl
  rw [← e2]; exact h2
end
end Go.IL
namespace Go.IL
def eInt (k : IntKind) : Enc Int := ⟨⟨D.int k, 1, by decide, fun _ => ⟨rfl, rfl⟩⟩, fun _ => rfl⟩
def eByte : Enc UInt8 := ⟨⟨byteD, 1, by decide, fun _ => ⟨rfl, rfl⟩⟩, fun _ => rfl⟩
def eBool : Enc Bool := ⟨⟨D.bool, 1, by decide, fun _ => ⟨rfl, rfl⟩⟩, fun _ => rfl⟩
def eStr : Enc (List UInt8) := ⟨⟨D.str, 1, by decide, fun _ => ⟨rfl, rfl⟩⟩, fun _ => rfl⟩
theorem EntW.lst {α : Type} {f : Enc α} {xs : List α} {S S' : St} {ρ : Nat → Nat} {id : Nat} {e : TypeId} (h : S.ent (ρ id) = .blk e (D.flat (xs.map f.d))) : EntW S S' ρ id (.blk e (D.flat (xs.map f.d))) := .plain h rfl (f.noRef xs)
theorem nd_of {l : List Nat} (ks : List Nat) (h : l = ks) (hd : ks.Nodup) : l.Nodup := h ▸ hd
theorem len_set {α : Type} {xs zs : List α} {i n : Nat} {a : α} (h : xs.set i a = zs) (k : xs.length = n) : zs.length = n := by rw [← h, List.length_set, k]
/-! Memory at a place that is known only by its number: numbers of 64 bits. -/
section
variable {P : Program} {O : Origin} {N : Nat} {S : St} {o : Oper} {t : Nat}
end
end Go.IL
open Go.RowKit
namespace Go.IL

mutual
/-- Data that hang on no memory. -/
def D.nomem : D → Bool
  | .dead | .bool _ | .int _ _ | .float _ _ | .str _ | .nils | .nilp | .nilf | .nili => true
  | .agg cs => D.nomemL cs
  | .tuple cs => D.nomemL cs
  | _ => false
def D.nomemL : List D → Bool
  | [] => true
  | d :: ds => d.nomem && D.nomemL ds
end
mutual
theorem Rd.nomem {E E' : Env} {β β' : Names} : ∀ {v : Value} {d : D}, d.nomem = true → Rd E β v d → Rd E' β' v d
  | _, .dead, _, _ => .dead _ _
  | _, .bool b, _, .bool _ _ => .bool _ b
  | _, .int k n, _, .int _ _ _ => .int _ k n
  | _, .float k n, _, .float _ _ m _ h => .float _ k m n h
  | _, .str l, _, .str _ _ => .str _ l
  | _, .nils, _, .nils _ => .nils _
  | _, .nilp, _, .nilp _ => .nilp _
  | _, .nilf, _, .nilf _ => .nilf _
  | _, .nili, _, .nili _ => .nili _
  | _, .agg cs, h, .agg _ vs _ hv => .agg _ vs cs (RdL.nomem (by simpa [D.nomem] using h) hv)
  | _, .tuple cs, h, .tuple _ vs _ hv => .tuple _ vs cs (RdL.nomem (by simpa [D.nomem] using h) hv)
theorem RdL.nomem {E E' : Env} {β β' : Names} : ∀ {vs : List Value} {ds : List D}, D.nomemL ds = true → RdL E β vs ds → RdL E' β' vs ds
  | _, [], _, .nil _ => .nil _
  | _, d :: ds, h, .cons hv t =>
    have h' : d.nomem = true ∧ D.nomemL ds = true := by simpa [D.nomemL] using h
    .cons (Rd.nomem h'.1 hv) (RdL.nomem h'.2 t)
end

mutual
/-- What reads as the one may be taken as the other, once nothing is written any more. -/
inductive FD (S : St) : D → D → Prop
  | refl (d) : FD S d d
  | nils (f) : FD S .nils (.slice f [])
  | gsl (id sz l) : FD S (.gsl id sz l) (.slice false l)
  | osl {id sz n e l} (he : S.ent id = .blk e (D.flat l)) (hn : l.length = n) (hz : ∀ d ∈ l, d.cells.length = sz) (hp : D.refsInL noRef (D.flat l) = true) : FD S (.osl id sz n) (.slice false l)
  | ref {id off e ds cs cs'} (he : S.ent id = .blk e ds) (hd : ds.drop off = cs) (h : FDL S cs cs') (hp : D.refsInL noRef cs' = true) : FD S (.ref id off) (.fptr cs')
  | dead (d) : FD S d .dead
  | agg {cs cs'} (h : FDL S cs cs') : FD S (.agg cs) (.agg cs')
  | tuple {cs cs'} (h : FDL S cs cs') : FD S (.tuple cs) (.tuple cs')
  | fn {f cs cs'} (h : FDL S cs cs') : FD S (.fn f cs) (.fn f cs')
  | mv {f cs cs'} (h : FDL S cs cs') : FD S (.mv f cs) (.mv f cs')
inductive FDL (S : St) : List D → List D → Prop
  | nil : FDL S [] []
  | cons {d d' ds ds'} (h : FD S d d') (t : FDL S ds ds') : FDL S (d :: ds) (d' :: ds')
end

theorem fdl_refl {S : St} : ∀ (ds : List D), FDL S ds ds
  | [] => .nil
  | d :: ds => .cons (.refl d) (fdl_refl ds)
theorem FDT {α : Type} (f : Enc α) {S : St} {id n : Nat} {e : TypeId} {xs : List α} (he : S.ent id = .blk e (D.flat (xs.map f.d))) (hn : xs.length = n) : FD S (.osl id f.sz n) (.slice false (xs.map f.d)) :=
  .osl he (by rw [List.length_map, hn]) (f.len xs) (f.noRef xs)

/-- All that is owned may be looked at. -/
def Env.all (E : Env) (β : Names) (S : St) : Env := ⟨E.w, fun b o => E.X b o ∧ ¬ ∃ i, (S.ent i).held = true ∧ β i = some b⟩
theorem Env.all_le (E : Env) (β : Names) (S : St) : E.le (E.all β S) :=
  ⟨fun _ _ _ h1 h2 => ⟨h1, fun h3 => h2 h3.1⟩, fun _ c _ f h1 => ⟨c, f, h1, rfl⟩⟩

section
variable {P : Program} {O : Origin} {N : Nat} {S S' : St} {o : Oper} {t : Nat} {Q : Exit → St → Prop}

theorem row_all {E : Env} {β : Names} (h : HOk O E β S.ent) {id b : Nat} {e : TypeId} {ds : List D} (he : S.ent id = .blk e ds) (hb : β id = some b) :
    ∃ vs, (E.all β S).row b 0 vs ∧ RdL E β vs ds := by
  have hent := h.ent id
  rw [he] at hent
  obtain ⟨vs, sp, _, hh, _, hl⟩ := blk_at hent hb
  refine ⟨vs, fun k v hk => ⟨?_, fun h3 => h3.2 ⟨id, by rw [he]; rfl, hb⟩⟩, hl⟩
  show E.w.cell? _ = _
  have hlt := (List.getElem?_eq_some_iff.1 hk).1
  rw [Nat.zero_add, cell_of_row _ _ _ _ _ _ hh]; simpa [List.getElem?_append_left hlt] using hk

theorem rd_osl_fd {E : Env} {β : Names} (h : HOk O E β S.ent) {v : Value} {id sz n : Nat} {e : TypeId} {l : List D} (he : S.ent id = .blk e (D.flat l)) (hn : l.length = n) (hz : ∀ d ∈ l, d.cells.length = sz) (hp : D.refsInL noRef (D.flat l) = true) (hv : Rd E β v (.osl id sz n)) : Rd (E.all β S) β v (.slice false l) := by
  cases hv with
  | osl _ _ b _ cap _ hb hc hsz _ _ _ _ _ _ =>
    obtain ⟨vs, hr, hv⟩ := row_all h he hb
    exact .slice _ b 0 n cap sz false vs l hn hc (fun h => by cases h) hz hsz hr ((RdL.mono (E.all_le β S) (Names.le.refl _) hv).bare hp)
  | nosl => rw [List.length_eq_zero_iff.1 hn]; exact .nslice _ false
mutual
theorem Rd.fd {E : Env} {β : Names} (h : HOk O E β S.ent) : ∀ {v : Value} {d d' : D}, FD S d d' → Rd E β v d → Rd (E.all β S) β v d'
  | _, _, _, .refl _, hv => Rd.mono (E.all_le β S) (Names.le.refl _) hv
  | _, _, _, .nils f, .nils _ => .nslice _ f
  | _, _, _, .gsl _ _ _, .gsl _ _ b len cap sz vs _ _ hl hc hz hsz hr hv _ _ _ _ _ _ => .slice _ b 0 len cap sz false vs _ hl hc (fun h => by cases h) hz hsz ((E.all_le β S).row hr) (RdL.mono (E.all_le β S) (Names.le.refl _) hv)
  | _, _, _, .gsl _ _ _, .ngsl _ _ _ => .nslice _ false
  | _, _, _, .osl he hn hz hp, hv => rd_osl_fd h he hn hz hp hv
  | _, _, _, .ref (off := off) he hd hc hp, .ref _ _ _ b hb =>
    let ⟨vs, hr, hv⟩ := row_all h he hb
    .fptr _ b off (vs.drop off) _ (by have := hr.drop off; rwa [Nat.zero_add] at this) ((RdL.fd h hc (hd ▸ hv.drop off)).bare hp)
  | _, _, _, .dead _, _ => .dead _ _
  | _, _, _, .agg hc, .agg _ vs _ hv => .agg _ vs _ (RdL.fd h hc hv)
  | _, _, _, .tuple hc, .tuple _ vs _ hv => .tuple _ vs _ (RdL.fd h hc hv)
  | _, _, _, .fn hc, .fn _ f vs _ hv => .fn _ f vs _ (RdL.fd h hc hv)
  | _, _, _, .mv hc, .mv _ f us _ hv => .mv _ f us _ (RdL.fd h hc hv)
theorem RdL.fd {E : Env} {β : Names} (h : HOk O E β S.ent) : ∀ {vs : List Value} {ds ds' : List D}, FDL S ds ds' → RdL E β vs ds → RdL (E.all β S) β vs ds'
  | _, _, _, .nil, .nil _ => .nil _
  | _, _, _, .cons h1 t, .cons hv tv => .cons (Rd.fd h h1 hv) (RdL.fd h t tv)
end

/-- What a function hands back may be taken as plain. -/
theorem pure_of_iwpF {f : FuncId} {fn : Func} {c : Code} {ds rs : List D} (hf : P.funcs[f]? = some fn) (hb : fn.body = some c) (hN : fn.ntmps = N) (hlen : ds.length ≤ N) (hp : D.refsInL noRef rs = true)
    (h : ∀ O : Origin, O.Plain → IWP P O N c ⟨(List.range ds.length).zip ds, []⟩ (fun e S => (e = .normal ∨ e = .ret) ∧ ∃ rs0, ResVs P S fn.results.toList rs0 ∧ FDL S rs0 rs)) : PureAt P f ds (retD rs) := by
  intro E vs hX hvs
  let O : Origin := ⟨E.w, E.X, fun _ => False, β0, none, fun _ => [], fun _ => 0, fun _ => [], fun _ => (#[], .skip, .skip)⟩
  have hl := hvs.length
  have hrel : Rel O N ⟨(List.range ds.length).zip ds, []⟩ E β0 { tmps := vs.toArray ++ Array.replicate (fn.ntmps - vs.toArray.size) undef, defers := [] } := by
    refine ⟨by simp; omega, Marks.nil, ?_, ?_⟩
    · exact init_hok hX
    · intro s
      have key : ∀ (ds : List D) (vs : List Value) (k : Nat), RdL E β0 vs ds → Rd E β0 (if s < k then undef else vs.getD (s - k) undef) (look .dead s ((List.range' k ds.length).zip ds)) := by
        intro ds
        induction ds with
        | nil => intro vs k _; simp [look]; exact .dead _ _
        | cons d ds ih =>
          intro vs k hv
          cases hv with
          | cons h1 h2 =>
            simp only [List.length_cons, List.range'_succ, List.zip_cons_cons, look_cons]
            by_cases hks : k = s
            · subst hks; simpa using h1
            · rw [if_neg hks]
              have := ih _ (k + 1) h2
              by_cases hlt : s < k
              · simpa [hlt, show s < k + 1 by omega] using this
              · have h3 : ¬ s < k + 1 := by omega
                rw [if_neg hlt]; rw [if_neg h3] at this
                rw [show s - k = (s - (k + 1)) + 1 by omega]
                simpa using this
      have := key ds vs 0 hvs
      rw [List.range_eq_range']
      simp only [Nat.not_lt_zero, if_false, Nat.sub_zero] at this
      have hg : (vs.toArray ++ Array.replicate (fn.ntmps - vs.toArray.size) undef).getD s undef = vs.getD s undef := by
        by_cases hs : s < vs.length
        · simp [hs, Array.getElem?_append]
        · simp [Array.getElem?_append, hs, List.getElem?_eq_none (Nat.le_of_not_lt hs)]
          simp [Array.getElem?_replicate]
          split <;> rfl
      show Rd E β0 (Array.getD _ s undef) _
      rw [hg]
      exact this
  refine calls_of_iwp hf hb rfl (fun _ _ h => h) hrel (h O ⟨rfl, fun _ _ h => h, fun _ => rfl⟩) ?_
  rintro e S' E' β' a' hr' ⟨he, rs0, hres, hfd⟩
  refine ⟨he, ?_⟩
  have hbelow : Below E.w.heap.size E.w E'.w := ⟨hr'.h.os, hr'.h.tape, hr'.h.output, hr'.h.size, fun k hk => hr'.h.block k hk (fun h => h)⟩
  obtain ⟨vs', h1, h2⟩ := run_results (P := P) hr' hres
  have h3 := (RdL.fd hr'.h hfd h2).bare hp
  have hxx : (E'.all β' S').le ⟨E'.w, E.X⟩ := by
    constructor
    · intro b o v hc hx
      refine ⟨hc, fun hX' => hx ⟨(hr'.h.xold b o (hX.xlt b o hX') (fun h => h)).2 hX', ?_⟩⟩
      rintro ⟨i, hi, hb⟩
      have hlt : b < E.w.heap.size := hX.xlt b o hX'
      have hown : O.own b := hr'.h.own hi hb
      rcases hown with h1 | h1
      · exact absurd hlt (Nat.not_lt.2 h1)
      · exact h1
    · intro b c e f hc; exact ⟨c, f, hc, rfl⟩
  have h4 := RdL.mono hxx (Names.le.refl _) h3
  have hrun : (results fn a'.tmps).run P E'.w = .ok (if h : vs'.toArray.size = 1 then vs'.toArray[0] else .tuple vs'.toArray) E'.w := by
    have hF : results fn a'.tmps = (fn.results.mapM (resF a'.tmps)) >>= fun vs => pure (if h : vs.size = 1 then vs[0] else .tuple vs) := by
      unfold results
      congr 2
    rw [hF, ← Array.toArray_toList (xs := fn.results), List.mapM_toArray]
    simp only [Sem.run_bind, Sem.run_map, h1, Result.andThen_ok, Sem.run_pure]
  have hfin : ∃ v, (results fn a'.tmps).run P E'.w = .ok v E'.w ∧ Rd ⟨E'.w, E.X⟩ β0 v (retD rs) := by
    refine ⟨_, hrun, ?_⟩
    cases h4 with
    | nil => simpa [retD] using Rd.tuple (E := ⟨E'.w, E.X⟩) β0 [] [] (.nil _)
    | cons h5 h6 =>
      cases h6 with
      | nil => simpa [retD] using h5
      | cons h7 h8 =>
        simp only [retD, List.size_toArray, List.length_cons]
        rw [dif_neg (by omega)]
        exact .tuple _ _ _ (.cons h5 (.cons h7 h8))
  obtain ⟨v, h5, h6⟩ := hfin
  exact ⟨v, h5, v, rfl, hbelow, h6⟩
end
end Go.IL
namespace Go.IL
section
variable {P : Program} {O : Origin} {N : Nat} {S S' : St} {o : Oper} {t : Nat}
theorem iop_callh2 {f : FuncId} {xs : List Operand} {ts : Array TypeId} {ds ds' : List D} {r r' : D} {H0 H1 H1' : List (Nat × Ent)} (k : Nat) (A : List Nat) (ho : o.op = .call { callee := .value (.func f), args := xs.toArray, argTypes := ts }) (hd : o.dst = some t) (ht : t < N)
    (hc : Callable P f) (hx : SVs S xs ds') (hds : D.renL (sig k A) ds = ds') (hp : D.refsInL (givenB A) ds = true)
    (hh : Hand S k A H0) (hf : FnH P f ds H0 r H1) (hrr : r.ren (sig k A) = r') (hrp : r.refsIn (backB k A) = true) (hH1 : ∀ x ∈ H1, backB k A x.1 = true ∧ x.2.refsIn (backB k A) = true)
    (hH2 : (H1.map fun x => (sig k A x.1, x.2.ren (sig k A))) = H1') : IOp P O N o S (St.set ⟨S.sl, H1' ++ ((H0.map fun x => (sig k A x.1, Ent.none)) ++ S.H)⟩ t r') :=
  iop_callh k A ho hd ht hc hx hds hp hh hf hrr hrp hH1 (by rw [← hH2]; rfl)
theorem flatrep_at {α : Type} {l : List α} (hl : 0 < l.length) : ∀ (m j : Nat), j < m * l.length → (List.replicate m l).flatten[j]? = l[j % l.length]?
  | 0, j, h => by omega
  | m + 1, j, h => by
    rw [List.replicate_succ, List.flatten_cons]
    by_cases hj : j < l.length
    · rw [List.getElem?_append_left hj, Nat.mod_eq_of_lt hj]
    · rw [List.getElem?_append_right (by omega), flatrep_at hl m (j - l.length) (by rw [Nat.add_mul, Nat.one_mul] at h; omega)]
      rw [Nat.mod_eq_sub_mod (a := j) (by omega)]
theorem made_flat {z : Array Value} (hz : 0 < z.size) (m : Nat) : madeCells z (m * z.size) = (List.replicate m z.toList).flatten.toArray := by
  have hl : (List.replicate m z.toList).flatten.length = m * z.size := by simp
  apply Array.ext
  · rw [size_madeCells]; simp
  · intro j h1 h2
    rw [size_madeCells] at h1
    have h3 := flatrep_at (l := z.toList) (by simpa using hz) m j (by simpa using h1)
    have h4 : j % z.size < z.size := Nat.mod_lt _ hz
    simp only [madeCells, Array.getElem_map, Array.getElem_range, List.getElem_toArray]
    have h5 : (List.replicate m z.toList).flatten[j]? = some ((List.replicate m z.toList).flatten[j]'(by omega)) := List.getElem?_eq_getElem _
    rw [h5] at h3
    simp only [Array.length_toList] at h3
    rw [List.getElem?_eq_getElem (by simpa using h4)] at h3
    rw [Option.some.inj h3]
    simp [h4]
theorem rdl_flatrep {E : Env} {β : Names} {vs : List Value} {ds : List D} (h : RdL E β vs ds) : ∀ (m : Nat), RdL E β (List.replicate m vs).flatten (List.replicate m ds).flatten
  | 0 => .nil _
  | m + 1 => by rw [List.replicate_succ, List.replicate_succ, List.flatten_cons, List.flatten_cons]; exact h.append (rdl_flatrep h m)
theorem flat_rep (d : D) : ∀ (m : Nat), D.flat (List.replicate m d) = (List.replicate m d.cells).flatten
  | 0 => rfl
  | m + 1 => by rw [List.replicate_succ, List.replicate_succ, List.flatten_cons, ← flat_rep d m]; rfl
/-- 'make([]T, n)'. -/
theorem iop_makeT {α : Type} (f : Enc0 α) (a : α) {T e : TypeId} {x : Operand} {k : IntKind} {n : Int} {z : Value} {bytes : Nat} {xs : List α} (id : Nat) (ho : o.op = .makeSlice T x x) (hd : o.dst = some t) (ht : t < N)
    (hu : P.underlying T = some (.slice e)) (hi : TI P e (some z) f.sz bytes) (hzs : z.cells.size = f.sz) (hf : S.ent id = .fresh) (hx : SV S x (.int k n)) (hm : made bytes n a = some xs)
    (hzd : SubL (z.cells.toList.map D.ofScalar) (f.d a).cells) :
    IOp P O N o S ((S.setE id (.blk e (D.flat (xs.map f.d)))).set t (.osl id f.sz xs.length)) := by
  obtain ⟨⟨h0, hb, h63⟩, rfl⟩ := made_e hm
  obtain ⟨m, rfl⟩ := Int.eq_ofNat_of_zero_le h0
  simp only [Int.toNat_natCast, List.length_replicate]
  refine iop_newosl id hd ht hf (by rw [f.flat_len, List.length_replicate]) f.pos (by simp only [maxLen]; omega) fun E β a' hr => ⟨(List.replicate m z.cells.toList).flatten, ?_, ?_⟩
  · obtain ⟨i, h1, h2, h3, h4⟩ := hi.at
    have hxv := rd_int (hx.rd hr)
    have := run_make (P := P) E.w T e i z hu h1 h2 k k (m : Int) (m : Int) (by omega) (by omega) (by rw [h4]; exact hb) (by omega)
    simp only [Int.toNat_natCast, h3] at this
    rw [← hzs, made_flat (by rw [hzs]; exact f.pos)] at this
    simp only [execOp, ho, hxv, Sem.run_bind, this, Result.andThen_ok, Sem.run_pure]
  · rw [List.map_replicate, flat_rep]
    exact rdl_flatrep (RdL.sub hzd (rdl_ofScalar E β z.cells.toList)) m
end
end Go.IL
namespace Go.IL
end Go.IL
namespace Go.IL
section
variable {P : Program} {O : Origin} {N : Nat} {S S' : St} {o : Oper} {t : Nat}
theorem iop_eqbx {xt yt : TypeId} {x y : Operand} {a b r : Bool} (ho : o.op = .binOp .eql xt x y yt) (hd : o.dst = some t) (ht : t < N) (hu : P.underlying xt = some .bool)
    (hx : SV S x (.bool a)) (hy : SV S y (.bool b)) (hr : (a == b) = r) : IOp P O N o S (S.set t (.bool r)) := hr ▸ iop_eqb ho hd ht hu hx hy
end
end Go.IL
/-! Small laws for the plain functions. -/
namespace Go.IL
theorem bnd_d {α β : Type} (e : α) (f : α → Option β) : bnd e f = f e := rfl
theorem bno_s {α β : Type} (x : α) (f : α → Option β) : bno (some x) f = f x := rfl
theorem chk_t {β : Type} {p : Prop} [Decidable p] {o : Option β} (h : p) : chk p o = o := if_pos h
theorem gd_tt {α : Type} (o : Option α) (d : α) : gd true o d = o := rfl
theorem gd_ff {α : Type} (o : Option α) (d : α) : gd false o d = some d := rfl
theorem gix_nat {α : Type} (l : List α) (k : Nat) : gix l (k : Int) = l[k]? := by unfold gix; rw [if_pos (by omega)]; rfl
theorem cut_ok {α : Type} {l : List α} {a b : Int} (h0 : 0 ≤ a) (h1 : a ≤ b) (h2 : b ≤ (l.length : Int)) : cut l a b = some ((l.take b.toNat).drop a.toNat) := if_pos ⟨h0, h1, h2⟩
theorem cut_of {α : Type} {l : List α} {b : Int} (h0 : 0 ≤ b) (h1 : b ≤ (l.length : Int)) : cut l 0 b = some (l.take b.toNat) := by
  rw [cut_ok (Int.le_refl _) h0 h1]; rfl
theorem app_ok {α : Type} {b : Nat} {l m : List α} (h : l.length + m.length ≤ 9223372036854775807) (h1 : (l.length + m.length) * b ≤ 140737488355328) : app b l m = some (l ++ m) := if_pos ⟨h, h1⟩
theorem cat_ok {a b : List UInt8} (h : a.length + b.length ≤ 9223372036854775807) : cat a b = some (a ++ b) := if_pos h
theorem w64 {n : Int} (h0 : -9223372036854775808 ≤ n) (h1 : n ≤ 9223372036854775807) : IntKind.wrap .i64 n = n := wrap_i64 h0 h1
theorem wrap_u32 (n : Int) : IntKind.wrap .u32 n = n % 4294967296 := by simp [IntKind.wrap, IntKind.signed, IntKind.bits]
theorem made_ok {α : Type} {b : Nat} {n : Int} {z : α} (h0 : 0 ≤ n) (h1 : (b : Int) * n ≤ 281474976710656) (h2 : n ≤ 9223372036854775807) : made b n z = some (List.replicate n.toNat z) := if_pos ⟨h0, h1, h2⟩
theorem fuel_gt {n : Nat} (h : n < 18446744073709551616) : n < fuel := by show n < 2 ^ 64; omega
/-! The same, so that simp keeps a proof of each step (a long term is not looked at anew by the kernel). -/
theorem bndD {α β : Type} (e : α) (f : α → Option β) : bnd e f = f e := (Eq.refl _).trans (bnd_d e f)
theorem bnoS {α β : Type} (x : α) (f : α → Option β) : bno (some x) f = f x := (Eq.refl _).trans (bno_s x f)
theorem gdtt {α : Type} (o : Option α) (d : α) : gd true o d = o := (Eq.refl _).trans (gd_tt o d)
theorem gdff {α : Type} (o : Option α) (d : α) : gd false o d = some d := (Eq.refl _).trans (gd_ff o d)
theorem bif_tt {α : Type} (a b : α) : (bif true then a else b) = a := (Eq.refl _).trans (Eq.refl _)
theorem bif_ff {α : Type} (a b : α) : (bif false then a else b) = b := (Eq.refl _).trans (Eq.refl _)
end Go.IL
namespace Go.IL
open RowKit (Below)

/-! Loops over functions ('for x := range seq'): the function that is ranged over is walked at once, and each of its calls of yield walks the loop's body. -/
def noK (k : Nat) : Ent → Bool
  | .kept j _ => !(j == k)
  | .loop j .. => !(j == k)
  | _ => true
/-- No entry that is told bears this number, but those named. -/
def freeX (k : Nat) (ids : List Nat) (H : List (Nat × Ent)) : Bool := H.all fun x => ids.elem x.1 || noK k x.2
theorem freeX_ent {k : Nat} {ids : List Nat} {H : List (Nat × Ent)} (h : freeX k ids H = true) {id : Nat} (hid : id ∉ ids) : noK k (entL H id) = true := by
  unfold entL
  rcases look_mem (z := defE id) (t := id) (l := H) with h1 | h1
  · rw [h1]; unfold defE; split <;> rfl
  · have h2 := List.all_eq_true.1 h _ h1
    simp only [Bool.or_eq_true, List.elem_eq_mem, decide_eq_true_eq] at h2
    exact h2.resolve_left hid

def Origin.same (O O' : Origin) : Prop := O'.w = O.w ∧ O'.X = O.X ∧ O'.foot = O.foot ∧ O'.given = O.given
def compat (O O' : Origin) : Ent → Prop
  | .kept j _ => O'.kv j = O.kv j ∧ O'.dv j = O.dv j
  | .loop j .. => O'.lv j = O.lv j ∧ O'.lc j = O.lc j
  | _ => True
theorem EntAt.swap {O O' : Origin} {E : Env} {β : Names} {id : Nat} {e : Ent} (h : EntAt O E β id e) (hs : O.same O') (hc : compat O O' e) : EntAt O' E β id e := by
  obtain ⟨s1, s2, s3, s4⟩ := hs
  have hown : ∀ b, O.own b → O'.own b := fun b hb => by unfold Origin.own at hb ⊢; rw [s1, s3]; exact hb
  cases e with
  | none => trivial
  | fresh => exact h
  | blk e ds =>
    rcases h with h | ⟨b, vs, sp, h1, h2, h3⟩
    · exact .inl h
    · exact .inr ⟨b, vs, sp, h1, hown b h2, h3⟩
  | tail e sz n =>
    rcases h with h | ⟨b, c, h1, h2, h3⟩
    · exact .inl h
    · exact .inr ⟨b, c, h1, hown b h2, h3⟩
  | loop lk ds st pend =>
    obtain ⟨b, r, h1, h2, h3, h4, h5, h6, h7, h8, h9, h10, h11⟩ := h
    obtain ⟨c1, c2⟩ : O'.lv lk = O.lv lk ∧ O'.lc lk = O.lc lk := hc
    exact ⟨b, r, h1, hown b h2, h3, h4, by rw [c2]; exact h5, by rw [c2]; exact h6, by rw [c2]; exact h7, h8, h9, c1.trans h10, h11⟩
  | kept k ds =>
    obtain ⟨c1, c2⟩ : O'.kv k = O.kv k ∧ O'.dv k = O.dv k := hc
    exact ⟨c1 ▸ h.1, fun b hb => h.2 b (c2 ▸ hb)⟩
theorem HOk.swap {O O' : Origin} {E : Env} {β : Names} {H H' : Nat → Ent} (h : HOk O E β H) (hs : O.same O') (hc : ∀ id, (H' id = H id ∧ compat O O' (H id)) ∨ H' id = .none) : HOk O' E β H' where
  os := by rw [hs.1]; exact h.os
  tab := by rw [hs.1, hs.2.1]; exact h.tab
  tape := by rw [hs.1]; exact h.tape
  output := by rw [hs.1]; exact h.output
  size := by rw [hs.1]; exact h.size
  block k hk hf := by rw [hs.1] at hk ⊢; rw [hs.2.2.1] at hf; exact h.block k hk hf
  xlt := h.xlt
  xold b o hb hf := by rw [hs.1] at hb; rw [hs.2.2.1] at hf; rw [hs.2.1]; exact h.xold b o hb hf
  ent id := by
    rcases hc id with ⟨h1, h2⟩ | h1
    · rw [h1]; exact (h.ent id).swap hs h2
    · rw [h1]; trivial
  inj i j b hi hj := by
    have key : ∀ i, (H' i).held = true → (H i).held = true := fun i hi => by
      rcases hc i with ⟨h1, _⟩ | h1
      · rwa [h1] at hi
      · rw [h1] at hi; cases hi
    exact h.inj i j b (key i hi) (key j hj)
  le := by rw [hs.1, hs.2.1]; exact h.le
  gid := by rw [hs.2.2.2]; exact h.gid
  given := by rw [hs.2.2.2]; exact h.given
theorem HOk.addK {O : Origin} {E : Env} {β : Names} {H : List (Nat × Ent)} (h : HOk O E β (entL H)) {id k : Nat} {ds : List D} (hr : RdL E β (O.kv k) ds) (hd : ∀ b ∈ O.dv k, E.w.heap[b]? = some (.deferred (some []))) : HOk O E β (entL ((id, .kept k ds) :: H)) :=
  { h with
    ent := fun j => by
      show EntAt O E β j (look _ _ _)
      rw [look_cons]
      by_cases hj : id = j
      · rw [if_pos hj]; exact ⟨hr, hd⟩
      · rw [if_neg hj]; exact h.ent j
    inj := fun i j b hi hj => by
      have key : ∀ i, (entL ((id, .kept k ds) :: H) i).held = true → (entL H i).held = true := fun i hi => by
        have hi' : (look (defE i) i ((id, .kept k ds) :: H)).held = true := hi
        rw [look_cons] at hi'
        by_cases h : id = i
        · rw [if_pos h] at hi'; cases hi'
        · rw [if_neg h] at hi'; exact hi'
      exact h.inj i j b (key i hi) (key j hj) }

/-- What slots read as, of what is passed. -/
theorem rdl_slots {E : Env} {β : Names} {vs : List Value} {ds : List D} (hv : RdL E β vs ds) (n : Nat) (s : Nat) : Rd E β ((vs.toArray ++ Array.replicate n undef).getD s undef) (look .dead s ((List.range ds.length).zip ds)) := by
  have key : ∀ (ds : List D) (vs : List Value) (k : Nat), RdL E β vs ds → Rd E β (if s < k then undef else vs.getD (s - k) undef) (look .dead s ((List.range' k ds.length).zip ds)) := by
    intro ds
    induction ds with
    | nil => intro vs k _; simp [look]; exact .dead _ _
    | cons d ds ih =>
      intro vs k hv
      cases hv with
      | cons h1 h2 =>
        simp only [List.length_cons, List.range'_succ, List.zip_cons_cons, look_cons]
        by_cases hks : k = s
        · subst hks; simpa using h1
        · rw [if_neg hks]
          have := ih _ (k + 1) h2
          by_cases hlt : s < k
          · simpa [hlt, show s < k + 1 by omega] using this
          · have h3 : ¬ s < k + 1 := by omega
            rw [if_neg hlt]; rw [if_neg h3] at this
            rw [show s - k = (s - (k + 1)) + 1 by omega]
            simpa using this
  have := key ds vs 0 hv
  rw [List.range_eq_range']
  simp only [Nat.not_lt_zero, if_false, Nat.sub_zero] at this
  have hg : (vs.toArray ++ Array.replicate n undef).getD s undef = vs.getD s undef := by
    by_cases hs : s < vs.length
    · simp [hs, Array.getElem?_append]
    · simp [Array.getElem?_append, hs, List.getElem?_eq_none (Nat.le_of_not_lt hs)]
      simp [Array.getElem?_replicate]
      split <;> rfl
  rw [hg]
  exact this
theorem rdl_slots0 {E : Env} {β : Names} {a : Array Value} {ds : List D} (hv : RdL E β a.toList ds) (s : Nat) : Rd E β (a.getD s undef) (look .dead s ((List.range ds.length).zip ds)) := by
  have := rdl_slots hv 0 s
  simpa using this
/-- All slots of a state, in a row. -/
def allD (N : Nat) (S : St) : List D := (List.range N).map S.get
theorem rel_allD {O : Origin} {N : Nat} {S : St} {E : Env} {β : Names} {a : Act} (hr : Rel O N S E β a) : RdL E β a.tmps.toList (allD N S) := by
  have key : ∀ (l : List Value) (k : Nat), (∀ s, s < l.length → Rd E β (l.getD s undef) (S.get (k + s))) → RdL E β l ((List.range' k l.length).map S.get) := by
    intro l
    induction l with
    | nil => intro k _; exact .nil _
    | cons v l ih =>
      intro k h
      rw [List.length_cons, List.range'_succ, List.map_cons]
      refine .cons (by simpa using h 0 (by simp)) (ih (k + 1) fun s hs => ?_)
      have := h (s + 1) (by simpa using hs)
      rw [show k + 1 + s = k + (s + 1) by omega]
      simpa using this
  unfold allD
  have hn : a.tmps.toList.length = N := by simpa using hr.n
  have := key a.tmps.toList 0 fun s hs => by
    have h1 := hr.sl s
    rw [Nat.zero_add]
    simpa using h1
  rwa [hn, ← List.range_eq_range'] at this
/-- The record of a loop turns. -/
theorem HOk.turn {O : Origin} {E : Env} {β : Names} {H : List (Nat × Ent)} (h : HOk O E β (entL H)) {id k : Nat} {ds : List D} {st : LoopState} {pend : Option Code} (he : entL H id = .loop k ds st pend) :
    ∃ r, E.w.heap[O.lv k]? = some (.loop r) ∧ β id = some (O.lv k) ∧ r.params = (O.lc k).1 ∧ r.assign = (O.lc k).2.1 ∧ r.body = (O.lc k).2.2 ∧ r.state = st ∧ r.pending = pend ∧ ∀ st' pend', (E).le ⟨E.w.putObj (O.lv k) (.loop { r with state := st', pending := pend' }), E.X⟩ ∧
      HOk O ⟨E.w.putObj (O.lv k) (.loop { r with state := st', pending := pend' }), E.X⟩ β (entL ((id, .loop k ds st' pend') :: H)) := by
  have hh := h.ent id
  rw [he] at hh
  obtain ⟨b, r, h1, h2, h3, h4, h5, h6, h7, h8, h9, h10, h11⟩ := hh
  subst h10
  refine ⟨r, h3, h1, h5, h6, h7, h8, h9, fun st' pend' => ?_⟩
  let E' : Env := ⟨E.w.putObj (O.lv k) (.loop { r with state := st', pending := pend' }), E.X⟩
  have hs : Step O E E' (O.lv k) := ⟨rfl, rfl, rfl, by simp [E', World.putObj], by simpa [E', World.putObj] using heap_lt h3, h2, fun j _ hj => World.putObj_heap_other hj, fun _ _ _ => Iff.rfl, fun _ hx => by rw [h3] at hx; cases hx⟩
  have hle : E.le E' := hs.le (fun o v _ hx => absurd (h4 o) hx) (fun c e f hx => by rw [h3] at hx; cases hx)
  refine ⟨hle, HOk.put h hs hle (Names.le.refl _) (id := id) (fun j hj => ?_) (fun j hj hh hb => ?_) h1 ?_ (fun _ _ => trivial)⟩
  · left; exact ⟨by show look _ _ _ = _; rw [look_cons, if_neg (Ne.symm hj)]; rfl, rfl⟩
  · have hh' : (look (defE j) j ((id, .loop k ds st' pend') :: H)).held = true := hh
    rw [look_cons, if_neg (Ne.symm hj)] at hh'
    exact hj (h.inj j id _ hh' (by rw [he]; rfl) hb h1)
  · show EntOk O E' β _ (look _ _ _)
    rw [look_cons, if_pos rfl]
    exact ⟨_, World.putObj_heap_same (heap_lt h3), h4, h5, h6, h7, rfl, rfl, rfl, RdL.mono hle (Names.le.refl _) h11⟩
end Go.IL
namespace Go.IL
open RowKit (Below)
section
variable {P : Program} {O : Origin} {N : Nat} {S S' : St} {Q : Exit → St → Prop}

/-- What the walk of the function that is ranged over must come to. -/
@[reducible] def rangeQ (P : Program) (O : Origin) (N k : Nat) (Q : Exit → St → Prop) (e : Exit) (S' : St) : Prop :=
  (e = .normal ∨ e = .ret) ∧ ∃ iL iK dl ds' st pend, S'.ent iL = .loop k dl st pend ∧ st ≠ .busy ∧ S'.ent iK = .kept k ds' ∧ freeX k [iL, iK] S'.H = true ∧
    ∃ S2 ρ, Weak ⟨(List.range N).zip ds', (iK, .none) :: (iL, .none) :: S'.H⟩ S2 ρ ∧ match pend with
    | none => Q .normal S2
    | some c => IWP P O N c S2 Q

theorem iwp_range {g : Operand} {ps : Array Tmp} {as bd : Code} {f : FuncId} {fn : Func} {c : Code} {caps : List D} (k idL idK : Nat)
    (hg : SV S g (.fn f caps)) (hc : Callable P f) (hf : P.funcs[f]? = some fn) (hb : fn.body = some c) (hres : fn.results = #[]) {N' : Nat} (hn : fn.ntmps = N') (hN' : caps.length + 1 ≤ N')
    (hfr : freeX k [] S.H = true) (hL : S.ent idL = .fresh) (hO : O.Plain)
    (h : ∀ O', O'.round = none → O'.lc k = (ps, as, bd) → IWP P O' N' c ⟨(List.range (.yld idL :: caps).length).zip (.yld idL :: caps), (idK, .kept k (allD N S)) :: (idL, .loop k (allD N S) .ready none) :: S.H⟩ (rangeQ P O N k Q)) : IWP P O N (.rangeFunc g ps as bd) S Q := by
  subst hn
  obtain ⟨Ow, OX, Of, Og, Or, Okv, Olv, Odv, Olc⟩ := O
  obtain ⟨hro, hfoot, hdv⟩ := hO
  simp only at hro hfoot hdv
  subst hro
  intro E β a hr
  obtain ⟨bs, hbs, hnd, hall⟩ := hr.nd
  obtain ⟨vs, hev, hcaps⟩ := rd_fn (hg.rd hr)
  refine wpIn_rangeFunc ?_
  intro fn0 _
  let r0 : Loop := { state := .ready, pending := none, fn := fn0, tmps := a.tmps, params := ps, assign := as, body := bd, defers := E.w.heap.size }
  let W0 := E.w.alloc (.deferred (some []))
  have hsz0 : W0.heap.size = E.w.heap.size + 1 := by simp [W0]
  let W1 := W0.alloc (.loop r0)
  have hb0 : Below E.w.heap.size E.w W0 := (Below.refl _ _).alloc (Nat.le_refl _) _
  refine ⟨E.w.heap.size + 1, [{ target := .collected E.w.heap.size, args := #[] }], W1, { target := .fn (.func f) vs.toArray, args := #[.func (.yield (E.w.heap.size + 1)) #[] #[]] }, W1, f,
    #[.func (.yield (E.w.heap.size + 1)) #[] #[]] ++ vs.toArray, W1, run_enterLoop_outer _ _ _ _ _, ?_, fun _ _ => trivial, ?_, fun h => by simp [fen, Fence.wide] at h, ?_⟩
  · simp only [resolve, hev]
    simp [go_sem]
  · simp [invoke, run_callFunc hc]
  let O' : Origin := ⟨Ow, OX, Of, Og, none, fun j => if j = k then a.tmps.toList else Okv j, fun j => if j = k then E.w.heap.size + 1 else Olv j, fun j => if j = k then E.w.heap.size :: bs else Odv j, fun j => if j = k then (ps, as, bd) else Olc j⟩
  have hsame : (⟨Ow, OX, Of, Og, none, Okv, Olv, Odv, Olc⟩ : Origin).same O' := ⟨rfl, rfl, rfl, rfl⟩
  have hcomp : ∀ e, noK k e = true → compat ⟨Ow, OX, Of, Og, none, Okv, Olv, Odv, Olc⟩ O' e ∧ compat O' ⟨Ow, OX, Of, Og, none, Okv, Olv, Odv, Olc⟩ e := fun e he => by
    cases e with
    | kept j ds => have : j ≠ k := by simpa [noK] using he
                   simp [compat, O', this]
    | loop j => have : j ≠ k := by simpa [noK] using he
                simp [compat, O', this]
    | _ => exact ⟨trivial, trivial⟩
  have h0 : HOk O' ⟨W0, E.X⟩ β (entL S.H) := (hr.h.below hb0).swap hsame fun id => .inl ⟨rfl, (hcomp _ (freeX_ent hfr (by simp))).1⟩
  let E1 : Env := ⟨W1, fun b o => b = E.w.heap.size + 1 ∨ E.X b o⟩
  let β1 : Names := fun j => if j = idL then some (E.w.heap.size + 1) else β j
  have hfrL : β idL = none := by have := hr.h.ent idL; rw [hL] at this; exact this
  have hβ : β.le β1 := fun j b hj => by
    by_cases hji : j = idL
    · subst hji; rw [hfrL] at hj; cases hj
    · simp [β1, hji, hj]
  have hs : Step O' ⟨W0, E.X⟩ E1 (E.w.heap.size + 1) :=
    ⟨rfl, rfl, rfl, by simp [E1, W1], by simp [E1, W1, hsz0], .inl (by have := h0.size; simp only [hsz0] at this; exact this), fun j hj _ => heap_alloc_old _ _ hj, fun j o hj => by simp [E1, hj], fun _ hx => by have h9 : E.w.heap.size + 1 < W0.heap.size := heap_lt hx; omega⟩
  have hle : (⟨W0, E.X⟩ : Env).le E1 := hs.le (fun o v hx _ => by have := World.block_lt_of_cell? _ _ hx; simp [hsz0] at this) (fun c e f hx => by have := heap_lt hx; simp [hsz0] at this)
  have hle0 : E.le E1 := (below_le hb0).trans hle
  have hnew : W1.heap[E.w.heap.size + 1]? = some (.loop r0) := by have := World.alloc_heap_new W0 (.loop r0); rwa [hsz0] at this
  have hdef : W1.heap[E.w.heap.size]? = some (.deferred (some [])) := (heap_alloc_old _ _ (by omega)).trans (World.alloc_heap_new E.w _)
  have hrd : RdL E1 β1 a.tmps.toList (allD N S) := RdL.mono hle0 hβ (rel_allD hr)
  have h1 : HOk O' E1 β1 (entL ((idL, .loop k (allD N S) .ready none) :: S.H)) := by
    refine HOk.put h0 hs hle hβ (id := idL) (fun j hj => ?_) (fun j hj hh hb => ?_) (by simp [β1]) ?_ (fun _ _ => trivial)
    · left; exact ⟨by show look _ _ _ = _; rw [look_cons, if_neg (Ne.symm hj)]; rfl, by simp [β1, hj]⟩
    · have hh' : (look (defE j) j ((idL, .loop k (allD N S) .ready none) :: S.H)).held = true := hh
      rw [look_cons, if_neg (Ne.symm hj)] at hh'
      have := h0.lt (j := j) hh' hb
      simp [hsz0] at this
    · show EntOk O' E1 β1 _ (look _ _ _)
      rw [look_cons, if_pos rfl]
      exact ⟨r0, hnew, fun o => .inl rfl, by simp [O', r0], by simp [O', r0], by simp [O', r0], rfl, rfl, by simp [O'], hrd⟩
  have h2 : HOk O' E1 β1 (entL ((idK, .kept k (allD N S)) :: (idL, .loop k (allD N S) .ready none) :: S.H)) := by
    refine h1.addK (by simpa [O'] using hrd) fun b hb => ?_
    have hb' : b ∈ E.w.heap.size :: bs := by simpa [O'] using hb
    rcases List.mem_cons.1 hb' with rfl | hb'
    · exact hdef
    · have hx := (hall b hb').2
      have hlt := heap_lt hx
      exact ((heap_alloc_old W0 _ (by omega)).trans (heap_alloc_old E.w _ hlt)).trans hx
  have hargs : RdL E1 β1 (Value.func (.yield (E.w.heap.size + 1)) #[] #[] :: vs) (.yld idL :: caps) := .cons (.yld _ _ _ (by simp [β1])) (RdL.mono hle0 hβ hcaps)
  have hlen := hargs.length
  have hrel : Rel O' fn.ntmps ⟨(List.range (D.yld idL :: caps).length).zip (.yld idL :: caps), (idK, .kept k (allD N S)) :: (idL, .loop k (allD N S) .ready none) :: S.H⟩ E1 β1
      { tmps := (#[Value.func (.yield (E.w.heap.size + 1)) #[] #[]] ++ vs.toArray) ++ Array.replicate (fn.ntmps - (#[Value.func (.yield (E.w.heap.size + 1)) #[] #[]] ++ vs.toArray).size) undef, defers := [] } := by
    refine ⟨by simp at hlen ⊢; omega, Marks.nil, h2, fun s => ?_⟩
    have := rdl_slots hargs (fn.ntmps - (#[Value.func (.yield (E.w.heap.size + 1)) #[] #[]] ++ vs.toArray).size) s
    show Rd E1 β1 _ (look _ _ _)
    simpa using this
  refine callsIn_wide (n := 0) |>.2 (calls_of_iwp (E := E1) (O := O') hf hb rfl hfoot hrel (h O' rfl (by simp [O'])) ?_)
  rintro e S2 E2 β2 a2 hr2 ⟨he, iL, iK, dl, ds', st, pend, hentL, hst, hentK, hfree, S3, ρ3, hw3, hQ⟩
  refine ⟨he, .tuple #[], by simp [results, hres], ?_⟩
  obtain ⟨r, g1, g2, g3, g4, g5, g6, g7, g8⟩ := hr2.h.turn (H := S2.H) hentL
  obtain ⟨g9, g10⟩ := g8 .exhausted pend
  have hlk : O'.lv k = E.w.heap.size + 1 := by simp [O']
  rw [hlk] at g1 g9 g10
  have hkept := hr2.h.ent iK
  rw [hentK] at hkept
  obtain ⟨k1, k2⟩ := hkept
  have hkv : O'.kv k = a.tmps.toList := by simp [O']
  have hdk : O'.dv k = E.w.heap.size :: bs := by simp [O']
  rw [hkv] at k1; rw [hdk] at k2
  have hds' : ds'.length = N := by rw [← k1.length]; simpa using hr.n
  let E3 : Env := ⟨E2.w.putObj (E.w.heap.size + 1) (.loop { r with state := .exhausted, pending := pend }), E2.X⟩
  have hrel3 : Rel ⟨Ow, OX, Of, Og, none, Okv, Olv, Odv, Olc⟩ N ⟨(List.range N).zip ds', (iK, .none) :: (iL, .none) :: S2.H⟩ E3 β2 { a with defers := { target := .collected E.w.heap.size, args := #[] } :: a.defers } := by
    refine ⟨hr.n, ⟨E.w.heap.size :: bs, by rw [List.map_cons, ← hbs], ?_, ?_⟩, ?_, fun s => ?_⟩
    · rw [List.nodup_cons]
      exact ⟨fun hm => Nat.lt_irrefl _ (heap_lt (hall _ hm).2), hnd⟩
    · intro b hb
      refine ⟨⟨?_, fun j => by simp [hdv]⟩, (World.putObj_heap_other ?_).trans (k2 b hb)⟩
      · rcases List.mem_cons.1 hb with rfl | hb
        · exact hr.h.size
        · exact (hall b hb).1.1
      · rintro rfl; have := k2 _ hb; rw [g1] at this; cases this
    · refine HOk.swap (O := O') (H := entL ((iL, .loop k dl .exhausted pend) :: S2.H)) g10 ⟨rfl, rfl, rfl, rfl⟩ fun id => ?_
      show (look _ _ _ = look _ _ _ ∧ _) ∨ _
      simp only [look_cons]
      by_cases h5 : iK = id
      · right; show look _ _ _ = _; rw [look_cons, if_pos h5]
      · by_cases h6 : iL = id
        · right; show look _ _ _ = _; rw [look_cons, if_neg h5, look_cons, if_pos h6]
        · left
          rw [if_neg h5, if_neg h6]
          refine ⟨by first | rfl | rw [if_neg h6], (hcomp _ ?_).2⟩
          show noK k (look _ _ _) = true
          rw [look_cons, if_neg h6]
          exact freeX_ent hfree (by simp; exact ⟨Ne.symm h6, Ne.symm h5⟩)
    · have := rdl_slots0 (RdL.mono g9 (Names.le.refl _) k1) s
      rw [hds'] at this
      exact this
  refine ⟨pend, E3.w, ?_, ?_⟩
  · have := run_endLoop (P := P) (l := E.w.heap.size + 1) g1 (by rw [g6]; exact hst)
    rw [g7] at this
    exact this
  · cases pend with
    | none => obtain ⟨β4, hr4⟩ := hrel3.weak hw3; exact ⟨_, E3, β4, rfl, hr4, hQ⟩
    | some c => obtain ⟨β4, hr4⟩ := hrel3.weak hw3; exact hQ E3 β4 _ hr4

def jumpOf : Exit → Option (Option Code)
  | .normal => some none
  | .ret => some (some .ret)
  | .exit i => some (some (.exit i))
  | _ => none
/-- What the walk of a round must come to: the walk of the function that is ranged over goes on. -/
@[reducible] def yieldQ (P : Program) (O : Origin) (N t k k2 : Nat) (ops : Array Oper) (l : List Oper) (Q : Exit → St → Prop) (e : Exit) (S' : St) : Prop :=
  ∃ iL iK dl dk j, jumpOf e = some j ∧ S'.ent iL = .loop k dl .busy none ∧ S'.ent iK = .kept k2 dk ∧ freeX k2 [iK] S'.H = true ∧ iL ≠ iK ∧
    ∃ S2 ρ, Weak ⟨(t, .bool j.isNone) :: (List.range N).zip dk, (iL, .loop k dl (if j.isNone then .ready else .done) j) :: (iK, .none) :: S'.H⟩ S2 ρ ∧ ILS P O N ops l S2 Q
def setsS (S : St) (l : List (Nat × D)) : St := l.foldl (fun S x => S.set x.1 x.2) S
theorem rel_sets {E : Env} {β : Names} : ∀ (ps : List Nat) (vs : List Value) (ds : List D) (S : St) (a : Array Value), (∀ p ∈ ps, p < N) → RdL E β vs ds → Rel O N S E β { tmps := a, defers := [] } →
    Rel O N (setsS S (ps.zip ds)) E β { tmps := (ps.zip vs).foldl (fun t x => t.setIfInBounds x.1 x.2) a, defers := [] }
  | [], _, _, S, a, _, _, h => by simpa [setsS] using h
  | _ :: _, _, _, S, a, _, .nil _, h => by simpa [setsS] using h
  | p :: ps, _, _, S, a, hp, .cons hv hvs, h => rel_sets ps _ _ _ _ (fun q hq => hp q (by simp [hq])) hvs (h.set (hp p (by simp)) hv)
theorem ils_yield {ops : Array Oper} {o : Oper} {l : List Oper} {x : Operand} {xs : List Operand} {ts : Array TypeId} {t k : Nat} {ps : Array Tmp} {as bd : Code} {ds da : List D} {N0 : Nat} (k2 idL idK : Nat) (hg : quiet o = true)
    (ho : o.op = .call { callee := .value x, args := xs.toArray, argTypes := ts }) (hd : o.dst = some t) (ht : t < N) (hx : S.op x = .yld idL) (hxs : SVs S xs da) (he : S.ent idL = .loop k ds .ready none)
    (hn : ds.length = N0) (hps : ps.toList.length = da.length) (hpl : (ps.toList.all fun p => Nat.blt p N0) = true) (hfr : freeX k2 [] S.H = true) (hK : S.ent idK = .fresh) (hro : O.round = none) (hlc : O.lc k = (ps, as, bd))
    (S0 : St) (ρ0 : Nat → Nat) (hw0 : Weak (setsS ⟨(List.range ds.length).zip ds, (idK, .kept k2 (allD N S)) :: S.H⟩ (ps.toList.zip da)) S0 ρ0)
    (h : ∀ O', IWP P O' N0 as S0 (fun e S1 => e = .normal ∧ ∃ iL dl, S1.ent iL = .loop k dl .ready none ∧
      ∃ S2 ρ, Weak ⟨S1.sl, (iL, .loop k dl .busy none) :: S1.H⟩ S2 ρ ∧ IWP P O' N0 bd S2 (yieldQ P O N t k k2 ops l Q))) : ILS P O N ops (o :: l) S Q := by
  subst hn
  replace hpl : ∀ p ∈ ps.toList, p < ds.length := fun p hp => by simpa using List.all_eq_true.1 hpl p hp
  obtain ⟨Ow, OX, Of, Og, Or, Okv, Olv, Odv, Olc⟩ := O
  simp only at hro
  subst hro
  intro E β a hr
  obtain ⟨bs, hbs, hnd, hall⟩ := hr.nd
  have hkk : k2 ≠ k := by
    have := freeX_ent hfr (id := idL) (by simp)
    have he' : entL S.H idL = _ := he
    rw [he'] at this
    intro e; subst e; simp [noK] at this
  have hidne : idK ≠ idL := by rintro rfl; rw [hK] at he; cases he
  refine wpListIn_plain (quiet_iff hg).1 fun K hK' => ⟨fun _ _ => trivial, ?_⟩
  rw [Oper.semAt_eq _ _ _ (noDefer_ne (quiet_iff hg).2)]
  have hent := hr.h.ent idL
  rw [he] at hent
  obtain ⟨b, r, e1, e2, e3, e4, e5, e6, e7, e8, e9, e10, e11⟩ := hent
  have hev : a.eval x = .func (.yield b) #[] #[] := by
    have := hr.op x
    rw [hx] at this
    generalize a.eval x = v at this
    cases this with
    | yld _ _ l hl => rw [e1] at hl; cases hl; rfl
  have hargs := hxs.rd hr
  have hal := hargs.length
  have hrun : (execOp a.eval o).run P E.w = .ok (.round b r.fn ((r.params.zip (xs.map a.eval).toArray).foldl (fun tmps (t, a) => tmps.setIfInBounds t a) r.tmps) r.assign r.body) E.w := by
    have hy := run_yield (P := P) (args := (xs.map a.eval).toArray) e3 (by rw [e5, hlc]; simp at hal ⊢; simp at hps; omega)
    simp [execOp, ho, resolve, Deferred.ofValue, hev, invoke]
    simpa using hy
  rw [hrun, Oper.uponIn_round]
  refine ⟨fun h => by simp [fen, Fence.wide] at h, roundIn_of_wpIn trivial ?_⟩
  have hlc' : Olc k = (ps, as, bd) := hlc
  rw [e6, e7]
  simp only [hlc']
  have hlen : r.tmps.size = ds.length := by have := e11.length; simpa using this
  let O' : Origin := ⟨Ow, OX, Of, Og, some b, fun j => if j = k2 then a.tmps.toList else Okv j, Olv, fun j => if j = k2 then bs else Odv j, Olc⟩
  have hcomp : ∀ e, noK k2 e = true → compat ⟨Ow, OX, Of, Og, none, Okv, Olv, Odv, Olc⟩ O' e ∧ compat O' ⟨Ow, OX, Of, Og, none, Okv, Olv, Odv, Olc⟩ e := fun e he => by
    cases e with
    | kept j ds => have : j ≠ k2 := by simpa [noK] using he
                   simp [compat, O', this]
    | _ => exact ⟨by first | trivial | rfl, by first | trivial | rfl⟩
  have h0 : HOk O' E β (entL S.H) := hr.h.swap ⟨rfl, rfl, rfl, rfl⟩ fun id => .inl ⟨rfl, (hcomp _ (freeX_ent hfr (by simp))).1⟩
  have h1 : HOk O' E β (entL ((idK, .kept k2 (allD N S)) :: S.H)) := h0.addK (by simpa [O'] using rel_allD hr) fun c hc => (hall c (by simpa [O'] using hc)).2
  have hrel0 : Rel O' ds.length ⟨(List.range ds.length).zip ds, (idK, .kept k2 (allD N S)) :: S.H⟩ E β { tmps := r.tmps, defers := [] } :=
    ⟨hlen, Marks.nil, h1, fun s => rdl_slots0 e11 s⟩
  have hrel1 := rel_sets ps.toList (xs.map a.eval) da _ r.tmps hpl hargs hrel0
  have htm : (r.params.zip (xs.map a.eval).toArray).foldl (fun tmps (t, a) => tmps.setIfInBounds t a) r.tmps = (ps.toList.zip (xs.map a.eval)).foldl (fun t x => t.setIfInBounds x.1 x.2) r.tmps := by
    rw [e5, hlc, ← Array.foldl_toList]; simp
  rw [htm]
  obtain ⟨β6, hr6⟩ := hrel1.weak hw0
  refine wpIn_mono (h O' E β6 _ hr6) ?_
  rintro e a1 w1 ⟨S1, E1, β1, rfl, hr1, rfl, iL, dl, hentL, S7, ρ7, hw7, hbody⟩
  obtain ⟨r1, g1, g2, g3, g4, g5, g6, g7, g8⟩ := hr1.h.turn (H := S1.H) hentL
  obtain ⟨g9, g10⟩ := g8 .busy none
  have hlk : O'.lv k = b := e10
  rw [hlk] at g1 g9 g10
  let E2 : Env := ⟨E1.w.putObj b (.loop { r1 with state := .busy, pending := none }), E1.X⟩
  have hw2 : (Instr.beginRound b).run P E1.w = .ok () E2.w := by
    have := run_beginRound (P := P) g1 g6
    rw [this]
    show _ = Result.ok () (E1.w.putObj b (.loop { r1 with state := .busy, pending := none }))
    congr 3
    rw [← g7]
  refine ⟨E2.w, hw2, ?_⟩
  have hrel2 : Rel O' ds.length ⟨S1.sl, (iL, .loop k dl .busy none) :: S1.H⟩ E2 β1 a1 :=
    ⟨hr1.n, hr1.nd.mono (fun c hc => (World.putObj_heap_other (by rintro rfl; rw [g1] at hc; cases hc)).trans hc), g10, fun s => Rd.mono g9 (Names.le.refl _) (hr1.sl s)⟩
  obtain ⟨β7, hr7⟩ := hrel2.weak hw7
  refine wpIn_mono (hbody E2 β7 a1 hr7) ?_
  rintro e a3 w3 ⟨S3, E3, β3, rfl, hr3, iL3, iK3, dl3, dk3, j, hj, hL3, hK3, hf3, hne3, S5, ρ5, hw5, hils⟩
  obtain ⟨r3, m1, m2, m3, m4, m5, m6, m7, m8⟩ := hr3.h.turn (H := S3.H) hL3
  obtain ⟨m9, m10⟩ := m8 (if j.isNone then .ready else .done) j
  rw [hlk] at m1 m9 m10
  have hkept := hr3.h.ent iK3
  rw [hK3] at hkept
  obtain ⟨k1, k2'⟩ := hkept
  have hkv : O'.kv k2 = a.tmps.toList := by simp [O']
  have hdk : O'.dv k2 = bs := by simp [O']
  rw [hkv] at k1; rw [hdk] at k2'
  have hdk3 : dk3.length = N := by rw [← k1.length]; simpa using hr.n
  let E4 : Env := ⟨E3.w.putObj b (.loop { r3 with state := if j.isNone then .ready else .done, pending := j }), E3.X⟩
  have hend : (Instr.endRound b j).run P E3.w = .ok (.bool j.isNone) E4.w := run_endRound (P := P) j m1
  have hrel4 : Rel ⟨Ow, OX, Of, Og, none, Okv, Olv, Odv, Olc⟩ N ⟨(t, .bool j.isNone) :: (List.range N).zip dk3, (iL3, .loop k dl3 (if j.isNone then .ready else .done) j) :: (iK3, .none) :: S3.H⟩ E4 β3 (a.put (some t) (.bool j.isNone)) := by
    refine Rel.set (S := ⟨(List.range N).zip dk3, (iL3, .loop k dl3 (if j.isNone then .ready else .done) j) :: (iK3, .none) :: S3.H⟩) ⟨hr.n, ⟨bs, hbs, hnd, fun c hc => ⟨(hall c hc).1, (World.putObj_heap_other (by rintro rfl; have := k2' _ hc; rw [m1] at this; cases this)).trans (k2' c hc)⟩⟩, ?_, fun s => ?_⟩ ht (.bool _ _)
    · refine HOk.swap (O := O') (H := entL ((iL3, .loop k dl3 (if j.isNone then .ready else .done) j) :: S3.H)) m10 ⟨rfl, rfl, rfl, rfl⟩ fun id => ?_
      by_cases h6 : iL3 = id
      · left
        subst h6
        refine ⟨by show look _ _ _ = look _ _ _; rw [look_cons, if_pos rfl, look_cons, if_pos rfl], (hcomp _ ?_).2⟩
        show noK k2 (look _ _ _) = true
        rw [look_cons, if_pos rfl]
        simp [noK, Ne.symm hkk]
      · by_cases h5 : iK3 = id
        · right; show look _ _ _ = _; rw [look_cons, if_neg h6, look_cons, if_pos h5]
        · left
          refine ⟨by show look _ _ _ = look _ _ _; rw [look_cons, if_neg h6, look_cons, if_neg h5, look_cons, if_neg h6], (hcomp _ ?_).2⟩
          show noK k2 (look _ _ _) = true
          rw [look_cons, if_neg h6]
          exact freeX_ent hf3 (by simp; exact Ne.symm h5)
    · have := rdl_slots0 (RdL.mono m9 (Names.le.refl _) k1) s
      rw [hdk3] at this
      exact this
  have hfin : K (a.put o.dst (.bool j.isNone)) E4.w := by
    rw [hd]
    obtain ⟨β5, hr5⟩ := hrel4.weak hw5
    exact hK' _ _ (hils E4 β5 _ hr5)
  cases e with
  | normal => cases hj; exact ⟨_, _, hend, hfin⟩
  | ret => cases hj; exact ⟨_, _, hend, hfin⟩
  | exit i => cases hj; exact ⟨_, _, hend, hfin⟩
  | goto i => cases hj
  | panic c => cases hj
  | outgrown => cases hj

theorem run_retD {E : Env} {β : Names} {S : St} {a : Act} {rs : List D} {fn : Func} (hr : Rel O N S E β a) (hres : ResVs P S fn.results.toList rs) : ∃ v, (results fn a.tmps).run P E.w = .ok v E.w ∧ Rd E β v (retD rs) := by
  obtain ⟨vs', h1, h2⟩ := run_results (P := P) hr hres
  have hrun : (results fn a.tmps).run P E.w = .ok (if h : vs'.toArray.size = 1 then vs'.toArray[0] else .tuple vs'.toArray) E.w := by
    have hF : results fn a.tmps = (fn.results.mapM (resF a.tmps)) >>= fun vs => pure (if h : vs.size = 1 then vs[0] else .tuple vs) := by
      unfold results
      congr 2
    rw [hF, ← Array.toArray_toList (xs := fn.results), List.mapM_toArray]
    simp only [Sem.run_bind, Sem.run_map, h1, Result.andThen_ok, Sem.run_pure]
  refine ⟨_, hrun, ?_⟩
  cases h2 with
  | nil => simpa [retD] using Rd.tuple (E := E) β [] [] (.nil _)
  | cons h5 h6 =>
    cases h6 with
    | nil => simpa [retD] using h5
    | cons h7 h8 =>
      simp only [retD, List.size_toArray, List.length_cons]
      rw [dif_neg (by omega)]
      exact .tuple _ _ _ (.cons h5 (.cons h7 h8))
@[reducible] def inlQ (P : Program) (O : Origin) (N t k2 : Nat) (fn : Func) (ops : Array Oper) (l : List Oper) (Q : Exit → St → Prop) (e : Exit) (S' : St) : Prop :=
  (e = .normal ∨ e = .ret) ∧ ∃ iK dk rs, ResVs P S' fn.results.toList rs ∧ S'.ent iK = .kept k2 dk ∧ freeX k2 [iK] S'.H = true ∧
    ∃ S2 ρ, Weak ⟨(t, retD rs) :: (List.range N).zip dk, (iK, .none) :: S'.H⟩ S2 ρ ∧ ILS P O N ops l S2 Q
/-- A call that is walked at once. -/
theorem ils_inl {ops : Array Oper} {o : Oper} {l : List Oper} {xs : List Operand} {ts : Array TypeId} {f : FuncId} {fn : Func} {c : Code} {t : Nat} {ds : List D} (k2 idK : Nat) (hg : quiet o = true)
    (ho : o.op = .call { callee := .value (.func f), args := xs.toArray, argTypes := ts }) (hd : o.dst = some t) (ht : t < N) (hc : Callable P f) (hf : P.funcs[f]? = some fn) (hb : fn.body = some c) (hxs : SVs S xs ds) {N' : Nat} (hn : fn.ntmps = N') (hN : ds.length ≤ N')
    (hfr : freeX k2 [] S.H = true) (hO : O.Plain)
    (h : ∀ O', O'.round = none → IWP P O' N' c ⟨(List.range ds.length).zip ds, (idK, .kept k2 (allD N S)) :: S.H⟩ (inlQ P O N t k2 fn ops l Q)) : ILS P O N ops (o :: l) S Q := by
  subst hn
  obtain ⟨Ow, OX, Of, Og, Or, Okv, Olv, Odv, Olc⟩ := O
  obtain ⟨hro, hfoot, hdv⟩ := hO
  simp only at hro hfoot hdv
  subst hro
  intro E β a hr
  obtain ⟨bs, hbs, hnd, hall⟩ := hr.nd
  refine wpListIn_plain (quiet_iff hg).1 fun K hK' => wp_in _ (quiet_iff hg).2 ?_
  have hrun : (execOp a.eval o).run P E.w = .ok (.enter f (xs.map a.eval).toArray) E.w := by
    simp [execOp, ho, resolve, Deferred.ofValue, Act.eval, invoke, run_callFunc hc]
  unfold Oper.wp
  rw [hrun]
  simp only [Oper.upon, hd]
  let O' : Origin := ⟨Ow, OX, Of, Og, none, fun j => if j = k2 then a.tmps.toList else Okv j, Olv, fun j => if j = k2 then bs else Odv j, Olc⟩
  have hcomp : ∀ e, noK k2 e = true → compat ⟨Ow, OX, Of, Og, none, Okv, Olv, Odv, Olc⟩ O' e ∧ compat O' ⟨Ow, OX, Of, Og, none, Okv, Olv, Odv, Olc⟩ e := fun e he => by
    cases e with
    | kept j ds => have : j ≠ k2 := by simpa [noK] using he
                   simp [compat, O', this]
    | loop j => simp [compat, O']
    | _ => exact ⟨trivial, trivial⟩
  have h0 : HOk O' E β (entL S.H) := hr.h.swap ⟨rfl, rfl, rfl, rfl⟩ fun id => .inl ⟨rfl, (hcomp _ (freeX_ent hfr (by simp))).1⟩
  have h1 : HOk O' E β (entL ((idK, .kept k2 (allD N S)) :: S.H)) := h0.addK (by simpa [O'] using rel_allD hr) fun c hc => (hall c (by simpa [O'] using hc)).2
  have hargs := hxs.rd hr
  have hlen := hargs.length
  have hrel : Rel O' fn.ntmps ⟨(List.range ds.length).zip ds, (idK, .kept k2 (allD N S)) :: S.H⟩ E β { tmps := (xs.map a.eval).toArray ++ Array.replicate (fn.ntmps - (xs.map a.eval).toArray.size) undef, defers := [] } := by
    refine ⟨by simp at hlen ⊢; omega, Marks.nil, h1, fun s => ?_⟩
    have := rdl_slots hargs (fn.ntmps - (xs.map a.eval).toArray.size) s
    show Rd E β _ (look _ _ _)
    simpa using this
  refine calls_of_iwp (E := E) (O := O') hf hb rfl hfoot hrel (h O' rfl) ?_
  rintro e S2 E2 β2 a2 hr2 ⟨he, iK, dk, rs, hres, hentK, hfree, S5, ρ5, hw5, hils⟩
  refine ⟨he, ?_⟩
  obtain ⟨v, hv, hrd⟩ := run_retD hr2 hres
  have hkept := hr2.h.ent iK
  rw [hentK] at hkept
  obtain ⟨k1, k2'⟩ := hkept
  have hkv : O'.kv k2 = a.tmps.toList := by simp [O']
  have hdk : O'.dv k2 = bs := by simp [O']
  rw [hkv] at k1; rw [hdk] at k2'
  have hdk3 : dk.length = N := by rw [← k1.length]; simpa using hr.n
  suffices hrel5 : Rel ⟨Ow, OX, Of, Og, none, Okv, Olv, Odv, Olc⟩ N ⟨(t, retD rs) :: (List.range N).zip dk, (iK, .none) :: S2.H⟩ E2 β2 (a.put (some t) v) by
    obtain ⟨β5, hr5⟩ := hrel5.weak hw5
    exact ⟨v, hv, hK' _ _ (hils E2 β5 _ hr5)⟩
  refine Rel.set (S := ⟨(List.range N).zip dk, (iK, .none) :: S2.H⟩) ⟨hr.n, ⟨bs, hbs, hnd, fun c hc => ⟨(hall c hc).1, k2' c hc⟩⟩, ?_, fun s => ?_⟩ ht hrd
  · refine HOk.swap (O := O') (H := entL S2.H) hr2.h ⟨rfl, rfl, rfl, rfl⟩ fun id => ?_
    by_cases h5 : iK = id
    · right; show look _ _ _ = _; rw [look_cons, if_pos h5]
    · left
      refine ⟨by show look _ _ _ = look _ _ _; rw [look_cons, if_neg h5], (hcomp _ ?_).2⟩
      exact freeX_ent hfree (by simp; exact Ne.symm h5)
  · have := rdl_slots0 k1 s
    rw [hdk3] at this
    exact this
end
end Go.IL
namespace Go.IL

/-! Floats of 64 bits: all that are no numbers are one. -/
section
variable {P : Program} {O : Origin} {N : Nat} {S S' : St} {o : Oper} {t : Nat}
end
/-! Functions without a body: their bits. -/
def ExternAt (P : Program) (f : FuncId) (g : Array Value → Sem Value) : Prop := ∃ fn, P.funcs[f]? = some fn ∧ (fn.name == "runtime.NumGoroutine") = false ∧ fn.body.isNone = true ∧ Extern.findNext fn = none ∧ Extern.find fn = some g
section
variable {P : Program} {O : Origin} {N : Nat} {S S' : St} {o : Oper} {t : Nat}
theorem iop_extern {f : FuncId} {g : Array Value → Sem Value} {xs : List Operand} {ts : Array TypeId} {ds : List D} {d : D} (ho : o.op = .call { callee := .value (.func f), args := xs.toArray, argTypes := ts }) (hd : o.dst = some t) (ht : t < N)
    (hc : ExternAt P f g) (hx : SVs S xs ds) (hg : ∀ (E : Env) β vs, RdL E β vs ds → ∃ v, (g vs.toArray).run P E.w = .ok v E.w ∧ Rd E β v d) : IOp P O N o S (S.set t d) :=
  iop_of hd ht fun E β a hr => by
    obtain ⟨fn, h1, h2, h3, h4, h5⟩ := hc
    obtain ⟨v, hv, hrd⟩ := hg E β _ (hx.rd hr)
    exact ⟨v, by simp [execOp, ho, resolve, Deferred.ofValue, Act.eval, invoke, run_callFunc_extern h1 h2 h3 h4 h5, hv, Result.andThen], hrd⟩
end
section
variable {P : Program} {O : Origin} {N : Nat} {S S' : St} {o : Oper} {t : Nat}
end
/-! Lists that are made, and never written: no name is needed, so they may be made under a guard. -/
section
variable {P : Program} {O : Origin} {N : Nat} {S S' : St} {o : Oper} {t : Nat}
end
end Go.IL
open Go.RowKit
namespace Go.IL
/-! Arrays at a place that is known only by its number. -/
def At (cs : List D) (size sz : Nat) : Nat → List (List D) → Prop
  | _, [] => True
  | off, c :: L => (cs.drop off).take size = c ∧ At cs size sz (off + sz) L
theorem At.get {cs : List D} {size sz : Nat} : ∀ {L : List (List D)} {off i : Nat} {c : List D}, At cs size sz off L → L[i]? = some c → (cs.drop (off + i * sz)).take size = c
  | [], _, _, _, _, h => by simp at h
  | x :: L, off, 0, c, h, hi => by
    simp only [List.getElem?_cons_zero, Option.some.injEq] at hi
    subst hi; rw [Nat.zero_mul, Nat.add_zero]; exact h.1
  | x :: L, off, i + 1, c, h, hi => by
    simp only [List.getElem?_cons_succ] at hi
    have := At.get h.2 hi
    rw [← this]; congr 2; rw [Nat.add_mul, Nat.one_mul]; omega
def AllTo : Nat → (Nat → Prop) → Prop
  | 0, _ => True
  | n + 1, p => AllTo n p ∧ p n
theorem AllTo.get : ∀ {n : Nat} {p : Nat → Prop}, AllTo n p → ∀ j, j < n → p j
  | 0, _, _, _, h => by omega
  | n + 1, p, h, j, hj => by
    by_cases e : j = n
    · subst e; exact h.2
    · exact AllTo.get h.1 j (by omega)
theorem take_drop_cons {ds : List D} {off : Nat} {d : D} (h : (ds.drop off).take 1 = [d]) : ds.drop off = d :: ds.drop (off + 1) := by
  cases hd : ds.drop off with
  | nil => rw [hd] at h; cases h
  | cons x r =>
    rw [hd] at h
    simp only [List.take_succ_cons, List.take_zero, List.cons.injEq, and_true] at h
    subst h
    have : ds.drop (off + 1) = r := by rw [← List.drop_drop, hd]; rfl
    rw [this]
section
variable {P : Program} {O : Origin} {N : Nat} {S S' : St} {o : Oper} {t : Nat}
/-- A place of a small array: its number is known to lie within. -/
theorem iop_index_sel {T e : TypeId} {len : Nat} {x y : Operand} {k : IntKind} {n : Int} {z : Option Value} {size bytes : Nat} {id b : Nat} (ho : o.op = .indexAddr T x y) (hd : o.dst = some t) (ht : t < N)
    (hu : P.underlying T = some (.array len e)) (hi : TI P e z size bytes) (hx : SV S x (.ref id b)) (hy : SV S y (.int k n)) (hn : 0 ≤ n ∧ n < (len : Int)) :
    IOp P O N o S (S.set t (.ref id (b + n.toNat * size + 0))) :=
  iop_index_ref ho hd ht hu hi hx hy hn.1 (by omega) (by omega)
theorem sel_off {b k i sz : Nat} : b + i * sz + k = b + k + i * sz := by omega
theorem iop_load_sel_s {α : Type} (f : Enc α) {T : TypeId} {x : Operand} {u : TypeDesc} {z : Option Value} {bytes : Nat} {id b k sz : Nat} {e : TypeId} {cs : List D} {xs : List α} {a : α} {i : Int} {d : D} (ho : o.op = .load T x) (hd : o.dst = some t) (ht : t < N)
    (hu : P.underlying T = some u) (hg : aggOf P T = false) (hi : TI P T z 1 bytes) (hx : SV S x (.ref id (b + i.toNat * sz + k))) (he : S.ent id = .blk e cs) (hn : gix xs i = some a)
    (hat : At cs 1 sz (b + k) (xs.map fun x => (f.d x).cells)) (hdd : (f.d a).cells = [d]) : IOp P O N o S (S.set t d) := by
  have h1 := hat.get (i := i.toNat) (c := (f.d a).cells) (by rw [List.getElem?_map, (gix_e hn).2]; rfl)
  rw [hdd, ← sel_off] at h1
  have h2 := take_drop_cons h1
  refine iop_load_rs ho hd ht hu hg hi (by decide) hx he ?_ h2
  have h3 := congrArg List.length h2
  simp only [List.length_drop, List.length_cons] at h3; omega
theorem iop_ix_sel_s {α : Type} (f : Enc α) {T e : TypeId} {len : Nat} {x y : Operand} {k : IntKind} {u : TypeDesc} {z : Option Value} {bytes : Nat} {cs : List D} {xs : List α} {a : α} {i : Int} {d : D} (ho : o.op = .index T x y) (hd : o.dst = some t) (ht : t < N)
    (hu : P.underlying T = some (.array len e)) (hue : P.underlying e = some u) (hg : aggOf P e = false) (hi : TI P e z 1 bytes) (hx : SV S x (.agg cs)) (hy : SV S y (.int k i)) (hn : gix xs i = some a) (hlen : xs.length = len)
    (hat : At cs 1 1 0 (xs.map fun x => (f.d x).cells)) (hdd : (f.d a).cells = [d]) : IOp P O N o S (S.set t d) := by
  have h1 := hat.get (i := i.toNat) (c := (f.d a).cells) (by rw [List.getElem?_map, (gix_e hn).2]; rfl)
  rw [hdd, Nat.zero_add] at h1
  have h2 := take_drop_cons h1
  have h4 := (List.getElem?_eq_some_iff.1 (gix_e hn).2).1
  refine iop_index_agg ho hd ht hu hue hi hx hy (gix_e hn).1 (by omega) ?_ (by decide) (by unfold D.load; rw [hg, h2]; rfl)
  have h3 := congrArg List.length h2
  simp only [List.length_drop, List.length_cons] at h3; omega
theorem iop_ix_sel_a {α : Type} (f : Enc α) {T e : TypeId} {len : Nat} {x y : Operand} {k : IntKind} {u : TypeDesc} {z : Option Value} {size bytes : Nat} {cs ds : List D} {xs : List α} {a : α} {i : Int} (ho : o.op = .index T x y) (hd : o.dst = some t) (ht : t < N)
    (hu : P.underlying T = some (.array len e)) (hue : P.underlying e = some u) (hg : aggOf P e = true) (hi : TI P e z size bytes) (h0 : 0 < size) (hx : SV S x (.agg cs)) (hy : SV S y (.int k i)) (hn : gix xs i = some a) (hlen : xs.length = len)
    (hat : At cs size size 0 (xs.map fun x => (f.d x).cells)) (hdd : (f.d a).cells = ds) (hsz : ds.length = size) : IOp P O N o S (S.set t (.agg ds)) := by
  have h1 := hat.get (i := i.toNat) (c := (f.d a).cells) (by rw [List.getElem?_map, (gix_e hn).2]; rfl)
  rw [hdd, Nat.zero_add] at h1
  have h4 := (List.getElem?_eq_some_iff.1 (gix_e hn).2).1
  refine iop_index_agg ho hd ht hu hue hi hx hy (gix_e hn).1 (by omega) ?_ h0 (by simp [D.load, hg, h1])
  have h3 := congrArg List.length h1
  rw [List.length_take, List.length_drop] at h3; omega
theorem iop_store_sel {T : TypeId} {x y : Operand} {z : Option Value} {size bytes : Nat} {id b k sz n : Nat} {e : TypeId} {cs cs' : List D} {d : D} {i : Int} (ho : o.op = .store T x y) (hd : o.dst = none)
    (hi : TI P T z size bytes) (hx : SV S x (.ref id (b + i.toNat * sz + k))) (he : S.ent id = .blk e cs) (hy : SV S y d) (hb : d.boxable = true) (hsz : d.cells.length = size) (h1 : d.cells.all D.one = true)
    (hn : 0 ≤ i ∧ i < (n : Int)) (hlen : Nat.ble (b + (n - 1) * sz + k + size) cs.length = true) (hall : AllTo n fun j => i = (j : Int) → splice cs (b + j * sz + k) d.cells = cs') : IOp P O N o S (S.setE id (.blk e cs')) := by
  have h2 := hall.get i.toNat (by omega) (by omega)
  refine iop_store_ref ho hd hi hx he hy hb hsz h1 ?_ h2
  have h3 := Nat.le_of_ble_eq_true hlen
  have h4 : i.toNat * sz ≤ (n - 1) * sz := Nat.mul_le_mul_right _ (by omega)
  omega
end
end Go.IL
open Go.RowKit (Below)
namespace Go.IL
/-! Views of lists that are owned: their room is known, too. -/
section
variable {P : Program} {O : Origin} {N : Nat} {S S' : St} {o : Oper} {t : Nat} {Q : Exit → St → Prop}
theorem ent_setE_self {S : St} {id t : Nat} {e : Ent} {d : D} : ((S.setE id e).set t d).ent id = e := by simp [St.ent, entL, St.setE, St.set, look_cons]
theorem ent_setE_other {S : St} {id t j : Nat} {e : Ent} {d : D} (h : j ≠ id) : ((S.setE id e).set t d).ent j = S.ent j := by simp [St.ent, entL, St.setE, St.set, look_cons, Ne.symm h]
/-- A block's reading turns, and a slot's; the world does not. -/
theorem Rel.turn {E : Env} {β : Names} {a : Act} (h : Rel O N S E β a) {id b : Nat} {e : TypeId} {ds ds' : List D} {d : D} (he : S.ent id = .blk e ds) (hb : β id = some b)
    (hk : ∀ vs sp, E.w.heap[b]? = some (.cells (List.toArray (vs ++ sp)) e (0, 0)) → RdL E β vs ds → ∃ vs' sp', vs' ++ sp' = vs ++ sp ∧ RdL E β vs' ds') (hd : Rd E β (a.tmps.getD t undef) d) :
    Rel O N ((S.setE id (.blk e ds')).set t d) E β a := by
  have hent := h.h.ent id
  rw [he] at hent
  obtain ⟨vs, sp, h1, h2, h3, h4⟩ := blk_at hent hb
  obtain ⟨vs', sp', h5, h6⟩ := hk vs sp h2 h4
  have held : ∀ j, (((S.setE id (.blk e ds')).set t d).ent j).held = (S.ent j).held := fun j => by
    by_cases hj : j = id
    · subst hj; rw [ent_setE_self, he]; rfl
    · rw [ent_setE_other hj]
  refine ⟨h.n, h.nd, ?_, fun s => ?_⟩
  · refine { h.h with ent := fun j => ?_, inj := fun i j k hi hj => h.h.inj i j k (held i ▸ hi) (held j ▸ hj) }
    by_cases hj : j = id
    · subst hj; rw [ent_setE_self]; exact .inr ⟨b, vs', sp', hb, h1, by rw [h5]; exact h2, h3, h6⟩
    · rw [ent_setE_other hj]; exact h.h.ent j
  · by_cases hst : t = s
    · subst hst; simpa [St.get, St.set, look_cons] using hd
    · have := h.sl s
      simpa [St.get, St.set, St.setE, look_cons, hst] using this
end
end Go.IL
open Go.RowKit (Below)
namespace Go.IL
section
variable {P : Program} {O : Origin} {N : Nat} {S S' : St} {o : Oper} {t : Nat} {Q : Exit → St → Prop}
end
end Go.IL
open Go.RowKit (Below)
namespace Go.IL
/-! What the library makes of lists that are owned. -/
section
variable {α : Type} (f : Enc0 α)
end
end Go.IL
set_option linter.unusedSimpArgs false
set_option linter.unusedVariables false
open Go Go.IL
namespace Go.Fn
/-! Loops over lists, at any functions that are as the library's. -/
theorem gix_at {α : Type} {l p r : List α} {x : α} (h : l = p ++ x :: r) : gix l (p.length : Int) = some x := by
  subst h; rw [gix_nat, List.getElem?_append_right (Nat.le_refl _)]; simp
theorem lt_at {α : Type} {l p r : List α} {x : α} (h : l = p ++ x :: r) : decide ((p.length : Int) < (l.length : Int)) = true := by
  subst h; simp; omega
theorem lt_len {α : Type} {l : List α} : decide ((l.length : Int) < (l.length : Int)) = false := by simp
theorem w_at {α : Type} {l p r : List α} {x : α} (h : l = p ++ x :: r) (hl : l.length ≤ 1000000) : IntKind.wrap .i64 ((p.length : Int) + 1) = ((p ++ [x]).length : Int) := by
  subst h; simp only [List.length_append, List.length_cons, List.length_nil] at hl ⊢; rw [w64 (by omega) (by omega)]; omega
theorem next_at {α : Type} {l p r : List α} {x : α} (h : l = p ++ x :: r) : l = (p ++ [x]) ++ r := by rw [h]; simp
theorem ft : (false == true) = false := rfl
theorem cut_at {α : Type} {l p r : List α} (h : l = p ++ r) : cut l 0 (p.length : Int) = some p := by
  subst h; unfold cut; rw [if_pos (by simp; omega)]; simp
theorem cut_from {α : Type} {l p r : List α} (h : l = p ++ r) : cut l (p.length : Int) (l.length : Int) = some r := by
  subst h; unfold cut; rw [if_pos (by simp; omega), Int.toNat_natCast, Int.toNat_natCast, List.take_length, List.drop_left]
end Go.Fn
open Go.RowKit (Below)
namespace Go.IL
/-! Lists that are owned and cut off. -/
section
variable {P : Program} {O : Origin} {N : Nat} {S S' : St} {o : Oper} {t : Nat} {Q : Exit → St → Prop}
theorem Rel.same {E : Env} {β : Names} {a : Act} (h : Rel O N S E β a) (h1 : ∀ s, S'.get s = S.get s) (h2 : ∀ j, S'.ent j = S.ent j) : Rel O N S' E β a := by
  have h3 : S'.ent = S.ent := funext h2
  exact ⟨h.n, h.nd, h3 ▸ h.h, fun s => (h1 s).symm ▸ h.sl s⟩
theorem ent_setE {S : St} {id : Nat} {e : Ent} : (S.setE id e).ent id = e := by simp [St.ent, entL, St.setE, look_cons]
theorem ent_setE_ne {S : St} {id j : Nat} {e : Ent} (h : j ≠ id) : (S.setE id e).ent j = S.ent j := by simp [St.ent, entL, St.setE, look_cons, Ne.symm h]
/-- A block is told by less than it has. -/
theorem Rel.shrunk {E : Env} {β : Names} {a : Act} (h : Rel O N S E β a) {id : Nat} {e : TypeId} {ds ds' j : List D} (he : S.ent id = .blk e ds) (hd : ds = ds' ++ j) : Rel O N (S.setE id (.blk e ds')) E β a := by
  subst hd
  have hent := h.h.ent id
  rw [he] at hent
  have held : ∀ j, ((S.setE id (.blk e ds')).ent j).held = (S.ent j).held := fun j => by
    by_cases hj : j = id
    · subst hj; rw [ent_setE, he]; rfl
    · rw [ent_setE_ne hj]
  refine ⟨h.n, h.nd, { h.h with ent := fun k => ?_, inj := fun i j k hi hj => h.h.inj i j k (held i ▸ hi) (held j ▸ hj) }, h.sl⟩
  by_cases hk : k = id
  · subst hk
    rw [ent_setE]
    rcases hent with ⟨h1, h2⟩ | ⟨b, vs, sp, h1, h2, h3, h4, h5⟩
    · exact .inl ⟨h1, (List.append_eq_nil_iff.1 h2).1⟩
    · refine .inr ⟨b, vs.take ds'.length, vs.drop ds'.length ++ sp, h1, h2, by rw [← List.append_assoc, List.take_append_drop]; exact h3, h4, ?_⟩
      have := h5.take ds'.length
      rwa [List.take_append_of_le_length (Nat.le_refl _), List.take_length] at this
  · rw [ent_setE_ne hk]; exact h.h.ent k
theorem flat_split {α : Type} (f : Enc0 α) (l : List α) (k : Nat) : D.flat (l.map f.d) = D.flat ((l.take k).map f.d) ++ D.flat ((l.drop k).map f.d) := by
  rw [f.flat_append, List.take_append_drop]
/-- 's[:i]' of a list that is owned. -/
theorem iop_truncO {α : Type} (f : Enc0 α) {T e e' : TypeId} {x y : Operand} {z : Option Value} {bytes id n : Nat} {l r : List α} {k : IntKind} {h : Int} (ho : o.op = .slice T x none (some y) none) (hd : o.dst = some t) (ht : t < N)
    (hu : P.underlying T = some (.slice e)) (hi : TI P e z f.sz bytes) (hx : SV S x (.osl id f.sz n)) (he : S.ent id = .blk e' (D.flat (l.map f.d))) (hn : l.length ≤ n) (hy : SV S y (.int k h)) (hc : cut l 0 h = some r) :
    IOp P O N o S ((S.setE id (.blk e' (D.flat (r.map f.d)))).set t (.osl id f.sz r.length)) := by
  obtain ⟨⟨_, h0, h1⟩, hr'⟩ := cut_e hc
  have hr2 : l.take h.toNat = r := by simpa using hr'
  have hrl : r.length = h.toNat := by rw [← hr2, List.length_take]; omega
  have key : IOp P O N o S (S.set t (.osl id f.sz r.length)) := iop_of hd ht fun E β a hr => by
    have hhi : Bound S (n : Int) (some y) h := ⟨_, hy⟩
    have hlo : Bound S 0 none 0 := rfl
    have h1 := hx.rd hr
    generalize hv : a.eval x = v at h1
    cases h1 with
    | nosl =>
      have hb := run_bounds (P := P) hr (isS := true) hlo hhi (Int.le_refl 0) h0 (by omega) (Nat.le_refl _)
      have e1 : h.toNat = 0 := by omega
      refine ⟨.slice none 0 0, ?_, by rw [hrl, e1]; exact .nosl _ _ _⟩
      simp only [Option.map_none, Option.map_some] at hb
      simp [execOp, ho, hv, Instr.sliceAt, Instr.slice, run_underlying hu, hb, hi.run_size, e1]
    | osl _ _ b _ cap _ hb' hc' hsz c e2 f2 hcap hcs hcm =>
      have hb := run_bounds (P := P) hr (isS := true) hlo hhi (Int.le_refl 0) h0 (by omega) hc'
      simp only [Option.map_none, Option.map_some] at hb
      refine ⟨.slice (some ⟨b, 0, none⟩) h.toNat cap, ?_, by rw [hrl]; exact .osl _ _ b _ cap _ hb' (by omega) hsz c e2 f2 hcap hcs hcm⟩
      simp [execOp, ho, hv, Instr.sliceAt, Instr.slice, run_underlying hu, hb, hi.run_size, Addr.add]
  intro E β a hr next Q hn'
  refine key E β a hr next Q fun E' β' a' hr' => hn' E' β' a' ?_
  exact hr'.shrunk (ds' := D.flat (r.map f.d)) (j := D.flat ((l.drop h.toNat).map f.d)) he (by rw [← hr2]; exact flat_split f l _)
end
end Go.IL
open Go.RowKit (Below)
namespace Go.IL
/-! Calls that are handed memory, in any order with others. -/
section
variable {P : Program} {O : Origin} {N : Nat} {S S' : St} {o : Oper} {t : Nat} {Q : Exit → St → Prop}
structure HandM (S : St) (k : Nat) (A : List Nat) (H0 : List (Nat × Ent)) : Prop where
  nd : A.Nodup
  cov : A.all (fun i => (H0.map fun x => sig k A x.1).contains i) = true
  ents : ∀ x ∈ H0, givenB A x.1 = true ∧ x.2.held = true ∧ S.ent (sig k A x.1) = x.2.ren (sig k A) ∧ x.2.refsIn (givenB A) = true
end
end Go.IL
namespace Go.IL
section
variable {P : Program} {O : Origin} {N : Nat} {S S' : St} {o : Oper} {t : Nat} {Q : Exit → St → Prop}

/-! Comparison of structs and arrays, nested ones too. -/
def partD (P : Program) (T : TypeId) (ds : List D) (off : Nat) : Option D :=
  match P.underlying T, P.info? T with
  | some _, some i => if off + i.size ≤ ds.length ∧ 0 < i.size then some (D.load (aggOf P T) i.size (ds.drop off)) else none
  | _, _ => none
theorem run_partD {T : TypeId} {cs : List D} {off : Nat} {d : D} {E : Env} {β : Names} {vs : List Value} (hp : partD P T cs off = some d) (h : RdL E β vs cs) (w : World) : ∃ v, (part T vs.toArray off).run P w = .ok v w ∧ Rd E β v d := by
  unfold partD at hp
  split at hp
  · rename_i u i hu hi
    split at hp
    · rename_i hc
      cases hp
      exact run_part hu (z := i.zero) (size := i.size) (bytes := i.bytes) (by simp [TI, hi]) h hc.1 hc.2 w
    · cases hp
  · cases hp
def eqTF (P : Program) (cmp : TypeId → D → D → Option Bool) (ds es : List D) : List Field → Option Bool
  | [] => some true
  | f :: fs =>
    if f.name = "_" then none else
    match partD P f.type ds f.offset, partD P f.type es f.offset with
    | some d, some e => match cmp f.type d e with
      | some b => (eqTF P cmp ds es fs).map (b && ·)
      | none => none
    | _, _ => none
def eqTA (P : Program) (cmp : D → D → Option Bool) (el : TypeId) (sz : Nat) (ds es : List D) : Nat → Nat → Option Bool
  | 0, _ => some true
  | m + 1, i =>
    match partD P el ds (i * sz), partD P el es (i * sz) with
    | some d, some e => match cmp d e with
      | some b => (eqTA P cmp el sz ds es m (i + 1)).map (b && ·)
      | none => none
    | _, _ => none
def eqT (P : Program) : Nat → TypeId → D → D → Option Bool
  | 0, _, _, _ => none
  | k + 1, t, d, e =>
    match P.underlying t, d, e with
    | some (.struct fs), .agg ds, .agg es => if P.stoodInHeld t then none else eqTF P (eqT P k) ds es fs.toList
    | some (.array n el), .agg ds, .agg es => match P.info? el with
      | some i => eqTA P (eqT P k el) el i.size ds es n 0
      | none => none
    | u, d, e => eqCell u d e
theorem run_eqTF {w : World} {E : Env} {β β' : Names} {cmp : TypeId → D → D → Option Bool} {m : Nat} (hc : ∀ {t d e b x y}, cmp t d e = some b → Rd E β x d → Rd E β' y e → (Op.equalIn m t x y).run P w = .ok b w)
    {xs ys : List Value} {ds es : List D} (hx : RdL E β xs ds) (hy : RdL E β' ys es) : ∀ (fs : List Field) {b : Bool}, eqTF P cmp ds es fs = some b → (Op.eqFields m xs.toArray ys.toArray fs).run P w = .ok b w
  | [], b, h => by simp only [eqTF, Option.some.injEq] at h; subst h; simp [Op.eqFields]
  | f :: fs, b, h => by
    unfold eqTF at h
    split at h
    · cases h
    · rename_i hn
      split at h
      · rename_i d e hd he
        split at h
        · rename_i b1 hb1
          simp only [Option.map_eq_some_iff] at h
          obtain ⟨b2, h2, rfl⟩ := h
          obtain ⟨v1, p1, r1⟩ := run_partD hd hx w
          obtain ⟨v2, p2, r2⟩ := run_partD he hy w
          have g1 := hc hb1 r1 r2
          have ih := run_eqTF hc hx hy fs h2
          simp only [Op.eqFields, hn, ne_eq, not_false_eq_true, if_true, Sem.run_bind, p1, p2, g1, Result.andThen_ok]
          cases b1
          · simp
          · simpa using ih
        · cases h
      · cases h
def eqElems (m : Nat) (el : TypeId) (sz : Nat) (xs ys : Array Value) : List Nat → Sem Bool
  | [] => pure true
  | i :: is => do
      let a ← part el xs (i * sz)
      let b ← part el ys (i * sz)
      let r ← Op.equalIn m el a b
      if (!r) = true then pure false else eqElems m el sz xs ys is
theorem run_eqTA {w : World} {E : Env} {β β' : Names} {cmp : D → D → Option Bool} {m : Nat} {el : TypeId} {sz : Nat} (hc : ∀ {d e b x y}, cmp d e = some b → Rd E β x d → Rd E β' y e → (Op.equalIn m el x y).run P w = .ok b w)
    {xs ys : List Value} {ds es : List D} (hx : RdL E β xs ds) (hy : RdL E β' ys es) : ∀ (n i : Nat) {b : Bool}, eqTA P cmp el sz ds es n i = some b → (eqElems m el sz xs.toArray ys.toArray (List.range' i n)).run P w = .ok b w
  | 0, i, b, h => by simp only [eqTA, Option.some.injEq] at h; subst h; simp [eqElems]
  | n + 1, i, b, h => by
    unfold eqTA at h
    split at h
    · rename_i d e hd he
      split at h
      · rename_i b1 hb1
        simp only [Option.map_eq_some_iff] at h
        obtain ⟨b2, h2, rfl⟩ := h
        obtain ⟨v1, p1, r1⟩ := run_partD hd hx w
        obtain ⟨v2, p2, r2⟩ := run_partD he hy w
        have g1 := hc hb1 r1 r2
        have ih := run_eqTA hc hx hy n (i + 1) h2
        rw [List.range'_succ]
        simp only [eqElems, Sem.run_bind, p1, p2, g1, Result.andThen_ok]
        cases b1
        · simp
        · simpa using ih
      · cases h
    · cases h
theorem run_equalIn_arr (w : World) (d : Nat) (t el : TypeId) (n : Nat) (xs ys : Array Value) {i : TypeInfo} (ht : P.underlying t = some (.array n el)) (hi : P.info? el = some i) :
    (Op.equalIn (d + 1) t (.agg xs) (.agg ys)).run P w = (eqElems d el i.size xs ys (List.range' 0 n)).run P w := by
  have hsz : ∀ w, (sizeOf el).run P w = .ok i.size w := fun w => TI.run_size (z := i.zero) (bytes := i.bytes) (by simp [TI, hi]) w
  simp only [Op.equalIn, Sem.run_bind, run_underlying ht, Result.andThen_ok, hsz, Std.Legacy.Range.forIn_eq_forIn_range', Std.Legacy.Range.size, Nat.sub_zero, Nat.add_sub_cancel, Nat.div_one]
  generalize List.range' 0 n = l
  clear ht
  induction l generalizing w with
  | nil => simp [eqElems]
  | cons j l ih =>
    simp only [List.forIn_cons, eqElems, Sem.run_bind, Sem.run_ite]
    generalize (part el xs (j * i.size)).run P w = r1
    cases r1 with
    | ok a w1 =>
      simp only [Result.andThen_ok]
      generalize (part el ys (j * i.size)).run P w1 = r2
      cases r2 with
      | ok b w2 =>
        simp only [Result.andThen_ok]
        generalize (Op.equalIn d el a b).run P w2 = r3
        cases r3 with
        | ok r w3 =>
          cases r
          · simp only [Result.andThen_ok, Bool.not_false, if_true, Sem.run_pure]
          · simp only [Result.andThen_ok, Bool.not_true, Bool.false_eq_true, if_false, Sem.run_pure]
            exact ih w3
        | halt x w3 => simp [Result.andThen]
      | halt x w2 => simp [Result.andThen]
    | halt x w1 => simp [Result.andThen]
theorem run_eqT {w : World} {E : Env} {β β' : Names} (n : Nat) : ∀ (k : Nat) {t : TypeId} {d e : D} {b : Bool} {x y : Value}, eqT P k t d e = some b → Rd E β x d → Rd E β' y e → (Op.equalIn (n + k) t x y).run P w = .ok b w
  | 0, t, d, e, b, x, y, h, _, _ => by cases h
  | k + 1, t, d, e, b, x, y, h, hx, hy => by
    unfold eqT at h
    split at h
    · rename_i fs ds es hu
      split at h
      · cases h
      · rename_i hs
        cases hx with
        | agg _ vs1 _ r1 => cases hy with
          | agg _ vs2 _ r2 =>
            have hf : P.fieldsOf t = fs := by simp [Program.fieldsOf, hu]
            have h3 := run_equalIn_struct (P := P) w (n + k) t vs1.toArray vs2.toArray (by rw [hf]; exact hu) (by simpa using hs)
            rw [hf, run_eqTF (fun h a b => run_eqT n k h a b) r1 r2 fs.toList h] at h3
            exact h3
    · rename_i m el ds es hu
      split at h
      · rename_i i hi
        cases hx with
        | agg _ vs1 _ r1 => cases hy with
          | agg _ vs2 _ r2 =>
            have h3 := run_equalIn_arr (P := P) w (n + k) t el m vs1.toArray vs2.toArray hu hi
            rw [run_eqTA (fun h a b => run_eqT n k h a b) r1 r2 m 0 h] at h3
            exact h3
      · cases h
    · exact (run_eqCell (n + k) h hx hy).1
theorem iop_eqt {xt yt : TypeId} {x y : Operand} {ds es : List D} {b : Bool} (ho : o.op = .binOp .eql xt x y yt) (hd : o.dst = some t) (ht : t < N)
    (hg : P.eqGuardType P.depth xt = false) (hx : SV S x (.agg ds)) (hy : SV S y (.agg es)) (hb : eqT P 9 xt (.agg ds) (.agg es) = some b) : IOp P O N o S (S.set t (.bool b)) :=
  iop_of hd ht fun E β a hr => by
    have h1 := hx.rd hr
    have h2 := hy.rd hr
    have h3 := run_eqT (P := P) (w := E.w) 9991 9 hb h1 h2
    generalize hv1 : a.eval x = v1 at h1 h3
    generalize hv2 : a.eval y = v2 at h2 h3
    cases h1 with
    | agg _ vs1 _ r1 => cases h2 with
      | agg _ vs2 _ r2 =>
        have h4 : (Op.equal xt (.agg vs1.toArray) (.agg vs2.toArray)).run P E.w = .ok b E.w := h3
        exact ⟨.bool b, by simp [execOp, ho, hv1, hv2, eqGuard, hg, binOp, h4], .bool _ _⟩
theorem iop_net {xt yt : TypeId} {x y : Operand} {ds es : List D} {b : Bool} (ho : o.op = .binOp .neq xt x y yt) (hd : o.dst = some t) (ht : t < N)
    (hg : P.eqGuardType P.depth xt = false) (hx : SV S x (.agg ds)) (hy : SV S y (.agg es)) (hb : eqT P 9 xt (.agg ds) (.agg es) = some b) : IOp P O N o S (S.set t (.bool !b)) :=
  iop_of hd ht fun E β a hr => by
    have h1 := hx.rd hr
    have h2 := hy.rd hr
    have h3 := run_eqT (P := P) (w := E.w) 9991 9 hb h1 h2
    generalize hv1 : a.eval x = v1 at h1 h3
    generalize hv2 : a.eval y = v2 at h2 h3
    cases h1 with
    | agg _ vs1 _ r1 => cases h2 with
      | agg _ vs2 _ r2 =>
        have h4 : (Op.equal xt (.agg vs1.toArray) (.agg vs2.toArray)).run P E.w = .ok b E.w := h3
        exact ⟨.bool !b, by simp [execOp, ho, hv1, hv2, eqGuard, hg, binOp, h4], .bool _ _⟩
end
end Go.IL
open Go.RowKit (Below)
namespace Go.IL
section
variable {P : Program} {O : Origin} {N : Nat} {S S' : St} {o : Oper} {t : Nat} {Q : Exit → St → Prop}
/-- An operation under a guard: where it is wanted, as if there were none. -/
theorem ils_gsplit {ops : Array Oper} {o : Oper} {l : List Oper} {j tj t : Nat} {want g : Bool} (hg : o.guard = some (j, want)) (hj : (ops[j]?).bind (·.dst) = some tj)
    (hb : Grd S tj want g) (hd : (o.dst, noDefer o.op) = (some t, true)) (ht : t < N) (h1 : g = true → ILS P O N ops ({ o with guard := none } :: l) S Q) (h2 : g = false → ILS P O N ops l (S.set t (.cnd g (.bool false))) Q) : ILS P O N ops (o :: l) S Q := by
  obtain ⟨hd, hnd⟩ := Prod.mk.inj hd
  intro E β a hr
  have hwant := hb.yields hr hj hg
  unfold wpListIn
  rw [hwant]
  cases g with
  | true =>
    simp only [if_true]
    have h3 := h1 rfl E β a hr
    have h4 : Oper.wpIn (fen O.round) 0 P { o with guard := none } a E.w (wpListIn (fen O.round) 0 P ops (fun e a' w' => ∃ S' E' β', E'.w = w' ∧ Rel O N S' E' β' a' ∧ Q e S') l) (fun e a' w' => ∃ S' E' β', E'.w = w' ∧ Rel O N S' E' β' a' ∧ Q e S') := by
      unfold wpListIn at h3
      simp only [Region.wanted, if_true] at h3
      exact h3
    have h5 : Oper.wpIn (fen O.round) 0 P o a E.w (wpListIn (fen O.round) 0 P ops (fun e a' w' => ∃ S' E' β', E'.w = w' ∧ Rel O N S' E' β' a' ∧ Q e S') l) (fun e a' w' => ∃ S' E' β', E'.w = w' ∧ Rel O N S' E' β' a' ∧ Q e S') := h4
    exact h5
  | false =>
    simp only [Bool.false_eq_true, if_false, hd]
    exact ⟨fun _ _ => trivial, (h2 rfl E β _ (hr.set ht (.cnd _ _ _ _ (fun h => by cases h) fun _ => rfl)))⟩
theorem Rel.uncnd {E : Env} {β : Names} {a : Act} (h : Rel O N S E β a) {t : Nat} {g : Bool} {d : D} (hS : S.get t = .cnd g d) (hg : g = true) : Rel O N (S.set t d) E β a := by
  refine ⟨h.n, h.nd, h.h, fun s => ?_⟩
  by_cases hs : t = s
  · subst hs
    have := h.sl t
    rw [hS] at this
    have e : (S.set t d).get t = d := by simp [St.get, St.set, look_cons]
    rw [e]
    generalize a.tmps.getD t undef = v at this ⊢
    cases this with
    | cnd _ _ _ _ k _ => exact k hg
  · have e : (S.set t d).get s = S.get s := by simp [St.get, St.set, look_cons, hs]
    rw [e]; exact h.sl s
/-- What is known to be there is taken as such. -/
theorem ils_uncnd {ops : Array Oper} {l : List Oper} (t : Nat) {g : Bool} {d : D} (hS : S.get t = .cnd g d) (hg : g = true) (k : ILS P O N ops l (S.set t d) Q) : ILS P O N ops l S Q :=
  fun E β a hr => k E β a (hr.uncnd hS hg)
end
end Go.IL
namespace Go.IL
/-! Functions on texts that have no body: the count of a byte, its first place. -/
def cntB (s : List UInt8) (c : Int) : Int := (Lib.countByte s c.toNat.toUInt8 : Int)
def idxB (s : List UInt8) (c : Int) : Int := Lib.indexByte s c.toNat.toUInt8
/-- A number's decimal digits. -/
def decF : Nat → Nat → List UInt8
  | 0, u => [UInt8.ofNat (48 + u)]
  | k + 1, u => bif decide (u < 10) then [UInt8.ofNat (48 + u)] else decF k (u / 10) ++ [UInt8.ofNat (48 + u % 10)]
theorem decF_eq : ∀ (k u : Nat), u < 10 ^ (k + 1) → decF k u = Lib.decDigits u
  | 0, u, h => by
    have h : u < 10 := by simpa using h
    rw [Lib.decDigits, dif_pos h]; rfl
  | k + 1, u, h => by
    rw [Lib.decDigits]
    by_cases h1 : u < 10
    · rw [dif_pos h1, decF, decide_eq_true h1]; rfl
    · rw [dif_neg h1, decF, decide_eq_false h1, ← decF_eq k (u / 10) (by
        have : 10 ^ (k + 1 + 1) = 10 ^ (k + 1) * 10 := Nat.pow_succ ..
        omega)]; rfl
def itoaF (n : Int) : List UInt8 := bif decide (n < 0) then 45 :: decF 19 n.natAbs else decF 19 n.toNat
def itoaS (n : Int) : Option (List UInt8) := bif decide (-9223372036854775808 ≤ n) && decide (n ≤ 9223372036854775807) then some (itoaF n) else none
theorem itoaF_eq {n : Int} (h : -9223372036854775808 ≤ n ∧ n ≤ 9223372036854775807) : itoaF n = Lib.itoa n := by
  have hp : 10 ^ (19 + 1) = 100000000000000000000 := by decide
  unfold itoaF Lib.itoa
  by_cases h1 : n < 0
  · rw [if_pos h1, decide_eq_true h1, ← decF_eq 19 n.natAbs (by rw [hp]; omega)]; rfl
  · rw [if_neg h1, decide_eq_false h1, ← decF_eq 19 n.toNat (by rw [hp]; omega)]; rfl
theorem itoaS_e {n : Int} {r : List UInt8} (h : itoaS n = some r) : (-9223372036854775808 ≤ n ∧ n ≤ 9223372036854775807) ∧ Lib.itoa n = r := by
  unfold itoaS at h
  cases hb : (decide (-9223372036854775808 ≤ n) && decide (n ≤ 9223372036854775807)) with
  | true =>
    rw [hb] at h
    rw [Bool.and_eq_true, decide_eq_true_iff, decide_eq_true_iff] at hb
    exact ⟨hb, (itoaF_eq hb).symm.trans (Option.some.inj h)⟩
  | false => rw [hb] at h; cases h
section
variable {P : Program} {O : Origin} {N : Nat} {S S' : St} {o : Oper} {t : Nat}
theorem rd_str' {E : Env} {β : Names} {v : Value} {l : List UInt8} (h : Rd E β v (.str l)) : v = .string (bs l) := by cases h; rfl
theorem iop_cntB {f : FuncId} {x y : Operand} {ts : Array TypeId} {l : List UInt8} {c r : Int} (ho : o.op = .call { callee := .value (.func f), args := #[x, y], argTypes := ts }) (hd : o.dst = some t) (ht : t < N)
    (hc : ExternAt P f Extern.BytealgCount.count) (hx : SV S x (.str l)) (hy : SV S y (.int .u8 c)) (h : cntB l c = r) : IOp P O N o S (S.set t (.int .i64 r)) := by
  refine iop_extern (xs := [x, y]) ho hd ht hc (.cons hx (.cons hy .nil)) fun E β vs hv => ?_
  cases hv with
  | cons h1 h2 =>
    cases h2 with
    | cons h3 h4 =>
      cases h4
      obtain rfl := rd_int h3
      obtain rfl := rd_str' h1
      exact ⟨_, Lib.run_countString _ _ _, h ▸ .int _ _ _⟩
theorem iop_idxB {f : FuncId} {x y : Operand} {ts : Array TypeId} {l : List UInt8} {c r : Int} (ho : o.op = .call { callee := .value (.func f), args := #[x, y], argTypes := ts }) (hd : o.dst = some t) (ht : t < N)
    (hc : ExternAt P f Extern.BytealgIndexByte.indexByte) (hx : SV S x (.str l)) (hy : SV S y (.int .u8 c)) (h : idxB l c = r) : IOp P O N o S (S.set t (.int .i64 r)) := by
  refine iop_extern (xs := [x, y]) ho hd ht hc (.cons hx (.cons hy .nil)) fun E β vs hv => ?_
  cases hv with
  | cons h1 h2 =>
    cases h2 with
    | cons h3 h4 =>
      cases h4
      obtain rfl := rd_int h3
      obtain rfl := rd_str' h1
      exact ⟨_, Lib.run_indexByteString _ _ _, h ▸ .int _ _ _⟩
end
end Go.IL
set_option linter.unusedSimpArgs false
set_option linter.unusedVariables false
open Go Go.IL
namespace Go.Fn
structure T_tune_Values where
  Streams : Int
  Window : Int
  Whole : Int
  Chunk : Int
  deriving DecidableEq, Inhabited
def E_tune_Values : Enc T_tune_Values := ⟨⟨fun x => .agg [.int .i64 x.Streams, .int .i64 x.Window, .int .i64 x.Whole, .int .i64 x.Chunk], 4, by decide, fun _ => ⟨rfl, rfl⟩⟩, fun _ => rfl⟩

structure T_anon24 where
  c0 : T_tune_Values
  c1 : T_tune_Values
  deriving DecidableEq, Inhabited
def E_anon24 : Enc T_anon24 := ⟨⟨fun x => .agg [.int .i64 x.c0.Streams, .int .i64 x.c0.Window, .int .i64 x.c0.Whole, .int .i64 x.c0.Chunk, .int .i64 x.c1.Streams, .int .i64 x.c1.Window, .int .i64 x.c1.Whole, .int .i64 x.c1.Chunk], 8, by decide, fun _ => ⟨rfl, rfl⟩⟩, fun _ => rfl⟩

structure T_anon26 where
  c0 : Int
  c1 : Int
  deriving DecidableEq, Inhabited
def E_anon26 : Enc T_anon26 := ⟨⟨fun x => .agg [.int .u32 x.c0, .int .u32 x.c1], 2, by decide, fun _ => ⟨rfl, rfl⟩⟩, fun _ => rfl⟩

structure T_world_Config where
  Paths : Int
  Values : T_anon24
  First : T_anon26
  deriving DecidableEq, Inhabited
def E_world_Config : Enc T_world_Config := ⟨⟨fun x => .agg [.int .i64 x.Paths, .int .i64 x.Values.c0.Streams, .int .i64 x.Values.c0.Window, .int .i64 x.Values.c0.Whole, .int .i64 x.Values.c0.Chunk, .int .i64 x.Values.c1.Streams, .int .i64 x.Values.c1.Window, .int .i64 x.Values.c1.Whole, .int .i64 x.Values.c1.Chunk, .int .u32 x.First.c0, .int .u32 x.First.c1], 11, by decide, fun _ => ⟨rfl, rfl⟩⟩, fun _ => rfl⟩

structure T_tune_row where
  c0 : Int
  c1 : Int
  c2 : Int
  c3 : Int
  deriving DecidableEq, Inhabited
structure T_anon61 where
  c0 : Bool
  c1 : Bool
  c2 : Bool
  c3 : Bool
  c4 : Bool
  deriving DecidableEq, Inhabited
structure T_config_reader where
  Config : T_world_Config
  seen : T_anon61
  deriving DecidableEq, Inhabited
def sennitlaw32_Conf (a0 : T_world_Config) : Option T_world_Config :=
  some a0

def tune_Values_row (a0 : T_tune_Values) : Option T_tune_row :=
  some (⟨a0.Streams, a0.Window, a0.Whole, a0.Chunk⟩ : T_tune_row)

def tune_ends  : Option (T_tune_row × T_tune_row) :=
  some (((⟨0, 1, 1, 1⟩ : T_tune_row), (⟨8, 4096, 1048576, 32⟩ : T_tune_row)))

def tune_row_bent_L0 (a0 : T_tune_row) (x1 : (T_tune_row × T_tune_row)) : Nat → Int → Int → Int → Int → Int → Option T_tune_row
  | 0, _, _, _, _, _ => none
  | n0 + 1, v7, v8, v24, v25, v26 =>
    bnd (decide (v7 < 4)) fun x42 =>
    bif x42 then (
      bno (gix ([a0.c0, a0.c1, a0.c2, a0.c3] : List Int) v7) fun x44 =>
      chk (0 ≤ v7 ∧ v7 < 4) <|
      bno (gix ([x1.1.c0, x1.1.c1, x1.1.c2, x1.1.c3] : List Int) v7) fun x46 =>
      chk (0 ≤ v7 ∧ v7 < 4) <|
      bno (gix ([x1.2.c0, x1.2.c1, x1.2.c2, x1.2.c3] : List Int) v7) fun x48 =>
      bnd (min x44 x48) fun x49 =>
      bnd (max x46 x49) fun x50 =>
      chk (0 ≤ v7 ∧ v7 < 4) <|
      bnd (bif decide (v7 = 0) then x50 else v8) fun x52 =>
      bnd (bif decide (v7 = 1) then x50 else v24) fun x53 =>
      bnd (bif decide (v7 = 2) then x50 else v25) fun x54 =>
      bnd (bif decide (v7 = 3) then x50 else v26) fun x55 =>
      bnd (IntKind.wrap .i64 (v7 + 1)) fun x56 =>
      (tune_row_bent_L0 a0 x1 n0) x56 x52 x53 x54 x55
    ) else (
      some (⟨v8, v24, v25, v26⟩ : T_tune_row)
    )
def tune_row_bent (a0 : T_tune_row) : Option T_tune_row :=
  bno (tune_ends) fun x1 =>
  tune_row_bent_L0 a0 x1 fuel 0 a0.c0 a0.c1 a0.c2 a0.c3

def tune_Check (a0 : T_tune_Values) : Option Int :=
  bno (tune_Values_row a0) fun x1 =>
  bno (tune_row_bent x1) fun x2 =>
  bnd ((decide (x1.c0 = x2.c0) && (decide (x1.c1 = x2.c1) && (decide (x1.c2 = x2.c2) && (decide (x1.c3 = x2.c3) && true))))) fun x3 =>
  bif (!x3) then (
    some 8
  ) else (
    some 0
  )

def config_Check_L0 (a0 : T_world_Config) : Nat → Int → Option Int
  | 0, _ => none
  | n0 + 1, v11 =>
    bnd (decide (v11 < 2)) fun x19 =>
    bif x19 then (
      bno (gix ([a0.Values.c0, a0.Values.c1] : List T_tune_Values) v11) fun x21 =>
      bno (tune_Check x21) fun x22 =>
      bnd (!decide (x22 = 0)) fun x23 =>
      bif x23 then (
        some x22
      ) else (
        bnd (IntKind.wrap .i64 (v11 + 1)) fun x25 =>
        (config_Check_L0 a0 n0) x25
      )
    ) else (
      some 0
    )
def config_Check (a0 : T_world_Config) : Option Int :=
  bnd (decide (a0.Paths < 1)) fun x1 =>
  bnd (decide (4 < a0.Paths)) fun x2 =>
  bnd (x1 || x2) fun x3 =>
  bif x3 then (
    some 8
  ) else (
    config_Check_L0 a0 fuel 0
  )

def strconv_Itoa (a0 : Int) : Option (List UInt8) := itoaS a0

def config_line_L0 (a1 : (List Int)) : Nat → (List UInt8) → Int → Option (List UInt8)
  | 0, _, _ => none
  | n0 + 1, v8, v9 =>
    bnd (decide (v9 < (a1.length : Int))) fun x17 =>
    bif x17 then (
      bno (gix a1 v9) fun x19 =>
      bno (strconv_Itoa x19) fun x20 =>
      bno (cat ([32] : List UInt8) x20) fun x21 =>
      bno (cat v8 x21) fun x22 =>
      bnd (IntKind.wrap .i64 (v9 + 1)) fun x23 =>
      (config_line_L0 a1 n0) x22 x23
    ) else (
      bno (cat v8 ([10] : List UInt8)) fun x24 =>
      some x24
    )
def config_line (a0 : (List UInt8)) (a1 : (List Int)) : Option (List UInt8) :=
  config_line_L0 a1 fuel a0 0

def config_Print_L1 (a0 : T_world_Config) : Nat → (List UInt8) → Int → Option ((List UInt8) × Int)
  | 0, _, _ => none
  | n1 + 1, v30, v31 =>
    bnd (decide (v31 < 2)) fun x39 =>
    bif x39 then (
      bno (gix ([a0.First.c0, a0.First.c1] : List Int) v31) fun x41 =>
      bnd (IntKind.wrap .i64 x41) fun x42 =>
      bno (config_line [102, 105, 114, 115, 116] ([v31, x42] : (List Int))) fun x43 =>
      bno (cat v30 x43) fun x44 =>
      bnd (IntKind.wrap .i64 (v31 + 1)) fun x45 =>
      (config_Print_L1 a0 n1) x44 x45
    ) else (
      some (v30, 0)
    )
def config_Print_L0 (a0 : T_world_Config) : Nat → (List UInt8) → Int → Option ((List UInt8) × Int)
  | 0, _, _ => none
  | n0 + 1, v10, v11 =>
    bnd (decide (v11 < 2)) fun x18 =>
    bif x18 then (
      bno (gix ([a0.Values.c0, a0.Values.c1] : List T_tune_Values) v11) fun x20 =>
      bno (config_line [118, 97, 108, 117, 101, 115] ([v11, x20.Streams, x20.Window, x20.Whole, x20.Chunk] : (List Int))) fun x21 =>
      bno (cat v10 x21) fun x22 =>
      bnd (IntKind.wrap .i64 (v11 + 1)) fun x23 =>
      (config_Print_L0 a0 n0) x22 x23
    ) else (
      config_Print_L1 a0 fuel v10 0
    )
def config_Print (a0 : T_world_Config) : Option ((List UInt8) × Int) :=
  bno (config_Check a0) fun x1 =>
  bnd (!decide (x1 = 0)) fun x2 =>
  bif x2 then (
    some ([], x1)
  ) else (
    bno (config_line [112, 97, 116, 104, 115] ([a0.Paths] : (List Int))) fun x4 =>
    config_Print_L0 a0 fuel x4 0
  )

def config_Digest_L0 (x1 : ((List UInt8) × Int)) : Nat → Int → Int → Option Int
  | 0, _, _ => none
  | n0 + 1, v11, v12 =>
    bnd (decide (v12 < (x1.1.length : Int))) fun x20 =>
    bif x20 then (
      bno (gix x1.1 v12) fun x22 =>
      bnd (IntKind.wrap .u32 (x22.toNat : Int)) fun x23 =>
      bnd (xorI .u32 v11 x23) fun x24 =>
      bnd (IntKind.wrap .u32 (x24 * 16777619)) fun x25 =>
      bnd (IntKind.wrap .i64 (v12 + 1)) fun x26 =>
      (config_Digest_L0 x1 n0) x25 x26
    ) else (
      some v11
    )
def config_Digest (a0 : T_world_Config) : Option Int :=
  bno (config_Print a0) fun x1 =>
  bnd (!decide (x1.2 = 0)) fun x2 =>
  bif x2 then (
    some 0
  ) else (
    config_Digest_L0 x1 fuel 2166136261 0
  )

def tune_First  : Option T_tune_Values :=
  some (⟨8, 256, 4096, 32⟩ : T_tune_Values)

def config_First  : Option T_world_Config :=
  bno (tune_First) fun x1 =>
  some ((⟨2, (⟨x1, x1⟩ : T_anon24), (⟨1, 2⟩ : T_anon26)⟩ : T_world_Config))

def sennitlaw35_back (a0 : T_world_Config) : Option T_world_Config :=
  some a0

def internal_stringslite_IndexByte (a0 : (List UInt8)) (a1 : Int) : Option Int :=
  bnd (idxB a0 a1) fun x1 =>
  some x1

def internal_stringslite_Index (a0 : (List UInt8)) (a1 : (List UInt8)) : Option Int :=
  bnd (decide ((a1.length : Int) = 0)) fun x1 =>
  bnd (decide (a1 = a0)) fun x2 =>
  bnd (x1 || x2) fun x3 =>
  bif x3 then (
    some 0
  ) else (
    bnd (decide ((a1.length : Int) = 1)) fun x5 =>
    bif x5 then (
      bno (gix a1 0) fun x7 =>
      bno (internal_stringslite_IndexByte a0 (x7.toNat : Int)) fun x8 =>
      some x8
    ) else (
      bnd (decide ((a0.length : Int) ≤ (a1.length : Int))) fun x9 =>
      bif x9 then (
        some (-1)
      ) else (
        none
      )
    )
  )

def strings_Index (a0 : (List UInt8)) (a1 : (List UInt8)) : Option Int :=
  bno (internal_stringslite_Index a0 a1) fun x1 =>
  some x1

def strings_Count_L0 (a1 : (List UInt8)) : Nat → (List UInt8) → Int → Option Int
  | 0, _, _ => none
  | n0 + 1, v13, v14 =>
    bno (strings_Index v13 a1) fun x21 =>
    bnd (decide (x21 = (-1))) fun x22 =>
    bif x22 then (
      some v14
    ) else (
      bnd (IntKind.wrap .i64 (v14 + 1)) fun x24 =>
      bnd (IntKind.wrap .i64 (x21 + (a1.length : Int))) fun x25 =>
      bno (cut v13 x25 (v13.length : Int)) fun x26 =>
      (strings_Count_L0 a1 n0) x26 x24
    )
def strings_Count (a0 : (List UInt8)) (a1 : (List UInt8)) : Option Int :=
  bnd (decide ((a1.length : Int) = 0)) fun x1 =>
  bif x1 then (
    none
  ) else (
    bnd (decide ((a1.length : Int) = 1)) fun x3 =>
    bif x3 then (
      bno (gix a1 0) fun x5 =>
      bnd (cntB a0 (x5.toNat : Int)) fun x6 =>
      some x6
    ) else (
      strings_Count_L0 a1 fuel a0 0
    )
  )

def strings_genSplit_J2 (v56 : (List UInt8)) (v57 : (List (List UInt8))) (v58 : Int) : Option (List (List UInt8)) :=
  bno (gix v57 v58) fun x59 =>
  bno (v57[(v58 : Int).toNat]?) fun x60 =>
  bnd (v57.set ((v58 : Int).toNat) v56) fun x61 =>
  bnd (IntKind.wrap .i64 (v58 + 1)) fun x62 =>
  bno (cut x61 0 x62) fun x63 =>
  some x63
def strings_genSplit_L3 (a1 : (List UInt8)) (a2 : Int) (x13 : Int) : Nat → (List UInt8) → (List (List UInt8)) → Int → Option (List (List UInt8))
  | 0, _, _, _ => none
  | n3 + 1, v77, v78, v79 =>
    bnd (decide (v79 < x13)) fun x93 =>
    bif x93 then (
      bno (strings_Index v77 a1) fun x95 =>
      bnd (decide (x95 < 0)) fun x96 =>
      bif x96 then (
        strings_genSplit_J2 v77 v78 v79
      ) else (
        bnd (IntKind.wrap .i64 (x95 + a2)) fun x98 =>
        bno (cut v77 0 x98) fun x99 =>
        bno (gix v78 v79) fun x100 =>
        bno (v78[(v79 : Int).toNat]?) fun x101 =>
        bnd (v78.set ((v79 : Int).toNat) x99) fun x102 =>
        bnd (IntKind.wrap .i64 (x95 + (a1.length : Int))) fun x103 =>
        bno (cut v77 x103 (v77.length : Int)) fun x104 =>
        bnd (IntKind.wrap .i64 (v79 + 1)) fun x105 =>
        (strings_genSplit_L3 a1 a2 x13 n3) x104 x102 x105
      )
    ) else (
      strings_genSplit_J2 v77 v78 v79
    )
def strings_genSplit_J0 (a0 : (List UInt8)) (a1 : (List UInt8)) (a2 : Int) (v9 : Int) : Option (List (List UInt8)) :=
  bnd (IntKind.wrap .i64 ((a0.length : Int) + 1)) fun x10 =>
  bnd (min v9 x10) fun x11 =>
  bno (made 16 x11 ([] : (List UInt8))) fun x12 =>
  bnd (IntKind.wrap .i64 (x11 - 1)) fun x13 =>
  strings_genSplit_L3 a1 a2 x13 fuel a0 x12 0
def strings_genSplit (a0 : (List UInt8)) (a1 : (List UInt8)) (a2 : Int) (a3 : Int) : Option (List (List UInt8)) :=
  bnd (decide (a3 = 0)) fun x1 =>
  bif x1 then (
    some []
  ) else (
    bnd (decide (a1 = ([] : List UInt8))) fun x3 =>
    bif x3 then (
      none
    ) else (
      bnd (decide (a3 < 0)) fun x106 =>
      bif x106 then (
        bno (strings_Count a0 a1) fun x108 =>
        bnd (IntKind.wrap .i64 (x108 + 1)) fun x109 =>
        strings_genSplit_J0 a0 a1 a2 x109
      ) else (
        strings_genSplit_J0 a0 a1 a2 a3
      )
    )
  )

def strings_Split (a0 : (List UInt8)) (a1 : (List UInt8)) : Option (List (List UInt8)) :=
  bno (strings_genSplit a0 a1 0 (-1)) fun x1 =>
  some x1

def config_number_L0 (a0 : (List UInt8)) : Nat → Int → Int → Option (Int × Bool)
  | 0, _, _ => none
  | n0 + 1, v22, v23 =>
    bnd (decide (v23 < (a0.length : Int))) fun x36 =>
    bif x36 then (
      bno (gix a0 v23) fun x38 =>
      bnd (decide ((x38.toNat : Int) < 48)) fun x39 =>
      bnd (decide (57 < (x38.toNat : Int))) fun x40 =>
      bnd (x39 || x40) fun x41 =>
      bif x41 then (
        some (0, false)
      ) else (
        bnd (IntKind.wrap .i64 (10 * v22)) fun x43 =>
        bnd (IntKind.wrap .u8 ((x38.toNat : Int) - 48)) fun x44 =>
        bnd (IntKind.wrap .i64 x44) fun x45 =>
        bnd (IntKind.wrap .i64 (x43 + x45)) fun x46 =>
        bnd (IntKind.wrap .i64 (v23 + 1)) fun x47 =>
        (config_number_L0 a0 n0) x46 x47
      )
    ) else (
      some (v22, true)
    )
def config_number (a0 : (List UInt8)) : Option (Int × Bool) :=
  bnd (decide (a0 = ([] : List UInt8))) fun x1 =>
  bnd (decide (10 < (a0.length : Int))) fun x2 =>
  bnd (x1 || x2) fun x3 =>
  bnd (decide (1 < (a0.length : Int))) fun x4 =>
  bno (gd ((x3 == false) && (x4 == true)) (gix a0 0) 0) fun x5 =>
  bnd (decide ((x5.toNat : Int) = 48)) fun x6 =>
  bnd (x4 && x6) fun x7 =>
  bnd (x3 || x7) fun x8 =>
  bif x8 then (
    some (0, false)
  ) else (
    config_number_L0 a0 fuel 0 0
  )

def config_numbers_L0 (a0 : (List (List UInt8))) (a1 : Int) : Nat → (List Int) → Int → Option ((List Int) × Bool)
  | 0, _, _ => none
  | n0 + 1, v8, v9 =>
    bnd (decide (v9 < (a0.length : Int))) fun x17 =>
    bif x17 then (
      bno (gix a0 v9) fun x19 =>
      bno (config_number x19) fun x20 =>
      bif (!x20.2) then (
        some ([], false)
      ) else (
        bno (app 8 v8 ([x20.1] : (List Int))) fun x22 =>
        bnd (IntKind.wrap .i64 (v9 + 1)) fun x23 =>
        (config_numbers_L0 a0 a1 n0) x22 x23
      )
    ) else (
      bnd (decide ((v8.length : Int) = a1)) fun x24 =>
      some (v8, x24)
    )
def config_numbers (a0 : (List (List UInt8))) (a1 : Int) : Option ((List Int) × Bool) :=
  config_numbers_L0 a0 a1 fuel ([] : (List Int)) 0

def config_reader_take_h_J1 (a1 : T_config_reader) (v9 : Int) (x11 : ((List Int) × Bool)) (v31 : Int) : Option (Int × T_config_reader) :=
  chk (0 ≤ v31 ∧ v31 < 5) <|
  bno (gix ([a1.seen.c0, a1.seen.c1, a1.seen.c2, a1.seen.c3, a1.seen.c4] : List Bool) v31) fun x33 =>
  bif x33 then (
    some (13, a1)
  ) else (
    chk (0 ≤ v31 ∧ v31 < 5) <|
    bnd (bif decide (v31 = 0) then true else a1.seen.c0) fun x36 =>
    bnd (bif decide (v31 = 1) then true else a1.seen.c1) fun x37 =>
    bnd (bif decide (v31 = 2) then true else a1.seen.c2) fun x38 =>
    bnd (bif decide (v31 = 3) then true else a1.seen.c3) fun x39 =>
    bnd (bif decide (v31 = 4) then true else a1.seen.c4) fun x40 =>
    bnd (decide (v9 = 1)) fun x41 =>
    bif x41 then (
      bno (gix x11.1 0) fun x43 =>
      some ((0, (⟨(⟨x43, a1.Config.Values, a1.Config.First⟩ : T_world_Config), (⟨x36, x37, x38, x39, x40⟩ : T_anon61)⟩ : T_config_reader)))
    ) else (
      bnd (decide (v9 = 2)) fun x44 =>
      bif x44 then (
        bno (gix x11.1 0) fun x46 =>
        bno (gix x11.1 1) fun x47 =>
        bnd (IntKind.wrap .u32 x47) fun x48 =>
        chk (0 ≤ x46 ∧ x46 < 2) <|
        bnd (bif decide (x46 = 0) then x48 else a1.Config.First.c0) fun x50 =>
        bnd (bif decide (x46 = 1) then x48 else a1.Config.First.c1) fun x51 =>
        some ((0, (⟨(⟨a1.Config.Paths, a1.Config.Values, (⟨x50, x51⟩ : T_anon26)⟩ : T_world_Config), (⟨x36, x37, x38, x39, x40⟩ : T_anon61)⟩ : T_config_reader)))
      ) else (
        bno (gix x11.1 0) fun x52 =>
        bno (gix x11.1 1) fun x53 =>
        bno (gix x11.1 2) fun x54 =>
        bno (gix x11.1 3) fun x55 =>
        bno (gix x11.1 4) fun x56 =>
        chk (0 ≤ x52 ∧ x52 < 2) <|
        bnd (bif decide (x52 = 0) then (⟨x53, x54, x55, x56⟩ : T_tune_Values) else a1.Config.Values.c0) fun x58 =>
        bnd (bif decide (x52 = 1) then (⟨x53, x54, x55, x56⟩ : T_tune_Values) else a1.Config.Values.c1) fun x59 =>
        some ((0, (⟨(⟨a1.Config.Paths, (⟨x58, x59⟩ : T_anon24), a1.Config.First⟩ : T_world_Config), (⟨x36, x37, x38, x39, x40⟩ : T_anon61)⟩ : T_config_reader)))
      )
    )
  )
def config_reader_take_h_J0 (a1 : T_config_reader) (x1 : (List (List UInt8))) (v9 : Int) : Option (Int × T_config_reader) :=
  bno (cut x1 1 (x1.length : Int)) fun x10 =>
  bno (config_numbers x10 v9) fun x11 =>
  bnd (decide (1 < v9)) fun x12 =>
  bno (gd (((!x11.2) == false) && (x12 == true)) (gix x11.1 0) default) fun x13 =>
  bnd (decide (1 < x13)) fun x14 =>
  bnd (x12 && x14) fun x15 =>
  bnd ((!x11.2) || x15) fun x16 =>
  bnd (decide (v9 = 2)) fun x17 =>
  bno (gd ((x16 == false) && (x17 == true)) (gix x11.1 1) default) fun x18 =>
  bnd (decide (4294967295 < x18)) fun x19 =>
  bnd (x17 && x19) fun x20 =>
  bnd (x16 || x20) fun x21 =>
  bif x21 then (
    some (60, a1)
  ) else (
    bnd (decide (v9 = 2)) fun x60 =>
    bif x60 then (
      bno (gix x11.1 0) fun x62 =>
      bnd (IntKind.wrap .i64 (3 + x62)) fun x63 =>
      config_reader_take_h_J1 a1 v9 x11 x63
    ) else (
      bnd (decide (v9 = 5)) fun x64 =>
      bif x64 then (
        bno (gix x11.1 0) fun x66 =>
        bnd (IntKind.wrap .i64 (1 + x66)) fun x67 =>
        config_reader_take_h_J1 a1 v9 x11 x67
      ) else (
        config_reader_take_h_J1 a1 v9 x11 0
      )
    )
  )
def config_reader_take_h (a0 : (List UInt8)) (a1 : T_config_reader) : Option (Int × T_config_reader) :=
  bno (strings_Split a0 [32]) fun x1 =>
  bno (gix x1 0) fun x68 =>
  bnd (decide (x68 = ([112, 97, 116, 104, 115] : List UInt8))) fun x69 =>
  bif x69 then (
    config_reader_take_h_J0 a1 x1 1
  ) else (
    bnd (decide (x68 = ([102, 105, 114, 115, 116] : List UInt8))) fun x71 =>
    bif x71 then (
      config_reader_take_h_J0 a1 x1 2
    ) else (
      bnd (decide (x68 = ([118, 97, 108, 117, 101, 115] : List UInt8))) fun x73 =>
      bif x73 then (
        config_reader_take_h_J0 a1 x1 5
      ) else (
        some (12, a1)
      )
    )
  )

def internal_stringslite_HasSuffix (a0 : (List UInt8)) (a1 : (List UInt8)) : Option Bool :=
  bnd (decide ((a1.length : Int) ≤ (a0.length : Int))) fun x1 =>
  bnd (IntKind.wrap .i64 ((a0.length : Int) - (a1.length : Int))) fun x2 =>
  bno (gd (x1 == true) (cut a0 x2 (a0.length : Int)) []) fun x3 =>
  bnd (decide (x3 = a1)) fun x4 =>
  bnd (x1 && x4) fun x5 =>
  some x5

def strings_HasSuffix (a0 : (List UInt8)) (a1 : (List UInt8)) : Option Bool :=
  bno (internal_stringslite_HasSuffix a0 a1) fun x1 =>
  some x1

def config_Parse_L1 (a0 : (List UInt8)) (x71 : (List (List UInt8))) : Nat → Int → Int → Int → Int → Int → Int → Int → Int → Int → Int → Int → Int → Bool → Bool → Bool → Bool → Bool → Option (T_world_Config × Int × Int)
  | 0, _, _, _, _, _, _, _, _, _, _, _, _, _, _, _, _, _ => none
  | n1 + 1, v89, v90, v91, v92, v93, v94, v95, v96, v97, v98, v99, v100, v101, v102, v103, v104, v105 =>
    bnd (decide (v89 < (x71.length : Int))) fun x123 =>
    bif x123 then (
      bno (gix x71 v89) fun x125 =>
      bnd (!decide (x125 = ([] : List UInt8))) fun x126 =>
      bno (gd (x126 == true) (gix x125 0) 0) fun x127 =>
      bnd (!decide ((x127.toNat : Int) = 35)) fun x128 =>
      bnd (x126 && x128) fun x129 =>
      bnd (IntKind.wrap .i64 (v89 + 1)) fun x130 =>
      bif (x129 == true) then (
        bno (config_reader_take_h x125 ((⟨(⟨v90, (⟨(⟨v91, v92, v93, v94⟩ : T_tune_Values), (⟨v95, v96, v97, v98⟩ : T_tune_Values)⟩ : T_anon24), (⟨v99, v100⟩ : T_anon26)⟩ : T_world_Config), (⟨v101, v102, v103, v104, v105⟩ : T_anon61)⟩ : T_config_reader))) fun x132 =>
        bnd (!decide (x132.1 = 0)) fun x133 =>
        bif x133 then (
          bnd (x129 && true) fun x135 =>
          some (((⟨0, (⟨(⟨0, 0, 0, 0⟩ : T_tune_Values), (⟨0, 0, 0, 0⟩ : T_tune_Values)⟩ : T_anon24), (⟨0, 0⟩ : T_anon26)⟩ : T_world_Config), x130, x132.1))
        ) else (
          bnd (x129 && false) fun x136 =>
          bnd (IntKind.wrap .i64 (v89 + 1)) fun x137 =>
          (config_Parse_L1 a0 x71 n1) x137 x132.2.Config.Paths x132.2.Config.Values.c0.Streams x132.2.Config.Values.c0.Window x132.2.Config.Values.c0.Whole x132.2.Config.Values.c0.Chunk x132.2.Config.Values.c1.Streams x132.2.Config.Values.c1.Window x132.2.Config.Values.c1.Whole x132.2.Config.Values.c1.Chunk x132.2.Config.First.c0 x132.2.Config.First.c1 x132.2.seen.c0 x132.2.seen.c1 x132.2.seen.c2 x132.2.seen.c3 x132.2.seen.c4
        )
      ) else (
        bnd (x129 && true) fun x138 =>
        bnd (IntKind.wrap .i64 (v89 + 1)) fun x139 =>
        (config_Parse_L1 a0 x71 n1) x139 v90 v91 v92 v93 v94 v95 v96 v97 v98 v99 v100 v101 v102 v103 v104 v105
      )
    ) else (
      bnd (!decide (a0 = ([] : List UInt8))) fun x140 =>
      bno (gd (x140 == true) (strings_HasSuffix a0 [10]) default) fun x141 =>
      bnd (x140 && (!x141)) fun x142 =>
      bif x142 then (
        some (((⟨0, (⟨(⟨0, 0, 0, 0⟩ : T_tune_Values), (⟨0, 0, 0, 0⟩ : T_tune_Values)⟩ : T_anon24), (⟨0, 0⟩ : T_anon26)⟩ : T_world_Config), 0, 3))
      ) else (
        bno (config_Check ((⟨v90, (⟨(⟨v91, v92, v93, v94⟩ : T_tune_Values), (⟨v95, v96, v97, v98⟩ : T_tune_Values)⟩ : T_anon24), (⟨v99, v100⟩ : T_anon26)⟩ : T_world_Config))) fun x144 =>
        bnd (!decide (x144 = 0)) fun x145 =>
        bif x145 then (
          some (((⟨0, (⟨(⟨0, 0, 0, 0⟩ : T_tune_Values), (⟨0, 0, 0, 0⟩ : T_tune_Values)⟩ : T_anon24), (⟨0, 0⟩ : T_anon26)⟩ : T_world_Config), 0, x144))
        ) else (
          some (((⟨v90, (⟨(⟨v91, v92, v93, v94⟩ : T_tune_Values), (⟨v95, v96, v97, v98⟩ : T_tune_Values)⟩ : T_anon24), (⟨v99, v100⟩ : T_anon26)⟩ : T_world_Config), 0, 0))
        )
      )
    )
def config_Parse (a0 : (List UInt8)) : Option (T_world_Config × Int × Int) :=
  bno (config_First) fun x1 =>
  bno (strings_Split a0 [10]) fun x71 =>
  config_Parse_L1 a0 x71 fuel 0 x1.Paths x1.Values.c0.Streams x1.Values.c0.Window x1.Values.c0.Whole x1.Values.c0.Chunk x1.Values.c1.Streams x1.Values.c1.Window x1.Values.c1.Whole x1.Values.c1.Chunk x1.First.c0 x1.First.c1 false false false false false

def sennitlaw35_awake  : Option Bool :=
  bno (config_Parse [35, 32, 120, 10, 102, 105, 114, 115, 116, 32, 49, 32, 52, 50, 57, 52, 57, 54, 55, 50, 57, 53, 10, 10, 112, 97, 116, 104, 115, 32, 51, 10]) fun x1 =>
  bno (config_Parse [112, 97, 116, 104, 115, 32, 51, 10, 112, 97, 116, 104, 115, 32, 51, 10]) fun x2 =>
  bno (config_Parse [112, 97, 116, 104, 32, 51, 10]) fun x3 =>
  bno (config_Parse [112, 97, 116, 104, 115, 32, 51]) fun x4 =>
  bno (config_Parse [118, 97, 108, 117, 101, 115, 32, 50, 32, 49, 32, 49, 32, 49, 32, 49, 10]) fun x5 =>
  bno (config_First) fun x6 =>
  bno (config_Print x6) fun x7 =>
  bno (config_Parse [112, 97, 116, 104, 115, 32, 53, 10]) fun x8 =>
  bnd (decide (x1.1.Paths = 3)) fun x9 =>
  bnd (decide (x1.1.First.c1 = 4294967295)) fun x10 =>
  bnd (x9 && x10) fun x11 =>
  bnd (decide (x1.1.First.c0 = 1)) fun x12 =>
  bnd (x11 && x12) fun x13 =>
  bnd (decide (x1.2.1 = 0)) fun x14 =>
  bnd (x13 && x14) fun x15 =>
  bnd (decide (x1.2.2 = 0)) fun x16 =>
  bnd (x15 && x16) fun x17 =>
  bnd (decide (x2.2.1 = 2)) fun x18 =>
  bnd (x17 && x18) fun x19 =>
  bnd (decide (x2.2.2 = 13)) fun x20 =>
  bnd (x19 && x20) fun x21 =>
  bnd (decide (x3.2.1 = 1)) fun x22 =>
  bnd (x21 && x22) fun x23 =>
  bnd (decide (x3.2.2 = 12)) fun x24 =>
  bnd (x23 && x24) fun x25 =>
  bnd (decide (x4.2.1 = 0)) fun x26 =>
  bnd (x25 && x26) fun x27 =>
  bnd (decide (x4.2.2 = 3)) fun x28 =>
  bnd (x27 && x28) fun x29 =>
  bnd (decide (x5.2.1 = 1)) fun x30 =>
  bnd (x29 && x30) fun x31 =>
  bnd (decide (x5.2.2 = 60)) fun x32 =>
  bnd (x31 && x32) fun x33 =>
  bnd (decide (x7.1 = ([112, 97, 116, 104, 115, 32, 50, 10, 118, 97, 108, 117, 101, 115, 32, 48, 32, 56, 32, 50, 53, 54, 32, 52, 48, 57, 54, 32, 51, 50, 10, 118, 97, 108, 117, 101, 115, 32, 49, 32, 56, 32, 50, 53, 54, 32, 52, 48, 57, 54, 32, 51, 50, 10, 102, 105, 114, 115, 116, 32, 48, 32, 49, 10, 102, 105, 114, 115, 116, 32, 49, 32, 50, 10] : List UInt8))) fun x34 =>
  bnd (x33 && x34) fun x35 =>
  bnd (decide (x7.2 = 0)) fun x36 =>
  bnd (x35 && x36) fun x37 =>
  bnd (decide (x8.2.1 = 0)) fun x38 =>
  bnd (x37 && x38) fun x39 =>
  bnd (decide (x8.2.2 = 8)) fun x40 =>
  bnd (x39 && x40) fun x41 =>
  bno (gd (x41 == true) (config_Digest x1.1) default) fun x42 =>
  bnd (!decide (x42 = 0)) fun x43 =>
  bnd (x41 && x43) fun x44 =>
  bno (gd (x44 == true) (config_Digest ((⟨0, (⟨(⟨0, 0, 0, 0⟩ : T_tune_Values), (⟨0, 0, 0, 0⟩ : T_tune_Values)⟩ : T_anon24), (⟨0, 0⟩ : T_anon26)⟩ : T_world_Config))) default) fun x45 =>
  bnd (decide (x45 = 0)) fun x46 =>
  bnd (x44 && x46) fun x47 =>
  bno (gd (x47 == true) (config_Check x1.1) default) fun x48 =>
  bnd (decide (x48 = 0)) fun x49 =>
  bnd (x47 && x49) fun x50 =>
  bnd (bif x50 then true else false) fun x51 =>
  bnd (bif x51 then true else false) fun x52 =>
  bnd (bif x52 then true else false) fun x53 =>
  bnd (bif x53 then true else false) fun x54 =>
  some x54

def sennitlaw35_ConfigSame_L0 (a0 : T_world_Config) (x1 : T_world_Config) (x2 : T_world_Config) (x3 : ((List UInt8) × Int)) (x4 : ((List UInt8) × Int)) : Nat → Int → Option Bool
  | 0, _ => none
  | n0 + 1, v22 =>
    bnd (decide (v22 < (x3.1.length : Int))) fun x29 =>
    bno (gd (x29 == true) (gix x3.1 v22) 0) fun x30 =>
    bnd (!decide ((x30.toNat : Int) = 10)) fun x31 =>
    bnd (x29 && x31) fun x32 =>
    bif x32 then (
      bnd (IntKind.wrap .i64 (v22 + 1)) fun x34 =>
      (sennitlaw35_ConfigSame_L0 a0 x1 x2 x3 x4 n0) x34
    ) else (
      bnd (decide ((x3.1.length : Int) ≤ v22)) fun x35 =>
      bif x35 then (
        some false
      ) else (
        bnd (IntKind.wrap .i64 (v22 + 1)) fun x37 =>
        bno (cut x3.1 x37 (x3.1.length : Int)) fun x38 =>
        bnd (IntKind.wrap .i64 (v22 + 1)) fun x39 =>
        bno (cut x3.1 0 x39) fun x40 =>
        bno (cat x38 x40) fun x41 =>
        bno (config_Parse x41) fun x42 =>
        bnd (decide (x3.1 = x4.1)) fun x43 =>
        bno (sennitlaw35_back x1) fun x44 =>
        bno (sennitlaw35_back x2) fun x45 =>
        bnd ((decide (x44.Paths = x45.Paths) && (((decide (x44.Values.c0.Streams = x45.Values.c0.Streams) && (decide (x44.Values.c0.Window = x45.Values.c0.Window) && (decide (x44.Values.c0.Whole = x45.Values.c0.Whole) && (decide (x44.Values.c0.Chunk = x45.Values.c0.Chunk) && true)))) && ((decide (x44.Values.c1.Streams = x45.Values.c1.Streams) && (decide (x44.Values.c1.Window = x45.Values.c1.Window) && (decide (x44.Values.c1.Whole = x45.Values.c1.Whole) && (decide (x44.Values.c1.Chunk = x45.Values.c1.Chunk) && true)))) && true)) && ((decide (x44.First.c0 = x45.First.c0) && (decide (x44.First.c1 = x45.First.c1) && true)) && true)))) fun x46 =>
        bnd (x43 == x46) fun x47 =>
        bno (gd (x47 == true) (sennitlaw35_back x42.1) default) fun x48 =>
        bnd ((decide (x48.Paths = a0.Paths) && (((decide (x48.Values.c0.Streams = a0.Values.c0.Streams) && (decide (x48.Values.c0.Window = a0.Values.c0.Window) && (decide (x48.Values.c0.Whole = a0.Values.c0.Whole) && (decide (x48.Values.c0.Chunk = a0.Values.c0.Chunk) && true)))) && ((decide (x48.Values.c1.Streams = a0.Values.c1.Streams) && (decide (x48.Values.c1.Window = a0.Values.c1.Window) && (decide (x48.Values.c1.Whole = a0.Values.c1.Whole) && (decide (x48.Values.c1.Chunk = a0.Values.c1.Chunk) && true)))) && true)) && ((decide (x48.First.c0 = a0.First.c0) && (decide (x48.First.c1 = a0.First.c1) && true)) && true)))) fun x49 =>
        bnd (x47 && x49) fun x50 =>
        bnd (decide (x42.2.1 = 0)) fun x51 =>
        bnd (x50 && x51) fun x52 =>
        bnd (decide (x42.2.2 = 0)) fun x53 =>
        bnd (x52 && x53) fun x54 =>
        bno (gd (x54 == true) (sennitlaw35_awake) default) fun x55 =>
        bnd (x54 && x55) fun x56 =>
        some x56
      )
    )
def sennitlaw35_ConfigSame (a0 : T_world_Config) (a1 : T_world_Config) : Option Bool :=
  bno (sennitlaw32_Conf a0) fun x1 =>
  bno (sennitlaw32_Conf a1) fun x2 =>
  bno (config_Print x1) fun x3 =>
  bno (config_Print x2) fun x4 =>
  bnd (!decide (x3.2 = 0)) fun x5 =>
  bnd (!decide (x4.2 = 0)) fun x6 =>
  bnd (x5 || x6) fun x7 =>
  bif x7 then (
    bno (config_Check x1) fun x9 =>
    bnd (decide (x9 = x3.2)) fun x10 =>
    bno (gd (x10 == true) (config_Check x2) default) fun x11 =>
    bnd (decide (x11 = x4.2)) fun x12 =>
    bnd (x10 && x12) fun x13 =>
    bno (gd (x13 == true) (sennitlaw35_awake) default) fun x14 =>
    bnd (x13 && x14) fun x15 =>
    some x15
  ) else (
    sennitlaw35_ConfigSame_L0 a0 x1 x2 x3 x4 fuel 0
  )
end Go.Fn
set_option linter.unusedSimpArgs false
set_option linter.unusedVariables false
open Go Go.IL
namespace Go.Fn
/-! Numerals. -/
def dig (m : Nat) : UInt8 := UInt8.ofNat (48 + m % 10)
theorem decF_step {k m : Nat} (h : 10 ≤ m) : decF (k + 1) m = decF k (m / 10) ++ [dig m] := by
  rw [decF, decide_eq_false (by omega)]; rfl
theorem decF_one {k m : Nat} (h : m < 10) : decF k m = [dig m] := by
  have e : dig m = UInt8.ofNat (48 + m) := by unfold dig; rw [Nat.mod_eq_of_lt h]
  cases k with
  | zero => rw [decF, e]
  | succ k => rw [decF, decide_eq_true h, e]; rfl
theorem decF_len : ∀ (k m : Nat), (decF k m).length ≤ k + 1
  | 0, _ => by simp [decF]
  | k + 1, m => by
    rw [decF]
    cases decide (m < 10)
    · show (decF k (m / 10) ++ [_]).length ≤ _
      rw [List.length_append]; have := decF_len k (m / 10); simp; omega
    · show [_].length ≤ _
      simp
theorem decF_ne : ∀ (k m : Nat), decF k m ≠ []
  | 0, _ => by simp [decF]
  | k + 1, m => by
    rw [decF]
    cases decide (m < 10)
    · show decF k (m / 10) ++ [_] ≠ []
      simp
    · show [_] ≠ []
      simp
def J64 (n : Int) : Prop := -9223372036854775808 ≤ n ∧ n ≤ 9223372036854775807
theorem itoa33 {n : Int} (h : J64 n) : strconv_Itoa n = some (itoaF n) := by
  unfold strconv_Itoa itoaS
  rw [decide_eq_true h.1, decide_eq_true h.2]; rfl
theorem itoaF_len (n : Int) : (itoaF n).length ≤ 21 := by
  unfold itoaF
  cases decide (n < 0)
  · have := decF_len 19 n.toNat
    show (decF 19 n.toNat).length ≤ 21
    omega
  · have := decF_len 19 n.natAbs
    show (45 :: decF 19 n.natAbs).length ≤ 21
    simp; omega
/-- Digits alone. -/
def isDig (b : UInt8) : Prop := 48 ≤ b.toNat ∧ b.toNat ≤ 57
theorem dig_is (m : Nat) : isDig (dig m) := by
  have h : m % 10 < 10 := Nat.mod_lt _ (by decide)
  unfold isDig dig
  rw [UInt8.toNat_ofNat']
  omega
theorem decF_dig : ∀ (k m : Nat), m < 10 ^ (k + 1) → ∀ b ∈ decF k m, isDig b
  | 0, m, h, b, hb => by
    rw [decF_one (by simpa using h)] at hb
    rw [List.mem_singleton.1 hb]; exact dig_is m
  | k + 1, m, h, b, hb => by
    by_cases h1 : m < 10
    · rw [decF_one h1] at hb
      rw [List.mem_singleton.1 hb]; exact dig_is m
    · rw [decF_step (by omega)] at hb
      rcases List.mem_append.1 hb with hb | hb
      · refine decF_dig k (m / 10) ?_ b hb
        have : 10 ^ (k + 1 + 1) = 10 ^ (k + 1) * 10 := Nat.pow_succ ..
        omega
      · rw [List.mem_singleton.1 hb]; exact dig_is m
theorem itoaF_dig {n : Int} (h0 : 0 ≤ n) (h1 : n ≤ 9223372036854775807) : ∀ b ∈ itoaF n, isDig b := by
  have hp : 10 ^ (19 + 1) = 100000000000000000000 := by decide
  unfold itoaF
  rw [decide_eq_false (by omega), bif_ff]
  exact decF_dig 19 n.toNat (by rw [hp]; omega)
/-- Of less, fewer. -/
theorem decF_less : ∀ (j k m : Nat), m < 10 ^ (j + 1) → j ≤ k → decF k m = decF j m
  | 0, k, m, h, _ => by
    have h : m < 10 := by simpa using h
    rw [decF_one h, decF_one h]
  | j + 1, k, m, h, hj => by
    obtain ⟨k, rfl⟩ : ∃ i, k = i + 1 := ⟨k - 1, by omega⟩
    by_cases h1 : m < 10
    · rw [decF_one h1, decF_one h1]
    · rw [decF_step (by omega), decF_step (by omega), decF_less j k (m / 10) (by
        have : 10 ^ (j + 1 + 1) = 10 ^ (j + 1) * 10 := Nat.pow_succ ..
        omega) (by omega)]
theorem itoaF_of {n : Int} (h0 : 0 ≤ n) (j : Nat) (h : n.toNat < 10 ^ (j + 1)) (hj : j ≤ 19) : itoaF n = decF j n.toNat := by
  unfold itoaF
  rw [decide_eq_false (by omega), bif_ff, decF_less j 19 _ h hj]
/-- What digits come to. -/
def valS (s : List UInt8) : Nat := s.foldl (fun n b => 10 * n + (b.toNat - 48)) 0
theorem valS_app (s : List UInt8) (b : UInt8) : valS (s ++ [b]) = 10 * valS s + (b.toNat - 48) := by unfold valS; rw [List.foldl_append]; rfl
theorem dig_val (m : Nat) : (dig m).toNat - 48 = m % 10 := by
  have h : m % 10 < 10 := Nat.mod_lt _ (by decide)
  unfold dig
  rw [UInt8.toNat_ofNat']
  omega
theorem decF_val : ∀ (k m : Nat), m < 10 ^ (k + 1) → valS (decF k m) = m
  | 0, m, h => by
    have h : m < 10 := by simpa using h
    rw [decF_one h]
    show 10 * 0 + ((dig m).toNat - 48) = m
    rw [dig_val]; omega
  | k + 1, m, h => by
    by_cases h1 : m < 10
    · rw [decF_one h1]
      show 10 * 0 + ((dig m).toNat - 48) = m
      rw [dig_val]; omega
    · rw [decF_step (by omega), valS_app, dig_val, decF_val k (m / 10) (by
        have : 10 ^ (k + 1 + 1) = 10 ^ (k + 1) * 10 := Nat.pow_succ ..
        omega)]
      omega
/-- No nought ahead. -/
theorem decF_head : ∀ (k m : Nat), 0 < m → m < 10 ^ (k + 1) → (decF k m)[0]? ≠ some 48
  | 0, m, h0, h => by
    have h : m < 10 := by simpa using h
    rw [decF_one h]
    intro e
    have e : dig m = 48 := Option.some.inj e
    have := dig_val m
    rw [e] at this
    have : (48 : UInt8).toNat - 48 = 0 := by decide
    omega
  | k + 1, m, h0, h => by
    by_cases h1 : m < 10
    · rw [decF_one h1]
      intro e
      have e : dig m = 48 := Option.some.inj e
      have := dig_val m
      rw [e] at this
      have : (48 : UInt8).toNat - 48 = 0 := by decide
      omega
    · rw [decF_step (by omega), List.getElem?_append_left (by have := decF_ne k (m / 10); exact List.length_pos_iff.2 this)]
      exact decF_head k (m / 10) (by omega) (by
        have : 10 ^ (k + 1 + 1) = 10 ^ (k + 1) * 10 := Nat.pow_succ ..
        omega)
end Go.Fn
set_option linter.unusedSimpArgs false
set_option linter.unusedVariables false
open Go Go.IL
namespace Go.Fn
/-! Config: what may be; Print; Digest (ConfigPrints). -/
abbrev Cf := T_world_Config
abbrev Vl := T_tune_Values
theorem awake35 : sennitlaw35_awake = some true := by kernel_rfl
def okV (v : Vl) : Prop := (0 ≤ v.Streams ∧ v.Streams ≤ 8) ∧ (1 ≤ v.Window ∧ v.Window ≤ 4096) ∧ (1 ≤ v.Whole ∧ v.Whole ≤ 1048576) ∧ 1 ≤ v.Chunk ∧ v.Chunk ≤ 32
instance (v : Vl) : Decidable (okV v) := by unfold okV; infer_instance
def clamp (a lo hi : Int) : Int := max lo (min a hi)
theorem clamp_eq {a lo hi : Int} (h : lo ≤ hi) : decide (a = clamp a lo hi) = decide (lo ≤ a ∧ a ≤ hi) := by
  unfold clamp
  rw [Bool.eq_iff_iff, decide_eq_true_iff, decide_eq_true_iff]
  omega
theorem tbent (r : T_tune_row) : tune_row_bent r = some ⟨clamp r.c0 0 8, clamp r.c1 1 4096, clamp r.c2 1 1048576, clamp r.c3 1 32⟩ := by
  obtain ⟨m, hm⟩ : ∃ m, fuel = m + 1 + 1 + 1 + 1 + 1 := ⟨2 ^ 64 - 5, by show 2 ^ 64 = _; omega⟩
  unfold tune_row_bent
  rw [show tune_ends = some ((⟨0, 1, 1, 1⟩ : T_tune_row), (⟨8, 4096, 1048576, 32⟩ : T_tune_row)) from rfl, bnoS, hm]
  rfl
theorem tcheck (v : Vl) : tune_Check v = some (if okV v then 0 else 8) := by
  unfold tune_Check
  rw [show tune_Values_row v = some (⟨v.Streams, v.Window, v.Whole, v.Chunk⟩ : T_tune_row) from rfl, bnoS, tbent, bnoS, bndD]
  simp only [clamp_eq (show (0 : Int) ≤ 8 by decide), clamp_eq (show (1 : Int) ≤ 4096 by decide), clamp_eq (show (1 : Int) ≤ 1048576 by decide), clamp_eq (show (1 : Int) ≤ 32 by decide)]
  by_cases h : okV v
  · rw [if_pos h]
    obtain ⟨h1, h2, h3, h4⟩ := h
    rw [decide_eq_true h1, decide_eq_true h2, decide_eq_true h3, decide_eq_true h4]; rfl
  · rw [if_neg h]
    have : (decide (0 ≤ v.Streams ∧ v.Streams ≤ 8) && (decide (1 ≤ v.Window ∧ v.Window ≤ 4096) && (decide (1 ≤ v.Whole ∧ v.Whole ≤ 1048576) && (decide (1 ≤ v.Chunk ∧ v.Chunk ≤ 32) && true)))) = false := by
      rw [← Bool.not_eq_true]
      intro hh
      simp only [Bool.and_eq_true, decide_eq_true_iff, Bool.and_true] at hh
      exact h ⟨hh.1, hh.2.1, hh.2.2.1, hh.2.2.2⟩
    rw [this]; rfl
def okC (c : Cf) : Prop := (1 ≤ c.Paths ∧ c.Paths ≤ 4) ∧ okV c.Values.c0 ∧ okV c.Values.c1
instance (c : Cf) : Decidable (okC c) := by unfold okC; infer_instance
theorem ccheck35 (c : Cf) : config_Check c = some (if okC c then 0 else 8) := by
  obtain ⟨m, hm⟩ : ∃ m, fuel = m + 1 + 1 + 1 := ⟨2 ^ 64 - 3, by show 2 ^ 64 = _; omega⟩
  unfold config_Check
  simp only [bndD]
  by_cases h1 : 1 ≤ c.Paths ∧ c.Paths ≤ 4
  · rw [decide_eq_false (by omega), decide_eq_false (by omega), Bool.or_self, bif_ff, hm, config_Check_L0]
    simp only [bndD, show decide ((0 : Int) < 2) = true from rfl, bif_tt, show gix [c.Values.c0, c.Values.c1] 0 = some c.Values.c0 from rfl, bnoS, tcheck]
    by_cases h2 : okV c.Values.c0
    · rw [if_pos h2]
      simp only [decide_true, Bool.not_true, bif_ff, show IntKind.wrap .i64 ((0 : Int) + 1) = 1 from rfl, show decide ((1 : Int) < 2) = true from rfl, bif_tt, show gix [c.Values.c0, c.Values.c1] 1 = some c.Values.c1 from rfl, bnoS]
      rw [config_Check_L0]
      simp only [bndD, show decide ((1 : Int) < 2) = true from rfl, bif_tt, show gix [c.Values.c0, c.Values.c1] 1 = some c.Values.c1 from rfl, bnoS, tcheck]
      by_cases h3 : okV c.Values.c1
      · rw [if_pos h3, if_pos (show okC c from ⟨h1, h2, h3⟩)]
        simp only [decide_true, Bool.not_true, bif_ff, show IntKind.wrap .i64 ((1 : Int) + 1) = 2 from rfl]
        rw [config_Check_L0]; rfl
      · rw [if_neg h3, if_neg (show ¬ okC c from fun h => h3 h.2.2)]; rfl
    · rw [if_neg h2, if_neg (show ¬ okC c from fun h => h2 h.2.1)]; rfl
  · rw [if_neg (show ¬ okC c from fun h => h1 h.1)]
    have e1 : (decide (c.Paths < 1) || decide (4 < c.Paths)) = true := by rw [Bool.or_eq_true, decide_eq_true_iff, decide_eq_true_iff]; omega
    rw [e1, bif_tt]
/-- Numbers, each with a blank ahead. -/
def numsS (l : List Int) : List UInt8 := l.flatMap fun n => 32 :: itoaF n
def lineS (l : List Int) : List UInt8 := numsS l ++ [10]
theorem numsS_len : ∀ l : List Int, (numsS l).length ≤ 22 * l.length
  | [] => Nat.le_refl _
  | n :: l => by
    have h1 := numsS_len l
    have h2 := itoaF_len n
    show ((32 :: itoaF n) ++ numsS l).length ≤ _
    rw [List.length_append, List.length_cons, List.length_cons]; omega
theorem numsS_app (a b : List Int) : numsS (a ++ b) = numsS a ++ numsS b := by unfold numsS; rw [List.flatMap_append]
theorem numsS_one (n : Int) : numsS [n] = 32 :: itoaF n := by simp [numsS]
theorem line_L {key : List UInt8} (hk : key.length ≤ 100) {l : List Int} (hl : l.length ≤ 10) (h64 : ∀ n ∈ l, J64 n) : ∀ (r p : List Int) (f : Nat), l = p ++ r → r.length < f → config_line_L0 l f (key ++ numsS p) (p.length : Int) = some (key ++ lineS l)
  | [], p, f + 1, h, _ => by
    have e : p = l := by rw [h, List.append_nil]
    have := numsS_len p
    rw [e] at this ⊢
    rw [config_line_L0]
    simp only [bndD, lt_len, bif_ff, cat_ok (a := key ++ numsS l) (b := [10]) (by simp; omega), bnoS]
    unfold lineS
    rw [List.append_assoc]
  | n :: r, p, f + 1, h, hf => by
    have h1 := numsS_len p
    have h2 := itoaF_len n
    have hp : p.length ≤ 10 := by rw [h] at hl; simp at hl; omega
    have hrec := line_L hk hl h64 r (p ++ [n]) f (next_at h) (by simpa using hf)
    rw [config_line_L0]
    simp only [bndD, lt_at h, bif_tt, gix_at h, bnoS, itoa33 (h64 n (by rw [h]; simp)), cat_ok (a := [32]) (b := itoaF n) (by simp; omega), cat_ok (a := key ++ numsS p) (b := [32] ++ itoaF n) (by simp; omega), w_at h (by omega)]
    rw [numsS_app, numsS_one, ← List.append_assoc] at hrec
    exact hrec
theorem line35 {key : List UInt8} (hk : key.length ≤ 100) {l : List Int} (hl : l.length ≤ 10) (h64 : ∀ n ∈ l, J64 n) : config_line key l = some (key ++ lineS l) := by
  have := line_L hk hl h64 l [] fuel rfl (fuel_gt (by omega))
  unfold config_line
  rw [show key = key ++ numsS [] by simp [numsS]]
  have e : (key ++ numsS [] : List UInt8) ++ lineS l = key ++ lineS l := by simp [numsS]
  rw [e]; exact this
def kP : List UInt8 := [112, 97, 116, 104, 115]
def kV : List UInt8 := [118, 97, 108, 117, 101, 115]
def kF : List UInt8 := [102, 105, 114, 115, 116]
def valL (i : Int) (v : Vl) : List UInt8 := kV ++ lineS [i, v.Streams, v.Window, v.Whole, v.Chunk]
def fstL (i n : Int) : List UInt8 := kF ++ lineS [i, n]
def textS (c : Cf) : List UInt8 := kP ++ lineS [c.Paths] ++ valL 0 c.Values.c0 ++ valL 1 c.Values.c1 ++ fstL 0 c.First.c0 ++ fstL 1 c.First.c1
/-- A config's first numbers are of 32 bits. -/
def F32 (c : Cf) : Prop := (0 ≤ c.First.c0 ∧ c.First.c0 ≤ 4294967295) ∧ 0 ≤ c.First.c1 ∧ c.First.c1 ≤ 4294967295
theorem lineS_len (l : List Int) : (lineS l).length ≤ 22 * l.length + 1 := by
  have := numsS_len l
  unfold lineS; rw [List.length_append]; simp; omega
theorem valL_len (i : Int) (v : Vl) : (valL i v).length ≤ 130 := by
  have := lineS_len [i, v.Streams, v.Window, v.Whole, v.Chunk]
  unfold valL kV
  rw [List.length_append]; simp at this ⊢; omega
theorem fstL_len (i n : Int) : (fstL i n).length ≤ 60 := by
  have := lineS_len [i, n]
  unfold fstL kF
  rw [List.length_append]; simp at this ⊢; omega
theorem pathL_len (n : Int) : (kP ++ lineS [n]).length ≤ 30 := by
  have := lineS_len [n]
  unfold kP
  rw [List.length_append]; simp at this ⊢; omega
theorem j_val {i : Int} {v : Vl} (hi : 0 ≤ i ∧ i ≤ 1) (h : okV v) : ∀ n ∈ [i, v.Streams, v.Window, v.Whole, v.Chunk], J64 n := by
  obtain ⟨h1, h2, h3, h4⟩ := h
  intro n hn
  unfold J64
  simp only [List.mem_cons, List.mem_nil_iff, or_false] at hn
  rcases hn with e | e | e | e | e <;> subst e <;> omega
theorem j_fst {i n : Int} (hi : 0 ≤ i ∧ i ≤ 1) (h : 0 ≤ n ∧ n ≤ 4294967295) : ∀ m ∈ [i, n], J64 m := by
  intro m hm
  unfold J64
  simp only [List.mem_cons, List.mem_nil_iff, or_false] at hm
  rcases hm with e | e <;> subst e <;> omega
theorem j_path {n : Int} (h : 1 ≤ n ∧ n ≤ 4) : ∀ m ∈ [n], J64 m := by
  intro m hm
  unfold J64
  rw [List.mem_singleton.1 hm]; omega
theorem cprint {c : Cf} (hf : F32 c) (h : okC c) : config_Print c = some (textS c, 0) := by
  obtain ⟨h1, h2, h3⟩ := h
  obtain ⟨f1, f2⟩ := hf
  obtain ⟨m, hm⟩ : ∃ m, fuel = m + 1 + 1 + 1 := ⟨2 ^ 64 - 3, by show 2 ^ 64 = _; omega⟩
  have e0 := pathL_len c.Paths
  have e1 := valL_len 0 c.Values.c0
  have e2 := valL_len 1 c.Values.c1
  have e3 := fstL_len 0 c.First.c0
  have e4 := fstL_len 1 c.First.c1
  have l0 : config_line [112, 97, 116, 104, 115] [c.Paths] = some (kP ++ lineS [c.Paths]) := line35 (key := kP) (by decide) (by simp) (j_path h1)
  have l1 : config_line [118, 97, 108, 117, 101, 115] [0, c.Values.c0.Streams, c.Values.c0.Window, c.Values.c0.Whole, c.Values.c0.Chunk] = some (valL 0 c.Values.c0) := line35 (key := kV) (by decide) (by simp) (j_val (by decide) h2)
  have l2 : config_line [118, 97, 108, 117, 101, 115] [1, c.Values.c1.Streams, c.Values.c1.Window, c.Values.c1.Whole, c.Values.c1.Chunk] = some (valL 1 c.Values.c1) := line35 (key := kV) (by decide) (by simp) (j_val (by decide) h3)
  have l3 : config_line [102, 105, 114, 115, 116] [0, c.First.c0] = some (fstL 0 c.First.c0) := line35 (key := kF) (by decide) (by simp) (j_fst (by decide) f1)
  have l4 : config_line [102, 105, 114, 115, 116] [1, c.First.c1] = some (fstL 1 c.First.c1) := line35 (key := kF) (by decide) (by simp) (j_fst (by decide) f2)
  unfold config_Print
  simp only [ccheck35, if_pos (show okC c from ⟨h1, h2, h3⟩), bnoS, bndD, decide_true, Bool.not_true, bif_ff, l0]
  rw [hm, config_Print_L0]
  simp only [bndD, show decide ((0 : Int) < 2) = true from rfl, show decide ((1 : Int) < 2) = true from rfl, show decide ((2 : Int) < 2) = false from rfl, show IntKind.wrap .i64 ((0 : Int) + 1) = 1 from rfl, show IntKind.wrap .i64 ((1 : Int) + 1) = 2 from rfl, bif_tt, bif_ff, show gix [c.Values.c0, c.Values.c1] 0 = some c.Values.c0 from rfl, show gix [c.Values.c0, c.Values.c1] 1 = some c.Values.c1 from rfl, bnoS, l1, l2,
    cat_ok (a := kP ++ lineS [c.Paths]) (b := valL 0 c.Values.c0) (by omega), cat_ok (a := kP ++ lineS [c.Paths] ++ valL 0 c.Values.c0) (b := valL 1 c.Values.c1) (by rw [List.length_append]; omega)]
  rw [config_Print_L0]
  simp only [bndD, show decide ((0 : Int) < 2) = true from rfl, show decide ((1 : Int) < 2) = true from rfl, show decide ((2 : Int) < 2) = false from rfl, show IntKind.wrap .i64 ((0 : Int) + 1) = 1 from rfl, show IntKind.wrap .i64 ((1 : Int) + 1) = 2 from rfl, bif_tt, bif_ff, show gix [c.Values.c0, c.Values.c1] 0 = some c.Values.c0 from rfl, show gix [c.Values.c0, c.Values.c1] 1 = some c.Values.c1 from rfl, bnoS, l1, l2,
    cat_ok (a := kP ++ lineS [c.Paths]) (b := valL 0 c.Values.c0) (by omega), cat_ok (a := kP ++ lineS [c.Paths] ++ valL 0 c.Values.c0) (b := valL 1 c.Values.c1) (by rw [List.length_append]; omega)]
  rw [config_Print_L0]
  simp only [bndD, show decide ((0 : Int) < 2) = true from rfl, show decide ((1 : Int) < 2) = true from rfl, show decide ((2 : Int) < 2) = false from rfl, show IntKind.wrap .i64 ((0 : Int) + 1) = 1 from rfl, show IntKind.wrap .i64 ((1 : Int) + 1) = 2 from rfl, bif_tt, bif_ff, show gix [c.Values.c0, c.Values.c1] 0 = some c.Values.c0 from rfl, show gix [c.Values.c0, c.Values.c1] 1 = some c.Values.c1 from rfl, bnoS, l1, l2,
    cat_ok (a := kP ++ lineS [c.Paths]) (b := valL 0 c.Values.c0) (by omega), cat_ok (a := kP ++ lineS [c.Paths] ++ valL 0 c.Values.c0) (b := valL 1 c.Values.c1) (by rw [List.length_append]; omega)]
  rw [hm, config_Print_L1]
  simp only [bndD, show decide ((0 : Int) < 2) = true from rfl, show decide ((1 : Int) < 2) = true from rfl, show decide ((2 : Int) < 2) = false from rfl, show IntKind.wrap .i64 ((0 : Int) + 1) = 1 from rfl, show IntKind.wrap .i64 ((1 : Int) + 1) = 2 from rfl, bif_tt, bif_ff, show gix [c.First.c0, c.First.c1] 0 = some c.First.c0 from rfl, show gix [c.First.c0, c.First.c1] 1 = some c.First.c1 from rfl, bnoS, w64 (show -9223372036854775808 ≤ c.First.c0 by omega) (show c.First.c0 ≤ 9223372036854775807 by omega), w64 (show -9223372036854775808 ≤ c.First.c1 by omega) (show c.First.c1 ≤ 9223372036854775807 by omega), l3, l4,
    cat_ok (a := kP ++ lineS [c.Paths] ++ valL 0 c.Values.c0 ++ valL 1 c.Values.c1) (b := fstL 0 c.First.c0) (by rw [List.length_append, List.length_append]; omega), cat_ok (a := kP ++ lineS [c.Paths] ++ valL 0 c.Values.c0 ++ valL 1 c.Values.c1 ++ fstL 0 c.First.c0) (b := fstL 1 c.First.c1) (by rw [List.length_append, List.length_append, List.length_append]; omega)]
  rw [config_Print_L1]
  simp only [bndD, show decide ((0 : Int) < 2) = true from rfl, show decide ((1 : Int) < 2) = true from rfl, show decide ((2 : Int) < 2) = false from rfl, show IntKind.wrap .i64 ((0 : Int) + 1) = 1 from rfl, show IntKind.wrap .i64 ((1 : Int) + 1) = 2 from rfl, bif_tt, bif_ff, show gix [c.First.c0, c.First.c1] 0 = some c.First.c0 from rfl, show gix [c.First.c0, c.First.c1] 1 = some c.First.c1 from rfl, bnoS, w64 (show -9223372036854775808 ≤ c.First.c0 by omega) (show c.First.c0 ≤ 9223372036854775807 by omega), w64 (show -9223372036854775808 ≤ c.First.c1 by omega) (show c.First.c1 ≤ 9223372036854775807 by omega), l3, l4,
    cat_ok (a := kP ++ lineS [c.Paths] ++ valL 0 c.Values.c0 ++ valL 1 c.Values.c1) (b := fstL 0 c.First.c0) (by rw [List.length_append, List.length_append]; omega), cat_ok (a := kP ++ lineS [c.Paths] ++ valL 0 c.Values.c0 ++ valL 1 c.Values.c1 ++ fstL 0 c.First.c0) (b := fstL 1 c.First.c1) (by rw [List.length_append, List.length_append, List.length_append]; omega)]
  rw [config_Print_L1]
  simp only [bndD, show decide ((0 : Int) < 2) = true from rfl, show decide ((1 : Int) < 2) = true from rfl, show decide ((2 : Int) < 2) = false from rfl, show IntKind.wrap .i64 ((0 : Int) + 1) = 1 from rfl, show IntKind.wrap .i64 ((1 : Int) + 1) = 2 from rfl, bif_tt, bif_ff, show gix [c.First.c0, c.First.c1] 0 = some c.First.c0 from rfl, show gix [c.First.c0, c.First.c1] 1 = some c.First.c1 from rfl, bnoS, w64 (show -9223372036854775808 ≤ c.First.c0 by omega) (show c.First.c0 ≤ 9223372036854775807 by omega), w64 (show -9223372036854775808 ≤ c.First.c1 by omega) (show c.First.c1 ≤ 9223372036854775807 by omega), l3, l4,
    cat_ok (a := kP ++ lineS [c.Paths] ++ valL 0 c.Values.c0 ++ valL 1 c.Values.c1) (b := fstL 0 c.First.c0) (by rw [List.length_append, List.length_append]; omega), cat_ok (a := kP ++ lineS [c.Paths] ++ valL 0 c.Values.c0 ++ valL 1 c.Values.c1 ++ fstL 0 c.First.c0) (b := fstL 1 c.First.c1) (by rw [List.length_append, List.length_append, List.length_append]; omega)]
  rfl
theorem textS_len (c : Cf) : (textS c).length ≤ 410 := by
  have e0 := pathL_len c.Paths
  have e1 := valL_len 0 c.Values.c0
  have e2 := valL_len 1 c.Values.c1
  have e3 := fstL_len 0 c.First.c0
  have e4 := fstL_len 1 c.First.c1
  unfold textS
  rw [List.length_append, List.length_append, List.length_append, List.length_append]; omega
theorem first35 : config_First = some ⟨2, ⟨⟨8, 256, 4096, 32⟩, ⟨8, 256, 4096, 32⟩⟩, ⟨1, 2⟩⟩ := rfl
end Go.Fn
